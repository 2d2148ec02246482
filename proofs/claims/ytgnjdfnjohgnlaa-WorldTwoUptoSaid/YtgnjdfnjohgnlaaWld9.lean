/- World: kind, awake, WorldMost. -/
import Derived.Test.YtgnjdfnjohgnlaaWld8
set_option linter.unusedVariables false
set_option linter.unusedSimpArgs false
set_option linter.unusedSectionVars false
set_option maxRecDepth 100000
namespace Go.Proofs.Ytgnjdfnjohgnlaa
open Go Go.RowKit

theorem up_drop {H H' : Hp} (h : H.length ≤ H'.length) (k : ∀ j, j < H.length → H'[j]? = H[j]?) : H' = H ++ H'.drop H.length := by
  refine List.ext_getElem? fun j => ?_
  by_cases hj : j < H.length
  · rw [List.getElem?_append_left hj, k j hj]
  · rw [List.getElem?_append_right (by omega), List.getElem?_drop]; congr 1; omega
theorem WO.new (H : Hp) : WO (H ++ [[.sl true 1 []]]) (some H.length) [] [] := ⟨by simp [ptrs], rfl, fun i c m h => by simp at h, by simp⟩
/-- Where a law ends: what it has made is dropped. -/
theorem aPost_law {P : Program} {rs : List ResultVar} {Q : AV → Hp → Prop} {fr : List AV} {H H' : Hp} {v0 : AV} (hB : BndH H.length H) (hl : H.length ≤ H'.length) (hk : ∀ j, j < H.length → H'[j]? = H[j]?) (h1 : ares P fr H' rs = some v0) (h5 : Bnd H.length v0) (h6 : Q v0 H) :
    aPost P rs H.length Q .ret fr H' := by
  have e := up_drop hl hk
  rw [e] at h1 ⊢
  exact aPost_same hB h1 (nilV_refl _) h5 h6

theorem kind_pc (E : Env) (H : Hp) (Q : AV → Hp → Prop) (k n : Int) (hn : 0 < n ∧ n ≤ 4611686018427387904) (hQ : Q (.int .i64 (k % n)) H) : PC Try.prog E 12 [.int .i64 k, .int .i64 n] H Q := by
  refine pc_enter Try.func12 rfl [] [] (by kernel_rfl) (fun hB => ?_)
  have hne : ¬ n = 0 := by omega
  have h1 : -n < k.tmod n ∧ k.tmod n < n := ⟨by have := Int.lt_tmod_of_pos k hn.1; omega, Int.tmod_lt_of_pos k hn.1⟩
  have hw1 : IntKind.i64.wrap (k.tmod n) = k.tmod n := wrap_in (by omega) (by omega)
  have hw2 : IntKind.i64.wrap (k.tmod n + n) = k.tmod n + n := wrap_in (by omega) (by omega)
  have e : (k.tmod n + n).tmod n = k % n := by
    rw [Int.tmod_eq_emod_of_nonneg (by omega), Int.add_emod_right]
    have hd : k = n * (k.tdiv n) + k.tmod n := (Int.mul_tdiv_add_tmod k n).symm
    conv => rhs; rw [hd]
    rw [Int.mul_add_emod_self_left]
  have h2 : 0 ≤ k % n ∧ k % n < n := ⟨Int.emod_nonneg _ hne, Int.emod_lt_of_pos _ hn.1⟩
  have hw3 : IntKind.i64.wrap (k % n) = k % n := wrap_in (by omega) (by omega)
  simp [Try.ntmps12, Try.results12, List.replicate_succ, hne, hw1, hw2, e, hw3]
  exact aPost_same0 hB rfl (nilV_refl _) (by simp) hQ

theorem awake_pc (E : Env) (H : Hp) (Q : AV → Hp → Prop) (hQ : Q (.bool true) H) : PC Try.prog E 9 [] H Q := by
  refine pc_enter Try.func9 rfl [] [] (by kernel_rfl) (fun hB => ?_)
  simp [Try.ntmps9, Try.results9, List.replicate_succ]
  refine new_pc E H _ ?_
  simp
  refine do2_pc E _ (some H.length) [] [] _ (WO.new H) (by simp) 1 0 0 [] (fun j m _ h => by simp at h) (fun H1 cs1 hw1 hu1 => ?_)
  have e1 : mDo false [] 1 0 0 [] = ([Cn.new], 0) := rfl
  change WO _ _ _ (Prod.fst (mDo false [] 1 0 0 [])) at hw1
  rw [e1] at hw1
  simp [e1]
  refine do2_pc E _ (some H.length) cs1 [Cn.new] _ hw1 (by simp) 2 0 0 [97] (fun j m _ h => by cases j <;> simp at h; subst h; simp [Cn.new]) (fun H2 cs2 hw2 hu2 => ?_)
  have e2 : mDo false [Cn.new] 2 0 0 [97] = ([{ Cn.new with del := [97] }], 0) := rfl
  change WO _ _ _ (Prod.fst (mDo false [Cn.new] 2 0 0 [97])) at hw2
  rw [e2] at hw2
  simp [e2]
  refine accept2_pc E _ (some H.length) cs2 _ _ hw2 (by simp) (fun H3 cs3 hw3 hu3 => ?_)
  have e3 : mAccept [{ Cn.new with del := [97] }] = ([{ Cn.new with del := [97], acc := true }], 0, 0) := rfl
  change WO _ _ _ (Prod.fst (mAccept [{ Cn.new with del := [97] }])) at hw3
  rw [e3] at hw3
  simp [e3]
  refine read2_pc E _ (some H.length) cs3 _ _ hw3 (by simp) 0 1 (fun j m _ h => by cases j <;> simp at h; subst h; simp [Cn.ok, Cn.new]) (fun H4 cs4 hw4 hu4 => ?_)
  have e4 : mRead [{ Cn.new with del := [97], acc := true }] 0 1 = ([{ Cn.new with del := [97], acc := true }], [], false, 244) := rfl
  change WO _ _ _ (Prod.fst (mRead [{ Cn.new with del := [97], acc := true }] 0 1)) at hw4
  rw [e4] at hw4
  simp [e4]
  refine do2_pc E _ (some H.length) cs4 _ _ hw4 (by simp) 5 0 5 [] (fun j m _ h => by cases j <;> simp at h; subst h; simp [Cn.new]) (fun H5 cs5 hw5 hu5 => ?_)
  have e5 : mDo false [{ Cn.new with del := [97], acc := true }] 5 0 5 [] = ([{ Cn.new with del := [97], acc := true, rg := 5 }], 0) := rfl
  change WO _ _ _ (Prod.fst (mDo false [{ Cn.new with del := [97], acc := true }] 5 0 5 [])) at hw5
  rw [e5] at hw5
  simp [e5]
  refine read2_pc E _ (some H.length) cs5 _ _ hw5 (by simp) 0 9 (fun j m _ h => by cases j <;> simp at h; subst h; simp [Cn.ok, Cn.new]) (fun H6 cs6 hw6 hu6 => ?_)
  have e6 : mRead [{ Cn.new with del := [97], acc := true, rg := 5 }] 0 9 = ([{ Cn.new with del := [97], acc := true, rd := 1 }], [97], false, 0) := rfl
  change WO _ _ _ (Prod.fst (mRead [{ Cn.new with del := [97], acc := true, rg := 5 }] 0 9)) at hw6
  rw [e6] at hw6
  simp [e6]
  have hu := ((((hu1.trans hu2).trans hu3).trans hu4).trans hu5).trans hu6
  have hlen := hu.len
  refine aPost_law hB (by simp at hlen; omega) (fun j hj => ?_) rfl (by simp) hQ
  rw [hu.keep j (by simp; omega) (by simp; omega) (by simp), List.getElem?_append_left hj]
end Go.Proofs.Ytgnjdfnjohgnlaa
