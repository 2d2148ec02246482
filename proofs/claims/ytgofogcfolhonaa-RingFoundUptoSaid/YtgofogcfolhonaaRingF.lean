/- The law's made and awake in the abstract machine. -/
import Derived.Test.YtgofogcfolhonaaRingE
set_option linter.unusedVariables false
set_option linter.unusedSimpArgs false
set_option linter.unusedSectionVars false
set_option maxRecDepth 100000
namespace Go.Proofs.Ytgofogcfolhonaa
open Go Go.RowKit

section
variable {H : Hp} {c : Nat} (h : c < H.length)
include h
theorem hs0 (J : Hp) : (H ++ J)[c]? = H[c]? := List.getElem?_append_left h
theorem hs1 (x : List AV) (J : Hp) : (H.set c x ++ J)[c]? = some x := by rw [List.getElem?_append_left (by simpa using h), List.getElem?_set_self h]
theorem hs2 (x y : List AV) (J : Hp) : (H.set c x ++ J).set c y = H.set c y ++ J := by rw [List.set_append_left _ _ (by simpa using h), List.set_set]
theorem hs3 (y : List AV) (J : Hp) : (H ++ J).set c y = H.set c y ++ J := List.set_append_left _ _ h
theorem hs4 (x : List AV) : (H.set c x)[c]? = some x := List.getElem?_set_self h
theorem hs5 (x y : List AV) : (H.set c x).set c y = H.set c y := List.set_set ..
end
theorem up_drop {H H' : Hp} (hl : H.length ≤ H'.length) (hk : ∀ j, j < H.length → H'[j]? = H[j]?) : H' = H ++ H'.drop H.length := by
  have : H'.take H.length = H := by
    apply List.ext_getElem?
    intro j
    by_cases hj : j < H.length
    · rw [List.getElem?_take_of_lt hj, hk j hj]
    · rw [List.getElem?_eq_none (by rw [List.length_take]; omega), List.getElem?_eq_none (by omega)]
  conv => lhs; rw [← List.take_append_drop H.length H', this]
/-- Where a law ends: what it has made is dropped. -/
theorem aPost_law {P : Program} {rs : List ResultVar} {Q : AV → Hp → Prop} {fr : List AV} {H H' : Hp} {v0 : AV} (hB : BndH H.length H) (hl : H.length ≤ H'.length) (hk : ∀ j, j < H.length → H'[j]? = H[j]?) (h1 : ares P fr H' rs = some v0) (h5 : Bnd H.length v0) (h6 : Q v0 H) :
    aPost P rs H.length Q .ret fr H' := by
  have e := up_drop hl hk
  rw [e] at h1 ⊢
  exact aPost_same hB h1 (nilV_refl _) h5 h6
/-- Where a function ends that has made boxes and answers them. -/
theorem aPost_up {P : Program} {rs : List ResultVar} {n : Nat} {Q : AV → Hp → Prop} {fr : List AV} {H' : Hp} {v : AV} (h1 : ares P fr H' rs = some v) (h3 : n ≤ H'.length) (h4 : BndH H'.length H') (h5 : Bnd H'.length v) (h6 : Q v H') :
    aPost P rs n Q .ret fr H' := ⟨v, v, H', H', [], h1, nilV_refl _, nilH_refl _, (List.append_nil H').symm, h3, h4, h5, h6⟩
theorem bndH_app' {N : Nat} {H J : Hp} (h : BndH N H) (h2 : ∀ l ∈ J, ∀ x ∈ l, Bnd N x) : BndH N (H ++ J) := fun l hl x hx => by
  rcases List.mem_append.1 hl with h' | h'
  · exact h l h' x hx
  · exact h2 l h' x hx
theorem bndH_set' {N : Nat} {H : Hp} (h : BndH N H) {c : Nat} {l : List AV} (hl : ∀ x ∈ l, Bnd N x) : BndH N (H.set c l) := fun m hm x hx => by
  rcases List.mem_or_eq_of_mem_set hm with h' | rfl
  · exact h m h' x hx
  · exact hl x hx
theorem lmade_pc (E : Env) (H : Hp) (Q : AV → Hp → Prop) (c : Int) (hQ1 : ∀ n : Nat, c = n → 1 ≤ n → n ≤ 1048576 → ∀ b H', RO H' b n 0 [] → H.length ≤ b → H.length ≤ H'.length → (∀ j, j < H.length → H'[j]? = H[j]?) → BndH H'.length H' → Q (.tup [.ptr (some (b, 0)), .agg [.int .i64 n, .nil, .int .i64 0], .bool true]) H')
    (hQ2 : c < 1 ∨ 1048576 < c → Q (.tup [.ptr none, .agg [.int .i64 0, .nil, .int .i64 0], .bool true]) H) : PC Try.prog E 37 [.int .i64 c] H Q := by
  refine pc_enter Try.func37 rfl [] [] (by kernel_rfl) (fun hB => ?_)
  simp [Try.ntmps37, Try.results37, List.replicate_succ]
  refine PC.bnd (rnew_pc E _ _ c (fun n hc hn1 hn2 H2 hr hl hk hbn _ => ?_) (fun hbad _ _ => ?_))
  · subst hc
    have ht3 : H2[H.length]? = some [.int .i64 0, .nil, .int .i64 0] := by rw [hk _ (by simp)]; simp
    have hlt : H.length < H2.length := by rw [hl]; simp; omega
    simp
    refine dnew_pc E _ _ n (fun _ _ => ?_) (fun h => absurd h (by omega))
    simp [ht3, hs0 hlt, hs3 hlt]
    have hb2 : BndH (H2.length + 1) (H2.set H.length [.int .i64 (n : Int), .nil, .int .i64 0] ++ [[.int .i64 (n : Int), .nil, .int .i64 0]]) := bndH_app' (bndH_set' (fun l hl x hx => (hbn l hl x hx).mono (by omega)) (by simp)) (by simp)
    refine aPost_up (v := .tup [.ptr (some (H.length + 1, 0)), .agg [.int .i64 n, .nil, .int .i64 0], .bool true]) (by simp [hs1 hlt]) (by simp; omega) (by simpa using hb2) (by simp; omega) (hQ1 n rfl hn1 hn2 (H.length + 1) _ ?_ (by omega) (by simp; omega) (fun j hj => ?_) (by simpa using hb2))
    · have hr' : RO H2 (H.length + 1) n 0 [] := by simpa using hr
      have hlr := hr'.lt
      exact (hr'.of_eq (H' := H2.set H.length [.int .i64 (n : Int), .nil, .int .i64 0]) (by rw [List.getElem?_set_ne (by omega)])).app _
    · rw [List.getElem?_append_left (by simp; omega), List.getElem?_set_ne (by omega), hk j (by simp; omega), List.getElem?_append_left hj]
  · simp
    refine dnew_pc E _ _ c (fun _ _ => absurd hbad (by omega)) (fun _ => ?_)
    simp
    exact aPost_same hB (by simp) (nilV_refl _) (by simp) (hQ2 hbad)
theorem lawake_pc (E : Env) (H : Hp) (Q : AV → Hp → Prop) (hQ : Q (.bool true) H) : PC Try.prog E 36 [] H Q := by
  refine pc_of_calls (v := .bool true) (by kernel_rfl) (fun _ => True) (fun _ _ => trivial) (fun w β Rd cargs _ hsz _ => ?_) (.bool _) rfl hQ
  have : cargs = #[] := Array.size_eq_zero_iff.1 hsz
  subst this
  refine (lawake_ok w).mono ?_
  rintro e w' ⟨rfl, hF⟩
  exact ⟨_, rfl, hF, .bool _⟩
end Go.Proofs.Ytgofogcfolhonaa
