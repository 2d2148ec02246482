/- WorldMost. -/
import Derived.Test.YtgnjdfnjohgnlaaWld9
import Derived.Test.YtgnjdfnjohgnlaaAdapt
set_option linter.unusedVariables false
set_option linter.unusedSimpArgs false
set_option linter.unusedSectionVars false
set_option maxRecDepth 100000
namespace Go.Proofs.Ytgnjdfnjohgnlaa
open Go Go.RowKit

def news (i : Nat) : List Cn := List.replicate i Cn.new
theorem mDo_news (i : Nat) (h : i < 4096) : mDo false (news i) 1 0 0 [] = (news (i + 1), 0) := by
  have hne : ¬ i = 4096 := by omega
  simp [mDo, news, hne, List.replicate_succ']
theorem mDo_full : mDo false (news 4096) 1 0 0 [] = (news 4096, 65) := by
  simp [mDo, news, -List.reduceReplicate]
theorem mCount_news (i : Nat) : mCount (news i) i = i := by
  unfold mCount news
  rw [List.take_of_length_le (by simp)]
  simp [List.countP_replicate, mWaits, Cn.new]
structure MostW (H : Hp) (w : Nat) (i : Nat) (H' : Hp) : Prop where
  wo : ∃ cs, WO H' (some w) cs (news i) ∧ ∀ c ∈ cs, H.length ≤ c
  len : H.length ≤ H'.length
  keep : ∀ j, j < H.length → H'[j]? = H[j]?
def mostI (H : Hp) (k : Int) (fr : List AV) (H' : Hp) : Prop := ∃ i : Nat, i ≤ 4096 ∧ MostW H H.length i H' ∧ ∃ x : Nat → AV, fr = [.int .i64 k, x 1, x 2, .ptr (some (H.length, 0)), x 4, x 5, x 6, x 7, x 8, .int .i64 i,
  x 10, x 11, x 12, x 13, x 14, x 15, x 16, x 17, x 18, x 19, x 20, x 21, x 22, x 23, x 24, x 25, x 26, x 27, x 28, x 29, x 30, x 31, x 32, x 33]
def mostJ (H : Hp) (m : Nat) (fr : List AV) (H' : Hp) : Prop := ∃ i : Nat, i ≤ m ∧ MostW H H.length 4096 H' ∧ ∃ x : Nat → AV, fr = [x 0, x 1, x 2, .ptr (some (H.length, 0)), x 4, x 5, x 6, x 7, x 8, x 9,
  x 10, x 11, x 12, x 13, x 14, x 15, x 16, x 17, .int .i64 m, .int .i64 i, x 20, x 21, x 22, x 23, x 24, x 25, x 26, x 27, x 28, x 29, x 30, x 31, x 32, x 33]
theorem news_len (i : Nat) : (news i).length = i := by simp [news]
theorem news_ok (i : Nat) (n : Int) (d : Nat) (hd : d ≤ 10) : ∀ (j : Nat) m, n = j → (news i)[j]? = some m → m.del.length + d ≤ 140737488355328 := fun j m _ h => by
  have := List.mem_replicate.1 (mem_at h)
  rw [this.2]; simp [Cn.new]; omega
theorem MostW.next {H H' H'' : Hp} {w i i' : Nat} {cs cs' : List Nat} (hw : w = H.length) (h : MostW H w i H') (hc : ∀ c ∈ cs, H.length ≤ c) (hu : Up H' (some w) cs H'' cs') (hwo : WO H'' (some w) cs' (news i')) : MostW H w i' H'' := by
  refine ⟨⟨cs', hwo, fun c hc' => ?_⟩, Nat.le_trans h.len hu.len, fun j hj => ?_⟩
  · rcases hu.new c hc' with h' | h'
    · exact hc c h'
    · exact Nat.le_trans h.len h'
  · rw [hu.keep j (Nat.lt_of_lt_of_le hj h.len) (by simp; omega) (fun hm => by have := hc j hm; omega)]
    exact h.keep j hj
theorem most_pc (E : Env) (H : Hp) (Q : AV → Hp → Prop) (k : Int) (hQ : Q (.bool true) H) : PC Try.prog E 3 [.int .i64 k] H Q := by
  refine pc_enter Try.func3 rfl [] [] (by kernel_rfl) (fun hB => ?_)
  simp [Try.ntmps3, Try.results3, List.replicate_succ]
  refine awake_pc E H _ ?_
  simp
  refine new_pc E H _ ?_
  simp
  refine VL_go (mostI H k) (fun fr _ => 4096 - (ai (aget fr 9)).toNat) ⟨0, by omega, ⟨⟨[], WO.new H, by simp⟩, by simp, fun j hj => List.getElem?_append_left hj⟩, fr_intro (by simp)⟩ ?_
  rintro fr H' ⟨i, hi, hm, x, rfl⟩
  obtain ⟨cs, hwo, hcs⟩ := hm.wo
  by_cases h : i < 4096
  · have h' : (i : Int) < 4096 := by omega
    simp [h']
    refine do2_pc E _ (some H.length) cs _ _ hwo (by rw [news_len]; omega) 1 0 0 [] (news_ok i 0 0 (by omega)) (fun H2 cs2 hw2 hu2 => ?_)
    have e := mDo_news i h
    change WO _ _ _ (mDo false (news i) 1 0 0 []).1 at hw2
    rw [e] at hw2
    have hw' : IntKind.i64.wrap ((i : Int) + 1) = i + 1 := wrap_in (by omega) (by omega)
    simp [e, hw']
    refine Kloop_normal ?_ ?_
    rotate_left
    · simp; omega
    exact ⟨i + 1, by omega, hm.next rfl hcs hu2 hw2, fr_intro (by simp)⟩
  · have h' : ¬ (i : Int) < 4096 := by omega
    obtain rfl : i = 4096 := by omega
    simp
    refine kind_pc E _ _ k 3 (by omega) ?_
    obtain ⟨m, hm3⟩ : ∃ m : Nat, k % 3 = m := ⟨(k % 3).toNat, by omega⟩
    have hw' : IntKind.i64.wrap ((m : Int) + 1) = (m + 1 : Nat) := by rw [wrap_in (by omega) (by omega)]; rfl
    rw [hm3]
    simp only [Kcall_eq, KP_false, true_and]
    simp [hw', -Int.natCast_add]
    obtain ⟨M, hM⟩ : ∃ M, m + 1 = M := ⟨_, rfl⟩
    rw [hM]
    refine VL_go (mostJ H M) (fun fr _ => M - (ai (aget fr 19)).toNat) ⟨0, by omega, hm, fr_intro (by simp)⟩ ?_
    clear hm hwo hcs
    rintro fr H' ⟨i, hi, hm, x, rfl⟩
    obtain ⟨cs, hwo, hcs⟩ := hm.wo
    by_cases h : i < M
    · simp [h]
      refine do2_pc E _ (some H.length) cs _ _ hwo (by rw [news_len]; omega) 1 0 0 [] (news_ok _ 0 0 (by omega)) (fun H2 cs2 hw2 hu2 => ?_)
      have e := mDo_full
      change WO _ _ _ (mDo false (news 4096) 1 0 0 []).1 at hw2
      rw [e] at hw2
      have hw' : IntKind.i64.wrap ((i : Int) + 1) = i + 1 := wrap_in (by omega) (by omega)
      simp [e, hw']
      refine Kloop_normal ?_ ?_
      rotate_left
      · simp; omega
      exact ⟨i + 1, by omega, hm.next rfl hcs hu2 hw2, fr_intro (by simp)⟩
    · simp [h]
      refine conns_pc E _ (some H.length) cs _ _ hwo (by rw [news_len]; omega) ?_
      simp [news_len]
      refine waiting_pc E _ (some H.length) cs _ _ hwo (by rw [news_len]; omega) ?_
      rw [news_len, mCount_news]
      simp
      exact aPost_law hB hm.len hm.keep rfl (by simp) hQ
theorem most_true (W : World) (k : Int) : Calls Try.prog 3 #[.int .i64 k] W fun e w' => e = .returned (.bool true) ∧ Frm (fun _ => False) W w' :=
  calls_of_pc (args := [.int .i64 k]) (fun _ _ => False) (fun _ _ h => h.elim) rfl (fun t x u hx hu => by
    cases t with
    | zero => simp at hx hu; subst hx; subst hu; exact ⟨.int _ _, .int _ _, rfl⟩
    | succ t => simp at hx) (fun E Q h => most_pc E [] Q k h)
end Go.Proofs.Ytgnjdfnjohgnlaa
