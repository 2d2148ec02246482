/- The laws' own functions: step. -/
import Derived.Test.YtgnjdfnjohgnlaaDoc7
set_option linter.unusedVariables false
set_option linter.unusedSimpArgs false
set_option linter.unusedSectionVars false
set_option maxRecDepth 100000
namespace Go.Proofs.Ytgnjdfnjohgnlaa
open Go Go.RowKit

theorem mDo_len {none : Bool} {ms : List Cn} {k n i : Int} {d : List UInt8} (hl : ms.length ≤ 4096) : (mDo none ms k n i d).1.length ≤ 4096 := by
  unfold mDo
  repeat' split
  all_goals first | exact hl | (simp; omega)
theorem mAccept_len (ms : List Cn) : (mAccept ms).1.length = ms.length := by
  unfold mAccept
  repeat' split
  all_goals simp
theorem mReady_len {ms : List Cn} (hl : ms.length ≤ 4096) : (mReady ms).length ≤ 8192 := by
  have := rdyTo_len ms ms.length
  unfold mReady
  rw [List.length_append]
  split <;> simp <;> omega
theorem WO.lt {H : Hp} {w : Option Nat} {cs : List Nat} {ms : List Cn} (hw : WO H w cs ms) : (∀ c ∈ cs, c < H.length) ∧ ∀ b, w = some b → b < H.length := by
  cases w with
  | none => exact ⟨fun c hc => (by rw [hw.1] at hc; cases hc), fun b hb => by cases hb⟩
  | some b =>
    refine ⟨fun c hc => ?_, fun b' hb => by cases hb; exact at_lt hw.box⟩
    obtain ⟨j, hj⟩ := List.getElem?_of_mem hc
    obtain ⟨m, hm⟩ : ∃ m, ms[j]? = some m := ⟨_, List.getElem?_eq_getElem (by have := (List.getElem?_eq_some_iff.1 hj).1; have := WO.len (w := some b) hw; omega)⟩
    exact at_lt (hw.conn j c m hj hm)
theorem up_local {H L H1 : Hp} {w : Option Nat} {cs cs1 : List Nat} {ms : List Cn} (hw : WO H w cs ms) (hu : Up (H ++ L) w cs H1 cs1) : ∀ i, H.length ≤ i → i < (H ++ L).length → H1[i]? = (H ++ L)[i]? := fun i h1 h2 =>
  hu.keep i h2 (fun h => by have := hw.lt.2 i h; omega) (fun h => by have := hw.lt.1 i h; omega)
theorem up_local3 {H H1 : Hp} {a b c : List AV} {w : Option Nat} {cs cs1 : List Nat} {ms : List Cn} (hw : WO H w cs ms) (hu : Up (H ++ [a, b, c]) w cs H1 cs1) : H1[H.length]? = some a ∧ H1[H.length + 1]? = some b ∧ H1[H.length + 2]? = some c ∧ H.length + 3 ≤ H1.length := by
  have h := up_local hw hu
  have hl := hu.len
  simp at hl
  refine ⟨?_, ?_, ?_, hl⟩
  · rw [h _ (Nat.le_refl _) (by simp), List.getElem?_append_right (Nat.le_refl _)]; simp
  · rw [h _ (by omega) (by simp), List.getElem?_append_right (by omega)]; simp
  · rw [h _ (by omega) (by simp), List.getElem?_append_right (by omega)]; simp
theorem up_local4 {H H1 : Hp} {a b c d : List AV} {w : Option Nat} {cs cs1 : List Nat} {ms : List Cn} (hw : WO H w cs ms) (hu : Up (H ++ [a, b, c, d]) w cs H1 cs1) : H1[H.length + 2]? = some c ∧ H1[H.length + 3]? = some d ∧ H.length + 4 ≤ H1.length := by
  have h := up_local hw hu
  have hl := hu.len
  simp at hl
  refine ⟨?_, ?_, hl⟩
  · rw [h _ (by omega) (by simp), List.getElem?_append_right (by omega)]; simp
  · rw [h _ (by omega) (by simp), List.getElem?_append_right (by omega)]; simp
theorem up_kp {H H1 L : Hp} {w : Option Nat} {cs cs1 : List Nat} {ms : List Cn} {S : Nat → Prop} (hw : WO H w cs ms) (hu : Up (H ++ L) w cs H1 cs1) (hS : S = fun i => H.length ≤ i ∧ i < H.length + 2) : KP 2 S (H ++ L) H1 := by
  subst hS
  exact ⟨hu.len, fun i hi hl => up_local hw hu i hi.1 hl⟩
/-- Where a call ends that has changed the world. -/
theorem step_end {P : Program} {rs : List ResultVar} {Q : AV → Hp → Prop} {fr : List AV} {H H1 L : Hp} {v0 : AV} {w : Option Nat} {cs cs1 : List Nat} {ms ms1 : List Cn} {row : List AV} {k : Nat} (hw : WO H w cs ms) (hw1 : WO H1 w cs1 ms1) (hu : Up (H ++ L) w cs H1 cs1) (hB1 : BndH H1.length H1)
    (hk1 : H.length ≤ k) (hk2 : k < (H ++ L).length) (hrow : ∀ x ∈ row, Bnd H1.length x) (h1 : ares P fr (H1.set k row) rs = some v0) (h5 : Bnd H1.length v0)
    (hQ : WO (H1.set k row) w cs1 ms1 → Up H w cs (H1.set k row) cs1 → BndH (H1.set k row).length (H1.set k row) → Q v0 (H1.set k row)) : aPost P rs H.length Q .ret fr (H1.set k row) := by
  have hcs1 : ∀ c ∈ cs1, c ≠ k := fun c hc => by
    rcases hu.new c hc with h | h
    · have := hw.lt.1 c h; omega
    · omega
  have hwk : w ≠ some k := fun h => by have := hw.lt.2 k h; omega
  have hB2 : BndH (H1.set k row).length (H1.set k row) := bndH_set hB1 k hrow
  have hl := hu.len
  have hl2 : H.length ≤ (H1.set k row).length := by simp at hl ⊢; omega
  refine ⟨v0, v0, H1.set k row, H1.set k row, [], h1, nilV_refl _, nilH_refl _, (List.append_nil _).symm, hl2, hB2, by simpa using h5, hQ ?_ ?_ hB2⟩
  · cases w with
    | none => exact hw1
    | some b => exact ⟨by rw [List.getElem?_set_ne (fun e => hwk (by rw [e]))]; exact hw1.box, hw1.len, fun i c m hc hm => by rw [List.getElem?_set_ne (fun e => hcs1 c (mem_at hc) e.symm)]; exact hw1.conn i c m hc hm, hw1.nd⟩
  · refine ⟨hl2, fun j hj hjw hjc => ?_, fun c hc => ?_⟩
    · rw [List.getElem?_set_ne (by omega), hu.keep j (by simp; omega) hjw hjc, List.getElem?_append_left hj]
    · rcases hu.new c hc with h | h
      · exact .inl h
      · right; simp at h; omega
section
variable (E : Env) (H : Hp) (w : Option Nat) (cs : List Nat) (ms : List Cn) (Q : AV → Hp → Prop) (hw : WO H w cs ms) (hl : ms.length ≤ 4096)
include hw hl
set_option maxHeartbeats 8000000 in
theorem step_pc (o : OpA) (B : Nat) (hg : goods B ms) (hsz : B + o.ed.length + o.s.length ≤ 140737488355328)
    (hQ : ∀ H' cs' ms', WO H' w cs' ms' → Up H w cs H' cs' → goods (B + (o.ed.length + o.s.length)) ms' → ms'.length ≤ 4096 → BndH H'.length H' → Q (.tup [dW w.isNone ms', .bool true]) H') :
    PC Try.prog E 24 [wpt w, dW w.isNone ms, .agg o.av] H Q := by
  refine pc_enterL (fun i => H.length ≤ i ∧ i < H.length + 2) Try.func24 rfl [] [(4, [2, 0, 0, 2]), (5, [2, 0, 0, 0, 2]), (8, [2, 0, 2]), (14, [2, 0, 2, 2, 2, 2]), (17, [2, 0, 0, 0, 0, 0, 0, 0, 2]), (28, [2, 0, 0, 0, 2]), (30, [2, 0, 2, 0, 2, 0, 0, 2]), (31, [2, 0, 0, 0, 2])] (by kernel_rfl) (fun E' hE hB => ?_)
  have hnone : w.isNone = true → ms = [] := fun h => by cases w with | none => exact hw.2 | some w => cases h
  obtain ⟨nb, hnb⟩ : ∃ nb, w.isNone = nb := ⟨_, rfl⟩
  rw [hnb] at hnone hQ ⊢
  obtain ⟨kk, hkk⟩ : ∃ m : Nat, o.kind % 11 = m := ⟨(o.kind % 11).toNat, by omega⟩
  have hkl : kk < 11 := by omega
  have same : Q (.tup [dW nb ms, .bool true]) H := hQ H cs ms hw (Up.refl _ _ _) (hg.mono (Nat.le_add_right _ _)) hl hB
  simp [Try.ntmps24, Try.results24, List.replicate_succ, dW, OpA.av]
  refine kind_pc E' _ _ o.kind 11 (by omega) ?_
  rw [hkk]
  simp only [Kcall_eq, KP_false, true_and]
  by_cases k0 : kk = 0
  · subst k0
    simp [hE]
    refine event_pc E' _ _ _ _ _ _ ?_
    simp [evA]
    refine ddo_pc E' _ nb ms _ hl hnone _ _ _ _ (fun j m _ h => by have := (hg.at h).2.2.2.1; omega) ?_
    simp [dW, hE]
    refine PC.bnd ?_
    refine do2_pc E' _ w cs ms _ (hw.app2 _) hl o.ek o.ec o.en o.ed (fun j m _ h => by have := (hg.at h).2.2.2.1; omega) (fun H1 cs1 hw1 hu1 hB1 _ => ?_)
    obtain ⟨l4, l5, l6, l7⟩ := up_local3 hw hu1
    refine ⟨up_kp hw hu1 hE, ?_⟩
    simp [hnb, l6]
    rw [hnb] at hw1
    exact step_end hw hw1 hu1 hB1 (by omega) (by simp) (by simp) (v0 := .tup [dW nb (mDo nb ms o.ek o.ec o.en o.ed).1, .bool true]) (by simp [hs4 (by omega : H.length + 2 < H1.length), dW]) (by simp) (fun q1 q2 q3 => hQ _ _ _ q1 q2 ((mDo_good hg).mono (by omega)) (mDo_len hl) q3)
  by_cases k1 : kk = 1
  · subst k1
    simp [hE]
    refine dwaiting_pc E' _ nb ms _ hl ?_
    simp [hE]
    refine waiting_pc E' _ w cs ms _ (hw.app2 _) hl ?_
    simp [hE]
    exact aPost_same hB (by simp [dW]) (nilV_refl _) (by simp) same
  by_cases k2 : kk = 2
  · subst k2
    simp [hE]
    refine daccept_pc E' _ nb ms _ hl ?_
    simp [dW, hE]
    refine PC.bnd ?_
    refine accept2_pc E' _ w cs ms _ (hw.app2 _) hl (fun H1 cs1 hw1 hu1 hB1 _ => ?_)
    obtain ⟨l4, l5, l6, l7⟩ := up_local3 hw hu1
    simp [l4, l6]
    exact step_end hw hw1 hu1 hB1 (by omega) (by simp) (by simp) (v0 := .tup [dW nb (mAccept ms).1, .bool true]) (by simp [hs4 (by omega : H.length + 2 < H1.length), dW]) (by simp) (fun q1 q2 q3 => hQ _ _ _ q1 q2 ((mAccept_good hg).mono (by omega)) (by rw [mAccept_len]; exact hl) q3)
  by_cases k3 : kk = 3
  · subst k3
    simp [hE]
    refine ready_pc E' _ w cs ms _ (hw.app2 _) hl ?_
    simp [hE]
    refine dpoll_pc E' _ nb ms _ hl ?_
    simp [hE]
    refine sameReady_pc E' _ _ (mReady ms) (mReady_row5 ms) (mReady_len hl) ?_
    simp [hE]
    exact aPost_same hB (by simp [dW]) (nilV_refl _) (by simp) same
  by_cases k4 : kk = 4
  · subst k4
    simp [hE]
    refine dinterest_pc E' _ nb ms _ hl hnone _ _ _ ?_
    simp [dW, hE]
    refine PC.bnd ?_
    refine interest2_pc E' _ w cs ms _ (hw.app2 _) hl _ _ _ (fun H1 cs1 hw1 hu1 hB1 _ => ?_)
    obtain ⟨l4, l5, l6, l7⟩ := up_local3 hw hu1
    refine ⟨up_kp hw hu1 hE, ?_⟩
    simp [l6]
    exact step_end hw hw1 hu1 hB1 (by omega) (by simp) (by simp) (v0 := .tup [dW nb (mInterest ms o.conn o.r o.w).1, .bool true]) (by simp [hs4 (by omega : H.length + 2 < H1.length), dW]) (by simp) (fun q1 q2 q3 => hQ _ _ _ q1 q2 ((mInterest_good hg).mono (by omega)) (by rw [(mInterest_only _ _ _ _).1]; exact hl) q3)
  by_cases k5 : kk = 5
  · subst k5
    simp [hE]
    refine dread_pc E' _ nb ms _ hl hnone _ _ (fun j m _ h => (hg.at h).ok (by omega)) ?_
    simp [dW, hE]
    refine PC.bnd ?_
    refine read2_pc E' _ w cs ms _ (hw.app2 _) hl _ _ (fun j m _ h => (hg.at h).ok (by omega)) (fun H1 cs1 hw1 hu1 hB1 _ => ?_)
    obtain ⟨l6, l12, l7⟩ := up_local4 hw hu1
    simp [l6, l12]
    exact step_end hw hw1 hu1 hB1 (by omega) (by simp) (by simp) (v0 := .tup [dW nb (mRead ms o.conn o.n).1, .bool true]) (by simp [hs4 (by omega : H.length + 2 < H1.length), dW]) (by simp) (fun q1 q2 q3 => hQ _ _ _ q1 q2 ((mRead_good hg).mono (by omega)) (by rw [(mRead_only _ _ _).1]; exact hl) q3)
  by_cases k6 : kk = 6
  · subst k6
    simp [hE]
    refine dwrite_pc E' _ nb ms _ hl hnone _ _ (fun j m _ h => by have := (hg.at h).2.2.2.2; omega) (fun j m _ h => (hg.at h).ok (by omega)) ?_
    simp [dW, hE]
    refine PC.bnd ?_
    refine write2_pc E' _ w cs ms _ (hw.app2 _) hl _ _ (fun j m _ h => by have := (hg.at h).2.2.2.2; omega) (fun j m _ h => (hg.at h).ok (by omega)) (fun H1 cs1 hw1 hu1 hB1 _ => ?_)
    obtain ⟨l4, l5, l6, l7⟩ := up_local3 hw hu1
    simp [l4, l6]
    exact step_end hw hw1 hu1 hB1 (by omega) (by simp) (by simp) (v0 := .tup [dW nb (mWrite ms o.conn o.s).1, .bool true]) (by simp [hs4 (by omega : H.length + 2 < H1.length), dW]) (by simp) (fun q1 q2 q3 => hQ _ _ _ q1 q2 ((mWrite_good hg).mono (by omega)) (by rw [(mWrite_only _ _ _).1]; exact hl) q3)
  by_cases k7 : kk = 7
  · subst k7
    simp [hE]
    refine dclose_pc E' _ nb ms _ hl hnone _ ?_
    simp [dW, hE]
    refine PC.bnd ?_
    refine close2_pc E' _ w cs ms _ (hw.app2 _) hl _ (fun H1 cs1 hw1 hu1 hB1 _ => ?_)
    obtain ⟨l4, l5, l6, l7⟩ := up_local3 hw hu1
    refine ⟨up_kp hw hu1 hE, ?_⟩
    simp [l6]
    exact step_end hw hw1 hu1 hB1 (by omega) (by simp) (by simp) (v0 := .tup [dW nb (mClose ms o.conn).1, .bool true]) (by simp [hs4 (by omega : H.length + 2 < H1.length), dW]) (by simp) (fun q1 q2 q3 => hQ _ _ _ q1 q2 ((mClose_good hg).mono (by omega)) (by rw [(mClose_only _ _).1]; exact hl) q3)
  by_cases k8 : kk = 8
  · subst k8
    simp [hE]
    refine conns_pc E' _ w cs ms _ (hw.app2 _) hl ?_
    simp [hE]
    exact aPost_same hB (by simp [dW]) (nilV_refl _) (by simp) same
  · have z0 : ((kk : Int) == 0) = false := by simp [k0]
    have z1 : ((kk : Int) == 1) = false := by simp; omega
    have z2 : ((kk : Int) == 2) = false := by simp; omega
    have z3 : ((kk : Int) == 3) = false := by simp; omega
    have z4 : ((kk : Int) == 4) = false := by simp; omega
    have z5 : ((kk : Int) == 5) = false := by simp; omega
    have z6 : ((kk : Int) == 6) = false := by simp; omega
    have z7 : ((kk : Int) == 7) = false := by simp; omega
    have z8 : ((kk : Int) == 8) = false := by simp; omega
    simp [z0, z1, z2, z3, z4, z5, z6, z7, z8, hE]
    rw [← hnb]
    refine looked_pc E' _ w cs ms _ (hw.app2 _) hl o ?_
    simp [hE, hnb]
    exact aPost_same hB (by simp [dW]) (nilV_refl _) (by simp) same
end
end Go.Proofs.Ytgnjdfnjohgnlaa
