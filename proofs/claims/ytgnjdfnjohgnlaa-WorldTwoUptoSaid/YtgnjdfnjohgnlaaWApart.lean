/- WorldApart. -/
import Derived.Test.YtgnjdfnjohgnlaaWld10
import Derived.Test.YtgnjdfnjohgnlaaOpen
set_option linter.unusedVariables false
set_option linter.unusedSimpArgs false
set_option linter.unusedSectionVars false
set_option maxRecDepth 100000
namespace Go.Proofs.Ytgnjdfnjohgnlaa
open Go Go.RowKit

def accs (i : Nat) : List Cn := List.replicate i { Cn.new with acc := true }
@[simp] theorem accs_len (i : Nat) : (accs i).length = i := by simp [accs]
theorem ap_do (i : Nat) (h : i < 3) : mDo false (accs i) 1 0 0 [] = (accs i ++ [Cn.new], 0) := by
  have : ¬ i = 4096 := by omega
  simp [mDo, accs, this]
theorem ap_acc (i : Nat) : mAccept (accs i ++ [Cn.new]) = (accs (i + 1), (i : Int), 0) := by
  have h1 : (accs i ++ [Cn.new]).findIdx? mWaits = some i := by
    rw [List.findIdx?_append]
    have : (accs i).findIdx? mWaits = none := by
      rw [List.findIdx?_eq_none_iff]
      intro m hm
      rw [(List.mem_replicate.1 hm).2]; rfl
    rw [this]
    simp [mWaits, Cn.new]
  have h2 : (accs i ++ [Cn.new])[i]? = some Cn.new := by rw [List.getElem?_append_right (by simp)]; simp
  unfold mAccept
  rw [h1]
  simp only [h2]
  have h3 : (accs i ++ [Cn.new]).set i { Cn.new with acc := true } = accs (i + 1) := by
    rw [List.set_append_right _ _ (by simp)]
    simp [accs, List.replicate_succ']
  rw [h3]
/-- The own one. -/
def ownM : Cn := { Cn.new with acc := true, del := [111, 119, 110], ri := true }
theorem WO.app2 {H : Hp} {w : Option Nat} {cs : List Nat} {ms : List Cn} (hw : WO H w cs ms) (J : Hp) : WO (H ++ J) w cs ms := by
  cases w with
  | none => exact hw
  | some w => exact ⟨by rw [hs0 (at_lt hw.box)]; exact hw.box, hw.len, fun i c m hc hm => by rw [hs0 (at_lt (hw.conn i c m hc hm))]; exact hw.conn i c m hc hm, hw.nd⟩
theorem ha0 (H : Hp) (a : List AV) : (H ++ [a])[H.length]? = some a := by simp
theorem ha1 (H : Hp) (a b : List AV) : (H ++ [a]).set H.length b = H ++ [b] := by simp
@[simp] theorem line_len (m : Cn) : m.line.length = 11 := rfl
structure ApI (H H' : Hp) (cs : List Nat) (ms : List Cn) : Prop where
  wo : WO H' (some H.length) cs ms
  cs : ∀ c ∈ cs, H.length ≤ c
  len : H.length ≤ H'.length
  keep : ∀ j, j < H.length → H'[j]? = H[j]?
theorem ApI.next {H H' H2 : Hp} {cs cs2 : List Nat} {ms ms2 : List Cn} (h : ApI H H' cs ms) (hu : Up H' (some H.length) cs H2 cs2) (hw : WO H2 (some H.length) cs2 ms2) : ApI H H2 cs2 ms2 := by
  refine ⟨hw, fun c hc' => ?_, Nat.le_trans h.len hu.len, fun j hj => ?_⟩
  · rcases hu.new c hc' with h' | h'
    · exact h.cs c h'
    · exact Nat.le_trans h.len h'
  · rw [hu.keep j (Nat.lt_of_lt_of_le hj h.len) (by simp; omega) (fun hm => by have := h.cs j hm; omega)]
    exact h.keep j hj
theorem ApI.app {H H' : Hp} {cs : List Nat} {ms : List Cn} (h : ApI H H' cs ms) (J : Hp) : ApI H (H' ++ J) cs ms :=
  ⟨h.wo.app2 J, h.cs, by simp; have := h.len; omega, fun j hj => by rw [List.getElem?_append_left (Nat.lt_of_lt_of_le hj h.len)]; exact h.keep j hj⟩
def apJ (H : Hp) (sc : List OpA) (k : Int) (fr : List AV) (H' : Hp) : Prop := ∃ i : Nat, i ≤ 3 ∧ ∃ cs, ApI H H' cs (accs i) ∧
  ∃ x : Nat → AV, fr = [.sl false 10 (ops sc), .int .i64 k, x 2, x 3, x 4, .ptr (some (H.length, 0)), x 6, x 7, x 8, x 9, x 10, x 11, x 12, x 13, x 14, x 15, x 16, x 17, x 18, x 19, .int .i64 i, x 21, x 22, x 23, x 24, x 25, x 26, x 27, x 28, x 29, x 30, x 31, x 32, x 33, x 34, x 35, x 36, x 37, x 38, x 39, x 40, x 41, x 42, x 43, x 44, x 45, x 46, x 47, x 48, x 49, x 50, x 51, x 52, x 53, x 54, x 55, x 56, x 57, x 58, x 59, x 60, x 61, x 62, x 63, x 64, x 65, x 66, x 67, x 68, x 69, x 70, x 71, x 72, x 73, x 74, x 75, x 76, x 77, x 78, x 79, x 80, x 81, x 82, x 83, x 84, x 85, x 86, x 87, x 88, x 89, x 90, x 91, x 92, x 93, x 94, x 95, x 96, x 97, x 98, x 99, x 100, x 101, x 102, x 103, x 104, x 105, x 106, x 107, x 108, x 109, x 110, x 111, x 112, x 113, x 114, x 115, x 116, x 117, x 118, x 119, x 120, x 121, x 122, x 123, x 124, x 125, x 126, x 127, x 128, x 129, x 130, x 131, x 132, x 133, x 134, x 135, x 136, x 137, x 138, x 139, x 140, x 141, x 142, x 143, x 144, x 145, x 146]
def apI (H : Hp) (sc : List OpA) (own b : Nat) (fr : List AV) (H' : Hp) : Prop := ∃ i : Nat, i ≤ sc.length ∧ ∃ cs ms, ApI H H' cs ms ∧ ms.length = 3 ∧ ms[own]? = some ownM ∧ goods (3 + opw (sc.take i)) ms ∧ H'[b]? = some ownM.line ∧ b ∉ cs ∧ H.length < b ∧
  ∃ x : Nat → AV, fr = [.sl false 10 (ops sc), x 1, x 2, x 3, x 4, .ptr (some (H.length, 0)), x 6, x 7, .int .i64 own, .ptr (some (b, 0)), x 10, x 11, x 12, x 13, x 14, x 15, x 16, x 17, x 18, x 19, x 20, x 21, x 22, x 23, x 24, x 25, x 26, x 27, x 28, x 29, x 30, x 31, x 32, x 33, x 34, x 35, x 36, x 37, x 38, x 39, x 40, x 41, x 42, x 43, x 44, x 45, x 46, x 47, x 48, x 49, x 50, x 51, x 52, x 53, x 54, .sl false 10 (ops sc), .int .i64 sc.length, .int .i64 i, x 58, x 59, x 60, x 61, x 62, x 63, x 64, x 65, x 66, x 67, x 68, x 69, x 70, x 71, x 72, x 73, x 74, x 75, x 76, x 77, x 78, x 79, x 80, x 81, x 82, x 83, x 84, x 85, x 86, x 87, x 88, x 89, x 90, x 91, x 92, x 93, x 94, x 95, x 96, x 97, x 98, x 99, x 100, x 101, x 102, x 103, x 104, x 105, x 106, x 107, x 108, x 109, x 110, x 111, x 112, x 113, x 114, x 115, x 116, x 117, x 118, x 119, x 120, x 121, x 122, x 123, x 124, x 125, x 126, x 127, x 128, x 129, x 130, x 131, x 132, x 133, x 134, x 135, x 136, x 137, x 138, x 139, x 140, x 141, x 142, x 143, x 144, x 145, x 146]
/-- What is behind a call about another one. -/
theorem ap_next {sc : List OpA} {i own : Nat} {o : OpA} {n : Int} {ms ms2 : List Cn} {B : Nat} (ho : sc[i]? = some o) (hl : ms.length = 3) (hown : ms[own]? = some ownM) (hon : Only ms ms2 n) (hne : (own : Int) ≠ n)
    (hg : goods (3 + opw (sc.take i) + B) ms2) (hB : B ≤ o.ed.length + o.s.length) : ms2.length = 3 ∧ ms2[own]? = some ownM ∧ goods (3 + opw (sc.take (i + 1))) ms2 :=
  ⟨hon.1.trans hl, (hon.2 own hne).trans hown, hg.mono (by rw [opw_take ho]; omega)⟩

set_option maxHeartbeats 8000000 in
theorem apart_pc (E : Env) (H : Hp) (Q : AV → Hp → Prop) (sc : List OpA) (k : Int) (hl : sc.length ≤ 1048576) (hsz : opw sc ≤ 1048576) (hQ : Q (.bool true) H) :
    PC Try.prog E 4 [.sl false 10 (ops sc), .int .i64 k] H Q := by
  refine pc_enter Try.func4 rfl [] [] (by kernel_rfl) (fun hB => ?_)
  simp [Try.ntmps4, Try.results4, List.replicate_succ]
  refine awake_pc E H _ ?_
  simp
  refine new_pc E H _ ?_
  simp
  refine VL_go (apJ H sc k) (fun fr _ => 3 - (ai (aget fr 20)).toNat) ⟨0, by omega, [], ⟨WO.new H, by simp, by simp, fun j hj => List.getElem?_append_left hj⟩, fr_intro (by simp)⟩ ?_
  rintro fr H' ⟨i, hi, cs, hm, x, rfl⟩
  by_cases h : i < 3
  · have h' : (i : Int) < 3 := by omega
    simp [h']
    refine do2_pc E _ (some H.length) cs _ _ hm.wo (by simp; omega) 1 0 0 [] (fun j m _ h => by have := (List.mem_replicate.1 (mem_at h)).2; rw [this]; simp [Cn.new]) (fun H2 cs2 hw2 hu2 => ?_)
    have e := ap_do i h
    change WO _ _ _ (mDo false (accs i) 1 0 0 []).1 at hw2
    rw [e] at hw2
    simp [e]
    refine accept2_pc E _ (some H.length) cs2 _ _ hw2 (by simp; omega) (fun H3 cs3 hw3 hu3 => ?_)
    have e3 := ap_acc i
    change WO _ _ _ (mAccept (accs i ++ [Cn.new])).1 at hw3
    rw [e3] at hw3
    have hw' : IntKind.i64.wrap ((i : Int) + 1) = i + 1 := wrap_in (by omega) (by omega)
    simp [e3, hw']
    refine Kloop_normal ?_ ?_
    rotate_left
    · simp; omega
    exact ⟨i + 1, by omega, cs3, hm.next (hu2.trans hu3) hw3, fr_intro (by simp)⟩
  · have h' : ¬ (i : Int) < 3 := by omega
    obtain rfl : i = 3 := by omega
    simp
    refine kind_pc E _ _ k 3 (by omega) ?_
    obtain ⟨own, how⟩ : ∃ m : Nat, k % 3 = m := ⟨(k % 3).toNat, by omega⟩
    rw [how]
    have hown : own < 3 := by omega
    simp only [Kcall_eq, KP_false, true_and]
    simp
    refine do2_pc E _ (some H.length) cs _ _ hm.wo (by simp) 2 own 0 [111, 119, 110] (fun j m _ h => by have := (List.mem_replicate.1 (mem_at h)).2; rw [this]; simp [Cn.new]) (fun H2 cs2 hw2 hu2 => ?_)
    have e2 : mDo false (accs 3) 2 own 0 [111, 119, 110] = ((accs 3).set own { Cn.new with acc := true, del := [111, 119, 110] }, 0) := by
      rcases (by omega : own = 0 ∨ own = 1 ∨ own = 2) with rfl | rfl | rfl <;> rfl
    change WO _ _ _ (mDo false (accs 3) 2 own 0 [111, 119, 110]).1 at hw2
    rw [e2] at hw2
    simp [e2]
    refine interest2_pc E _ (some H.length) cs2 _ _ hw2 (by simp) own true false (fun H3 cs3 hw3 hu3 => ?_)
    have e3 : mInterest ((accs 3).set own { Cn.new with acc := true, del := [111, 119, 110] }) own true false = ((accs 3).set own ownM, 0) := by
      rcases (by omega : own = 0 ∨ own = 1 ∨ own = 2) with rfl | rfl | rfl <;> rfl
    change WO _ _ _ (mInterest ((accs 3).set own { Cn.new with acc := true, del := [111, 119, 110] }) own true false).1 at hw3
    rw [e3] at hw3
    simp [e3]
    have hm3 := hm.next (hu2.trans hu3) hw3
    refine line_pc E _ (some H.length) cs3 _ _ own hw3 (by simp) (fun hn => absurd hn (by simp; omega)) (fun j m hj hmj => ?_)
    obtain rfl : own = j := by omega
    rw [List.getElem?_set_self (by simp; omega)] at hmj
    cases hmj
    simp [line_len]
    have hb0 : H.length < H3.length := at_lt hm3.wo.box
    refine VL_go (apI H sc own H3.length) (fun fr _ => sc.length - (ai (aget fr 57)).toNat) ⟨0, by omega, cs3, _, hm3.app _, by simp, by rw [List.getElem?_set_self (by simp; omega)], ?_, by simp, ?_, hb0, fr_intro (by simp)⟩ ?_
    · intro m hm'
      rcases List.mem_or_eq_of_mem_set hm' with h' | rfl
      · rw [(List.mem_replicate.1 h').2]; refine ⟨?_, ?_, ?_, ?_, ?_⟩ <;> simp [Cn.new]
      · refine ⟨?_, ?_, ?_, ?_, ?_⟩ <;> simp [ownM, Cn.new]
    · intro hc
      obtain ⟨j, hj⟩ := List.getElem?_of_mem hc
      obtain ⟨m, hmj⟩ : ∃ m, ((accs 3).set own ownM)[j]? = some m := ⟨_, List.getElem?_eq_getElem (by have := (List.getElem?_eq_some_iff.1 hj).1; have := hw3.len; simp at this ⊢; omega)⟩
      have := at_lt (hm3.wo.conn j _ m hj hmj)
      omega
    clear hm hm3 hw3 hw2 hu2 hu3
    rintro fr H' ⟨i, hi, cs, ms, hm, hlen, hmo, hg, hb, hbc, hbH, x, rfl⟩
    by_cases h : i < sc.length
    · obtain ⟨o, ho⟩ : ∃ o, sc[i]? = some o := ⟨_, List.getElem?_eq_getElem h⟩
      have hat := ops_at ho
      have hw' : IntKind.i64.wrap ((i : Int) + 1) = i + 1 := wrap_in (by omega) (by omega)
      simp [h, hat, OpA.av]
      refine kind_pc E _ _ o.kind 11 (by omega) ?_
      obtain ⟨kk, hkk⟩ : ∃ m : Nat, o.kind % 11 = m := ⟨(o.kind % 11).toNat, by omega⟩
      rw [hkk]
      have hkk2 : kk < 11 := by omega
      simp only [Kcall_eq, KP_false, true_and]
      have hw1 : IntKind.i64.wrap ((own : Int) + 1) = (own + 1 : Nat) := wrap_in (by omega) (by omega)
      simp [ha0, ha1, hw1, -Int.natCast_add]
      refine kind_pc E _ _ o.ec 2 (by omega) ?_
      obtain ⟨ec, hec⟩ : ∃ m : Nat, o.ec % 2 = m := ⟨(o.ec % 2).toNat, by omega⟩
      rw [hec]
      have hec2 : ec < 2 := by omega
      obtain ⟨c, hc⟩ : ∃ c, (own + 1 + ec) % 3 = c := ⟨_, rfl⟩
      have hw2 : IntKind.i64.wrap ((own + 1 : Nat) + (ec : Nat)) = (own + 1 + ec : Nat) := wrap_in (by omega) (by omega)
      have hw3 : ((own + 1 + ec : Nat) : Int).tmod 3 = c := by rw [Int.tmod_eq_emod_of_nonneg (by omega)]; omega
      have hcl : c < 3 := by omega
      have hne : (own : Int) ≠ c := by omega
      simp only [Kcall_eq, KP_false, true_and]
      simp [ha0, ha1, hw2, hw3, -Int.natCast_add]
      have hm1 := hm.app [[.int .i64 o.kind, .int .i64 o.ek, .int .i64 c, .int .i64 o.en, .str o.ed, .int .i64 c, .int .i64 o.n, .str o.s, .bool o.r, .bool o.w]]
      have hle := opw_le sc (i + 1)
      have htk := opw_take ho
      by_cases k0 : kk = 0
      · subst k0
        simp
        by_cases ke : o.ek = 1
        · simp [ke, hw']
          refine Kloop_normal ?_ ?_
          rotate_left
          · simp; omega
          obtain ⟨l1, l2, l3⟩ := ap_next ho hlen hmo (Only.refl ms c) hne (hg.mono (Nat.le_add_right _ 0)) (by omega)
          exact ⟨i + 1, by omega, cs, _, hm.app _, l1, l2, l3, by rw [List.getElem?_append_left (at_lt hb)]; exact hb, hbc, hbH, fr_intro (by simp)⟩
        · have ke' : (o.ek != 1) = true := by simp [ke]
          simp [ke']
          refine do2_pc E _ (some H.length) cs _ _ hm1.wo (by omega) o.ek c o.en o.ed (fun j m _ h => by have := (hg.at h).2.2.2.1; omega) (fun H2 cs2 hw2 hu2 => ?_)
          simp [hw']
          refine Kloop_normal ?_ ?_
          rotate_left
          · simp; omega
          obtain ⟨l1, l2, l3⟩ := ap_next (B := o.ed.length) ho hlen hmo (mDo_only ke) hne (mDo_good hg) (by omega)
          have hbb := hu2.kept (b := H3.length) (by rw [List.getElem?_append_left (at_lt hb)]; exact hb) (by simp; omega) hbc
          exact ⟨i + 1, by omega, cs2, _, hm1.next hu2 hw2, l1, l2, l3, hbb.1, hbb.2, hbH, fr_intro (by simp)⟩
      by_cases k4 : kk = 4
      · subst k4
        simp
        · refine interest2_pc E _ (some H.length) cs _ _ hm1.wo (by omega) c o.r o.w (fun H2 cs2 hw2 hu2 => ?_)
          simp [hw']
          refine Kloop_normal ?_ ?_
          rotate_left
          · simp; omega
          obtain ⟨l1, l2, l3⟩ := ap_next ho hlen hmo (mInterest_only _ _ _ _) hne ((mInterest_good hg).mono (Nat.le_add_right _ 0)) (by omega)
          have hbb := hu2.kept (b := H3.length) (by rw [List.getElem?_append_left (at_lt hb)]; exact hb) (by simp; omega) hbc
          exact ⟨i + 1, by omega, cs2, _, hm1.next hu2 hw2, l1, l2, l3, hbb.1, hbb.2, hbH, fr_intro (by simp)⟩
      by_cases k5 : kk = 5
      · subst k5
        simp
        · refine read2_pc E _ (some H.length) cs _ _ hm1.wo (by omega) c o.n (fun j m _ h => (hg.at h).ok (by omega)) (fun H2 cs2 hw2 hu2 => ?_)
          simp [hw']
          refine Kloop_normal ?_ ?_
          rotate_left
          · simp; omega
          obtain ⟨l1, l2, l3⟩ := ap_next ho hlen hmo (mRead_only _ _ _) hne ((mRead_good hg).mono (Nat.le_add_right _ 0)) (by omega)
          have hbb := hu2.kept (b := H3.length) (by rw [List.getElem?_append_left (at_lt hb)]; exact hb) (by simp; omega) hbc
          exact ⟨i + 1, by omega, cs2, _, hm1.next hu2 hw2, l1, l2, l3, hbb.1, hbb.2, hbH, fr_intro (by simp)⟩
      by_cases k6 : kk = 6
      · subst k6
        simp
        · refine write2_pc E _ (some H.length) cs _ _ hm1.wo (by omega) c o.s (fun j m _ h => by have := (hg.at h).2.2.2.2; omega) (fun j m _ h => (hg.at h).ok (by omega)) (fun H2 cs2 hw2 hu2 => ?_)
          simp [hw']
          refine Kloop_normal ?_ ?_
          rotate_left
          · simp; omega
          obtain ⟨l1, l2, l3⟩ := ap_next (B := o.s.length) ho hlen hmo (mWrite_only _ _ _) hne (mWrite_good hg) (by omega)
          have hbb := hu2.kept (b := H3.length) (by rw [List.getElem?_append_left (at_lt hb)]; exact hb) (by simp; omega) hbc
          exact ⟨i + 1, by omega, cs2, _, hm1.next hu2 hw2, l1, l2, l3, hbb.1, hbb.2, hbH, fr_intro (by simp)⟩
      by_cases k7 : kk = 7
      · subst k7
        simp
        · refine close2_pc E _ (some H.length) cs _ _ hm1.wo (by omega) c (fun H2 cs2 hw2 hu2 => ?_)
          simp [hw']
          refine Kloop_normal ?_ ?_
          rotate_left
          · simp; omega
          obtain ⟨l1, l2, l3⟩ := ap_next ho hlen hmo (mClose_only _ _) hne ((mClose_good hg).mono (Nat.le_add_right _ 0)) (by omega)
          have hbb := hu2.kept (b := H3.length) (by rw [List.getElem?_append_left (at_lt hb)]; exact hb) (by simp; omega) hbc
          exact ⟨i + 1, by omega, cs2, _, hm1.next hu2 hw2, l1, l2, l3, hbb.1, hbb.2, hbH, fr_intro (by simp)⟩
      · have z0 : ((kk : Int) == 0) = false := by simp [k0]
        have z4 : ((kk : Int) == 4) = false := by simp; omega
        have z5 : ((kk : Int) == 5) = false := by simp; omega
        have z6 : ((kk : Int) == 6) = false := by simp; omega
        have z7 : ((kk : Int) == 7) = false := by simp; omega
        simp [z0, z4, z5, z6, z7, hw']
        refine Kloop_normal ?_ ?_
        rotate_left
        · simp; omega
        obtain ⟨l1, l2, l3⟩ := ap_next ho hlen hmo (Only.refl ms c) hne (hg.mono (Nat.le_add_right _ 0)) (by omega)
        exact ⟨i + 1, by omega, cs, _, hm.app _, l1, l2, l3, by rw [List.getElem?_append_left (at_lt hb)]; exact hb, hbc, hbH, fr_intro (by simp)⟩
    · simp [h]
      refine line_pc E _ (some H.length) cs _ _ own hm.wo (by omega) (fun hn => absurd hn (by omega)) (fun j m hj hmj => ?_)
      obtain rfl : own = j := by omega
      rw [hmo] at hmj
      cases hmj
      have hbl := at_lt hb
      simp [Cn.line, ownM, Cn.new] at hb
      simp [Cn.line, ownM, Cn.new, hb, hs0 hbl]
      refine delivered_pc E _ (some H.length) cs _ _ own (hm.app _).wo (by omega) (fun hn => absurd hn (by omega)) (fun j m hj hmj => ?_)
      obtain rfl : own = j := by omega
      rw [hmo] at hmj
      cases hmj
      simp [ownM]
      refine taken_pc E _ (some H.length) cs _ _ own (hm.app _).wo (by omega) (fun hn => absurd hn (by omega)) (fun j m hj hmj => ?_)
      obtain rfl : own = j := by omega
      rw [hmo] at hmj
      cases hmj
      simp [ownM, Cn.new]
      have hma := hm.app
      exact aPost_law hB (hm.app _).len (hm.app _).keep rfl (by simp) hQ

def opK : List CK := [.int .i64, .int .i64, .int .i64, .int .i64, .str, .int .i64, .int .i64, .str, .bool, .bool]
theorem kind_int {k : IntKind} {x : AV} (h : KindOf (.int k) x) : ∃ z, x = .int k z := by
  cases x <;> simp [KindOf] at h
  exact ⟨_, by rw [h.1]⟩
theorem kind_bool {x : AV} (h : KindOf .bool x) : ∃ z, x = .bool z := by
  cases x <;> simp [KindOf] at h
  exact ⟨_, rfl⟩
theorem kind_str {x : AV} (h : KindOf .str x) : ∃ z, x = .str z := by
  cases x <;> simp [KindOf] at h
  exact ⟨_, rfl⟩
theorem op_of_row {r : List AV} (hl : r.length = 10) (hk : ∀ (j : Nat) k y, opK[j]? = some k → r[j]? = some y → KindOf k y) : ∃ o : OpA, r = o.av := by
  match r, hl with
  | [a0, a1, a2, a3, a4, a5, a6, a7, a8, a9], _ =>
    obtain ⟨z0, rfl⟩ := kind_int (hk 0 _ _ rfl rfl)
    obtain ⟨z1, rfl⟩ := kind_int (hk 1 _ _ rfl rfl)
    obtain ⟨z2, rfl⟩ := kind_int (hk 2 _ _ rfl rfl)
    obtain ⟨z3, rfl⟩ := kind_int (hk 3 _ _ rfl rfl)
    obtain ⟨z4, rfl⟩ := kind_str (hk 4 _ _ rfl rfl)
    obtain ⟨z5, rfl⟩ := kind_int (hk 5 _ _ rfl rfl)
    obtain ⟨z6, rfl⟩ := kind_int (hk 6 _ _ rfl rfl)
    obtain ⟨z7, rfl⟩ := kind_str (hk 7 _ _ rfl rfl)
    obtain ⟨z8, rfl⟩ := kind_bool (hk 8 _ _ rfl rfl)
    obtain ⟨z9, rfl⟩ := kind_bool (hk 9 _ _ rfl rfl)
    exact ⟨⟨z0, z1, z2, z3, z4, z5, z6, z7, z8, z9⟩, rfl⟩
theorem ops_of_rows : ∀ (rows : List (List AV)), (∀ r ∈ rows, r.length = 10 ∧ ∀ (j : Nat) k y, opK[j]? = some k → r[j]? = some y → KindOf k y) → ∃ sc : List OpA, rows = ops sc ∧ opw sc = wtA rows.flatten
  | [], _ => ⟨[], rfl, rfl⟩
  | r :: rows, h => by
    obtain ⟨sc, rfl, hw⟩ := ops_of_rows rows (fun q hq => h q (List.mem_cons_of_mem _ hq))
    obtain ⟨h1, h2⟩ := h r (List.mem_cons_self ..)
    obtain ⟨o, rfl⟩ := op_of_row h1 h2
    refine ⟨o :: sc, rfl, ?_⟩
    rw [List.flatten_cons, wtA_app, ← hw]
    simp [opw, OpA.av, wtA]
theorem apart_true (W : World) (bo : Option Addr) (len cap : Nat) (rows : List (List AV)) (k : Int) (hr : Rel W (fun _ => 0) (old W) (.sl false 10 rows) (.slice bo len cap)) (hn : Bnd 0 (.sl false 10 rows))
    (hk : ∀ r ∈ rows, r.length = 10 ∧ ∀ (j : Nat) k y, opK[j]? = some k → r[j]? = some y → KindOf k y) (e : rows.length = len) (hb : wtA rows.flatten + len ≤ 1048576) :
    Calls Try.prog 4 #[.slice bo len cap, .int .i64 k] W fun e w' => e = .returned (.bool true) ∧ Frm (fun _ => False) W w' := by
  obtain ⟨sc, rfl, hw⟩ := ops_of_rows rows hk
  refine calls_of_pc (args := [.sl false 10 (ops sc), .int .i64 k]) (old W) (fun _ _ h => h) rfl (fun t x u hx hu => ?_) (fun E Q h => apart_pc E [] Q sc k (by simp at e; omega) (by omega) h)
  match t with
  | 0 => simp at hx hu; subst hx; subst hu; exact ⟨hr, hn, rfl⟩
  | 1 => simp at hx hu; subst hx; subst hu; exact ⟨.int _ _, .int _ _, rfl⟩
  | t + 2 => simp at hx
end Go.Proofs.Ytgnjdfnjohgnlaa
