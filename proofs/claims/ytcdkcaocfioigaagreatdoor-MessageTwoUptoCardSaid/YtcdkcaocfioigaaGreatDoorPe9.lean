/- Part 9 of the texts below the law: the abstract machine, the functions that it walks, what they compute. -/
import Derived.Test.YtcdkcaocfioigaaGreatDoorPe8
set_option linter.unusedVariables false
set_option linter.unnecessarySimpa false
set_option linter.unusedSimpArgs false
set_option linter.unusedSectionVars false
set_option maxRecDepth 100000
namespace Go.Proofs.YtcdkcaocfioigaaGreatDoor
open Go Go.RowKit Go.Proofs Go.Lib

/-- A number below a thousand in three digits. -/
def d3 (n : Int) : List UInt8 := [dgB (n.toNat / 100), dgB (n.toNat / 10 % 10), dgB (n.toNat % 10)]
end Go.Proofs.YtcdkcaocfioigaaGreatDoor

set_option linter.unusedVariables false
set_option linter.unnecessarySimpa false
set_option linter.unusedSimpArgs false
set_option linter.unusedSectionVars false
set_option maxRecDepth 100000
namespace Go.Proofs.YtcdkcaocfioigaaGreatDoor
open Go Go.RowKit Go.Proofs Go.Lib

section
variable (E : Env) (H : Hp) (Q : AV → Hp → Prop)
theorem dempty_pc (s : Int) (hQ : Q (.bool (neverS s)) H) : PC Tryz.prog E 61 [.int .i64 s] H Q := by
  refine pc_enter Tryz.func61 rfl [] [] (by kernel_rfl) (fun hB => ?_)
  have fin : ∀ c : Bool, neverS s = c → Q (.bool c) H := fun c hc => hc ▸ hQ
  by_cases h1 : 100 ≤ s
  · by_cases h2 : s ≤ 199
    · simp [Tryz.ntmps61, Tryz.results61, List.replicate_succ, h1, h2]
      exact aPost_same0 hB rfl (nilV_refl _) (by simp) (fin _ (by simp [neverS, h1, h2]))
    · simp [Tryz.ntmps61, Tryz.results61, List.replicate_succ, h1, h2]
      by_cases h3 : s = 204
      · subst h3
        simp
        exact aPost_same0 hB rfl (nilV_refl _) (by simp) (fin _ (by simp [neverS]))
      · have b3 : (s == 204) = false := by simpa using h3
        simp [b3]
        exact aPost_same0 hB rfl (nilV_refl _) (by simp) (fin _ (by simp [neverS, h1, h2, b3]))
  · simp [Tryz.ntmps61, Tryz.results61, List.replicate_succ, h1]
    by_cases h3 : s = 204
    · omega
    · have b3 : (s == 204) = false := by simpa using h3
      simp [b3]
      exact aPost_same0 hB rfl (nilV_refl _) (by simp) (fin _ (by simp [neverS, h1, b3]))
theorem dinterim_pc (s : Int) (hQ : Q (.bool (interimB s)) H) : PC Tryz.prog E 31 [.int .i64 s] H Q := by
  refine pc_enter Tryz.func31 rfl [] [] (by kernel_rfl) (fun hB => ?_)
  have fin : ∀ c : Bool, interimB s = c → Q (.bool c) H := fun c hc => hc ▸ hQ
  by_cases h1 : 100 ≤ s
  · by_cases h2 : s ≤ 199
    · simp [Tryz.ntmps31, Tryz.results31, List.replicate_succ, h1, h2]
      exact aPost_same0 hB rfl (nilV_refl _) (by simp) (fin _ (by simp [interimB, h1, h2]))
    · simp [Tryz.ntmps31, Tryz.results31, List.replicate_succ, h1, h2]
      exact aPost_same0 hB rfl (nilV_refl _) (by simp) (fin _ (by simp [interimB, h1, h2]))
  · simp [Tryz.ntmps31, Tryz.results31, List.replicate_succ, h1]
    exact aPost_same0 hB rfl (nilV_refl _) (by simp) (fin _ (by simp [interimB, h1]))
theorem dbodyless_pc (m : List UInt8) (s : Int) (hQ : Q (.bool (bodylessB m s)) H) : PC Tryz.prog E 29 [.str m, .int .i64 s] H Q := by
  refine pc_enter Tryz.func29 rfl [] [] (by kernel_rfl) (fun hB => ?_)
  have fin : ∀ c : Bool, bodylessB m s = c → Q (.bool c) H := fun c hc => hc ▸ hQ
  simp [Tryz.ntmps29, Tryz.results29, List.replicate_succ]
  refine dempty_pc E _ _ s ?_
  cases hn : neverS s with
  | true =>
    simp
    exact aPost_same0 hB rfl (nilV_refl _) (by simp) (fin _ (by simp [bodylessB, hn]))
  | false =>
    cases hh : (m == [72, 69, 65, 68]) with
    | true =>
      simp [hh]
      exact aPost_same0 hB rfl (nilV_refl _) (by simp) (fin _ (by simp [bodylessB, vHead, hn, hh]))
    | false =>
      cases hc : (m == [67, 79, 78, 78, 69, 67, 84]) with
      | false =>
        simp [hh, hc]
        exact aPost_same0 hB rfl (nilV_refl _) (by simp) (fin _ (by simp [bodylessB, vHead, vConnect, hn, hh, hc]))
      | true =>
        by_cases h1 : 200 ≤ s
        · simp [hh, hc, h1]
          exact aPost_same0 hB rfl (nilV_refl _) (by simp) (fin _ (by simp [bodylessB, vHead, vConnect, hn, hh, hc, h1]))
        · simp [hh, hc, h1]
          exact aPost_same0 hB rfl (nilV_refl _) (by simp) (fin _ (by simp [bodylessB, vHead, vConnect, hn, hh, hc, h1]))
end
end Go.Proofs.YtcdkcaocfioigaaGreatDoor

set_option linter.unusedVariables false
set_option linter.unnecessarySimpa false
set_option linter.unusedSimpArgs false
set_option linter.unusedSectionVars false
set_option maxRecDepth 100000
namespace Go.Proofs.YtcdkcaocfioigaaGreatDoor
open Go Go.RowKit Go.Proofs Go.Deep

@[simp] theorem abin_sleql (P : Program) (t : TypeId) (o : Bool) (k : Nat) (r : List AV) (rs : List (List AV)) : abin P .eql t (.sl o k (r :: rs)) .nil = if (tsl P t).isSome then some (.bool false) else none := rfl
@[simp] theorem abin_slneq (P : Program) (t : TypeId) (o : Bool) (k : Nat) (r : List AV) (rs : List (List AV)) : abin P .neq t (.sl o k (r :: rs)) .nil = if (tsl P t).isSome then some (.bool true) else none := rfl
@[simp] theorem abin_bxeql (P : Program) (t : TypeId) (i o n c k : Nat) : abin P .eql t (.bx i o n c k) .nil = if (tsl P t).isSome then some (.bool false) else none := rfl
@[simp] theorem abin_bxneq (P : Program) (t : TypeId) (i o n c k : Nat) : abin P .neq t (.bx i o n c k) .nil = if (tsl P t).isSome then some (.bool true) else none := rfl
/-- A call that answers a slice of no rows, in a row of its own or in none. -/
theorem post_own0 {E : Env} {w w' : World} {β : Nat → Nat} {Rd : Nat → Nat → Prop} {Ow : Nat → Option Hold} {H : Hp} (hHR : HR E w β Rd Ow H) (hf : Frm (fun _ => False) w w') {k : Nat} {c : Value} (hos : OSl w' k c 0 []) (hnew : ∀ g, c.ownBlock = some g → w.heap.size ≤ g) :
    Post E w β Rd Ow H w' β (fun g o => Rd g o ∨ False) (fun g => if c.ownBlock = some g then some (.slot 0) else Ow g) H (.sl true k []) c := by
  have hp := post_freshP hHR hf (fun _ _ => False) (fun _ _ h => h.elim) (v := .nil) (c := .slice none 0 0) .nil .nil rfl
  have hold : ∀ g, g < w.heap.size → (if c.ownBlock = some g then some (Hold.slot 0) else Ow g) = Ow g := fun g hg => if_neg fun e => by have := hnew g e; omega
  have hbx : ∀ i, i < H.length → β i < w.heap.size := fun i hi => by
    obtain ⟨T, cs, h, _⟩ := hHR.box i _ (List.getElem?_eq_getElem hi)
    exact (Array.getElem?_eq_some_iff.1 h).1
  refine ⟨.sl true k [] c [] (by simp) hos.toR (fun g o n c hv j hj => by simp at hj) (fun _ => ⟨hos, fun g o n c' hv j _ _ h3 => ?_⟩) (by simp) (fun j x u hx => by simp at hx), .sl _ _ _ (by simp), fun g hg => if_pos hg, rfl,
    ⟨fun i l hi => ?_, hp.hr.inj, fun i hi => ⟨?_, (hp.hr.sep i hi).2⟩, fun g h hg => ?_, hp.hr.rds, hp.hr.bnd, fun b hb => ?_, hp.hr.bld⟩, fun _ _ => rfl, Nat.le_refl _, hp.keep, fun b hb hbox how => ?_, hf.os, hf.tape, hf.output, hf.size⟩
  · rcases h3 with h3 | h3
    · have h1 := hHR.rds _ _ h3
      have h2 := hnew g (by rw [hv]; rfl)
      omega
    · exact h3
  · obtain ⟨T, cs, h1, h2, h3⟩ := hp.hr.box i l hi
    refine ⟨T, cs, h1, h2, fun j x u hx hu => ?_⟩
    obtain ⟨r1, r2, r3⟩ := h3 j x u hx hu
    exact ⟨r1, r2, fun g hg => (hold g (hHR.ows g _ (r3 g hg))).trans (r3 g hg)⟩
  · show (if c.ownBlock = some (β i) then some (Hold.slot 0) else Ow (β i)) = none
    rw [hold _ (hbx i hi)]; exact (hp.hr.sep i hi).1
  · split at hg
    · rename_i h1; exact hos.lt g h1
    · exact hp.hr.ows g h hg
  · obtain ⟨f1, f2, f3, f4⟩ := hp.hr.fix b hb
    refine ⟨f1, ?_, f3, f4⟩
    show (if c.ownBlock = some b then some (Hold.slot 0) else Ow b) = none
    by_cases h1 : c.ownBlock = some b
    · have h2 := hnew b h1
      have h3 := (hHR.fix b hb).2.2.2
      omega
    · rw [if_neg h1]; exact f2
  · obtain ⟨p1, p2, p3, p4⟩ := hp.frame b hb hbox how
    refine ⟨p1, ?_, p3, p4⟩
    show (if c.ownBlock = some b then some (Hold.slot 0) else Ow b) = none
    rw [hold b hb]; exact how
theorem clone0_pc (E : Env) (H : Hp) (Q : AV → Hp → Prop) (hQ : Q (.sl true 2 []) H) : PC Tryz.prog E 45 [.sl false 2 (flds [])] H Q := by
  refine ⟨by kernel_rfl, fun w β Rd Ow cargs hHR hOw hsz hargs => ?_⟩
  obtain ⟨u, rfl, hu⟩ := args1 hsz (fun t x u hx hu => (hargs t x u hx hu).1)
  obtain ⟨xs, hk, hx, hd, hfr, hr⟩ := rel_sl hu
  obtain ⟨hxl, ao, c, rfl, h2, h3, h4⟩ := id hx
  rw [flds_length] at hx hxl h2 h4
  have hone : ∀ u ∈ xs, u.oneCell' = true := Rel.slOne (own := false) hk (by rw [flds_length]; exact hxl) hfr hr
  have hx0 : xs = [] := List.eq_nil_of_length_eq_zero (by simpa using hxl)
  subst hx0
  rw [flds_length]
  refine (clone_ok (ao := ao) (c := c) hx hone (by simp)).mono ?_
  rintro e w' ⟨bo, m, d, rfl, ⟨rfl, rfl, rfl, hn0, rfl⟩ | ⟨rfl, ho, hnew, hF⟩⟩
  · exact ⟨_, _, H, β, _, _, rfl, hQ, post_own0 hHR (Frm.refl _ _) (OSl.nil _ _) (fun g hg => by simp [Value.ownBlock] at hg)⟩
  · exact ⟨_, _, H, β, _, _, rfl, hQ, post_own0 hHR hF ho hnew⟩
section
variable (E : Env) (H : Hp) (Q : AV → Hp → Prop)
variable (i : Nat) (d : Dec) (hd : H[i]? = some d.av)
include hd
end
section
variable (E : Env) (H : Hp) (Q : AV → Hp → Prop)
end
end Go.Proofs.YtcdkcaocfioigaaGreatDoor

set_option linter.unusedVariables false
set_option linter.unnecessarySimpa false
set_option linter.unusedSimpArgs false
set_option linter.unusedSectionVars false
set_option maxRecDepth 100000
namespace Go.Proofs.YtcdkcaocfioigaaGreatDoor
open Go Go.RowKit Go.Proofs

/-- The tables that the message layer reads. -/
def SM (E : Env) : Prop := SZ E ∧ SE2 E
theorem printF_step {l : List Fld} (h : l.length ≤ 100) {i : Nat} {f : Fld} (hf : l[i]? = some f) (hall : ∀ g ∈ l.take i, (lineP g).2 = 0) (hne : (lineP f).2 ≠ 0) : printF l = ([], (lineP f).2) := by
  have hi := (List.getElem?_eq_some_iff.1 hf).1
  have e : l = l.take i ++ (f :: l.drop (i + 1)) := by rw [← (List.getElem?_eq_some_iff.1 hf).2, ← List.drop_eq_getElem_cons hi, List.take_append_drop]
  have hn : (l.take i).find? (fun f => decide ((lineP f).2 ≠ 0)) = none := List.find?_eq_none.2 fun g hg => by simp [hall g hg]
  unfold printF
  rw [if_neg (by omega)]
  have : l.find? (fun f => decide ((lineP f).2 ≠ 0)) = some f := by
    rw [e, List.find?_append, hn]
    simp [hne]
  rw [this]
theorem printF_all {l : List Fld} (h : l.length ≤ 100) (hall : ∀ g ∈ l, (lineP g).2 = 0) : printF l = (linesT l, 0) := by
  have hn : l.find? (fun f => decide ((lineP f).2 ≠ 0)) = none := List.find?_eq_none.2 fun g hg => by simp [hall g hg]
  unfold printF
  rw [if_neg (by omega), hn]
theorem lineP_ok {f : Fld} (h : (lineP f).2 = 0) : (lineP f).1 = lineT f := by
  unfold lineP at h ⊢
  split
  · rename_i h1; rw [if_pos h1] at h; cases h
  · rename_i h1
    rw [if_neg h1] at h
    split
    · rename_i h2; rw [if_pos h2] at h; cases h
    · rfl
section
variable (E : Env) (H : Hp) (Q : AV → Hp → Prop)
theorem cloneOwn_pc (l : List Fld) (hl : l.length ≤ 1073741823) (hQ : Q (.sl true 2 (flds l)) H) : PC Tryz.prog E 45 [.sl false 2 (flds l)] H Q := by
  cases l with
  | nil => exact clone0_pc E H Q hQ
  | cons g l =>
    have hfl : flds (g :: l) = [.str g.name, .str g.value] :: flds l := rfl
    simp only [List.length_cons] at hl
    have m1 : l.length + 1 ≤ maxLen := by unfold maxLen; omega
    have m2 : (l.length + 1) * 32 ≤ 140737488355328 := by omega
    have hb := bnd_flds (N := H.length) true 2 (g :: l)
    rw [hfl] at hQ hb ⊢
    refine pc_enter Tryz.func45 rfl [5] [] (by kernel_rfl) (fun hB => ?_)
    simp [Tryz.ntmps45, Tryz.results45, List.replicate_succ, m1, m2]
    exact aPost_same0 hB (v0 := .sl true 2 ([.str g.name, .str g.value] :: flds l)) (by simp) (nilV_refl _) hb hQ
def fpInv (l : List Fld) (H : Hp) (fr : List AV) (H' : Hp) : Prop := ∃ (J2 : Hp) (i : Nat), i ≤ l.length ∧ H' = H ++ ([.bl TB, .bf TU (linesT (l.take i))] :: J2) ∧ (∀ g ∈ l.take i, (lineP g).2 = 0) ∧
  ∃ x : Nat → AV, fr = [x 0, x 1, x 2, x 3, .ptr (some (H.length, 0)), x 5, x 6, x 7, x 8, x 9, x 10, x 11, .sl false 2 (flds l), .int .i64 l.length, .int .i64 i, x 15, x 16, x 17, x 18, x 19, x 20, x 21, x 22, x 23, x 24, x 25, x 26, x 27, x 28, x 29, x 30]
theorem fprint_pc (hE : SE E) (l : List Fld) (hl : fsz l + l.length ≤ 16777216) (hQ : Q (.tup [.str (printF l).1, .int .i64 (printF l).2]) H) : PC Tryz.prog E 48 [.sl false 2 (flds l)] H Q := by
  have fin : ∀ a : List UInt8 × Int, printF l = a → Q (.tup [.str a.1, .int .i64 a.2]) H := fun a ha => ha ▸ hQ
  refine pc_enter Tryz.func48 rfl [] [(3, [3])] (by kernel_rfl) (fun hB => ?_)
  simp [Tryz.ntmps48, Tryz.results48, List.replicate_succ]
  by_cases h100 : 100 < l.length
  · have h1 : (100 : Int) < l.length := by omega
    simp [h1]
    exact aPost_same0 hB (v0 := .tup [.str [], .int .i64 65]) (by simp) (nilV_refl _) (by simp) (fin ([], 65) (by unfold printF; rw [if_pos h100]))
  have h1 : ¬ (100 : Int) < l.length := by omega
  simp [h1]
  refine VL_go (fpInv l H) (fun fr _ => l.length - (ai (aget fr 14)).toNat) ⟨[], 0, by omega, by simp [linesT], by simp, fr_intro (by simp)⟩ ?_
  rintro fr H2 ⟨J2, i, hi, rfl, hall, x, rfl⟩
  have hlin := linesT_le (l.take i)
  have hsz := fsz_take l i
  rw [List.length_take] at hlin
  by_cases h : i < l.length
  · obtain ⟨f, hf⟩ : ∃ f, l[i]? = some f := ⟨_, List.getElem?_eq_getElem h⟩
    have hat := flds_at hf
    have hfm := fsz_mem hf
    have hw : IntKind.i64.wrap ((i : Int) + 1) = i + 1 := wrap_in (by omega) (by omega)
    have hlt := lineT_le f
    simp [h, hat]
    refine printLine_pc E _ _ hE f (by omega) (by omega) ?_
    by_cases hz : (lineP f).2 = 0
    · have hz1 := lineP_ok hz
      have m1 : (lineT f).length + 2 ≤ maxLen := by unfold maxLen; omega
      have m0 : (lineT f).length + 1 + 1 ≤ maxLen := by unfold maxLen; omega
      simp [hz, hz1, m1, m0]
      refine wstr_pc E _ _ H.length (linesT (l.take i)) (lineT f ++ [13, 10]) (by simp) (by simp; omega) ?_
      rw [← linesT_step l i f hf]
      simp [hw]
      refine Kloop_normal ⟨_, i + 1, by omega, rfl, fun g hg => ?_, fr_intro (by simp)⟩ (by simp; omega)
      rw [List.take_add_one, hf] at hg
      rcases List.mem_append.1 hg with hg | hg
      · exact hall g hg
      · simp at hg; subst hg; exact hz
    · have hz2 : ((lineP f).2 != 0) = true := by simpa using hz
      simp [hz2]
      exact aPost_same hB (v0 := .tup [.str [], .int .i64 (lineP f).2]) (by simp) (nilV_refl _) (by simp) (fin ([], (lineP f).2) (printF_step (by omega) hf hall hz))
  · obtain rfl : i = l.length := by omega
    rw [List.take_of_length_le (Nat.le_refl _)] at hall hlin ⊢
    simp
    refine bstr_pc E _ _ H.length (linesT l) (by simp) (by unfold maxLen; omega) ?_
    simp
    exact aPost_same hB (v0 := .tup [.str (linesT l), .int .i64 0]) (by simp) (nilV_refl _) (by simp) (fin (linesT l, 0) (printF_all (by omega) hall))
def wrInv (r : Resp) (h : Mann) (H : Hp) (fr : List AV) (H' : Hp) : Prop := ∃ (J : Hp) (i : Nat), H' = H ++ (r.avs :: h.avs :: J) ∧ i ≤ r.fields.length ∧ (r.fields.take i).any (framedB r.status) = false ∧
  ∃ x : Nat → AV, fr = [x 0, x 1, .ptr (some (H.length, 0)), .ptr (some (H.length + 1, 0)), x 4, x 5, x 6, x 7, x 8, x 9, x 10, x 11, x 12, x 13, x 14, x 15, x 16, x 17, x 18, x 19, x 20, x 21, x 22, x 23, x 24, x 25, .sl false 2 (flds r.fields), .int .i64 r.fields.length, .int .i64 i, x 29, x 30, x 31, x 32, x 33, x 34, x 35, x 36, x 37, x 38, x 39, x 40, x 41, x 42, x 43, x 44, x 45, x 46, x 47, x 48, x 49, x 50, x 51, x 52, x 53, x 54, x 55, x 56, x 57, x 58, x 59, x 60, x 61, x 62, x 63, x 64, x 65, x 66, x 67, x 68, x 69, x 70, x 71, x 72, x 73, x 74, x 75, x 76, x 77, x 78, x 79, x 80, x 81, x 82, x 83, x 84, x 85]
theorem any_step {α : Type} (p : α → Bool) (l : List α) (i : Nat) (x : α) (h : l[i]? = some x) : (l.take (i + 1)).any p = ((l.take i).any p || p x) := by
  rw [List.take_add_one, h]; simp
theorem any_stop {α : Type} (p : α → Bool) (l : List α) (i : Nat) (x : α) (h : l[i]? = some x) (hp : p x = true) : l.any p = true := List.any_eq_true.2 ⟨x, List.mem_of_getElem? h, hp⟩
def okR (r : Resp) (h : Mann) : Prop := fsz r.fields + r.fields.length ≤ 1048577 ∧ fsz h.trailers + h.trailers.length ≤ 1048577 ∧ h.sizes.length ≤ 1048577 ∧ r.reason.length ≤ 1048577 ∧ r.body.length ≤ 1048576 ∧ h.method.length ≤ 1048577 ∧
  (-9223372036854775808 ≤ r.status ∧ r.status ≤ 9223372036854775807) ∧ ∀ z ∈ h.sizes, -9223372036854775808 ≤ z ∧ z ≤ 9223372036854775807
set_option maxHeartbeats 1000000 in
theorem wrong_pc (r : Resp) (h : Mann) (hok : okR r h) (hQ : Q (.int .i64 (wrongM r h)) H) : PC Tryz.prog E 44 [.agg r.avs, .agg h.avs] H Q := by
  obtain ⟨o1, o2, o3, o4, o5, o6, ⟨o7, o8⟩, o9⟩ := hok
  have fin : ∀ a : Int, wrongM r h = a → Q (.int .i64 a) H := fun a ha => ha ▸ hQ
  have hR : r.avs = [.int .i64 r.status, .str r.reason, .sl false 2 (flds r.fields), .str r.body] := rfl
  have hM : h.avs = [.str h.method, .bool h.close, .bool h.old, .bool h.chunked, .sl false 1 (ints h.sizes), .sl false 2 (flds h.trailers)] := rfl
  rw [hR, hM]
  refine pc_enter Tryz.func44 rfl [] [] (by kernel_rfl) (fun hB => ?_)
  by_cases h1 : r.status < 100
  · simp [Tryz.ntmps44, Tryz.results44, List.replicate_succ, h1]
    exact aPost_same hB rfl (nilV_refl _) (by simp) (fin _ (by unfold wrongM; rw [if_pos (.inl h1)]))
  by_cases h2 : 599 < r.status
  · simp [Tryz.ntmps44, Tryz.results44, List.replicate_succ, h1, h2]
    exact aPost_same hB rfl (nilV_refl _) (by simp) (fin _ (by unfold wrongM; rw [if_pos (.inr h2)]))
  by_cases h3 : 256 < r.reason.length
  · have h3' : (256 : Int) < r.reason.length := by omega
    simp [Tryz.ntmps44, Tryz.results44, List.replicate_succ, h1, h2, h3']
    exact aPost_same hB rfl (nilV_refl _) (by simp) (fin _ (by unfold wrongM; rw [if_neg (by omega), if_pos (.inl h3)]))
  have h3' : ¬ (256 : Int) < r.reason.length := by omega
  simp [Tryz.ntmps44, Tryz.results44, List.replicate_succ, h1, h2, h3']
  refine isField_pc E _ _ r.reason (by simp only [cap]; omega) ?_
  cases hf : fldB r.reason with
  | false =>
    simp
    exact aPost_same hB rfl (nilV_refl _) (by simp) (fin _ (by unfold wrongM; rw [if_neg (by omega), if_pos (.inr hf)]))
  | true =>
    have hW : wrongM r h = if (r.fields.any (framedB r.status)) = true then 123
        else if ((neverS r.status && (decide (r.body ≠ []) || h.chunked)) || ((h.chunked && h.old) || (!h.chunked && (decide (h.sizes ≠ []) || decide (h.trailers ≠ []))))) = true then 123 else 0 := by
      unfold wrongM
      rw [if_neg (by omega), if_neg (by rw [hf]; simp; omega)]
    simp
    refine VL_go (wrInv r h H) (fun fr _ => r.fields.length - (ai (aget fr 28)).toNat) ⟨[], 0, by simp [hR, hM], by omega, by simp, fr_intro (by simp)⟩ ?_
    rintro fr H2 ⟨J, i, rfl, hi, hany, x, rfl⟩
    by_cases hil : i < r.fields.length
    · obtain ⟨f, hf2⟩ : ∃ f, r.fields[i]? = some f := ⟨_, List.getElem?_eq_getElem hil⟩
      have hat := flds_at hf2
      have hfm := fsz_mem hf2
      have hw : IntKind.i64.wrap ((i : Int) + 1) = i + 1 := wrap_in (by omega) (by omega)
      have hst := any_step (framedB r.status) r.fields i f hf2
      have hsp : framedB r.status f = true → wrongM r h = 123 := fun hp => by rw [hW, if_pos (any_stop _ _ _ _ hf2 hp)]
      have hfd : framedB r.status f = ((low f.name == low nCL) || ((low f.name == low nTE) || ((low f.name == low nCO) && r.status != 101))) := rfl
      simp [hil, hat, hR]
      refine osame_pc E _ _ f.name nCL (by simp only [cap]; omega) (by simp [nCL, cap]) ?_
      cases e1 : (low f.name == low nCL) with
      | true =>
        simp
        exact aPost_same hB rfl (nilV_refl _) (by simp) (fin _ (hsp (by rw [hfd, e1]; rfl)))
      | false =>
        simp
        refine osame_pc E _ _ f.name nTE (by simp only [cap]; omega) (by simp [nTE, cap]) ?_
        cases e2 : (low f.name == low nTE) with
        | true =>
          simp
          exact aPost_same hB rfl (nilV_refl _) (by simp) (fin _ (hsp (by rw [hfd, e1, e2]; rfl)))
        | false =>
          simp
          refine osame_pc E _ _ f.name nCO (by simp only [cap]; omega) (by simp [nCO, cap]) ?_
          cases e3 : (low f.name == low nCO) with
          | false =>
            simp [hw]
            exact Kloop_normal ⟨J ++ [[.str f.name, .str f.value]], i + 1, by simp [hR], by omega, by rw [hst, hany, hfd, e1, e2, e3]; rfl, fr_intro (by simp)⟩ (by simp; omega)
          | true =>
            cases e4 : (r.status != 101) with
            | true =>
              simp [e4]
              exact aPost_same hB rfl (nilV_refl _) (by simp) (fin _ (hsp (by rw [hfd, e1, e2, e3, e4]; rfl)))
            | false =>
              simp [e4, hw]
              exact Kloop_normal ⟨J ++ [[.str f.name, .str f.value]], i + 1, by simp [hR], by omega, by rw [hst, hany, hfd, e1, e2, e3, e4]; rfl, fr_intro (by simp)⟩ (by simp; omega)
    · obtain rfl : i = r.fields.length := by omega
      rw [List.take_of_length_le (Nat.le_refl _)] at hany
      rw [if_neg (by rw [hany]; simp)] at hW
      have hw2 : IntKind.i64.wrap ((h.sizes.length : Int) + h.trailers.length) = h.sizes.length + h.trailers.length := wrap_in (by omega) (by omega)
      have hst : (decide (h.sizes ≠ []) || decide (h.trailers ≠ [])) = decide ((0 : Int) < h.sizes.length + h.trailers.length) := by
        rw [Bool.eq_iff_iff]
        simp
        rw [← List.length_eq_zero_iff, ← List.length_eq_zero_iff]
        omega
      rw [hst] at hW
      simp [hR, hM]
      refine never_pc E _ _ r.status ?_
      cases hn : neverS r.status with
      | true =>
        by_cases hb : r.body = []
        · cases hc : h.chunked with
          | true =>
            simp [hb]
            exact aPost_same hB rfl (nilV_refl _) (by simp) (fin _ (by rw [hW, hn, hc]; simp))
          | false =>
            by_cases hz : (0 : Int) < h.sizes.length + h.trailers.length
            · simp [hb, hw2, hz]
              exact aPost_same hB rfl (nilV_refl _) (by simp) (fin _ (by rw [hW, hc, decide_eq_true hz]; simp))
            · simp [hb, hw2, hz]
              exact aPost_same hB rfl (nilV_refl _) (by simp) (fin _ (by rw [hW, hc, decide_eq_false hz, hb]; simp))
        · have hb2 : (r.body != []) = true := by simpa using hb
          simp [hb2]
          exact aPost_same hB rfl (nilV_refl _) (by simp) (fin _ (by rw [hW, hn, decide_eq_true hb]; simp))
      | false =>
        cases hc : h.chunked with
        | true =>
          cases ho : h.old with
          | true =>
            simp
            exact aPost_same hB rfl (nilV_refl _) (by simp) (fin _ (by rw [hW, hc, ho]; simp))
          | false =>
            simp
            exact aPost_same hB rfl (nilV_refl _) (by simp) (fin _ (by rw [hW, hn, hc, ho]; simp))
        | false =>
          by_cases hz : (0 : Int) < h.sizes.length + h.trailers.length
          · simp [hw2, hz]
            exact aPost_same hB rfl (nilV_refl _) (by simp) (fin _ (by rw [hW, hc, decide_eq_true hz]; simp))
          · simp [hw2, hz]
            exact aPost_same hB rfl (nilV_refl _) (by simp) (fin _ (by rw [hW, hc, decide_eq_false hz, hn]; simp))
end
end Go.Proofs.YtcdkcaocfioigaaGreatDoor

set_option linter.unusedVariables false
set_option linter.unnecessarySimpa false
set_option linter.unusedSimpArgs false
set_option linter.unusedSectionVars false
set_option maxRecDepth 100000
namespace Go.Proofs.YtcdkcaocfioigaaGreatDoor
open Go Go.RowKit Go.Proofs

@[irreducible] def moreX (r : Resp) (h : Mann) : List Fld := if h.chunked = true then [⟨nTE, vChunked⟩] else if neverS r.status = true then [] else [⟨nCL, Go.Lib.itoa r.body.length⟩]
@[irreducible] def moreY (r : Resp) (h : Mann) : List Fld := if 199 < r.status ∧ h.close = true then [⟨nCO, vClose⟩] else if 199 < r.status ∧ h.old = true then [⟨nCO, vKeep⟩] else []
theorem moreM_eq (r : Resp) (h : Mann) : moreM r h = r.fields ++ (moreX r h ++ moreY r h) := by unfold moreM moreX moreY; exact Eq.refl _
section
variable {r : Resp} {h : Mann}
theorem moreX_c (hc : h.chunked = true) : moreX r h = [⟨nTE, vChunked⟩] := by unfold moreX; rw [if_pos hc]
theorem moreX_n (hc : h.chunked = false) (hn : neverS r.status = true) : moreX r h = [] := by unfold moreX; rw [if_neg (by rw [hc]; simp), if_pos hn]
theorem moreX_l (hc : h.chunked = false) (hn : neverS r.status = false) : moreX r h = [⟨nCL, Go.Lib.itoa r.body.length⟩] := by unfold moreX; rw [if_neg (by rw [hc]; simp), if_neg (by rw [hn]; simp)]
theorem moreY_s (hs : ¬ 199 < r.status) : moreY r h = [] := by unfold moreY; rw [if_neg (fun e => hs e.1), if_neg (fun e => hs e.1)]
theorem moreY_c (hs : 199 < r.status) (hc : h.close = true) : moreY r h = [⟨nCO, vClose⟩] := by unfold moreY; rw [if_pos ⟨hs, hc⟩]
theorem moreY_o (hs : 199 < r.status) (hc : h.close = false) (ho : h.old = true) : moreY r h = [⟨nCO, vKeep⟩] := by unfold moreY; rw [if_neg (by rw [hc]; simp), if_pos ⟨hs, ho⟩]
theorem moreY_n (hc : h.close = false) (ho : h.old = false) : moreY r h = [] := by unfold moreY; rw [if_neg (by rw [hc]; simp), if_neg (by rw [ho]; simp)]
end
section
variable (E : Env) (H : Hp) (Q : AV → Hp → Prop)
theorem fsz_app (a b : List Fld) : fsz (a ++ b) = fsz a + fsz b := by
  induction a with
  | nil => simp [fsz]
  | cons x a ih => simp [fsz, ih]; omega
theorem reason_len (s : Int) : (reasonB s).length ≤ 100 := by
  have key : ∀ (t : List (Int × List UInt8)) (d : List UInt8), (∀ p ∈ t, p.2.length ≤ 100) → d.length ≤ 100 → ((look t s).getD d).length ≤ 100 := fun t d h hd => by
    unfold look
    cases hf : t.find? (fun p => p.1 == s) with
    | none => exact hd
    | some p => exact h p (List.mem_of_find?_eq_some hf)
  exact key _ _ (by decide) (key _ _ (by decide) (key _ _ (by decide) (by simp)))
theorem moreM_sz (r : Resp) (h : Mann) (hok : okR r h) : fsz (moreM r h) + (moreM r h).length ≤ 1048577 + 1000 := by
  obtain ⟨o1, o2, o3, o4, o5, o6, ⟨o7, o8⟩, o9⟩ := hok
  have hi := (itoa_le (r.body.length : Int) (by omega) (by omega)).1
  unfold moreM
  rw [fsz_app, fsz_app, List.length_append, List.length_append]
  have h1 : ∀ a : List Fld, a = [⟨nTE, vChunked⟩] ∨ a = [] ∨ a = [⟨nCL, Go.Lib.itoa r.body.length⟩] → fsz a + a.length ≤ 100 := fun a ha => by
    rcases ha with rfl | rfl | rfl
    · simp [fsz, nTE, vChunked]
    · simp [fsz]
    · simp [fsz, nCL]; omega
  have h2 : ∀ a : List Fld, a = [⟨nCO, vClose⟩] ∨ a = [⟨nCO, vKeep⟩] ∨ a = [] → fsz a + a.length ≤ 100 := fun a ha => by
    rcases ha with rfl | rfl | rfl
    · simp [fsz, nCO, vClose]
    · simp [fsz, nCO, vKeep]
    · simp [fsz]
  have k1 := h1 (if h.chunked = true then [⟨nTE, vChunked⟩] else if neverS r.status = true then [] else [⟨nCL, Go.Lib.itoa r.body.length⟩]) (by split; exact .inl rfl; split; exact .inr (.inl rfl); exact .inr (.inr rfl))
  have k2 := h2 (if 199 < r.status ∧ h.close = true then [⟨nCO, vClose⟩] else if 199 < r.status ∧ h.old = true then [⟨nCO, vKeep⟩] else []) (by split; exact .inl rfl; split; exact .inr (.inl rfl); exact .inr (.inr rfl))
  omega
theorem printF_le {l : List Fld} : (printF l).1.length ≤ fsz l + 4 * l.length := by
  unfold printF
  split
  · simp
  · split
    · simp
    · exact linesT_le l
theorem headP_bad {r : Resp} {h : Mann} (hw : wrongM r h = 0) (hp : (printF (moreM r h)).2 ≠ 0) : headP r h = ([], (printF (moreM r h)).2) := by unfold headP; rw [if_neg (by rw [hw]; simp), if_pos hp]
theorem headP_ok {r : Resp} {h : Mann} (hw : wrongM r h = 0) (hp : (printF (moreM r h)).2 = 0) : headP r h = (verT ++ ([49, 32] ++ (Go.Lib.itoa r.status ++ ([32] ++ ((if r.reason = [] then reasonB r.status else r.reason) ++ ([13, 10] ++ ((printF (moreM r h)).1 ++ [13, 10])))))), 0) := by
  unfold headP; rw [if_neg (by rw [hw]; simp), if_neg (by rw [hp]; simp)]
theorem fl_facts {r : Resp} {h : Mann} (hok : okR r h) : r.fields.length + 1 ≤ maxLen ∧ (r.fields.length + 1) * 32 ≤ 140737488355328 ∧ r.fields.length + 1 + 1 ≤ maxLen ∧ (r.fields.length + 1 + 1) * 32 ≤ 140737488355328 := by
  have := hok.1
  unfold maxLen
  omega
theorem more_ok {r : Resp} {h : Mann} (hok : okR r h) : fsz (moreM r h) + (moreM r h).length ≤ 16777216 := Nat.le_trans (moreM_sz r h hok) (by omega)
theorem lines_ok {r : Resp} {h : Mann} (hok : okR r h) : (printF (moreM r h)).1.length ≤ 16777216 := by
  have h1 := moreM_sz r h hok
  have h2 := printF_le (l := moreM r h)
  omega
theorem fprint_pc' (hE : SE E) (l : List Fld) (L : List (List AV)) (hL : L = flds l) (hl : fsz l + l.length ≤ 16777216) (hQ : Q (.tup [.str (printF l).1, .int .i64 (printF l).2]) H) : PC Tryz.prog E 48 [.sl false 2 L] H Q := hL ▸ fprint_pc E H Q hE l hl hQ
set_option maxHeartbeats 2000000 in
theorem head_pc (hE : SM E) (r : Resp) (h : Mann) (hok : okR r h) (hQ : Q (.tup [.str (headP r h).1, .int .i64 (headP r h).2]) H) : PC Tryz.prog E 14 [.agg r.avs, .agg h.avs] H Q := by
  have hok' := hok
  obtain ⟨o1, o2, o3, o4, o5, o6, ⟨o7, o8⟩, o9⟩ := hok'
  have fin : ∀ a : List UInt8 × Int, headP r h = a → Q (.tup [.str a.1, .int .i64 a.2]) H := fun a ha => ha ▸ hQ
  have hR : r.avs = [.int .i64 r.status, .str r.reason, .sl false 2 (flds r.fields), .str r.body] := rfl
  have hM : h.avs = [.str h.method, .bool h.close, .bool h.old, .bool h.chunked, .sl false 1 (ints h.sizes), .sl false 2 (flds h.trailers)] := rfl
  rw [hR, hM]
  refine pc_enter Tryz.func14 rfl [22, 30, 45, 56] [] (by kernel_rfl) (fun hB => ?_)
  simp [Tryz.ntmps14, Tryz.results14, List.replicate_succ]
  refine wrong_pc E _ _ r h hok ?_
  by_cases hw : wrongM r h = 0
  rotate_left
  · have hw2 : (wrongM r h != 0) = true := by simpa using hw
    simp [hw2]
    exact aPost_same hB (v0 := .tup [.str [], .int .i64 (wrongM r h)]) (by simp) (nilV_refl _) (by simp) (fin ([], wrongM r h) (by unfold headP; rw [if_pos hw]))
  obtain ⟨m1, m2, m3, m4⟩ := fl_facts hok
  simp [hw]
  refine cloneOwn_pc E _ _ r.fields (by omega) ?_
  cases hc : h.chunked
  case' true =>
    have hX := moreX_c (r := r) hc
    simp [m1, m2]
  case' false =>
    simp
    refine never_pc E _ _ r.status ?_
    cases hn : neverS r.status
    case' true =>
      have hX := moreX_n hc hn
      simp
    case' false =>
      have hX := moreX_l hc hn
      simp
      refine itoa_pc E _ _ hE.2 r.body.length (by omega) (by omega) ?_
      simp [m1, m2]
  all_goals
    by_cases h199 : 199 < r.status
    case' neg =>
      have hY := moreY_s (h := h) h199
      simp [h199]
    case' pos =>
      cases hcl : h.close
      case' true =>
        have hY := moreY_c h199 hcl
        simp [h199, m1, m2, m3, m4]
      case' false =>
        cases hol : h.old
        case' true =>
          have hY := moreY_o h199 hcl hol
          simp [h199, m1, m2, m3, m4]
        case' false =>
          have hY := moreY_n (r := r) hcl hol
          simp [h199]
  all_goals
    refine fprint_pc' E _ _ hE.1.1 (moreM r h) _ ?_ (more_ok hok) ?_
    · rw [moreM_eq, hX, hY]
      simp [flds, nTE, nCL, nCO, vChunked, vClose, vKeep]
  all_goals
    clear hX hY m1 m2 m3 m4
    have hl := lines_ok hok
    have hrl := reason_len r.status
    have hil := (itoa_le r.status o7 o8).1
    simp
    by_cases hp : (printF (moreM r h)).2 = 0
    rotate_left
    · have hp2 : ((printF (moreM r h)).2 != 0) = true := by simpa using hp
      simp [hp2]
      exact aPost_same hB (v0 := .tup [.str [], .int .i64 (printF (moreM r h)).2]) (by simp) (nilV_refl _) (by simp) (fin ([], (printF (moreM r h)).2) (headP_bad hw hp))
    have hA := headP_ok hw hp
    generalize (printF (moreM r h)).1 = L at *
    generalize hS : Go.Lib.itoa r.status = S at *
    by_cases hre : r.reason = []
    case' pos =>
      rw [if_pos hre] at hA
      simp [hp, hre]
      refine reason_pc E _ _ r.status ?_
      generalize reasonB r.status = R at *
      simp
    case' neg =>
      rw [if_neg hre] at hA
      have hre2 : (r.reason == []) = false := by simpa using hre
      simp [hp, hre2]
  all_goals
    refine itoa_pc E _ _ hE.2 r.status o7 o8 ?_
    rw [hS]
    have k1 : 9 + S.length ≤ maxLen := by unfold maxLen; omega
    have hmx : ∀ n : Nat, n ≤ 100000000 → n ≤ maxLen := fun n hn => by unfold maxLen; omega
    simp
    simp (disch := omega) only [hmx, if_true, if_pos]
    simp
    simp (disch := omega) only [hmx, if_true, if_pos]
    simp
    simp (disch := omega) only [hmx, if_true, if_pos]
    simp
    simp (disch := omega) only [hmx, if_true, if_pos]
    simp
    simp (disch := omega) only [hmx, if_true, if_pos]
    simp
    simp (disch := omega) only [hmx, if_true, if_pos]
    simp
  all_goals
    first
      | exact aPost_same hB (v0 := .tup [.str (verT ++ ([49, 32] ++ (S ++ ([32] ++ (R ++ ([13, 10] ++ (L ++ [13, 10]))))))), .int .i64 0]) (by simp [verT]) (nilV_refl _) (by simp) (fin (_, 0) hA)
      | exact aPost_same hB (v0 := .tup [.str (verT ++ ([49, 32] ++ (S ++ ([32] ++ (r.reason ++ ([13, 10] ++ (L ++ [13, 10]))))))), .int .i64 0]) (by simp [verT]) (nilV_refl _) (by simp) (fin (_, 0) hA)
end
end Go.Proofs.YtcdkcaocfioigaaGreatDoor

set_option linter.unusedVariables false
set_option linter.unnecessarySimpa false
set_option linter.unusedSimpArgs false
set_option linter.unusedSectionVars false
set_option maxRecDepth 100000
namespace Go.Proofs.YtcdkcaocfioigaaGreatDoor
open Go Go.RowKit Go.Proofs

theorem headP_le {r : Resp} {h : Mann} (hok : okR r h) : (headP r h).1.length ≤ 20000000 := by
  have hl := lines_ok hok
  have hrl := reason_len r.status
  have hil := (itoa_le r.status hok.2.2.2.2.2.2.1.1 hok.2.2.2.2.2.2.1.2).1
  have hr := hok.2.2.2.1
  by_cases hw : wrongM r h = 0
  · by_cases hp : (printF (moreM r h)).2 = 0
    · rw [headP_ok hw hp]
      generalize (printF (moreM r h)).1 = L at *
      generalize Go.Lib.itoa r.status = S at *
      simp only [List.length_append, verT, List.length_cons, List.length_nil]
      split <;> omega
    · rw [headP_bad hw hp]; simp
  · unfold headP; rw [if_pos hw]; simp
theorem enc_le {r : Resp} {h : Mann} (hok : okR r h) : (encAns r.body h.sizes h.trailers).1.length ≤ 40000000 := by
  obtain ⟨o1, o2, o3, o4, o5, o6, o7, o9⟩ := hok
  unfold encAns
  split
  · simp
  · split
    · simp
    · rename_i h1 h2
      have hns : ∀ z ∈ h.sizes, 1 ≤ z := fun z hz => by
        rw [Bool.not_eq_false] at h1
        have := List.all_eq_true.1 h1 z hz
        simpa using this
      have hpf : (piecesB r.body h.sizes).flatten = r.body := pieces_flat _ _
      have htot := chunksT_le (piecesB r.body h.sizes) (pieces_ne h.sizes r.body hns) (by rw [hpf]; omega)
      have hlin := linesT_le h.trailers
      rw [hpf] at htot
      unfold encT
      simp
      omega
section
variable (E : Env) (H : Hp) (Q : AV → Hp → Prop)
theorem mprint_pc (hE : SM E) (r : Resp) (h : Mann) (hok : okR r h) (hQ : Q (.tup [.str (printP r h).1, .int .i64 (printP r h).2]) H) : PC Tryz.prog E 18 [.agg r.avs, .agg h.avs] H Q := by
  have hhl := headP_le hok
  have hel := enc_le hok
  have hok' := hok
  obtain ⟨o1, o2, o3, o4, o5, o6, ⟨o7, o8⟩, o9⟩ := hok'
  have fin : ∀ a : List UInt8 × Int, printP r h = a → Q (.tup [.str a.1, .int .i64 a.2]) H := fun a ha => ha ▸ hQ
  have hR : r.avs = [.int .i64 r.status, .str r.reason, .sl false 2 (flds r.fields), .str r.body] := rfl
  have hM : h.avs = [.str h.method, .bool h.close, .bool h.old, .bool h.chunked, .sl false 1 (ints h.sizes), .sl false 2 (flds h.trailers)] := rfl
  rw [hR, hM]
  refine pc_enter Tryz.func18 rfl [] [] (by kernel_rfl) (fun hB => ?_)
  simp [Tryz.ntmps18, Tryz.results18, List.replicate_succ]
  refine head_pc E _ _ hE r h hok ?_
  have hP : printP r h = if (headP r h).2 ≠ 0 then ([], (headP r h).2) else if 65536 < (headP r h).1.length then ([], 125)
      else if h.chunked = true ∧ (encAns r.body h.sizes h.trailers).2 ≠ 0 then ([], (encAns r.body h.sizes h.trailers).2)
      else if bodylessB h.method r.status = true then ((headP r h).1, 0)
      else ((headP r h).1 ++ (if h.chunked = true then (encAns r.body h.sizes h.trailers).1 else r.body), 0) := by unfold printP; exact Eq.refl _
  generalize headP r h = hd at *
  obtain ⟨hd, he⟩ := hd
  simp only at hP hhl ⊢
  by_cases h0 : he = 0
  rotate_left
  · rw [if_pos h0] at hP
    have h0' : (he != 0) = true := by simpa using h0
    simp [h0']
    exact aPost_same hB (v0 := .tup [.str [], .int .i64 he]) (by simp) (nilV_refl _) (by simp) (fin _ hP)
  rw [if_neg (by simp [h0])] at hP
  by_cases h1 : 65536 < hd.length
  · rw [if_pos h1] at hP
    have h1' : (65536 : Int) < hd.length := by omega
    simp [h0, h1']
    exact aPost_same hB (v0 := .tup [.str [], .int .i64 125]) (by simp) (nilV_refl _) (by simp) (fin _ hP)
  rw [if_neg h1] at hP
  have h1' : ¬ (65536 : Int) < hd.length := by omega
  cases hc : h.chunked with
  | true =>
    simp [h0, h1']
    refine encode_pc E _ _ hE.1 r.body h.sizes h.trailers o5 o3 o2 o9 ?_
    generalize encAns r.body h.sizes h.trailers = en at *
    obtain ⟨en, ee⟩ := en
    simp only at hP hel ⊢
    by_cases h2 : ee = 0
    rotate_left
    · rw [if_pos ⟨hc, h2⟩] at hP
      have h2' : (ee != 0) = true := by simpa using h2
      simp [h2']
      exact aPost_same hB (v0 := .tup [.str [], .int .i64 ee]) (by simp) (nilV_refl _) (by simp) (fin _ hP)
    rw [if_neg (fun e => e.2 h2), if_pos hc] at hP
    simp [h2]
    refine bodyless_pc E _ _ h.method r.status ?_
    cases hb : bodylessB h.method r.status with
    | true =>
      rw [if_pos hb] at hP
      simp
      exact aPost_same hB (v0 := .tup [.str hd, .int .i64 0]) (by simp) (nilV_refl _) (by simp) (fin _ hP)
    | false =>
      rw [if_neg (by rw [hb]; simp)] at hP
      have m1 : hd.length + en.length ≤ maxLen := by unfold maxLen; omega
      simp [m1]
      exact aPost_same hB (v0 := .tup [.str (hd ++ en), .int .i64 0]) (by simp) (nilV_refl _) (by simp) (fin _ hP)
  | false =>
    rw [if_neg (fun e => by rw [hc] at e; cases e.1), if_neg (show ¬ h.chunked = true by rw [hc]; simp)] at hP
    simp [h0, h1']
    refine bodyless_pc E _ _ h.method r.status ?_
    cases hb : bodylessB h.method r.status with
    | true =>
      rw [if_pos hb] at hP
      simp
      exact aPost_same hB (v0 := .tup [.str hd, .int .i64 0]) (by simp) (nilV_refl _) (by simp) (fin _ hP)
    | false =>
      rw [if_neg (by rw [hb]; simp)] at hP
      have m1 : hd.length + r.body.length ≤ maxLen := by unfold maxLen; omega
      simp [m1]
      exact aPost_same hB (v0 := .tup [.str (hd ++ r.body), .int .i64 0]) (by simp) (nilV_refl _) (by simp) (fin _ hP)
end
end Go.Proofs.YtcdkcaocfioigaaGreatDoor

set_option linter.unusedVariables false
set_option linter.unnecessarySimpa false
set_option linter.unusedSimpArgs false
set_option linter.unusedSectionVars false
set_option maxRecDepth 100000
namespace Go.Proofs.YtcdkcaocfioigaaGreatDoor
open Go Go.RowKit Go.Proofs

@[simp] theorem ints_length' (l : List Int) : (ints l).length = l.length := by simp [ints]
section
variable (E : Env) (H : Hp) (Q : AV → Hp → Prop)
end
end Go.Proofs.YtcdkcaocfioigaaGreatDoor

set_option linter.unusedVariables false
set_option linter.unnecessarySimpa false
set_option linter.unusedSimpArgs false
set_option linter.unusedSectionVars false
set_option maxRecDepth 100000
namespace Go.Proofs.YtcdkcaocfioigaaGreatDoor
open Go Go.RowKit Go.Proofs Go.Deep

end Go.Proofs.YtcdkcaocfioigaaGreatDoor

set_option linter.unusedVariables false
set_option linter.unnecessarySimpa false
set_option linter.unusedSimpArgs false
set_option linter.unusedSectionVars false
set_option maxRecDepth 100000
namespace Go.Proofs.YtcdkcaocfioigaaGreatDoor
open Go Go.RowKit Go.Proofs

@[simp] theorem strRows_length (l : List (List UInt8)) : (strRows l).length = l.length := by simp [strRows]
section
variable (E : Env) (H : Hp) (Q : AV → Hp → Prop)
end
end Go.Proofs.YtcdkcaocfioigaaGreatDoor

set_option linter.unusedVariables false
set_option linter.unnecessarySimpa false
set_option linter.unusedSimpArgs false
set_option linter.unusedSectionVars false
set_option maxRecDepth 100000
namespace Go.Proofs.YtcdkcaocfioigaaGreatDoor
open Go Go.RowKit Go.Proofs

section
variable (E : Env) (H : Hp) (Q : AV → Hp → Prop)
theorem dalike_pc (a b : List UInt8) (ha : a.length ≤ cap) (hb : b.length ≤ cap) (hQ : Q (.bool (lowEq a b)) H) : PC Tryz.prog E 77 [.str a, .str b] H Q := by
  refine pc_enter Tryz.func77 rfl [] [] (by kernel_rfl) (fun hB => ?_)
  simp [Tryz.ntmps77, Tryz.results77, List.replicate_succ]
  refine ref_lower_pc E _ _ a ha ?_
  simp
  refine ref_lower_pc E _ _ b hb ?_
  simp
  exact aPost_same0 hB rfl (nilV_refl _) (by simp) hQ
end
end Go.Proofs.YtcdkcaocfioigaaGreatDoor

set_option linter.unusedVariables false
set_option linter.unnecessarySimpa false
set_option linter.unusedSimpArgs false
set_option linter.unusedSectionVars false
set_option maxRecDepth 100000
namespace Go.Proofs.YtcdkcaocfioigaaGreatDoor
open Go Go.RowKit Go.Proofs

theorem keep_snoc (out : List (List UInt8)) (x : List UInt8) : keepB (out ++ [x]) = keepB out ++ (if (trimB x).isEmpty then [] else [trimB x]) := by
  cases h : (trimB x).isEmpty <;> simp [keepB, h]
section
variable (E : Env) (H : Hp) (Q : AV → Hp → Prop)
theorem dall_pc (l : List Fld) (n : List UInt8) (hl : fsz l + l.length ≤ 16777216) (hn : n.length ≤ cap) (hQ : Q (.sl false 1 (strs (allB l n))) H) : PC Tryz.prog E 150 [.sl false 2 (flds l), .str n] H Q := by
  refine pc_enter Tryz.func150 rfl [18] [] (by kernel_rfl) (fun hB => ?_)
  simp [Tryz.ntmps150, Tryz.results150, List.replicate_succ]
  refine VL_nil 5 1 (by rfl) ?_
  simp only [List.set_cons_succ, List.set_cons_zero]
  refine VL_go (allInv l n H) (fun fr _ => l.length - (ai (aget fr 10)).toNat) ⟨[], 0, by simp, by omega, fr_intro (by simp [allB, strs])⟩ ?_
  rintro fr H' ⟨J, i, rfl, hi, x, rfl⟩
  by_cases h : i < l.length
  · obtain ⟨f, hf⟩ : ∃ f, l[i]? = some f := ⟨_, List.getElem?_eq_getElem h⟩
    have hat := flds_at hf
    have hfm := fsz_mem hf
    have hw : IntKind.i64.wrap ((i : Int) + 1) = i + 1 := wrap_in (by omega) (by omega)
    have hst := allB_step l n i f hf
    have hal := allB_len (l.take i) n
    rw [List.length_take] at hal
    simp [h, hat]
    refine dalike_pc E _ _ f.name n (by simp only [cap]; omega) hn ?_
    cases he : lowEq f.name n with
    | false =>
      rw [if_neg (by rw [he]; simp), List.append_nil] at hst
      simp [hw]
      exact Kloop_normal ⟨_, i + 1, rfl, by omega, fr_intro (by simp [hst])⟩ (by simp; omega)
    | true =>
      rw [if_pos he] at hst
      have m1 : (allB (l.take i) n).length + 1 ≤ maxLen := by unfold maxLen; omega
      have m2 : ((allB (l.take i) n).length + 1) * 16 ≤ 140737488355328 := by omega
      have hsn := strs_snoc (allB (l.take i) n) f.value
      rw [← hst] at hsn
      simp [m1, m2, hsn, hw]
      exact Kloop_normal ⟨_, i + 1, rfl, by omega, fr_intro (by simp)⟩ (by simp; omega)
  · obtain rfl : i = l.length := by omega
    simp
    exact aPost_same hB (v0 := .sl false 1 (strs (allB l n))) (by simp) (nilV_refl _) (by simp [bnd_strs]) hQ
def elInv (l : List UInt8) (H : Hp) (fr : List AV) (H' : Hp) : Prop := H' = H ∧ ∃ (f i : Nat) (out : List (List UInt8)), ((f ≤ i ∧ i ≤ l.length ∧ out.length ≤ i ∧ cutIs l out f i) ∨ (i = l.length + 1 ∧ cut [] l = some out)) ∧
  ∃ x : Nat → AV, fr = [.str l, x 1, x 2, x 3, .sl true 1 (strs (keepB out)), .int .i64 f, .int .i64 i, x 7, x 8, x 9, x 10, x 11, x 12, x 13, x 14, x 15, x 16, x 17, x 18, x 19, x 20, x 21, x 22, x 23, x 24, x 25, x 26, x 27, x 28, x 29, x 30, x 31, x 32, x 33, x 34, x 35, x 36, x 37, x 38, x 39, x 40, x 41, x 42, x 43, x 44, x 45, x 46, x 47, x 48, x 49, x 50, x 51, x 52, x 53, x 54, x 55, x 56, x 57, x 58]
set_option maxHeartbeats 1000000 in
theorem delems_pc (l : List UInt8) (hl : l.length ≤ 16777216) (hQ1 : listB l = none → Q (.tup [.sl false 1 [], .bool false]) H) (hQ2 : ∀ y, listB l = some y → Q (.tup [.sl false 1 (strs y), .bool true]) H) : PC Tryz.prog E 175 [.str l] H Q := by
  refine pc_enter Tryz.func175 rfl [52] [] (by kernel_rfl) (fun hB => ?_)
  simp [Tryz.ntmps175, Tryz.results175, List.replicate_succ]
  refine VL_nil 4 1 (by rfl) ?_
  simp only [List.set_cons_succ, List.set_cons_zero]
  refine VL_go (elInv l H) (fun fr _ => l.length + 1 - (ai (aget fr 6)).toNat) ⟨rfl, 0, 0, [], .inl ⟨by omega, by omega, by simp, cutIs_start l⟩, fr_intro (by simp [strs, keepB])⟩ ?_
  rintro fr H' ⟨rfl, f, i, out, ⟨hf, hi, hout, hc⟩ | ⟨rfl, hc⟩, x, rfl⟩
  · have hkl := keepB_le out
    have hm : (keepB out).length + 1 ≤ maxLen ∧ ((keepB out).length + 1) * 16 ≤ 140737488355328 := by unfold maxLen; omega
    have hle : (i : Int) ≤ l.length := by omega
    have hw : IntKind.i64.wrap ((i : Int) + 1) = i + 1 := wrap_in (by omega) (by omega)
    have pl : ((l.drop f).take (i - f)).length ≤ cap := by rw [List.length_take, List.length_drop]; simp only [cap]; omega
    have hst := keep_snoc out ((l.drop f).take (i - f))
    by_cases h : i < l.length
    rotate_left
    · obtain rfl : i = l.length := by omega
      have hcut := cutIs_end hc hf (Nat.le_refl _)
      have hsl : (l.drop f).take (l.length - f) = l.drop f := List.take_of_length_le (by rw [List.length_drop]; omega)
      rw [hsl] at hcut pl hst
      simp [hf, hsl]
      refine ref_trim_pc E _ _ _ pl ?_
      cases ht : (trimB (l.drop f)).isEmpty
      · have hne : (trimB (l.drop f) != []) = true := by rw [len_ne _ 0, ht]; rfl
        rw [ht] at hst
        have hsn := strs_snoc (keepB out) (trimB (l.drop f))
        simp [hne, hm, hw]
        exact Kloop_normal ⟨rfl, l.length + 1, l.length + 1, _, .inr ⟨rfl, hcut⟩, fr_intro (by rw [hst]; simp [strs])⟩ (by simp)
      · have hne : (trimB (l.drop f) != []) = false := by rw [len_ne _ 0, ht]; rfl
        rw [ht] at hst
        simp [hne, hw]
        exact Kloop_normal ⟨rfl, l.length + 1, l.length + 1, _, .inr ⟨rfl, hcut⟩, fr_intro (by rw [hst]; simp [strs])⟩ (by simp)
    obtain ⟨b, hb⟩ : ∃ b, l[i]? = some b := ⟨_, List.getElem?_eq_getElem h⟩
    have hat := lat_eq hb
    have hbn := b.toNat_lt
    have t1 : ((i : Int) == (l.length : Int)) = false := by simp; omega
    by_cases b34 : b.toNat = 34
    · have hx34 : b = 34 := UInt8.toNat_inj.1 b34
      have hb' : l[i]? = some 34 := by rw [hb, hx34]
      have t2 : ((b.toNat : Int) == 34) = true := by simp; omega
      have hd : (l.drop i).take (l.length - i) = l.drop i := List.take_of_length_le (by rw [List.length_drop]; omega)
      simp [h, hat, t2, hd, hi]
      refine quoted_pc E _ _ (l.drop i) (by rw [List.length_drop]; omega) (by rw [List.getElem?_drop]; exact hb') ?_
      cases hu : unquote (l.drop i) with
      | none =>
        have ha : unqAns (l.drop i) = ([], 0, 13) := by unfold unqAns; rw [hu]
        have hbad := cutIs_bad hc hf hb' hu
        simp [ha]
        exact aPost_same0 hB (v0 := .tup [.nil, .bool false]) (by simp) (nilV_tup2 1 _ rfl) (by simp) (hQ1 (by unfold listB; rw [hbad]; rfl))
      | some p =>
        obtain ⟨y, k⟩ := p
        have ha : unqAns (l.drop i) = (y, (k : Int), 0) := by unfold unqAns; rw [hu]
        have hk := unquote_le hu
        rw [List.length_drop] at hk
        have hk0 : ((k : Int) == 0) = false := by rw [beq_eq_false_iff_ne]; omega
        have hw1 : IntKind.i64.wrap ((k : Int) - 1) = (k : Int) - 1 := wrap_in (by omega) (by omega)
        have hw2 : IntKind.i64.wrap ((i : Int) + ((k : Int) - 1)) = (i : Int) + ((k : Int) - 1) := wrap_in (by omega) (by omega)
        have hw3 : IntKind.i64.wrap ((i : Int) + ((k : Int) - 1) + 1) = ((i + k : Nat) : Int) := by rw [wrap_in (by omega) (by omega)]; omega
        simp [ha, hk0, hw1, hw2, hw3]
        exact Kloop_normal ⟨rfl, f, i + k, out, .inl ⟨by omega, by omega, by omega, cutIs_quote hc hf hb' hu⟩, fr_intro (by simp)⟩ (by simp; omega)
    · have t2 : ((b.toNat : Int) == 34) = false := by simp; omega
      have ne34 : b ≠ 34 := by rintro rfl; exact b34 rfl
      by_cases b44 : b.toNat = 44
      · have hx44 : b = 44 := UInt8.toNat_inj.1 b44
        have hb' : l[i]? = some 44 := by rw [hb, hx44]
        have t3 : ((b.toNat : Int) == 44) = true := by simp; omega
        have hcm := cutIs_comma hc hf hb'
        simp [h, hat, t1, t2, t3, hf, hi]
        refine ref_trim_pc E _ _ _ pl ?_
        cases ht : (trimB ((l.drop f).take (i - f))).isEmpty
        · have hne : (trimB ((l.drop f).take (i - f)) != []) = true := by rw [len_ne _ 0, ht]; rfl
          rw [ht] at hst
          simp [hne, hm, hw]
          exact Kloop_normal ⟨rfl, i + 1, i + 1, _, .inl ⟨by omega, by omega, by simp; omega, hcm⟩, fr_intro (by rw [hst]; simp [strs])⟩ (by simp; omega)
        · have hne : (trimB ((l.drop f).take (i - f)) != []) = false := by rw [len_ne _ 0, ht]; rfl
          rw [ht] at hst
          simp [hne, hw]
          exact Kloop_normal ⟨rfl, i + 1, i + 1, _, .inl ⟨by omega, by omega, by simp; omega, hcm⟩, fr_intro (by rw [hst]; simp [strs])⟩ (by simp; omega)
      · have t3 : ((b.toNat : Int) == 44) = false := by simp; omega
        have ne44 : b ≠ 44 := by rintro rfl; exact b44 rfl
        simp [h, hi, hat, t1, t2, t3, hw]
        exact Kloop_normal ⟨rfl, f, i + 1, out, .inl ⟨by omega, by omega, by omega, cutIs_plain hc hf hb ne44 ne34⟩, fr_intro (by simp)⟩ (by simp; omega)
  · have hgt : ¬ ((l.length : Int) + 1 ≤ l.length) := by omega
    have hq := hQ2 (keepB out) (by unfold listB; rw [hc]; rfl)
    simp [hgt]
    exact aPost_same0 hB (v0 := .tup [.sl false 1 (strs (keepB out)), .bool true]) (by simp) (nilV_refl _) (by simp [bnd_strs]) hq
def dlInv (vs : List (List UInt8)) (H : Hp) (fr : List AV) (H' : Hp) : Prop := H' = H ∧ ∃ (i : Nat) (acc : List (List UInt8)), i ≤ vs.length ∧ listsB (vs.take i) = some acc ∧
  ∃ x : Nat → AV, fr = [x 0, x 1, x 2, x 3, x 4, x 5, .sl true 1 (strs acc), x 7, x 8, x 9, x 10, x 11, x 12, .sl false 1 (strs vs), .int .i64 vs.length, .int .i64 i, x 16, x 17, x 18, x 19, x 20, x 21, x 22, x 23, x 24, x 25, x 26, x 27, x 28, x 29, x 30]
theorem dlist_pc (l : List Fld) (n : List UInt8) (hl : fsz l + l.length ≤ 4194304) (hn : n.length ≤ cap) (hQ : Q (.tup [.sl false 1 (strs (flistA l n).1), .int .i64 (flistA l n).2]) H) : PC Tryz.prog E 151 [.sl false 2 (flds l), .str n] H Q := by
  have hvz := vsz_allB l n
  have q1 : listsB (allB l n) = none → Q (.tup [.sl false 1 [], .int .i64 14]) H := fun h => by
    have : flistA l n = ([], 14) := by unfold flistA; rw [h]
    rw [this] at hQ; exact hQ
  have q2 : ∀ acc, listsB (allB l n) = some acc → Q (.tup [.sl false 1 (strs acc), .int .i64 0]) H := fun acc h => by
    have : flistA l n = (acc, 0) := by unfold flistA; rw [h]
    rw [this] at hQ; exact hQ
  refine pc_enter Tryz.func151 rfl [26] [] (by kernel_rfl) (fun hB => ?_)
  simp [Tryz.ntmps151, Tryz.results151, List.replicate_succ]
  refine dall_pc E _ _ l n (by omega) hn ?_
  generalize allB l n = vs at *
  have hvl := vsz_len vs
  simp
  refine VL_nil 6 1 (by rfl) ?_
  simp only [List.set_cons_succ, List.set_cons_zero]
  refine VL_go (dlInv vs H) (fun fr _ => vs.length - (ai (aget fr 15)).toNat) ⟨rfl, 0, [], by omega, rfl, fr_intro (by simp [strs])⟩ ?_
  rintro fr H' ⟨rfl, i, acc, hi, hacc, x, rfl⟩
  have hlen := listsB_len _ _ hacc
  have hvt := vsz_take vs i
  by_cases h : i < vs.length
  · obtain ⟨s, hs⟩ : ∃ s, vs[i]? = some s := ⟨_, List.getElem?_eq_getElem h⟩
    have hat := strs_at hs
    have hsz := vsz_mem hs
    have hw : IntKind.i64.wrap ((i : Int) + 1) = i + 1 := wrap_in (by omega) (by omega)
    simp [h, hat]
    refine delems_pc E _ _ s (by omega) (fun hb => ?_) (fun y hb => ?_)
    · simp
      exact aPost_same0 hB (v0 := .tup [.nil, .int .i64 14]) (by simp) (nilV_tup2 1 _ rfl) (by simp) (q1 (listsB_stop hs hb))
    · have hyl := listB_len hb
      have hst := listsB_step hs hacc hb
      have m1 : acc.length + y.length ≤ maxLen := by unfold maxLen; omega
      have m2 : (acc.length + y.length) * 16 ≤ 140737488355328 := by omega
      have hsa : strs acc ++ strs y = strs (acc ++ y) := by simp [strs]
      simp [m1, m2, hsa, hw]
      exact Kloop_normal ⟨rfl, i + 1, acc ++ y, by omega, hst, fr_intro (by simp)⟩ (by simp; omega)
  · obtain rfl : i = vs.length := by omega
    rw [List.take_of_length_le (Nat.le_refl _)] at hacc
    simp
    exact aPost_same0 hB (v0 := .tup [.sl false 1 (strs acc), .int .i64 0]) (by simp) (nilV_refl _) (by simp [bnd_strs]) (q2 acc hacc)
def dtInv (acc : List (List UInt8)) (H : Hp) (fr : List AV) (H' : Hp) : Prop := H' = H ∧ ∃ i : Nat, i ≤ acc.length ∧ (acc.take i).all tokB = true ∧
  ∃ x : Nat → AV, fr = [x 0, x 1, x 2, x 3, x 4, x 5, x 6, x 7, .sl true 1 (strs ((acc.take i).map low)), x 9, x 10, x 11, x 12, x 13, x 14, x 15, x 16, x 17, x 18, x 19, .sl false 1 (strs acc), .int .i64 acc.length, .int .i64 i, x 23, x 24, x 25, x 26, x 27, x 28, x 29, x 30, x 31, x 32, x 33, x 34, x 35]
theorem dtokens_pc (l : List Fld) (n : List UInt8) (hl : fsz l + l.length ≤ 4194304) (hn : n.length ≤ cap) (hQ : Q (.tup [.sl false 1 (strs (toksA l n).1), .int .i64 (toksA l n).2]) H) : PC Tryz.prog E 119 [.sl false 2 (flds l), .str n] H Q := by
  have hvz := vsz_allB l n
  refine pc_enter Tryz.func119 rfl [29] [] (by kernel_rfl) (fun hB => ?_)
  simp [Tryz.ntmps119, Tryz.results119, List.replicate_succ]
  refine dlist_pc E _ _ l n hl hn ?_
  cases hacc : listsB (allB l n) with
  | none =>
    have e1 : flistA l n = ([], 14) := by unfold flistA; rw [hacc]
    have e2 : toksA l n = ([], 14) := by unfold toksA; rw [hacc]
    rw [e2] at hQ
    rw [e1]
    simp
    exact aPost_same0 hB (v0 := .tup [.nil, .int .i64 14]) (by simp) (nilV_tup2 1 _ rfl) (by simp) hQ
  | some acc =>
    have e1 : flistA l n = (acc, 0) := by unfold flistA; rw [hacc]
    have e2 : toksA l n = if acc.all tokB = true then (acc.map low, 0) else ([], 10) := by unfold toksA; rw [hacc]
    have hmem := listsB_mem _ _ hacc
    have hlen := listsB_len _ _ hacc
    rw [e2] at hQ
    rw [e1]
    clear e1 e2 hacc
    simp
    refine VL_nil 8 1 (by rfl) ?_
    simp only [List.set_cons_succ, List.set_cons_zero]
    refine VL_go (dtInv acc H) (fun fr _ => acc.length - (ai (aget fr 22)).toNat) ⟨rfl, 0, by omega, by simp, fr_intro (by simp [strs])⟩ ?_
    rintro fr H' ⟨rfl, i, hi, hall, x, rfl⟩
    by_cases h : i < acc.length
    · obtain ⟨u, hu⟩ : ∃ u, acc[i]? = some u := ⟨_, List.getElem?_eq_getElem h⟩
      have hat := strs_at hu
      have hw : IntKind.i64.wrap ((i : Int) + 1) = i + 1 := wrap_in (by omega) (by omega)
      have hul := hmem u (List.mem_of_getElem? hu)
      simp [h, hat]
      refine ref_token_pc E _ _ u (by simp only [cap]; omega) ?_
      cases ht : tokB u with
      | false =>
        have e : acc.all tokB = false := all_stop tokB acc i u hu ht
        rw [if_neg (by rw [e]; simp)] at hQ
        simp
        exact aPost_same0 hB (v0 := .tup [.nil, .int .i64 10]) (by simp) (nilV_tup2 1 _ rfl) (by simp) hQ
      | true =>
        simp
        refine ref_lower_pc E _ _ u (by simp only [cap]; omega) ?_
        have m1 : (List.take i acc).length + 1 ≤ maxLen := by rw [List.length_take]; unfold maxLen; omega
        have m2 : ((List.take i acc).length + 1) * 16 ≤ 140737488355328 := by rw [List.length_take]; omega
        rw [List.length_take, Nat.min_eq_left hi] at m1 m2
        have hst : strs ((acc.take i).map low) ++ [[.str (low u)]] = strs ((acc.take (i + 1)).map low) := by
          rw [List.take_add_one, hu]; simp [strs]
        have hmin : min i acc.length = i := Nat.min_eq_left hi
        simp [m1, m2, hmin, hw]
        exact Kloop_normal ⟨rfl, i + 1, by omega, by rw [all_step tokB acc i u hu, hall, ht]; rfl, fr_intro (by rw [← hst]; simp)⟩ (by simp; omega)
    · obtain rfl : i = acc.length := by omega
      rw [List.take_of_length_le (Nat.le_refl _)] at hall
      rw [if_pos hall] at hQ
      simp
      exact aPost_same0 hB (v0 := .tup [.sl false 1 (strs (acc.map low)), .int .i64 0]) (by simp) (nilV_refl _) (by simp [bnd_strs]) hQ
end
end Go.Proofs.YtcdkcaocfioigaaGreatDoor

set_option linter.unusedVariables false
set_option linter.unnecessarySimpa false
set_option linter.unusedSimpArgs false
set_option linter.unusedSectionVars false
set_option maxRecDepth 100000
namespace Go.Proofs.YtcdkcaocfioigaaGreatDoor
open Go Go.RowKit Go.Proofs

set_option maxRecDepth 100000 in
theorem digd_all : ∀ n, n < 256 → (let b := UInt8.ofNat n; (48 ≤ b.toNat ∧ b.toNat ≤ 57 → dig b = (b.toNat : Int) - 48) ∧ (¬ (48 ≤ b.toNat ∧ b.toNat ≤ 57) → ¬ (0 ≤ dig b ∧ dig b < 10))) := by decide
theorem dig_yes {b : UInt8} (h : 48 ≤ b.toNat ∧ b.toNat ≤ 57) : dig b = (b.toNat : Int) - 48 := by
  have := digd_all b.toNat b.toNat_lt
  simp at this
  exact this.1 h.1 h.2
theorem dig_no {b : UInt8} (h : ¬ (48 ≤ b.toNat ∧ b.toNat ≤ 57)) : ¬ (0 ≤ dig b ∧ dig b < 10) := by
  have := (digd_all b.toNat b.toNat_lt).2 (by simpa using h)
  simpa using this
/-- What is reckoned so far: the number, or that it is too much. -/
def decIs (p : List UInt8) (n : Int) : Prop := okDigs 10 p = true ∧ ((n ≤ 1099511627776 ∧ n = numOf 10 p) ∨ (1099511627776 < n ∧ 1099511627776 < numOf 10 p)) ∧ 0 ≤ n ∧ n ≤ 10995116277769
theorem decIs_step {l : List UInt8} {i : Nat} {b : UInt8} {n : Int} (h : decIs (l.take i) n) (hb : l[i]? = some b) (hd : 48 ≤ b.toNat ∧ b.toNat ≤ 57) :
    decIs (l.take (i + 1)) (if n ≤ 1099511627776 then 10 * n + ((b.toNat : Int) - 48) else n) := by
  obtain ⟨h1, h2, h3, h4⟩ := h
  have hs := numOf_step 10 l i b hb
  have ho := okDigs_step 10 l i b hb
  have hdg := dig_yes hd
  have hn0 := numOf_nonneg 10 (by omega) (l.take i) h1
  rw [hdg] at hs ho
  refine ⟨?_, ?_, ?_, ?_⟩
  · rw [ho, h1, decide_eq_true (by omega)]; rfl
  · rcases h2 with ⟨h5, h6⟩ | ⟨h5, h6⟩
    · rw [if_pos h5]
      by_cases hm : 10 * n + ((b.toNat : Int) - 48) ≤ 1099511627776
      · exact .inl ⟨hm, by rw [hs, ← h6]; omega⟩
      · exact .inr ⟨by omega, by rw [hs, ← h6]; omega⟩
    · rw [if_neg (by omega)]
      exact .inr ⟨h5, by rw [hs]; omega⟩
  · split <;> omega
  · split <;> omega
theorem decIs_end {l : List UInt8} {n : Int} (h : decIs l n) : decA l = if l = [] ∨ 1099511627776 < n then -1 else n := by
  obtain ⟨h1, h2, h3, h4⟩ := h
  by_cases hl : l = []
  · rw [if_pos (.inl hl), hl]
    decide
  rcases h2 with ⟨h5, h6⟩ | ⟨h5, h6⟩
  · have e : numAns 10 1099511627776 l = (numOf 10 l, 0) := by
      unfold numAns
      rw [if_neg hl, if_neg (by rw [h1]; simp), if_neg (by omega)]
    rw [decA_ok (by rw [e]), e, if_neg (by rintro (h | h); exact hl h; omega), h6]
  · have e : numAns 10 1099511627776 l = (0, 12) := by
      unfold numAns
      rw [if_neg hl, if_neg (by rw [h1]; simp), if_pos (.inr h6)]
    rw [decA_bad (by rw [e]; decide), if_pos (.inr h5)]
theorem dec_stop {l : List UInt8} {i : Nat} {b : UInt8} (hb : l[i]? = some b) (hd : ¬ (48 ≤ b.toNat ∧ b.toNat ≤ 57)) : decA l = -1 := by
  apply decA_bad
  have hne : l ≠ [] := fun e => by rw [e] at hb; simp at hb
  unfold numAns
  rw [if_neg hne, if_pos (okDigs_bad 10 l i b hb (dig_no hd))]
  decide
section
variable (E : Env) (H : Hp) (Q : AV → Hp → Prop)
def ddcInv (l : List UInt8) (H : Hp) (fr : List AV) (H' : Hp) : Prop := H' = H ∧ ∃ (i : Nat) (n : Int), i ≤ l.length ∧ decIs (l.take i) n ∧ ∃ x : Nat → AV, fr = [.str l, x 1, x 2, .int .i64 n, .int .i64 i, x 5, x 6, x 7, x 8, x 9, x 10, x 11, x 12, x 13, x 14, x 15, x 16, x 17, x 18, x 19, x 20, x 21, x 22, x 23, x 24, x 25, x 26, x 27, x 28, x 29, x 30, x 31, x 32, x 33, x 34, x 35, x 36, x 37]
theorem ddecimal_pc (l : List UInt8) (hl : l.length ≤ cap) (hQ : Q (.int .i64 (decA l)) H) : PC Tryz.prog E 152 [.str l] H Q := by
  simp only [cap] at hl
  have fin : ∀ a : Int, decA l = a → Q (.int .i64 a) H := fun a ha => ha ▸ hQ
  refine pc_enter Tryz.func152 rfl [] [] (by kernel_rfl) (fun hB => ?_)
  simp [Tryz.ntmps152, Tryz.results152, List.replicate_succ]
  refine VL_go (ddcInv l H) (fun fr _ => l.length - (ai (aget fr 4)).toNat) ⟨rfl, 0, 0, by omega, ⟨rfl, .inl ⟨by omega, rfl⟩, by omega, by omega⟩, fr_intro (by simp)⟩ ?_
  rintro fr H' ⟨rfl, i, n, hi, hn, x, rfl⟩
  obtain ⟨_, _, n0, n1⟩ := id hn
  by_cases h : i < l.length
  · obtain ⟨b, hb⟩ : ∃ b, l[i]? = some b := ⟨_, List.getElem?_eq_getElem h⟩
    have hat := lat_eq hb
    have hbn := b.toNat_lt
    have hw : IntKind.i64.wrap ((i : Int) + 1) = i + 1 := wrap_in (by omega) (by omega)
    by_cases h48 : (b.toNat : Int) < 48
    · simp [h, hat, h48]
      exact aPost_same0 hB rfl (nilV_refl _) (by simp) (fin _ (dec_stop hb (by omega)))
    by_cases h57 : (57 : Int) < b.toNat
    · simp [h, hat, h48, h57]
      exact aPost_same0 hB rfl (nilV_refl _) (by simp) (fin _ (dec_stop hb (by omega)))
    have hst := decIs_step hn hb (by omega)
    have w1 : IntKind.u8.wrap ((b.toNat : Int) - 48) = (b.toNat : Int) - 48 := by
      unfold IntKind.wrap
      simp [IntKind.signed, IntKind.bits, IntKind.min]
      omega
    by_cases hM : n ≤ 1099511627776
    · rw [if_pos hM] at hst
      have w2 : IntKind.i64.wrap (10 * n) = 10 * n := wrap_in (by omega) (by omega)
      have w3 : IntKind.i64.wrap ((b.toNat : Int) - 48) = (b.toNat : Int) - 48 := wrap_in (by omega) (by omega)
      have w4 : IntKind.i64.wrap (10 * n + ((b.toNat : Int) - 48)) = 10 * n + ((b.toNat : Int) - 48) := wrap_in (by omega) (by omega)
      simp [h, hat, h48, h57, hM, w1, w2, w3, w4, hw]
      exact Kloop_normal ⟨rfl, i + 1, _, by omega, hst, fr_intro (by simp)⟩ (by simp; omega)
    · rw [if_neg hM] at hst
      simp [h, hat, h48, h57, hM, hw]
      exact Kloop_normal ⟨rfl, i + 1, _, by omega, hst, fr_intro (by simp)⟩ (by simp; omega)
  · obtain rfl : i = l.length := by omega
    rw [List.take_of_length_le (Nat.le_refl _)] at hn
    have he := decIs_end hn
    by_cases h0 : l = []
    · rw [if_pos (.inl h0)] at he
      have h0' : (l == []) = true := by rw [h0]; rfl
      simp [h0']
      exact aPost_same0 hB rfl (nilV_refl _) (by simp) (fin _ he)
    have h0' : (l == []) = false := by simpa using h0
    by_cases hM : 1099511627776 < n
    · rw [if_pos (.inr hM)] at he
      simp [h0', hM]
      exact aPost_same0 hB rfl (nilV_refl _) (by simp) (fin _ he)
    · rw [if_neg (by rintro (h | h); exact h0 h; exact hM h)] at he
      simp [h0', hM]
      exact aPost_same0 hB rfl (nilV_refl _) (by simp) (fin _ he)
def dlnInv (acc : List (List UInt8)) (m : Int) (H : Hp) (fr : List AV) (H' : Hp) : Prop := H' = H ∧ ∃ i : Nat, i ≤ acc.length ∧ (∀ y ∈ acc.take i, decA y = m) ∧ (0 < i → 0 ≤ m) ∧
  ∃ x : Nat → AV, fr = [x 0, x 1, x 2, x 3, x 4, .sl false 1 (strs acc), x 6, x 7, x 8, x 9, x 10, x 11, x 12, x 13, x 14, x 15, x 16, x 17, x 18, x 19, x 20, x 21, x 22, x 23, x 24, .sl false 1 (strs acc), .int .i64 acc.length, .int .i64 i, x 28, x 29, x 30, x 31, x 32, x 33, x 34, x 35, x 36, x 37, x 38, x 39, x 40, x 41, x 42, x 43, x 44, x 45, x 46, x 47]
set_option maxHeartbeats 1000000 in
theorem dlength_pc (l : List Fld) (hl : fsz l + l.length ≤ 4194304) (hQ : Q (.tup [.int .i64 (lengthA l).1, .bool (lengthA l).2.1, .int .i64 (lengthA l).2.2]) H) : PC Tryz.prog E 118 [.sl false 2 (flds l)] H Q := by
  have fin : ∀ a : Int × Bool × Int, lengthA l = a → Q (.tup [.int .i64 a.1, .bool a.2.1, .int .i64 a.2.2]) H := fun a ha => ha ▸ hQ
  have hcn : nCL.length ≤ cap := by simp [nCL, cap]
  have hvz := vsz_allB l nCL
  refine pc_enter Tryz.func118 rfl [] [(9, [0, 0, 0, 0, 0, 1])] (by kernel_rfl) (fun hB => ?_)
  simp [Tryz.ntmps118, Tryz.results118, List.replicate_succ]
  refine dall_pc E _ _ l nCL (by omega) hcn ?_
  by_cases h0 : allB l nCL = []
  · have hs0 : strs ([] : List (List UInt8)) = [] := rfl
    simp [h0, hs0]
    exact aPost_same0 hB rfl (nilV_refl _) (by simp) (fin _ (by unfold lengthA; rw [if_pos h0] : lengthA l = (0, false, 0)))
  have h0' : (((allB l nCL).length : Int) == 0) = false := by
    rw [beq_eq_false_iff_ne]
    intro e
    exact h0 (List.length_eq_zero_iff.1 (by omega))
  simp [h0']
  refine dlist_pc E _ _ l nCL hl hcn ?_
  cases hacc : listsB (allB l nCL) with
  | none =>
    have e1 : flistA l nCL = ([], 14) := by unfold flistA; rw [hacc]
    have e2 : lengthA l = (0, false, 66) := by unfold lengthA; rw [if_neg h0, hacc]
    rw [e1]
    simp
    exact aPost_same0 hB rfl (nilV_refl _) (by simp) (fin _ e2)
  | some acc =>
    have e1 : flistA l nCL = (acc, 0) := by unfold flistA; rw [hacc]
    have hmem := listsB_mem _ _ hacc
    have hlen := listsB_len _ _ hacc
    rw [e1]
    cases acc with
    | nil =>
      have e2 : lengthA l = (0, false, 66) := by unfold lengthA; rw [if_neg h0, hacc]
      have hs0 : strs ([] : List (List UInt8)) = [] := rfl
      simp [hs0]
      exact aPost_same0 hB rfl (nilV_refl _) (by simp) (fin _ e2)
    | cons w r =>
      have e2 : lengthA l = if decA w < 0 ∨ (r.all fun y => decide (decA y = decA w)) = false then (0, false, 66) else (decA w, true, 0) := by unfold lengthA; rw [if_neg h0, hacc]
      obtain ⟨acc, ha⟩ : ∃ acc, w :: r = acc := ⟨_, rfl⟩
      have hw0 : acc[0]? = some w := by rw [← ha]; rfl
      have hat0 := strs_at hw0
      have hpos : 0 < acc.length := by rw [← ha]; simp
      have hne : ((acc.length : Int) == 0) = false := by rw [beq_eq_false_iff_ne]; omega
      have hbad : ∀ y ∈ acc, (decA y < 0 ∨ decA y ≠ decA w) → lengthA l = (0, false, 66) := fun y hy hb => by
        rw [e2]
        apply if_pos
        by_cases hlt : decA w < 0
        · exact .inl hlt
        right
        rw [← ha] at hy
        rcases List.mem_cons.1 hy with rfl | hy
        · rcases hb with hb | hb
          · exact absurd hb hlt
          · exact absurd rfl hb
        · rw [List.all_eq_false]
          refine ⟨y, hy, ?_⟩
          simp only [decide_eq_true_eq]
          rcases hb with hb | hb
          · omega
          · exact hb
      have hgood : (∀ y ∈ acc, decA y = decA w) → 0 ≤ decA w → lengthA l = (decA w, true, 0) := fun h1 h2 => by
        rw [e2]
        apply if_neg
        rintro (h | h)
        · omega
        · rw [List.all_eq_false] at h
          obtain ⟨y, hy, hh⟩ := h
          exact hh (by simpa using h1 y (by rw [← ha]; exact List.mem_cons_of_mem _ hy))
      rw [ha] at hmem hlen ⊢
      have hwl := hmem w (List.mem_of_getElem? hw0)
      clear e2 hacc e1
      simp [hne]
      refine VL_go (dlnInv acc (decA w) H) (fun fr _ => acc.length - (ai (aget fr 27)).toNat) ⟨rfl, 0, by omega, by simp, by omega, fr_intro (by simp)⟩ ?_
      rintro fr H' ⟨rfl, i, hi, hall, hm0, x, rfl⟩
      by_cases h : i < acc.length
      · obtain ⟨u, hu⟩ : ∃ u, acc[i]? = some u := ⟨_, List.getElem?_eq_getElem h⟩
        have hat := strs_at hu
        have hum := List.mem_of_getElem? hu
        have hul := hmem u hum
        have hw : IntKind.i64.wrap ((i : Int) + 1) = i + 1 := wrap_in (by omega) (by omega)
        simp [h, hat, hat0, hpos]
        refine ddecimal_pc E _ _ u (by simp only [cap]; omega) ?_
        by_cases hneg : decA u < 0
        · simp [hneg]
          exact aPost_same0 hB rfl (nilV_refl _) (by simp) (fin _ (hbad u hum (.inl hneg)))
        simp [hneg, hat0, hpos]
        refine ddecimal_pc E _ _ u (by simp only [cap]; omega) ?_
        simp [hat0, hpos]
        refine ddecimal_pc E _ _ w (by simp only [cap]; omega) ?_
        by_cases heq : decA u = decA w
        · simp [heq, hw]
          refine Kloop_normal ⟨rfl, i + 1, by omega, fun y hy => ?_, fun _ => by omega, fr_intro (by simp)⟩ (by simp; omega)
          rw [List.take_add_one, hu] at hy
          rcases List.mem_append.1 hy with hy | hy
          · exact hall y hy
          · simp at hy; subst hy; exact heq
        · have heq' : (decA u != decA w) = true := by simpa using heq
          simp [heq']
          exact aPost_same0 hB rfl (nilV_refl _) (by simp) (fin _ (hbad u hum (.inr heq)))
      · obtain rfl : i = acc.length := by omega
        rw [List.take_of_length_le (Nat.le_refl _)] at hall
        have hres := hgood hall (hm0 hpos)
        simp [hat0, hpos]
        refine ddecimal_pc E _ _ w (by simp only [cap]; omega) ?_
        simp
        exact aPost_same0 hB rfl (nilV_refl _) (by simp) (fin _ hres)
theorem dcodings_pc (l : List Fld) (hl : fsz l + l.length ≤ 4194304) (hQ : Q (.tup [.sl false 1 (strs (codingsA l).1), .bool (codingsA l).2.1, .int .i64 (codingsA l).2.2]) H) : PC Tryz.prog E 117 [.sl false 2 (flds l)] H Q := by
  refine pc_enter Tryz.func117 rfl [] [] (by kernel_rfl) (fun hB => ?_)
  have fin : ∀ a : List (List UInt8) × Bool × Int, codingsA l = a → Q (.tup [.sl false 1 (strs a.1), .bool a.2.1, .int .i64 a.2.2]) H := fun a ha => ha ▸ hQ
  have hcn : nTE.length ≤ cap := by simp [nTE, cap]
  simp [Tryz.ntmps117, Tryz.results117, List.replicate_succ]
  refine dall_pc E _ _ l nTE (by omega) hcn ?_
  by_cases h0 : allB l nTE = []
  · have e : codingsA l = ([], false, 0) := by unfold codingsA; rw [if_pos h0]
    have hs0 : strs ([] : List (List UInt8)) = [] := rfl
    simp [h0, hs0]
    exact aPost_same0 hB (v0 := .tup [.nil, .bool false, .int .i64 0]) (by simp) (nilV_tup3 1 _ _ rfl rfl) (by simp) (fin _ e)
  have h0' : (((allB l nTE).length : Int) == 0) = false := by
    rw [beq_eq_false_iff_ne]
    intro e
    exact h0 (List.length_eq_zero_iff.1 (by omega))
  simp [h0']
  refine dtokens_pc E _ _ l nTE hl hcn ?_
  by_cases he : (toksA l nTE).2 = 0
  · have e : codingsA l = ((toksA l nTE).1, true, 0) := by unfold codingsA; rw [if_neg h0, if_pos he]
    simp [he]
    exact aPost_same0 hB (v0 := .tup [.sl false 1 (strs (toksA l nTE).1), .bool true, .int .i64 0]) (by simp) (nilV_refl _) (by simp [bnd_strs]) (fin _ e)
  · have e : codingsA l = ([], false, 67) := by unfold codingsA; rw [if_neg h0, if_neg he]
    have he2 : ((toksA l nTE).2 != 0) = true := by simpa using he
    simp [he2]
    exact aPost_same0 hB (v0 := .tup [.nil, .bool false, .int .i64 67]) (by simp) (nilV_tup3 1 _ _ rfl rfl) (by simp) (fin _ e)
theorem dpersist_pc (l : List Fld) (old : Bool) (hl : fsz l + l.length ≤ 4194304) (hQ : Q (.bool (persistA l old)) H) : PC Tryz.prog E 92 [.sl false 2 (flds l), .bool old] H Q := by
  refine pc_enter Tryz.func92 rfl [] [] (by kernel_rfl) (fun hB => ?_)
  have hcn : nCO.length ≤ cap := by simp [nCO, cap]
  have fin : ∀ a : Bool, persistA l old = a → Q (.bool a) H := fun a ha => ha ▸ hQ
  have htl := toksA_len l nCO
  simp [Tryz.ntmps92, Tryz.results92, List.replicate_succ]
  refine dtokens_pc E _ _ l nCO hl hcn ?_
  by_cases he : (toksA l nCO).2 = 0
  · simp [he]
    refine in_pc E _ _ (toksA l nCO).1 vClose (by simp only [cap]; omega) ?_
    cases hc : (toksA l nCO).1.contains vClose with
    | true =>
      simp
      exact aPost_same0 hB rfl (nilV_refl _) (by simp) (fin _ (by unfold persistA; rw [hc]; simp))
    | false =>
      cases old with
      | false =>
        simp
        exact aPost_same0 hB rfl (nilV_refl _) (by simp) (fin _ (by unfold persistA; rw [hc, he]; simp))
      | true =>
        simp
        refine in_pc E _ _ (toksA l nCO).1 vKeep (by simp only [cap]; omega) ?_
        simp
        exact aPost_same0 hB rfl (nilV_refl _) (by simp) (fin _ (by unfold persistA; rw [hc, he]; simp))
  · have he2 : ((toksA l nCO).2 != 0) = true := by simpa using he
    simp [he2]
    exact aPost_same0 hB rfl (nilV_refl _) (by simp) (fin _ (by unfold persistA; rw [decide_eq_false he]; rfl))
set_option maxHeartbeats 1000000 in
theorem dframing_pc (l : List Fld) (old : Bool) (hl : fsz l + l.length ≤ 4194304) (hQ : Q (.tup [.int .i64 (framingA l old).1, .int .i64 (framingA l old).2.1, .int .i64 (framingA l old).2.2]) H) : PC Tryz.prog E 91 [.sl false 2 (flds l), .bool old] H Q := by
  have fin : ∀ a : Int × Int × Int, framingA l old = a → Q (.tup [.int .i64 a.1, .int .i64 a.2.1, .int .i64 a.2.2]) H := fun a ha => ha ▸ hQ
  have hcl := codA_len l hl
  refine pc_enter Tryz.func91 rfl [] [] (by kernel_rfl) (fun hB => ?_)
  simp [Tryz.ntmps91, Tryz.results91, List.replicate_succ]
  refine dcodings_pc E _ _ l hl ?_
  obtain ⟨⟨cs, cd, ce⟩, hC⟩ : ∃ c, codingsA l = c := ⟨_, rfl⟩
  obtain ⟨⟨n, tl, f⟩, hL⟩ : ∃ c, lengthA l = c := ⟨_, rfl⟩
  have hF := framing_of (old := old) hC hL
  rw [hC] at hcl
  rw [hC]
  simp only at hcl ⊢
  by_cases h1 : ce = 0
  rotate_left
  · rw [if_pos (.inl h1)] at hF
    have h1' : (ce != 0) = true := by simpa using h1
    simp [h1']
    exact aPost_same0 hB rfl (nilV_refl _) (by simp) (fin _ hF)
  subst h1
  cases cd with
  | true =>
    cases old with
    | true =>
      rw [if_pos (.inr ⟨rfl, .inl rfl⟩)] at hF
      simp
      exact aPost_same0 hB rfl (nilV_refl _) (by simp) (fin _ hF)
    | false =>
      by_cases h2 : cs = [vChunked]
      · subst h2
        rw [if_neg (by simp)] at hF
        have hat : lat (strs [vChunked]) 0 = some [.str vChunked] := rfl
        have hv : (vChunked != [99, 104, 117, 110, 107, 101, 100]) = false := by decide
        simp [hat, hv]
        refine dlength_pc E _ _ l hl ?_
        rw [hL]
        simp only
        by_cases h3 : f = 0
        · subst h3
          rw [if_neg (by simp)] at hF
          cases tl with
          | true =>
            rw [if_pos ⟨rfl, rfl⟩] at hF
            simp
            exact aPost_same0 hB rfl (nilV_refl _) (by simp) (fin _ hF)
          | false =>
            rw [if_neg (by simp), if_pos rfl] at hF
            simp
            exact aPost_same0 hB rfl (nilV_refl _) (by simp) (fin _ hF)
        · rw [if_pos h3] at hF
          have h3' : (f != 0) = true := by simpa using h3
          simp [h3']
          exact aPost_same0 hB rfl (nilV_refl _) (by simp) (fin _ hF)
      · rw [if_pos (.inr ⟨rfl, .inr h2⟩)] at hF
        match cs, h2 with
        | [], _ =>
          simp
          exact aPost_same0 hB rfl (nilV_refl _) (by simp) (fin _ hF)
        | [c], h2 =>
          have hat : lat (strs [c]) 0 = some [.str c] := rfl
          have hv : (c != [99, 104, 117, 110, 107, 101, 100]) = true := by simpa [vChunked] using h2
          simp [hat, hv]
          exact aPost_same0 hB rfl (nilV_refl _) (by simp) (fin _ hF)
        | c :: d :: r, _ =>
          have hl : ((r.length : Int) + 1 + 1 != 1) = true := by rw [bne_iff_ne]; omega
          simp [hl]
          exact aPost_same0 hB rfl (nilV_refl _) (by simp) (fin _ hF)
  | false =>
    simp
    refine dlength_pc E _ _ l hl ?_
    rw [hL]
    simp only
    by_cases h3 : f = 0
    · subst h3
      cases tl with
      | true =>
        rw [if_neg (by simp), if_neg (by simp), if_neg (by simp), if_neg (by simp), if_pos rfl] at hF
        simp
        exact aPost_same0 hB rfl (nilV_refl _) (by simp) (fin _ hF)
      | false =>
        rw [if_neg (by simp), if_neg (by simp), if_neg (by simp), if_neg (by simp), if_neg (by simp)] at hF
        simp
        exact aPost_same0 hB rfl (nilV_refl _) (by simp) (fin _ hF)
    · rw [if_neg (by simp), if_pos h3] at hF
      have h3' : (f != 0) = true := by simpa using h3
      simp [h3']
      exact aPost_same0 hB rfl (nilV_refl _) (by simp) (fin _ hF)
end
end Go.Proofs.YtcdkcaocfioigaaGreatDoor

set_option linter.unusedVariables false
set_option linter.unnecessarySimpa false
set_option linter.unusedSimpArgs false
set_option linter.unusedSectionVars false
set_option maxRecDepth 100000
namespace Go.Proofs.YtcdkcaocfioigaaGreatDoor
open Go Go.RowKit Go.Proofs

theorem lineS_nil (back : Bool) (i : Nat) : lineS back [] i = .part := by cases back <;> rfl
theorem lineS_back (b : UInt8) (r : List UInt8) (i : Nat) : lineS true (b :: r) i = if b = 10 then .ok (i + 1) else .bad i := by rw [lineS, if_pos rfl]
theorem lineS_go (b : UInt8) (r : List UInt8) (i : Nat) : lineS false (b :: r) i = if b = 10 then .bad i else lineS (decide (b = 13)) r (i + 1) := by rw [lineS, if_neg (by simp)]
section
variable (E : Env) (H : Hp) (Q : AV → Hp → Prop)
def lnInv (t : List UInt8) (a : Nat) (H : Hp) (fr : List AV) (H' : Hp) : Prop := H' = H ++ [[.int .i64 0, .int .i64 0]] ∧ ∃ i : Nat, a ≤ i ∧ i ≤ t.length ∧ lineS false (t.drop i) i = lineR t a ∧
  ∃ x : Nat → AV, fr = [.str t, .int .i64 a, x 2, x 3, x 4, x 5, .ptr (some (H.length, 0)), .int .i64 i, x 8, x 9, x 10, x 11, x 12, x 13, x 14, x 15, x 16, x 17, x 18, x 19, x 20, x 21, x 22, x 23, x 24, x 25, x 26, x 27, x 28, x 29, x 30, x 31, x 32, x 33, x 34, x 35, x 36, x 37, x 38, x 39, x 40, x 41, x 42, x 43, x 44, x 45, x 46, x 47, x 48, x 49, x 50, x 51, x 52, x 53, x 54]
theorem line_pc (t : List UInt8) (a : Nat) (ha : a ≤ t.length) (hl : t.length ≤ 1073741824) (hQ1 : ∀ i : Nat, a ≤ i → i + 2 ≤ t.length → lineR t a = .ok (i + 2) → Q (.tup [.str ((t.drop a).take (i - a)), .int .i64 ((i + 2 : Nat) : Int), .agg [.int .i64 0, .int .i64 0]]) H)
    (hQ2 : ∀ n : Nat, lineR t a = .bad n → Q (.tup [.str [], .int .i64 0, .agg [.int .i64 n, .int .i64 122]]) H) (hQ3 : lineR t a = .part → Q (.tup [.str [], .int .i64 0, .agg [.int .i64 t.length, .int .i64 124]]) H) :
    PC Tryz.prog E 111 [.str t, .int .i64 a] H Q := by
  refine pc_enter Tryz.func111 rfl [] [] (by kernel_rfl) (fun hB => ?_)
  simp [Tryz.ntmps111, Tryz.results111, List.replicate_succ]
  refine VL_go (lnInv t a H) (fun fr _ => t.length - (ai (aget fr 7)).toNat) ⟨rfl, a, by omega, ha, rfl, fr_intro (by simp)⟩ ?_
  rintro fr H' ⟨rfl, i, hai, hi, hS, x, rfl⟩
  by_cases h : i < t.length
  · obtain ⟨b, hb⟩ : ∃ b, t[i]? = some b := ⟨_, List.getElem?_eq_getElem h⟩
    have hat := lat_eq hb
    have hd := drop_at t i b hb
    have hw : IntKind.i64.wrap ((i : Int) + 1) = i + 1 := wrap_in (by omega) (by omega)
    rw [hd, lineS_go] at hS
    by_cases h10 : b = 10
    · subst h10
      rw [if_pos rfl] at hS
      simp [h, hat]
      exact aPost_same hB (v0 := .tup [.str [], .int .i64 0, .agg [.int .i64 i, .int .i64 122]]) (by simp) (nilV_refl _) (by simp) (hQ2 i hS.symm)
    have b10 : ((b.toNat : Int) == 10) = false := by
      rw [beq_eq_false_iff_ne]; intro e; exact h10 (UInt8.toNat_inj.1 (by have : (10 : UInt8).toNat = 10 := rfl; omega))
    rw [if_neg h10] at hS
    by_cases h13 : b = 13
    rotate_left
    · have b13 : ((b.toNat : Int) != 13) = true := by
        rw [bne_iff_ne]; intro e; exact h13 (UInt8.toNat_inj.1 (by have : (13 : UInt8).toNat = 13 := rfl; omega))
      rw [decide_eq_false h13] at hS
      simp [h, hat, b10, b13, hw]
      exact Kloop_normal ⟨rfl, i + 1, by omega, by omega, hS, fr_intro (by simp)⟩ (by simp; omega)
    subst h13
    simp only [decide_true] at hS
    by_cases hl2 : i + 1 = t.length
    · rw [List.drop_of_length_le (by omega), lineS_nil] at hS
      have e1 : ((i : Int) + 1 == t.length) = true := by rw [beq_iff_eq]; omega
      simp [h, hat, hw, e1]
      exact aPost_same hB (v0 := .tup [.str [], .int .i64 0, .agg [.int .i64 t.length, .int .i64 124]]) (by simp) (nilV_refl _) (by simp) (hQ3 hS.symm)
    · have hlt : i + 1 < t.length := by omega
      obtain ⟨c, hcc⟩ : ∃ c, t[i + 1]? = some c := ⟨_, List.getElem?_eq_getElem hlt⟩
      have hat2 := lat_eq hcc
      have e1 : ((i : Int) + 1 == t.length) = false := by rw [beq_eq_false_iff_ne]; omega
      have tn : ((i : Int) + 1).toNat = i + 1 := by omega
      rw [drop_at t (i + 1) c hcc, lineS_back] at hS
      have hlt2 : (i : Int) + 1 < t.length := by omega
      have hge2 : (0 : Int) ≤ (i : Int) + 1 := by omega
      by_cases hc10 : c = 10
      · subst hc10
        rw [if_pos rfl] at hS
        have hw2 : IntKind.i64.wrap ((i : Int) + 2) = i + 2 := wrap_in (by omega) (by omega)
        have hile : i ≤ t.length := by omega
        simp [h, hat, hw, e1, hat2, tn, hlt2, hge2, hw2, hai, hile]
        exact aPost_same hB (v0 := .tup [.str ((t.drop a).take (i - a)), .int .i64 ((i + 2 : Nat) : Int), .agg [.int .i64 0, .int .i64 0]]) (by simp) (nilV_refl _) (by simp) (hQ1 i hai (by omega) hS.symm)
      · rw [if_neg hc10] at hS
        have b10' : ((c.toNat : Int) != 10) = true := by
          rw [bne_iff_ne]; intro e; exact hc10 (UInt8.toNat_inj.1 (by have : (10 : UInt8).toNat = 10 := rfl; omega))
        simp [h, hat, hw, e1, hat2, tn, hlt2, hge2, b10']
        exact aPost_same hB (v0 := .tup [.str [], .int .i64 0, .agg [.int .i64 ((i + 1 : Nat) : Int), .int .i64 122]]) (by simp) (nilV_refl _) (by simp) (hQ2 (i + 1) hS.symm)
  · obtain rfl : i = t.length := by omega
    rw [List.drop_of_length_le (Nat.le_refl _), lineS_nil] at hS
    simp
    exact aPost_same hB (v0 := .tup [.str [], .int .i64 0, .agg [.int .i64 t.length, .int .i64 124]]) (by simp) (nilV_refl _) (by simp) (hQ3 hS.symm)
end
end Go.Proofs.YtcdkcaocfioigaaGreatDoor

set_option linter.unusedVariables false
set_option linter.unnecessarySimpa false
set_option linter.unusedSimpArgs false
set_option linter.unusedSectionVars false
set_option maxRecDepth 100000
namespace Go.Proofs.YtcdkcaocfioigaaGreatDoor
open Go Go.RowKit Go.Proofs

theorem preR_end (s : List UInt8) (n i : Nat) (h : s[i]? = none) : preR s (n + 1) i = .part := by rw [preR, h]
theorem preR_ok {s : List UInt8} {n i : Nat} {b : UInt8} (h : s[i]? = some b) (hb : stB i b = true) : preR s (n + 1) i = preR s n (i + 1) := by rw [preR, h]; simp [hb]
theorem preR_bad {s : List UInt8} {n i : Nat} {b : UInt8} (h : s[i]? = some b) (hb : stB i b = false) : preR s (n + 1) i = .bad i := by rw [preR, h]; simp [hb]
theorem stR_part {s : List UInt8} (h : preR s 13 0 = .part) : stR s = .part := by unfold stR; rw [h]
theorem stR_bad {s : List UInt8} {i : Nat} (h : preR s 13 0 = .bad i) : stR s = .bad i := by unfold stR; rw [h]
theorem stR_ok {s : List UInt8} {i : Nat} (h : preR s 13 0 = .ok i) : stR s = reasonR (s.drop 13) 0 13 := by unfold stR; rw [h]
theorem reasonR_nil (k i : Nat) : reasonR [] k i = .part := rfl
theorem reasonR_cr1 (k i : Nat) : reasonR [13] k i = .part := rfl
theorem reasonR_cr (c : UInt8) (r : List UInt8) (k i : Nat) : reasonR (13 :: c :: r) k i = if c = 10 then .ok (i + 2) else .bad (i + 1) := by rw [reasonR, if_pos rfl]
theorem reasonR_bad (b : UInt8) (r : List UInt8) (k i : Nat) (h : b ≠ 13) (h2 : 256 ≤ k ∨ fcB b = false) : reasonR (b :: r) k i = .bad i := by
  rw [reasonR.eq_def]
  simp only
  rw [if_neg h, if_pos h2]
theorem reasonR_go (b : UInt8) (r : List UInt8) (k i : Nat) (h : b ≠ 13) (h2 : ¬ (256 ≤ k ∨ fcB b = false)) : reasonR (b :: r) k i = reasonR r (k + 1) (i + 1) := by
  rw [reasonR.eq_def]
  simp only
  rw [if_neg h, if_neg h2]
end Go.Proofs.YtcdkcaocfioigaaGreatDoor

set_option linter.unusedVariables false
set_option linter.unnecessarySimpa false
set_option linter.unusedSimpArgs false
set_option linter.unusedSectionVars false
set_option maxRecDepth 100000
namespace Go.Proofs.YtcdkcaocfioigaaGreatDoor
open Go Go.RowKit Go.Proofs

/-- The cells of a reply. -/
def rcells (st : Int) (re : List UInt8) (mi : Int) : List AV := [.int .i64 st, .str re, .nil, .str [], .int .i64 mi, .nil, .int .i64 0, .int .i64 0, .bool false]
/-- What may stand behind the version's begin. -/
def mayT : List (List UInt8) := [[48, 49], [32], [49, 50, 51, 52, 53], [48, 49, 50, 51, 52, 53, 54, 55, 56, 57], [48, 49, 50, 51, 52, 53, 54, 55, 56, 57], [32]]
def stP (s : List UInt8) (k : Nat) : Int := if k ≤ 2 then 0 else if k = 3 then dg s 9 else if k = 4 then 10 * dg s 9 + dg s 10 else 10 * (10 * dg s 9 + dg s 10) + dg s 11
def miP (s : List UInt8) (k : Nat) : Int := if k = 0 then 0 else dg s 7
theorem may_all : ∀ k, k < 6 → ∀ n, n < 256 → decide (Lib.indexByte (mayT.getD k []) (UInt8.ofNat n) < 0) = !stB (7 + k) (UInt8.ofNat n) := by decide +kernel
theorem may_at {k : Nat} (hk : k < 6) (b : UInt8) : decide (Lib.indexByte (mayT.getD k []) b < 0) = !stB (7 + k) b := by
  have := may_all k hk b.toNat b.toNat_lt
  rw [u8_ofNat] at this
  exact this
theorem may_dig : ∀ n, n < 256 → ((stB 7 (UInt8.ofNat n) = true ∨ stB 9 (UInt8.ofNat n) = true ∨ stB 10 (UInt8.ofNat n) = true ∨ stB 11 (UInt8.ofNat n) = true) → 48 ≤ n ∧ n ≤ 57) := by decide +kernel
theorem may_dig' {b : UInt8} (h : stB 7 b = true ∨ stB 9 b = true ∨ stB 10 b = true ∨ stB 11 b = true) : 48 ≤ b.toNat ∧ b.toNat ≤ 57 := by
  have := may_dig b.toNat b.toNat_lt
  rw [u8_ofNat] at this
  exact this h
theorem u8_sub48 : ∀ n : Nat, n < 256 → 48 ≤ n → IntKind.u8.wrap ((n : Int) - 48) = (n : Int) - 48 := by decide
theorem dg_at {s : List UInt8} {i : Nat} {b : UInt8} (h : s[i]? = some b) : dg s i = (b.toNat : Int) - 48 := by unfold dg; rw [h]; rfl
theorem wlit : IntKind.i64.wrap 0 = 0 ∧ IntKind.i64.wrap 1 = 1 ∧ IntKind.i64.wrap 2 = 2 ∧ IntKind.i64.wrap 3 = 3 ∧ IntKind.i64.wrap 4 = 4 ∧ IntKind.i64.wrap 5 = 5 ∧ IntKind.i64.wrap 6 = 6 ∧ IntKind.i64.wrap 7 = 7 ∧ IntKind.i64.wrap 8 = 8 ∧ IntKind.i64.wrap 9 = 9 ∧ IntKind.i64.wrap 10 = 10 ∧ IntKind.i64.wrap 11 = 11 ∧ IntKind.i64.wrap 12 = 12 ∧ IntKind.i64.wrap 13 = 13 := by decide
theorem mayT_at (k : Nat) (hk : k < 6) : lat [[AV.str [48, 49]], [.str [32]], [.str [49, 50, 51, 52, 53]], [.str [48, 49, 50, 51, 52, 53, 54, 55, 56, 57]], [.str [48, 49, 50, 51, 52, 53, 54, 55, 56, 57]], [.str [32]]] k = some [.str (mayT.getD k [])] := by
  rcases (by omega : k = 0 ∨ k = 1 ∨ k = 2 ∨ k = 3 ∨ k = 4 ∨ k = 5) with rfl | rfl | rfl | rfl | rfl | rfl <;> rfl
section
variable (E : Env) (H : Hp) (Q : AV → Hp → Prop)
def slInv1 (s : List UInt8) (H : Hp) (fr : List AV) (H' : Hp) : Prop := H' = H ++ [rcells 0 [] 0, [.int .i64 0, .int .i64 0], rcells 0 [] 0, [.int .i64 s.length, .int .i64 124]] ∧ ∃ i : Nat, i ≤ 7 ∧ i ≤ s.length ∧ preR s (13 - i) i = preR s 13 0 ∧
  ∃ x : Nat → AV, fr = [.str s, x 1, .ptr (some (H.length, 0)), x 3, .ptr (some (H.length + 1, 0)), .ptr (some (H.length + 2, 0)), .int .i64 i, .ptr (some (H.length + 3, 0)), x 8, x 9, x 10, x 11, x 12, x 13, x 14, x 15, x 16, x 17, x 18, x 19, x 20, x 21, x 22, x 23, x 24, x 25, x 26, x 27, x 28, x 29, x 30, x 31, x 32, x 33, x 34, x 35, x 36, x 37, x 38, x 39, x 40, x 41, x 42, x 43, x 44, x 45, x 46, x 47, x 48, x 49, x 50, x 51, x 52, x 53, x 54, x 55, x 56, x 57, x 58, x 59, x 60, x 61, x 62, x 63, x 64, x 65, x 66, x 67, x 68, x 69, x 70, x 71, x 72, x 73, x 74, x 75, x 76, x 77, x 78, x 79, x 80, x 81, x 82, x 83, x 84, x 85, x 86, x 87, x 88, x 89, x 90, x 91, x 92, x 93, x 94, x 95, x 96, x 97, x 98, x 99, x 100, x 101, x 102, x 103, x 104, x 105, x 106, x 107, x 108, x 109, x 110, x 111, x 112, x 113, x 114, x 115, x 116, x 117, x 118, x 119, x 120, x 121, x 122, x 123, x 124, x 125, x 126, x 127, x 128, x 129, x 130, x 131, x 132, x 133, x 134, x 135, x 136, x 137, x 138, x 139, x 140, x 141]
def slInv2 (s : List UInt8) (H : Hp) (fr : List AV) (H' : Hp) : Prop := ∃ k : Nat, k ≤ 6 ∧ 7 + k ≤ s.length ∧ preR s (6 - k) (7 + k) = preR s 13 0 ∧
  H' = H ++ [rcells 0 [] 0, [.int .i64 0, .int .i64 0], rcells (stP s k) [] (miP s k), [.int .i64 s.length, .int .i64 124]] ∧
  ∃ x : Nat → AV, fr = [.str s, x 1, .ptr (some (H.length, 0)), x 3, .ptr (some (H.length + 1, 0)), .ptr (some (H.length + 2, 0)), .int .i64 ((7 + k : Nat) : Int), .ptr (some (H.length + 3, 0)), x 8, x 9, x 10, x 11, x 12, x 13, x 14, x 15, x 16, x 17, x 18, x 19, x 20, x 21, x 22, x 23, x 24, x 25, x 26, x 27, x 28, x 29, x 30, x 31, x 32, x 33, .sl true 1 [[AV.str [48, 49]], [.str [32]], [.str [49, 50, 51, 52, 53]], [.str [48, 49, 50, 51, 52, 53, 54, 55, 56, 57]], [.str [48, 49, 50, 51, 52, 53, 54, 55, 56, 57]], [.str [32]]], .int .i64 6, .int .i64 k, x 37, x 38, x 39, x 40, x 41, x 42, x 43, x 44, x 45, x 46, x 47, x 48, x 49, x 50, x 51, x 52, x 53, x 54, x 55, x 56, x 57, x 58, x 59, x 60, x 61, x 62, x 63, x 64, x 65, x 66, x 67, x 68, x 69, x 70, x 71, x 72, x 73, x 74, x 75, x 76, x 77, x 78, x 79, x 80, x 81, x 82, x 83, x 84, x 85, x 86, x 87, x 88, x 89, x 90, x 91, x 92, x 93, x 94, x 95, x 96, x 97, x 98, x 99, x 100, x 101, x 102, x 103, x 104, x 105, x 106, x 107, x 108, x 109, x 110, x 111, x 112, x 113, x 114, x 115, x 116, x 117, x 118, x 119, x 120, x 121, x 122, x 123, x 124, x 125, x 126, x 127, x 128, x 129, x 130, x 131, x 132, x 133, x 134, x 135, x 136, x 137, x 138, x 139, x 140, x 141]
def slInv3 (s : List UInt8) (H : Hp) (fr : List AV) (H' : Hp) : Prop := ∃ i : Nat, 13 ≤ i ∧ i ≤ s.length ∧ reasonR (s.drop i) (i - 13) i = stR s ∧
  H' = H ++ [rcells 0 [] 0, [.int .i64 0, .int .i64 0], rcells (stP s 6) [] (miP s 6), [.int .i64 s.length, .int .i64 124]] ∧
  ∃ x : Nat → AV, fr = [.str s, x 1, .ptr (some (H.length, 0)), x 3, .ptr (some (H.length + 1, 0)), .ptr (some (H.length + 2, 0)), .int .i64 i, .ptr (some (H.length + 3, 0)), x 8, x 9, .int .i64 13, x 11, x 12, x 13, x 14, x 15, x 16, x 17, x 18, x 19, x 20, x 21, x 22, x 23, x 24, x 25, x 26, x 27, x 28, x 29, x 30, x 31, x 32, x 33, x 34, x 35, x 36, x 37, x 38, x 39, x 40, x 41, x 42, x 43, x 44, x 45, x 46, x 47, x 48, x 49, x 50, x 51, x 52, x 53, x 54, x 55, x 56, x 57, x 58, x 59, x 60, x 61, x 62, x 63, x 64, x 65, x 66, x 67, x 68, x 69, x 70, x 71, x 72, x 73, x 74, x 75, x 76, x 77, x 78, x 79, x 80, x 81, x 82, x 83, x 84, x 85, x 86, x 87, x 88, x 89, x 90, x 91, x 92, x 93, x 94, x 95, x 96, x 97, x 98, x 99, x 100, x 101, x 102, x 103, x 104, x 105, x 106, x 107, x 108, x 109, x 110, x 111, x 112, x 113, x 114, x 115, x 116, x 117, x 118, x 119, x 120, x 121, x 122, x 123, x 124, x 125, x 126, x 127, x 128, x 129, x 130, x 131, x 132, x 133, x 134, x 135, x 136, x 137, x 138, x 139, x 140, x 141]
set_option maxHeartbeats 2000000 in
theorem statusLine_pc (s : List UInt8) (hl : s.length ≤ 1073741824)
    (hQ1 : ∀ n : Nat, stR s = .ok n → Q (.tup [.agg (rcells (100 * dg s 9 + 10 * dg s 10 + dg s 11) ((s.drop 13).take (n - 2 - 13)) (dg s 7)), .int .i64 n, .agg [.int .i64 0, .int .i64 0]]) H)
    (hQ2 : ∀ (st : Int) (re : List UInt8) (mi : Int) (n : Nat), stR s = .bad n → Q (.tup [.agg (rcells st re mi), .int .i64 0, .agg [.int .i64 n, .int .i64 122]]) H)
    (hQ3 : ∀ (st : Int) (re : List UInt8) (mi : Int), stR s = .part → Q (.tup [.agg (rcells st re mi), .int .i64 0, .agg [.int .i64 s.length, .int .i64 124]]) H) : PC Tryz.prog E 110 [.str s] H Q := by
  refine pc_enterF (fun i => i = H.length + 2 ∨ i = H.length + 3) Tryz.func110 rfl [] [(7, [2, 2, 2, 0, 2]), (14, [2, 2, 2, 0, 2]), (29, [2, 2, 2, 0, 2]), (33, [2, 2, 2, 0, 2])] (by kernel_rfl) (fun E' hS' h0' hF' hB => ?_)
  simp [Tryz.ntmps110, Tryz.results110, List.replicate_succ]
  refine VL_go (slInv1 s H) (fun fr _ => 7 - (ai (aget fr 6)).toNat) ⟨by simp [rcells], 0, by omega, by omega, rfl, fr_intro (by simp)⟩ ?_
  rintro fr H' ⟨rfl, i, hi7, hi, hpre, x, rfl⟩
  by_cases h : i < 7
  · have h7 : (i : Int) < 7 := by omega
    obtain ⟨m, hm⟩ : ∃ m, 13 - i = m + 1 := ⟨12 - i, by omega⟩
    rw [hm] at hpre
    by_cases hl2 : i = s.length
    · have e1 : ((i : Int) == s.length) = true := by rw [beq_iff_eq]; omega
      rw [preR_end s m i (List.getElem?_eq_none (by omega))] at hpre
      simp [h7, e1, rcells, hS']
      exact aPost_same hB (v0 := .tup [.agg (rcells 0 [] 0), .int .i64 0, .agg [.int .i64 s.length, .int .i64 124]]) (by simp [rcells]) (nilV_refl _) (by simp [rcells]) (hQ3 0 [] 0 (stR_part hpre.symm))
    · have hil : i < s.length := by omega
      have e1 : ((i : Int) == s.length) = false := by rw [beq_eq_false_iff_ne]; omega
      obtain ⟨b, hb⟩ : ∃ b, s[i]? = some b := ⟨_, List.getElem?_eq_getElem hil⟩
      have hat := lat_eq hb
      obtain ⟨v, hv⟩ : ∃ v, verT[i]? = some v := ⟨_, List.getElem?_eq_getElem (by simp [verT]; omega)⟩
      have hvl : lat [72, 84, 84, 80, 47, 49, 46] i = some v := lat_eq hv
      have hw : IntKind.i64.wrap ((i : Int) + 1) = i + 1 := wrap_in (by omega) (by omega)
      have hst : stB i b = decide (v = b) := by unfold stB; rw [if_pos h, hv]; simp
      by_cases hvb : v = b
      · subst hvb
        rw [preR_ok hb (by rw [hst]; simp)] at hpre
        simp [h7, e1, hat, hvl, hil, hw, rcells]
        exact Kloop_normal ⟨by simp [rcells], i + 1, by omega, by omega, by rw [show 13 - (i + 1) = m by omega]; exact hpre, fr_intro (by simp)⟩ (by simp; omega)
      · have hne : ((b.toNat : Int) != v.toNat) = true := by
          rw [bne_iff_ne]; intro e; exact hvb (UInt8.toNat_inj.1 (by omega))
        rw [preR_bad hb (by rw [hst]; simp [hvb])] at hpre
        simp [h7, e1, hat, hvl, hil, hne, rcells]
        exact aPost_same hB (v0 := .tup [.agg (rcells 0 [] 0), .int .i64 0, .agg [.int .i64 i, .int .i64 122]]) (by simp [rcells]) (nilV_refl _) (by simp [rcells]) (hQ2 0 [] 0 i (stR_bad hpre.symm))
  · obtain rfl : i = 7 := by omega
    have hbt : ∀ b : UInt8, (b.toNat : Int) < 256 := fun b => by have := b.toNat_lt; omega
    have hr6 : [0, 1, 2, 3, 4, 5] = List.range 6 := rfl
    simp [rcells, hr6]
    refine VL_go (slInv2 s H) (fun fr _ => 6 - (ai (aget fr 36)).toNat) ⟨0, by omega, by omega, hpre, by simp [rcells, stP, miP], fr_intro (by simp)⟩ ?_
    rintro fr H' ⟨k, hk6, hk, hpre2, rfl, x, rfl⟩
    by_cases h6 : k < 6
    · have h6' : (k : Int) < 6 := by omega
      obtain ⟨m, hm⟩ : ∃ m, 6 - k = m + 1 := ⟨5 - k, by omega⟩
      rw [hm] at hpre2
      have hmay := mayT_at k h6
      have hw : IntKind.i64.wrap (7 + (k : Int) + 1) = 7 + (k + 1) := by rw [wrap_in (by omega) (by omega)]; omega
      have hwk : IntKind.i64.wrap ((k : Int) + 1) = k + 1 := wrap_in (by omega) (by omega)
      by_cases hl2 : 7 + k = s.length
      · have e1 : (7 + (k : Int) == s.length) = true := by rw [beq_iff_eq]; omega
        rw [preR_end s m (7 + k) (List.getElem?_eq_none (by omega))] at hpre2
        simp [h6', hmay, e1, rcells, hS']
        exact aPost_same hB (v0 := .tup [.agg (rcells (stP s k) [] (miP s k)), .int .i64 0, .agg [.int .i64 s.length, .int .i64 124]]) (by simp [rcells]) (nilV_refl _) (by simp [rcells]) (hQ3 _ [] _ (stR_part hpre2.symm))
      · have hil : 7 + k < s.length := by omega
        have e1 : (7 + (k : Int) == s.length) = false := by rw [beq_eq_false_iff_ne]; omega
        obtain ⟨b, hb⟩ : ∃ b, s[7 + k]? = some b := ⟨_, List.getElem?_eq_getElem hil⟩
        have hat : lat s (7 + k) = some b := lat_eq hb
        have hge : (0 : Int) ≤ 7 + (k : Int) := by omega
        have hlt : 7 + (k : Int) < s.length := by omega
        have htn : (7 + (k : Int)).toNat = 7 + k := by omega
        have hma := may_at h6 b
        simp [h6', hmay, e1, hge, hlt, htn, hat]
        refine indexByte_pc E' _ _ (mayT.getD k []) b ?_
        cases hsb : stB (7 + k) b with
        | false =>
          rw [hsb] at hma
          have hlt0 : Lib.indexByte (mayT.getD k []) b < 0 := by simpa using hma
          rw [preR_bad hb hsb] at hpre2
          simp only [List.getD_eq_getElem?_getD] at hlt0
          simp [hlt0, rcells]
          exact aPost_same hB (v0 := .tup [.agg (rcells (stP s k) [] (miP s k)), .int .i64 0, .agg [.int .i64 ((7 + k : Nat) : Int), .int .i64 122]]) (by simp [rcells]) (nilV_refl _) (by simp [rcells]) (hQ2 _ [] _ (7 + k) (stR_bad hpre2.symm))
        | true =>
          rw [hsb] at hma
          have hlt0 : ¬ Lib.indexByte (mayT.getD k []) b < 0 := by simpa using hma
          rw [preR_ok hb hsb] at hpre2
          simp only [List.getD_eq_getElem?_getD] at hlt0
          have hpre3 : preR s (6 - (k + 1)) (7 + (k + 1)) = preR s 13 0 := by rw [show 6 - (k + 1) = m by omega]; exact hpre2
          have hdg := dg_at hb
          have hrng : ∀ i, -48 ≤ dg s i ∧ dg s i ≤ 207 := fun i => by
            unfold dg
            have := (s[i]?.getD 0).toNat_lt
            omega
          have fin : ∀ (st mi : Int) (fr : List AV), stP s (k + 1) = st → miP s (k + 1) = mi → (∃ x : Nat → AV, fr = [.str s, x 1, .ptr (some (H.length, 0)), x 3, .ptr (some (H.length + 1, 0)), .ptr (some (H.length + 2, 0)), .int .i64 ((7 + (k + 1) : Nat) : Int), .ptr (some (H.length + 3, 0)), x 8, x 9, x 10, x 11, x 12, x 13, x 14, x 15, x 16, x 17, x 18, x 19, x 20, x 21, x 22, x 23, x 24, x 25, x 26, x 27, x 28, x 29, x 30, x 31, x 32, x 33, .sl true 1 [[AV.str [48, 49]], [.str [32]], [.str [49, 50, 51, 52, 53]], [.str [48, 49, 50, 51, 52, 53, 54, 55, 56, 57]], [.str [48, 49, 50, 51, 52, 53, 54, 55, 56, 57]], [.str [32]]], .int .i64 6, .int .i64 ((k + 1 : Nat) : Int), x 37, x 38, x 39, x 40, x 41, x 42, x 43, x 44, x 45, x 46, x 47, x 48, x 49, x 50, x 51, x 52, x 53, x 54, x 55, x 56, x 57, x 58, x 59, x 60, x 61, x 62, x 63, x 64, x 65, x 66, x 67, x 68, x 69, x 70, x 71, x 72, x 73, x 74, x 75, x 76, x 77, x 78, x 79, x 80, x 81, x 82, x 83, x 84, x 85, x 86, x 87, x 88, x 89, x 90, x 91, x 92, x 93, x 94, x 95, x 96, x 97, x 98, x 99, x 100, x 101, x 102, x 103, x 104, x 105, x 106, x 107, x 108, x 109, x 110, x 111, x 112, x 113, x 114, x 115, x 116, x 117, x 118, x 119, x 120, x 121, x 122, x 123, x 124, x 125, x 126, x 127, x 128, x 129, x 130, x 131, x 132, x 133, x 134, x 135, x 136, x 137, x 138, x 139, x 140, x 141]) →
              slInv2 s H fr (H ++ [rcells 0 [] 0, [.int .i64 0, .int .i64 0], rcells st [] mi, [.int .i64 s.length, .int .i64 124]]) := fun st mi fr h1 h2 h3 => ⟨k + 1, by omega, by omega, hpre3, by rw [h1, h2], h3⟩
          rcases (by omega : k = 0 ∨ k = 1 ∨ k = 2 ∨ k = 3 ∨ k = 4 ∨ k = 5) with rfl | rfl | rfl | rfl | rfl | rfl
          · have hd := may_dig' (.inl hsb)
            have hu := u8_sub48 b.toNat b.toNat_lt hd.1
            have hwc : IntKind.i64.wrap ((b.toNat : Int) - 48) = (b.toNat : Int) - 48 := wrap_in (by omega) (by omega)
            have hat2 : lat s 7 = some b := hat
            simp [hlt0, wlit, hat2, hu, hwc, rcells]
            exact Kloop_normal (fin 0 _ _ rfl hdg (fr_intro (by simp))) (by simp)
          · simp [hlt0, wlit, rcells]
            exact Kloop_normal (fin 0 (dg s 7) _ rfl rfl (fr_intro (by simp))) (by simp)
          · have hd := may_dig' (.inr (.inl hsb))
            have hu := u8_sub48 b.toNat b.toNat_lt hd.1
            have hwc : IntKind.i64.wrap ((b.toNat : Int) - 48) = (b.toNat : Int) - 48 := wrap_in (by omega) (by omega)
            have hat2 : lat s 9 = some b := hat
            have hw0 : IntKind.i64.wrap ((b.toNat : Int) - 48) = (b.toNat : Int) - 48 := wrap_in (by omega) (by omega)
            simp [hlt0, wlit, hat2, hu, hwc, hw0, rcells, stP]
            exact Kloop_normal (fin ((b.toNat : Int) - 48) (dg s 7) _ hdg rfl (fr_intro (by simp))) (by simp)
          · have hd := may_dig' (.inr (.inr (.inl hsb)))
            have hu := u8_sub48 b.toNat b.toNat_lt hd.1
            have hwc : IntKind.i64.wrap ((b.toNat : Int) - 48) = (b.toNat : Int) - 48 := wrap_in (by omega) (by omega)
            have hat2 : lat s 10 = some b := hat
            have h9 := hrng 9
            have hw0 : IntKind.i64.wrap (10 * dg s 9) = 10 * dg s 9 := wrap_in (by omega) (by omega)
            have hw1 : IntKind.i64.wrap (10 * dg s 9 + ((b.toNat : Int) - 48)) = 10 * dg s 9 + ((b.toNat : Int) - 48) := wrap_in (by omega) (by omega)
            simp [hlt0, wlit, hat2, hu, hwc, hw0, hw1, rcells, stP]
            exact Kloop_normal (fin (10 * dg s 9 + ((b.toNat : Int) - 48)) (dg s 7) _ (by rw [← hdg]; rfl) rfl (fr_intro (by simp))) (by simp)
          · have hd := may_dig' (.inr (.inr (.inr hsb)))
            have hu := u8_sub48 b.toNat b.toNat_lt hd.1
            have hwc : IntKind.i64.wrap ((b.toNat : Int) - 48) = (b.toNat : Int) - 48 := wrap_in (by omega) (by omega)
            have hat2 : lat s 11 = some b := hat
            have h9 := hrng 9
            have h10 := hrng 10
            have hw0 : IntKind.i64.wrap (10 * (10 * dg s 9 + dg s 10)) = 10 * (10 * dg s 9 + dg s 10) := wrap_in (by omega) (by omega)
            have hw1 : IntKind.i64.wrap (10 * (10 * dg s 9 + dg s 10) + ((b.toNat : Int) - 48)) = 10 * (10 * dg s 9 + dg s 10) + ((b.toNat : Int) - 48) := wrap_in (by omega) (by omega)
            simp [hlt0, wlit, hat2, hu, hwc, hw0, hw1, rcells, stP]
            exact Kloop_normal (fin (10 * (10 * dg s 9 + dg s 10) + ((b.toNat : Int) - 48)) (dg s 7) _ (by rw [← hdg]; rfl) rfl (fr_intro (by simp))) (by simp)
          · simp [hlt0, wlit, rcells]
            exact Kloop_normal (fin (stP s 5) (dg s 7) _ rfl rfl (fr_intro (by simp))) (by simp)
    · obtain rfl : k = 6 := by omega
      have hst : stR s = reasonR (s.drop 13) 0 13 := stR_ok (by rw [← hpre2]; rfl)
      have hmi : miP s 6 = dg s 7 := rfl
      have hs6 : stP s 6 = 100 * dg s 9 + 10 * dg s 10 + dg s 11 := by show 10 * (10 * dg s 9 + dg s 10) + dg s 11 = _; omega
      simp
      refine VL_go (slInv3 s H) (fun fr _ => s.length - (ai (aget fr 6)).toNat) ⟨13, by omega, by omega, hst.symm, rfl, fr_intro (by simp)⟩ ?_
      rintro fr H' ⟨i, h13, hi, hre, rfl, x, rfl⟩
      by_cases hl3 : i = s.length
      · have e1 : ((i : Int) == s.length) = true := by rw [beq_iff_eq]; omega
        rw [List.drop_of_length_le (by omega), reasonR_nil] at hre
        simp [e1, rcells, hS']
        exact aPost_same hB (v0 := .tup [.agg (rcells (stP s 6) [] (miP s 6)), .int .i64 0, .agg [.int .i64 s.length, .int .i64 124]]) (by simp [rcells]) (nilV_refl _) (by simp [rcells]) (hQ3 _ [] _ hre.symm)
      have hil : i < s.length := by omega
      have e1 : ((i : Int) == s.length) = false := by rw [beq_eq_false_iff_ne]; omega
      obtain ⟨b, hb⟩ : ∃ b, s[i]? = some b := ⟨_, List.getElem?_eq_getElem hil⟩
      have hat := lat_eq hb
      have hd := drop_at s i b hb
      have hw : IntKind.i64.wrap ((i : Int) + 1) = i + 1 := wrap_in (by omega) (by omega)
      have hw2 : IntKind.i64.wrap ((i : Int) + 2) = i + 2 := wrap_in (by omega) (by omega)
      have hwm : IntKind.i64.wrap ((i : Int) - 13) = i - 13 := wrap_in (by omega) (by omega)
      have tn : ((i : Int) + 1).toNat = i + 1 := by omega
      have hile : i ≤ s.length := by omega
      rw [hd] at hre
      by_cases hb13 : b = 13
      · subst hb13
        by_cases hl4 : i + 1 = s.length
        · have e2 : ((i : Int) + 1 == s.length) = true := by rw [beq_iff_eq]; omega
          rw [List.drop_of_length_le (by omega), reasonR_cr1] at hre
          simp [e1, hil, hat, hw, e2, h13, hile, rcells, hS']
          exact aPost_same hB (v0 := .tup [.agg (rcells (stP s 6) ((s.drop 13).take (i - 13)) (miP s 6)), .int .i64 0, .agg [.int .i64 s.length, .int .i64 124]]) (by simp [rcells]) (nilV_refl _) (by simp [rcells]) (hQ3 _ _ _ hre.symm)
        · have hlt : i + 1 < s.length := by omega
          have e2 : ((i : Int) + 1 == s.length) = false := by rw [beq_eq_false_iff_ne]; omega
          have hlt2 : (i : Int) + 1 < s.length := by omega
          have hge2 : (0 : Int) ≤ (i : Int) + 1 := by omega
          obtain ⟨c, hcc⟩ : ∃ c, s[i + 1]? = some c := ⟨_, List.getElem?_eq_getElem hlt⟩
          have hat2 := lat_eq hcc
          rw [drop_at s (i + 1) c hcc, reasonR_cr] at hre
          by_cases hc10 : c = 10
          · subst hc10
            rw [if_pos rfl] at hre
            have hq := hQ1 (i + 2) hre.symm
            rw [show i + 2 - 2 - 13 = i - 13 by omega, ← hs6, ← hmi] at hq
            simp [e1, hil, hat, hw, hw2, e2, h13, hile, tn, hlt2, hge2, hat2, rcells]
            exact aPost_same hB (v0 := .tup [.agg (rcells (stP s 6) ((s.drop 13).take (i - 13)) (miP s 6)), .int .i64 ((i + 2 : Nat) : Int), .agg [.int .i64 0, .int .i64 0]]) (by simp [rcells]) (nilV_refl _) (by simp [rcells]) hq
          · rw [if_neg hc10] at hre
            have hne : ((c.toNat : Int) != 10) = true := by
              rw [bne_iff_ne]; intro e; exact hc10 (UInt8.toNat_inj.1 (by have : (10 : UInt8).toNat = 10 := rfl; omega))
            simp [e1, hil, hat, hw, e2, h13, hile, tn, hlt2, hge2, hat2, hne, rcells]
            exact aPost_same hB (v0 := .tup [.agg (rcells (stP s 6) ((s.drop 13).take (i - 13)) (miP s 6)), .int .i64 0, .agg [.int .i64 ((i + 1 : Nat) : Int), .int .i64 122]]) (by simp [rcells]) (nilV_refl _) (by simp [rcells]) (hQ2 _ _ _ (i + 1) hre.symm)
      · have hb13' : ((b.toNat : Int) == 13) = false := by
          rw [beq_eq_false_iff_ne]; intro e; exact hb13 (UInt8.toNat_inj.1 (by have : (13 : UInt8).toNat = 13 := rfl; omega))
        have hsl : (s.drop i).take (i + 1 - i) = [b] := by rw [hd, show i + 1 - i = 1 by omega]; rfl
        have hle1 : i + 1 ≤ s.length := by omega
        have hsl1 : (s.drop i).take 1 = [b] := by rw [hd]; rfl
        have hge1 : (0 : Int) ≤ (i : Int) + 1 := by omega
        simp [e1, hil, hat, hw, hb13', tn, hle1, hge1, hsl1]
        refine isField_pc E' _ _ [b] (by simp [cap]) ?_
        have hfc : fldB [b] = fcB b := by simp [fldB]
        rw [hfc]
        cases hf : fcB b with
        | false =>
          rw [reasonR_bad _ _ _ _ hb13 (.inr hf)] at hre
          simp [rcells]
          exact aPost_same hB (v0 := .tup [.agg (rcells (stP s 6) [] (miP s 6)), .int .i64 0, .agg [.int .i64 i, .int .i64 122]]) (by simp [rcells]) (nilV_refl _) (by simp [rcells]) (hQ2 _ [] _ i hre.symm)
        | true =>
          by_cases h256 : 256 ≤ i - 13
          · rw [reasonR_bad _ _ _ _ hb13 (.inl h256)] at hre
            have h256' : (256 : Int) ≤ (i : Int) - 13 := by omega
            simp [hwm, h256', rcells]
            exact aPost_same hB (v0 := .tup [.agg (rcells (stP s 6) [] (miP s 6)), .int .i64 0, .agg [.int .i64 i, .int .i64 122]]) (by simp [rcells]) (nilV_refl _) (by simp [rcells]) (hQ2 _ [] _ i hre.symm)
          · rw [reasonR_go _ _ _ _ hb13 (fun e => e.elim h256 (fun e => by rw [hf] at e; cases e))] at hre
            have h256' : ¬ (256 : Int) ≤ (i : Int) - 13 := by omega
            simp [hwm, h256', hw]
            exact Kloop_normal ⟨i + 1, by omega, by omega, by rw [show i + 1 - 13 = i - 13 + 1 by omega]; exact hre, rfl, fr_intro (by simp)⟩ (by simp; omega)
end
end Go.Proofs.YtcdkcaocfioigaaGreatDoor

set_option linter.unusedVariables false
set_option linter.unnecessarySimpa false
set_option linter.unusedSimpArgs false
set_option linter.unusedSectionVars false
set_option maxRecDepth 100000
namespace Go.Proofs.YtcdkcaocfioigaaGreatDoor
open Go Go.RowKit Go.Proofs

theorem lineS_ext (u : List UInt8) : ∀ (l : List UInt8) (back : Bool) (i : Nat), lineS back l i ≠ .part → lineS back (l ++ u) i = lineS back l i
  | [], back, i, h => absurd (lineS_nil back i) h
  | b :: r, true, i, _ => by rw [List.cons_append, lineS_back, lineS_back]
  | b :: r, false, i, h => by
    rw [lineS_go] at h
    rw [List.cons_append, lineS_go, lineS_go]
    by_cases hb : b = 10
    · rw [if_pos hb, if_pos hb]
    · rw [if_neg hb] at h
      rw [if_neg hb, if_neg hb]
      exact lineS_ext u r _ _ h
theorem lineS_rng : ∀ (l : List UInt8) (back : Bool) (i n : Nat), lineS back l i = .ok n → i < n ∧ n ≤ i + l.length ∧ (back = false → i + 2 ≤ n)
  | [], back, i, n, h => by rw [lineS_nil] at h; cases h
  | b :: r, true, i, n, h => by
    rw [lineS_back] at h
    split at h
    · cases h; simp only [List.length_cons]; exact ⟨by omega, by omega, fun e => by cases e⟩
    · cases h
  | b :: r, false, i, n, h => by
    rw [lineS_go] at h
    split at h
    · cases h
    · obtain ⟨h1, h2, _⟩ := lineS_rng r _ _ _ h
      simp only [List.length_cons]
      exact ⟨by omega, by omega, fun _ => by omega⟩
theorem lineR_ext {t : List UInt8} {a : Nat} (u : List UInt8) (ha : a ≤ t.length) (h : lineR t a ≠ .part) : lineR (t ++ u) a = lineR t a := by
  unfold lineR at h ⊢
  rw [List.drop_append_of_le_length ha]
  exact lineS_ext u _ _ _ h
theorem lineR_rng {t : List UInt8} {a n : Nat} (h : lineR t a = .ok n) : a + 2 ≤ n ∧ (a ≤ t.length → n ≤ t.length) := by
  obtain ⟨h1, h2, h3⟩ := lineS_rng _ _ _ _ h
  rw [List.length_drop] at h2
  exact ⟨h3 rfl, fun ha => by omega⟩
theorem preR_ext (s u : List UInt8) : ∀ (n i : Nat), preR s n i ≠ .part → preR (s ++ u) n i = preR s n i
  | 0, i, _ => rfl
  | n + 1, i, h => by
    cases hb : s[i]? with
    | none => exact absurd (preR_end s n i hb) h
    | some b =>
      have hb2 : (s ++ u)[i]? = some b := by rw [List.getElem?_append_left (List.getElem?_eq_some_iff.1 hb).1]; exact hb
      by_cases hs : stB i b = true
      · rw [preR_ok hb hs] at h
        rw [preR_ok hb hs, preR_ok hb2 hs]
        exact preR_ext s u n (i + 1) h
      · rw [Bool.not_eq_true] at hs
        rw [preR_bad hb hs, preR_bad hb2 hs]
theorem preR_len (s : List UInt8) : ∀ (n i j : Nat), preR s n i = .ok j → j = i + n ∧ (i ≤ s.length → j ≤ s.length)
  | 0, i, j, h => by cases h; exact ⟨rfl, fun h => h⟩
  | n + 1, i, j, h => by
    cases hb : s[i]? with
    | none => rw [preR_end s n i hb] at h; cases h
    | some b =>
      have hi := (List.getElem?_eq_some_iff.1 hb).1
      by_cases hs : stB i b = true
      · rw [preR_ok hb hs] at h
        obtain ⟨h1, h2⟩ := preR_len s n (i + 1) j h
        exact ⟨by omega, fun _ => h2 (by omega)⟩
      · rw [Bool.not_eq_true] at hs
        rw [preR_bad hb hs] at h; cases h
theorem reasonR_ext (u : List UInt8) : ∀ (l : List UInt8) (k i : Nat), reasonR l k i ≠ .part → reasonR (l ++ u) k i = reasonR l k i
  | [], k, i, h => absurd (reasonR_nil k i) h
  | b :: r, k, i, h => by
    rw [List.cons_append]
    by_cases hb : b = 13
    · subst hb
      cases r with
      | nil => exact absurd (reasonR_cr1 k i) h
      | cons c r => rw [List.cons_append, reasonR_cr, reasonR_cr]
    · by_cases h2 : 256 ≤ k ∨ fcB b = false
      · rw [reasonR_bad _ _ _ _ hb h2, reasonR_bad _ _ _ _ hb h2]
      · rw [reasonR_go _ _ _ _ hb h2] at h
        rw [reasonR_go _ _ _ _ hb h2, reasonR_go _ _ _ _ hb h2]
        exact reasonR_ext u r _ _ h
theorem reasonR_rng : ∀ (l : List UInt8) (k i n : Nat), reasonR l k i = .ok n → i + 2 ≤ n ∧ n ≤ i + l.length
  | [], k, i, n, h => by rw [reasonR_nil] at h; cases h
  | b :: r, k, i, n, h => by
    by_cases hb : b = 13
    · subst hb
      cases r with
      | nil => rw [reasonR_cr1] at h; cases h
      | cons c r =>
        rw [reasonR_cr] at h
        split at h
        · cases h; simp only [List.length_cons]; omega
        · cases h
    · by_cases h2 : 256 ≤ k ∨ fcB b = false
      · rw [reasonR_bad _ _ _ _ hb h2] at h; cases h
      · rw [reasonR_go _ _ _ _ hb h2] at h
        have := reasonR_rng r _ _ _ h
        simp only [List.length_cons]; omega
theorem stR_pre {s : List UInt8} {n : Nat} (h : stR s = .ok n) : preR s 13 0 = .ok 13 ∧ 13 ≤ s.length ∧ reasonR (s.drop 13) 0 13 = .ok n ∧ 15 ≤ n ∧ n ≤ s.length := by
  unfold stR at h
  cases hp : preR s 13 0 with
  | ok j =>
    obtain ⟨h1, h2⟩ := preR_len s 13 0 j hp
    have h3 := h2 (by omega)
    rw [hp] at h
    simp only at h
    have := reasonR_rng _ _ _ _ h
    rw [List.length_drop] at this
    exact ⟨by rw [h1], by omega, h, by omega, by omega⟩
  | bad j => rw [hp] at h; cases h
  | part => rw [hp] at h; cases h
theorem stR_ext {s : List UInt8} (u : List UInt8) (h : stR s ≠ .part) : stR (s ++ u) = stR s := by
  cases hp : preR s 13 0 with
  | ok j =>
    have hl := preR_len s 13 0 j hp
    have hp2 : preR (s ++ u) 13 0 = .ok j := by rw [preR_ext s u 13 0 (by rw [hp]; simp), hp]
    rw [stR_ok hp] at h
    rw [stR_ok hp, stR_ok hp2, List.drop_append_of_le_length (by omega)]
    exact reasonR_ext u _ _ _ h
  | bad j =>
    have hp2 : preR (s ++ u) 13 0 = .bad j := by rw [preR_ext s u 13 0 (by rw [hp]; simp), hp]
    rw [stR_bad hp, stR_bad hp2]
  | part => exact absurd (stR_part hp) h
/-- One line of a head. -/
def nextR (t : List UInt8) (old : Bool) (a : Nat) (fs : List Fld) : HD ⊕ (Nat × List Fld) := match lineR t a with
  | .part => .inl .part
  | .bad i => .inl (.bad i 122)
  | .ok e => if (t.drop a).take (e - 2 - a) = [] then .inl (if (framingA fs old).2.2 ≠ 0 then .bad a (framingA fs old).2.2 else .ok fs e)
      else if 100 ≤ fs.length then .inl (.bad a 65)
      else if (lineX ((t.drop a).take (e - 2 - a))).2.2 ≠ 0 then .inl (.bad (a + (lineX ((t.drop a).take (e - 2 - a))).2.1) (lineX ((t.drop a).take (e - 2 - a))).2.2)
      else .inr (e, fs ++ [(lineX ((t.drop a).take (e - 2 - a))).1])
theorem fieldsR_next (t : List UInt8) (old : Bool) (n a : Nat) (fs : List Fld) : fieldsR t old (n + 1) a fs = match nextR t old a fs with
    | .inl x => x
    | .inr (e, gs) => fieldsR t old n e gs := by
  rw [fieldsR]
  unfold nextR
  cases lineR t a with
  | part => rfl
  | bad i => rfl
  | ok e =>
    simp only
    split
    · rfl
    · split
      · rfl
      · split <;> rfl
theorem nextR_ext {t : List UInt8} {old : Bool} {a : Nat} {fs : List Fld} (u : List UInt8) (ha : a ≤ t.length) (h : nextR t old a fs ≠ .inl .part) : nextR (t ++ u) old a fs = nextR t old a fs := by
  have hl : lineR t a ≠ .part := fun e => h (by unfold nextR; rw [e])
  have hl2 := lineR_ext u ha hl
  unfold nextR
  rw [hl2]
  cases he : lineR t a with
  | part => rfl
  | bad i => rfl
  | ok e =>
    have hr := (lineR_rng he).2 ha
    have hd : ((t ++ u).drop a).take (e - 2 - a) = (t.drop a).take (e - 2 - a) := by
      rw [List.drop_append_of_le_length ha, List.take_append_of_le_length (by rw [List.length_drop]; omega)]
    simp only [hd]
theorem nextR_go {t : List UInt8} {old : Bool} {a e : Nat} {fs gs : List Fld} (h : nextR t old a fs = .inr (e, gs)) : a + 2 ≤ e ∧ (a ≤ t.length → e ≤ t.length) ∧ lineR t a = .ok e ∧ (t.drop a).take (e - 2 - a) ≠ [] ∧ fs.length < 100 ∧ (lineX ((t.drop a).take (e - 2 - a))).2.2 = 0 ∧ gs = fs ++ [(lineX ((t.drop a).take (e - 2 - a))).1] := by
  unfold nextR at h
  cases he : lineR t a with
  | part => rw [he] at h; cases h
  | bad i => rw [he] at h; cases h
  | ok e' =>
    rw [he] at h
    simp only at h
    split at h
    · cases h
    · split at h
      · cases h
      · split at h
        · cases h
        · rename_i h1 h2 h3
          cases h
          obtain ⟨r1, r2⟩ := lineR_rng he
          exact ⟨r1, r2, rfl, h1, by omega, by simpa using h3, rfl⟩
theorem fieldsR_ext (u : List UInt8) {t : List UInt8} {old : Bool} : ∀ (n m a : Nat) (fs : List Fld), n ≤ m → a ≤ t.length → fieldsR t old n a fs ≠ .part → fieldsR (t ++ u) old m a fs = fieldsR t old n a fs
  | 0, m, a, fs, _, _, h => absurd (by rw [fieldsR]) h
  | n + 1, 0, a, fs, hn, _, _ => absurd hn (by omega)
  | n + 1, m + 1, a, fs, hn, ha, h => by
    rw [fieldsR_next] at h ⊢
    rw [fieldsR_next]
    cases hx : nextR t old a fs with
    | inl x =>
      rw [hx] at h
      rw [nextR_ext u ha (by rw [hx]; intro e; cases e; exact h rfl), hx]
    | inr p =>
      obtain ⟨e, gs⟩ := p
      rw [hx] at h
      rw [nextR_ext u ha (by rw [hx]; simp), hx]
      simp only at h ⊢
      exact fieldsR_ext u n m e gs (by omega) ((nextR_go hx).2.1 ha) h
theorem fieldsR_rng {t : List UInt8} {old : Bool} : ∀ (n a : Nat) (fs gs : List Fld) (e : Nat), a ≤ t.length → fieldsR t old n a fs = .ok gs e → a + 2 ≤ e ∧ e ≤ t.length
  | 0, a, fs, gs, e, _, h => by rw [fieldsR] at h; cases h
  | n + 1, a, fs, gs, e, ha, h => by
    rw [fieldsR_next] at h
    cases hx : nextR t old a fs with
    | inl x =>
      rw [hx] at h
      simp only at h
      subst h
      unfold nextR at hx
      cases he : lineR t a with
      | part => rw [he] at hx; cases hx
      | bad i => rw [he] at hx; cases hx
      | ok e' =>
        obtain ⟨r1, r2⟩ := lineR_rng he
        have r3 := r2 ha
        rw [he] at hx
        simp only at hx
        split at hx
        · split at hx
          · cases hx
          · cases hx; omega
        · split at hx
          · cases hx
          · split at hx <;> cases hx
    | inr p =>
      obtain ⟨e', gs'⟩ := p
      rw [hx] at h
      obtain ⟨r1, r2, _⟩ := nextR_go hx
      have := fieldsR_rng n e' gs' gs e (r2 ha) h
      omega
theorem fieldsR_bad0 {t : List UInt8} {old : Bool} : ∀ (n a : Nat) (fs : List Fld) (i : Int), fieldsR t old n a fs ≠ .bad i 0
  | 0, a, fs, i, h => by rw [fieldsR] at h; cases h
  | n + 1, a, fs, i, h => by
    rw [fieldsR_next] at h
    cases hx : nextR t old a fs with
    | inl x =>
      rw [hx] at h
      simp only at h
      subst h
      unfold nextR at hx
      cases he : lineR t a with
      | part => rw [he] at hx; cases hx
      | bad i => rw [he] at hx; cases hx
      | ok e' =>
        rw [he] at hx
        simp only at hx
        split at hx
        · split at hx
          · rename_i h1
            injection hx with hx
            injection hx with _ hx
            exact h1 hx
          · cases hx
        · split at hx
          · injection hx with hx
            injection hx with _ hx
            exact absurd hx (by decide)
          · split at hx
            · rename_i h1
              injection hx with hx
              injection hx with _ hx
              exact h1 hx
            · cases hx
    | inr p =>
      obtain ⟨e', gs'⟩ := p
      rw [hx] at h
      exact fieldsR_bad0 n e' gs' i h
/-- The head that a text of at most 65536 bytes begins with; none: there is not all of it. -/
def headO (t : List UInt8) : Option (Rep × Int × Int) := match stR t with
  | .part => none
  | .bad i => some (rep0, (i : Int), 122)
  | .ok a => match fieldsR t (decide (dg t 7 = 0)) (t.length + 1) a [] with
    | .part => none
    | .bad n e => some (rep0, n, e)
    | .ok fs e => some (⟨dg t 7, 100 * dg t 9 + 10 * dg t 10 + dg t 11, (t.drop 13).take (a - 2 - 13), fs, [], [], (framingA fs (decide (dg t 7 = 0))).1, (framingA fs (decide (dg t 7 = 0))).2.1, persistA fs (decide (dg t 7 = 0))⟩, (e : Int), 0)
theorem headM_eq (s : List UInt8) : headM s = (headO (s.take 65536)).getD (if 65536 < s.length then (rep0, 65536, 125) else (rep0, (s.length : Int), 124)) := by
  unfold headM headO
  simp only
  cases stR (s.take 65536) with
  | part => rfl
  | bad i => rfl
  | ok a =>
    simp only
    cases fieldsR (s.take 65536) (decide (dg (s.take 65536) 7 = 0)) ((s.take 65536).length + 1) a [] <;> rfl
theorem headO_ext {t : List UInt8} {x : Rep × Int × Int} (u : List UInt8) (h : headO t = some x) : headO (t ++ u) = some x := by
  unfold headO at h ⊢
  have h1 : stR t ≠ .part := fun e => by rw [e] at h; cases h
  rw [stR_ext u h1]
  cases hs : stR t with
  | part => exact absurd hs h1
  | bad i => rw [hs] at h; exact h
  | ok a =>
    rw [hs] at h
    simp only at h ⊢
    obtain ⟨_, h13, _, ha15, ha⟩ := stR_pre hs
    have hdg : ∀ i, i < 13 → dg (t ++ u) i = dg t i := fun i hi => by unfold dg; rw [List.getElem?_append_left (by omega)]
    rw [hdg 7 (by omega), hdg 9 (by omega), hdg 10 (by omega), hdg 11 (by omega)]
    have h2 : fieldsR t (decide (dg t 7 = 0)) (t.length + 1) a [] ≠ .part := fun e => by rw [e] at h; cases h
    rw [fieldsR_ext u (t.length + 1) ((t ++ u).length + 1) a [] (by simp) ha h2]
    have hd : ((t ++ u).drop 13).take (a - 2 - 13) = (t.drop 13).take (a - 2 - 13) := by
      rw [List.drop_append_of_le_length h13, List.take_append_of_le_length (by rw [List.length_drop]; omega)]
    rw [hd]
    exact h
theorem headM_ext {s : List UInt8} (u : List UInt8) (h : (headM s).2.2 ≠ 124) : headM (s ++ u) = headM s := by
  rw [headM_eq] at h
  rw [headM_eq, headM_eq]
  by_cases hl : s.length < 65536
  · have e1 : s.take 65536 = s := List.take_of_length_le (by omega)
    have e2 : (s ++ u).take 65536 = s ++ u.take (65536 - s.length) := by rw [List.take_append, e1]
    rw [e1] at h ⊢
    rw [e2]
    cases hx : headO s with
    | none => rw [hx, if_neg (by omega)] at h; exact absurd rfl h
    | some x => rw [headO_ext _ hx]; rfl
  · have e2 : (s ++ u).take 65536 = s.take 65536 := List.take_append_of_le_length (by omega)
    rw [e2]
    cases hx : headO (s.take 65536) with
    | none =>
      rw [hx] at h
      by_cases h2 : 65536 < s.length
      · rw [if_pos h2, if_pos (by rw [List.length_append]; omega)]
      · rw [if_neg h2] at h; exact absurd rfl h
    | some x => rfl
theorem headM_rng {s : List UInt8} (h : (headM s).2.2 = 0) : ∃ n : Nat, (headM s).2.1 = n ∧ 17 ≤ n ∧ n ≤ s.length ∧ n ≤ 65536 := by
  rw [headM_eq] at h ⊢
  cases hx : headO (s.take 65536) with
  | none =>
    rw [hx] at h
    simp only [Option.getD_none] at h
    split at h <;> simp at h
  | some x =>
    rw [hx] at h
    simp only [Option.getD_some] at h ⊢
    unfold headO at hx
    cases hs : stR (s.take 65536) with
    | part => rw [hs] at hx; cases hx
    | bad i => rw [hs] at hx; cases hx; simp at h
    | ok a =>
      rw [hs] at hx
      simp only at hx
      obtain ⟨_, h13, _, ha15, ha⟩ := stR_pre hs
      cases hf : fieldsR (s.take 65536) (decide (dg (s.take 65536) 7 = 0)) ((s.take 65536).length + 1) a [] with
      | part => rw [hf] at hx; cases hx
      | bad n e =>
        rw [hf] at hx
        cases hx
        simp only at h
        subst h
        exfalso
        exact fieldsR_bad0 _ _ _ _ hf
      | ok fs e =>
        rw [hf] at hx
        cases hx
        obtain ⟨r1, r2⟩ := fieldsR_rng _ _ _ _ _ ha hf
        rw [List.length_take] at r2
        exact ⟨e, rfl, by omega, by omega, by omega⟩
end Go.Proofs.YtcdkcaocfioigaaGreatDoor

set_option linter.unusedVariables false
set_option linter.unnecessarySimpa false
set_option linter.unusedSimpArgs false
set_option linter.unusedSectionVars false
set_option maxRecDepth 100000
namespace Go.Proofs.YtcdkcaocfioigaaGreatDoor
open Go Go.RowKit Go.Proofs

theorem feedD_stopN : ∀ (a : List UInt8) (d : Dec) (s : List UInt8), goD d → ((feedD d a).1.done = true ∨ (feedD d a).1.err ≠ 0) → feedD d (a ++ s) = feedD d a
  | [], d, s, hg, h => by
    rcases h with h | h
    · rw [show (feedD d []).1 = d from rfl, hg.1] at h; cases h
    · exact absurd hg.2 h
  | b :: a, d, s, hg, h => by
    rw [feedD_cons] at h
    rw [List.cons_append, feedD_cons, feedD_cons]
    by_cases hc : (feed1 d b).done = true ∨ (feed1 d b).err ≠ 0
    · rw [if_pos hc, if_pos hc]
    · rw [if_neg hc] at h
      rw [if_neg hc, if_neg hc]
      have hg2 : goD (feed1 d b) := by
        simp only [not_or, Bool.not_eq_true, ne_eq, Decidable.not_not] at hc
        exact hc
      rw [feedD_stopN a (feed1 d b) s hg2 h]
theorem newD_go (m r f : Int) : goD (newD m r f) := ⟨rfl, rfl⟩
theorem decodeD_ext {s : List UInt8} {m r f : Int} (u : List UInt8) (h : (decodeD s m r f).2.2.2 ≠ 105) : decodeD (s ++ u) m r f = decodeD s m r f := by
  unfold decodeD at h ⊢
  by_cases h0 : m < 0 ∨ r < 0 ∨ f < 0
  · rw [if_pos h0, if_pos h0]
  · rw [if_neg h0] at h
    rw [if_neg h0, if_neg h0]
    by_cases h1 : (feedD (newD m r f) s).1.err ≠ 0
    · have e := feedD_stopN s (newD m r f) u (newD_go m r f) (.inr h1)
      rw [e, if_pos h1, if_pos h1]
    · rw [if_neg h1] at h
      by_cases h2 : (feedD (newD m r f) s).1.done = false
      · rw [if_pos h2] at h; exact absurd rfl h
      · have e := feedD_stopN s (newD m r f) u (newD_go m r f) (.inl (by rw [Bool.not_eq_false] at h2; exact h2))
        rw [e, if_neg h1, if_neg h1, if_neg h2, if_neg h2]
theorem decodeD_rng {s : List UInt8} {m r f : Int} (h : (decodeD s m r f).2.2.2 = 0) : ∃ k : Nat, (decodeD s m r f).2.2.1 = k ∧ k ≤ s.length := by
  unfold decodeD at h ⊢
  by_cases h0 : m < 0 ∨ r < 0 ∨ f < 0
  · rw [if_pos h0] at h; simp at h
  · rw [if_neg h0] at h ⊢
    by_cases h1 : (feedD (newD m r f) s).1.err ≠ 0
    · rw [if_pos h1] at h; exact absurd h h1
    · rw [if_neg h1] at h ⊢
      by_cases h2 : (feedD (newD m r f) s).1.done = false
      · rw [if_pos h2] at h; simp at h
      · rw [if_neg h2]
        exact ⟨_, rfl, feedD_le s _⟩
/-- What comes behind a head. -/
def bodyM (r : Rep) (n : Nat) (len : Nat) (rest : List UInt8) (most : Int) (ended : Bool) : Rep × Int × Int :=
    if r.kind = 2 then
      (if (decodeD rest most 65536 100).2.2.2 = 0 then ({ r with body := (decodeD rest most 65536 100).1, trailers := (decodeD rest most 65536 100).2.1 }, n + (decodeD rest most 65536 100).2.2.1, 0)
       else (rep0, n + (decodeD rest most 65536 100).2.2.1, if (decodeD rest most 65536 100).2.2.2 = 105 then 124 else if (decodeD rest most 65536 100).2.2.2 = 102 then 125 else (decodeD rest most 65536 100).2.2.2))
    else if r.kind = 1 then
      (if most < r.length then (rep0, n, 125) else if (rest.length : Int) < r.length then (rep0, len, 124) else ({ r with body := rest.take r.length.toNat }, n + r.length, 0))
    else if most < rest.length then (rep0, n + most, 125) else if ended = false then (rep0, len, 124) else ({ r with body := rest, persist := false }, len, 0)
theorem parseM_neg (m s : List UInt8) {most : Int} (ended : Bool) (h : most < 0) : parseM m s most ended = (rep0, 0, 1) := by unfold parseM; rw [if_pos h]
theorem parseM_bad {m s : List UInt8} {most : Int} (ended : Bool) (h : ¬ most < 0) (h1 : (headM s).2.2 ≠ 0) : parseM m s most ended = (rep0, (headM s).2.1, (headM s).2.2) := by unfold parseM; rw [if_neg h, if_pos h1]
theorem parseM_none {m s : List UInt8} {most : Int} (ended : Bool) (h : ¬ most < 0) (h1 : (headM s).2.2 = 0) (h2 : bodylessB m (headM s).1.status = true) : parseM m s most ended = headM s := by unfold parseM; rw [if_neg h, if_neg (by simpa using h1), if_pos h2]
theorem parseM_body {m s : List UInt8} {most : Int} (ended : Bool) {n : Nat} (h : ¬ most < 0) (h1 : (headM s).2.2 = 0) (h2 : bodylessB m (headM s).1.status = false) (hn : (headM s).2.1 = n) : parseM m s most ended = bodyM (headM s).1 n s.length (s.drop n) most ended := by
  unfold parseM bodyM
  rw [if_neg h, if_neg (by simpa using h1), if_neg (by rw [h2]; simp), hn]
  rfl
theorem bodyM_ext {r : Rep} {n len : Nat} {rest : List UInt8} {most : Int} (u : List UInt8) (len2 : Nat) (h : (bodyM r n len rest most false).2.2 ≠ 124) : bodyM r n len2 (rest ++ u) most false = bodyM r n len rest most false := by
  unfold bodyM at h ⊢
  by_cases h1 : r.kind = 2
  · rw [if_pos h1] at h
    rw [if_pos h1, if_pos h1]
    have hne : (decodeD rest most 65536 100).2.2.2 ≠ 105 := fun e => by
      rw [if_neg (by rw [e]; decide), if_pos e] at h; exact h rfl
    rw [decodeD_ext u hne]
  · rw [if_neg h1] at h
    rw [if_neg h1, if_neg h1]
    by_cases h2 : r.kind = 1
    · rw [if_pos h2] at h
      rw [if_pos h2, if_pos h2]
      by_cases h3 : most < r.length
      · rw [if_pos h3, if_pos h3]
      · rw [if_neg h3] at h
        rw [if_neg h3, if_neg h3]
        by_cases h4 : (rest.length : Int) < r.length
        · rw [if_pos h4] at h; exact absurd rfl h
        · rw [if_neg h4, if_neg (by rw [List.length_append]; omega), List.take_append_of_le_length (by omega)]
    · rw [if_neg h2] at h
      rw [if_neg h2, if_neg h2]
      by_cases h3 : most < rest.length
      · rw [if_pos h3, if_pos (by rw [List.length_append]; omega)]
      · rw [if_neg h3, if_pos rfl] at h; exact absurd rfl h
theorem parseM_ext {m s : List UInt8} {most : Int} (u : List UInt8) (h : (parseM m s most false).2.2 ≠ 124) : parseM m (s ++ u) most false = parseM m s most false := by
  by_cases h0 : most < 0
  · rw [parseM_neg _ _ _ h0, parseM_neg _ _ _ h0]
  by_cases h1 : (headM s).2.2 = 0
  · have e := headM_ext u (s := s) (by rw [h1]; decide)
    cases h2 : bodylessB m (headM s).1.status with
    | true => rw [parseM_none _ h0 h1 h2, parseM_none _ h0 (by rw [e]; exact h1) (by rw [e]; exact h2), e]
    | false =>
      obtain ⟨n, hn, _, hl, _⟩ := headM_rng h1
      rw [parseM_body _ h0 h1 h2 hn] at h
      rw [parseM_body _ h0 h1 h2 hn, parseM_body _ h0 (by rw [e]; exact h1) (by rw [e]; exact h2) (by rw [e]; exact hn), e, List.drop_append_of_le_length hl]
      exact bodyM_ext u _ h
  · rw [parseM_bad _ h0 h1] at h
    have e := headM_ext u h
    rw [parseM_bad _ h0 h1, parseM_bad _ h0 (by rw [e]; exact h1), e]
theorem lenA_rng (l : List Fld) : 0 ≤ (lengthA l).1 := by
  unfold lengthA
  split
  · simp
  · split
    · split
      · simp
      · rename_i h; simp only [not_or] at h; simp only; omega
    · simp
theorem framingA_len (l : List Fld) (old : Bool) : 0 ≤ (framingA l old).2.1 := by
  have := lenA_rng l
  unfold framingA
  (repeat' split) <;> simp_all
theorem headM_len (s : List UInt8) : 0 ≤ (headM s).1.length := by
  rw [headM_eq]
  cases hx : headO (s.take 65536) with
  | none => simp only [Option.getD_none]; split <;> simp [rep0]
  | some x =>
    simp only [Option.getD_some]
    unfold headO at hx
    cases hs : stR (s.take 65536) with
    | part => rw [hs] at hx; cases hx
    | bad i => rw [hs] at hx; cases hx; simp [rep0]
    | ok a =>
      rw [hs] at hx
      simp only at hx
      cases hf : fieldsR (s.take 65536) (decide (dg (s.take 65536) 7 = 0)) ((s.take 65536).length + 1) a [] with
      | part => rw [hf] at hx; cases hx
      | bad n e => rw [hf] at hx; cases hx; simp [rep0]
      | ok fs e => rw [hf] at hx; cases hx; exact framingA_len _ _
theorem parseM_rng {m s : List UInt8} {most : Int} {ended : Bool} (h : (parseM m s most ended).2.2 = 0) : ∃ n : Nat, (parseM m s most ended).2.1 = n ∧ 17 ≤ n ∧ n ≤ s.length := by
  by_cases h0 : most < 0
  · rw [parseM_neg _ _ _ h0] at h; simp at h
  by_cases h1 : (headM s).2.2 = 0
  · obtain ⟨n, hn, h17, hl, _⟩ := headM_rng h1
    cases h2 : bodylessB m (headM s).1.status with
    | true => rw [parseM_none _ h0 h1 h2]; exact ⟨n, hn, h17, hl⟩
    | false =>
      have hlen := headM_len s
      rw [parseM_body _ h0 h1 h2 hn] at h ⊢
      have hdl : (s.drop n).length = s.length - n := List.length_drop
      unfold bodyM at h ⊢
      by_cases k1 : (headM s).1.kind = 2
      · rw [if_pos k1] at h ⊢
        by_cases k2 : (decodeD (s.drop n) most 65536 100).2.2.2 = 0
        · obtain ⟨k, hk, hkl⟩ := decodeD_rng k2
          rw [if_pos k2]
          exact ⟨n + k, by simp only [hk]; omega, by omega, by omega⟩
        · rw [if_neg k2] at h
          simp only at h
          split at h
          · simp at h
          · split at h
            · simp at h
            · exact absurd h k2
      · rw [if_neg k1] at h ⊢
        by_cases k3 : (headM s).1.kind = 1
        · rw [if_pos k3] at h ⊢
          by_cases k4 : most < (headM s).1.length
          · rw [if_pos k4] at h; simp at h
          · rw [if_neg k4] at h ⊢
            by_cases k5 : ((s.drop n).length : Int) < (headM s).1.length
            · rw [if_pos k5] at h; simp at h
            · rw [if_neg k5]
              exact ⟨n + (headM s).1.length.toNat, by simp only; omega, by omega, by omega⟩
        · rw [if_neg k3] at h ⊢
          by_cases k4 : most < ((s.drop n).length : Int)
          · rw [if_pos k4] at h; simp at h
          · rw [if_neg k4] at h ⊢
            cases ended with
            | true => rw [if_neg (by simp)]; exact ⟨s.length, rfl, by omega, by omega⟩
            | false => rw [if_pos rfl] at h; simp at h
  · rw [parseM_bad _ h0 h1] at h; exact absurd h h1

/-! ### A reader -/
structure RM where
  bytes : List UInt8
  err : Int
  over : Bool
  ended : Bool
  most : Int
  asked : List (List UInt8)
  done : List Rep
/-- Does the stream end behind it, by the method and the status? -/
def turnedB (m : List UInt8) (s : Int) : Bool := s == 101 || (m == vConnect && (decide (200 ≤ s) && decide (s ≤ 299)))
/-- One response off the front, and whether it goes on. -/
def oneR (r : RM) : RM × Bool :=
  if r.bytes = [] ∨ r.over = true then (r, false) else match r.asked with
  | [] => ({ r with err := 126 }, false)
  | m :: ms => if (parseM m r.bytes r.most r.ended).2.2 = 124 then (r, false)
    else if (parseM m r.bytes r.most r.ended).2.2 ≠ 0 then ({ r with err := (parseM m r.bytes r.most r.ended).2.2 }, false)
    else if interimB (parseM m r.bytes r.most r.ended).1.status = true then ({ r with bytes := r.bytes.drop (parseM m r.bytes r.most r.ended).2.1.toNat, done := r.done ++ [(parseM m r.bytes r.most r.ended).1] }, true)
    else if ((parseM m r.bytes r.most r.ended).1.persist = false) ∨ turnedB m (parseM m r.bytes r.most r.ended).1.status = true then ({ r with bytes := [], over := true, asked := ms, done := r.done ++ [(parseM m r.bytes r.most r.ended).1] }, true)
    else ({ r with bytes := r.bytes.drop (parseM m r.bytes r.most r.ended).2.1.toNat, asked := ms, done := r.done ++ [(parseM m r.bytes r.most r.ended).1] }, true)
def readR : Nat → RM → RM
  | 0, r => r
  | n + 1, r => if (oneR r).2 = true then readR n (oneR r).1 else (oneR r).1
def readA (r : RM) : RM := readR (r.bytes.length + 1) r
theorem oneR_less {r : RM} (h : (oneR r).2 = true) : (oneR r).1.bytes.length < r.bytes.length := by
  unfold oneR at h ⊢
  by_cases h0 : r.bytes = [] ∨ r.over = true
  · rw [if_pos h0] at h; cases h
  rw [if_neg h0] at h ⊢
  have hb : 0 < r.bytes.length := by
    rcases Nat.eq_zero_or_pos r.bytes.length with h | h
    · exact absurd (.inl (List.length_eq_zero_iff.1 h)) h0
    · exact h
  cases ha : r.asked with
  | nil => rw [ha] at h; cases h
  | cons m ms =>
    rw [ha] at h
    simp only at h ⊢
    by_cases h1 : (parseM m r.bytes r.most r.ended).2.2 = 124
    · rw [if_pos h1] at h; cases h
    rw [if_neg h1] at h ⊢
    by_cases h2 : (parseM m r.bytes r.most r.ended).2.2 = 0
    · rw [if_neg (by simpa using h2)]
      obtain ⟨n, hn, h17, hl⟩ := parseM_rng h2
      split
      · simp only [List.length_drop]; omega
      · split
        · exact hb
        · simp only [List.length_drop]; omega
    · rw [if_pos h2] at h; cases h
theorem readR_fuel : ∀ (n m : Nat) (r : RM), r.bytes.length < n → r.bytes.length < m → readR n r = readR m r
  | 0, m, r, h, _ => absurd h (by omega)
  | n + 1, 0, r, _, h => absurd h (by omega)
  | n + 1, m + 1, r, h1, h2 => by
    rw [readR, readR]
    by_cases h : (oneR r).2 = true
    · rw [if_pos h, if_pos h]
      have := oneR_less h
      exact readR_fuel n m _ (by omega) (by omega)
    · rw [if_neg h, if_neg h]
theorem readA_go {r : RM} (h : (oneR r).2 = true) : readA r = readA (oneR r).1 := by
  unfold readA
  rw [readR, if_pos h]
  have := oneR_less h
  exact readR_fuel _ _ _ (by omega) (by omega)
theorem readA_stop {r : RM} (h : (oneR r).2 = false) : readA r = (oneR r).1 := by
  unfold readA
  rw [readR, if_neg (by rw [h]; simp)]
/-- The bytes are no part of what is told behind an error. -/
def RM.put (r : RM) (u : List UInt8) : RM := { r with bytes := r.bytes ++ u }
theorem oneR_more {r : RM} (u : List UInt8) (hen : r.ended = false) (h : (oneR r).2 = true) : oneR (r.put u) = (if (oneR r).1.over = true then (oneR r).1 else (oneR r).1.put u, true) := by
  unfold oneR at h ⊢
  by_cases h0 : r.bytes = [] ∨ r.over = true
  · rw [if_pos h0] at h; cases h
  rw [if_neg h0] at h ⊢
  have hb : r.bytes ≠ [] := fun e => h0 (.inl e)
  have ho : r.over = false := by cases ho : r.over with
    | true => exact absurd (.inr ho) h0
    | false => rfl
  have h0' : ¬ ((r.put u).bytes = [] ∨ (r.put u).over = true) := by
    simp only [RM.put, List.append_eq_nil_iff, ho]
    exact fun e => e.elim (fun e => hb e.1) (fun e => by cases e)
  rw [if_neg h0']
  cases ha : r.asked with
  | nil => rw [ha] at h; cases h
  | cons m ms =>
    rw [ha] at h
    have ha' : (r.put u).asked = m :: ms := ha
    rw [ha']
    simp only at h ⊢
    have hm : (r.put u).most = r.most := rfl
    have he : (r.put u).ended = r.ended := rfl
    have hbu : (r.put u).bytes = r.bytes ++ u := rfl
    rw [hm, he, hbu]
    rw [hen] at h ⊢
    by_cases h1 : (parseM m r.bytes r.most false).2.2 = 124
    · rw [if_pos h1] at h; cases h
    rw [parseM_ext u h1]
    rw [if_neg h1] at h ⊢
    rw [if_neg h1]
    by_cases h2 : (parseM m r.bytes r.most false).2.2 = 0
    · have h2' : ¬ (parseM m r.bytes r.most false).2.2 ≠ 0 := by simpa using h2
      obtain ⟨n, hn, h17, hl⟩ := parseM_rng h2
      have hd : (r.bytes ++ u).drop (parseM m r.bytes r.most false).2.1.toNat = r.bytes.drop (parseM m r.bytes r.most false).2.1.toNat ++ u := List.drop_append_of_le_length (by omega)
      rw [hd]
      by_cases h3 : interimB (parseM m r.bytes r.most false).1.status = true
      · simp [RM.put, h2, h3, ho]
      · by_cases h4 : (parseM m r.bytes r.most false).1.persist = false ∨ turnedB m (parseM m r.bytes r.most false).1.status = true
        · simp only [if_neg h2', if_neg h3, if_pos h4]; simp [RM.put]
        · simp only [if_neg h2', if_neg h3, if_neg h4, ho]; simp [RM.put, ho]
    · rw [if_pos h2] at h; cases h
theorem oneR_err {r : RM} (u : List UInt8) (hen : r.ended = false) (he0 : r.err = 0) (h : (oneR r).2 = false) (he : (oneR r).1.err ≠ 0) : oneR (r.put u) = ((oneR r).1.put u, false) := by
  unfold oneR at h he ⊢
  by_cases h0 : r.bytes = [] ∨ r.over = true
  · rw [if_pos h0] at he; exact absurd he0 he
  rw [if_neg h0] at h he ⊢
  have hb : r.bytes ≠ [] := fun e => h0 (.inl e)
  have ho : r.over = false := by cases ho : r.over with
    | true => exact absurd (.inr ho) h0
    | false => rfl
  have h0' : ¬ ((r.put u).bytes = [] ∨ (r.put u).over = true) := by
    simp only [RM.put, List.append_eq_nil_iff, ho]
    exact fun e => e.elim (fun e => hb e.1) (fun e => by cases e)
  rw [if_neg h0']
  cases ha : r.asked with
  | nil =>
    have ha' : (r.put u).asked = [] := ha
    rw [ha']; simp only; rfl
  | cons m ms =>
    rw [ha] at h he
    have ha' : (r.put u).asked = m :: ms := ha
    rw [ha']
    simp only at h he ⊢
    have hm : (r.put u).most = r.most := rfl
    have he' : (r.put u).ended = r.ended := rfl
    have hbu : (r.put u).bytes = r.bytes ++ u := rfl
    rw [hm, he', hbu]
    rw [hen] at h he ⊢
    by_cases h1 : (parseM m r.bytes r.most false).2.2 = 124
    · rw [if_pos h1] at he; exact absurd he0 he
    rw [parseM_ext u h1]
    rw [if_neg h1] at h he ⊢
    rw [if_neg h1]
    by_cases h2 : (parseM m r.bytes r.most false).2.2 = 0
    · rw [if_neg (by simpa using h2)] at h
      split at h
      · cases h
      · split at h <;> cases h
    · rw [if_pos h2, if_pos h2]; rfl
theorem oneR_keeps (r : RM) : (oneR r).1.ended = r.ended ∧ (oneR r).1.most = r.most ∧ (r.err = 0 → (oneR r).2 = true → (oneR r).1.err = 0) := by
  unfold oneR
  split
  · exact ⟨rfl, rfl, fun h _ => h⟩
  · cases r.asked with
    | nil => exact ⟨rfl, rfl, fun _ h => by cases h⟩
    | cons m ms =>
      simp only
      split
      · exact ⟨rfl, rfl, fun _ h => by cases h⟩
      · split
        · exact ⟨rfl, rfl, fun _ h => by cases h⟩
        · split
          · exact ⟨rfl, rfl, fun h _ => h⟩
          · split <;> exact ⟨rfl, rfl, fun h _ => h⟩
theorem oneR_over {r : RM} (h : r.over = true) : oneR r = (r, false) := by unfold oneR; rw [if_pos (.inr h)]
/-- A TEXT IN TWO PIECES. -/
theorem readA_cut (u : List UInt8) : ∀ (n : Nat) (r : RM), r.bytes.length < n → r.ended = false → r.err = 0 →
    ((readA r).err ≠ 0 → readA (r.put u) = (readA r).put u) ∧ ((readA r).err = 0 → (readA r).over = true → readA (r.put u) = readA r ∨ r.over = true) ∧
    ((readA r).err = 0 → (readA r).over = false → readA (r.put u) = readA ((readA r).put u))
  | 0, r, h, _, _ => absurd h (by omega)
  | n + 1, r, h, hen, he0 => by
    cases h1 : (oneR r).2 with
    | true =>
      have hm := oneR_more u hen h1
      have hl := oneR_less h1
      obtain ⟨k1, k2, k3⟩ := oneR_keeps r
      have e2 : (oneR (r.put u)).2 = true := by rw [hm]
      rw [readA_go h1, readA_go e2, hm]
      cases ho : (oneR r).1.over with
      | true =>
        rw [if_pos rfl, readA_stop (by rw [oneR_over ho]), oneR_over ho]
        refine ⟨fun h => absurd (k3 he0 h1) h, fun _ _ => .inl rfl, fun _ h => by rw [ho] at h; cases h⟩
      | false =>
        rw [if_neg (by simp)]
        obtain ⟨j1, j2, j3⟩ := readA_cut u n (oneR r).1 (by omega) (by rw [k1]; exact hen) (k3 he0 h1)
        exact ⟨j1, fun a b => (j2 a b).elim .inl (fun c => by rw [ho] at c; cases c), j3⟩
    | false =>
      rw [readA_stop h1]
      refine ⟨fun he => ?_, fun he ho => ?_, fun he ho => ?_⟩
      · have hm := oneR_err u hen he0 h1 he
        rw [readA_stop (by rw [hm]), hm]
      · right
        unfold oneR at h1 ho
        by_cases h0 : r.bytes = [] ∨ r.over = true
        · rw [if_pos h0] at ho; exact ho
        · rw [if_neg h0] at h1 ho
          cases ha : r.asked with
          | nil => rw [ha] at ho; exact ho
          | cons m ms =>
            rw [ha] at h1 ho
            simp only at h1 ho
            split at ho
            · exact ho
            · rename_i g1
              rw [if_neg g1] at h1
              split at ho
              · exact ho
              · rename_i g2
                rw [if_neg g2] at h1
                split at h1
                · cases h1
                · split at h1 <;> cases h1
      · -- nothing came of it: the reader is ms it was
        have e : (oneR r).1 = r := by
          unfold oneR at h1 he ⊢
          by_cases h0 : r.bytes = [] ∨ r.over = true
          · rw [if_pos h0]
          · rw [if_neg h0] at h1 he ⊢
            cases ha : r.asked with
            | nil => rw [ha] at he; exact absurd he (by simp)
            | cons m ms =>
              rw [ha] at h1 he
              simp only at h1 he ⊢
              split at he
              · rename_i g1; rw [if_pos g1]
              · rename_i g1
                rw [if_neg g1] at h1
                split at he
                · rename_i g2; exact absurd he g2
                · rename_i g2
                  rw [if_neg g2] at h1
                  split at h1
                  · cases h1
                  · split at h1 <;> cases h1
        rw [e]
end Go.Proofs.YtcdkcaocfioigaaGreatDoor

