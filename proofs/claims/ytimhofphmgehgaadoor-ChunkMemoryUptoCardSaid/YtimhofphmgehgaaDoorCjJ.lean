/- ChunkMemory: the lists that come out are boxes of the caller's own. -/
import Derived.Test.YtimhofphmgehgaaDoorCjI
set_option linter.unusedVariables false
set_option linter.unnecessarySimpa false
set_option linter.unusedSimpArgs false
set_option linter.unusedSectionVars false
set_option maxRecDepth 100000
namespace Go.Proofs.YtimhofphmgehgaaDoor
open Go Go.RowKit Go.Proofs Go.Deep

@[simp] theorem abin_sleql (P : Program) (t : TypeId) (o : Bool) (k : Nat) (r : List AV) (rs : List (List AV)) : abin P .eql t (.sl o k (r :: rs)) .nil = if (tsl P t).isSome then some (.bool false) else none := rfl
@[simp] theorem abin_slneq (P : Program) (t : TypeId) (o : Bool) (k : Nat) (r : List AV) (rs : List (List AV)) : abin P .neq t (.sl o k (r :: rs)) .nil = if (tsl P t).isSome then some (.bool true) else none := rfl
@[simp] theorem abin_bxeql (P : Program) (t : TypeId) (i o n c k : Nat) : abin P .eql t (.bx i o n c k) .nil = if (tsl P t).isSome then some (.bool false) else none := rfl
@[simp] theorem abin_bxneq (P : Program) (t : TypeId) (i o n c k : Nat) : abin P .neq t (.bx i o n c k) .nil = if (tsl P t).isSome then some (.bool true) else none := rfl
/-- A call that answers a slice of no rows, in a row of its own or in none. -/
theorem post_own0 {E : Env} {w w' : World} {β : Nat → Nat} {Rd : Nat → Nat → Prop} {Ow : Nat → Option Hold} {H : Hp} (hHR : HR E w β Rd Ow H) (hf : Frm (fun _ => False) w w') {k : Nat} {c : Value} (hos : OSl w' k c 0 []) (hnew : ∀ g, c.ownBlock = some g → w.heap.size ≤ g) :
    Post E w β Rd Ow H w' β (fun g o => Rd g o ∨ False) (fun g => if c.ownBlock = some g then some (.slot 0) else Ow g) H (.sl true k []) c := by
  have hp := post_freshP hHR hf (fun _ _ => False) (fun _ _ h => h.elim) (v := .nil) (c := .slice none 0 0) .nil .nil rfl
  have hold : ∀ g, g < w.heap.size → (if c.ownBlock = some g then some (Hold.slot 0) else Ow g) = Ow g := fun g hg => if_neg fun e => by have := hnew g e; omega
  have hbx : ∀ i, i < H.length → β i < w.heap.size := fun i hi => by
    obtain ⟨T, cs, h, _⟩ := hHR.box i _ (List.getElem?_eq_getElem hi)
    exact (Array.getElem?_eq_some_iff.1 h).1
  refine ⟨.sl true k [] c [] (by simp) hos.toR (fun g o n c hv j hj => by simp at hj) (fun _ => ⟨hos, fun g o n c' hv j _ _ h3 => ?_⟩) (by simp) (fun j x u hx => by simp at hx), .sl _ _ _ (by simp), fun g hg => if_pos hg, rfl,
    ⟨fun i l hi => ?_, hp.hr.inj, fun i hi => ⟨?_, (hp.hr.sep i hi).2⟩, fun g h hg => ?_, hp.hr.rds, hp.hr.bnd, fun b hb => ?_, hp.hr.bld⟩, fun _ _ => rfl, Nat.le_refl _, hp.keep, fun b hb hbox how => ?_, hf.os, hf.tape, hf.output, hf.size⟩
  · rcases h3 with h3 | h3
    · have h1 := hHR.rds _ _ h3
      have h2 := hnew g (by rw [hv]; rfl)
      omega
    · exact h3
  · obtain ⟨T, cs, h1, h2, h3⟩ := hp.hr.box i l hi
    refine ⟨T, cs, h1, h2, fun j x u hx hu => ?_⟩
    obtain ⟨r1, r2, r3⟩ := h3 j x u hx hu
    exact ⟨r1, r2, fun g hg => (hold g (hHR.ows g _ (r3 g hg))).trans (r3 g hg)⟩
  · show (if c.ownBlock = some (β i) then some (Hold.slot 0) else Ow (β i)) = none
    rw [hold _ (hbx i hi)]; exact (hp.hr.sep i hi).1
  · split at hg
    · rename_i h1; exact hos.lt g h1
    · exact hp.hr.ows g h hg
  · obtain ⟨f1, f2, f3, f4⟩ := hp.hr.fix b hb
    refine ⟨f1, ?_, f3, f4⟩
    show (if c.ownBlock = some b then some (Hold.slot 0) else Ow b) = none
    by_cases h1 : c.ownBlock = some b
    · have h2 := hnew b h1
      have h3 := (hHR.fix b hb).2.2.2
      omega
    · rw [if_neg h1]; exact f2
  · obtain ⟨p1, p2, p3, p4⟩ := hp.frame b hb hbox how
    refine ⟨p1, ?_, p3, p4⟩
    show (if c.ownBlock = some b then some (Hold.slot 0) else Ow b) = none
    rw [hold b hb]; exact how
theorem clone0_pc (E : Env) (H : Hp) (Q : AV → Hp → Prop) (hQ : Q (.sl true 2 []) H) : PC Tryd.prog E 57 [.sl false 2 (flds [])] H Q := by
  refine ⟨by kernel_rfl, fun w β Rd Ow cargs hHR hOw hsz hargs => ?_⟩
  obtain ⟨u, rfl, hu⟩ := args1 hsz (fun t x u hx hu => (hargs t x u hx hu).1)
  obtain ⟨xs, hk, hx, hd, hfr, hr⟩ := rel_sl hu
  obtain ⟨hxl, ao, c, rfl, h2, h3, h4⟩ := id hx
  rw [flds_length] at hx hxl h2 h4
  have hone : ∀ u ∈ xs, u.oneCell' = true := Rel.slOne (own := false) hk (by rw [flds_length]; exact hxl) hfr hr
  have hx0 : xs = [] := List.eq_nil_of_length_eq_zero (by simpa using hxl)
  subst hx0
  rw [flds_length]
  refine (clone_ok (ao := ao) (c := c) hx hone (by simp)).mono ?_
  rintro e w' ⟨bo, m, d, rfl, ⟨rfl, rfl, rfl, hn0, rfl⟩ | ⟨rfl, ho, hnew, hF⟩⟩
  · exact ⟨_, _, H, β, _, _, rfl, hQ, post_own0 hHR (Frm.refl _ _) (OSl.nil _ _) (fun g hg => by simp [Value.ownBlock] at hg)⟩
  · exact ⟨_, _, H, β, _, _, rfl, hQ, post_own0 hHR hF ho hnew⟩
/-- What a slice of fields holds, with room behind. -/
def fcells (l : List Fld) (n : Nat) : List AV := (flds l).flatten ++ (List.replicate n [AV.str [], .str []]).flatten
theorem fcells_str (l : List Fld) (n : Nat) : ∀ x ∈ fcells l n, ∃ s, x = .str s := fun x hx => by
  rcases List.mem_append.1 hx with h | h
  · obtain ⟨j, hj⟩ := List.getElem?_of_mem h
    exact flds_str hj
  · obtain ⟨r, hr, hx⟩ := List.mem_flatten.1 h
    rw [(List.mem_replicate.1 hr).2] at hx
    simp at hx
    exact ⟨_, hx⟩
theorem fcells_bnd (H : Hp) (hB : BndH H.length H) (l : List Fld) (n : Nat) : BndH (H ++ [[], fcells l n]).length (H ++ [[], fcells l n]) := fun r hr y hy => by
  rcases List.mem_append.1 hr with h | h
  · exact (hB r h y hy).mono (by simp)
  · simp at h
    rcases h with rfl | rfl
    · cases hy
    · obtain ⟨s, rfl⟩ := fcells_str _ _ y hy; exact .str _
section
variable (E : Env) (H : Hp) (Q : AV → Hp → Prop)
theorem clone_bx (g : Fld) (l : List Fld) (hl : l.length ≤ 1073741823) (hQ : ∀ n, l.length + 1 + n ≤ maxLen → Q (.bx (H.length + 1) 0 (l.length + 1) (l.length + 1 + n) 2) (H ++ [[], fcells (g :: l) n])) :
    PC Tryd.prog E 57 [.sl false 2 (flds (g :: l))] H Q := by
  have hfl : flds (g :: l) = [.str g.name, .str g.value] :: flds l := rfl
  have m1 : l.length + 1 ≤ maxLen := by unfold maxLen; omega
  have m2 : (l.length + 1) * 32 ≤ 140737488355328 := by omega
  rw [hfl]
  refine pc_enter Tryd.func57 rfl [5] [(3, [3, 0, 3])] (by kernel_rfl) (fun hB => ?_)
  simp [Tryd.ntmps57, Tryd.results57, List.replicate_succ]
  simp [m1, m2]
  refine VGrow_intro fun c hc1 hc2 => ?_
  obtain ⟨n, rfl⟩ : ∃ n, c = l.length + 1 + n := ⟨c - (l.length + 1), by omega⟩
  have hq := hQ n hc2
  simp
  refine aPost_up (v := .bx (H.length + 1) 0 (l.length + 1) (l.length + 1 + n) 2) (by simp) (by simp) ?_ (.bx _ _ _ _ _ (by simp)) ?_
  all_goals have e : AV.str g.name :: AV.str g.value :: ((flds l).flatten ++ (List.replicate n [AV.str [], AV.str []]).flatten) = fcells (g :: l) n := by simp [fcells, hfl]
  all_goals rw [e]
  · exact fcells_bnd H hB _ _
  · exact hq
variable (i : Nat) (d : Dec) (hd : H[i]? = some d.av)
include hd
theorem trailers_bx (g : Fld) (l : List Fld) (ht : d.trailers = g :: l) (hl : l.length ≤ 1073741823) (hQ : ∀ n, l.length + 1 + n ≤ maxLen → Q (.bx (H.length + 1) 0 (l.length + 1) (l.length + 1 + n) 2) (H ++ [[], fcells (g :: l) n])) :
    PC Tryd.prog E 33 [.ptr (some (i, 0))] H Q := by
  refine pc_enter Tryd.func33 rfl [] [] (by kernel_rfl) (fun hB => ?_)
  simp [Dec.av, ht] at hd
  simp [Tryd.ntmps33, Tryd.results33, List.replicate_succ, hd]
  refine clone_bx E _ _ g l hl (fun n hn => ?_)
  have hq := hQ n hn
  simp
  refine aPost_up (v := .bx (H.length + 1) 0 (l.length + 1) (l.length + 1 + n) 2) (by simp) (by simp) (fcells_bnd H hB _ _) (.bx _ _ _ _ _ (by simp)) hq
theorem trailersOwn_pc (ht : d.trailers = []) (hQ : Q (.sl true 2 []) H) : PC Tryd.prog E 33 [.ptr (some (i, 0))] H Q := by
  refine pc_enter Tryd.func33 rfl [] [] (by kernel_rfl) (fun hB => ?_)
  simp [Dec.av, ht] at hd
  simp [Tryd.ntmps33, Tryd.results33, List.replicate_succ, hd]
  refine clone0_pc E _ _ ?_
  simp
  exact aPost_same0 hB (v0 := .sl true 2 []) (by simp) (nilV_refl _) (by simp) hQ
end
section
variable (E : Env) (H : Hp) (Q : AV → Hp → Prop)
theorem decode_bx (hE : SE E) (s : List UInt8) (m r f : Int) (hs : s.length ≤ 1000000000) (h1 : 0 ≤ m ∧ m ≤ 9223372036854775807) (h2 : 0 ≤ r ∧ r ≤ 9223372036854775807) (h3 : 0 ≤ f ∧ f ≤ 9223372036854775807) (d : Dec) (k : Nat) (g : Fld) (l : List Fld)
    (hf : feedD (newD m r f) s = (d, k)) (hdn : d.done = true) (he : d.err = 0) (ht : d.trailers = g :: l)
    (hQ : ∀ n, l.length + 1 + n ≤ maxLen → Q (.tup [.str d.body, .bx (H.length + 2) 0 (l.length + 1) (l.length + 1 + n) 2, .int .i64 k, .int .i64 0]) (H ++ [d.av, [], fcells (g :: l) n])) :
    PC Tryd.prog E 21 [.str s, .int .i64 m, .int .i64 r, .int .i64 f] H Q := by
  refine pc_enter Tryd.func21 rfl [] [] (by kernel_rfl) (fun hB => ?_)
  simp [Tryd.ntmps21, Tryd.results21, List.replicate_succ]
  refine cnew_pc E _ _ m r f (fun g1 g2 g3 => ?_) (fun hneg => by omega)
  have hnew := newD_ok m r f h1 h2 h3
  have hat : (H ++ [(newD m r f).av])[H.length]? = some (newD m r f).av := by simp
  have hle := feedD_le s (newD m r f)
  obtain ⟨hok, htot⟩ := feedD_ok s (newD m r f) hnew
  simp
  refine feed_pc E _ _ H.length _ hat hE s hnew (by simp [newD]; exact hs) (fun _ _ => ?_) (fun h => absurd h (by simp [newD]))
  rw [hf] at hle hok htot ⊢
  simp only at hle hok htot
  have ht0 : (newD m r f).total = 0 := rfl
  rw [ht0] at htot
  obtain ⟨a1, a2, a3, a4, a5, a6, a7, a8⟩ := hok
  have hse : (H ++ [(newD m r f).av]).set H.length d.av = H ++ [d.av] := by simp
  rw [hse]
  have hat2 : (H ++ [d.av])[H.length]? = some d.av := by simp
  have hl : l.length ≤ 1073741823 := by rw [ht] at a3; simp at a3; omega
  simp [he]
  refine done_pc E _ _ H.length d hat2 ?_
  rw [hdn]
  simp
  refine body_pc E _ _ H.length d hat2 (by omega) ?_
  simp
  refine trailers_bx E _ _ H.length d hat2 g l ht hl (fun n hn => ?_)
  have hq := hQ n hn
  simp
  refine aPost_up (v := .tup [.str d.body, .bx (H.length + 2) 0 (l.length + 1) (l.length + 1 + n) 2, .int .i64 k, .int .i64 0]) (by simp) (by simp) (fun r hr y hy => ?_) (.tup _ (fun x hx => ?_)) hq
  · rcases List.mem_append.1 hr with h | h
    · exact (hB r h y hy).mono (by simp)
    · simp at h
      rcases h with rfl | rfl | rfl
      · exact Dec.bnd d _ y hy
      · cases hy
      · obtain ⟨s, rfl⟩ := fcells_str _ _ y hy; exact .str _
  · simp at hx
    rcases hx with rfl | rfl | rfl | rfl
    · exact .str _
    · exact .bx _ _ _ _ _ (by simp)
    · exact .int _ _
    · exact .int _ _
theorem fcells_at {l : List Fld} {i : Nat} {u : Fld} (h : l[i]? = some u) (n : Nat) : (fcells l n)[i * 2]? = some (.str u.name) ∧ (fcells l n)[i * 2 + 1]? = some (.str u.value) := by
  have hi : i < l.length := (List.getElem?_eq_some_iff.1 h).1
  unfold fcells
  have hfl : ∀ l : List Fld, (flds l).flatten.length = l.length * 2 := fun l => by
    induction l with
    | nil => rfl
    | cons g l ih =>
      have e : (flds (g :: l)).flatten = .str g.name :: .str g.value :: (flds l).flatten := rfl
      rw [e]
      simp only [List.length_cons, ih]
      omega
  have key : ∀ (l : List Fld) (i : Nat) (u : Fld), l[i]? = some u → (flds l).flatten[i * 2]? = some (.str u.name) ∧ (flds l).flatten[i * 2 + 1]? = some (.str u.value) := fun l => by
    induction l with
    | nil => intro i u h; simp at h
    | cons g l ih =>
      intro i u h
      have e : (flds (g :: l)).flatten = .str g.name :: .str g.value :: (flds l).flatten := rfl
      rw [e]
      cases i with
      | zero => simp at h; subst h; simp
      | succ i =>
        simp at h
        obtain ⟨a, b⟩ := ih i u h
        rw [Nat.add_mul]
        exact ⟨a, b⟩
  obtain ⟨a, b⟩ := key l i u h
  have := hfl l
  rw [List.getElem?_append_left (by omega), List.getElem?_append_left (by omega)]
  exact ⟨a, b⟩
def sameBxInv (a : List Fld) (j c : Nat) (H : Hp) (fr : List AV) (H' : Hp) : Prop := H' = H ∧ ∃ i : Nat, i ≤ a.length ∧ ∃ x : Nat → AV, fr = [.bx j 0 a.length c 2, .sl false 2 (flds a), x 2, x 3, x 4, x 5, x 6, x 7, x 8, x 9, x 10, x 11, .int .i64 a.length, .int .i64 i, x 14, x 15, x 16, x 17, x 18, x 19, x 20, x 21, x 22, x 23, x 24, x 25, x 26, x 27, x 28, x 29, x 30, x 31, x 32, x 33, x 34, x 35, x 36, x 37, x 38, x 39, x 40]
theorem same_bx (a : List Fld) (ha : a.length ≤ 1073741824) (j c n : Nat) (hj : H[j]? = some (fcells a n)) (hQ : Q (.bool true) H) : PC Tryd.prog E 23 [.bx j 0 a.length c 2, .sl false 2 (flds a)] H Q := by
  refine pc_enter Tryd.func23 rfl [] [] (by kernel_rfl) (fun hB => ?_)
  simp [Tryd.ntmps23, Tryd.results23, List.replicate_succ]
  refine VL_go (sameBxInv a j c H) (fun fr _ => a.length - (ai (aget fr 13)).toNat) ⟨rfl, 0, by omega, fr_intro (by simp)⟩ ?_
  rintro fr H' ⟨rfl, i, hi, x, rfl⟩
  by_cases h : i < a.length
  · obtain ⟨u, hu⟩ : ∃ u, a[i]? = some u := ⟨_, List.getElem?_eq_getElem h⟩
    have hat1 := flds_at hu
    obtain ⟨hc0, hc1⟩ := fcells_at hu n
    have hw : IntKind.i64.wrap ((i : Int) + 1) = i + 1 := wrap_in (by omega) (by omega)
    obtain ⟨n1, v1⟩ := u
    simp only at hat1 hc0 hc1
    simp [h, hat1, hw, hj, hc0, hc1]
    exact Kloop_normal ⟨rfl, i + 1, by omega, fr_intro (by simp)⟩ (by simp; omega)
  · simp [h]
    exact aPost_same0 hB rfl (nilV_refl _) (by simp) hQ
theorem fcells_length (l : List Fld) (n : Nat) : (fcells l n).length = (l.length + n) * 2 := by
  have hfl : ∀ l : List Fld, (flds l).flatten.length = l.length * 2 := fun l => by
    induction l with
    | nil => rfl
    | cons g l ih =>
      have e : (flds (g :: l)).flatten = .str g.name :: .str g.value :: (flds l).flatten := rfl
      rw [e]
      simp only [List.length_cons, ih]
      omega
  unfold fcells
  rw [List.length_append, hfl]
  simp
  omega
def mem1Inv (ts : List Fld) (e : Dec) (n1 n2 : Nat) (H : Hp) (fr : List AV) (H' : Hp) : Prop := ∃ (A : List AV) (i : Nat), H' = H ++ [e.av, [], A, e.av, [], fcells ts n2] ∧ A.length = (ts.length + n1) * 2 ∧ (∀ y ∈ A, ∃ s, y = .str s) ∧ i ≤ ts.length ∧
  ∃ x : Nat → AV, fr = [.sl false 2 (flds ts), x 1, x 2, x 3, x 4, .ptr (some (H.length, 0)), x 6, x 7, x 8, .bx (H.length + 2) 0 ts.length (ts.length + n1) 2, .sl false 2 (flds ts), x 11, .bx (H.length + 5) 0 ts.length (ts.length + n2) 2, x 13, x 14, x 15, x 16, x 17, x 18, x 19, x 20, x 21, x 22, x 23, x 24, x 25, x 26, x 27, x 28, x 29, x 30, x 31, x 32, x 33, x 34, x 35, x 36, x 37, x 38, x 39, x 40, x 41, x 42, x 43, x 44, x 45, x 46, x 47, x 48, x 49, x 50, x 51, x 52, x 53, x 54, x 55, x 56, x 57, x 58, x 59, x 60, x 61, x 62, x 63, x 64, x 65, x 66, x 67, x 68, x 69, x 70, x 71, x 72, x 73, x 74, x 75, x 76, x 77, x 78, x 79, x 80, x 81, x 82, x 83, x 84, x 85, x 86, x 87, x 88, x 89, x 90, x 91, x 92, x 93, x 94, x 95, .int .i64 ts.length, .int .i64 i, x 98, x 99, x 100, x 101, x 102, x 103, x 104, x 105, x 106, x 107, x 108, x 109, x 110, x 111, x 112, x 113, x 114, x 115, x 116, x 117, x 118, x 119, x 120, x 121, x 122, x 123, x 124, x 125, x 126, x 127, x 128, x 129, x 130, x 131, x 132, x 133, x 134, x 135, x 136, x 137, x 138, x 139, x 140]
def mem2Inv (ts : List Fld) (e : Dec) (A : List AV) (n1 n2 : Nat) (H : Hp) (fr : List AV) (H' : Hp) : Prop := ∃ (C : List AV) (i : Nat), H' = H ++ [e.av, [], A, e.av, [], C] ∧ C.length = (ts.length + n2) * 2 ∧ (∀ y ∈ C, ∃ s, y = .str s) ∧ i ≤ ts.length ∧
  ∃ x : Nat → AV, fr = [.sl false 2 (flds ts), x 1, x 2, x 3, x 4, .ptr (some (H.length, 0)), x 6, x 7, x 8, .bx (H.length + 2) 0 ts.length (ts.length + n1) 2, .sl false 2 (flds ts), x 11, .bx (H.length + 5) 0 ts.length (ts.length + n2) 2, x 13, x 14, x 15, x 16, x 17, x 18, x 19, x 20, x 21, x 22, x 23, x 24, x 25, x 26, x 27, x 28, x 29, x 30, x 31, x 32, x 33, x 34, x 35, x 36, x 37, x 38, x 39, x 40, x 41, x 42, x 43, x 44, x 45, x 46, x 47, x 48, x 49, x 50, x 51, x 52, x 53, x 54, x 55, x 56, x 57, x 58, x 59, x 60, x 61, x 62, x 63, x 64, x 65, x 66, x 67, x 68, x 69, x 70, x 71, x 72, x 73, x 74, x 75, x 76, x 77, x 78, x 79, x 80, x 81, x 82, x 83, x 84, x 85, x 86, x 87, x 88, x 89, x 90, x 91, x 92, x 93, x 94, x 95, x 96, x 97, x 98, x 99, x 100, x 101, x 102, x 103, x 104, x 105, .int .i64 ts.length, .int .i64 i, x 108, x 109, x 110, x 111, x 112, x 113, x 114, x 115, x 116, x 117, x 118, x 119, x 120, x 121, x 122, x 123, x 124, x 125, x 126, x 127, x 128, x 129, x 130, x 131, x 132, x 133, x 134, x 135, x 136, x 137, x 138, x 139, x 140]
def mem3Inv (ts : List Fld) (e : Dec) (H : Hp) (fr : List AV) (H' : Hp) : Prop := ∃ (J : Hp) (A : List AV) (j c i : Nat), H' = H ++ J ∧ J[0]? = some e.av ∧ 0 < j ∧ J[j]? = some A ∧ A.length = c * 2 ∧ (∀ y ∈ A, ∃ s, y = .str s) ∧ i ≤ 9 ∧ ts.length + i ≤ c ∧ c ≤ maxLen ∧
  ∃ x : Nat → AV, fr = [.sl false 2 (flds ts), x 1, x 2, x 3, x 4, .ptr (some (H.length, 0)), x 6, x 7, x 8, .bx (H.length + j) 0 (ts.length + i) c 2, .sl false 2 (flds ts), x 11, x 12, x 13, x 14, x 15, x 16, x 17, x 18, x 19, x 20, x 21, x 22, x 23, x 24, x 25, x 26, x 27, x 28, x 29, x 30, x 31, x 32, x 33, x 34, x 35, x 36, x 37, x 38, x 39, x 40, x 41, x 42, x 43, x 44, x 45, x 46, x 47, x 48, x 49, x 50, x 51, x 52, x 53, x 54, x 55, x 56, x 57, x 58, x 59, x 60, x 61, x 62, x 63, x 64, x 65, x 66, x 67, x 68, x 69, x 70, x 71, x 72, x 73, x 74, x 75, x 76, x 77, x 78, x 79, x 80, x 81, x 82, x 83, x 84, x 85, x 86, x 87, x 88, x 89, x 90, x 91, x 92, x 93, x 94, x 95, x 96, x 97, x 98, x 99, x 100, x 101, x 102, x 103, x 104, x 105, x 106, x 107, x 108, x 109, x 110, x 111, x 112, x 113, x 114, .int .i64 i, x 116, x 117, x 118, x 119, x 120, x 121, x 122, x 123, x 124, x 125, x 126, x 127, x 128, x 129, x 130, x 131, x 132, x 133, x 134, x 135, x 136, x 137, x 138, x 139, x 140]
theorem str_put {A : List AV} (h : ∀ y ∈ A, ∃ s, y = AV.str s) (n m : Nat) (a b : List UInt8) : ∀ y ∈ A.take n ++ .str a :: .str b :: A.drop m, ∃ s, y = .str s := fun y hy => by
  rcases List.mem_append.1 hy with h1 | h1
  · exact h y (List.mem_of_mem_take h1)
  · simp at h1
    rcases h1 with rfl | rfl | h1
    · exact ⟨_, rfl⟩
    · exact ⟨_, rfl⟩
    · exact h y (List.mem_of_mem_drop h1)
theorem len_put {A : List AV} (n : Nat) (h : n + 2 ≤ A.length) (a b : AV) : (A.take n ++ a :: b :: A.drop (n + 2)).length = A.length := by
  simp; omega
set_option maxHeartbeats 4000000 in
theorem lmemory1_pc (hE : SZ E) (g : Fld) (l : List Fld) (ht : fsz (g :: l) + (g :: l).length ≤ 1048576) (hQ : Q (.bool true) H) : PC Tryd.prog E 14 [.sl false 2 (flds (g :: l))] H Q := by
  refine pc_enter Tryd.func14 rfl [23, 117] [(28, [0, 0, 0, 3])] (by kernel_rfl) (fun hB => ?_)
  obtain ⟨ts, hts0⟩ : ∃ ts, g :: l = ts := ⟨_, rfl⟩
  have hN : ts.length = l.length + 1 := by rw [← hts0]; rfl
  have hlb : l.length + 1 ≤ 1048576 := by rw [hts0, hN] at ht; omega
  simp only [hts0] at ht ⊢
  simp [Tryd.ntmps14, Tryd.results14, List.replicate_succ]
  refine lawake_pc E _ _ hE.1 ?_
  simp
  refine right_pc E _ _ ts (by omega) ?_
  cases hts : ts.all rightB with
  | false =>
    simp
    exact aPost_same0 hB rfl (nilV_refl _) (by simp) hQ
  | true =>
    have hm : ts.length ≤ maxLen ∧ ts.length * 32 ≤ 140737488355328 := by unfold maxLen; omega
    simp [hm]
    have he : encAns [97, 98] [] ts = (encT [[97, 98]] ts, 0) := by
      unfold encAns
      rw [if_neg (by simp [okSizes]), if_neg (by rw [hts]; simp)]
      rfl
    refine PC.argsNil (args' := [.str [97, 98], .sl false 1 (ints []), .sl false 2 (flds ts)]) ⟨.inl rfl, .inr ⟨rfl, false, 1, rfl⟩, .inl rfl, trivial⟩ (by simp) (encode_pc E H _ hE [97, 98] [] ts (by simp) (by simp) (by omega) (by simp) ?_)
    rw [he]
    have hlin := linesT_le ts
    have hcl : (chunksT [[97, 98]]).length ≤ 100 := by
      have := chunksT_le [[97, 98]] (by simp) (by simp)
      simp at this
      omega
    have hlen : (encT [[97, 98]] ts).length = (chunksT [[97, 98]]).length + (linesT ts).length + 5 := by unfold encT; simp; omega
    obtain ⟨e, h1, h2, h3, h4, h5⟩ := run_enc [[97, 98]] ts 2 (encT [[97, 98]] ts).length ts.length (by simp) (by simp) (by simp) (fun g hg => List.all_eq_true.1 hts g hg) (by omega) (by omega)
    generalize hS : encT [[97, 98]] ts = S at *
    simp
    refine cnew_pc E _ _ 2 S.length ts.length (fun g1 g2 g3 => ?_) (fun hneg => by omega)
    have hnew := newD_ok 2 S.length ts.length ⟨by omega, by omega⟩ ⟨by omega, by omega⟩ ⟨by omega, by omega⟩
    have hat : (H ++ [(newD 2 S.length ts.length).av])[H.length]? = some (newD 2 S.length ts.length).av := by simp
    simp
    refine feed_pc E _ _ H.length _ hat hE.1 S hnew (by simp [newD]; omega) (fun _ _ => ?_) (fun h => absurd h (by simp [newD]))
    rw [h1]
    have hse : (H ++ [(newD 2 S.length ts.length).av]).set H.length e.av = H ++ [e.av] := by simp
    rw [hse]
    have hat2 : (H ++ [e.av])[H.length]? = some e.av := by simp
    rw [← hts0] at h5
    simp [h3]
    refine trailers_bx E _ _ H.length e hat2 g l h5 (by omega) (fun n1 hn1 => ?_)
    simp
    refine trailers_pc E _ _ H.length e (by simp) (by rw [h5, hts0]; omega) ?_
    rw [h5, hts0]
    simp
    refine decode_bx E _ _ hE.1 S 2 S.length ts.length (by omega) ⟨by omega, by omega⟩ ⟨by omega, by omega⟩ ⟨by omega, by omega⟩ e S.length g l h1 h2 h3 h5 (fun n2 hn2 => ?_)
    simp
    refine plain_pc E _ _ ts (by omega) ?_
    simp
    rw [← hN]
    have e1 : H.length + 1 + 1 = H.length + 2 := rfl
    have e2 : H.length + 3 + 2 = H.length + 5 := rfl
    simp only [e1]
    refine same_bx E _ _ ts (by omega) _ _ n1 (by simp [hts0]) ?_
    simp
    refine plain_pc E _ _ ts (by omega) ?_
    simp
    refine same_pc E _ _ ts (by omega) ?_
    simp
    refine plain_pc E _ _ ts (by omega) ?_
    simp
    simp only [e2]
    refine same_bx E _ _ ts (by omega) _ _ n2 (by simp [hts0]) ?_
    simp
    have hget : ∀ (J : Hp) (t : Nat), (H ++ J)[H.length + t]? = J[t]? := fun J t => by rw [List.getElem?_append_right (by omega)]; congr 1; omega
    have hget0 : ∀ (J : Hp), (H ++ J)[H.length]? = J[0]? := fun J => hget J 0
    have hset : ∀ (J : Hp) (t : Nat) (x : List AV), (H ++ J).set (H.length + t) x = H ++ J.set t x := fun J t x => by rw [List.set_append_right _ _ (by omega)]; congr 2; omega
    refine VL_go (mem1Inv ts e n1 n2 H) (fun fr _ => ts.length - (ai (aget fr 97)).toNat) ⟨fcells ts n1, 0, by rw [hts0], fcells_length _ _, fcells_str _ _, by omega, fr_intro (by simp)⟩ ?_
    rintro fr H' ⟨A, i, rfl, hA, hAs, hi, x, rfl⟩
    by_cases h : i < ts.length
    · have hw : IntKind.i64.wrap ((i : Int) + 1) = i + 1 := wrap_in (by omega) (by omega)
      have hle : i * 2 + 2 ≤ A.length := by omega
      simp [h, hw, hget, hget0, hset, hle]
      exact Kloop_normal ⟨_, i + 1, rfl, (len_put _ hle _ _).trans hA, str_put hAs _ _ _ _, by omega, fr_intro (by simp)⟩ (by simp; omega)
    · obtain rfl : i = ts.length := by omega
      simp
      refine VL_go (mem2Inv ts e A n1 n2 H) (fun fr _ => ts.length - (ai (aget fr 107)).toNat) ⟨fcells ts n2, 0, rfl, fcells_length _ _, fcells_str _ _, by omega, fr_intro (by simp)⟩ ?_
      rintro fr H' ⟨C, i, rfl, hC, hCs, hi, x, rfl⟩
      by_cases h : i < ts.length
      · have hw : IntKind.i64.wrap ((i : Int) + 1) = i + 1 := wrap_in (by omega) (by omega)
        have hle : i * 2 + 2 ≤ C.length := by omega
        simp [h, hw, hget, hget0, hset, hle]
        exact Kloop_normal ⟨_, i + 1, rfl, (len_put _ hle _ _).trans hC, str_put hCs _ _ _ _, by omega, fr_intro (by simp)⟩ (by simp; omega)
      · obtain rfl : i = ts.length := by omega
        simp
        refine VL_go (mem3Inv ts e H) (fun fr _ => 9 - (ai (aget fr 115)).toNat) ⟨_, A, 2, ts.length + n1, 0, rfl, rfl, by omega, rfl, hA, hAs, by omega, by omega, by rw [hN]; exact hn1, fr_intro (by simp)⟩ ?_
        clear hCs hC hAs hA hat2 hse hat hnew
        rintro fr H' ⟨J, A, j, c, i, rfl, hJ0, hj, hJj, hA, hAs, hi, hic, hc, x, rfl⟩
        by_cases h : i < 9
        · have hw : IntKind.i64.wrap ((i : Int) + 1) = i + 1 := wrap_in (by omega) (by omega)
          have hfree : (∀ y ∈ A.take ((ts.length + i) * 2), y.free = true) = True := eq_true fun y hy => by obtain ⟨s, rfl⟩ := hAs y (List.mem_of_mem_take hy); rfl
          have h9 : (i : Int) < 9 := by omega
          have hJl : j < J.length := (List.getElem?_eq_some_iff.1 hJj).1
          have hle1 : (ts.length + i) * 2 ≤ A.length := by omega
          by_cases hroom : ts.length + i + 1 ≤ c
          · have hle2 : (ts.length + i) * 2 + 2 ≤ A.length := by omega
            have hle3 : (ts.length + i + 1) * 2 ≤ A.length := by omega
            simp [h9, hw, hget, hget0, hset, hJj, hfree, hroom, hle1, hle3]
            refine Kloop_normal ⟨_, _, j, c, i + 1, rfl, ?_, hj, List.getElem?_set_self hJl, (len_put _ hle2 _ _).trans hA, str_put hAs _ _ _ _, by omega, by omega, hc, fr_intro (by simp; omega)⟩ (by simp; omega)
            rw [List.getElem?_set_ne (by omega)]; exact hJ0
          · have m1 : ts.length + i + 1 ≤ maxLen := by unfold maxLen; omega
            have m2 : (ts.length + i + 1) * 32 ≤ 140737488355328 := by omega
            simp [h9, hw, hget, hget0, hset, hJj, hfree, hroom, hle1, m1, m2]
            refine VGrow_intro fun c' hc1 hc2 => ?_
            simp [hw]
            refine Kloop_normal ⟨_, _, J.length, c', i + 1, rfl, ?_, by omega, List.getElem?_concat_length .., ?_, fun y hy => ?_, by omega, by omega, hc2, fr_intro (by simp; omega)⟩ (by simp; omega)
            · rw [List.getElem?_append_left (by omega)]; exact hJ0
            · simp; omega
            · rcases List.mem_append.1 hy with h1 | h1
              · exact hAs y (List.mem_of_mem_take h1)
              · simp at h1
                rcases h1 with rfl | rfl | ⟨_, h1⟩
                · exact ⟨_, rfl⟩
                · exact ⟨_, rfl⟩
                · obtain ⟨⟨_, rfl⟩, h1⟩ := h1
                  simp at h1
                  exact ⟨_, h1⟩
        · obtain rfl : i = 9 := by omega
          simp
          refine plain_pc E _ _ ts (by omega) ?_
          simp
          refine same_pc E _ _ ts (by omega) ?_
          simp
          refine trailers_pc E _ _ H.length e (by rw [hget0]; exact hJ0) (by rw [h5, hts0]; omega) ?_
          rw [h5, hts0]
          simp
          refine plain_pc E _ _ ts (by omega) ?_
          simp
          refine same_pc E _ _ ts (by omega) ?_
          have hw9 : IntKind.i64.wrap ((ts.length : Int) + 9) = ts.length + 9 := wrap_in (by omega) (by omega)
          simp [hw9]
          exact aPost_same hB rfl (nilV_refl _) (by simp) hQ
def mem4Inv (e : Dec) (H : Hp) (fr : List AV) (H' : Hp) : Prop := H' = H ++ [e.av] ∧ ∃ x : Nat → AV, fr = [.sl false 2 [], x 1, x 2, x 3, x 4, .ptr (some (H.length, 0)), x 6, x 7, x 8, .sl true 2 [], .sl false 2 [], x 11, .sl false 2 [], x 13, x 14, x 15, x 16, x 17, x 18, x 19, x 20, x 21, x 22, x 23, x 24, x 25, x 26, x 27, x 28, x 29, x 30, x 31, x 32, x 33, x 34, x 35, x 36, x 37, x 38, x 39, x 40, x 41, x 42, x 43, x 44, x 45, x 46, x 47, x 48, x 49, x 50, x 51, x 52, x 53, x 54, x 55, x 56, x 57, x 58, x 59, x 60, x 61, x 62, x 63, x 64, x 65, x 66, x 67, x 68, x 69, x 70, x 71, x 72, x 73, x 74, x 75, x 76, x 77, x 78, x 79, x 80, x 81, x 82, x 83, x 84, x 85, x 86, x 87, x 88, x 89, x 90, x 91, x 92, x 93, x 94, x 95, .int .i64 0, .int .i64 0, x 98, x 99, x 100, x 101, x 102, x 103, x 104, x 105, x 106, x 107, x 108, x 109, x 110, x 111, x 112, x 113, x 114, x 115, x 116, x 117, x 118, x 119, x 120, x 121, x 122, x 123, x 124, x 125, x 126, x 127, x 128, x 129, x 130, x 131, x 132, x 133, x 134, x 135, x 136, x 137, x 138, x 139, x 140]
def mem5Inv (e : Dec) (H : Hp) (fr : List AV) (H' : Hp) : Prop := H' = H ++ [e.av] ∧ ∃ x : Nat → AV, fr = [.sl false 2 [], x 1, x 2, x 3, x 4, .ptr (some (H.length, 0)), x 6, x 7, x 8, .sl true 2 [], .sl false 2 [], x 11, x 12, x 13, x 14, x 15, x 16, x 17, x 18, x 19, x 20, x 21, x 22, x 23, x 24, x 25, x 26, x 27, x 28, x 29, x 30, x 31, x 32, x 33, x 34, x 35, x 36, x 37, x 38, x 39, x 40, x 41, x 42, x 43, x 44, x 45, x 46, x 47, x 48, x 49, x 50, x 51, x 52, x 53, x 54, x 55, x 56, x 57, x 58, x 59, x 60, x 61, x 62, x 63, x 64, x 65, x 66, x 67, x 68, x 69, x 70, x 71, x 72, x 73, x 74, x 75, x 76, x 77, x 78, x 79, x 80, x 81, x 82, x 83, x 84, x 85, x 86, x 87, x 88, x 89, x 90, x 91, x 92, x 93, x 94, x 95, x 96, x 97, x 98, x 99, x 100, x 101, x 102, x 103, x 104, x 105, .int .i64 0, .int .i64 0, x 108, x 109, x 110, x 111, x 112, x 113, x 114, x 115, x 116, x 117, x 118, x 119, x 120, x 121, x 122, x 123, x 124, x 125, x 126, x 127, x 128, x 129, x 130, x 131, x 132, x 133, x 134, x 135, x 136, x 137, x 138, x 139, x 140]
def mem6Inv (e : Dec) (H : Hp) (fr : List AV) (H' : Hp) : Prop := H' = H ++ [e.av] ∧ ∃ i : Nat, i ≤ 9 ∧ ∃ x : Nat → AV, fr = [.sl false 2 [], x 1, x 2, x 3, x 4, .ptr (some (H.length, 0)), x 6, x 7, x 8, .sl true 2 (List.replicate i [.str [103, 114, 111, 119, 110], .str []]), .sl false 2 [], x 11, x 12, x 13, x 14, x 15, x 16, x 17, x 18, x 19, x 20, x 21, x 22, x 23, x 24, x 25, x 26, x 27, x 28, x 29, x 30, x 31, x 32, x 33, x 34, x 35, x 36, x 37, x 38, x 39, x 40, x 41, x 42, x 43, x 44, x 45, x 46, x 47, x 48, x 49, x 50, x 51, x 52, x 53, x 54, x 55, x 56, x 57, x 58, x 59, x 60, x 61, x 62, x 63, x 64, x 65, x 66, x 67, x 68, x 69, x 70, x 71, x 72, x 73, x 74, x 75, x 76, x 77, x 78, x 79, x 80, x 81, x 82, x 83, x 84, x 85, x 86, x 87, x 88, x 89, x 90, x 91, x 92, x 93, x 94, x 95, x 96, x 97, x 98, x 99, x 100, x 101, x 102, x 103, x 104, x 105, x 106, x 107, x 108, x 109, x 110, x 111, x 112, x 113, x 114, .int .i64 i, x 116, x 117, x 118, x 119, x 120, x 121, x 122, x 123, x 124, x 125, x 126, x 127, x 128, x 129, x 130, x 131, x 132, x 133, x 134, x 135, x 136, x 137, x 138, x 139, x 140]
set_option maxHeartbeats 4000000 in
theorem lmemory0_pc (hE : SZ E) (hQ : Q (.bool true) H) : PC Tryd.prog E 14 [.sl false 2 []] H Q := by
  have hf0 : flds [] = [] := rfl
  refine pc_enter Tryd.func14 rfl [23, 117] [] (by kernel_rfl) (fun hB => ?_)
  simp [Tryd.ntmps14, Tryd.results14, List.replicate_succ]
  refine lawake_pc E _ _ hE.1 ?_
  simp
  refine right_pc E _ _ [] (by simp [fsz]) ?_
  simp
  have he : encAns [97, 98] [] [] = (encT [[97, 98]] [], 0) := by
    unfold encAns
    rw [if_neg (by simp [okSizes]), if_neg (by simp)]
    rfl
  refine PC.argsNil (args' := [.str [97, 98], .sl false 1 (ints []), .sl false 2 (flds [])]) ⟨.inl rfl, .inr ⟨rfl, false, 1, rfl⟩, .inl rfl, trivial⟩ (by simp) (encode_pc E H _ hE [97, 98] [] [] (by simp) (by simp) (by simp [fsz]) (by simp) ?_)
  rw [he]
  have hcl : (chunksT [[97, 98]]).length ≤ 100 := by
    have := chunksT_le [[97, 98]] (by simp) (by simp)
    simp at this
    omega
  have hlen : (encT [[97, 98]] []).length = (chunksT [[97, 98]]).length + 5 := by unfold encT; simp [linesT]
  obtain ⟨e, h1, h2, h3, h4, h5⟩ := run_enc [[97, 98]] [] 2 (encT [[97, 98]] []).length 0 (by simp) (by simp) (by simp) (by simp) (by simp [linesT]; omega) (by simp)
  have hbk := dec_back [[97, 98]] [] 2 (encT [[97, 98]] []).length 0 [] (by simp) (by simp) (by simp) (by simp) (by simp [linesT]; omega) (by simp)
  rw [List.append_nil] at hbk
  generalize hS : encT [[97, 98]] [] = S at *
  simp
  refine cnew_pc E _ _ 2 S.length 0 (fun g1 g2 g3 => ?_) (fun hneg => by omega)
  have hnew := newD_ok 2 S.length 0 ⟨by omega, by omega⟩ ⟨by omega, by omega⟩ ⟨by omega, by omega⟩
  have hat : (H ++ [(newD 2 S.length 0).av])[H.length]? = some (newD 2 S.length 0).av := by simp
  simp
  refine feed_pc E _ _ H.length _ hat hE.1 S hnew (by simp [newD]; omega) (fun _ _ => ?_) (fun h => absurd h (by simp [newD]))
  rw [h1]
  have hse : (H ++ [(newD 2 S.length 0).av]).set H.length e.av = H ++ [e.av] := by simp
  rw [hse]
  have hat2 : (H ++ [e.av])[H.length]? = some e.av := by simp
  simp [h3]
  refine trailersOwn_pc E _ _ H.length e hat2 h5 ?_
  simp
  refine trailers_pc E _ _ H.length e hat2 (by rw [h5]; simp) ?_
  rw [h5]
  simp
  refine decode_pc E _ _ hE.1 S 2 S.length 0 (by omega) (by omega) (by omega) (by omega) ?_
  rw [hbk]
  simp [hf0]
  refine plain_pc E _ _ [] (by simp) ?_
  simp [hf0]
  refine same_pc E _ _ [] (by simp) ?_
  simp [hf0]
  refine plain_pc E _ _ [] (by simp) ?_
  simp [hf0]
  refine same_pc E _ _ [] (by simp) ?_
  simp [hf0]
  refine plain_pc E _ _ [] (by simp) ?_
  simp [hf0]
  refine same_pc E _ _ [] (by simp) ?_
  simp [hf0]
  refine VL_go (mem4Inv e H) (fun fr _ => 0) ⟨rfl, fr_intro (by simp)⟩ ?_
  rintro fr H' ⟨rfl, x, rfl⟩
  simp
  refine VL_go (mem5Inv e H) (fun fr _ => 0) ⟨rfl, fr_intro (by simp)⟩ ?_
  rintro fr H' ⟨rfl, x, rfl⟩
  simp
  refine VL_go (mem6Inv e H) (fun fr _ => 9 - (ai (aget fr 115)).toNat) ⟨rfl, 0, by omega, fr_intro (by simp)⟩ ?_
  rintro fr H' ⟨rfl, i, hi, x, rfl⟩
  by_cases h : i < 9
  · have hw : IntKind.i64.wrap ((i : Int) + 1) = i + 1 := wrap_in (by omega) (by omega)
    have h9 : (i : Int) < 9 := by omega
    have m1 : i + 1 ≤ maxLen := by unfold maxLen; omega
    have m2 : (i + 1) * 32 ≤ 140737488355328 := by omega
    have hsn : List.replicate i [AV.str [103, 114, 111, 119, 110], AV.str []] ++ [[AV.str [103, 114, 111, 119, 110], AV.str []]] = List.replicate (i + 1) [AV.str [103, 114, 111, 119, 110], AV.str []] := by rw [List.replicate_succ']
    simp [h9, hw, m1, m2, hsn]
    exact Kloop_normal ⟨rfl, i + 1, by omega, fr_intro (by simp)⟩ (by simp; omega)
  · obtain rfl : i = 9 := by omega
    simp
    refine plain_pc E _ _ [] (by simp) ?_
    simp [hf0]
    refine same_pc E _ _ [] (by simp) ?_
    simp [hf0]
    refine trailers_pc E _ _ H.length e hat2 (by rw [h5]; simp) ?_
    rw [h5]
    simp [hf0]
    refine plain_pc E _ _ [] (by simp) ?_
    simp [hf0]
    refine same_pc E _ _ [] (by simp) ?_
    have hw9 : IntKind.i64.wrap 9 = 9 := by decide
    simp [hf0, hw9]
    exact aPost_same hB rfl (nilV_refl _) (by simp) hQ
end
theorem cmemory_true (W : World) (bo : Option Addr) (len cap : Nat) (rows : List (List AV)) (hr : Rel W (fun _ => 0) (old W) (.sl false 2 rows) (.slice bo len cap)) (hn : Bnd 0 (.sl false 2 rows))
    (hk : ∀ r ∈ rows, r.length = 2 ∧ ∀ (j : Nat) k y, ([.str, .str] : List CK)[j]? = some k → r[j]? = some y → KindOf k y) (e : rows.length = len) (hb : wtA rows.flatten + len ≤ 1048576) (hS : Signs W) (hT : Tz W) :
    Calls Tryd.prog 14 #[.slice bo len cap] W fun e w' => e = .returned (.bool true) ∧ Frm (fun _ => False) W w' := by
  obtain ⟨ts, rfl, hz⟩ := flds_of_rows rows hk
  have hl : ts.length = len := by simpa using e
  refine calls_sz (args := [.sl false 2 (flds ts)]) hS hT rfl (fun t x u hx hu => ?_) (fun E Q hE h => ?_)
  · match t with
    | 0 => simp at hx hu; subst hx; subst hu; exact ⟨hr, hn, rfl⟩
    | t + 1 => simp at hx
  · cases ts with
    | nil => exact lmemory0_pc E [] Q hE h
    | cons g l => exact lmemory1_pc E [] Q hE g l (by omega) h
end Go.Proofs.YtimhofphmgehgaaDoor
