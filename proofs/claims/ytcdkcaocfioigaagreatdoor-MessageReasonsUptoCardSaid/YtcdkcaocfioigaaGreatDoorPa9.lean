/- Part 9 of the texts below the law: the abstract machine, the functions that it walks, what they compute. -/
import Derived.Test.YtcdkcaocfioigaaGreatDoorPa8
import Derived.Test.YtcdkcaocfioigaaGreatDoorCards
import Derived.Test.YtcdkcaocfioigaaGreatDoorTie
import Derived.Deep.DeepHandedRow
import Derived.Lib.LaidTab
import Derived.ChangeMaps5
import Derived.Lay
import Derived.Stop.LaidErr
import Derived.JoinedCond
set_option linter.unusedVariables false
set_option linter.unnecessarySimpa false
set_option linter.unusedSimpArgs false
set_option linter.unusedSectionVars false
set_option maxRecDepth 100000
namespace Go.Proofs.YtcdkcaocfioigaaGreatDoor
open Go Go.RowKit Go.Proofs

theorem lineS_rng : ∀ (l : List UInt8) (back : Bool) (i n : Nat), lineS back l i = .ok n → i < n ∧ n ≤ i + l.length ∧ (back = false → i + 2 ≤ n)
  | [], back, i, n, h => by rw [lineS_nil] at h; cases h
  | b :: r, true, i, n, h => by
    rw [lineS_back] at h
    split at h
    · cases h; simp only [List.length_cons]; exact ⟨by omega, by omega, fun e => by cases e⟩
    · cases h
  | b :: r, false, i, n, h => by
    rw [lineS_go] at h
    split at h
    · cases h
    · obtain ⟨h1, h2, _⟩ := lineS_rng r _ _ _ h
      simp only [List.length_cons]
      exact ⟨by omega, by omega, fun _ => by omega⟩
theorem lineR_rng {t : List UInt8} {a n : Nat} (h : lineR t a = .ok n) : a + 2 ≤ n ∧ (a ≤ t.length → n ≤ t.length) := by
  obtain ⟨h1, h2, h3⟩ := lineS_rng _ _ _ _ h
  rw [List.length_drop] at h2
  exact ⟨h3 rfl, fun ha => by omega⟩
theorem preR_len (s : List UInt8) : ∀ (n i j : Nat), preR s n i = .ok j → j = i + n ∧ (i ≤ s.length → j ≤ s.length)
  | 0, i, j, h => by cases h; exact ⟨rfl, fun h => h⟩
  | n + 1, i, j, h => by
    cases hb : s[i]? with
    | none => rw [preR_end s n i hb] at h; cases h
    | some b =>
      have hi := (List.getElem?_eq_some_iff.1 hb).1
      by_cases hs : stB i b = true
      · rw [preR_ok hb hs] at h
        obtain ⟨h1, h2⟩ := preR_len s n (i + 1) j h
        exact ⟨by omega, fun _ => h2 (by omega)⟩
      · rw [Bool.not_eq_true] at hs
        rw [preR_bad hb hs] at h; cases h
theorem reasonR_rng : ∀ (l : List UInt8) (k i n : Nat), reasonR l k i = .ok n → i + 2 ≤ n ∧ n ≤ i + l.length
  | [], k, i, n, h => by rw [reasonR_nil] at h; cases h
  | b :: r, k, i, n, h => by
    by_cases hb : b = 13
    · subst hb
      cases r with
      | nil => rw [reasonR_cr1] at h; cases h
      | cons c r =>
        rw [reasonR_cr] at h
        split at h
        · cases h; simp only [List.length_cons]; omega
        · cases h
    · by_cases h2 : 256 ≤ k ∨ fcB b = false
      · rw [reasonR_bad _ _ _ _ hb h2] at h; cases h
      · rw [reasonR_go _ _ _ _ hb h2] at h
        have := reasonR_rng r _ _ _ h
        simp only [List.length_cons]; omega
theorem stR_pre {s : List UInt8} {n : Nat} (h : stR s = .ok n) : preR s 13 0 = .ok 13 ∧ 13 ≤ s.length ∧ reasonR (s.drop 13) 0 13 = .ok n ∧ 15 ≤ n ∧ n ≤ s.length := by
  unfold stR at h
  cases hp : preR s 13 0 with
  | ok j =>
    obtain ⟨h1, h2⟩ := preR_len s 13 0 j hp
    have h3 := h2 (by omega)
    rw [hp] at h
    simp only at h
    have := reasonR_rng _ _ _ _ h
    rw [List.length_drop] at this
    exact ⟨by rw [h1], by omega, h, by omega, by omega⟩
  | bad j => rw [hp] at h; cases h
  | part => rw [hp] at h; cases h
/-- One line of a head. -/
def nextR (t : List UInt8) (old : Bool) (a : Nat) (fs : List Fld) : HD ⊕ (Nat × List Fld) := match lineR t a with
  | .part => .inl .part
  | .bad i => .inl (.bad i 122)
  | .ok e => if (t.drop a).take (e - 2 - a) = [] then .inl (if (framingA fs old).2.2 ≠ 0 then .bad a (framingA fs old).2.2 else .ok fs e)
      else if 100 ≤ fs.length then .inl (.bad a 65)
      else if (lineX ((t.drop a).take (e - 2 - a))).2.2 ≠ 0 then .inl (.bad (a + (lineX ((t.drop a).take (e - 2 - a))).2.1) (lineX ((t.drop a).take (e - 2 - a))).2.2)
      else .inr (e, fs ++ [(lineX ((t.drop a).take (e - 2 - a))).1])
theorem fieldsR_next (t : List UInt8) (old : Bool) (n a : Nat) (fs : List Fld) : fieldsR t old (n + 1) a fs = match nextR t old a fs with
    | .inl x => x
    | .inr (e, gs) => fieldsR t old n e gs := by
  rw [fieldsR]
  unfold nextR
  cases lineR t a with
  | part => rfl
  | bad i => rfl
  | ok e =>
    simp only
    split
    · rfl
    · split
      · rfl
      · split <;> rfl
theorem nextR_go {t : List UInt8} {old : Bool} {a e : Nat} {fs gs : List Fld} (h : nextR t old a fs = .inr (e, gs)) : a + 2 ≤ e ∧ (a ≤ t.length → e ≤ t.length) ∧ lineR t a = .ok e ∧ (t.drop a).take (e - 2 - a) ≠ [] ∧ fs.length < 100 ∧ (lineX ((t.drop a).take (e - 2 - a))).2.2 = 0 ∧ gs = fs ++ [(lineX ((t.drop a).take (e - 2 - a))).1] := by
  unfold nextR at h
  cases he : lineR t a with
  | part => rw [he] at h; cases h
  | bad i => rw [he] at h; cases h
  | ok e' =>
    rw [he] at h
    simp only at h
    split at h
    · cases h
    · split at h
      · cases h
      · split at h
        · cases h
        · rename_i h1 h2 h3
          cases h
          obtain ⟨r1, r2⟩ := lineR_rng he
          exact ⟨r1, r2, rfl, h1, by omega, by simpa using h3, rfl⟩
theorem fieldsR_rng {t : List UInt8} {old : Bool} : ∀ (n a : Nat) (fs gs : List Fld) (e : Nat), a ≤ t.length → fieldsR t old n a fs = .ok gs e → a + 2 ≤ e ∧ e ≤ t.length
  | 0, a, fs, gs, e, _, h => by rw [fieldsR] at h; cases h
  | n + 1, a, fs, gs, e, ha, h => by
    rw [fieldsR_next] at h
    cases hx : nextR t old a fs with
    | inl x =>
      rw [hx] at h
      simp only at h
      subst h
      unfold nextR at hx
      cases he : lineR t a with
      | part => rw [he] at hx; cases hx
      | bad i => rw [he] at hx; cases hx
      | ok e' =>
        obtain ⟨r1, r2⟩ := lineR_rng he
        have r3 := r2 ha
        rw [he] at hx
        simp only at hx
        split at hx
        · split at hx
          · cases hx
          · cases hx; omega
        · split at hx
          · cases hx
          · split at hx <;> cases hx
    | inr p =>
      obtain ⟨e', gs'⟩ := p
      rw [hx] at h
      obtain ⟨r1, r2, _⟩ := nextR_go hx
      have := fieldsR_rng n e' gs' gs e (r2 ha) h
      omega
theorem fieldsR_bad0 {t : List UInt8} {old : Bool} : ∀ (n a : Nat) (fs : List Fld) (i : Int), fieldsR t old n a fs ≠ .bad i 0
  | 0, a, fs, i, h => by rw [fieldsR] at h; cases h
  | n + 1, a, fs, i, h => by
    rw [fieldsR_next] at h
    cases hx : nextR t old a fs with
    | inl x =>
      rw [hx] at h
      simp only at h
      subst h
      unfold nextR at hx
      cases he : lineR t a with
      | part => rw [he] at hx; cases hx
      | bad i => rw [he] at hx; cases hx
      | ok e' =>
        rw [he] at hx
        simp only at hx
        split at hx
        · split at hx
          · rename_i h1
            injection hx with hx
            injection hx with _ hx
            exact h1 hx
          · cases hx
        · split at hx
          · injection hx with hx
            injection hx with _ hx
            exact absurd hx (by decide)
          · split at hx
            · rename_i h1
              injection hx with hx
              injection hx with _ hx
              exact h1 hx
            · cases hx
    | inr p =>
      obtain ⟨e', gs'⟩ := p
      rw [hx] at h
      exact fieldsR_bad0 n e' gs' i h
/-- The head that a text of at most 65536 bytes begins with; none: there is not all of it. -/
def headO (t : List UInt8) : Option (Rep × Int × Int) := match stR t with
  | .part => none
  | .bad i => some (rep0, (i : Int), 122)
  | .ok a => match fieldsR t (decide (dg t 7 = 0)) (t.length + 1) a [] with
    | .part => none
    | .bad n e => some (rep0, n, e)
    | .ok fs e => some (⟨dg t 7, 100 * dg t 9 + 10 * dg t 10 + dg t 11, (t.drop 13).take (a - 2 - 13), fs, [], [], (framingA fs (decide (dg t 7 = 0))).1, (framingA fs (decide (dg t 7 = 0))).2.1, persistA fs (decide (dg t 7 = 0))⟩, (e : Int), 0)
theorem headM_eq (s : List UInt8) : headM s = (headO (s.take 65536)).getD (if 65536 < s.length then (rep0, 65536, 125) else (rep0, (s.length : Int), 124)) := by
  unfold headM headO
  simp only
  cases stR (s.take 65536) with
  | part => rfl
  | bad i => rfl
  | ok a =>
    simp only
    cases fieldsR (s.take 65536) (decide (dg (s.take 65536) 7 = 0)) ((s.take 65536).length + 1) a [] <;> rfl
theorem headM_rng {s : List UInt8} (h : (headM s).2.2 = 0) : ∃ n : Nat, (headM s).2.1 = n ∧ 17 ≤ n ∧ n ≤ s.length ∧ n ≤ 65536 := by
  rw [headM_eq] at h ⊢
  cases hx : headO (s.take 65536) with
  | none =>
    rw [hx] at h
    simp only [Option.getD_none] at h
    split at h <;> simp at h
  | some x =>
    rw [hx] at h
    simp only [Option.getD_some] at h ⊢
    unfold headO at hx
    cases hs : stR (s.take 65536) with
    | part => rw [hs] at hx; cases hx
    | bad i => rw [hs] at hx; cases hx; simp at h
    | ok a =>
      rw [hs] at hx
      simp only at hx
      obtain ⟨_, h13, _, ha15, ha⟩ := stR_pre hs
      cases hf : fieldsR (s.take 65536) (decide (dg (s.take 65536) 7 = 0)) ((s.take 65536).length + 1) a [] with
      | part => rw [hf] at hx; cases hx
      | bad n e =>
        rw [hf] at hx
        cases hx
        simp only at h
        subst h
        exfalso
        exact fieldsR_bad0 _ _ _ _ hf
      | ok fs e =>
        rw [hf] at hx
        cases hx
        obtain ⟨r1, r2⟩ := fieldsR_rng _ _ _ _ _ ha hf
        rw [List.length_take] at r2
        exact ⟨e, rfl, by omega, by omega, by omega⟩
end Go.Proofs.YtcdkcaocfioigaaGreatDoor

set_option linter.unusedVariables false
set_option linter.unnecessarySimpa false
set_option linter.unusedSimpArgs false
set_option linter.unusedSectionVars false
set_option maxRecDepth 100000
namespace Go.Proofs.YtcdkcaocfioigaaGreatDoor
open Go Go.RowKit Go.Proofs

/-- What comes behind a head. -/
def bodyM (r : Rep) (n : Nat) (len : Nat) (rest : List UInt8) (most : Int) (ended : Bool) : Rep × Int × Int :=
    if r.kind = 2 then
      (if (decodeD rest most 65536 100).2.2.2 = 0 then ({ r with body := (decodeD rest most 65536 100).1, trailers := (decodeD rest most 65536 100).2.1 }, n + (decodeD rest most 65536 100).2.2.1, 0)
       else (rep0, n + (decodeD rest most 65536 100).2.2.1, if (decodeD rest most 65536 100).2.2.2 = 105 then 124 else if (decodeD rest most 65536 100).2.2.2 = 102 then 125 else (decodeD rest most 65536 100).2.2.2))
    else if r.kind = 1 then
      (if most < r.length then (rep0, n, 125) else if (rest.length : Int) < r.length then (rep0, len, 124) else ({ r with body := rest.take r.length.toNat }, n + r.length, 0))
    else if most < rest.length then (rep0, n + most, 125) else if ended = false then (rep0, len, 124) else ({ r with body := rest, persist := false }, len, 0)
theorem parseM_neg (m s : List UInt8) {most : Int} (ended : Bool) (h : most < 0) : parseM m s most ended = (rep0, 0, 1) := by unfold parseM; rw [if_pos h]
theorem parseM_bad {m s : List UInt8} {most : Int} (ended : Bool) (h : ¬ most < 0) (h1 : (headM s).2.2 ≠ 0) : parseM m s most ended = (rep0, (headM s).2.1, (headM s).2.2) := by unfold parseM; rw [if_neg h, if_pos h1]
theorem parseM_none {m s : List UInt8} {most : Int} (ended : Bool) (h : ¬ most < 0) (h1 : (headM s).2.2 = 0) (h2 : bodylessB m (headM s).1.status = true) : parseM m s most ended = headM s := by unfold parseM; rw [if_neg h, if_neg (by simpa using h1), if_pos h2]
theorem parseM_body {m s : List UInt8} {most : Int} (ended : Bool) {n : Nat} (h : ¬ most < 0) (h1 : (headM s).2.2 = 0) (h2 : bodylessB m (headM s).1.status = false) (hn : (headM s).2.1 = n) : parseM m s most ended = bodyM (headM s).1 n s.length (s.drop n) most ended := by
  unfold parseM bodyM
  rw [if_neg h, if_neg (by simpa using h1), if_neg (by rw [h2]; simp), hn]
  rfl
theorem lenA_rng (l : List Fld) : 0 ≤ (lengthA l).1 := by
  unfold lengthA
  split
  · simp
  · split
    · split
      · simp
      · rename_i h; simp only [not_or] at h; simp only; omega
    · simp
theorem framingA_len (l : List Fld) (old : Bool) : 0 ≤ (framingA l old).2.1 := by
  have := lenA_rng l
  unfold framingA
  (repeat' split) <;> simp_all
theorem headM_len (s : List UInt8) : 0 ≤ (headM s).1.length := by
  rw [headM_eq]
  cases hx : headO (s.take 65536) with
  | none => simp only [Option.getD_none]; split <;> simp [rep0]
  | some x =>
    simp only [Option.getD_some]
    unfold headO at hx
    cases hs : stR (s.take 65536) with
    | part => rw [hs] at hx; cases hx
    | bad i => rw [hs] at hx; cases hx; simp [rep0]
    | ok a =>
      rw [hs] at hx
      simp only at hx
      cases hf : fieldsR (s.take 65536) (decide (dg (s.take 65536) 7 = 0)) ((s.take 65536).length + 1) a [] with
      | part => rw [hf] at hx; cases hx
      | bad n e => rw [hf] at hx; cases hx; simp [rep0]
      | ok fs e => rw [hf] at hx; cases hx; exact framingA_len _ _
/-! ### A reader -/
structure RM where
  bytes : List UInt8
  err : Int
  over : Bool
  ended : Bool
  most : Int
  asked : List (List UInt8)
  done : List Rep
/-- The bytes are no part of what is told behind an error. -/
def RM.put (r : RM) (u : List UInt8) : RM := { r with bytes := r.bytes ++ u }
end Go.Proofs.YtcdkcaocfioigaaGreatDoor

set_option linter.unusedVariables false
set_option linter.unnecessarySimpa false
set_option linter.unusedSimpArgs false
set_option linter.unusedSectionVars false
set_option maxRecDepth 100000
namespace Go.Proofs.YtcdkcaocfioigaaGreatDoor
open Go Go.RowKit Go.Proofs

/-- Nils in a struct that comes back ahead of others are seen as empty lists. -/
theorem nilT_rel {w : World} {β : Nat → Nat} {Rd : Nat → Nat → Prop} {N : Nat} {l l' rest : List AV} {u : Value} (hB : Bnd N (.tup (.agg l :: rest))) (h : Rel w β Rd (.tup (.agg l :: rest)) u) (hn : nilL l l') (hf' : ∀ x ∈ l', x.free = true) :
    Rel w β Rd (.tup (.agg l' :: rest)) u ∧ Bnd N (.tup (.agg l' :: rest)) := by
  obtain ⟨hlen, hat⟩ := nilL_at hn
  have hB2 : ∀ x ∈ l, Bnd N x := by
    cases hB with
    | tup _ hB =>
      have := hB (.agg l) (by simp)
      cases this with
      | agg _ h => exact h
  cases h with
  | tup _ vs hl hf hr =>
    have h0 : ∀ u, vs[0]? = some u → Rel w β Rd (.agg l') u ∧ Bnd N (.agg l') := fun u hu => by
      have h0 := hr 0 (.agg l) u rfl hu
      cases h0 with
      | agg _ vs' hl' hf0 hr0 =>
        have key : ∀ (i : Nat) (y : AV) (c : Value), l'[i]? = some y → vs'[i]? = some c → Rel w β Rd y c ∧ Bnd N y := fun i y c hy hc => by
          obtain ⟨x, hx, h1⟩ := hat i y hy
          obtain ⟨r1, r2, _⟩ := nil1_rel h1 (hr0 i x c hx hc) (hB2 x (mem_at hx))
          exact ⟨r1, r2⟩
        refine ⟨.agg _ vs' (by omega) (fun y hy => ⟨hf' y hy, ?_⟩) (fun i y c hy hc => (key i y c hy hc).1), .agg _ fun y hy => ?_⟩
        · obtain ⟨i, hi⟩ := List.getElem?_of_mem hy
          obtain ⟨x, hx, h1⟩ := hat i y hi
          rcases h1 with rfl | ⟨rfl, b, k, rfl⟩
          · exact (hf0 _ (mem_at hx)).2
          · rfl
        · obtain ⟨i, hi⟩ := List.getElem?_of_mem hy
          have hi2 : i < vs'.size := by have := (List.getElem?_eq_some_iff.1 hi).1; omega
          exact (key i y _ hi (Array.getElem?_eq_getElem hi2)).2
    have hv0 : vs[0]? = some vs[0]! := by
      have : 0 < vs.size := by simp at hl; omega
      simp [this]
    refine ⟨.tup _ vs (by simpa using hl) (fun x hx => ?_) (fun j x u hx hu => ?_), .tup _ fun x hx => ?_⟩
    · rcases List.mem_cons.1 hx with rfl | hx
      · rfl
      · exact hf x (List.mem_cons_of_mem _ hx)
    · cases j with
      | zero => simp at hx; subst hx; exact (h0 u hu).1
      | succ j => exact hr (j + 1) x u (by simpa using hx) hu
    · rcases List.mem_cons.1 hx with rfl | hx
      · exact (h0 _ hv0).2
      · cases hB with
        | tup _ hB => exact hB x (List.mem_cons_of_mem _ hx)
theorem PC.nilT {P : Program} {E : Env} {f : FuncId} {args : List AV} {H : Hp} {Q : AV → Hp → Prop} (h : PC P E f args H (fun v H' => ∃ l l' rest, v = .tup (.agg l :: rest) ∧ nilL l l' ∧ (∀ x ∈ l', x.free = true) ∧ Q (.tup (.agg l' :: rest)) H')) : PC P E f args H Q :=
  ⟨h.1, fun w β Rd Ow cargs h1 h2 h3 h4 => (h.2 w β Rd Ow cargs h1 h2 h3 h4).mono fun e w' ⟨u, v, H', β', Rd', Ow', he, hQ, hp⟩ => by
    obtain ⟨l, l', rest, rfl, hn, hf, hQ⟩ := hQ
    obtain ⟨k1, k2⟩ := nilT_rel hp.bnd hp.rel hn hf
    exact ⟨u, _, H', β', Rd', Ow', he, hQ, ⟨k1, k2, fun g hg => (by cases hg), rfl, hp.hr, hp.old, hp.len, hp.keep, hp.frame, hp.os, hp.tape, hp.output, hp.size⟩⟩⟩
/-- A reply's cells. -/
def Rep.avs (r : Rep) : List AV := [.int .i64 r.status, .str r.reason, .sl false 2 (flds r.fields), .str r.body, .int .i64 r.minor, .sl false 2 (flds r.trailers), .int .i64 r.kind, .int .i64 r.length, .bool r.persist]
/-- .. of a variable's own. -/
def rcellsF (st : Int) (re : List UInt8) (fs : List Fld) (mi : Int) (ki le : Int) (pe : Bool) : List AV := [.int .i64 st, .str re, .sl true 2 (flds fs), .str [], .int .i64 mi, .sl true 2 [], .int .i64 ki, .int .i64 le, .bool pe]
theorem lineX_sz {l : List UInt8} (h : (lineX l).2.2 = 0) : (lineX l).1.name.length + (lineX l).1.value.length + 1 ≤ l.length := by
  unfold lineX at h ⊢
  split at h
  · simp at h
  split at h
  · simp at h
  split at h
  · simp at h
  split at h
  · simp at h
  split at h
  · simp at h
  split at h
  · simp at h
  rename_i h1 h2 h3 h4 h5 h6
  rw [if_neg h1, if_neg h2, if_neg h3, if_neg h4, if_neg h5, if_neg h6]
  have := trimB_len (l.drop (run ncol l + 1))
  rw [List.length_drop] at this
  simp only [List.length_take]
  omega
theorem lineX_rng (l : List UInt8) : 0 ≤ (lineX l).2.1 ∧ (lineX l).2.1 ≤ l.length + 8192 := by
  have h1 := run_le ncol l
  have h2 := run_le blankB (l.drop (run ncol l + 1))
  have h3 := run_le fcB (l.drop (run ncol l + 1))
  have h4 := run_le signB l
  rw [List.length_drop] at h2 h3
  unfold lineX
  (repeat' split) <;> simp only <;> omega
theorem fsz_snoc (l : List Fld) (f : Fld) : fsz (l ++ [f]) = fsz l + (f.name.length + f.value.length) := by rw [fsz_app]; simp [fsz]
section
variable (E : Env) (H : Hp) (Q : AV → Hp → Prop)
theorem parseLineX_pc' (hE : SE E) (l : List UInt8) (hl : l.length ≤ cap) (hQ : Q (.tup [.agg [.str (lineX l).1.name, .str (lineX l).1.value], .int .i64 (lineX l).2.1, .int .i64 (lineX l).2.2]) H) :
    PC Tryz.prog E 114 [.str l] H Q := parseLineX_pc E H Q hE l hl hQ
def hdO (mi st : Int) (re : List UInt8) : HD → Option (Rep × Int × Int)
  | .part => none
  | .bad n e => some (rep0, n, e)
  | .ok fs e => some (⟨mi, st, re, fs, [], [], (framingA fs (decide (mi = 0))).1, (framingA fs (decide (mi = 0))).2.1, persistA fs (decide (mi = 0))⟩, (e : Int), 0)
def hdInv (s : List UInt8) (st mi : Int) (re : List UInt8) (F : HD) (H : Hp) (fr : List AV) (H' : Hp) : Prop := ∃ (J : Hp) (a n : Nat) (fs : List Fld), a ≤ s.length ∧ s.length < a + n ∧ fieldsR s (decide (mi = 0)) n a fs = F ∧ fsz fs + fs.length ≤ a ∧
  H' = H ++ ([rcells 0 [] 0, [.int .i64 0, .int .i64 0], rcellsF st re fs mi 0 0 false, [.int .i64 0, .int .i64 0]] ++ J) ∧
  ∃ x : Nat → AV, fr = [.str s, x 1, .ptr (some (H.length, 0)), x 3, .ptr (some (H.length + 1, 0)), .ptr (some (H.length + 2, 0)), .int .i64 a, .ptr (some (H.length + 3, 0)), x 8, x 9, x 10, x 11, x 12, x 13, x 14, x 15, x 16, x 17, x 18, x 19, x 20, x 21, x 22, x 23, x 24, x 25, x 26, x 27, x 28, x 29, x 30, x 31, x 32, x 33, x 34, x 35, x 36, x 37, x 38, x 39, x 40, x 41, x 42, x 43, x 44, x 45, x 46, x 47, x 48, x 49, x 50, x 51, x 52, x 53, x 54, x 55, x 56, x 57, x 58, x 59, x 60, x 61, x 62, x 63, x 64, x 65, x 66, x 67, x 68, x 69, x 70, x 71, x 72, x 73, x 74, x 75, x 76, x 77, x 78, x 79, x 80, x 81, x 82, x 83, x 84, x 85, x 86, x 87, x 88, x 89, x 90, x 91, x 92, x 93, x 94, x 95, x 96, x 97, x 98, x 99, x 100]
set_option maxHeartbeats 2000000 in
theorem rhead_pc (hE : SE E) (s : List UInt8) (hl : s.length ≤ 65536)
    (hQ1 : ∀ (r : Rep) (n : Nat), headO s = some (r, (n : Int), 0) → Q (.tup [.agg r.avs, .int .i64 n, .agg [.int .i64 0, .int .i64 0]]) H)
    (hQ2 : ∀ (r : Rep) (n e : Int), headO s = some (rep0, n, e) → e ≠ 0 → Q (.tup [.agg r.avs, .int .i64 0, .agg [.int .i64 n, .int .i64 e]]) H)
    (hQ3 : ∀ (r : Rep), headO s = none → Q (.tup [.agg r.avs, .int .i64 0, .agg [.int .i64 s.length, .int .i64 124]]) H) : PC Tryz.prog E 83 [.str s] H Q := by
  refine PC.nilT ?_
  have hnil : ∀ (st : Int) (re : List UInt8) (mi : Int), nilL (rcells st re mi) (Rep.avs ⟨mi, st, re, [], [], [], 0, 0, false⟩) := fun st re mi =>
    ⟨.inl rfl, .inl rfl, .inr ⟨rfl, false, 2, rfl⟩, .inl rfl, .inl rfl, .inr ⟨rfl, false, 2, rfl⟩, .inl rfl, .inl rfl, .inl rfl, trivial⟩
  have hfree : ∀ r : Rep, ∀ x ∈ r.avs, x.free = true := fun r => by simp [Rep.avs, AV.free]
  have hrefl : ∀ r : Rep, nilL r.avs r.avs := fun r => nilL_refl _
  refine pc_enterF (fun i => H.length + 2 ≤ i) Tryz.func83 rfl [94] [(3, [2, 2, 2, 0, 2]), (6, [2, 2, 2, 0, 2]), (12, [0, 0, 0, 0, 0, 1])] (by kernel_rfl) (fun E' hS' h0' hF' hB => ?_)
  have hE' : SE E' := ⟨by rw [hF']; exact hE.1, by rw [h0']; exact hE.2⟩
  simp [Tryz.ntmps83, Tryz.results83, List.replicate_succ]
  refine statusLine_pc E' _ _ s (by omega) (fun a0 hst => ?_) (fun st re mi n hst => ?_) (fun st re mi hst => ?_)
  rotate_left
  · have hO : headO s = some (rep0, (n : Int), 122) := by unfold headO; rw [hst]
    simp [rcells, hS']
    exact aPost_same hB (v0 := .tup [.agg (rcells st re mi), .int .i64 0, .agg [.int .i64 n, .int .i64 122]]) (by simp [rcells]) (nilV_refl _) (by simp [rcells]) ⟨_, _, _, rfl, hnil _ _ _, hfree _, hQ2 _ _ _ hO (by decide)⟩
  · have hO : headO s = none := by unfold headO; rw [hst]
    simp [rcells, hS']
    exact aPost_same hB (v0 := .tup [.agg (rcells st re mi), .int .i64 0, .agg [.int .i64 s.length, .int .i64 124]]) (by simp [rcells]) (nilV_refl _) (by simp [rcells]) ⟨_, _, _, rfl, hnil _ _ _, hfree _, hQ3 _ hO⟩
  obtain ⟨_, h13, _, ha15, ha⟩ := stR_pre hst
  obtain ⟨st, hst2⟩ : ∃ st, 100 * dg s 9 + 10 * dg s 10 + dg s 11 = st := ⟨_, rfl⟩
  obtain ⟨re, hre⟩ : ∃ re, (s.drop 13).take (a0 - 2 - 13) = re := ⟨_, rfl⟩
  obtain ⟨mi, hmi⟩ : ∃ mi, dg s 7 = mi := ⟨_, rfl⟩
  obtain ⟨F, hF⟩ : ∃ F, fieldsR s (decide (mi = 0)) (s.length + 1) a0 [] = F := ⟨_, rfl⟩
  have hO : headO s = hdO mi st re F := by
    unfold headO
    rw [hst]
    simp only
    rw [hmi, hF, hst2, hre]
    cases F <;> rfl
  rw [hst2, hre, hmi]
  clear hst2 hre hmi
  simp [rcells, hS']
  refine VL_nilH (H.length + 2) _ 2 2 (by simp; rfl) rfl ?_
  simp
  refine VL_nilH (H.length + 2) _ 5 2 (by simp; rfl) rfl ?_
  simp
  refine VL_go (hdInv s st mi re F H) (fun fr _ => s.length - (ai (aget fr 6)).toNat) ⟨[], a0, s.length + 1, [], ha, by omega, hF, by simp [fsz], by simp [rcells, rcellsF, flds], fr_intro (by simp)⟩ ?_
  rintro fr H' ⟨J, a, n, fs, ha, hn, hF, hfz, rfl, x, rfl⟩
  obtain ⟨m, rfl⟩ : ∃ m, n = m + 1 := ⟨n - 1, by omega⟩
  rw [fieldsR_next] at hF
  simp [rcellsF, rcells]
  refine line_pc E' _ _ s a ha (by omega) (fun i hai hi2 hL => ?_) (fun i hL => ?_) (fun hL => ?_)
  rotate_left
  · have hx : nextR s (decide (mi = 0)) a fs = .inl (.bad i 122) := by unfold nextR; rw [hL]
    rw [hx] at hF
    simp only at hF
    subst hF
    simp [hS']
    exact aPost_same hB (v0 := .tup [.agg (Rep.avs ⟨mi, st, re, fs, [], [], 0, 0, false⟩), .int .i64 0, .agg [.int .i64 i, .int .i64 122]]) (by simp [Rep.avs, flds]) (nilV_refl _) (by simp [Rep.avs, bnd_flds]) ⟨_, _, _, rfl, hrefl _, hfree _, hQ2 _ _ _ hO (by decide)⟩
  · have hx : nextR s (decide (mi = 0)) a fs = .inl .part := by unfold nextR; rw [hL]
    rw [hx] at hF
    simp only at hF
    subst hF
    simp [hS']
    exact aPost_same hB (v0 := .tup [.agg (Rep.avs ⟨mi, st, re, fs, [], [], 0, 0, false⟩), .int .i64 0, .agg [.int .i64 s.length, .int .i64 124]]) (by simp [Rep.avs, flds]) (nilV_refl _) (by simp [Rep.avs, bnd_flds]) ⟨_, _, _, rfl, hrefl _, hfree _, hQ3 _ hO⟩
  obtain ⟨l, hl⟩ : ∃ l, (s.drop a).take (i - a) = l := ⟨_, rfl⟩
  have hll : l.length = i - a := by rw [← hl, List.length_take, List.length_drop]; omega
  rw [hl]
  have hi2' : (s.drop a).take (i + 2 - 2 - a) = l := by rw [show i + 2 - 2 - a = i - a by omega]; exact hl
  have hsz : fsz fs + fs.length ≤ 4194304 := by omega
  by_cases hle : l = []
  · have hx : nextR s (decide (mi = 0)) a fs = .inl (if (framingA fs (decide (mi = 0))).2.2 ≠ 0 then .bad a (framingA fs (decide (mi = 0))).2.2 else .ok fs (i + 2)) := by
      unfold nextR
      rw [hL]
      simp only
      rw [hi2', if_pos hle]
    rw [hx] at hF
    simp only at hF
    subst hF
    have hmb : (mi == 0) = decide (mi = 0) := rfl
    simp [hle]
    refine framing_pc E' _ _ hE' fs (decide (mi = 0)) hsz ?_
    by_cases he : (framingA fs (decide (mi = 0))).2.2 = 0
    · rw [if_neg (by simpa using he)] at hO
      simp [he, hS']
      refine persist_pc E' _ _ hE' fs (decide (mi = 0)) hsz ?_
      have hq := hQ1 _ _ hO
      simp
      exact aPost_same hB (v0 := .tup [.agg (Rep.avs ⟨mi, st, re, fs, [], [], (framingA fs (decide (mi = 0))).1, (framingA fs (decide (mi = 0))).2.1, persistA fs (decide (mi = 0))⟩), .int .i64 ((i + 2 : Nat) : Int), .agg [.int .i64 0, .int .i64 0]]) (by simp [Rep.avs, flds]) (nilV_refl _) (by simp [Rep.avs, bnd_flds]) ⟨_, _, _, rfl, hrefl _, hfree _, hq⟩
    · rw [if_pos he] at hO
      have he2 : ((framingA fs (decide (mi = 0))).2.2 != 0) = true := by simpa using he
      simp [he2, hS']
      exact aPost_same hB (v0 := .tup [.agg (Rep.avs ⟨mi, st, re, fs, [], [], 0, 0, false⟩), .int .i64 0, .agg [.int .i64 a, .int .i64 (framingA fs (decide (mi = 0))).2.2]]) (by simp [Rep.avs, flds]) (nilV_refl _) (by simp [Rep.avs, bnd_flds]) ⟨_, _, _, rfl, hrefl _, hfree _, hQ2 _ _ _ hO he⟩
  · have hle2 : (l == []) = false := by simpa using hle
    by_cases h100 : 100 ≤ fs.length
    · have hx : nextR s (decide (mi = 0)) a fs = .inl (.bad a 65) := by
        unfold nextR
        rw [hL]
        simp only
        rw [hi2', if_neg hle, if_pos h100]
      rw [hx] at hF
      simp only at hF
      subst hF
      have h100' : (100 : Int) ≤ fs.length := by omega
      simp [hle2, h100', hS']
      exact aPost_same hB (v0 := .tup [.agg (Rep.avs ⟨mi, st, re, fs, [], [], 0, 0, false⟩), .int .i64 0, .agg [.int .i64 a, .int .i64 65]]) (by simp [Rep.avs, flds]) (nilV_refl _) (by simp [Rep.avs, bnd_flds]) ⟨_, _, _, rfl, hrefl _, hfree _, hQ2 _ _ _ hO (by decide)⟩
    · have h100' : ¬ (100 : Int) ≤ fs.length := by omega
      simp [hle2, h100']
      refine parseLineX_pc' E' _ _ hE' l (by simp only [cap]; omega) ?_
      by_cases he : (lineX l).2.2 = 0
      · have hx : nextR s (decide (mi = 0)) a fs = .inr (i + 2, fs ++ [(lineX l).1]) := by
          unfold nextR
          rw [hL]
          simp only
          rw [hi2', if_neg hle, if_neg h100, if_neg (by simpa using he)]
        rw [hx] at hF
        simp only at hF
        have hls := lineX_sz he
        have hsn := fsz_snoc fs (lineX l).1
        have hfs : flds fs ++ [[.str (lineX l).1.name, .str (lineX l).1.value]] = flds (fs ++ [(lineX l).1]) := by simp [flds]
        have m1 : fs.length + 1 ≤ maxLen := by unfold maxLen; omega
        have m2 : (fs.length + 1) * 32 ≤ 140737488355328 := by omega
        simp [he, m1, m2, hfs]
        exact Kloop_normal ⟨_, i + 2, m, _, by omega, by omega, hF, by rw [hsn]; simp; omega, by simp [rcellsF, rcells]; rfl, fr_intro (by simp)⟩ (by simp; omega)
      · have hx : nextR s (decide (mi = 0)) a fs = .inl (.bad (a + (lineX l).2.1) (lineX l).2.2) := by
          unfold nextR
          rw [hL]
          simp only
          rw [hi2', if_neg hle, if_neg h100, if_pos he]
        rw [hx] at hF
        simp only at hF
        subst hF
        have he2 : ((lineX l).2.2 != 0) = true := by simpa using he
        have hrg := lineX_rng l
        have hw : IntKind.i64.wrap ((a : Int) + (lineX l).2.1) = a + (lineX l).2.1 := wrap_in (by omega) (by omega)
        simp [he2, hw, hS']
        exact aPost_same hB (v0 := .tup [.agg (Rep.avs ⟨mi, st, re, fs, [], [], 0, 0, false⟩), .int .i64 0, .agg [.int .i64 (a + (lineX l).2.1), .int .i64 (lineX l).2.2]]) (by simp [Rep.avs, flds]) (nilV_refl _) (by simp [Rep.avs, bnd_flds]) ⟨_, _, _, rfl, hrefl _, hfree _, hQ2 _ _ _ hO he⟩
end
end Go.Proofs.YtcdkcaocfioigaaGreatDoor

set_option linter.unusedVariables false
set_option linter.unnecessarySimpa false
set_option linter.unusedSimpArgs false
set_option linter.unusedSectionVars false
set_option maxRecDepth 100000
namespace Go.Proofs.YtcdkcaocfioigaaGreatDoor
open Go Go.RowKit Go.Proofs

theorem lineX_code (l : List UInt8) : (lineX l).2.2 ≠ 124 := by
  unfold lineX
  (repeat' split) <;> simp
theorem lengthA_code (l : List Fld) : (lengthA l).2.2 = 0 ∨ (lengthA l).2.2 = 66 := by
  unfold lengthA
  (repeat' split) <;> simp
theorem framingA_code (l : List Fld) (old : Bool) : (framingA l old).2.2 ≠ 124 := by
  have := lengthA_code l
  unfold framingA
  (repeat' split) <;> simp <;> omega
theorem fieldsR_code {t : List UInt8} {old : Bool} : ∀ (n a : Nat) (fs : List Fld) (i e : Int), fieldsR t old n a fs = .bad i e → e ≠ 124
  | 0, a, fs, i, e, h => by rw [fieldsR] at h; cases h
  | n + 1, a, fs, i, e, h => by
    rw [fieldsR_next] at h
    cases hx : nextR t old a fs with
    | inl x =>
      rw [hx] at h
      simp only at h
      subst h
      unfold nextR at hx
      cases he : lineR t a with
      | part => rw [he] at hx; cases hx
      | bad i => rw [he] at hx; injection hx with hx; injection hx with _ hx; rw [← hx]; decide
      | ok e' =>
        rw [he] at hx
        simp only at hx
        split at hx
        · split at hx
          · injection hx with hx
            injection hx with _ hx
            rw [← hx]; exact framingA_code _ _
          · cases hx
        · split at hx
          · injection hx with hx
            injection hx with _ hx
            rw [← hx]; decide
          · split at hx
            · injection hx with hx
              injection hx with _ hx
              rw [← hx]; exact lineX_code _
            · cases hx
    | inr p =>
      obtain ⟨e', gs'⟩ := p
      rw [hx] at h
      exact fieldsR_code n e' gs' i e h
theorem headO_code {t : List UInt8} {r : Rep} {n e : Int} (h : headO t = some (r, n, e)) : e ≠ 124 := by
  unfold headO at h
  cases hs : stR t with
  | part => rw [hs] at h; cases h
  | bad i => rw [hs] at h; cases h; decide
  | ok a =>
    rw [hs] at h
    simp only at h
    cases hf : fieldsR t (decide (dg t 7 = 0)) (t.length + 1) a [] with
    | part => rw [hf] at h; cases h
    | bad n e => rw [hf] at h; cases h; exact fieldsR_code _ _ _ _ _ hf
    | ok fs e => rw [hf] at h; cases h; decide
theorem decodeD_at (s : List UInt8) (m r f : Int) : -1 ≤ (decodeD s m r f).2.2.1 ∧ (decodeD s m r f).2.2.1 ≤ s.length := by
  have := feedD_le s (newD m r f)
  unfold decodeD
  (repeat' split) <;> simp only <;> omega
/-- The cells of no reply. -/
def rzero : List AV := [.int .i64 0, .str [], .nil, .str [], .int .i64 0, .nil, .int .i64 0, .int .i64 0, .bool false]
theorem rzero_nil : nilL rzero rep0.avs := ⟨.inl rfl, .inl rfl, .inr ⟨rfl, false, 2, rfl⟩, .inl rfl, .inl rfl, .inr ⟨rfl, false, 2, rfl⟩, .inl rfl, .inl rfl, .inl rfl, trivial⟩
theorem avs_free (r : Rep) : ∀ x ∈ r.avs, x.free = true := by simp [Rep.avs, AV.free]
section
variable (E : Env) (H : Hp) (Q : AV → Hp → Prop)
set_option maxHeartbeats 1000000 in
theorem parseHead_pc (hE : SE E) (s : List UInt8) (hl : s.length ≤ 1000000000) (hQ : Q (.tup [.agg (headM s).1.avs, .int .i64 (headM s).2.1, .int .i64 (headM s).2.2]) H) : PC Tryz.prog E 56 [.str s] H Q := by
  refine PC.nilT ?_
  refine pc_enterF (fun i => i = H.length + 2) Tryz.func56 rfl [] [(5, [0, 0, 2, 0, 2, 2])] (by kernel_rfl) (fun E' hS' h0' hF' hB => ?_)
  have hE' : SE E' := ⟨by rw [hF']; exact hE.1, by rw [h0']; exact hE.2⟩
  have fin : ∀ a : Rep × Int × Int, headM s = a → Q (.tup [.agg a.1.avs, .int .i64 a.2.1, .int .i64 a.2.2]) H := fun a ha => ha ▸ hQ
  have hM := headM_eq s
  by_cases hs : 65536 < s.length
  · have hs' : (65536 : Int) < s.length := by omega
    have hle : 65536 ≤ s.length := by omega
    rw [if_pos hs] at hM
    simp [Tryz.ntmps56, Tryz.results56, List.replicate_succ, hs', hle]
    refine rhead_pc E' _ _ hE' (s.take 65536) (by rw [List.length_take]; omega) (fun r n hO => ?_) (fun r n e hO he => ?_) (fun r hO => ?_)
    · rw [hO] at hM
      simp [Rep.avs]
      exact aPost_same hB (v0 := .tup [.agg r.avs, .int .i64 n, .int .i64 0]) (by simp [Rep.avs]) (nilV_refl _) (by simp [Rep.avs, bnd_flds]) ⟨_, _, _, rfl, nilL_refl _, avs_free _, fin _ hM⟩
    · rw [hO] at hM
      have he1 : (e == 124) = false := by simpa using headO_code hO
      have he2 : (e != 0) = true := by simpa using he
      simp [Rep.avs, he1, he2, hS']
      exact aPost_same hB (v0 := .tup [.agg rzero, .int .i64 n, .int .i64 e]) (by simp [rzero]) (nilV_refl _) (by simp [rzero]) ⟨_, _, _, rfl, rzero_nil, avs_free _, fin _ hM⟩
    · rw [hO] at hM
      simp [Rep.avs, hs', hS']
      exact aPost_same hB (v0 := .tup [.agg rzero, .int .i64 65536, .int .i64 125]) (by simp [rzero]) (nilV_refl _) (by simp [rzero]) ⟨_, _, _, rfl, rzero_nil, avs_free _, fin _ hM⟩
  · have hs' : ¬ (65536 : Int) < s.length := by omega
    rw [if_neg hs, List.take_of_length_le (by omega)] at hM
    have htk : List.take s.length s = s := List.take_of_length_le (Nat.le_refl _)
    simp [Tryz.ntmps56, Tryz.results56, List.replicate_succ, hs', htk]
    refine rhead_pc E' _ _ hE' s (by omega) (fun r n hO => ?_) (fun r n e hO he => ?_) (fun r hO => ?_)
    · rw [hO] at hM
      simp [Rep.avs]
      exact aPost_same hB (v0 := .tup [.agg r.avs, .int .i64 n, .int .i64 0]) (by simp [Rep.avs]) (nilV_refl _) (by simp [Rep.avs, bnd_flds]) ⟨_, _, _, rfl, nilL_refl _, avs_free _, fin _ hM⟩
    · rw [hO] at hM
      have he1 : (e == 124) = false := by simpa using headO_code hO
      have he2 : (e != 0) = true := by simpa using he
      simp [Rep.avs, he1, he2, hS']
      exact aPost_same hB (v0 := .tup [.agg rzero, .int .i64 n, .int .i64 e]) (by simp [rzero]) (nilV_refl _) (by simp [rzero]) ⟨_, _, _, rfl, rzero_nil, avs_free _, fin _ hM⟩
    · rw [hO] at hM
      simp [Rep.avs, hs', hS']
      exact aPost_same hB (v0 := .tup [.agg rzero, .int .i64 s.length, .int .i64 124]) (by simp [rzero]) (nilV_refl _) (by simp [rzero]) ⟨_, _, _, rfl, rzero_nil, avs_free _, fin _ hM⟩
set_option maxHeartbeats 2000000 in
theorem parse_pc (hE : SE E) (m s : List UInt8) (most : Int) (ended : Bool) (hl : s.length ≤ 1000000000) (hm : -9223372036854775808 ≤ most ∧ most ≤ 9223372036854775807)
    (hQ : Q (.tup [.agg (parseM m s most ended).1.avs, .int .i64 (parseM m s most ended).2.1, .int .i64 (parseM m s most ended).2.2]) H) : PC Tryz.prog E 23 [.str m, .str s, .int .i64 most, .bool ended] H Q := by
  refine PC.nilT ?_
  refine pc_enterF (fun i => i = H.length + 1) Tryz.func23 rfl [] [(27, [2, 0, 0, 0, 2, 0, 2])] (by kernel_rfl) (fun E' hS' h0' hF' hB => ?_)
  have hE' : SE E' := ⟨by rw [hF']; exact hE.1, by rw [h0']; exact hE.2⟩
  have fin : ∀ a : Rep × Int × Int, parseM m s most ended = a → Q (.tup [.agg a.1.avs, .int .i64 a.2.1, .int .i64 a.2.2]) H := fun a ha => ha ▸ hQ
  by_cases h0 : most < 0
  · simp [Tryz.ntmps23, Tryz.results23, List.replicate_succ, h0]
    exact aPost_same hB (v0 := .tup [.agg rzero, .int .i64 0, .int .i64 1]) (by simp [rzero]) (nilV_refl _) (by simp [rzero]) ⟨_, _, _, rfl, rzero_nil, avs_free _, fin _ (parseM_neg m s ended h0)⟩
  simp [Tryz.ntmps23, Tryz.results23, List.replicate_succ, h0]
  refine parseHead_pc E' _ _ hE' s hl ?_
  by_cases h1 : (headM s).2.2 = 0
  rotate_left
  · have h1' : ((headM s).2.2 != 0) = true := by simpa using h1
    simp [Rep.avs, h1']
    exact aPost_same hB (v0 := .tup [.agg rzero, .int .i64 (headM s).2.1, .int .i64 (headM s).2.2]) (by simp [rzero]) (nilV_refl _) (by simp [rzero]) ⟨_, _, _, rfl, rzero_nil, avs_free _, fin _ (parseM_bad ended h0 h1)⟩
  simp [Rep.avs, h1]
  refine bodyless_pc E' _ _ m _ ?_
  cases h2 : bodylessB m (headM s).1.status with
  | true =>
    have hP := parseM_none ended h0 h1 h2
    simp
    exact aPost_same hB (v0 := .tup [.agg (headM s).1.avs, .int .i64 (headM s).2.1, .int .i64 0]) (by simp [Rep.avs]) (nilV_refl _) (by simp [Rep.avs, bnd_flds]) ⟨_, _, _, rfl, nilL_refl _, avs_free _, by have := fin _ hP; rw [h1] at this; exact this⟩
  | false =>
    obtain ⟨n, hn, h17, hnl, hn2⟩ := headM_rng h1
    have hP := parseM_body ended h0 h1 h2 hn
    have hlen := headM_len s
    obtain ⟨r, hr⟩ : ∃ r, (headM s).1 = r := ⟨_, rfl⟩
    rw [hr] at hP hlen ⊢
    rw [hn]
    have hgt : n ≤ s.length := hnl
    have hrl : (s.drop n).length = s.length - n := List.length_drop
    have htl : List.take (s.length - n) (s.drop n) = s.drop n := List.take_of_length_le (by omega)
    simp [hgt, htl]
    obtain ⟨rest, hrest⟩ : ∃ rest, s.drop n = rest := ⟨_, rfl⟩
    rw [hrest] at hP hrl ⊢
    have hE2 : n + rest.length = s.length := by omega
    unfold bodyM at hP
    by_cases k2 : r.kind = 2
    · rw [if_pos k2] at hP
      simp [k2]
      refine decode_pc E' _ _ hE' rest most 65536 100 (by omega) (by omega) (by omega) (by omega) ?_
      have hat := decodeD_at rest most 65536 100
      obtain ⟨⟨db, dt, dk, de⟩, hd⟩ : ∃ d, decodeD rest most 65536 100 = d := ⟨_, rfl⟩
      rw [hd] at hP hat ⊢
      simp only at hP hat ⊢
      have hw : IntKind.i64.wrap ((n : Int) + dk) = n + dk := wrap_in (by omega) (by omega)
      by_cases d0 : de = 0
      · rw [if_pos d0] at hP
        simp [d0, hw]
        exact aPost_same hB (v0 := .tup [.agg (Rep.avs { r with body := db, trailers := dt }), .int .i64 (n + dk), .int .i64 0]) (by simp [Rep.avs, k2]) (nilV_refl _) (by simp [Rep.avs, bnd_flds]) ⟨_, _, _, rfl, nilL_refl _, avs_free _, fin _ hP⟩
      · rw [if_neg d0] at hP
        have d0' : (de == 0) = false := by simpa using d0
        by_cases d1 : de = 105
        · rw [if_pos d1] at hP
          simp [d1, hw]
          exact aPost_same hB (v0 := .tup [.agg rzero, .int .i64 (n + dk), .int .i64 124]) (by simp [rzero]) (nilV_refl _) (by simp [rzero]) ⟨_, _, _, rfl, rzero_nil, avs_free _, fin _ hP⟩
        · rw [if_neg d1] at hP
          have d1' : (de == 105) = false := by simpa using d1
          by_cases d2 : de = 102
          · rw [if_pos d2] at hP
            simp [d2, hw]
            exact aPost_same hB (v0 := .tup [.agg rzero, .int .i64 (n + dk), .int .i64 125]) (by simp [rzero]) (nilV_refl _) (by simp [rzero]) ⟨_, _, _, rfl, rzero_nil, avs_free _, fin _ hP⟩
          · rw [if_neg d2] at hP
            have d2' : (de == 102) = false := by simpa using d2
            simp [d0', d1', d2', hw]
            exact aPost_same hB (v0 := .tup [.agg rzero, .int .i64 (n + dk), .int .i64 de]) (by simp [rzero]) (nilV_refl _) (by simp [rzero]) ⟨_, _, _, rfl, rzero_nil, avs_free _, fin _ hP⟩
    · rw [if_neg k2] at hP
      have k2' : (r.kind == 2) = false := by simpa using k2
      by_cases k1 : r.kind = 1
      · rw [if_pos k1] at hP
        simp [k1]
        by_cases c1 : most < r.length
        · rw [if_pos c1] at hP
          simp [c1]
          exact aPost_same hB (v0 := .tup [.agg rzero, .int .i64 n, .int .i64 125]) (by simp [rzero]) (nilV_refl _) (by simp [rzero]) ⟨_, _, _, rfl, rzero_nil, avs_free _, fin _ hP⟩
        · rw [if_neg c1] at hP
          by_cases c2 : (rest.length : Int) < r.length
          · rw [if_pos c2] at hP
            simp [c1, c2]
            exact aPost_same hB (v0 := .tup [.agg rzero, .int .i64 s.length, .int .i64 124]) (by simp [rzero]) (nilV_refl _) (by simp [rzero]) ⟨_, _, _, rfl, rzero_nil, avs_free _, fin _ hP⟩
          · rw [if_neg c2] at hP
            have c3 : r.length.toNat ≤ rest.length := by omega
            have hw : IntKind.i64.wrap ((n : Int) + r.length) = n + r.length := wrap_in (by omega) (by omega)
            simp [c1, c2, c3, hlen, hw, hS']
            exact aPost_same hB (v0 := .tup [.agg (Rep.avs { r with body := rest.take r.length.toNat }), .int .i64 (n + r.length), .int .i64 0]) (by simp [Rep.avs, k1]) (nilV_refl _) (by simp [Rep.avs, bnd_flds]) ⟨_, _, _, rfl, nilL_refl _, avs_free _, fin _ hP⟩
      · rw [if_neg k1] at hP
        have k1' : (r.kind == 1) = false := by simpa using k1
        simp [k1', k2']
        by_cases c1 : most < rest.length
        · rw [if_pos c1] at hP
          have hw : IntKind.i64.wrap ((n : Int) + most) = n + most := wrap_in (by omega) (by omega)
          simp [c1, hw]
          exact aPost_same hB (v0 := .tup [.agg rzero, .int .i64 (n + most), .int .i64 125]) (by simp [rzero]) (nilV_refl _) (by simp [rzero]) ⟨_, _, _, rfl, rzero_nil, avs_free _, fin _ hP⟩
        · rw [if_neg c1] at hP
          cases he : ended with
          | false =>
            rw [if_pos he] at hP
            simp [c1]
            exact aPost_same hB (v0 := .tup [.agg rzero, .int .i64 s.length, .int .i64 124]) (by simp [rzero]) (nilV_refl _) (by simp [rzero]) ⟨_, _, _, rfl, rzero_nil, avs_free _, fin _ hP⟩
          | true =>
            rw [if_neg (by rw [he]; simp)] at hP
            simp [c1]
            exact aPost_same hB (v0 := .tup [.agg (Rep.avs { r with body := rest, persist := false }), .int .i64 s.length, .int .i64 0]) (by simp [Rep.avs]) (nilV_refl _) (by simp [Rep.avs, bnd_flds]) ⟨_, _, _, rfl, nilL_refl _, avs_free _, fin _ hP⟩
end
end Go.Proofs.YtcdkcaocfioigaaGreatDoor

set_option linter.unusedVariables false
set_option linter.unnecessarySimpa false
set_option linter.unusedSimpArgs false
set_option linter.unusedSectionVars false
set_option maxRecDepth 100000
namespace Go.Proofs.YtcdkcaocfioigaaGreatDoor
open Go Go.RowKit Go.Proofs

@[simp] theorem bnd_ints {N : Nat} (l : List Int) : (∀ r ∈ ints l, ∀ x ∈ r, Bnd N x) = True := eq_true fun r hr x hx => by
  obtain ⟨z, _, rfl⟩ := List.mem_map.1 hr
  simp at hx
  subst hx
  exact .int _ _
section
variable (E : Env) (H : Hp) (Q : AV → Hp → Prop)
theorem dprintP_pc (r : Resp) (h : Mann) (hok : okR r h) (hQ : Q (.tup [.str (printP r h).1, .int .i64 (printP r h).2]) H) : PC Tryz.prog E 19 [.agg r.avs, .agg h.avs] H Q := by
  have hhl := headP_le hok
  have hel := enc_le hok
  have hok' := hok
  obtain ⟨o1, o2, o3, o4, o5, o6, ⟨o7, o8⟩, o9⟩ := hok'
  have fin : ∀ a : List UInt8 × Int, printP r h = a → Q (.tup [.str a.1, .int .i64 a.2]) H := fun a ha => ha ▸ hQ
  have hR : r.avs = [.int .i64 r.status, .str r.reason, .sl false 2 (flds r.fields), .str r.body] := rfl
  have hM : h.avs = [.str h.method, .bool h.close, .bool h.old, .bool h.chunked, .sl false 1 (ints h.sizes), .sl false 2 (flds h.trailers)] := rfl
  rw [hR, hM]
  refine pc_enter Tryz.func19 rfl [] [] (by kernel_rfl) (fun hB => ?_)
  simp [Tryz.ntmps19, Tryz.results19, List.replicate_succ]
  rw [← hR, ← hM]
  refine dhead_pc E _ _ r h hok ?_
  have hP : printP r h = if (headP r h).2 ≠ 0 then ([], (headP r h).2) else if 65536 < (headP r h).1.length then ([], 125)
      else if h.chunked = true ∧ (encAns r.body h.sizes h.trailers).2 ≠ 0 then ([], (encAns r.body h.sizes h.trailers).2)
      else if bodylessB h.method r.status = true then ((headP r h).1, 0)
      else ((headP r h).1 ++ (if h.chunked = true then (encAns r.body h.sizes h.trailers).1 else r.body), 0) := by unfold printP; exact Eq.refl _
  generalize headP r h = hd at *
  obtain ⟨hd, he⟩ := hd
  simp only at hP hhl ⊢
  by_cases h0 : he = 0
  rotate_left
  · rw [if_pos h0] at hP
    have h0' : (he != 0) = true := by simpa using h0
    simp [h0']
    exact aPost_same hB (v0 := .tup [.str [], .int .i64 he]) (by simp) (nilV_refl _) (by simp) (fin _ hP)
  rw [if_neg (by simp [h0])] at hP
  by_cases h1 : 65536 < hd.length
  · rw [if_pos h1] at hP
    have h1' : (65536 : Int) < hd.length := by omega
    simp [h0, h1']
    exact aPost_same hB (v0 := .tup [.str [], .int .i64 125]) (by simp) (nilV_refl _) (by simp) (fin _ hP)
  rw [if_neg h1] at hP
  have h1' : ¬ (65536 : Int) < hd.length := by omega
  cases hc : h.chunked with
  | true =>
    simp [h0, h1', hR, hM, hc]
    refine dencode_pc E _ _ r.body h.sizes h.trailers o5 o3 o2 o9 ?_
    generalize encAns r.body h.sizes h.trailers = en at *
    obtain ⟨en, ee⟩ := en
    simp only at hP hel ⊢
    by_cases h2 : ee = 0
    rotate_left
    · rw [if_pos ⟨hc, h2⟩] at hP
      have h2' : (ee != 0) = true := by simpa using h2
      simp [h2']
      exact aPost_same hB (v0 := .tup [.str [], .int .i64 ee]) (by simp) (nilV_refl _) (by simp) (fin _ hP)
    rw [if_neg (fun e => e.2 h2), if_pos hc] at hP
    simp [h2]
    refine dbodyless_pc E _ _ h.method r.status ?_
    cases hb : bodylessB h.method r.status with
    | true =>
      rw [if_pos hb] at hP
      have m1 : hd.length ≤ maxLen := by unfold maxLen; omega
      simp [m1]
      exact aPost_same hB (v0 := .tup [.str hd, .int .i64 0]) (by simp) (nilV_refl _) (by simp) (fin _ hP)
    | false =>
      rw [if_neg (by rw [hb]; simp)] at hP
      have m1 : hd.length + en.length ≤ maxLen := by unfold maxLen; omega
      simp [m1]
      exact aPost_same hB (v0 := .tup [.str (hd ++ en), .int .i64 0]) (by simp) (nilV_refl _) (by simp) (fin _ hP)
  | false =>
    rw [if_neg (fun e => by rw [hc] at e; cases e.1), if_neg (show ¬ h.chunked = true by rw [hc]; simp)] at hP
    simp [h0, h1', hR, hM, hc]
    refine dbodyless_pc E _ _ h.method r.status ?_
    cases hb : bodylessB h.method r.status with
    | true =>
      rw [if_pos hb] at hP
      have m1 : hd.length ≤ maxLen := by unfold maxLen; omega
      simp [m1]
      exact aPost_same hB (v0 := .tup [.str hd, .int .i64 0]) (by simp) (nilV_refl _) (by simp) (fin _ hP)
    | false =>
      rw [if_neg (by rw [hb]; simp)] at hP
      have m1 : hd.length + r.body.length ≤ maxLen := by unfold maxLen; omega
      simp [m1]
      exact aPost_same hB (v0 := .tup [.str (hd ++ r.body), .int .i64 0]) (by simp) (nilV_refl _) (by simp) (fin _ hP)
def plain12Inv (T : List Fld) (H : Hp) (fr : List AV) (H' : Hp) : Prop := ∃ (J : Hp) (i : Nat), H' = H ++ J ∧ i ≤ T.length ∧ ∃ x : Nat → AV, fr = [x 0, x 1, x 2, .sl true 2 (flds (T.take i)), x 4, x 5, .sl false 2 (flds T), .int .i64 T.length, .int .i64 i, x 9, x 10, x 11, x 12, x 13, x 14, x 15, x 16, x 17, x 18, x 19, x 20, x 21]
theorem plain12_pc (T : List Fld) (hl : T.length ≤ 1073741824) (hQ : Q (.sl false 2 (flds T)) H) : PC Tryz.prog E 21 [.sl false 2 (flds T)] H Q := by
  refine pc_enter Tryz.func21 rfl [12] [] (by kernel_rfl) (fun hB => ?_)
  simp [Tryz.ntmps21, Tryz.results21, List.replicate_succ]
  refine VL_nil 3 2 (by rfl) ?_
  simp only [List.set_cons_succ, List.set_cons_zero]
  refine VL_go (plain12Inv T H) (fun fr _ => T.length - (ai (aget fr 8)).toNat) ⟨[], 0, by simp, by omega, fr_intro (by simp [flds])⟩ ?_
  rintro fr H' ⟨J, i, rfl, hi, x, rfl⟩
  by_cases h : i < T.length
  · obtain ⟨u, hu⟩ : ∃ u, T[i]? = some u := ⟨_, List.getElem?_eq_getElem h⟩
    have hat1 := flds_at hu
    have hw : IntKind.i64.wrap ((i : Int) + 1) = i + 1 := wrap_in (by omega) (by omega)
    have htk : T.take (i + 1) = T.take i ++ [u] := by rw [List.take_add_one, hu]; rfl
    obtain ⟨n1, v1⟩ := u
    have m1 : min i T.length + 1 ≤ maxLen := by unfold maxLen; omega
    have m2 : (min i T.length + 1) * 32 ≤ 140737488355328 := by omega
    have hsn := flds_snoc (T.take i) ⟨n1, v1⟩
    rw [← htk] at hsn
    simp only at hat1 hsn
    simp [h, hat1, m1, m2, hsn, hw]
    exact Kloop_normal ⟨_, i + 1, rfl, by omega, fr_intro (by simp)⟩ (by simp; omega)
  · obtain rfl : i = T.length := by omega
    simp
    exact aPost_same hB (v0 := .sl false 2 (flds T)) (by simp) (nilV_refl _) (by simp) hQ
def same12Inv (a : List Fld) (H : Hp) (fr : List AV) (H' : Hp) : Prop := H' = H ∧ ∃ i : Nat, i ≤ a.length ∧ ∃ x : Nat → AV, fr = [.sl false 2 (flds a), .sl false 2 (flds a), x 2, x 3, x 4, x 5, x 6, x 7, x 8, x 9, x 10, x 11, .int .i64 a.length, .int .i64 i, x 14, x 15, x 16, x 17, x 18, x 19, x 20, x 21, x 22, x 23, x 24, x 25, x 26, x 27, x 28, x 29, x 30, x 31, x 32, x 33, x 34, x 35, x 36, x 37, x 38, x 39, x 40]
theorem same12_pc (a : List Fld) (ha : a.length ≤ 1073741824) (hQ : Q (.bool true) H) : PC Tryz.prog E 20 [.sl false 2 (flds a), .sl false 2 (flds a)] H Q := by
  refine pc_enter Tryz.func20 rfl [] [] (by kernel_rfl) (fun hB => ?_)
  simp [Tryz.ntmps20, Tryz.results20, List.replicate_succ]
  refine VL_go (same12Inv a H) (fun fr _ => a.length - (ai (aget fr 13)).toNat) ⟨rfl, 0, by omega, fr_intro (by simp)⟩ ?_
  rintro fr H' ⟨rfl, i, hi, x, rfl⟩
  by_cases h : i < a.length
  · obtain ⟨u, hu⟩ : ∃ u, a[i]? = some u := ⟨_, List.getElem?_eq_getElem h⟩
    have hat1 := flds_at hu
    have hw : IntKind.i64.wrap ((i : Int) + 1) = i + 1 := wrap_in (by omega) (by omega)
    obtain ⟨n1, v1⟩ := u
    simp only at hat1
    simp [h, hat1, hw]
    exact Kloop_normal ⟨rfl, i + 1, by omega, fr_intro (by simp)⟩ (by simp; omega)
  · simp [h]
    exact aPost_same0 hB rfl (nilV_refl _) (by simp) hQ
theorem fields12_pc (l : List Fld) (hl : l.length ≤ 1073741824) (hQ : Q (.sl true 2 (flds l)) H) : PC Tryz.prog E 43 [.sl false 2 (flds l)] H Q := by
  have m1 : l.length ≤ maxLen := by unfold maxLen; omega
  have m2 : l.length * 32 ≤ 140737488355328 := by omega
  refine pc_enter Tryz.func43 rfl [3] [] (by kernel_rfl) (fun hB => ?_)
  simp [Tryz.ntmps43, Tryz.results43, List.replicate_succ, m1, m2]
  exact aPost_same0 hB (v0 := .sl true 2 (flds l)) (by simp) (nilV_refl _) (bnd_flds _ _ _) hQ
theorem response_pc (r : Resp) (hl : r.fields.length ≤ 1073741824) (hQ : Q (.agg r.avs) H) : PC Tryz.prog E 16 [.agg r.avs] H Q := by
  have hR : r.avs = [.int .i64 r.status, .str r.reason, .sl false 2 (flds r.fields), .str r.body] := rfl
  rw [hR] at hQ ⊢
  refine pc_enter Tryz.func16 rfl [] [(1, [0, 0, 0, 0, 0, 0, 1])] (by kernel_rfl) (fun hB => ?_)
  simp [Tryz.ntmps16, Tryz.results16, List.replicate_succ]
  refine plain12_pc E _ _ r.fields hl ?_
  simp
  exact aPost_same hB (v0 := .agg r.avs) (by simp [hR]) (nilV_refl _) (by simp [hR, bnd_flds]) hQ
theorem manner_pc (h : Mann) (hl : h.trailers.length ≤ 1073741824) (hz : h.sizes.length ≤ 1073741824) (hQ : Q (.agg h.avs) H) : PC Tryz.prog E 17 [.agg h.avs] H Q := by
  have hM : h.avs = [.str h.method, .bool h.close, .bool h.old, .bool h.chunked, .sl false 1 (ints h.sizes), .sl false 2 (flds h.trailers)] := rfl
  have m1 : h.sizes.length ≤ maxLen := by unfold maxLen; omega
  have m2 : h.sizes.length * 8 ≤ 140737488355328 := by omega
  rw [hM] at hQ ⊢
  refine pc_enter Tryz.func17 rfl [11] [(1, [0, 0, 0, 0, 0, 0, 0, 0, 0, 0, 0, 0, 0, 0, 1])] (by kernel_rfl) (fun hB => ?_)
  simp [Tryz.ntmps17, Tryz.results17, List.replicate_succ, m1, m2]
  refine plain12_pc E _ _ h.trailers hl ?_
  simp
  exact aPost_same hB (v0 := .agg h.avs) (by simp [hM]) (nilV_refl _) (by simp [hM, bnd_flds]) hQ
theorem copied_pc (r : Resp) (h : Mann) (hl : r.fields.length ≤ 1073741824) (hl2 : h.trailers.length ≤ 1073741824) (hz : h.sizes.length ≤ 1073741824) (hQ : Q (.tup [.agg r.avs, .agg h.avs]) H) : PC Tryz.prog E 13 [.agg r.avs, .agg h.avs] H Q := by
  have hR : r.avs = [.int .i64 r.status, .str r.reason, .sl false 2 (flds r.fields), .str r.body] := rfl
  have hM : h.avs = [.str h.method, .bool h.close, .bool h.old, .bool h.chunked, .sl false 1 (ints h.sizes), .sl false 2 (flds h.trailers)] := rfl
  have m1 : h.sizes.length ≤ maxLen := by unfold maxLen; omega
  have m2 : h.sizes.length * 8 ≤ 140737488355328 := by omega
  rw [hR, hM] at hQ ⊢
  refine pc_enterF (fun i => i = H.length ∨ i = H.length + 1) Tryz.func13 rfl [10] [(3, [2, 2, 2, 2])] (by kernel_rfl) (fun E' hS' h0' hF' hB => ?_)
  simp [Tryz.ntmps13, Tryz.results13, List.replicate_succ]
  refine fields12_pc E' _ _ r.fields hl ?_
  simp [m1, m2]
  refine fields12_pc E' _ _ h.trailers hl2 ?_
  simp [hS']
  exact aPost_same hB (v0 := .tup [.agg r.avs, .agg h.avs]) (by simp [hR, hM]) (nilV_refl _) (by simp [hR, hM, bnd_flds]) hQ
end
end Go.Proofs.YtcdkcaocfioigaaGreatDoor

set_option linter.unusedVariables false
set_option linter.unnecessarySimpa false
set_option linter.unusedSimpArgs false
set_option linter.unusedSectionVars false
set_option maxRecDepth 100000
namespace Go.Proofs.YtcdkcaocfioigaaGreatDoor
open Go Go.RowKit Go.Proofs

/-- Nils in a struct are seen as empty lists. -/
theorem aggNil_rel {w : World} {β : Nat → Nat} {Rd : Nat → Nat → Prop} {N : Nat} {l l' : List AV} {u : Value} (hB : Bnd N (.agg l)) (h : Rel w β Rd (.agg l) u) (hn : nilL l l') (hf' : ∀ x ∈ l', x.free = true) :
    Rel w β Rd (.agg l') u ∧ Bnd N (.agg l') := by
  have h1 : Rel w β Rd (.tup [.agg l]) (.tuple #[u]) := .tup _ _ rfl (fun x hx => by simp at hx; subst hx; rfl) (fun j x v hx hv => by
    match j with
    | 0 => simp at hx hv; subst hx; subst hv; exact h
    | j + 1 => simp at hx)
  obtain ⟨k1, k2⟩ := nilT_rel (.tup _ fun x hx => by simp at hx; subst hx; exact hB) h1 hn hf'
  constructor
  · cases k1 with
    | tup _ _ _ _ hr => exact hr 0 _ u rfl rfl
  · cases k2 with
    | tup _ h => exact h _ (by simp)
theorem PC.agg2 {P : Program} {E : Env} {f : FuncId} {a l l' : List AV} {H : Hp} {Q : AV → Hp → Prop} (hn : nilL l l') (hf : ∀ x ∈ l', x.free = true) (h : PC P E f [.agg a, .agg l'] H Q) : PC P E f [.agg a, .agg l] H Q :=
  ⟨h.1, fun w β Rd Ow cargs h1 h2 h3 h4 => h.2 w β Rd Ow cargs h1 h2 h3 fun t x u hx hu => by
    match t with
    | 0 => exact h4 0 x u hx hu
    | 1 =>
      simp at hx
      subst hx
      obtain ⟨r1, r2, _⟩ := h4 1 (.agg l) u rfl hu
      obtain ⟨k1, k2⟩ := aggNil_rel r2 r1 hn hf
      exact ⟨k1, k2, rfl⟩
    | t + 2 => simp at hx⟩
def awR12 : Resp := ⟨200, [], [⟨[65], [49]⟩], [104, 105]⟩
def awM12 : Mann := ⟨[71, 69, 84], false, false, false, [], []⟩
def awT12 : List UInt8 := [72, 84, 84, 80, 47, 49, 46, 49, 32, 50, 48, 48, 32, 79, 75, 13, 10, 65, 58, 32, 49, 13, 10, 67, 111, 110, 116, 101, 110, 116, 45, 76, 101, 110, 103, 116, 104, 58, 32, 50, 13, 10, 13, 10, 104, 105]
theorem aw_print : printP awR12 awM12 = (awT12, 0) := by decide +kernel
theorem aw_parse : (parseM [71, 69, 84] (awT12 ++ [120]) 2 false).1.body = [104, 105] ∧ (parseM [71, 69, 84] (awT12 ++ [120]) 2 false).2.1 = 46 ∧ (parseM [71, 69, 84] (awT12 ++ [120]) 2 false).2.2 = 0 := by decide +kernel
theorem aw_ok : okR awR12 awM12 := by
  refine ⟨by decide, by decide, by decide, by decide, by decide, by decide, by decide, ?_⟩
  intro z hz
  cases hz
section
variable (E : Env) (H : Hp) (Q : AV → Hp → Prop)
theorem awake12_pc (hE : SM E) (hQ : Q (.bool true) H) : PC Tryz.prog E 12 [] H Q := by
  obtain ⟨p1, p2, p3⟩ := aw_parse
  refine pc_enter Tryz.func12 rfl [] [] (by kernel_rfl) (fun hB => ?_)
  simp [Tryz.ntmps12, Tryz.results12, List.replicate_succ]
  refine PC.agg2 (a := awR12.avs) (l := [.str [71, 69, 84], .bool false, .bool false, .bool false, .nil, .nil]) (l' := awM12.avs) ⟨.inl rfl, .inl rfl, .inl rfl, .inl rfl, .inr ⟨rfl, false, 1, rfl⟩, .inr ⟨rfl, false, 2, rfl⟩, trivial⟩ (by simp [Mann.avs, AV.free]) ?_
  refine mprint_pc E _ _ hE awR12 awM12 aw_ok ?_
  rw [aw_print]
  have m1 : awT12.length + 1 ≤ maxLen := by decide
  have e1 : (awT12 != [72, 84, 84, 80, 47, 49, 46, 49, 32, 50, 48, 48, 32, 79, 75, 13, 10, 65, 58, 32, 49, 13, 10, 67, 111, 110, 116, 101, 110, 116, 45, 76, 101, 110, 103, 116, 104, 58, 32, 50, 13, 10, 13, 10, 104, 105]) = false := by decide
  simp [e1, m1]
  refine parse_pc E _ _ hE.1.1 [71, 69, 84] (awT12 ++ [120]) 2 false (by decide) (by decide) ?_
  rw [p2, p3]
  have e2 : awT12.length = 46 := rfl
  simp [Rep.avs, p1, e2]
  exact aPost_same hB rfl (nilV_refl _) (by simp) hQ
theorem mreasons_pc (hE : SM E) (m : List UInt8) (s : Int) (h0 : -9223372036854775808 ≤ s) (h1 : s ≤ 9223372036854775807) (hQ : Q (.bool true) H) : PC Tryz.prog E 7 [.str m, .int .i64 s] H Q := by
  refine pc_enter Tryz.func7 rfl [] [] (by kernel_rfl) (fun hB => ?_)
  simp [Tryz.ntmps7, Tryz.results7, List.replicate_succ]
  refine awake12_pc E _ _ hE ?_
  simp
  refine reason_pc E _ _ s ?_
  simp
  refine dreason_pc E _ _ s h0 h1 ?_
  simp
  refine bodyless_pc E _ _ m s ?_
  simp
  refine dbodyless_pc E _ _ m s ?_
  simp
  refine interim_pc E _ _ s ?_
  simp
  refine dinterim_pc E _ _ s ?_
  simp
  exact aPost_same0 hB rfl (nilV_refl _) (by simp) hQ
end
end Go.Proofs.YtcdkcaocfioigaaGreatDoor

set_option linter.unusedVariables false
set_option linter.unnecessarySimpa false
set_option linter.unusedSimpArgs false
set_option linter.unusedSectionVars false
set_option maxRecDepth 100000
namespace Go.Proofs.YtcdkcaocfioigaaGreatDoor
open Go Go.RowKit Go.Proofs Go.Deep

section
variable (E : Env) (H : Hp) (Q : AV → Hp → Prop)
def mprInv (r : Resp) (h : Mann) (H : Hp) (fr : List AV) (H' : Hp) : Prop := H' = H ++ [r.avs, h.avs, r.avs, h.avs] ∧ ∃ i : Nat, i ≤ h.sizes.length ∧
  ∃ x : Nat → AV, fr = [x 0, x 1, .ptr (some (H.length, 0)), .ptr (some (H.length + 1, 0)), x 4, .ptr (some (H.length + 2, 0)), .ptr (some (H.length + 3, 0)), x 7, x 8, x 9, x 10, x 11, x 12, x 13, x 14, x 15, x 16, x 17, x 18, x 19, x 20, x 21, x 22, x 23, x 24, x 25, x 26, x 27, x 28, x 29, x 30, x 31, x 32, x 33, x 34, x 35, x 36, x 37, x 38, x 39, x 40, x 41, x 42, x 43, x 44, x 45, x 46, x 47, x 48, x 49, x 50, x 51, x 52, x 53, x 54, x 55, x 56, x 57, x 58, x 59, x 60, x 61, x 62, x 63, x 64, x 65, x 66, x 67, x 68, x 69, x 70, x 71, x 72, x 73, x 74, x 75, x 76, x 77, x 78, x 79, x 80, x 81, x 82, x 83, .sl false 1 (ints h.sizes), .int .i64 h.sizes.length, .int .i64 i, x 87, x 88, x 89, x 90, x 91, x 92, x 93, x 94, x 95, x 96, x 97, x 98]
set_option maxHeartbeats 2000000 in
theorem mprints_pc (hE : SM E) (r : Resp) (h : Mann) (hok : okR r h) (hQ : Q (.bool true) H) : PC Tryz.prog E 3 [.agg r.avs, .agg h.avs] H Q := by
  obtain ⟨o1, o2, o3, o4, o5, o6, ⟨o7, o8⟩, o9⟩ := id hok
  refine pc_enter Tryz.func3 rfl [] [(5, [0, 1]), (9, [0, 1]), (10, [0, 0, 0, 0, 0, 0, 0, 0, 0, 0, 0, 0, 0, 1, 0, 0, 0, 0, 0, 0, 0, 0, 1])] (by kernel_rfl) (fun hB => ?_)
  simp [Tryz.ntmps3, Tryz.results3, List.replicate_succ, Resp.avs, Mann.avs]
  refine awake12_pc E _ _ hE ?_
  simp
  refine copied_pc E _ _ r h (by omega) (by omega) (by omega) ?_
  simp [Resp.avs, Mann.avs]
  refine head_pc E _ _ hE r h hok ?_
  simp
  refine response_pc E _ _ r (by omega) ?_
  simp [Resp.avs, Mann.avs]
  refine manner_pc E _ _ h (by omega) (by omega) ?_
  simp [Resp.avs, Mann.avs]
  refine dhead_pc E _ _ r h hok ?_
  simp
  refine mprint_pc E _ _ hE r h hok ?_
  simp
  refine response_pc E _ _ r (by omega) ?_
  simp [Resp.avs, Mann.avs]
  refine manner_pc E _ _ h (by omega) (by omega) ?_
  simp [Resp.avs, Mann.avs]
  refine dprintP_pc E _ _ r h hok ?_
  simp
  refine plain12_pc E _ _ r.fields (by omega) ?_
  simp
  refine same12_pc E _ _ r.fields (by omega) ?_
  simp
  refine plain12_pc E _ _ h.trailers (by omega) ?_
  simp
  refine same12_pc E _ _ h.trailers (by omega) ?_
  simp
  refine VL_go (mprInv r h H) (fun fr _ => h.sizes.length - (ai (aget fr 86)).toNat) ⟨by simp [Resp.avs, Mann.avs], 0, by omega, fr_intro (by simp)⟩ ?_
  rintro fr H' ⟨rfl, i, hi, x, rfl⟩
  by_cases hil : i < h.sizes.length
  · obtain ⟨z, hz⟩ : ∃ z, h.sizes[i]? = some z := ⟨_, List.getElem?_eq_getElem hil⟩
    have hat := ints_at hz
    have hw : IntKind.i64.wrap ((i : Int) + 1) = i + 1 := wrap_in (by omega) (by omega)
    simp [hil, hat, Resp.avs, Mann.avs, hw]
    exact Kloop_normal ⟨by simp [Resp.avs, Mann.avs], i + 1, by omega, fr_intro (by simp)⟩ (by simp; omega)
  · simp [hil]
    exact aPost_same hB rfl (nilV_refl _) (by simp) hQ
end
end Go.Proofs.YtcdkcaocfioigaaGreatDoor

set_option linter.unusedVariables false
set_option linter.unnecessarySimpa false
set_option linter.unusedSimpArgs false
set_option linter.unusedSectionVars false
set_option maxRecDepth 100000
namespace Go.Proofs.YtcdkcaocfioigaaGreatDoor
open Go Go.RowKit Go.Proofs Go.Deep

/-- The three tables. -/
def Tabs (W : World) : Prop := Signs W ∧ Tz W ∧ Lib.TabIs Tryz.prog W "internal/strconv.uint64pow10" .u64 Lib.pow10Tab
theorem tab_lt {W : World} (hT : Lib.TabIs Tryz.prog W "internal/strconv.uint64pow10" .u64 Lib.pow10Tab) : 0 < W.heap.size := by
  have := hT
  unfold Lib.TabIs World.var? at this
  rw [pow10Named] at this
  simp only [Option.bind_some] at this
  by_cases h : 0 < W.heap.size
  · exact h
  · rw [Array.getElem?_eq_none (by omega)] at this; cases this
theorem calls_sm {f : FuncId} {args : List AV} {cargs : Array Value} {W : World} (hT : Tabs W) (hsz : cargs.size = args.length)
    (hargs : ∀ (t : Nat) x u, args[t]? = some x → cargs[t]? = some u → Rel W (fun _ => 0) (old W) x u ∧ Bnd 0 x ∧ x.free = true)
    (h : ∀ (E : Env) (Q : AV → Hp → Prop), SM E → Q (.bool true) [] → PC Tryz.prog E f args [] Q) : Calls Tryz.prog f cargs W fun e w' => e = .returned (.bool true) ∧ Frm (fun _ => False) W w' :=
  calls_of_pcF (fun b => b = 1 ∨ b = 3 ∨ b = 0)
    (fun b hb => hb.elim (law_fix W hT.1 b) (fun h => h.elim (fun h => h ▸ World.block_lt_of_cell? _ _ hT.2.1) (fun h => h ▸ tab_lt hT.2.2))) (old W) (fun _ _ h => h) hsz hargs
    (fun E Q h0 hf hq => h E Q ⟨⟨⟨by rw [hf]; exact .inl rfl, by rw [h0]; exact hT.1⟩, by rw [hf]; exact .inr (.inl rfl), by rw [h0]; exact hT.2.1⟩, ⟨by rw [hf]; exact .inl rfl, by rw [h0]; exact hT.1⟩, by rw [hf]; exact .inr (.inr rfl), by rw [h0]; exact hT.2.2⟩ hq)
/-- A response that is handed in. -/
structure ROk (W : World) (cs : Array Value) (r : Resp) (b : Nat) : Prop where
  rel : Rel W (fun _ => 0) (old W) (.agg r.avs) (.agg cs)
  bnd : Bnd 0 (.agg r.avs)
  st : -9223372036854775808 ≤ r.status ∧ r.status ≤ 9223372036854775807
  bulk : r.reason.length + r.body.length + (fsz r.fields + r.fields.length) ≤ b
structure MOk (W : World) (cs : Array Value) (h : Mann) (b : Nat) : Prop where
  rel : Rel W (fun _ => 0) (old W) (.agg h.avs) (.agg cs)
  bnd : Bnd 0 (.agg h.avs)
  rng : ∀ z ∈ h.sizes, -9223372036854775808 ≤ z ∧ z ≤ 9223372036854775807
  bulk : h.method.length + h.sizes.length + (fsz h.trailers + h.trailers.length) ≤ b
theorem open_resp {H : Type} {enc : TypeId × Value → H} {W : World} {spare : Nat → Bool} {held : Bool} {fuel : Nat} {cs : List Value} {x : DataW H × List MemPlace} (h : DataW.trod enc Tryz.prog W 0 spare held fuel 24 cs = some x) :
    ∃ r : Resp, ROk W ⟨cs⟩ r (Rows.uptoBulk x.1) := by
  obtain ⟨xs, n', _, rfl, hcl, hxl, hf⟩ := DataW.trod_struct Tryz.underlying24 h
  have e0 : Tryz.prog.cellsOf 24 = 4 := by kernel_rfl
  have e1 : Tryz.prog.cellsOf 9 = 1 := by kernel_rfl
  have e2 : Tryz.prog.cellsOf 3 = 1 := by kernel_rfl
  have e3 : Tryz.prog.cellsOf 22 = 1 := by kernel_rfl
  rw [e0] at hcl
  obtain ⟨c0, c1, c2, c3, rfl⟩ : ∃ c0 c1 c2 c3, cs = [c0, c1, c2, c3] := by
    match cs, hcl with
    | [a, b, c, d], _ => exact ⟨a, b, c, d, rfl⟩
  obtain ⟨y0, y1, y2, y3, rfl⟩ : ∃ y0 y1 y2 y3, xs = [y0, y1, y2, y3] := by
    match xs, hxl with
    | [a, b, c, d], _ => exact ⟨a, b, c, d, rfl⟩
  have h0 := hf 0 _ rfl
  have h1 := hf 1 _ rfl
  have h2 := hf 2 _ rfl
  have h3 := hf 3 _ rfl
  simp [e2] at h0
  simp [e1] at h1
  simp [e3] at h2
  simp [e1] at h3
  obtain ⟨st, hs0, hy0, hm0⟩ := DataW.trod_int Tryz.underlying3 h0
  obtain ⟨re, hs1, hy1, hm1⟩ := DataW.trod_string Tryz.underlying9 h1
  obtain ⟨bo2, l2, k2, rows2, q1, q2, _, _, q3, q4, q5, q6⟩ := open_plain (ks := [.str, .str]) 6 Tryz.underlying22 (by kernel_rfl) (by kernel_rfl) (by decide) h2
  obtain ⟨bo, hs3, hy3, hm3⟩ := DataW.trod_string Tryz.underlying9 h3
  obtain ⟨fs, rfl, ht⟩ := flds_of_rows rows2 q5
  simp at hs0 hs1 hs3 q1
  subst hs0; subst hs1; subst hs3; subst q1
  have hw : -9223372036854775808 ≤ st ∧ st ≤ 9223372036854775807 := by simpa [Lit.wf, IntKind.min, IntKind.max, IntKind.signed, IntKind.bits] using hm0
  have hb1 : re.size + 1 ≤ Rows.uptoBulk y1.1 := by rw [hy1]; simp [Rows.uptoBulk, size_toList]
  have hb3 : bo.size + 1 ≤ Rows.uptoBulk y3.1 := by rw [hy3]; simp [Rows.uptoBulk, size_toList]
  simp at q2 q6
  refine ⟨⟨st, re.data.toList, fs, bo.data.toList⟩, .agg _ _ rfl (fun x hx => ?_) (fun j x u hx hu => ?_), .agg _ (fun x hx => ?_), hw, ?_⟩
  · simp [Resp.avs] at hx; rcases hx with rfl | rfl | rfl | rfl <;> exact ⟨rfl, rfl⟩
  · match j with
    | 0 => simp [Resp.avs] at hx hu; subst hx; subst hu; exact .int _ _
    | 1 => simp [Resp.avs] at hx hu; subst hx; subst hu; exact .str _ _ rfl hm1
    | 2 => simp [Resp.avs] at hx hu; subst hx; subst hu; exact q3
    | 3 => simp [Resp.avs] at hx hu; subst hx; subst hu; exact .str _ _ rfl hm3
    | j + 4 => simp [Resp.avs] at hx
  · simp [Resp.avs] at hx
    rcases hx with rfl | rfl | rfl | rfl
    · exact .int _ _
    · exact .str _
    · exact bnd_flds _ _ fs
    · exact .str _
  · simp only [List.map_cons, List.map_nil, Rows.uptoBulk, Rows.uptoBulkAll, size_toList]
    omega
theorem open_mann {H : Type} {enc : TypeId × Value → H} {W : World} {spare : Nat → Bool} {held : Bool} {fuel : Nat} {cs : List Value} {x : DataW H × List MemPlace} (h : DataW.trod enc Tryz.prog W 0 spare held fuel 27 cs = some x) :
    ∃ m : Mann, MOk W ⟨cs⟩ m (Rows.uptoBulk x.1) := by
  obtain ⟨xs, n', _, rfl, hcl, hxl, hf⟩ := DataW.trod_struct Tryz.underlying27 h
  have e0 : Tryz.prog.cellsOf 27 = 6 := by kernel_rfl
  have e1 : Tryz.prog.cellsOf 9 = 1 := by kernel_rfl
  have e2 : Tryz.prog.cellsOf 4 = 1 := by kernel_rfl
  have e3 : Tryz.prog.cellsOf 22 = 1 := by kernel_rfl
  have e4 : Tryz.prog.cellsOf 25 = 1 := by kernel_rfl
  rw [e0] at hcl
  obtain ⟨c0, c1, c2, c3, c4, c5, rfl⟩ : ∃ c0 c1 c2 c3 c4 c5, cs = [c0, c1, c2, c3, c4, c5] := by
    match cs, hcl with
    | [a, b, c, d, e, f], _ => exact ⟨a, b, c, d, e, f, rfl⟩
  obtain ⟨y0, y1, y2, y3, y4, y5, rfl⟩ : ∃ y0 y1 y2 y3 y4 y5, xs = [y0, y1, y2, y3, y4, y5] := by
    match xs, hxl with
    | [a, b, c, d, e, f], _ => exact ⟨a, b, c, d, e, f, rfl⟩
  have h0 := hf 0 _ rfl
  have h1 := hf 1 _ rfl
  have h2 := hf 2 _ rfl
  have h3 := hf 3 _ rfl
  have h4 := hf 4 _ rfl
  have h5 := hf 5 _ rfl
  simp [e1] at h0
  simp [e2] at h1 h2 h3
  simp [e4] at h4
  simp [e3] at h5
  obtain ⟨me, hs0, hy0, hm0⟩ := DataW.trod_string Tryz.underlying9 h0
  obtain ⟨b1, hs1, hy1⟩ := DataW.trod_bool Tryz.underlying4 h1
  obtain ⟨b2, hs2, hy2⟩ := DataW.trod_bool Tryz.underlying4 h2
  obtain ⟨b3, hs3, hy3⟩ := DataW.trod_bool Tryz.underlying4 h3
  obtain ⟨bo4, l4, k4, rows4, g1, g2, _, _, g3, g4, g5, g6⟩ := open_plain (ks := [.int .i64]) 6 Tryz.underlying25 (by kernel_rfl) (by kernel_rfl) (by decide) h4
  obtain ⟨bo5, l5, k5, rows5, q1, q2, _, _, q3, q4, q5, q6⟩ := open_plain (ks := [.str, .str]) 6 Tryz.underlying22 (by kernel_rfl) (by kernel_rfl) (by decide) h5
  obtain ⟨ns, rfl, hn⟩ := kind_int1 g5
  obtain ⟨ts, rfl, ht⟩ := flds_of_rows rows5 q5
  simp at hs0 hs1 hs2 hs3 g1 q1
  subst hs0; subst hs1; subst hs2; subst hs3; subst g1; subst q1
  have hb0 : me.size + 1 ≤ Rows.uptoBulk y0.1 := by rw [hy0]; simp [Rows.uptoBulk, size_toList]
  simp at g2 g6 q2 q6
  refine ⟨⟨me.data.toList, b1, b2, b3, ns, ts⟩, .agg _ _ rfl (fun x hx => ?_) (fun j x u hx hu => ?_), .agg _ (fun x hx => ?_), hn, ?_⟩
  · simp [Mann.avs] at hx; rcases hx with rfl | rfl | rfl | rfl | rfl | rfl <;> exact ⟨rfl, rfl⟩
  · match j with
    | 0 => simp [Mann.avs] at hx hu; subst hx; subst hu; exact .str _ _ rfl hm0
    | 1 => simp [Mann.avs] at hx hu; subst hx; subst hu; exact .bool _
    | 2 => simp [Mann.avs] at hx hu; subst hx; subst hu; exact .bool _
    | 3 => simp [Mann.avs] at hx hu; subst hx; subst hu; exact .bool _
    | 4 => simp [Mann.avs] at hx hu; subst hx; subst hu; exact g3
    | 5 => simp [Mann.avs] at hx hu; subst hx; subst hu; exact q3
    | j + 6 => simp [Mann.avs] at hx
  · simp [Mann.avs] at hx
    rcases hx with rfl | rfl | rfl | rfl | rfl | rfl
    · exact .str _
    · exact .bool _
    · exact .bool _
    · exact .bool _
    · exact .sl _ _ _ (fun r hr y hy => by obtain ⟨z, _, rfl⟩ := List.mem_map.1 hr; simp at hy; subst hy; exact .int _ _)
    · exact bnd_flds _ _ ts
  · simp only [List.map_cons, List.map_nil, Rows.uptoBulk, Rows.uptoBulkAll, size_toList]
    omega
theorem okR_of {W : World} {cs ds : Array Value} {r : Resp} {m : Mann} {a b : Nat} (R : ROk W cs r a) (M : MOk W ds m b) (ha : a ≤ 1048576) (hb : b ≤ 1048576) : okR r m := by
  have := R.bulk
  have := M.bulk
  exact ⟨by omega, by omega, by omega, by omega, by omega, by omega, R.st, M.rng⟩
theorem rm_args {W : World} {cs ds : Array Value} {r : Resp} {m : Mann} {a b : Nat} (R : ROk W cs r a) (M : MOk W ds m b) : ∀ (t : Nat) x u, [AV.agg r.avs, .agg m.avs][t]? = some x → #[Value.agg cs, .agg ds][t]? = some u → Rel W (fun _ => 0) (old W) x u ∧ Bnd 0 x ∧ x.free = true := fun t x u hx hu => by
  match t with
  | 0 => simp at hx hu; subst hx; subst hu; exact ⟨R.rel, R.bnd, rfl⟩
  | 1 => simp at hx hu; subst hx; subst hu; exact ⟨M.rel, M.bnd, rfl⟩
  | t + 2 => simp at hx
theorem mprints_true (W : World) (cs ds : Array Value) (r : Resp) (m : Mann) (a b : Nat) (R : ROk W cs r a) (M : MOk W ds m b) (ha : a ≤ 1048576) (hb : b ≤ 1048576) (hT : Tabs W) :
    Calls Tryz.prog 3 #[.agg cs, .agg ds] W fun e w' => e = .returned (.bool true) ∧ Frm (fun _ => False) W w' :=
  calls_sm (args := [.agg r.avs, .agg m.avs]) hT rfl (rm_args R M) (fun E Q hE h => mprints_pc E [] Q hE r m (okR_of R M ha hb) h)
theorem mreasons_true (W : World) (s : ByteArray) (hs : s.size ≤ 1048576) (z : Int) (hz : -9223372036854775808 ≤ z ∧ z ≤ 9223372036854775807) (hT : Tabs W) :
    Calls Tryz.prog 7 #[.string s, .int .i64 z] W fun e w' => e = .returned (.bool true) ∧ Frm (fun _ => False) W w' := by
  refine calls_sm (args := [.str s.data.toList, .int .i64 z]) hT rfl (fun t x u hx hu => ?_) (fun E Q hE h => mreasons_pc E [] Q hE s.data.toList z hz.1 hz.2 h)
  match t with
  | 0 => simp at hx hu; subst hx; subst hu; exact rel_stringW W s hs
  | 1 => simp at hx hu; subst hx; subst hu; exact ⟨.int _ _, .int _ _, rfl⟩
  | t + 2 => simp at hx
end Go.Proofs.YtcdkcaocfioigaaGreatDoor

set_option linter.unusedVariables false
set_option linter.unusedSimpArgs false
namespace Go.Proofs.YtcdkcaocfioigaaGreatDoor
open Go Go.ChangeShapes Go.WideShapes Go.ChangeAt Go.RowKit Go.Deep

theorem signsNamed : Tryz.prog.globalNamed "turnpike/octet.signs" = some 1 := by kernel_rfl
theorem signsType : (Tryz.prog.globals[1]?).map (·.type) = some 244 := by kernel_rfl
theorem signs_of_row {W : World} {rest : List (String × DataW Unit)} (h : laidMet Tryz.prog (("turnpike/octet.signs", Rows.laid_turnpike_octet_signs) :: rest) W) : Signs W := by
  have ht : Lib.TabIs Tryz.prog W "turnpike/octet.signs" .u32 signTab := Lib.tabIs_of_head (rest := rest) signsNamed signsType Tryz.underlying244 Tryz.underlying220 (by kernel_rfl) (by kernel_rfl) h
  intro j z hz
  have hj := (List.getElem?_eq_some_iff.1 hz).1
  have := ht.cell signsNamed j hj
  rw [List.getD, hz] at this
  exact this
end Go.Proofs.YtcdkcaocfioigaaGreatDoor

set_option linter.unusedVariables false
set_option linter.unusedSimpArgs false
namespace Go.Proofs.YtcdkcaocfioigaaGreatDoor
open Go Go.ChangeShapes Go.WideShapes Go.ChangeAt Go.RowKit Go.Deep

theorem dbNamed : Tryz.prog.globalNamed "math/bits.deBruijn64tab" = some 3 := by kernel_rfl
theorem dbType : (Tryz.prog.globals[3]?).map (·.type) = some 256 := by kernel_rfl
def dbTab : List Int := [0, 1, 56, 2, 57, 49, 28, 3, 61, 58, 42, 50, 38, 29, 17, 4, 62, 47, 59, 36, 45, 43, 51, 22, 53, 39, 33, 30, 24, 18, 12, 5, 63, 55, 48, 27, 60, 41, 37, 16, 46, 35, 44, 21, 52, 32, 23, 11, 54, 26, 40, 15, 34, 20, 31, 10, 25, 14, 19, 9, 13, 8, 7, 6]
theorem tz_of_row {W : World} {rest : List (String × DataW Unit)} (h : laidMet Tryz.prog (("math/bits.deBruijn64tab", Rows.laid_math_bits_deBruijn64tab) :: rest) W) : Tz W := by
  have ht : Lib.TabIs Tryz.prog W "math/bits.deBruijn64tab" .u8 dbTab := Lib.tabIs_of_head (rest := rest) dbNamed dbType Tryz.underlying256 Tryz.underlying5 (by kernel_rfl) (by kernel_rfl) h
  exact ht.cell dbNamed 15 (by decide)
end Go.Proofs.YtcdkcaocfioigaaGreatDoor

