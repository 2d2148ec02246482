/- How a decoder takes runs of bytes: plain laws of feedD. -/
import Derived.Test.YtimhofphmgehgaaDoorChR
import Derived.Test.YtimhofphmgehgaaDoorNil
set_option linter.unusedVariables false
set_option linter.unnecessarySimpa false
set_option linter.unusedSimpArgs false
set_option linter.unusedSectionVars false
set_option maxRecDepth 100000
namespace Go.Proofs.YtimhofphmgehgaaDoor
open Go Go.RowKit Go.Proofs

def goD (d : Dec) : Prop := d.done = false ∧ d.err = 0
theorem feedD_cons (d : Dec) (b : UInt8) (s : List UInt8) : feedD d (b :: s) = if (feed1 d b).done = true ∨ (feed1 d b).err ≠ 0 then (feed1 d b, 1) else ((feedD (feed1 d b) s).1, (feedD (feed1 d b) s).2 + 1) := rfl
theorem feedD_go {d : Dec} {b : UInt8} (s : List UInt8) (h : goD (feed1 d b)) : feedD d (b :: s) = ((feedD (feed1 d b) s).1, (feedD (feed1 d b) s).2 + 1) := by
  rw [feedD_cons, if_neg]; rintro (h1 | h1)
  · rw [h.1] at h1; cases h1
  · exact h1 h.2
theorem feedD_stop {d : Dec} {b : UInt8} (s : List UInt8) (h : (feed1 d b).done = true ∨ (feed1 d b).err ≠ 0) : feedD d (b :: s) = (feed1 d b, 1) := by rw [feedD_cons, if_pos h]
theorem feedD_cat : ∀ (a : List UInt8) (d e : Dec) (s : List UInt8), feedD d a = (e, a.length) → goD e → feedD d (a ++ s) = ((feedD e s).1, (feedD e s).2 + a.length)
  | [], d, e, s, h, _ => by cases h; simp
  | b :: a, d, e, s, h, hg => by
    rw [List.cons_append, feedD_cons]
    rw [feedD_cons] at h
    split at h
    · rename_i hs
      have h1 := (Prod.mk.inj h).1
      rw [h1] at hs
      rcases hs with hs | hs
      · rw [hg.1] at hs; cases hs
      · exact absurd hg.2 hs
    · rename_i hs
      rw [if_neg hs]
      have h1 := Prod.mk.inj h
      have h2 : (feedD (feed1 d b) a).2 = a.length := by have := h1.2; simp at this; omega
      rw [feedD_cat a (feed1 d b) e s (by rw [← h1.1, ← h2]) hg]
      simp; omega

theorem run_size : ∀ (a : List UInt8) (d : Dec), d.st = .size → goD d → (∀ b ∈ a, b ≠ 10) → d.line.length + a.length ≤ 255 → feedD d a = ({ d with line := d.line ++ a, total := d.total + a.length }, a.length)
  | [], d, _, _, _, _ => by simp [feedD]
  | b :: a, d, hs, hg, ha, hl => by
    have hb : b ≠ 10 := ha b (by simp)
    simp only [List.length_cons] at hl
    have h1 : feed1 d b = { d with line := d.line ++ [b], total := d.total + 1 } := by
      unfold feed1 stepD
      simp only [hs, sizeD, hb, if_pos, ne_eq, not_false_eq_true]
      rw [if_neg (by simp; omega), ← hg.2]
    have hg' : goD (feed1 d b) := by rw [h1]; exact hg
    rw [feedD_go _ hg', h1, run_size a { d with line := d.line ++ [b], total := d.total + 1 } hs hg (fun c hc => ha c (by simp [hc])) (by simp; omega)]
    simp; omega
theorem over_size (d : Dec) (b : UInt8) (s : List UInt8) (hs : d.st = .size) (hb : b ≠ 10) (hl : d.line.length = 255) : feedD d (b :: s) = ({ d with line := d.line ++ [b], total := d.total + 1, err := 100 }, 1) := by
  have h1 : feed1 d b = { d with line := d.line ++ [b], total := d.total + 1, err := 100 } := by
    unfold feed1 stepD
    simp only [hs, sizeD, hb, if_pos, ne_eq, not_false_eq_true]
    rw [if_pos (by simp; omega)]
  rw [feedD_stop _ (by rw [h1]; exact .inr (by simp)), h1]
theorem run_trail : ∀ (a : List UInt8) (d : Dec), d.st = .trailer → goD d → (∀ b ∈ a, b ≠ 10) → (d.section_ : Int) + a.length ≤ d.room → feedD d a = ({ d with line := d.line ++ a, section_ := d.section_ + a.length, total := d.total + a.length }, a.length)
  | [], d, _, _, _, _ => by simp [feedD]
  | b :: a, d, hs, hg, ha, hl => by
    have hb : b ≠ 10 := ha b (by simp)
    simp only [List.length_cons] at hl
    have h1 : feed1 d b = { d with line := d.line ++ [b], section_ := d.section_ + 1, total := d.total + 1 } := by
      unfold feed1 stepD
      simp only [hs, trailerD, hb, if_pos, ne_eq, not_false_eq_true]
      rw [if_neg (by omega)]
      simp only [hs, ← hg.2]
    have hg' : goD (feed1 d b) := by rw [h1]; exact hg
    rw [feedD_go _ hg', h1, run_trail a { d with line := d.line ++ [b], section_ := d.section_ + 1, total := d.total + 1 } hs hg (fun c hc => ha c (by simp [hc])) (by simp; omega)]
    simp; omega
theorem over_trail (d : Dec) (b : UInt8) (s : List UInt8) (hs : d.st = .trailer) (hl : d.room ≤ d.section_) : feedD d (b :: s) = ({ d with total := d.total + 1, err := 104 }, 1) := by
  have h1 : feed1 d b = { d with total := d.total + 1, err := 104 } := by
    unfold feed1 stepD
    simp only [hs, trailerD]
    rw [if_pos hl]
  rw [feedD_stop _ (by rw [h1]; exact .inr (by simp)), h1]
theorem run_data : ∀ (a : List UInt8) (d : Dec), d.st = .data → goD d → (a.length : Int) < d.left → feedD d a = ({ d with body := d.body ++ a, left := d.left - a.length, total := d.total + a.length }, a.length)
  | [], d, _, _, _ => by simp [feedD]
  | b :: a, d, hs, hg, hl => by
    simp only [List.length_cons] at hl
    have h1 : feed1 d b = { d with body := d.body ++ [b], left := d.left - 1, total := d.total + 1 } := by
      unfold feed1 stepD
      simp only [hs, dataD]
      rw [if_neg (by omega)]
      simp only [hs, ← hg.2]
    have hg' : goD (feed1 d b) := by rw [h1]; exact hg
    rw [feedD_go _ hg', h1, run_data a { d with body := d.body ++ [b], left := d.left - 1, total := d.total + 1 } hs hg (by simp; omega)]
    simp
    exact ⟨by omega, by omega⟩
theorem full_data (a : List UInt8) (d : Dec) (hs : d.st = .data) (hg : goD d) (h0 : a ≠ []) (hl : (a.length : Int) = d.left) : feedD d a = ({ d with body := d.body ++ a, left := 0, st := .first, total := d.total + a.length }, a.length) := by
  obtain ⟨x, b, rfl⟩ : ∃ x b, a = x ++ [b] := ⟨a.dropLast, a.getLast h0, (List.dropLast_concat_getLast h0).symm⟩
  rw [List.length_append] at hl
  simp at hl
  have hr := run_data x d hs hg (by omega)
  rw [feedD_cat x d _ [b] hr hg]
  have h1 : feed1 { d with body := d.body ++ x, left := d.left - x.length, total := d.total + x.length } b = { d with body := d.body ++ (x ++ [b]), left := 0, st := .first, total := d.total + (x ++ [b]).length } := by
    unfold feed1 stepD
    simp only [hs, dataD]
    rw [if_pos (by omega)]
    simp [← hg.2]
    omega
  rw [feedD_go [] (by rw [h1]; exact hg), h1]
  simp [feedD]
  omega
theorem first_go (d : Dec) (s : List UInt8) (hs : d.st = .first) (hg : goD d) : feedD d (13 :: s) = ((feedD { d with st := .second, total := d.total + 1 } s).1, (feedD { d with st := .second, total := d.total + 1 } s).2 + 1) := by
  have h1 : feed1 d 13 = { d with st := .second, total := d.total + 1 } := by
    unfold feed1 stepD
    simp [hs, firstD, ← hg.2]
  rw [feedD_go _ (by rw [h1]; exact hg), h1]
theorem first_bad (d : Dec) (b : UInt8) (s : List UInt8) (hs : d.st = .first) (hb : b ≠ 13) : feedD d (b :: s) = ({ d with total := d.total + 1, err := 100 }, 1) := by
  have h1 : feed1 d b = { d with total := d.total + 1, err := 100 } := by
    unfold feed1 stepD
    simp [hs, firstD, hb]
  rw [feedD_stop _ (by rw [h1]; exact .inr (by simp)), h1]
theorem second_go (d : Dec) (s : List UInt8) (hs : d.st = .second) (hg : goD d) : feedD d (10 :: s) = ((feedD { d with st := .size, total := d.total + 1 } s).1, (feedD { d with st := .size, total := d.total + 1 } s).2 + 1) := by
  have h1 : feed1 d 10 = { d with st := .size, total := d.total + 1 } := by
    unfold feed1 stepD
    simp [hs, secondD, ← hg.2]
  rw [feedD_go _ (by rw [h1]; exact hg), h1]
theorem second_bad (d : Dec) (b : UInt8) (s : List UInt8) (hs : d.st = .second) (hb : b ≠ 10) : feedD d (b :: s) = ({ d with total := d.total + 1, err := 100 }, 1) := by
  have h1 : feed1 d b = { d with total := d.total + 1, err := 100 } := by
    unfold feed1 stepD
    simp [hs, secondD, hb]
  rw [feedD_stop _ (by rw [h1]; exact .inr (by simp)), h1]

/-- A line behind its 10: what it says. -/
theorem endL_snoc (l : List UInt8) (a n : Nat) (h : a + n ≤ l.length) : endL ((l.drop a).take n ++ [10]) = if n = 0 ∨ l[a + n - 1]? ≠ some 13 then none else some ((l.drop a).take (n - 1)) := by
  have hlen : ((l.drop a).take n).length = n := by rw [List.length_take, List.length_drop]; omega
  unfold endL
  rw [List.length_append, hlen]
  by_cases h0 : n = 0
  · subst h0; simp
  · obtain ⟨m, rfl⟩ : ∃ m, n = m + 1 := ⟨n - 1, by omega⟩
    have hat : ((l.drop a).take (m + 1))[m]? = l[a + m]? := by rw [List.getElem?_take_of_lt (by omega), List.getElem?_drop]
    obtain ⟨c, hc⟩ : ∃ c, l[a + m]? = some c := ⟨_, List.getElem?_eq_getElem (by omega)⟩
    have hsn : (l.drop a).take (m + 1) = (l.drop a).take m ++ [c] := by
      rw [List.take_add_one, List.getElem?_drop, hc]; rfl
    have hml : ((l.drop a).take m).length = m := by rw [List.length_take, List.length_drop]; omega
    have e1 : m + 1 + [(10 : UInt8)].length - 2 = m := by simp
    have e2 : a + (m + 1) - 1 = a + m := by omega
    rw [e1, e2, hc, hsn, List.append_assoc, List.drop_append_of_le_length (by omega), List.drop_of_length_le (by omega), List.take_append_of_le_length (by omega), List.take_of_length_le (by omega)]
    by_cases hcc : c = 13
    · subst hcc
      simp
    · simp [hcc]
/-- The byte that ends a size line. -/
def sizeE (d : Dec) (x : Option (List UInt8)) : Dec × Int := match x with
  | none => ({ d with line := [] }, 100)
  | some s => if (sizeAns s).2.2 ≠ 0 then ({ d with line := [] }, (sizeAns s).2.2)
    else if d.most - d.body.length < (sizeAns s).1 then ({ d with line := [] }, 102)
    else if (sizeAns s).1 = 0 then ({ d with line := [], st := .trailer }, 0)
    else ({ d with line := [], left := (sizeAns s).1, st := .data }, 0)
theorem feed1_size (d : Dec) (hs : d.st = .size) : feed1 d 10 = { (sizeE { d with total := d.total + 1 } (endL (d.line ++ [10]))).1 with err := (sizeE { d with total := d.total + 1 } (endL (d.line ++ [10]))).2 } := by
  unfold feed1 stepD
  simp only [hs, sizeD, ne_eq, not_true_eq_false, if_false]
  cases endL (d.line ++ [10]) <;> rfl
/-- The byte that ends a trailer's line. -/
def trailE (d : Dec) (x : Option (List UInt8)) : Dec × Int := match x with
  | none => ({ d with section_ := d.section_ + 1, line := [] }, 101)
  | some s => if s = [] then ({ d with section_ := d.section_ + 1, line := [], done := true }, 0)
    else if d.fields ≤ d.trailers.length then ({ d with section_ := d.section_ + 1, line := [] }, 104)
    else match lineF s with
      | none => ({ d with section_ := d.section_ + 1, line := [] }, 101)
      | some f => if mayB f.name = true then ({ d with section_ := d.section_ + 1, line := [], trailers := d.trailers ++ [f] }, 0) else ({ d with section_ := d.section_ + 1, line := [] }, 101)
theorem feed1_trail (d : Dec) (hs : d.st = .trailer) (hr : (d.section_ : Int) < d.room) : feed1 d 10 = { (trailE { d with total := d.total + 1 } (endL (d.line ++ [10]))).1 with err := (trailE { d with total := d.total + 1 } (endL (d.line ++ [10]))).2 } := by
  unfold feed1 stepD
  simp only [hs, trailerD, ne_eq, not_true_eq_false, if_false]
  rw [if_neg (by omega)]
  cases endL (d.line ++ [10]) <;> rfl
end Go.Proofs.YtimhofphmgehgaaDoor
