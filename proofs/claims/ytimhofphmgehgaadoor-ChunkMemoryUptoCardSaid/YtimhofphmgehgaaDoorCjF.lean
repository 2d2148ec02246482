/- The chunk layer's printer: lines of fields, Encode. -/
import Derived.Test.YtimhofphmgehgaaDoorCjE
set_option linter.unusedVariables false
set_option linter.unnecessarySimpa false
set_option linter.unusedSimpArgs false
set_option linter.unusedSectionVars false
set_option maxRecDepth 100000
namespace Go.Proofs.YtimhofphmgehgaaDoor
open Go Go.RowKit Go.Proofs

/-- A line of a field: its text and the error's number. -/
def lineP (f : Fld) : List UInt8 × Int := if nameB f.name = false then ([], 60) else if valueB f.value = false then ([], 61) else (lineT f, 0)
@[simp] theorem tblfB : tblf Tryd.prog 115 = some TU := by kernel_rfl
section
variable (E : Env) (H : Hp) (Q : AV → Hp → Prop)
theorem isValue_pc (l : List UInt8) (hl : l.length ≤ cap) (hQ : Q (.bool (valueB l)) H) : PC Tryd.prog E 93 [.str l] H Q := by
  refine pc_enter Tryd.func93 rfl [] [] (by kernel_rfl) (fun hB => ?_)
  have fin : ∀ c : Bool, valueB l = c → Q (.bool c) H := fun c hc => hc ▸ hQ
  by_cases h : l.length ≤ 8192
  · have h' : (l.length : Int) ≤ 8192 := by omega
    simp [Tryd.ntmps93, Tryd.results93, List.replicate_succ, h']
    refine isField_pc E _ _ l hl ?_
    cases hf : fldB l
    · simp
      exact aPost_same0 hB rfl (nilV_refl _) (by simp) (fin _ (by simp [valueB, hf]))
    · simp
      refine trim_pc E _ _ l hl ?_
      simp
      exact aPost_same0 hB rfl (nilV_refl _) (by simp) (fin _ (by unfold valueB; rw [hf, Bool.eq_iff_iff]; simp [h]))
  · have h' : ¬ (l.length : Int) ≤ 8192 := by omega
    simp [Tryd.ntmps93, Tryd.results93, List.replicate_succ, h']
    exact aPost_same0 hB rfl (nilV_refl _) (by simp) (fin _ (by simp [valueB, h]))
theorem printLine_pc (hE : SE E) (f : Fld) (h1 : f.name.length ≤ 16777216) (h2 : f.value.length ≤ 16777216) (hQ : Q (.tup [.str (lineP f).1, .int .i64 (lineP f).2]) H) : PC Tryd.prog E 62 [.agg [.str f.name, .str f.value]] H Q := by
  refine pc_enter Tryd.func62 rfl [] [] (by kernel_rfl) (fun hB => ?_)
  have m1 : f.name.length + 1 ≤ maxLen := by unfold maxLen; omega
  have m2 : f.name.length + 2 ≤ maxLen := by unfold maxLen; omega
  have m3 : f.name.length + 2 + f.value.length ≤ maxLen := by unfold maxLen; omega
  have m4 : f.name.length + 1 + 1 ≤ maxLen := by unfold maxLen; omega
  have m5 : f.name.length + 1 + 1 + f.value.length ≤ maxLen := by unfold maxLen; omega
  simp [Tryd.ntmps62, Tryd.results62, List.replicate_succ]
  refine isName_pc E _ _ hE f.name (by simp only [cap]; omega) ?_
  cases hn : nameB f.name with
  | false =>
    have e : lineP f = ([], 60) := by unfold lineP; rw [if_pos hn]
    rw [e] at hQ
    simp
    exact aPost_same hB rfl (nilV_refl _) (by simp) hQ
  | true =>
    simp
    refine isValue_pc E _ _ f.value (by simp only [cap]; omega) ?_
    cases hv : valueB f.value with
    | false =>
      have e : lineP f = ([], 61) := by unfold lineP; rw [if_neg (by rw [hn]; simp), if_pos hv]
      rw [e] at hQ
      simp
      exact aPost_same hB rfl (nilV_refl _) (by simp) hQ
    | true =>
      have e : lineP f = (lineT f, 0) := by unfold lineP; rw [if_neg (by rw [hn]; simp), if_neg (by rw [hv]; simp)]
      rw [e] at hQ
      by_cases he : f.value = []
      · have e2 : lineT f = f.name ++ [58] := by unfold lineT; rw [if_pos he]
        rw [e2] at hQ
        have he' : (f.value == []) = true := by simpa using he
        simp [he', m1]
        exact aPost_same hB rfl (nilV_refl _) (by simp) hQ
      · have e2 : lineT f = f.name ++ (58 :: 32 :: f.value) := by unfold lineT; rw [if_neg he]
        rw [e2] at hQ
        have he' : (f.value == []) = false := by simpa using he
        simp [he', m2, m3, m4, m5]
        exact aPost_same hB rfl (nilV_refl _) (by simp) hQ
end
/-- Sizes of chunks that may be. -/
def okSizes (ns : List Int) : Bool := ns.all fun n => decide (1 ≤ n)
/-- What is encoded, and the error's number. -/
def encAns (body : List UInt8) (ns : List Int) (ts : List Fld) : List UInt8 × Int := if okSizes ns = false then ([], 1) else if ts.all rightB = false then ([], 101) else (encT (piecesB body ns) ts, 0)
def fsz : List Fld → Nat
  | [] => 0
  | f :: l => f.name.length + f.value.length + fsz l
theorem fsz_mem {l : List Fld} {i : Nat} {f : Fld} (h : l[i]? = some f) : f.name.length + f.value.length ≤ fsz l := by
  induction l generalizing i with
  | nil => simp at h
  | cons q l ih =>
    cases i with
    | zero => simp at h; subst h; simp [fsz]
    | succ i => have := ih (i := i) (by simpa using h); simp [fsz]; omega
theorem fsz_take (l : List Fld) (i : Nat) : fsz (l.take i) ≤ fsz l := by
  induction l generalizing i with
  | nil => simp
  | cons p l ih =>
    cases i with
    | zero => simp [fsz]
    | succ i => have := ih i; simp [fsz]; omega
theorem lineT_le (f : Fld) : (lineT f).length ≤ f.name.length + f.value.length + 2 := by
  unfold lineT
  split <;> simp <;> omega
theorem linesT_le (l : List Fld) : (linesT l).length ≤ fsz l + 4 * l.length := by
  induction l with
  | nil => simp [linesT]
  | cons f l ih =>
    have e : linesT (f :: l) = lineT f ++ [13, 10] ++ linesT l := by simp [linesT]
    have := lineT_le f
    rw [e]
    simp [fsz]; omega
theorem linesT_step (l : List Fld) (i : Nat) (f : Fld) (h : l[i]? = some f) : linesT (l.take (i + 1)) = linesT (l.take i) ++ (lineT f ++ [13, 10]) := by
  rw [List.take_add_one, h]
  simp [linesT]
theorem chunkT_le (p : List UInt8) (h0 : p ≠ []) (h : p.length ≤ 1099511627776) : (chunkT p).length ≤ 16 * p.length := by
  have h1 := hexD_len11 p.length h
  have h2 : p.length ≠ 0 := fun e => h0 (List.length_eq_zero_iff.1 e)
  unfold chunkT
  simp
  omega
theorem chunksT_le : ∀ (ps : List (List UInt8)), (∀ p ∈ ps, p ≠ []) → ps.flatten.length ≤ 1099511627776 → (chunksT ps).length ≤ 16 * ps.flatten.length
  | [], _, _ => by simp [chunksT]
  | p :: ps, h0, h => by
    simp only [List.flatten_cons, List.length_append] at h
    have h1 := chunkT_le p (h0 p (by simp)) (by omega)
    have h2 := chunksT_le ps (fun q hq => h0 q (by simp [hq])) (by omega)
    have e : chunksT (p :: ps) = chunkT p ++ chunksT ps := by simp [chunksT]
    rw [e]
    simp only [List.flatten_cons, List.length_append]
    omega
end Go.Proofs.YtimhofphmgehgaaDoor
