/- PLAIN LAWS of the octet layer: quoted texts, lists, parameters, as lists of bytes: no program in sight. PLAIN LAWS of the octet layer: parameters: no program in sight. sg: the signs of tokens. -/
import Derived.Lib.SlTrimSet
import Derived.Lib.Join
set_option linter.unusedVariables false
set_option linter.unusedSimpArgs false
namespace Go.Proofs.YtimhofphmgehgaaDoor

/-- A byte that may stand in a field; a blank. -/
def fcB (b : UInt8) : Bool := b == 9 || (decide (32 ≤ b.toNat) && b != 127)
def blankB (b : UInt8) : Bool := b == 32 || b == 9
def fldB (l : List UInt8) : Bool := l.all fcB

/-- What stands behind a quote mark: what it says, how many bytes, the closing mark too. -/
def unq : List UInt8 → Option (List UInt8 × Nat)
  | [] => none
  | c :: r => if c = 34 then some ([], 1) else if c = 92 then (match r with
      | [] => none
      | d :: r' => if fcB d then (unq r').map fun p => (d :: p.1, p.2 + 2) else none)
    else if fcB c then (unq r).map fun p => (c :: p.1, p.2 + 1) else none
/-- A quoted text at the front: what it says, how many bytes; 0: there is none. -/
def unquote (s : List UInt8) : Option (List UInt8 × Nat) := match s with
  | [] => none
  | c :: r => if c = 34 then (unq r).map fun p => (p.1, p.2 + 1) else none
def escB (c : UInt8) : List UInt8 := if c = 34 ∨ c = 92 then [92, c] else [c]
def esc (s : List UInt8) : List UInt8 := s.flatMap escB
def quoted (s : List UInt8) : List UInt8 := 34 :: (esc s ++ [34])

theorem unq_le : ∀ (n : Nat) (s l : List UInt8) (k : Nat), s.length ≤ n → unq s = some (l, k) → 1 ≤ k ∧ k ≤ s.length ∧ l.length + 1 ≤ k
  | n, [], l, k, _, h => by simp [unq] at h
  | 0, c :: r, l, k, hn, h => by simp at hn
  | n + 1, c :: r, l, k, hn, h => by
    simp only [List.length_cons] at hn
    unfold unq at h
    split at h
    · simp at h; obtain ⟨rfl, rfl⟩ := h; simp
    · split at h
      · cases r with
        | nil => simp at h
        | cons d r' =>
          simp only [List.length_cons] at hn
          simp only at h
          split at h
          · cases hu : unq r' with
            | none => simp [hu] at h
            | some p =>
              simp [hu] at h
              obtain ⟨rfl, rfl⟩ := h
              have := unq_le n r' p.1 p.2 (by omega) hu
              simp only [List.length_cons]; omega
          · cases h
      · split at h
        · cases hu : unq r with
          | none => simp [hu] at h
          | some p =>
            simp [hu] at h
            obtain ⟨rfl, rfl⟩ := h
            have := unq_le n r p.1 p.2 (by omega) hu
            simp only [List.length_cons]; omega
        · cases h
theorem unq_app (b : List UInt8) : ∀ (n : Nat) (s l : List UInt8) (k : Nat), s.length ≤ n → unq s = some (l, k) → unq (s ++ b) = some (l, k)
  | n, [], l, k, _, h => by simp [unq] at h
  | 0, c :: r, l, k, hn, h => by simp at hn
  | n + 1, c :: r, l, k, hn, h => by
    simp only [List.length_cons] at hn
    rw [List.cons_append]
    unfold unq at h ⊢
    split
    · rename_i hc; rw [if_pos hc] at h; exact h
    · rename_i hc
      rw [if_neg hc] at h
      split
      · rename_i h2
        rw [if_pos h2] at h
        cases r with
        | nil => simp at h
        | cons d r' =>
          simp only [List.length_cons] at hn
          simp only [List.cons_append] at h ⊢
          split
          · rename_i hf
            rw [if_pos hf] at h
            cases hu : unq r' with
            | none => simp [hu] at h
            | some p => rw [unq_app b n r' p.1 p.2 (by omega) hu]; rw [hu] at h; exact h
          · rename_i hf; rw [if_neg hf] at h; cases h
      · rename_i h2
        rw [if_neg h2] at h
        split
        · rename_i hf
          rw [if_pos hf] at h
          cases hu : unq r with
          | none => simp [hu] at h
          | some p => rw [unq_app b n r p.1 p.2 (by omega) hu]; rw [hu] at h; exact h
        · rename_i hf; rw [if_neg hf] at h; cases h
theorem unquote_le {s l : List UInt8} {k : Nat} (h : unquote s = some (l, k)) : 2 ≤ k ∧ k ≤ s.length ∧ l.length + 2 ≤ k := by
  unfold unquote at h
  split at h
  · cases h
  · rename_i c r
    split at h
    · cases hu : unq r with
      | none => simp [hu] at h
      | some p =>
        simp [hu] at h
        obtain ⟨rfl, rfl⟩ := h
        have := unq_le _ r p.1 p.2 (Nat.le_refl _) hu
        simp only [List.length_cons]; omega
    · cases h
theorem unquote_app {s l : List UInt8} {k : Nat} (b : List UInt8) (h : unquote s = some (l, k)) : unquote (s ++ b) = some (l, k) := by
  unfold unquote at h ⊢
  cases s with
  | nil => simp at h
  | cons c r =>
    simp only [List.cons_append] at h ⊢
    split
    · rename_i hc
      rw [if_pos hc] at h
      cases hu : unq r with
      | none => simp [hu] at h
      | some p => rw [unq_app b _ r p.1 p.2 (Nat.le_refl _) hu]; rw [hu] at h; exact h
    · rename_i hc; rw [if_neg hc] at h; cases h
theorem unq_esc (b : List UInt8) : ∀ s : List UInt8, fldB s = true → unq (esc s ++ 34 :: b) = some (s, (esc s).length + 1)
  | [], _ => by
    show unq (34 :: b) = _
    unfold unq
    rw [if_pos rfl]; rfl
  | c :: s, h => by
    unfold fldB at h
    rw [List.all_cons, Bool.and_eq_true] at h
    have ih := unq_esc b s h.2
    have e : esc (c :: s) = escB c ++ esc s := by simp [esc]
    rw [e, List.append_assoc]
    unfold escB
    by_cases hc : c = 34 ∨ c = 92
    · rw [if_pos hc]
      simp only [List.cons_append, List.nil_append]
      unfold unq
      rw [if_neg (by decide), if_pos rfl]
      simp [h.1, ih]
    · rw [if_neg hc]
      simp only [List.cons_append, List.nil_append]
      unfold unq
      rw [if_neg (fun e => hc (.inl e)), if_neg (fun e => hc (.inr e)), if_pos h.1, ih]
      simp
theorem unquote_quoted (s b : List UInt8) (h : fldB s = true) : unquote (quoted s ++ b) = some (s, (quoted s).length) := by
  unfold unquote quoted
  simp only [List.cons_append, List.append_assoc, List.nil_append, if_pos]
  rw [unq_esc b s h]
  simp

/-! ### Lists -/
def trimB (l : List UInt8) : List UInt8 := Go.Lib.trimS l [32, 9]
/-- The pieces between the commas that stand outside quoted texts. acc: what stands in the first piece already. -/
def cut (acc : List UInt8) (s : List UInt8) : Option (List (List UInt8)) := match s with
  | [] => some [acc]
  | c :: r => if c = 44 then (cut [] r).map (acc :: ·) else if c = 34 then (match unquote (c :: r) with
      | none => none
      | some p => cut (acc ++ (c :: r).take p.2) (r.drop (p.2 - 1)))
    else cut (acc ++ [c]) r
termination_by s.length
decreasing_by all_goals (simp only [List.length_cons, List.length_drop]; omega)
def keepB (l : List (List UInt8)) : List (List UInt8) := (l.map trimB).filter fun x => !x.isEmpty
def listB (s : List UInt8) : Option (List (List UInt8)) := (cut [] s).map keepB

theorem cut_nil (acc : List UInt8) : cut acc [] = some [acc] := by rw [cut]
theorem cut_comma (acc r : List UInt8) : cut acc (44 :: r) = (cut [] r).map (acc :: ·) := by rw [cut]; simp
theorem cut_plain (acc r : List UInt8) (c : UInt8) (h1 : c ≠ 44) (h2 : c ≠ 34) : cut acc (c :: r) = cut (acc ++ [c]) r := by rw [cut, if_neg h1, if_neg h2]
theorem cut_bad (acc r : List UInt8) (h : unquote (34 :: r) = none) : cut acc (34 :: r) = none := by rw [cut]; simp [h]
theorem cut_quote (acc r l : List UInt8) (k : Nat) (h : unquote (34 :: r) = some (l, k)) : cut acc (34 :: r) = cut (acc ++ (34 :: r).take k) ((34 :: r).drop k) := by
  rw [cut]
  have := (unquote_le h).1
  simp only [h]
  rw [if_neg (by decide), if_pos trivial]
  congr 1
  obtain ⟨j, rfl⟩ : ∃ j, k = j + 1 := ⟨k - 1, by omega⟩
  simp

/-- A comma between two texts. -/
theorem cut_app (b : List UInt8) : ∀ (n : Nat) (acc s : List UInt8) (x : List (List UInt8)), s.length ≤ n → cut acc s = some x → cut acc (s ++ 44 :: b) = (cut [] b).map (x ++ ·)
  | n, acc, [], x, _, h => by
    rw [cut_nil] at h; cases h
    rw [List.nil_append, cut_comma]
    rfl
  | 0, acc, c :: r, x, hn, h => by simp at hn
  | n + 1, acc, c :: r, x, hn, h => by
    simp only [List.length_cons] at hn
    rw [List.cons_append]
    by_cases h1 : c = 44
    · subst h1
      rw [cut_comma] at h ⊢
      cases hc : cut [] r with
      | none => simp [hc] at h
      | some y =>
        simp [hc] at h
        subst h
        rw [cut_app b n [] r y (by omega) hc]
        cases cut [] b <;> simp
    · by_cases h2 : c = 34
      · subst h2
        cases hu : unquote (34 :: r) with
        | none => rw [cut_bad _ _ hu] at h; cases h
        | some p =>
          have hl := unquote_le hu
          simp only [List.length_cons] at hl
          rw [cut_quote acc r p.1 p.2 hu] at h
          have hu' := unquote_app (44 :: b) hu
          rw [List.cons_append] at hu'
          rw [cut_quote acc _ p.1 p.2 hu', ← List.cons_append, List.take_append_of_le_length (by simp; omega), List.drop_append_of_le_length (by simp; omega)]
          exact cut_app b n _ _ x (by simp; omega) h
      · rw [cut_plain _ _ _ h1 h2] at h ⊢
        exact cut_app b n _ _ x (by omega) h
theorem keepB_app (a b : List (List UInt8)) : keepB (a ++ b) = keepB a ++ keepB b := by simp [keepB]
/-- OctetSplit. -/
theorem listB_app (a b : List UInt8) (x : List (List UInt8)) (h : listB a = some x) : listB (a ++ 44 :: b) = (listB b).map (x ++ ·) := by
  unfold listB at h ⊢
  cases hc : cut [] a with
  | none => simp [hc] at h
  | some y =>
    simp [hc] at h
    subst h
    rw [cut_app b _ [] a y (Nat.le_refl _) hc]
    cases cut [] b <;> simp [keepB_app]

/-- A blank ahead of a text has no part. -/
theorem trimB_blank (c : UInt8) (hc : blankB c = true) (l : List UInt8) : trimB (c :: l) = trimB l := by
  have hcs : [32, 9].contains c = true := by
    unfold blankB at hc
    simpa using hc
  unfold trimB Go.Lib.trimS Go.Lib.trimLeftS Go.Lib.trimRightS
  rw [List.reverse_cons]
  generalize hr : l.reverse = r
  have : ∀ r : List UInt8, (((r ++ [c]).dropWhile ([32, 9].contains ·)).reverse).dropWhile ([32, 9].contains ·) = ((r.dropWhile ([32, 9].contains ·)).reverse).dropWhile ([32, 9].contains ·) := by
    intro r
    induction r with
    | nil => rw [List.nil_append, List.dropWhile_cons_of_pos hcs]
    | cons d r ih =>
      rw [List.cons_append]
      by_cases hd : [32, 9].contains d = true
      · rw [List.dropWhile_cons_of_pos hd, List.dropWhile_cons_of_pos hd]; exact ih
      · rw [List.dropWhile_cons_of_neg hd, List.dropWhile_cons_of_neg hd, ← List.cons_append, List.reverse_append, List.reverse_singleton, List.singleton_append, List.dropWhile_cons_of_pos hcs]
  exact this r
theorem cut_acc_blank (c : UInt8) : ∀ (n : Nat) (acc s : List UInt8), s.length ≤ n → cut (c :: acc) s = (cut acc s).map fun l => match l with | [] => [] | x :: r => (c :: x) :: r
  | n, acc, [], _ => by rw [cut_nil, cut_nil]; rfl
  | 0, acc, d :: r, hn => by simp at hn
  | n + 1, acc, d :: r, hn => by
    simp only [List.length_cons] at hn
    by_cases h1 : d = 44
    · subst h1
      rw [cut_comma, cut_comma]
      cases cut [] r <;> simp
    · by_cases h2 : d = 34
      · subst h2
        cases hu : unquote (34 :: r) with
        | none => rw [cut_bad _ _ hu, cut_bad _ _ hu]; rfl
        | some p =>
          have hl := unquote_le hu
          simp only [List.length_cons] at hl
          rw [cut_quote _ r p.1 p.2 hu, cut_quote _ r p.1 p.2 hu, List.cons_append]
          exact cut_acc_blank c n _ _ (by simp; omega)
      · rw [cut_plain _ _ _ h1 h2, cut_plain _ _ _ h1 h2, List.cons_append]
        exact cut_acc_blank c n _ _ (by omega)
theorem listB_blank (c : UInt8) (hc : blankB c = true) (s : List UInt8) : listB (c :: s) = listB s := by
  unfold listB
  have h1 : c ≠ 44 := by rintro rfl; simp [blankB] at hc
  have h2 : c ≠ 34 := by rintro rfl; simp [blankB] at hc
  rw [cut_plain _ _ _ h1 h2, List.nil_append]
  rw [cut_acc_blank c _ [] s (Nat.le_refl _)]
  cases cut [] s with
  | none => rfl
  | some l => cases l with
    | nil => rfl
    | cons x r => simp [keepB, trimB_blank c hc]
theorem listB_nil : listB [] = some [] := by
  unfold listB
  rw [cut_nil]
  rfl
/-- OctetJoins. -/
theorem listB_join : ∀ (l : List (List UInt8)), (∀ x ∈ l, listB x = some [x]) → listB (Go.Lib.join l [44, 32]) = some l
  | [], _ => by rw [Go.Lib.join_nil]; exact listB_nil
  | [x], h => by rw [Go.Lib.join_one]; exact h x (by simp)
  | x :: y :: r, h => by
    have ih := listB_join (y :: r) (fun z hz => h z (by simp [hz]))
    have e : Go.Lib.join (x :: y :: r) [44, 32] = x ++ 44 :: 32 :: Go.Lib.join (y :: r) [44, 32] := by
      simp [Go.Lib.join, List.intercalate, List.intersperse]
    rw [e, listB_app x _ [x] (h x (by simp)), listB_blank 32 rfl, ih]
    rfl
end Go.Proofs.YtimhofphmgehgaaDoor
set_option linter.unusedVariables false
set_option linter.unusedSimpArgs false
namespace Go.Proofs.YtimhofphmgehgaaDoor

structure Par where
  name : List UInt8
  value : List UInt8
  has : Bool
deriving DecidableEq

def run (p : UInt8 → Bool) (l : List UInt8) : Nat := (l.takeWhile p).length
theorem run_le (p : UInt8 → Bool) (l : List UInt8) : run p l ≤ l.length := by
  unfold run
  induction l with
  | nil => simp
  | cons a l ih => rw [List.takeWhile_cons]; split <;> simp <;> omega
theorem run_app (p : UInt8 → Bool) (l x : List UInt8) (h : l.all p = true) (hx : ∀ c, x.head? = some c → p c = false) : run p (l ++ x) = l.length := by
  unfold run
  induction l with
  | nil =>
    cases x with
    | nil => rfl
    | cons c x => rw [List.nil_append, List.takeWhile_cons, hx c rfl]; rfl
  | cons a l ih =>
    rw [List.all_cons, Bool.and_eq_true] at h
    rw [List.cons_append, List.takeWhile_cons, h.1]
    simp [ih h.2]
theorem run_step (p : UInt8 → Bool) (l : List UInt8) (n : Nat) (h : (l.take n).all p = true) (hn : n ≤ l.length) (hs : ∀ c, l[n]? = some c → p c = false) : run p l = n := by
  have := run_app p (l.take n) (l.drop n) h (fun c hc => hs c (by rw [List.head?_drop] at hc; exact hc))
  rw [List.take_append_drop] at this
  rw [this, List.length_take]; omega

section
variable (sg : UInt8 → Bool)
def tokP (l : List UInt8) : Bool := l.all sg && !l.isEmpty
/-- A value at the front. -/
def pval (v : List UInt8) : Option (List UInt8 × Nat) := if 0 < run sg v then some (v.take (run sg v), run sg v) else unquote v
def pars (s : List UInt8) : Option (List Par × Nat) := match h : s.drop (run blankB s) with
  | [] => some ([], 0)
  | c :: q => if c ≠ 59 then some ([], 0) else
      if run sg (q.drop (run blankB q)) = 0 then (pars q).map fun p => (p.1, p.2 + (run blankB s + 1)) else
      match (q.drop (run blankB q)).drop (run sg (q.drop (run blankB q))) with
      | [] => some ([⟨(q.drop (run blankB q)).take (run sg (q.drop (run blankB q))), [], false⟩], run blankB s + 1 + run blankB q + run sg (q.drop (run blankB q)))
      | d :: v => if d = 61 then (match pval sg v with
          | none => none
          | some x => (pars (q.drop (run blankB q + run sg (q.drop (run blankB q)) + 1 + x.2))).map fun p => (⟨(q.drop (run blankB q)).take (run sg (q.drop (run blankB q))), x.1, true⟩ :: p.1, p.2 + (run blankB s + 1 + run blankB q + run sg (q.drop (run blankB q)) + 1 + x.2)))
        else (pars (q.drop (run blankB q + run sg (q.drop (run blankB q))))).map fun p => (⟨(q.drop (run blankB q)).take (run sg (q.drop (run blankB q))), [], false⟩ :: p.1, p.2 + (run blankB s + 1 + run blankB q + run sg (q.drop (run blankB q))))
termination_by s.length
decreasing_by all_goals (have hl := congrArg List.length h; simp only [List.length_drop, List.length_cons] at hl ⊢; omega)

/-- No parameter: no semicolon stands behind the blanks. -/
theorem pars_end (s : List UInt8) (h : s[run blankB s]? ≠ some 59) : pars sg s = some ([], 0) := by
  rw [pars]
  split
  · rfl
  · rename_i c q hq
    have : s[run blankB s]? = some c := by rw [← List.head?_drop, hq]; rfl
    rw [if_pos (fun e => h (by rw [this, e]))]
variable (s : List UInt8) (b m n : Nat) (hb : run blankB s = b) (h0 : s[b]? = some 59) (hm : run blankB (s.drop (b + 1)) = m) (hn : run sg (s.drop (b + 1 + m)) = n)
theorem drop59 (h0 : s[b]? = some 59) : s.drop b = 59 :: s.drop (b + 1) := by
  have hlt := (List.getElem?_eq_some_iff.1 h0).1
  rw [List.drop_eq_getElem_cons hlt, (List.getElem?_eq_some_iff.1 h0).2]
include hb h0 hm hn in
theorem pars_skip (h : n = 0) : pars sg s = (pars sg (s.drop (b + 1))).map fun p => (p.1, p.2 + (b + 1)) := by
  subst hb hm
  rw [pars]
  have h1 := drop59 s _ h0
  split
  · rename_i hq; rw [h1] at hq; cases hq
  · rename_i c q hq
    rw [h1] at hq; cases hq
    rw [if_neg (by decide), List.drop_drop, hn, if_pos h]
include hb h0 hm hn in
theorem pars_plain (h : n ≠ 0) (he : s[b + 1 + m + n]? ≠ some 61) : pars sg s = (pars sg (s.drop (b + 1 + m + n))).map fun p => (⟨(s.drop (b + 1 + m)).take n, [], false⟩ :: p.1, p.2 + (b + 1 + m + n)) := by
  subst hb hm
  rw [pars]
  have h1 := drop59 s _ h0
  split
  · rename_i hq; rw [h1] at hq; cases hq
  · rename_i c q hq
    rw [h1] at hq; cases hq
    rw [if_neg (by decide), List.drop_drop, hn, if_neg h, List.drop_drop]
    split
    · rename_i hd
      rw [hd, pars_end sg [] (by simp)]
      simp
    · rename_i d v hd
      have : s[run blankB s + 1 + run blankB (s.drop (run blankB s + 1)) + n]? = some d := by rw [← List.head?_drop, hd]; rfl
      rw [if_neg (fun e => he (by rw [this, e]))]
      rw [List.drop_drop]
      congr 2
      rw [Nat.add_assoc, Nat.add_assoc, Nat.add_assoc]
include hb h0 hm hn in
theorem pars_bad (h : n ≠ 0) (he : s[b + 1 + m + n]? = some 61) (hv : pval sg (s.drop (b + 1 + m + n + 1)) = none) : pars sg s = none := by
  subst hb hm
  rw [pars]
  have h1 := drop59 s _ h0
  split
  · rename_i hq; rw [h1] at hq; cases hq
  · rename_i c q hq
    rw [h1] at hq; cases hq
    rw [if_neg (by decide), List.drop_drop, hn, if_neg h, List.drop_drop]
    split
    · rename_i hd
      rw [← List.head?_drop, hd] at he; cases he
    · rename_i d v hd
      have hlt := (List.getElem?_eq_some_iff.1 he).1
      rw [List.drop_eq_getElem_cons hlt, (List.getElem?_eq_some_iff.1 he).2] at hd
      cases hd
      rw [if_pos rfl, hv]
include hb h0 hm hn in
theorem pars_value (h : n ≠ 0) (he : s[b + 1 + m + n]? = some 61) {x : List UInt8} {k : Nat} (hv : pval sg (s.drop (b + 1 + m + n + 1)) = some (x, k)) :
    pars sg s = (pars sg (s.drop (b + 1 + m + n + 1 + k))).map fun p => (⟨(s.drop (b + 1 + m)).take n, x, true⟩ :: p.1, p.2 + (b + 1 + m + n + 1 + k)) := by
  subst hb hm
  rw [pars]
  have h1 := drop59 s _ h0
  split
  · rename_i hq; rw [h1] at hq; cases hq
  · rename_i c q hq
    rw [h1] at hq; cases hq
    rw [if_neg (by decide), List.drop_drop, hn, if_neg h, List.drop_drop]
    split
    · rename_i hd
      rw [← List.head?_drop, hd] at he; cases he
    · rename_i d v hd
      have hlt := (List.getElem?_eq_some_iff.1 he).1
      rw [List.drop_eq_getElem_cons hlt, (List.getElem?_eq_some_iff.1 he).2] at hd
      cases hd
      rw [if_pos rfl, hv]
      simp only
      rw [List.drop_drop]
      congr 3
      omega
end

/-! ### Printed -/
section
variable (sg : UInt8 → Bool)
def okPar (p : Par) : Bool := tokP sg p.name && fldB p.value && (p.has || p.value.isEmpty)
def prtV (v : List UInt8) : List UInt8 := if tokP sg v = true then v else quoted v
def prt1 (p : Par) : List UInt8 := 59 :: 32 :: (p.name ++ if p.has then 61 :: prtV sg p.value else [])
def prt (l : List Par) : List UInt8 := l.flatMap (prt1 sg)

theorem prt_head (l : List Par) (c : UInt8) (h : (prt sg l).head? = some c) : c = 59 := by
  cases l with
  | nil => cases h
  | cons p l => simp [prt, prt1] at h; exact h.symm
/-- What was printed is read back. -/
theorem pars_prt (h34 : sg 34 = false) (h59 : sg 59 = false) (h61 : sg 61 = false) (hbl : ∀ c, sg c = true → blankB c = false) : ∀ (l : List Par), (∀ p ∈ l, okPar sg p = true) → pars sg (prt sg l) = some (l, (prt sg l).length)
  | [], _ => pars_end sg [] (by simp)
  | p :: l, h => by
    have ih := pars_prt h34 h59 h61 hbl l (fun q hq => h q (by simp [hq]))
    have hp := h p (by simp)
    simp only [okPar, Bool.and_eq_true, Bool.or_eq_true] at hp
    obtain ⟨⟨ht, hf⟩, hv⟩ := hp
    simp only [tokP, Bool.and_eq_true, Bool.not_eq_true', List.isEmpty_eq_false_iff] at ht
    obtain ⟨nm, vl, hs⟩ := p
    simp only at ht hf hv
    have e : prt sg (⟨nm, vl, hs⟩ :: l) = 59 :: 32 :: (nm ++ ((if hs then 61 :: prtV sg vl else []) ++ prt sg l)) := by simp [prt, prt1]
    rw [e]
    have hnl : nm.length ≠ 0 := by simpa using ht.2
    have hhd : ∀ c, nm.head? = some c → sg c = true := fun c hc => List.all_eq_true.1 ht.1 c (List.mem_of_mem_head? hc)
    generalize hrest : ((if hs then 61 :: prtV sg vl else []) ++ prt sg l) = rest
    have hrh : ∀ c, rest.head? = some c → sg c = false := fun c hc => by
      subst hrest
      cases hs
      · simp at hc; rw [prt_head sg l c hc]; exact h59
      · simp at hc; subst hc; exact h61
    have h1 : run blankB (59 :: 32 :: (nm ++ rest)) = 0 := rfl
    have h2 : run blankB ((59 :: 32 :: (nm ++ rest)).drop 1) = 1 := by
      show run blankB ([32] ++ (nm ++ rest)) = 1
      refine run_app _ _ _ rfl (fun c hc => ?_)
      cases nm with
      | nil => exact absurd rfl ht.2
      | cons a nm => simp at hc; subst hc; exact hbl _ (hhd _ rfl)
    have h3 : run sg ((59 :: 32 :: (nm ++ rest)).drop (0 + 1 + 1)) = nm.length := run_app sg nm rest ht.1 hrh
    have hat : (59 :: 32 :: (nm ++ rest))[0 + 1 + 1 + nm.length]? = rest.head? := by
      rw [← List.head?_drop]
      show ((59 :: 32 :: (nm ++ rest)).drop (2 + nm.length)).head? = _
      rw [show (59 :: 32 :: (nm ++ rest) : List UInt8) = (59 :: 32 :: nm) ++ rest by simp, List.drop_left' (by simp; omega)]
    have hd : ∀ k, (59 :: 32 :: (nm ++ rest)).drop (0 + 1 + 1 + nm.length + k) = rest.drop k := fun k => by
      rw [show (59 :: 32 :: (nm ++ rest) : List UInt8) = (59 :: 32 :: nm) ++ rest by simp, ← List.drop_drop, List.drop_left' (by simp; omega)]
    have hnm : ((59 :: 32 :: (nm ++ rest)).drop (0 + 1 + 1)).take nm.length = nm := by simp
    cases hs with
    | false =>
      simp at hv hrest
      subst hrest hv
      have := pars_plain sg _ 0 1 nm.length h1 rfl h2 h3 hnl (by
        rw [hat]
        intro hc
        have := prt_head sg l 61 hc
        cases this)
      rw [this, hnm]
      have hd0 := hd 0
      simp only [Nat.add_zero, List.drop_zero] at hd0
      rw [hd0, ih]
      simp; omega
    | true =>
      simp at hrest
      have hvq : pval sg (rest.drop 1) = some (vl, (prtV sg vl).length) := by
        subst hrest
        rw [List.drop_succ_cons, List.drop_zero]
        unfold pval prtV
        have hh : ∀ c, (prt sg l).head? = some c → sg c = false := fun c hc => by rw [prt_head sg l c hc]; exact h59
        by_cases htv : tokP sg vl = true
        · rw [if_pos htv]
          simp only [tokP, Bool.and_eq_true, Bool.not_eq_true', List.isEmpty_eq_false_iff] at htv
          have hvl : vl.length ≠ 0 := by simpa using htv.2
          rw [run_app sg vl _ htv.1 hh, if_pos (by omega)]
          simp
        · rw [if_neg htv]
          have : run sg (quoted vl ++ prt sg l) = 0 := by
            refine run_app sg [] _ rfl (fun c hc => ?_)
            simp [quoted] at hc; subst hc; exact h34
          rw [this, if_neg (by omega)]
          exact unquote_quoted vl _ hf
      have := pars_value sg _ 0 1 nm.length h1 rfl h2 h3 hnl (by rw [hat, ← hrest]; rfl) (x := vl) (k := (prtV sg vl).length) (by rw [hd 1]; exact hvq)
      rw [this, hnm, show 0 + 1 + 1 + nm.length + 1 + (prtV sg vl).length = 0 + 1 + 1 + nm.length + (1 + (prtV sg vl).length) by omega, hd]
      have hrd : rest.drop (1 + (prtV sg vl).length) = prt sg l := by
        rw [← hrest, Nat.add_comm, List.drop_succ_cons, List.drop_left]
      rw [hrd, ih]
      subst hrest
      simp; omega
end
end Go.Proofs.YtimhofphmgehgaaDoor
