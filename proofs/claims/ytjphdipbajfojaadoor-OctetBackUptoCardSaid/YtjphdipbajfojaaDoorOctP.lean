/- PLAIN LAWS of the octet layer: quoted texts, lists, parameters, as lists of bytes: no program in sight. -/
import Derived.Lib.SlTrimSet
import Derived.Lib.Join
set_option linter.unusedVariables false
set_option linter.unusedSimpArgs false
namespace Go.Proofs.YtjphdipbajfojaaDoor

/-- A byte that may stand in a field; a blank. -/
def fcB (b : UInt8) : Bool := b == 9 || (decide (32 ≤ b.toNat) && b != 127)
def blankB (b : UInt8) : Bool := b == 32 || b == 9
def fldB (l : List UInt8) : Bool := l.all fcB

/-- What stands behind a quote mark: what it says, how many bytes, the closing mark too. -/
def unq : List UInt8 → Option (List UInt8 × Nat)
  | [] => none
  | c :: r => if c = 34 then some ([], 1) else if c = 92 then (match r with
      | [] => none
      | d :: r' => if fcB d then (unq r').map fun p => (d :: p.1, p.2 + 2) else none)
    else if fcB c then (unq r).map fun p => (c :: p.1, p.2 + 1) else none
/-- A quoted text at the front: what it says, how many bytes; 0: there is none. -/
def unquote (s : List UInt8) : Option (List UInt8 × Nat) := match s with
  | [] => none
  | c :: r => if c = 34 then (unq r).map fun p => (p.1, p.2 + 1) else none
def escB (c : UInt8) : List UInt8 := if c = 34 ∨ c = 92 then [92, c] else [c]
def esc (s : List UInt8) : List UInt8 := s.flatMap escB
def quoted (s : List UInt8) : List UInt8 := 34 :: (esc s ++ [34])

theorem unq_le : ∀ (n : Nat) (s l : List UInt8) (k : Nat), s.length ≤ n → unq s = some (l, k) → 1 ≤ k ∧ k ≤ s.length ∧ l.length + 1 ≤ k
  | n, [], l, k, _, h => by simp [unq] at h
  | 0, c :: r, l, k, hn, h => by simp at hn
  | n + 1, c :: r, l, k, hn, h => by
    simp only [List.length_cons] at hn
    unfold unq at h
    split at h
    · simp at h; obtain ⟨rfl, rfl⟩ := h; simp
    · split at h
      · cases r with
        | nil => simp at h
        | cons d r' =>
          simp only [List.length_cons] at hn
          simp only at h
          split at h
          · cases hu : unq r' with
            | none => simp [hu] at h
            | some p =>
              simp [hu] at h
              obtain ⟨rfl, rfl⟩ := h
              have := unq_le n r' p.1 p.2 (by omega) hu
              simp only [List.length_cons]; omega
          · cases h
      · split at h
        · cases hu : unq r with
          | none => simp [hu] at h
          | some p =>
            simp [hu] at h
            obtain ⟨rfl, rfl⟩ := h
            have := unq_le n r p.1 p.2 (by omega) hu
            simp only [List.length_cons]; omega
        · cases h
theorem unq_app (b : List UInt8) : ∀ (n : Nat) (s l : List UInt8) (k : Nat), s.length ≤ n → unq s = some (l, k) → unq (s ++ b) = some (l, k)
  | n, [], l, k, _, h => by simp [unq] at h
  | 0, c :: r, l, k, hn, h => by simp at hn
  | n + 1, c :: r, l, k, hn, h => by
    simp only [List.length_cons] at hn
    rw [List.cons_append]
    unfold unq at h ⊢
    split
    · rename_i hc; rw [if_pos hc] at h; exact h
    · rename_i hc
      rw [if_neg hc] at h
      split
      · rename_i h2
        rw [if_pos h2] at h
        cases r with
        | nil => simp at h
        | cons d r' =>
          simp only [List.length_cons] at hn
          simp only [List.cons_append] at h ⊢
          split
          · rename_i hf
            rw [if_pos hf] at h
            cases hu : unq r' with
            | none => simp [hu] at h
            | some p => rw [unq_app b n r' p.1 p.2 (by omega) hu]; rw [hu] at h; exact h
          · rename_i hf; rw [if_neg hf] at h; cases h
      · rename_i h2
        rw [if_neg h2] at h
        split
        · rename_i hf
          rw [if_pos hf] at h
          cases hu : unq r with
          | none => simp [hu] at h
          | some p => rw [unq_app b n r p.1 p.2 (by omega) hu]; rw [hu] at h; exact h
        · rename_i hf; rw [if_neg hf] at h; cases h
theorem unquote_le {s l : List UInt8} {k : Nat} (h : unquote s = some (l, k)) : 2 ≤ k ∧ k ≤ s.length ∧ l.length + 2 ≤ k := by
  unfold unquote at h
  split at h
  · cases h
  · rename_i c r
    split at h
    · cases hu : unq r with
      | none => simp [hu] at h
      | some p =>
        simp [hu] at h
        obtain ⟨rfl, rfl⟩ := h
        have := unq_le _ r p.1 p.2 (Nat.le_refl _) hu
        simp only [List.length_cons]; omega
    · cases h
theorem unquote_app {s l : List UInt8} {k : Nat} (b : List UInt8) (h : unquote s = some (l, k)) : unquote (s ++ b) = some (l, k) := by
  unfold unquote at h ⊢
  cases s with
  | nil => simp at h
  | cons c r =>
    simp only [List.cons_append] at h ⊢
    split
    · rename_i hc
      rw [if_pos hc] at h
      cases hu : unq r with
      | none => simp [hu] at h
      | some p => rw [unq_app b _ r p.1 p.2 (Nat.le_refl _) hu]; rw [hu] at h; exact h
    · rename_i hc; rw [if_neg hc] at h; cases h
theorem unq_esc (b : List UInt8) : ∀ s : List UInt8, fldB s = true → unq (esc s ++ 34 :: b) = some (s, (esc s).length + 1)
  | [], _ => by
    show unq (34 :: b) = _
    unfold unq
    rw [if_pos rfl]; rfl
  | c :: s, h => by
    unfold fldB at h
    rw [List.all_cons, Bool.and_eq_true] at h
    have ih := unq_esc b s h.2
    have e : esc (c :: s) = escB c ++ esc s := by simp [esc]
    rw [e, List.append_assoc]
    unfold escB
    by_cases hc : c = 34 ∨ c = 92
    · rw [if_pos hc]
      simp only [List.cons_append, List.nil_append]
      unfold unq
      rw [if_neg (by decide), if_pos rfl]
      simp [h.1, ih]
    · rw [if_neg hc]
      simp only [List.cons_append, List.nil_append]
      unfold unq
      rw [if_neg (fun e => hc (.inl e)), if_neg (fun e => hc (.inr e)), if_pos h.1, ih]
      simp
theorem unquote_quoted (s b : List UInt8) (h : fldB s = true) : unquote (quoted s ++ b) = some (s, (quoted s).length) := by
  unfold unquote quoted
  simp only [List.cons_append, List.append_assoc, List.nil_append, if_pos]
  rw [unq_esc b s h]
  simp

/-! ### Lists -/
def trimB (l : List UInt8) : List UInt8 := Go.Lib.trimS l [32, 9]
/-- The pieces between the commas that stand outside quoted texts. acc: what stands in the first piece already. -/
def cut (acc : List UInt8) (s : List UInt8) : Option (List (List UInt8)) := match s with
  | [] => some [acc]
  | c :: r => if c = 44 then (cut [] r).map (acc :: ·) else if c = 34 then (match unquote (c :: r) with
      | none => none
      | some p => cut (acc ++ (c :: r).take p.2) (r.drop (p.2 - 1)))
    else cut (acc ++ [c]) r
termination_by s.length
decreasing_by all_goals (simp only [List.length_cons, List.length_drop]; omega)
def keepB (l : List (List UInt8)) : List (List UInt8) := (l.map trimB).filter fun x => !x.isEmpty
def listB (s : List UInt8) : Option (List (List UInt8)) := (cut [] s).map keepB

theorem cut_nil (acc : List UInt8) : cut acc [] = some [acc] := by rw [cut]
theorem cut_comma (acc r : List UInt8) : cut acc (44 :: r) = (cut [] r).map (acc :: ·) := by rw [cut]; simp
theorem cut_plain (acc r : List UInt8) (c : UInt8) (h1 : c ≠ 44) (h2 : c ≠ 34) : cut acc (c :: r) = cut (acc ++ [c]) r := by rw [cut, if_neg h1, if_neg h2]
theorem cut_bad (acc r : List UInt8) (h : unquote (34 :: r) = none) : cut acc (34 :: r) = none := by rw [cut]; simp [h]
theorem cut_quote (acc r l : List UInt8) (k : Nat) (h : unquote (34 :: r) = some (l, k)) : cut acc (34 :: r) = cut (acc ++ (34 :: r).take k) ((34 :: r).drop k) := by
  rw [cut]
  have := (unquote_le h).1
  simp only [h]
  rw [if_neg (by decide), if_pos trivial]
  congr 1
  obtain ⟨j, rfl⟩ : ∃ j, k = j + 1 := ⟨k - 1, by omega⟩
  simp

/-- A comma between two texts. -/
theorem cut_app (b : List UInt8) : ∀ (n : Nat) (acc s : List UInt8) (x : List (List UInt8)), s.length ≤ n → cut acc s = some x → cut acc (s ++ 44 :: b) = (cut [] b).map (x ++ ·)
  | n, acc, [], x, _, h => by
    rw [cut_nil] at h; cases h
    rw [List.nil_append, cut_comma]
    rfl
  | 0, acc, c :: r, x, hn, h => by simp at hn
  | n + 1, acc, c :: r, x, hn, h => by
    simp only [List.length_cons] at hn
    rw [List.cons_append]
    by_cases h1 : c = 44
    · subst h1
      rw [cut_comma] at h ⊢
      cases hc : cut [] r with
      | none => simp [hc] at h
      | some y =>
        simp [hc] at h
        subst h
        rw [cut_app b n [] r y (by omega) hc]
        cases cut [] b <;> simp
    · by_cases h2 : c = 34
      · subst h2
        cases hu : unquote (34 :: r) with
        | none => rw [cut_bad _ _ hu] at h; cases h
        | some p =>
          have hl := unquote_le hu
          simp only [List.length_cons] at hl
          rw [cut_quote acc r p.1 p.2 hu] at h
          have hu' := unquote_app (44 :: b) hu
          rw [List.cons_append] at hu'
          rw [cut_quote acc _ p.1 p.2 hu', ← List.cons_append, List.take_append_of_le_length (by simp; omega), List.drop_append_of_le_length (by simp; omega)]
          exact cut_app b n _ _ x (by simp; omega) h
      · rw [cut_plain _ _ _ h1 h2] at h ⊢
        exact cut_app b n _ _ x (by omega) h
theorem keepB_app (a b : List (List UInt8)) : keepB (a ++ b) = keepB a ++ keepB b := by simp [keepB]
/-- OctetSplit. -/
theorem listB_app (a b : List UInt8) (x : List (List UInt8)) (h : listB a = some x) : listB (a ++ 44 :: b) = (listB b).map (x ++ ·) := by
  unfold listB at h ⊢
  cases hc : cut [] a with
  | none => simp [hc] at h
  | some y =>
    simp [hc] at h
    subst h
    rw [cut_app b _ [] a y (Nat.le_refl _) hc]
    cases cut [] b <;> simp [keepB_app]

/-- A blank ahead of a text has no part. -/
theorem trimB_blank (c : UInt8) (hc : blankB c = true) (l : List UInt8) : trimB (c :: l) = trimB l := by
  have hcs : [32, 9].contains c = true := by
    unfold blankB at hc
    simpa using hc
  unfold trimB Go.Lib.trimS Go.Lib.trimLeftS Go.Lib.trimRightS
  rw [List.reverse_cons]
  generalize hr : l.reverse = r
  have : ∀ r : List UInt8, (((r ++ [c]).dropWhile ([32, 9].contains ·)).reverse).dropWhile ([32, 9].contains ·) = ((r.dropWhile ([32, 9].contains ·)).reverse).dropWhile ([32, 9].contains ·) := by
    intro r
    induction r with
    | nil => rw [List.nil_append, List.dropWhile_cons_of_pos hcs]
    | cons d r ih =>
      rw [List.cons_append]
      by_cases hd : [32, 9].contains d = true
      · rw [List.dropWhile_cons_of_pos hd, List.dropWhile_cons_of_pos hd]; exact ih
      · rw [List.dropWhile_cons_of_neg hd, List.dropWhile_cons_of_neg hd, ← List.cons_append, List.reverse_append, List.reverse_singleton, List.singleton_append, List.dropWhile_cons_of_pos hcs]
  exact this r
theorem cut_acc_blank (c : UInt8) : ∀ (n : Nat) (acc s : List UInt8), s.length ≤ n → cut (c :: acc) s = (cut acc s).map fun l => match l with | [] => [] | x :: r => (c :: x) :: r
  | n, acc, [], _ => by rw [cut_nil, cut_nil]; rfl
  | 0, acc, d :: r, hn => by simp at hn
  | n + 1, acc, d :: r, hn => by
    simp only [List.length_cons] at hn
    by_cases h1 : d = 44
    · subst h1
      rw [cut_comma, cut_comma]
      cases cut [] r <;> simp
    · by_cases h2 : d = 34
      · subst h2
        cases hu : unquote (34 :: r) with
        | none => rw [cut_bad _ _ hu, cut_bad _ _ hu]; rfl
        | some p =>
          have hl := unquote_le hu
          simp only [List.length_cons] at hl
          rw [cut_quote _ r p.1 p.2 hu, cut_quote _ r p.1 p.2 hu, List.cons_append]
          exact cut_acc_blank c n _ _ (by simp; omega)
      · rw [cut_plain _ _ _ h1 h2, cut_plain _ _ _ h1 h2, List.cons_append]
        exact cut_acc_blank c n _ _ (by omega)
theorem listB_blank (c : UInt8) (hc : blankB c = true) (s : List UInt8) : listB (c :: s) = listB s := by
  unfold listB
  have h1 : c ≠ 44 := by rintro rfl; simp [blankB] at hc
  have h2 : c ≠ 34 := by rintro rfl; simp [blankB] at hc
  rw [cut_plain _ _ _ h1 h2, List.nil_append]
  rw [cut_acc_blank c _ [] s (Nat.le_refl _)]
  cases cut [] s with
  | none => rfl
  | some l => cases l with
    | nil => rfl
    | cons x r => simp [keepB, trimB_blank c hc]
theorem listB_nil : listB [] = some [] := by
  unfold listB
  rw [cut_nil]
  rfl
/-- OctetJoins. -/
theorem listB_join : ∀ (l : List (List UInt8)), (∀ x ∈ l, listB x = some [x]) → listB (Go.Lib.join l [44, 32]) = some l
  | [], _ => by rw [Go.Lib.join_nil]; exact listB_nil
  | [x], h => by rw [Go.Lib.join_one]; exact h x (by simp)
  | x :: y :: r, h => by
    have ih := listB_join (y :: r) (fun z hz => h z (by simp [hz]))
    have e : Go.Lib.join (x :: y :: r) [44, 32] = x ++ 44 :: 32 :: Go.Lib.join (y :: r) [44, 32] := by
      simp [Go.Lib.join, List.intercalate, List.intersperse]
    rw [e, listB_app x _ [x] (h x (by simp)), listB_blank 32 rfl, ih]
    rfl
end Go.Proofs.YtjphdipbajfojaaDoor
