/- PLAIN LAWS of the octet layer: parameters: no program in sight. sg: the signs of tokens. -/
import Derived.Test.YtjphdipbajfojaaDoorOctP
set_option linter.unusedVariables false
set_option linter.unusedSimpArgs false
namespace Go.Proofs.YtjphdipbajfojaaDoor

structure Par where
  name : List UInt8
  value : List UInt8
  has : Bool
deriving DecidableEq

def run (p : UInt8 → Bool) (l : List UInt8) : Nat := (l.takeWhile p).length
theorem run_le (p : UInt8 → Bool) (l : List UInt8) : run p l ≤ l.length := by
  unfold run
  induction l with
  | nil => simp
  | cons a l ih => rw [List.takeWhile_cons]; split <;> simp <;> omega
theorem run_app (p : UInt8 → Bool) (l x : List UInt8) (h : l.all p = true) (hx : ∀ c, x.head? = some c → p c = false) : run p (l ++ x) = l.length := by
  unfold run
  induction l with
  | nil =>
    cases x with
    | nil => rfl
    | cons c x => rw [List.nil_append, List.takeWhile_cons, hx c rfl]; rfl
  | cons a l ih =>
    rw [List.all_cons, Bool.and_eq_true] at h
    rw [List.cons_append, List.takeWhile_cons, h.1]
    simp [ih h.2]
theorem run_step (p : UInt8 → Bool) (l : List UInt8) (n : Nat) (h : (l.take n).all p = true) (hn : n ≤ l.length) (hs : ∀ c, l[n]? = some c → p c = false) : run p l = n := by
  have := run_app p (l.take n) (l.drop n) h (fun c hc => hs c (by rw [List.head?_drop] at hc; exact hc))
  rw [List.take_append_drop] at this
  rw [this, List.length_take]; omega

section
variable (sg : UInt8 → Bool)
def tokP (l : List UInt8) : Bool := l.all sg && !l.isEmpty
/-- A value at the front. -/
def pval (v : List UInt8) : Option (List UInt8 × Nat) := if 0 < run sg v then some (v.take (run sg v), run sg v) else unquote v
def pars (s : List UInt8) : Option (List Par × Nat) := match h : s.drop (run blankB s) with
  | [] => some ([], 0)
  | c :: q => if c ≠ 59 then some ([], 0) else
      if run sg (q.drop (run blankB q)) = 0 then (pars q).map fun p => (p.1, p.2 + (run blankB s + 1)) else
      match (q.drop (run blankB q)).drop (run sg (q.drop (run blankB q))) with
      | [] => some ([⟨(q.drop (run blankB q)).take (run sg (q.drop (run blankB q))), [], false⟩], run blankB s + 1 + run blankB q + run sg (q.drop (run blankB q)))
      | d :: v => if d = 61 then (match pval sg v with
          | none => none
          | some x => (pars (q.drop (run blankB q + run sg (q.drop (run blankB q)) + 1 + x.2))).map fun p => (⟨(q.drop (run blankB q)).take (run sg (q.drop (run blankB q))), x.1, true⟩ :: p.1, p.2 + (run blankB s + 1 + run blankB q + run sg (q.drop (run blankB q)) + 1 + x.2)))
        else (pars (q.drop (run blankB q + run sg (q.drop (run blankB q))))).map fun p => (⟨(q.drop (run blankB q)).take (run sg (q.drop (run blankB q))), [], false⟩ :: p.1, p.2 + (run blankB s + 1 + run blankB q + run sg (q.drop (run blankB q))))
termination_by s.length
decreasing_by all_goals (have hl := congrArg List.length h; simp only [List.length_drop, List.length_cons] at hl ⊢; omega)

/-- No parameter: no semicolon stands behind the blanks. -/
theorem pars_end (s : List UInt8) (h : s[run blankB s]? ≠ some 59) : pars sg s = some ([], 0) := by
  rw [pars]
  split
  · rfl
  · rename_i c q hq
    have : s[run blankB s]? = some c := by rw [← List.head?_drop, hq]; rfl
    rw [if_pos (fun e => h (by rw [this, e]))]
variable (s : List UInt8) (b m n : Nat) (hb : run blankB s = b) (h0 : s[b]? = some 59) (hm : run blankB (s.drop (b + 1)) = m) (hn : run sg (s.drop (b + 1 + m)) = n)
theorem drop59 (h0 : s[b]? = some 59) : s.drop b = 59 :: s.drop (b + 1) := by
  have hlt := (List.getElem?_eq_some_iff.1 h0).1
  rw [List.drop_eq_getElem_cons hlt, (List.getElem?_eq_some_iff.1 h0).2]
include hb h0 hm hn in
theorem pars_skip (h : n = 0) : pars sg s = (pars sg (s.drop (b + 1))).map fun p => (p.1, p.2 + (b + 1)) := by
  subst hb hm
  rw [pars]
  have h1 := drop59 s _ h0
  split
  · rename_i hq; rw [h1] at hq; cases hq
  · rename_i c q hq
    rw [h1] at hq; cases hq
    rw [if_neg (by decide), List.drop_drop, hn, if_pos h]
include hb h0 hm hn in
theorem pars_plain (h : n ≠ 0) (he : s[b + 1 + m + n]? ≠ some 61) : pars sg s = (pars sg (s.drop (b + 1 + m + n))).map fun p => (⟨(s.drop (b + 1 + m)).take n, [], false⟩ :: p.1, p.2 + (b + 1 + m + n)) := by
  subst hb hm
  rw [pars]
  have h1 := drop59 s _ h0
  split
  · rename_i hq; rw [h1] at hq; cases hq
  · rename_i c q hq
    rw [h1] at hq; cases hq
    rw [if_neg (by decide), List.drop_drop, hn, if_neg h, List.drop_drop]
    split
    · rename_i hd
      rw [hd, pars_end sg [] (by simp)]
      simp
    · rename_i d v hd
      have : s[run blankB s + 1 + run blankB (s.drop (run blankB s + 1)) + n]? = some d := by rw [← List.head?_drop, hd]; rfl
      rw [if_neg (fun e => he (by rw [this, e]))]
      rw [List.drop_drop]
      congr 2
      rw [Nat.add_assoc, Nat.add_assoc, Nat.add_assoc]
include hb h0 hm hn in
theorem pars_bad (h : n ≠ 0) (he : s[b + 1 + m + n]? = some 61) (hv : pval sg (s.drop (b + 1 + m + n + 1)) = none) : pars sg s = none := by
  subst hb hm
  rw [pars]
  have h1 := drop59 s _ h0
  split
  · rename_i hq; rw [h1] at hq; cases hq
  · rename_i c q hq
    rw [h1] at hq; cases hq
    rw [if_neg (by decide), List.drop_drop, hn, if_neg h, List.drop_drop]
    split
    · rename_i hd
      rw [← List.head?_drop, hd] at he; cases he
    · rename_i d v hd
      have hlt := (List.getElem?_eq_some_iff.1 he).1
      rw [List.drop_eq_getElem_cons hlt, (List.getElem?_eq_some_iff.1 he).2] at hd
      cases hd
      rw [if_pos rfl, hv]
include hb h0 hm hn in
theorem pars_value (h : n ≠ 0) (he : s[b + 1 + m + n]? = some 61) {x : List UInt8} {k : Nat} (hv : pval sg (s.drop (b + 1 + m + n + 1)) = some (x, k)) :
    pars sg s = (pars sg (s.drop (b + 1 + m + n + 1 + k))).map fun p => (⟨(s.drop (b + 1 + m)).take n, x, true⟩ :: p.1, p.2 + (b + 1 + m + n + 1 + k)) := by
  subst hb hm
  rw [pars]
  have h1 := drop59 s _ h0
  split
  · rename_i hq; rw [h1] at hq; cases hq
  · rename_i c q hq
    rw [h1] at hq; cases hq
    rw [if_neg (by decide), List.drop_drop, hn, if_neg h, List.drop_drop]
    split
    · rename_i hd
      rw [← List.head?_drop, hd] at he; cases he
    · rename_i d v hd
      have hlt := (List.getElem?_eq_some_iff.1 he).1
      rw [List.drop_eq_getElem_cons hlt, (List.getElem?_eq_some_iff.1 he).2] at hd
      cases hd
      rw [if_pos rfl, hv]
      simp only
      rw [List.drop_drop]
      congr 3
      omega
end

/-! ### Printed -/
section
variable (sg : UInt8 → Bool)
def okPar (p : Par) : Bool := tokP sg p.name && fldB p.value && (p.has || p.value.isEmpty)
def prtV (v : List UInt8) : List UInt8 := if tokP sg v = true then v else quoted v
def prt1 (p : Par) : List UInt8 := 59 :: 32 :: (p.name ++ if p.has then 61 :: prtV sg p.value else [])
def prt (l : List Par) : List UInt8 := l.flatMap (prt1 sg)

theorem prt_head (l : List Par) (c : UInt8) (h : (prt sg l).head? = some c) : c = 59 := by
  cases l with
  | nil => cases h
  | cons p l => simp [prt, prt1] at h; exact h.symm
/-- What was printed is read back. -/
theorem pars_prt (h34 : sg 34 = false) (h59 : sg 59 = false) (h61 : sg 61 = false) (hbl : ∀ c, sg c = true → blankB c = false) : ∀ (l : List Par), (∀ p ∈ l, okPar sg p = true) → pars sg (prt sg l) = some (l, (prt sg l).length)
  | [], _ => pars_end sg [] (by simp)
  | p :: l, h => by
    have ih := pars_prt h34 h59 h61 hbl l (fun q hq => h q (by simp [hq]))
    have hp := h p (by simp)
    simp only [okPar, Bool.and_eq_true, Bool.or_eq_true] at hp
    obtain ⟨⟨ht, hf⟩, hv⟩ := hp
    simp only [tokP, Bool.and_eq_true, Bool.not_eq_true', List.isEmpty_eq_false_iff] at ht
    obtain ⟨nm, vl, hs⟩ := p
    simp only at ht hf hv
    have e : prt sg (⟨nm, vl, hs⟩ :: l) = 59 :: 32 :: (nm ++ ((if hs then 61 :: prtV sg vl else []) ++ prt sg l)) := by simp [prt, prt1]
    rw [e]
    have hnl : nm.length ≠ 0 := by simpa using ht.2
    have hhd : ∀ c, nm.head? = some c → sg c = true := fun c hc => List.all_eq_true.1 ht.1 c (List.mem_of_mem_head? hc)
    generalize hrest : ((if hs then 61 :: prtV sg vl else []) ++ prt sg l) = rest
    have hrh : ∀ c, rest.head? = some c → sg c = false := fun c hc => by
      subst hrest
      cases hs
      · simp at hc; rw [prt_head sg l c hc]; exact h59
      · simp at hc; subst hc; exact h61
    have h1 : run blankB (59 :: 32 :: (nm ++ rest)) = 0 := rfl
    have h2 : run blankB ((59 :: 32 :: (nm ++ rest)).drop 1) = 1 := by
      show run blankB ([32] ++ (nm ++ rest)) = 1
      refine run_app _ _ _ rfl (fun c hc => ?_)
      cases nm with
      | nil => exact absurd rfl ht.2
      | cons a nm => simp at hc; subst hc; exact hbl _ (hhd _ rfl)
    have h3 : run sg ((59 :: 32 :: (nm ++ rest)).drop (0 + 1 + 1)) = nm.length := run_app sg nm rest ht.1 hrh
    have hat : (59 :: 32 :: (nm ++ rest))[0 + 1 + 1 + nm.length]? = rest.head? := by
      rw [← List.head?_drop]
      show ((59 :: 32 :: (nm ++ rest)).drop (2 + nm.length)).head? = _
      rw [show (59 :: 32 :: (nm ++ rest) : List UInt8) = (59 :: 32 :: nm) ++ rest by simp, List.drop_left' (by simp; omega)]
    have hd : ∀ k, (59 :: 32 :: (nm ++ rest)).drop (0 + 1 + 1 + nm.length + k) = rest.drop k := fun k => by
      rw [show (59 :: 32 :: (nm ++ rest) : List UInt8) = (59 :: 32 :: nm) ++ rest by simp, ← List.drop_drop, List.drop_left' (by simp; omega)]
    have hnm : ((59 :: 32 :: (nm ++ rest)).drop (0 + 1 + 1)).take nm.length = nm := by simp
    cases hs with
    | false =>
      simp at hv hrest
      subst hrest hv
      have := pars_plain sg _ 0 1 nm.length h1 rfl h2 h3 hnl (by
        rw [hat]
        intro hc
        have := prt_head sg l 61 hc
        cases this)
      rw [this, hnm]
      have hd0 := hd 0
      simp only [Nat.add_zero, List.drop_zero] at hd0
      rw [hd0, ih]
      simp; omega
    | true =>
      simp at hrest
      have hvq : pval sg (rest.drop 1) = some (vl, (prtV sg vl).length) := by
        subst hrest
        rw [List.drop_succ_cons, List.drop_zero]
        unfold pval prtV
        have hh : ∀ c, (prt sg l).head? = some c → sg c = false := fun c hc => by rw [prt_head sg l c hc]; exact h59
        by_cases htv : tokP sg vl = true
        · rw [if_pos htv]
          simp only [tokP, Bool.and_eq_true, Bool.not_eq_true', List.isEmpty_eq_false_iff] at htv
          have hvl : vl.length ≠ 0 := by simpa using htv.2
          rw [run_app sg vl _ htv.1 hh, if_pos (by omega)]
          simp
        · rw [if_neg htv]
          have : run sg (quoted vl ++ prt sg l) = 0 := by
            refine run_app sg [] _ rfl (fun c hc => ?_)
            simp [quoted] at hc; subst hc; exact h34
          rw [this, if_neg (by omega)]
          exact unquote_quoted vl _ hf
      have := pars_value sg _ 0 1 nm.length h1 rfl h2 h3 hnl (by rw [hat, ← hrest]; rfl) (x := vl) (k := (prtV sg vl).length) (by rw [hd 1]; exact hvq)
      rw [this, hnm, show 0 + 1 + 1 + nm.length + 1 + (prtV sg vl).length = 0 + 1 + 1 + nm.length + (1 + (prtV sg vl).length) by omega, hd]
      have hrd : rest.drop (1 + (prtV sg vl).length) = prt sg l := by
        rw [← hrest, Nat.add_comm, List.drop_succ_cons, List.drop_left]
      rw [hrd, ih]
      subst hrest
      simp; omega
end
end Go.Proofs.YtjphdipbajfojaaDoor
