/- Part 7 of the texts below the law: the abstract machine, the functions that it walks, what they compute. -/
import Derived.Test.YtcdkcaocfioigaaGreatDoorPf6
set_option linter.unusedVariables false
set_option linter.unnecessarySimpa false
set_option linter.unusedSimpArgs false
set_option linter.unusedSectionVars false
set_option maxRecDepth 100000
namespace Go.Proofs.YtcdkcaocfioigaaGreatDoor
open Go Go.RowKit Go.Proofs

def goD (d : Dec) : Prop := d.done = false ∧ d.err = 0
theorem feedD_cons (d : Dec) (b : UInt8) (s : List UInt8) : feedD d (b :: s) = if (feed1 d b).done = true ∨ (feed1 d b).err ≠ 0 then (feed1 d b, 1) else ((feedD (feed1 d b) s).1, (feedD (feed1 d b) s).2 + 1) := rfl
theorem feedD_go {d : Dec} {b : UInt8} (s : List UInt8) (h : goD (feed1 d b)) : feedD d (b :: s) = ((feedD (feed1 d b) s).1, (feedD (feed1 d b) s).2 + 1) := by
  rw [feedD_cons, if_neg]; rintro (h1 | h1)
  · rw [h.1] at h1; cases h1
  · exact h1 h.2
theorem feedD_stop {d : Dec} {b : UInt8} (s : List UInt8) (h : (feed1 d b).done = true ∨ (feed1 d b).err ≠ 0) : feedD d (b :: s) = (feed1 d b, 1) := by rw [feedD_cons, if_pos h]
theorem feedD_cat : ∀ (a : List UInt8) (d e : Dec) (s : List UInt8), feedD d a = (e, a.length) → goD e → feedD d (a ++ s) = ((feedD e s).1, (feedD e s).2 + a.length)
  | [], d, e, s, h, _ => by cases h; simp
  | b :: a, d, e, s, h, hg => by
    rw [List.cons_append, feedD_cons]
    rw [feedD_cons] at h
    split at h
    · rename_i hs
      have h1 := (Prod.mk.inj h).1
      rw [h1] at hs
      rcases hs with hs | hs
      · rw [hg.1] at hs; cases hs
      · exact absurd hg.2 hs
    · rename_i hs
      rw [if_neg hs]
      have h1 := Prod.mk.inj h
      have h2 : (feedD (feed1 d b) a).2 = a.length := by have := h1.2; simp at this; omega
      rw [feedD_cat a (feed1 d b) e s (by rw [← h1.1, ← h2]) hg]
      simp; omega

theorem run_size : ∀ (a : List UInt8) (d : Dec), d.st = .size → goD d → (∀ b ∈ a, b ≠ 10) → d.line.length + a.length ≤ 255 → feedD d a = ({ d with line := d.line ++ a, total := d.total + a.length }, a.length)
  | [], d, _, _, _, _ => by simp [feedD]
  | b :: a, d, hs, hg, ha, hl => by
    have hb : b ≠ 10 := ha b (by simp)
    simp only [List.length_cons] at hl
    have h1 : feed1 d b = { d with line := d.line ++ [b], total := d.total + 1 } := by
      unfold feed1 stepD
      simp only [hs, sizeD, hb, if_pos, ne_eq, not_false_eq_true]
      rw [if_neg (by simp; omega), ← hg.2]
    have hg' : goD (feed1 d b) := by rw [h1]; exact hg
    rw [feedD_go _ hg', h1, run_size a { d with line := d.line ++ [b], total := d.total + 1 } hs hg (fun c hc => ha c (by simp [hc])) (by simp; omega)]
    simp; omega
theorem run_trail : ∀ (a : List UInt8) (d : Dec), d.st = .trailer → goD d → (∀ b ∈ a, b ≠ 10) → (d.section_ : Int) + a.length ≤ d.room → feedD d a = ({ d with line := d.line ++ a, section_ := d.section_ + a.length, total := d.total + a.length }, a.length)
  | [], d, _, _, _, _ => by simp [feedD]
  | b :: a, d, hs, hg, ha, hl => by
    have hb : b ≠ 10 := ha b (by simp)
    simp only [List.length_cons] at hl
    have h1 : feed1 d b = { d with line := d.line ++ [b], section_ := d.section_ + 1, total := d.total + 1 } := by
      unfold feed1 stepD
      simp only [hs, trailerD, hb, if_pos, ne_eq, not_false_eq_true]
      rw [if_neg (by omega)]
      simp only [hs, ← hg.2]
    have hg' : goD (feed1 d b) := by rw [h1]; exact hg
    rw [feedD_go _ hg', h1, run_trail a { d with line := d.line ++ [b], section_ := d.section_ + 1, total := d.total + 1 } hs hg (fun c hc => ha c (by simp [hc])) (by simp; omega)]
    simp; omega
theorem run_data : ∀ (a : List UInt8) (d : Dec), d.st = .data → goD d → (a.length : Int) < d.left → feedD d a = ({ d with body := d.body ++ a, left := d.left - a.length, total := d.total + a.length }, a.length)
  | [], d, _, _, _ => by simp [feedD]
  | b :: a, d, hs, hg, hl => by
    simp only [List.length_cons] at hl
    have h1 : feed1 d b = { d with body := d.body ++ [b], left := d.left - 1, total := d.total + 1 } := by
      unfold feed1 stepD
      simp only [hs, dataD]
      rw [if_neg (by omega)]
      simp only [hs, ← hg.2]
    have hg' : goD (feed1 d b) := by rw [h1]; exact hg
    rw [feedD_go _ hg', h1, run_data a { d with body := d.body ++ [b], left := d.left - 1, total := d.total + 1 } hs hg (by simp; omega)]
    simp
    exact ⟨by omega, by omega⟩
theorem full_data (a : List UInt8) (d : Dec) (hs : d.st = .data) (hg : goD d) (h0 : a ≠ []) (hl : (a.length : Int) = d.left) : feedD d a = ({ d with body := d.body ++ a, left := 0, st := .first, total := d.total + a.length }, a.length) := by
  obtain ⟨x, b, rfl⟩ : ∃ x b, a = x ++ [b] := ⟨a.dropLast, a.getLast h0, (List.dropLast_concat_getLast h0).symm⟩
  rw [List.length_append] at hl
  simp at hl
  have hr := run_data x d hs hg (by omega)
  rw [feedD_cat x d _ [b] hr hg]
  have h1 : feed1 { d with body := d.body ++ x, left := d.left - x.length, total := d.total + x.length } b = { d with body := d.body ++ (x ++ [b]), left := 0, st := .first, total := d.total + (x ++ [b]).length } := by
    unfold feed1 stepD
    simp only [hs, dataD]
    rw [if_pos (by omega)]
    simp [← hg.2]
    omega
  rw [feedD_go [] (by rw [h1]; exact hg), h1]
  simp [feedD]
  omega
/-- A line behind its 10: what it says. -/
theorem endL_snoc (l : List UInt8) (a n : Nat) (h : a + n ≤ l.length) : endL ((l.drop a).take n ++ [10]) = if n = 0 ∨ l[a + n - 1]? ≠ some 13 then none else some ((l.drop a).take (n - 1)) := by
  have hlen : ((l.drop a).take n).length = n := by rw [List.length_take, List.length_drop]; omega
  unfold endL
  rw [List.length_append, hlen]
  by_cases h0 : n = 0
  · subst h0; simp
  · obtain ⟨m, rfl⟩ : ∃ m, n = m + 1 := ⟨n - 1, by omega⟩
    have hat : ((l.drop a).take (m + 1))[m]? = l[a + m]? := by rw [List.getElem?_take_of_lt (by omega), List.getElem?_drop]
    obtain ⟨c, hc⟩ : ∃ c, l[a + m]? = some c := ⟨_, List.getElem?_eq_getElem (by omega)⟩
    have hsn : (l.drop a).take (m + 1) = (l.drop a).take m ++ [c] := by
      rw [List.take_add_one, List.getElem?_drop, hc]; rfl
    have hml : ((l.drop a).take m).length = m := by rw [List.length_take, List.length_drop]; omega
    have e1 : m + 1 + [(10 : UInt8)].length - 2 = m := by simp
    have e2 : a + (m + 1) - 1 = a + m := by omega
    rw [e1, e2, hc, hsn, List.append_assoc, List.drop_append_of_le_length (by omega), List.drop_of_length_le (by omega), List.take_append_of_le_length (by omega), List.take_of_length_le (by omega)]
    by_cases hcc : c = 13
    · subst hcc
      simp
    · simp [hcc]
/-- The byte that ends a size line. -/
def sizeE (d : Dec) (x : Option (List UInt8)) : Dec × Int := match x with
  | none => ({ d with line := [] }, 100)
  | some s => if (sizeAns s).2.2 ≠ 0 then ({ d with line := [] }, (sizeAns s).2.2)
    else if d.most - d.body.length < (sizeAns s).1 then ({ d with line := [] }, 102)
    else if (sizeAns s).1 = 0 then ({ d with line := [], st := .trailer }, 0)
    else ({ d with line := [], left := (sizeAns s).1, st := .data }, 0)
theorem feed1_size (d : Dec) (hs : d.st = .size) : feed1 d 10 = { (sizeE { d with total := d.total + 1 } (endL (d.line ++ [10]))).1 with err := (sizeE { d with total := d.total + 1 } (endL (d.line ++ [10]))).2 } := by
  unfold feed1 stepD
  simp only [hs, sizeD, ne_eq, not_true_eq_false, if_false]
  cases endL (d.line ++ [10]) <;> rfl
/-- The byte that ends a trailer's line. -/
def trailE (d : Dec) (x : Option (List UInt8)) : Dec × Int := match x with
  | none => ({ d with section_ := d.section_ + 1, line := [] }, 101)
  | some s => if s = [] then ({ d with section_ := d.section_ + 1, line := [], done := true }, 0)
    else if d.fields ≤ d.trailers.length then ({ d with section_ := d.section_ + 1, line := [] }, 104)
    else match lineF s with
      | none => ({ d with section_ := d.section_ + 1, line := [] }, 101)
      | some f => if mayB f.name = true then ({ d with section_ := d.section_ + 1, line := [], trailers := d.trailers ++ [f] }, 0) else ({ d with section_ := d.section_ + 1, line := [] }, 101)
theorem feed1_trail (d : Dec) (hs : d.st = .trailer) (hr : (d.section_ : Int) < d.room) : feed1 d 10 = { (trailE { d with total := d.total + 1 } (endL (d.line ++ [10]))).1 with err := (trailE { d with total := d.total + 1 } (endL (d.line ++ [10]))).2 } := by
  unfold feed1 stepD
  simp only [hs, trailerD, ne_eq, not_true_eq_false, if_false]
  rw [if_neg (by omega)]
  cases endL (d.line ++ [10]) <;> rfl
end Go.Proofs.YtcdkcaocfioigaaGreatDoor

set_option linter.unusedVariables false
set_option linter.unnecessarySimpa false
set_option linter.unusedSimpArgs false
set_option linter.unusedSectionVars false
set_option maxRecDepth 100000
namespace Go.Proofs.YtcdkcaocfioigaaGreatDoor
open Go Go.RowKit Go.Proofs

theorem trimB_all (l : List UInt8) (h : l.all blankB = true) : trimB l = [] := by
  induction l with
  | nil => rfl
  | cons c l ih =>
    simp only [List.all_cons, Bool.and_eq_true] at h
    rw [trimB_blank c h.1, ih h.2]
theorem trimB_len (l : List UInt8) : (trimB l).length ≤ l.length := by
  rw [trim_comm]
  unfold rt lt
  rw [List.length_reverse]
  refine Nat.le_trans (List.dropWhile_sublist _).length_le ?_
  rw [List.length_reverse]
  exact (List.dropWhile_sublist _).length_le
def not10 (b : UInt8) : Bool := b != 10
theorem run_stop {p : UInt8 → Bool} {l : List UInt8} (h : run p l < l.length) : ∃ b, l[run p l]? = some b ∧ p b = false := by
  unfold run at h ⊢
  induction l with
  | nil => simp at h
  | cons a l ih =>
    by_cases ha : p a = true
    · rw [List.takeWhile_cons_of_pos ha] at h ⊢
      obtain ⟨b, h1, h2⟩ := ih (by simpa using h)
      exact ⟨b, by simpa using h1, h2⟩
    · rw [List.takeWhile_cons_of_neg ha]
      exact ⟨a, rfl, by simpa using ha⟩
theorem run_take {p : UInt8 → Bool} {l : List UInt8} {k : Nat} (h : k ≤ run p l) : (l.take k).all p = true := by
  induction l generalizing k with
  | nil => simp
  | cons a l ih =>
    cases k with
    | zero => simp
    | succ k =>
      by_cases ha : p a = true
      · unfold run at h
        rw [List.takeWhile_cons_of_pos ha] at h
        simp only [List.take_succ_cons, List.all_cons, ha, Bool.true_and]
        exact ih (by simpa [run] using h)
      · unfold run at h
        rw [List.takeWhile_cons_of_neg ha] at h
        simp at h
theorem run_at {p : UInt8 → Bool} {l : List UInt8} {k : Nat} {b : UInt8} (h : k < run p l) (hb : l[k]? = some b) : p b = true := by
  have := run_take (k := k + 1) (p := p) (l := l) (by omega)
  rw [all_take p l k b hb] at this
  simpa using (Bool.and_eq_true _ _ ▸ this).2
section
variable (E : Env) (H : Hp) (Q : AV → Hp → Prop)
def findInv (l : List UInt8) (c : UInt8) (H : Hp) (fr : List AV) (H' : Hp) : Prop := H' = H ∧ ∃ i : Nat, i ≤ l.length ∧ (∀ j, j < i → l[j]? ≠ some c) ∧ ∃ x : Nat → AV, fr = [.str l, .int .u8 (c.toNat : Int), x 2, x 3, x 4, .int .i64 i, x 6, x 7, x 8, x 9, x 10, x 11, x 12, x 13, x 14, x 15, x 16, x 17]
theorem find_pc (l : List UInt8) (c : UInt8) (hl : l.length ≤ cap) (hQ : Q (.int .i64 (Lib.indexByte l c)) H) : PC Tryz.prog E 122 [.str l, .int .u8 (c.toNat : Int)] H Q := by
  simp only [cap] at hl
  refine pc_enter Tryz.func122 rfl [] [] (by kernel_rfl) (fun hB => ?_)
  have fin : ∀ z : Int, Lib.indexByte l c = z → Q (.int .i64 z) H := fun z hz => hz ▸ hQ
  simp [Tryz.ntmps122, Tryz.results122, List.replicate_succ]
  refine VL_go (findInv l c H) (fun fr _ => l.length - (ai (aget fr 5)).toNat) ⟨rfl, 0, by omega, (fun j hj => by omega), fr_intro (by simp)⟩ ?_
  rintro fr H' ⟨rfl, i, hi, hno, x, rfl⟩
  by_cases h : i < l.length
  · obtain ⟨b, hb⟩ : ∃ b, l[i]? = some b := ⟨_, List.getElem?_eq_getElem h⟩
    have hat := lat_eq hb
    have hw : IntKind.i64.wrap ((i : Int) + 1) = i + 1 := wrap_in (by omega) (by omega)
    by_cases he : b = c
    · subst he
      simp [h, hat]
      exact aPost_same0 hB rfl (nilV_refl _) (by simp) (fin _ (index_at l b i hb hno))
    · have t1 : ((b.toNat : Int) == (c.toNat : Int)) = false := by
        rw [beq_eq_false_iff_ne]
        intro hh
        exact he (UInt8.toNat_inj.1 (by omega))
      simp [h, hat, t1, hw]
      refine Kloop_normal ⟨rfl, i + 1, by omega, (fun j hj => ?_), fr_intro (by simp)⟩ (by simp; omega)
      by_cases hji : j = i
      · subst hji; rw [hb]; intro e; cases e; exact he rfl
      · exact hno j (by omega)
  · simp [h]
    exact aPost_same0 hB rfl (nilV_refl _) (by simp) (fin _ (index_no l c (fun j hj => hno j (by omega))))
def dlInv1 (l : List UInt8) (c : Nat) (H : Hp) (fr : List AV) (H' : Hp) : Prop := H' = H ++ [[.str [], .str []]] ∧ ∃ i : Nat, i ≤ c ∧ i ≤ 128 ∧ (l.take i).all signB = true ∧ ∃ x : Nat → AV, fr = [.str l, x 1, .ptr (some (H.length, 0)), x 3, x 4, .int .i64 c, .int .i64 i, x 7, x 8, x 9, x 10, x 11, x 12, x 13, x 14, x 15, x 16, x 17, x 18, x 19, x 20, x 21, x 22, x 23, x 24, x 25, x 26, x 27, x 28, x 29, x 30, x 31, x 32, x 33, x 34, x 35, x 36, x 37, x 38, x 39, x 40, x 41, x 42, x 43, x 44, x 45, x 46, x 47, x 48, x 49, x 50, x 51, x 52, x 53, x 54, x 55, x 56, x 57, x 58, x 59, x 60, x 61, x 62, x 63, x 64, x 65, x 66, x 67, x 68, x 69, x 70, x 71, x 72, x 73, x 74, x 75, x 76, x 77, x 78, x 79, x 80, x 81, x 82]
def dlInv2 (l : List UInt8) (c : Nat) (H : Hp) (fr : List AV) (H' : Hp) : Prop := H' = H ++ [[.str [], .str []]] ∧ ∃ i : Nat, i ≤ l.length ∧ c + 1 ≤ i ∧ fldB ((l.drop (c + 1)).take (i - (c + 1))) = true ∧ ∃ x : Nat → AV, fr = [.str l, x 1, .ptr (some (H.length, 0)), x 3, x 4, .int .i64 c, x 6, .int .i64 i, x 8, x 9, x 10, x 11, x 12, x 13, x 14, x 15, x 16, x 17, x 18, x 19, x 20, x 21, x 22, x 23, x 24, x 25, x 26, x 27, x 28, x 29, x 30, x 31, x 32, x 33, x 34, x 35, x 36, x 37, x 38, x 39, x 40, x 41, x 42, x 43, x 44, x 45, x 46, x 47, x 48, x 49, x 50, x 51, x 52, x 53, x 54, x 55, x 56, x 57, x 58, x 59, x 60, x 61, x 62, x 63, x 64, x 65, x 66, x 67, x 68, x 69, x 70, x 71, x 72, x 73, x 74, x 75, x 76, x 77, x 78, x 79, x 80, x 81, x 82]
def dlInv3 (l : List UInt8) (c : Nat) (H : Hp) (fr : List AV) (H' : Hp) : Prop := H' = H ++ [[.str [], .str []]] ∧ ∃ i : Nat, i ≤ l.length ∧ c + 1 ≤ i ∧ ((l.drop (c + 1)).take (i - (c + 1))).all blankB = true ∧ ∃ x : Nat → AV, fr = [.str l, x 1, .ptr (some (H.length, 0)), x 3, x 4, x 5, x 6, x 7, x 8, .int .i64 i, x 10, x 11, x 12, x 13, x 14, x 15, x 16, x 17, x 18, x 19, x 20, x 21, x 22, x 23, x 24, x 25, x 26, x 27, x 28, x 29, x 30, x 31, x 32, x 33, x 34, x 35, x 36, x 37, x 38, x 39, x 40, x 41, x 42, x 43, x 44, x 45, x 46, x 47, x 48, x 49, x 50, x 51, x 52, x 53, x 54, x 55, x 56, x 57, x 58, x 59, x 60, x 61, x 62, x 63, x 64, x 65, x 66, x 67, x 68, x 69, x 70, x 71, x 72, x 73, x 74, x 75, x 76, x 77, x 78, x 79, x 80, x 81, x 82]
set_option maxHeartbeats 1000000 in
theorem dline_pc (l : List UInt8) (hl : l.length ≤ cap) (hQ1 : ∀ f, lineF l = some f → Q (.tup [.agg [.str f.name, .str f.value], .int .i64 0, .int .i64 0]) H) (hQ2 : lineF l = none → ∀ pl e, e ≠ 0 → Q (.tup [.agg [.str [], .str []], .int .i64 pl, .int .i64 e]) H) :
    PC Tryz.prog E 93 [.str l] H Q := by
  refine pc_enter Tryz.func93 rfl [] [] (by kernel_rfl) (fun hB => ?_)
  have hl' := hl
  simp only [cap] at hl'
  have bad : ∀ (fr : List AV) (pl e : Int), lineF l = none → e ≠ 0 → aget fr 2 = .ptr (some (H.length, 0)) → aget fr 3 = .int .i64 pl → aget fr 4 = .int .i64 e → aPost Tryz.prog [ResultVar.cell 2 102, ResultVar.tmp 3, ResultVar.tmp 4] H.length Q .ret fr (H ++ [[.str [], .str []]]) := fun fr pl e h0 he h2 h3 h4 =>
    aPost_same hB (v0 := .tup [.agg [.str [], .str []], .int .i64 pl, .int .i64 e]) (by simp [h2, h3, h4]) (nilV_refl _) (by simp) (hQ2 h0 pl e he)
  obtain ⟨c, hc⟩ : ∃ c, run ncol l = c := ⟨_, rfl⟩
  have hcl := run_le ncol l
  rw [hc] at hcl
  have hib := indexByte_run l
  rw [hc] at hib
  have hcase : (∃ a r, l = a :: r ∧ blankB a = true) ∨ (l = [] ∨ ∃ a r, l = a :: r ∧ blankB a = false) := by
    cases l with
    | nil => exact .inr (.inl rfl)
    | cons a r =>
      cases hb : blankB a
      · exact .inr (.inr ⟨a, r, rfl, hb⟩)
      · exact .inl ⟨a, r, rfl, hb⟩
  have key : ∀ fr : List AV, (∃ x : Nat → AV, fr = [.str l, x 1, .ptr (some (H.length, 0)), x 3, x 4, x 5, x 6, x 7, x 8, x 9, x 10, x 11, x 12, x 13, x 14, x 15, x 16, x 17, x 18, x 19, x 20, x 21, x 22, x 23, x 24, x 25, x 26, x 27, x 28, x 29, x 30, x 31, x 32, x 33, x 34, x 35, x 36, x 37, x 38, x 39, x 40, x 41, x 42, x 43, x 44, x 45, x 46, x 47, x 48, x 49, x 50, x 51, x 52, x 53, x 54, x 55, x 56, x 57, x 58, x 59, x 60, x 61, x 62, x 63, x 64, x 65, x 66, x 67, x 68, x 69, x 70, x 71, x 72, x 73, x 74, x 75, x 76, x 77, x 78, x 79, x 80, x 81, x 82]) → True := fun _ _ => trivial
  rcases hcase with ⟨a, r, rfl, hb⟩ | hcase
  · have hc0 : lineF (a :: r) = none := by
      by_cases hz : c = 0
      · exact lineF_zero (by rw [hc]; exact hz)
      · exact lineF_bad (i := 0) (b := a) (by omega) rfl (sign_blank a hb)
    have hne : (a :: r != []) = true := rfl
    simp [Tryz.ntmps93, Tryz.results93, List.replicate_succ, hne]
    refine ref_blank_pc E _ _ a ?_
    simp [hb]
    exact bad _ 0 63 hc0 (by decide) rfl rfl rfl
  case' inr =>
    rcases hcase with rfl | ⟨a, r, hl0, hb⟩
    case' inl =>
      simp [Tryz.ntmps93, Tryz.results93, List.replicate_succ]
    case' inr =>
      have hne : (l != []) = true := by rw [hl0]; rfl
      have hl1 : 0 < l.length := by rw [hl0]; simp
      have hla : lat l 0 = some a := by rw [hl0]; rfl
      simp [Tryz.ntmps93, Tryz.results93, List.replicate_succ, hne, hl1, hla]
      refine ref_blank_pc E _ _ a ?_
      simp [hb]
      clear hne hla hl0
  rotate_left
  · refine find_pc E _ _ [] 58 (by simp [cap]) ?_
    rw [show Lib.indexByte [] 58 = -1 from rfl]
    simp
    exact bad _ 0 62 (lineF_nocol (by simp)) (by decide) rfl rfl rfl
  · refine find_pc E _ _ l 58 hl ?_
    rw [hib]
    by_cases hcc : c < l.length
    rotate_left
    · have hno := lineF_nocol (l := l) (by omega)
      simp [hcc]
      exact bad _ l.length 62 hno (by decide) rfl rfl rfl
    · by_cases hz : c = 0
      · have hno := lineF_zero (l := l) (by omega)
        subst hz
        simp [hcc]
        exact bad _ 0 60 hno (by decide) rfl rfl rfl
      · have hz2 : ((c : Int) == 0) = false := by simp; omega
        simp [hcc, hz, hz2]
        refine VL_go (dlInv1 l c H) (fun fr _ => c - (ai (aget fr 6)).toNat) ⟨rfl, 0, by omega, by omega, by simp, fr_intro (by simp)⟩ ?_
        rintro fr H' ⟨rfl, i, hi, hi2, hall, x, rfl⟩
        by_cases h : i < c
        · obtain ⟨b, hbi⟩ : ∃ b, l[i]? = some b := ⟨_, List.getElem?_eq_getElem (by omega)⟩
          have hat := lat_eq hbi
          by_cases h128 : i = 128
          · have hno := lineF_long (l := l) (by omega)
            subst h128
            have h' : (128 : Int) < c := by omega
            simp [h']
            exact bad _ 128 60 hno (by decide) rfl rfl rfl
          · have h128' : ((i : Int) == 128) = false := by simp; omega
            have hw : IntKind.i64.wrap ((i : Int) + 1) = i + 1 := wrap_in (by omega) (by omega)
            have hil : i < l.length := by omega
            simp [h, h128', hat, hil]
            refine ref_sign_pc E _ _ b ?_
            cases hs : signB b with
            | false =>
              have hno := lineF_bad (by rw [hc]; exact h) hbi hs
              simp
              exact bad _ i 60 hno (by decide) rfl rfl rfl
            | true =>
              simp [hw]
              exact Kloop_normal ⟨rfl, i + 1, by omega, by omega, by rw [all_take signB l i b hbi, hall, hs]; rfl, fr_intro (by simp)⟩ (by simp; omega)
        · obtain rfl : i = c := by omega
          have hnm : nameB (l.take i) = true := by
            have : l.take i ≠ [] := by intro e; have h2 := congrArg List.length e; rw [List.length_take] at h2; have h3 : min i l.length = 0 := h2; omega
            unfold nameB tokB
            rw [hall, decide_eq_true (by rw [List.length_take]; omega)]
            simpa using this
          have hw : IntKind.i64.wrap ((i : Int) + 1) = ((i + 1 : Nat) : Int) := by rw [wrap_in (by omega) (by omega)]; omega
          simp [hw, -Int.natCast_add]
          refine VL_go (dlInv2 l i H) (fun fr _ => l.length - (ai (aget fr 7)).toNat) ⟨rfl, i + 1, by omega, by omega, by simp [fldB], fr_intro (by simp)⟩ ?_
          rintro fr H' ⟨rfl, k, hk, hk2, hfl, y, rfl⟩
          by_cases hkl : k < l.length
          · obtain ⟨b, hbk⟩ : ∃ b, l[k]? = some b := ⟨_, List.getElem?_eq_getElem hkl⟩
            have hat := lat_eq hbk
            have hwk : IntKind.i64.wrap ((k : Int) + 1) = k + 1 := wrap_in (by omega) (by omega)
            have hdk : (l.drop (i + 1))[k - (i + 1)]? = some b := by rw [List.getElem?_drop, show i + 1 + (k - (i + 1)) = k by omega]; exact hbk
            simp [hkl, hat]
            refine inside_pc E _ _ b ?_
            cases hs : fcB b with
            | false =>
              have hno : lineF l = none := lineF_val (by rw [hc]; exact all_bad fcB _ _ b hdk hs)
              simp
              exact bad _ k 61 hno (by decide) rfl rfl rfl
            | true =>
              simp [hwk]
              refine Kloop_normal ⟨rfl, k + 1, by omega, by omega, ?_, fr_intro (by simp)⟩ (by simp; omega)
              rw [show k + 1 - (i + 1) = k - (i + 1) + 1 by omega, fldB, all_take fcB _ _ b hdk]
              rw [fldB] at hfl
              rw [hfl, hs]; rfl
          · have hfl' : fldB (l.drop (i + 1)) = true := by
              rw [List.take_of_length_le (by rw [List.length_drop]; omega)] at hfl; exact hfl
            have hi1 : i + 1 ≤ l.length := by omega
            simp [hkl, hw, hi1, -Int.natCast_add]
            refine ref_trim_pc E _ _ (l.drop (i + 1)) (by rw [List.length_drop]; omega) ?_
            have htl := trimB_len (l.drop (i + 1))
            rw [List.length_drop] at htl
            by_cases hbig : 8192 < (trimB (l.drop (i + 1))).length
            · have hno : lineF l = none := lineF_big (by rw [hc]; exact hbig)
              have hbig' : (8192 : Int) < (trimB (l.drop (i + 1))).length := by omega
              simp [hbig', hw, -Int.natCast_add]
              refine VL_go (dlInv3 l i H) (fun fr _ => l.length - (ai (aget fr 9)).toNat) ⟨rfl, i + 1, by omega, by omega, by simp, fr_intro (by simp)⟩ ?_
              rintro fr H' ⟨rfl, m, hm, hm2, hbl, z, rfl⟩
              have hml : m < l.length := by
                apply Nat.lt_of_not_le
                intro hge
                rw [List.take_of_length_le (by rw [List.length_drop]; omega)] at hbl
                rw [trimB_all _ hbl] at hbig
                simp at hbig
              obtain ⟨b, hbm⟩ : ∃ b, l[m]? = some b := ⟨_, List.getElem?_eq_getElem hml⟩
              have hat := lat_eq hbm
              have hwm : IntKind.i64.wrap ((m : Int) + 1) = m + 1 := wrap_in (by omega) (by omega)
              have hwm2 : IntKind.i64.wrap ((m : Int) + 8192) = m + 8192 := wrap_in (by omega) (by omega)
              have hdm : (l.drop (i + 1))[m - (i + 1)]? = some b := by rw [List.getElem?_drop, show i + 1 + (m - (i + 1)) = m by omega]; exact hbm
              simp [hml, hat]
              refine ref_blank_pc E _ _ b ?_
              cases hs : blankB b with
              | false =>
                simp [hwm2]
                exact bad _ (m + 8192) 61 hno (by decide) rfl rfl rfl
              | true =>
                simp [hwm]
                refine Kloop_normal ⟨rfl, m + 1, by omega, by omega, ?_, fr_intro (by simp)⟩ (by simp; omega)
                rw [show m + 1 - (i + 1) = m - (i + 1) + 1 by omega, all_take blankB _ _ b hdm, hbl, hs]; rfl
            · have hbig' : ¬ (8192 : Int) < (trimB (l.drop (i + 1))).length := by omega
              have hf : lineF l = some ⟨l.take i, trimB (l.drop (i + 1))⟩ := by
                unfold lineF; rw [hc, if_pos ⟨hcc, hnm, hfl', by omega⟩]
              have hil : i ≤ l.length := by omega
              simp [hbig', hil]
              exact aPost_same hB (v0 := .tup [.agg [.str (l.take i), .str (trimB (l.drop (i + 1)))], .int .i64 0, .int .i64 0]) (by simp) (nilV_refl _) (by simp) (hQ1 _ hf)
end
end Go.Proofs.YtcdkcaocfioigaaGreatDoor

set_option linter.unusedVariables false
set_option linter.unnecessarySimpa false
set_option linter.unusedSimpArgs false
set_option linter.unusedSectionVars false
set_option maxRecDepth 100000
namespace Go.Proofs.YtcdkcaocfioigaaGreatDoor
open Go Go.RowKit Go.Proofs

/-- The place of the first 10 from a on, if fewer than m bytes stand ahead of it. -/
def endAns (l : List UInt8) (a m : Nat) : Int := if a + run not10 (l.drop a) < l.length ∧ run not10 (l.drop a) < m then ((a + run not10 (l.drop a) : Nat) : Int) else -1
/-- What the document tells of a text: how far, the error, done, the body, the trailers. -/
def wkA (t e : Int) (d : Bool) (b : List UInt8) (z : AV) : AV := .agg [.int .i64 t, .int .i64 e, .bool d, .str b, z]
section
variable (E : Env) (H : Hp) (Q : AV → Hp → Prop)
def endInv (l : List UInt8) (a m : Nat) (H : Hp) (fr : List AV) (H' : Hp) : Prop := H' = H ∧ ∃ n : Nat, a + n ≤ l.length ∧ n ≤ m ∧ ((l.drop a).take n).all not10 = true ∧ ∃ x : Nat → AV, fr = [.str l, .int .i64 a, .int .i64 m, x 3, x 4, x 5, x 6, .int .i64 (a + n : Nat), x 8, x 9, x 10, x 11, x 12, x 13, x 14, x 15, x 16, x 17, x 18, x 19, x 20, x 21, x 22, x 23, x 24, x 25, x 26]
theorem ending_pc (l : List UInt8) (a m : Nat) (hl : l.length ≤ 1000000000) (ha : a ≤ l.length) (hm : m ≤ 1000000000) (hQ : Q (.int .i64 (endAns l a m)) H) : PC Tryz.prog E 125 [.str l, .int .i64 a, .int .i64 m] H Q := by
  refine pc_enter Tryz.func125 rfl [] [] (by kernel_rfl) (fun hB => ?_)
  simp [Tryz.ntmps125, Tryz.results125, List.replicate_succ]
  refine VL_go (endInv l a m H) (fun fr _ => l.length - (ai (aget fr 7)).toNat) ⟨rfl, 0, by omega, by omega, rfl, fr_intro (by simp)⟩ ?_
  rintro fr H' ⟨rfl, n, hn, hnm, hall, x, rfl⟩
  obtain ⟨i, hi⟩ : ∃ i, i = a + n := ⟨_, rfl⟩
  rw [← hi] at hn ⊢
  have hw : IntKind.i64.wrap ((i : Int) + 1) = i + 1 := wrap_in (by omega) (by omega)
  have hw2 : IntKind.i64.wrap ((i : Int) - a) = n := by rw [wrap_in (by omega) (by omega)]; omega
  by_cases h : i < l.length
  · obtain ⟨b, hb⟩ : ∃ b, l[i]? = some b := ⟨_, List.getElem?_eq_getElem h⟩
    have hb2 : (l.drop a)[n]? = some b := by rw [List.getElem?_drop, ← hi]; exact hb
    have hat := lat_eq hb
    by_cases hnm2 : n < m
    · by_cases h10 : b = 10
      · subst h10
        have hr : run not10 (l.drop a) = n := run_step not10 _ n hall (by rw [List.length_drop]; omega) (fun c hc => by rw [hb2] at hc; cases hc; rfl)
        have he : endAns l a m = (i : Int) := by unfold endAns; rw [hr, if_pos ⟨by omega, hnm2⟩, ← hi]
        rw [he] at hQ
        simp [h, hw2, hnm2, hat]
        exact aPost_same0 hB rfl (nilV_refl _) (by simp) hQ
      · have t1 : ((b.toNat : Int) == 10) = false := byte_ne b 10 (by omega) h10
        simp [h, hw2, hnm2, hat, t1, hw]
        exact Kloop_normal ⟨rfl, n + 1, by omega, by omega, by rw [all_step not10 (l.drop a) n b hb2, hall]; simp [not10, h10], fr_intro (by simp; omega)⟩ (by simp; omega)
    · have he : endAns l a m = -1 := by
        unfold endAns; rw [if_neg]; rintro ⟨h1, h2⟩
        have h3 := run_stop (p := not10) (l := l.drop a) (by rw [List.length_drop]; omega)
        obtain ⟨c, h4, h5⟩ := h3
        have : run not10 (l.drop a) < n := by omega
        have h6 : ((l.drop a).take n)[run not10 (l.drop a)]? = some c := by rw [List.getElem?_take_of_lt this]; exact h4
        rw [all_bad not10 _ _ c h6 h5] at hall; cases hall
      rw [he] at hQ
      simp [h, hw2, hnm2]
      exact aPost_same0 hB rfl (nilV_refl _) (by simp) hQ
  · have he : endAns l a m = -1 := by
      have hr : run not10 (l.drop a) = n := run_step not10 _ n hall (by rw [List.length_drop]; omega) (fun c hc => by rw [List.getElem?_drop] at hc; have := (List.getElem?_eq_some_iff.1 hc).1; omega)
      unfold endAns; rw [hr, if_neg]; rintro ⟨h1, h2⟩; omega
    rw [he] at hQ
    simp [h]
    exact aPost_same0 hB rfl (nilV_refl _) (by simp) hQ
variable (t e : Int) (d : Bool) (b : List UInt8) (z : AV) (z1 : z.dis = z) (z2 : z.free = true) (z3 : Bnd H.length z)
include z1 z2 z3
theorem failed_pc (a : Nat) (e' : Int) (ha : a ≤ 1000000000) (hQ : Q (wkA (a + 1 : Nat) e' d b z) H) : PC Tryz.prog E 127 [wkA t e d b z, .int .i64 a, .int .i64 e'] H Q := by
  refine pc_enter Tryz.func127 rfl [] [] (by kernel_rfl) (fun hB => ?_)
  have hw : IntKind.i64.wrap ((a : Int) + 1) = ((a + 1 : Nat) : Int) := by rw [wrap_in (by omega) (by omega)]; omega
  simp [Tryz.ntmps127, Tryz.results127, List.replicate_succ, wkA, hw, z1, z2, -Int.natCast_add]
  exact aPost_same hB (v0 := wkA (a + 1 : Nat) e' d b z) (by simp [wkA, z1, z2, -Int.natCast_add]) (nilV_refl _) (by simp [wkA, z3]) hQ
theorem open_pc (l : List UInt8) (a n : Nat) (e' : Int) (hl : l.length ≤ 1000000000) (ha : a ≤ l.length) (hQ1 : n < l.length - a → Q (wkA (a + n + 1 : Nat) e' d b z) H) (hQ2 : l.length - a ≤ n → Q (wkA l.length e d b z) H) :
    PC Tryz.prog E 126 [wkA t e d b z, .str l, .int .i64 a, .int .i64 n, .int .i64 e'] H Q := by
  refine pc_enter Tryz.func126 rfl [] [] (by kernel_rfl) (fun hB => ?_)
  have hw1 : IntKind.i64.wrap ((l.length : Int) - a) = ((l.length - a : Nat) : Int) := by rw [wrap_in (by omega) (by omega)]; omega
  by_cases h : n < l.length - a
  · have hw2 : IntKind.i64.wrap ((a : Int) + n) = ((a + n : Nat) : Int) := by rw [wrap_in (by omega) (by omega)]; omega
    have h' : (n : Int) < ((l.length - a : Nat) : Int) := by omega
    simp [Tryz.ntmps126, Tryz.results126, List.replicate_succ, wkA, hw1, hw2, h', z1, z2, -Int.natCast_add]
    refine failed_pc E _ _ t e d b z z1 z2 (z3.mono (by simp)) (a + n) e' (by omega) ?_
    simp [wkA, z1, z2, -Int.natCast_add]
    exact aPost_same hB (v0 := wkA (a + n + 1 : Nat) e' d b z) (by simp [wkA, z1, z2, -Int.natCast_add]) (nilV_refl _) (by simp [wkA, z3]) (hQ1 h)
  · have h' : ¬ (n : Int) < ((l.length - a : Nat) : Int) := by omega
    simp [Tryz.ntmps126, Tryz.results126, List.replicate_succ, wkA, hw1, h', z1, z2, -Int.natCast_add]
    exact aPost_same hB (v0 := wkA l.length e d b z) (by simp [wkA, z1, z2, -Int.natCast_add]) (nilV_refl _) (by simp [wkA, z3]) (hQ2 (by omega))
end
end Go.Proofs.YtcdkcaocfioigaaGreatDoor

set_option linter.unusedVariables false
set_option linter.unnecessarySimpa false
set_option linter.unusedSimpArgs false
set_option linter.unusedSectionVars false
set_option maxRecDepth 100000
namespace Go.Proofs.YtcdkcaocfioigaaGreatDoor
open Go Go.RowKit Go.Proofs

section
variable (m r f : Int)
def szD (B : List UInt8) (a : Nat) : Dec := ⟨m, r, f, .size, [], 0, B, [], 0, a, false, 0⟩
def daD (B : List UInt8) (n : Int) (a : Nat) : Dec := ⟨m, r, f, .data, [], n, B, [], 0, a, false, 0⟩
def phD (i : Nat) (B : List UInt8) (a : Nat) : Dec := ⟨m, r, f, if i = 0 then .first else if i = 1 then .second else .size, [], 0, B, [], 0, a, false, 0⟩
def trD (B : List UInt8) (T : List Fld) (sec : Nat) (a : Nat) : Dec := ⟨m, r, f, .trailer, [], 0, B, T, sec, a, false, 0⟩
/-- The decoder is at a place of the text. -/
def Fw (s : List UInt8) (d : Dec) (a : Nat) : Prop := feedD (newD m r f) s = ((feedD d (s.drop a)).1, (feedD d (s.drop a)).2 + a)
/-- What came of the text. -/
def Ends (s : List UInt8) (t : Nat) (e : Int) (dn : Bool) (B : List UInt8) (T : List Fld) : Prop :=
  (feedD (newD m r f) s).2 = t ∧ (feedD (newD m r f) s).1.err = e ∧ (feedD (newD m r f) s).1.done = dn ∧ (feedD (newD m r f) s).1.body = B ∧ (feedD (newD m r f) s).1.trailers = T
variable {m r f} {s : List UInt8} {d d1 : Dec} {a n : Nat} {b : UInt8} {B : List UInt8} {T : List Fld} {sec : Nat}
theorem fw_new : Fw m r f s (szD m r f [] 0) 0 := rfl
theorem Fw.step (h : Fw m r f s d a) (h1 : feedD d ((s.drop a).take n) = (d1, ((s.drop a).take n).length)) (hg : goD d1) (hb : s[a + n]? = some b) :
    (goD (feed1 d1 b) → Fw m r f s (feed1 d1 b) (a + n + 1)) ∧ ((feed1 d1 b).done = true ∨ (feed1 d1 b).err ≠ 0 → feedD (newD m r f) s = (feed1 d1 b, a + n + 1)) := by
  have hlt := (List.getElem?_eq_some_iff.1 hb).1
  have hlen : ((s.drop a).take n).length = n := by rw [List.length_take, List.length_drop]; omega
  have hs : s.drop a = (s.drop a).take n ++ b :: s.drop (a + n + 1) := by
    have h2 : (s.drop a).drop n = b :: s.drop (a + n + 1) := by
      rw [List.drop_drop, List.drop_eq_getElem_cons hlt]
      rw [(List.getElem?_eq_some_iff.1 hb).2]
    conv => lhs; rw [← List.take_append_drop n (s.drop a), h2]
  have hc := feedD_cat _ d d1 (b :: s.drop (a + n + 1)) h1 hg
  rw [← hs, hlen] at hc
  constructor
  · intro hg2
    unfold Fw at h ⊢
    rw [h, hc, feedD_go _ hg2]
    simp; omega
  · intro hst
    unfold Fw at h
    rw [h, hc, feedD_stop _ hst]
    simp; omega
theorem Fw.all (h : Fw m r f s d a) (ha : a ≤ s.length) (h1 : feedD d (s.drop a) = (d1, (s.drop a).length)) : Ends m r f s s.length d1.err d1.done d1.body d1.trailers := by
  unfold Fw at h
  rw [h1] at h
  unfold Ends
  rw [h]
  rw [List.length_drop]
  exact ⟨by simp only; omega, rfl, rfl, rfl, rfl⟩
theorem ends_of {t : Nat} (h : feedD (newD m r f) s = (d1, t)) : Ends m r f s t d1.err d1.done d1.body d1.trailers := by
  unfold Ends; rw [h]; exact ⟨rfl, rfl, rfl, rfl, rfl⟩
theorem not10_take {k : Nat} (h : k ≤ run not10 (s.drop a)) : ∀ c ∈ (s.drop a).take k, c ≠ 10 := by
  intro c hc
  have := List.all_eq_true.1 (run_take h) c hc
  simpa [not10] using this
theorem at10 (hj : a + n < s.length) (hn : run not10 (s.drop a) = n) : s[a + n]? = some 10 := by
  obtain ⟨c, h1, h2⟩ := run_stop (p := not10) (l := s.drop a) (by rw [List.length_drop]; omega)
  rw [hn, List.getElem?_drop] at h1
  simp [not10] at h2
  rw [h1, h2]
theorem feed1_over (d : Dec) (b : UInt8) (hs : d.st = .size) (hb : b ≠ 10) (hl : d.line.length = 255) : feed1 d b = { d with line := d.line ++ [b], total := d.total + 1, err := 100 } := by
  unfold feed1 stepD
  simp only [hs, sizeD, hb, if_pos, ne_eq, not_false_eq_true]
  rw [if_pos (by simp; omega)]
theorem sz_over (h : Fw m r f s (szD m r f B a) a) (hl : a + 255 < s.length) (hn : 256 ≤ run not10 (s.drop a)) : Ends m r f s (a + 256) 100 false B [] := by
  obtain ⟨b, hb⟩ : ∃ b, s[a + 255]? = some b := ⟨_, List.getElem?_eq_getElem hl⟩
  have hlen : ((s.drop a).take 255).length = 255 := by rw [List.length_take, List.length_drop]; omega
  have hr := run_size ((s.drop a).take 255) (szD m r f B a) rfl ⟨rfl, rfl⟩ (not10_take (by omega)) (by simp only [szD, hlen]; decide)
  have hbn : b ≠ 10 := by
    have := run_at (p := not10) (l := s.drop a) (k := 255) (by omega) (by rw [List.getElem?_drop]; exact hb)
    simpa [not10] using this
  have h1 := feed1_over { szD m r f B a with line := (szD m r f B a).line ++ (s.drop a).take 255, total := (szD m r f B a).total + ((s.drop a).take 255).length } b rfl hbn (by simp only [szD, List.nil_append]; exact hlen)
  have hst := h.step hr ⟨rfl, rfl⟩ hb
  rw [h1] at hst
  exact ends_of (hst.2 (.inr (by show (100 : Int) ≠ 0; decide)))
theorem sz_open (h : Fw m r f s (szD m r f B a) a) (ha : a ≤ s.length) (hl : s.length - a ≤ 255) (hn : s.length - a ≤ run not10 (s.drop a)) : Ends m r f s s.length 0 false B [] := by
  have hr := run_size (s.drop a) (szD m r f B a) rfl ⟨rfl, rfl⟩ (by
    have := not10_take (s := s) (a := a) (k := s.length - a) hn
    rwa [List.take_of_length_le (by rw [List.length_drop]; omega)] at this) (by rw [List.length_drop]; simp only [szD, List.length_nil]; omega)
  exact h.all ha hr
section
variable (h : Fw m r f s (szD m r f B a) a) (hj : a + n < s.length) (hn : run not10 (s.drop a) = n) (h256 : n < 256)
include h hj hn h256
theorem sz_run : (goD (feed1 { szD m r f B a with line := (s.drop a).take n, total := a + n } 10) → Fw m r f s (feed1 { szD m r f B a with line := (s.drop a).take n, total := a + n } 10) (a + n + 1)) ∧
    ((feed1 { szD m r f B a with line := (s.drop a).take n, total := a + n } 10).done = true ∨ (feed1 { szD m r f B a with line := (s.drop a).take n, total := a + n } 10).err ≠ 0 → feedD (newD m r f) s = (feed1 { szD m r f B a with line := (s.drop a).take n, total := a + n } 10, a + n + 1)) := by
  have hlen : ((s.drop a).take n).length = n := by rw [List.length_take, List.length_drop]; omega
  have hr := run_size ((s.drop a).take n) (szD m r f B a) rfl ⟨rfl, rfl⟩ (not10_take (by omega)) (by rw [hlen]; simp only [szD, List.length_nil]; omega)
  have he : ({ szD m r f B a with line := (szD m r f B a).line ++ (s.drop a).take n, total := (szD m r f B a).total + ((s.drop a).take n).length } : Dec) = { szD m r f B a with line := (s.drop a).take n, total := a + n } := by
    rw [hlen]; rfl
  rw [he] at hr
  exact h.step hr ⟨rfl, rfl⟩ (at10 hj hn)
theorem sz_none (hx : endL ((s.drop a).take n ++ [10]) = none) : Ends m r f s (a + n + 1) 100 false B [] := by
  have h1 : feed1 { szD m r f B a with line := (s.drop a).take n, total := a + n } 10 = { szD m r f B a with line := [], total := a + n + 1, err := 100 } := by
    rw [feed1_size _ rfl]
    simp only [szD]
    rw [hx]
    rfl
  have := sz_run h hj hn h256
  rw [h1] at this
  exact ends_of (this.2 (.inr (by simp)))
variable {l : List UInt8} (hx : endL ((s.drop a).take n ++ [10]) = some l)
include hx
theorem sz_bad (he : (sizeAns l).2.2 ≠ 0) : Ends m r f s (a + n + 1) (sizeAns l).2.2 false B [] := by
  have h1 : feed1 { szD m r f B a with line := (s.drop a).take n, total := a + n } 10 = { szD m r f B a with line := [], total := a + n + 1, err := (sizeAns l).2.2 } := by
    rw [feed1_size _ rfl]
    simp only [szD]
    rw [hx]
    simp only [sizeE]
    rw [if_pos he]
  have := sz_run h hj hn h256
  rw [h1] at this
  exact ends_of (this.2 (.inr he))
variable (he : (sizeAns l).2.2 = 0)
include he
theorem sz_much (hm : m - B.length < (sizeAns l).1) : Ends m r f s (a + n + 1) 102 false B [] := by
  have h1 : feed1 { szD m r f B a with line := (s.drop a).take n, total := a + n } 10 = { szD m r f B a with line := [], total := a + n + 1, err := 102 } := by
    rw [feed1_size _ rfl]
    simp only [szD]
    rw [hx]
    simp only [sizeE]
    rw [if_neg (by simpa using he), if_pos hm]
  have := sz_run h hj hn h256
  rw [h1] at this
  exact ends_of (this.2 (.inr (by simp)))
theorem sz_trail (hm : ¬ m - B.length < (sizeAns l).1) (h0 : (sizeAns l).1 = 0) : Fw m r f s (trD m r f B [] 0 (a + n + 1)) (a + n + 1) := by
  have h1 : feed1 { szD m r f B a with line := (s.drop a).take n, total := a + n } 10 = trD m r f B [] 0 (a + n + 1) := by
    rw [feed1_size _ rfl]
    simp only [szD]
    rw [hx]
    simp only [sizeE]
    rw [if_neg (by simpa using he), if_neg hm, if_pos h0]
    rfl
  have := sz_run h hj hn h256
  rw [h1] at this
  exact this.1 ⟨rfl, rfl⟩
theorem sz_data (hm : ¬ m - B.length < (sizeAns l).1) (h0 : (sizeAns l).1 ≠ 0) : Fw m r f s (daD m r f B (sizeAns l).1 (a + n + 1)) (a + n + 1) := by
  have h1 : feed1 { szD m r f B a with line := (s.drop a).take n, total := a + n } 10 = daD m r f B (sizeAns l).1 (a + n + 1) := by
    rw [feed1_size _ rfl]
    simp only [szD]
    rw [hx]
    simp only [sizeE]
    rw [if_neg (by simpa using he), if_neg hm, if_neg h0]
    rfl
  have := sz_run h hj hn h256
  rw [h1] at this
  exact this.1 ⟨rfl, rfl⟩
end
theorem da_open {k : Int} (h : Fw m r f s (daD m r f B k a) a) (ha : a ≤ s.length) (hk : ((s.length - a : Nat) : Int) < k) : Ends m r f s s.length 0 false (B ++ s.drop a) [] :=
  h.all ha (run_data (s.drop a) (daD m r f B k a) rfl ⟨rfl, rfl⟩ (by rw [List.length_drop]; exact hk))
theorem da_full {k : Nat} (h : Fw m r f s (daD m r f B (k : Int) a) a) (hk : 0 < k) (hl : a + k ≤ s.length) : Fw m r f s (phD m r f 0 (B ++ (s.drop a).take k) (a + k)) (a + k) := by
  have hlen : ((s.drop a).take k).length = k := by rw [List.length_take, List.length_drop]; omega
  have h1 := full_data ((s.drop a).take k) (daD m r f B (k : Int) a) rfl ⟨rfl, rfl⟩ (by intro e; rw [e] at hlen; simp at hlen; omega) (by rw [hlen]; rfl)
  have h2 := feedD_cat _ _ _ (s.drop (a + k)) h1 ⟨rfl, rfl⟩
  rw [show (s.drop a).take k ++ s.drop (a + k) = s.drop a by rw [← List.drop_drop, List.take_append_drop], hlen] at h2
  unfold Fw at h ⊢
  rw [h, h2]
  simp only [daD, phD, if_pos]
  refine Prod.ext rfl ?_
  show _ + k + a = _ + (a + k)
  omega
theorem ph_open {i : Nat} (h : Fw m r f s (phD m r f i B a) a) (ha : a = s.length) : Ends m r f s s.length 0 false B [] := by
  refine h.all (by omega) (d1 := phD m r f i B a) ?_
  rw [List.drop_of_length_le (by omega)]; rfl
theorem Fw.one (h : Fw m r f s d a) (hg : goD d) (hb : s[a]? = some b) : (goD (feed1 d b) → Fw m r f s (feed1 d b) (a + 1)) ∧ ((feed1 d b).done = true ∨ (feed1 d b).err ≠ 0 → feedD (newD m r f) s = (feed1 d b, a + 1)) :=
  h.step (n := 0) (by simp [feedD]) hg hb
theorem ph_bad {i : Nat} (hi : i < 2) (h : Fw m r f s (phD m r f i B a) a) (hb : s[a]? = some b) (hne : b ≠ if i = 0 then 13 else 10) : Ends m r f s (a + 1) 100 false B [] := by
  have h1 : feed1 (phD m r f i B a) b = { phD m r f i B a with total := a + 1, err := 100 } := by
    rcases (by omega : i = 0 ∨ i = 1) with rfl | rfl
    · simp at hne; simp [feed1, stepD, phD, firstD, hne]
    · simp at hne; simp [feed1, stepD, phD, secondD, hne]
  have := h.one ⟨rfl, rfl⟩ hb
  rw [h1] at this
  exact ends_of (this.2 (.inr (by simp)))
theorem ph_go {i : Nat} (hi : i < 2) (h : Fw m r f s (phD m r f i B a) a) (hb : s[a]? = some (if i = 0 then 13 else 10)) : Fw m r f s (phD m r f (i + 1) B (a + 1)) (a + 1) := by
  have h1 : feed1 (phD m r f i B a) (if i = 0 then 13 else 10) = phD m r f (i + 1) B (a + 1) := by
    rcases (by omega : i = 0 ∨ i = 1) with rfl | rfl
    · simp [feed1, stepD, phD, firstD]
    · simp [feed1, stepD, phD, secondD]
  have := h.one ⟨rfl, rfl⟩ hb
  rw [h1] at this
  exact this.1 ⟨rfl, rfl⟩
theorem ph_two : phD m r f 2 B a = szD m r f B a := rfl
theorem trailE_many (d : Dec) (l : List UInt8) (hl : l ≠ []) (hf : d.fields ≤ d.trailers.length) : trailE d (some l) = ({ d with section_ := d.section_ + 1, line := [] }, 104) := by
  simp only [trailE]; rw [if_neg hl, if_pos hf]
theorem trailE_bad (d : Dec) (l : List UInt8) (hl : l ≠ []) (hf : ¬ d.fields ≤ d.trailers.length) (hb : lineF l = none ∨ ∃ g, lineF l = some g ∧ mayB g.name = false) : trailE d (some l) = ({ d with section_ := d.section_ + 1, line := [] }, 101) := by
  simp only [trailE]
  rw [if_neg hl, if_neg hf]
  rcases hb with hb | ⟨g, hb, hg⟩
  · rw [hb]
  · rw [hb]; simp [hg]
theorem trailE_go (d : Dec) (l : List UInt8) (hl : l ≠ []) (hf : ¬ d.fields ≤ d.trailers.length) {g : Fld} (hb : lineF l = some g) (hg : mayB g.name = true) : trailE d (some l) = ({ d with section_ := d.section_ + 1, line := [], trailers := d.trailers ++ [g] }, 0) := by
  simp only [trailE]
  rw [if_neg hl, if_neg hf, hb]
  simp [hg]
theorem tr_over {k : Nat} (h : Fw m r f s (trD m r f B T sec a) a) (hk : r = (sec + k : Nat)) (hl : a + k < s.length) (hn : k ≤ run not10 (s.drop a)) : Ends m r f s (a + k + 1) 104 false B T := by
  obtain ⟨b, hb⟩ : ∃ b, s[a + k]? = some b := ⟨_, List.getElem?_eq_getElem hl⟩
  have hlen : ((s.drop a).take k).length = k := by rw [List.length_take, List.length_drop]; omega
  have hr := run_trail ((s.drop a).take k) (trD m r f B T sec a) rfl ⟨rfl, rfl⟩ (not10_take (by omega)) (by rw [hlen]; simp only [trD]; omega)
  have h1 : feed1 { trD m r f B T sec a with line := (trD m r f B T sec a).line ++ (s.drop a).take k, section_ := (trD m r f B T sec a).section_ + ((s.drop a).take k).length, total := (trD m r f B T sec a).total + ((s.drop a).take k).length } b = { trD m r f B T sec a with line := (s.drop a).take k, section_ := sec + k, total := a + k + 1, err := 104 } := by
    unfold feed1 stepD
    simp only [trD, trailerD, hlen]
    rw [if_pos (by omega)]
    rfl
  have hst := h.step hr ⟨rfl, rfl⟩ hb
  rw [h1] at hst
  exact ends_of (hst.2 (.inr (by simp)))
theorem tr_open (h : Fw m r f s (trD m r f B T sec a) a) (ha : a ≤ s.length) (hl : ((sec + (s.length - a) : Nat) : Int) ≤ r) (hn : s.length - a ≤ run not10 (s.drop a)) : Ends m r f s s.length 0 false B T := by
  have hr := run_trail (s.drop a) (trD m r f B T sec a) rfl ⟨rfl, rfl⟩ (by
    have := not10_take (s := s) (a := a) (k := s.length - a) hn
    rwa [List.take_of_length_le (by rw [List.length_drop]; omega)] at this) (by rw [List.length_drop]; simp only [trD]; omega)
  exact h.all ha hr
section
variable (h : Fw m r f s (trD m r f B T sec a) a) (hj : a + n < s.length) (hn : run not10 (s.drop a) = n) (hr : ((sec + n : Nat) : Int) < r)
include h hj hn hr
theorem tr_run : (goD (feed1 { trD m r f B T sec a with line := (s.drop a).take n, section_ := sec + n, total := a + n } 10) → Fw m r f s (feed1 { trD m r f B T sec a with line := (s.drop a).take n, section_ := sec + n, total := a + n } 10) (a + n + 1)) ∧
    ((feed1 { trD m r f B T sec a with line := (s.drop a).take n, section_ := sec + n, total := a + n } 10).done = true ∨ (feed1 { trD m r f B T sec a with line := (s.drop a).take n, section_ := sec + n, total := a + n } 10).err ≠ 0 → feedD (newD m r f) s = (feed1 { trD m r f B T sec a with line := (s.drop a).take n, section_ := sec + n, total := a + n } 10, a + n + 1)) := by
  have hlen : ((s.drop a).take n).length = n := by rw [List.length_take, List.length_drop]; omega
  have hr := run_trail ((s.drop a).take n) (trD m r f B T sec a) rfl ⟨rfl, rfl⟩ (not10_take (by omega)) (by rw [hlen]; simp only [trD]; omega)
  have he : ({ trD m r f B T sec a with line := (trD m r f B T sec a).line ++ (s.drop a).take n, section_ := (trD m r f B T sec a).section_ + ((s.drop a).take n).length, total := (trD m r f B T sec a).total + ((s.drop a).take n).length } : Dec) = { trD m r f B T sec a with line := (s.drop a).take n, section_ := sec + n, total := a + n } := by
    rw [hlen]; rfl
  rw [he] at hr
  exact h.step hr ⟨rfl, rfl⟩ (at10 hj hn)
theorem tr_ends {e : Int} {dn : Bool} {T' : List Fld} (hx : (trailE { trD m r f B T sec a with line := (s.drop a).take n, section_ := sec + n, total := a + n + 1 } (endL ((s.drop a).take n ++ [10]))).2 = e) (hd : (trailE { trD m r f B T sec a with line := (s.drop a).take n, section_ := sec + n, total := a + n + 1 } (endL ((s.drop a).take n ++ [10]))).1.done = dn)
    (hb : (trailE { trD m r f B T sec a with line := (s.drop a).take n, section_ := sec + n, total := a + n + 1 } (endL ((s.drop a).take n ++ [10]))).1.body = B) (ht : (trailE { trD m r f B T sec a with line := (s.drop a).take n, section_ := sec + n, total := a + n + 1 } (endL ((s.drop a).take n ++ [10]))).1.trailers = T') (hst : dn = true ∨ e ≠ 0) : Ends m r f s (a + n + 1) e dn B T' := by
  have h1 := feed1_trail { trD m r f B T sec a with line := (s.drop a).take n, section_ := sec + n, total := a + n } rfl hr
  have h2 := (tr_run h hj hn hr).2 (by rw [h1]; simp only; rw [hx, hd]; exact hst)
  rw [h1] at h2
  have := ends_of h2
  simp only at this
  rw [hx, hd, hb, ht] at this
  exact this
theorem tr_none (hx : endL ((s.drop a).take n ++ [10]) = none) : Ends m r f s (a + n + 1) 101 false B T := by
  refine tr_ends h hj hn hr ?_ ?_ ?_ ?_ (.inr (by simp)) <;> rw [hx] <;> rfl
theorem tr_done (hx : endL ((s.drop a).take n ++ [10]) = some []) : Ends m r f s (a + n + 1) 0 true B T := by
  refine tr_ends h hj hn hr ?_ ?_ ?_ ?_ (.inl rfl) <;> rw [hx] <;> rfl
variable {l : List UInt8} (hx : endL ((s.drop a).take n ++ [10]) = some l) (hl : l ≠ [])
include hx hl
theorem tr_many (hf : f ≤ T.length) : Ends m r f s (a + n + 1) 104 false B T := by
  refine tr_ends h hj hn hr ?_ ?_ ?_ ?_ (.inr (by simp)) <;> rw [hx, trailE_many _ l hl hf] <;> rfl
variable (hf : ¬ f ≤ T.length)
include hf
theorem tr_bad (hb : lineF l = none ∨ ∃ g, lineF l = some g ∧ mayB g.name = false) : Ends m r f s (a + n + 1) 101 false B T := by
  refine tr_ends h hj hn hr ?_ ?_ ?_ ?_ (.inr (by simp)) <;> rw [hx, trailE_bad _ l hl hf hb] <;> rfl
theorem tr_go {g : Fld} (hb : lineF l = some g) (hg : mayB g.name = true) : Fw m r f s (trD m r f B (T ++ [g]) (sec + n + 1) (a + n + 1)) (a + n + 1) := by
  have h1 := feed1_trail { trD m r f B T sec a with line := (s.drop a).take n, section_ := sec + n, total := a + n } rfl hr
  have h3 : feed1 { trD m r f B T sec a with line := (s.drop a).take n, section_ := sec + n, total := a + n } 10 = trD m r f B (T ++ [g]) (sec + n + 1) (a + n + 1) := by
    rw [h1]
    have := trailE_go { trD m r f B T sec a with line := (s.drop a).take n, section_ := sec + n, total := a + n + 1 } l hl hf hb hg
    rw [← hx] at this
    have e : ∀ (p : Dec × Int) (q : Dec × Int), p = q → ({ p.1 with err := p.2 } : Dec) = { q.1 with err := q.2 } := fun p q h => h ▸ rfl
    exact e _ _ this
  have := (tr_run h hj hn hr).1
  rw [h3] at this
  exact this ⟨rfl, rfl⟩
end
end
end Go.Proofs.YtcdkcaocfioigaaGreatDoor

set_option linter.unusedVariables false
set_option linter.unnecessarySimpa false
set_option linter.unusedSimpArgs false
set_option linter.unusedSectionVars false
set_option maxRecDepth 100000
namespace Go.Proofs.YtcdkcaocfioigaaGreatDoor
open Go Go.RowKit Go.Proofs

section
variable (E : Env) (H : Hp) (Q : AV → Hp → Prop)
def trInv (m r f : Int) (s : List UInt8) (fm : Nat) (B : List UInt8) (H : Hp) (fr : List AV) (H' : Hp) : Prop :=
  ∃ (J : Hp) (a : Nat) (T : List Fld), H' = H ++ [.int .i64 0, .int .i64 0, .bool false, .str B, .sl true 2 (flds T)] :: [.int .i64 0, .int .i64 0, .bool false, .str [], .nil] :: J ∧ fm ≤ a ∧ a ≤ s.length ∧ ((a - fm : Nat) : Int) ≤ r ∧ T.length ≤ a - fm ∧ Fw m r f s (trD m r f B T (a - fm) a) a ∧
    ∃ x : Nat → AV, fr = [x 0, .str s, .int .i64 fm, .int .i64 r, .int .i64 f, .ptr (some (H.length, 0)), x 6, x 7, x 8, x 9, .ptr (some (H.length + 1, 0)), .int .i64 a, x 12, x 13, x 14, x 15, x 16, x 17, x 18, x 19, x 20, x 21, x 22, x 23, x 24, x 25, x 26, x 27, x 28, x 29, x 30, x 31, x 32, x 33, x 34, x 35, x 36, x 37, x 38, x 39, x 40, x 41, x 42, x 43, x 44, x 45, x 46, x 47, x 48, x 49, x 50, x 51, x 52, x 53, x 54, x 55, x 56, x 57, x 58, x 59, x 60, x 61, x 62, x 63, x 64, x 65, x 66, x 67, x 68, x 69, x 70, x 71, x 72, x 73, x 74, x 75, x 76, x 77, x 78, x 79, x 80, x 81, x 82, x 83, x 84, x 85, x 86, x 87, x 88, x 89, x 90, x 91, x 92, x 93, x 94]
theorem bnd_tz {N : Nat} (T : List Fld) : Bnd N (.sl false 2 (flds T)) := bnd_flds _ _ T
set_option maxHeartbeats 2000000 in
theorem trail_pc (m f : Int) (r : Nat) (s : List UInt8) (fm : Nat) (B : List UInt8) (hs : s.length ≤ 1000000000) (hfm : fm ≤ s.length) (h0 : Fw m r f s (trD m r f B [] 0 fm) fm)
    (hQ : ∀ t e dn T, Ends m r f s t e dn B T → Q (wkA t e dn B (.sl false 2 (flds T))) H) :
    PC Tryz.prog E 129 [wkA 0 0 false B .nil, .str s, .int .i64 fm, .int .i64 r, .int .i64 f] H Q := by
  refine pc_enter Tryz.func129 rfl [88] [] (by kernel_rfl) (fun hB => ?_)
  have fin : ∀ (fr : List AV) (J : Hp) (c : List AV) (t : Nat) e dn T, Ends m r f s t e dn B T → aget fr 10 = .ptr (some (H.length + 1, 0)) → aPost Tryz.prog [ResultVar.cell 10 156] H.length Q .ret fr (H ++ c :: [.int .i64 t, .int .i64 e, .bool dn, .str B, .sl false 2 (flds T)] :: J) := fun fr J c t e dn T he h10 => by
    refine aPost_same (J := c :: [.int .i64 t, .int .i64 e, .bool dn, .str B, .sl false 2 (flds T)] :: J) hB (v0 := wkA t e dn B (.sl false 2 (flds T))) ?_ (nilV_refl _) (by simp [wkA, bnd_tz]) (hQ t e dn T he)
    simp [h10, wkA]
  simp [Tryz.ntmps129, Tryz.results129, List.replicate_succ, wkA]
  refine VL_nilH H.length _ 4 2 (by simp; rfl) (by rfl) ?_
  simp only [List.set_cons_succ, List.set_cons_zero]
  refine VL_go (trInv m r f s fm B H) (fun fr _ => s.length - (ai (aget fr 11)).toNat) ⟨[], fm, [], by simp [flds], by omega, hfm, by omega, by simp, by rw [Nat.sub_self]; exact h0, fr_intro (by simp)⟩ ?_
  rintro fr H' ⟨J, a, T, rfl, ha, hal, har, hT, hfw, x, rfl⟩
  obtain ⟨n, hn⟩ : ∃ n, run not10 (s.drop a) = n := ⟨_, rfl⟩
  have hnl := run_le not10 (s.drop a)
  rw [hn, List.length_drop] at hnl
  simp
  refine ending_pc E _ _ s a s.length hs hal hs ?_
  by_cases hj : a + n < s.length
  · have hea : endAns s a s.length = ((a + n : Nat) : Int) := by unfold endAns; rw [hn, if_pos ⟨hj, by omega⟩]
    rw [hea]
    obtain ⟨j, hjj⟩ : ∃ j, j = a + n := ⟨_, rfl⟩
    rw [← hjj]
    have hw1 : IntKind.i64.wrap ((j : Int) - fm) = ((j - fm : Nat) : Int) := by rw [wrap_in (by omega) (by omega)]; omega
    by_cases hroom : r ≤ j - fm
    · have hr' : (r : Int) ≤ ((j - fm : Nat) : Int) := by omega
      simp [hw1, hr']
      refine open_pc E _ _ 0 0 false B (.sl false 2 (flds T)) rfl rfl (bnd_tz T) s fm r 104 hs hfm (fun hlt => ?_) (fun hge => by omega)
      have h1 := tr_over (k := r - (a - fm)) hfw (by omega) (by omega) (by omega)
      rw [show a + (r - (a - fm)) + 1 = fm + r + 1 by omega] at h1
      simp [wkA, -Int.natCast_add]
      exact fin _ _ _ _ _ _ _ h1 rfl
    · have hr' : ¬ (r : Int) ≤ ((j - fm : Nat) : Int) := by omega
      have hsec : (((a - fm) + n : Nat) : Int) < r := by omega
      have hend := endL_snoc s a n (by omega)
      by_cases hz : n = 0
      · have hja : j = a := by omega
        rw [if_pos (.inl hz)] at hend
        have h1 := tr_none hfw hj hn hsec hend
        rw [← hjj] at h1
        have e0 : ((j : Int) == a) = true := by simp; omega
        simp [hw1, hr', e0]
        refine failed_pc E _ _ 0 0 false B (.sl false 2 (flds T)) rfl rfl (bnd_tz T) j 101 (by omega) ?_
        simp [wkA, -Int.natCast_add]
        exact fin _ _ _ _ _ _ _ h1 rfl
      · obtain ⟨j1, hj1⟩ : ∃ j1, j = j1 + 1 := ⟨j - 1, by omega⟩
        have hw3 : IntKind.i64.wrap ((j : Int) - 1) = (j1 : Int) := by rw [wrap_in (by omega) (by omega)]; omega
        have e0 : ((j : Int) == a) = false := by simp; omega
        obtain ⟨c, hc⟩ : ∃ c, s[j1]? = some c := ⟨_, List.getElem?_eq_getElem (by omega)⟩
        have hat := lat_eq hc
        have hj1l : j1 < s.length := by omega
        by_cases h13 : c = 13
        · subst h13
          rw [show a + n - 1 = j1 by omega, if_neg (by rw [hc]; simp; exact hz), show n - 1 = j1 - a by omega] at hend
          obtain ⟨ln, hln⟩ : ∃ ln, (s.drop a).take (j1 - a) = ln := ⟨_, rfl⟩
          have hlnl : ln.length ≤ s.length := by rw [← hln, List.length_take, List.length_drop]; omega
          rw [hln] at hend
          have haj : a ≤ j1 := by omega
          have hjl : j1 ≤ s.length := by omega
          by_cases hle : ln = []
          · subst hle
            have h1 := tr_done hfw hj hn hsec hend
            have hw4 : IntKind.i64.wrap ((j : Int) + 1) = ((a + n + 1 : Nat) : Int) := by rw [wrap_in (by omega) (by omega)]; omega
            simp [hw1, hr', e0, hw3, hat, hj1l, hln, haj, hjl, hw4, -Int.natCast_add]
            exact fin _ _ _ _ _ _ _ h1 rfl
          · have hle2 : (ln == []) = false := beq_eq_false_iff_ne.2 hle
            by_cases hf : f ≤ T.length
            · have h1 := tr_many hfw hj hn hsec hend hle hf
              rw [← hjj] at h1
              simp [hw1, hr', e0, hw3, hat, hj1l, hln, haj, hjl, hle2, hf]
              refine failed_pc E _ _ 0 0 false B (.sl false 2 (flds T)) rfl rfl (bnd_tz T) j 104 (by omega) ?_
              simp [wkA, -Int.natCast_add]
              exact fin _ _ _ _ _ _ _ h1 rfl
            · simp [hw1, hr', e0, hw3, hat, hj1l, hln, haj, hjl, hle2, hf]
              refine dline_pc E _ _ ln (by simp only [cap]; omega) (fun g hg => ?_) (fun hno pl e he => ?_)
              · have hgn : g.name.length ≤ cap := by
                  unfold lineF at hg
                  split at hg
                  · cases hg
                    simp only [List.length_take, cap]; omega
                  · cases hg
                simp
                refine ref_may_pc E _ _ g.name hgn ?_
                cases hmt : mayB g.name with
                | true =>
                  have h1 := tr_go hfw hj hn hsec hend hle hf hg hmt
                  have hw4 : IntKind.i64.wrap ((j : Int) + 1) = ((j + 1 : Nat) : Int) := by rw [wrap_in (by omega) (by omega)]; omega
                  have m3 : T.length + 1 ≤ maxLen := by unfold maxLen; omega
                  have m4 : (T.length + 1) * 32 ≤ 140737488355328 := by omega
                  simp [m3, m4, flds_snoc, hw4, -Int.natCast_add]
                  refine Kloop_normal ⟨_, j + 1, T ++ [g], by simp; rfl, by omega, by omega, by omega, by simp; omega, ?_, fr_intro (by simp)⟩ (by simp; omega)
                  rw [show a - fm + n + 1 = j + 1 - fm by omega, show a + n + 1 = j + 1 by omega] at h1
                  exact h1
                | false =>
                  have h1 := tr_bad hfw hj hn hsec hend hle hf (.inr ⟨g, hg, hmt⟩)
                  rw [← hjj] at h1
                  simp
                  refine failed_pc E _ _ 0 0 false B (.sl false 2 (flds T)) rfl rfl (bnd_tz T) j 101 (by omega) ?_
                  simp [wkA, -Int.natCast_add]
                  exact fin _ _ _ _ _ _ _ h1 rfl
              · have h1 := tr_bad hfw hj hn hsec hend hle hf (.inl hno)
                rw [← hjj] at h1
                have he2 : (e != 0) = true := by simpa using he
                simp [he2]
                refine failed_pc E _ _ 0 0 false B (.sl false 2 (flds T)) rfl rfl (bnd_tz T) j 101 (by omega) ?_
                simp [wkA, -Int.natCast_add]
                exact fin _ _ _ _ _ _ _ h1 rfl
        · rw [show a + n - 1 = j1 by omega, if_pos (.inr (by rw [hc]; simpa using h13))] at hend
          have h1 := tr_none hfw hj hn hsec hend
          rw [← hjj] at h1
          have t1 : ((c.toNat : Int) == 13) = false := byte_ne c 13 (by omega) h13
          simp [hw1, hr', e0, hw3, hat, hj1l, t1, bne]
          refine failed_pc E _ _ 0 0 false B (.sl false 2 (flds T)) rfl rfl (bnd_tz T) j 101 (by omega) ?_
          simp [wkA, -Int.natCast_add]
          exact fin _ _ _ _ _ _ _ h1 rfl
  · have hea : endAns s a s.length = -1 := by unfold endAns; rw [hn, if_neg (by omega)]
    rw [hea]
    simp
    refine open_pc E _ _ 0 0 false B (.sl false 2 (flds T)) rfl rfl (bnd_tz T) s fm r 104 hs hfm (fun hlt => ?_) (fun hge => ?_)
    · have h1 := tr_over (k := r - (a - fm)) hfw (by omega) (by omega) (by omega)
      rw [show a + (r - (a - fm)) + 1 = fm + r + 1 by omega] at h1
      simp [wkA, -Int.natCast_add]
      exact fin _ _ _ _ _ _ _ h1 rfl
    · have h1 := tr_open hfw hal (by omega) (by omega)
      simp [wkA, -Int.natCast_add]
      exact fin _ _ _ _ _ _ _ h1 rfl
end
end Go.Proofs.YtcdkcaocfioigaaGreatDoor

set_option linter.unusedVariables false
set_option linter.unnecessarySimpa false
set_option linter.unusedSimpArgs false
set_option linter.unusedSectionVars false
set_option maxRecDepth 100000
namespace Go.Proofs.YtcdkcaocfioigaaGreatDoor
open Go Go.RowKit Go.Proofs

section
variable (E : Env) (H : Hp) (Q : AV → Hp → Prop)
def wkInv (m r f : Int) (s : List UInt8) (H : Hp) (fr : List AV) (H' : Hp) : Prop :=
  ∃ (a : Nat) (B : List UInt8), H' = H ++ [[.int .i64 0, .int .i64 0, .bool false, .str [], .nil], [.int .i64 0, .int .i64 0, .bool false, .str B, .nil]] ∧ a ≤ s.length ∧ B.length ≤ a ∧ Fw m r f s (szD m r f B a) a ∧
    ∃ x : Nat → AV, fr = [.str s, .int .i64 m, .int .i64 r, .int .i64 f, x 4, x 5, x 6, x 7, .ptr (some (H.length, 0)), .ptr (some (H.length + 1, 0)), .int .i64 a, x 11, x 12, x 13, x 14, x 15, x 16, x 17, x 18, x 19, x 20, x 21, x 22, x 23, x 24, x 25, x 26, x 27, x 28, x 29, x 30, x 31, x 32, x 33, x 34, x 35, x 36, x 37, x 38, x 39, x 40, x 41, x 42, x 43, x 44, x 45, x 46, x 47, x 48, x 49, x 50, x 51, x 52, x 53, x 54, x 55, x 56, x 57, x 58, x 59, x 60, x 61, x 62, x 63, x 64, x 65, x 66, x 67, x 68, x 69, x 70, x 71, x 72, x 73, x 74, x 75, x 76, x 77, x 78, x 79, x 80, x 81, x 82, x 83, x 84, x 85, x 86, x 87, x 88, x 89, x 90, x 91, x 92, x 93, x 94, x 95, x 96, x 97, x 98, x 99, x 100, x 101, x 102, x 103, x 104, x 105, x 106, x 107, x 108, x 109, x 110, x 111, x 112, x 113, x 114, x 115, x 116, x 117, x 118, x 119, x 120, x 121, x 122, x 123, x 124, x 125, x 126, x 127, x 128, x 129]
def wkInv2 (m r f : Int) (s : List UInt8) (a0 : Nat) (B : List UInt8) (H : Hp) (fr : List AV) (H' : Hp) : Prop :=
  ∃ (i a : Nat), H' = H ++ [[.int .i64 0, .int .i64 0, .bool false, .str [], .nil], [.int .i64 0, .int .i64 0, .bool false, .str B, .nil]] ∧ i ≤ 2 ∧ a = a0 + i ∧ a ≤ s.length ∧ B.length ≤ a ∧ Fw m r f s (phD m r f i B a) a ∧
    ∃ x : Nat → AV, fr = [.str s, .int .i64 m, .int .i64 r, .int .i64 f, x 4, x 5, x 6, x 7, .ptr (some (H.length, 0)), .ptr (some (H.length + 1, 0)), .int .i64 a, x 11, x 12, x 13, x 14, x 15, x 16, x 17, x 18, x 19, x 20, x 21, x 22, x 23, x 24, x 25, x 26, x 27, x 28, x 29, x 30, x 31, x 32, x 33, x 34, x 35, x 36, x 37, x 38, x 39, x 40, x 41, x 42, x 43, x 44, x 45, x 46, x 47, x 48, x 49, x 50, x 51, x 52, x 53, x 54, x 55, x 56, x 57, x 58, x 59, x 60, x 61, x 62, x 63, x 64, x 65, x 66, x 67, x 68, x 69, x 70, x 71, x 72, x 73, x 74, x 75, x 76, x 77, x 78, x 79, x 80, x 81, x 82, x 83, x 84, x 85, x 86, x 87, x 88, x 89, x 90, x 91, x 92, x 93, x 94, x 95, x 96, x 97, x 98, x 99, x 100, x 101, x 102, x 103, x 104, x 105, .sl true 1 (bts [13, 10]), .int .i64 2, .int .i64 i, x 109, x 110, x 111, x 112, x 113, x 114, x 115, x 116, x 117, x 118, x 119, x 120, x 121, x 122, x 123, x 124, x 125, x 126, x 127, x 128, x 129]
set_option maxHeartbeats 4000000 in
theorem walk_pc' (m f : Int) (r : Nat) (s : List UInt8) (hs : s.length ≤ 1000000000) (hm : 0 ≤ m ∧ m ≤ 9223372036854775807)
    (hQ1 : ∀ t e dn B T z, Ends m r f s t e dn B T → (z = .sl false 2 (flds T) ∨ T = [] ∧ z = .nil) → Q (wkA t e dn B z) H) :
    PC Tryz.prog E 95 [.str s, .int .i64 m, .int .i64 r, .int .i64 f] H Q := by
  refine pc_enter Tryz.func95 rfl [] [] (by kernel_rfl) (fun hB => ?_)
  have fin : ∀ (fr : List AV) (J : Hp) (c : List AV) (t : Nat) e dn B T z, Ends m r f s t e dn B T → (z = .sl false 2 (flds T) ∨ T = [] ∧ z = .nil) → aget fr 8 = .ptr (some (H.length, 0)) → aPost Tryz.prog [ResultVar.cell 8 156] H.length Q .ret fr (H ++ [.int .i64 t, .int .i64 e, .bool dn, .str B, z] :: J) := fun fr J c t e dn B T z he hz h8 => by
    have hz1 : z.dis = z ∧ z.free = true ∧ ∀ N, Bnd N z := by
      rcases hz with rfl | ⟨_, rfl⟩
      · exact ⟨rfl, rfl, fun N => bnd_tz T⟩
      · exact ⟨rfl, rfl, fun N => .nil⟩
    refine aPost_same (J := [.int .i64 t, .int .i64 e, .bool dn, .str B, z] :: J) hB (v0 := wkA t e dn B z) ?_ (nilV_refl _) (by simp [wkA, hz1.2.2]) (hQ1 t e dn B T z he hz)
    simp [h8, wkA, hz1.1, hz1.2.1]
  have finN : ∀ (fr : List AV) (J : Hp) (t : Nat) e dn B, Ends m r f s t e dn B [] → aget fr 8 = .ptr (some (H.length, 0)) → aPost Tryz.prog [ResultVar.cell 8 156] H.length Q .ret fr (H ++ [.int .i64 t, .int .i64 e, .bool dn, .str B, .nil] :: J) := fun fr J t e dn B he h8 => fin fr J [] t e dn B [] .nil he (.inr ⟨rfl, rfl⟩) h8
  simp [Tryz.ntmps95, Tryz.results95, List.replicate_succ]
  refine VL_go (wkInv m r f s H) (fun fr _ => s.length - (ai (aget fr 10)).toNat) ⟨0, [], by simp, by omega, by simp, fw_new, fr_intro (by simp)⟩ ?_
  rintro fr H' ⟨a, B, rfl, hal, hBl, hfw, x, rfl⟩
  obtain ⟨n, hn⟩ : ∃ n, run not10 (s.drop a) = n := ⟨_, rfl⟩
  have hnl := run_le not10 (s.drop a)
  rw [hn, List.length_drop] at hnl
  simp
  refine ending_pc E _ _ s a 256 hs hal (by decide) ?_
  by_cases hj : a + n < s.length ∧ n < 256
  · have hea : endAns s a 256 = ((a + n : Nat) : Int) := by unfold endAns; rw [hn, if_pos hj]
    rw [hea]
    obtain ⟨hj, h256⟩ := hj
    obtain ⟨j, hjj⟩ : ∃ j, j = a + n := ⟨_, rfl⟩
    rw [← hjj]
    have hend := endL_snoc s a n (by omega)
    by_cases hz : n = 0
    · rw [if_pos (.inl hz)] at hend
      have h1 := sz_none hfw hj hn h256 hend
      rw [← hjj] at h1
      have e0 : ((j : Int) == a) = true := by simp; omega
      simp [e0]
      refine failed_pc E _ _ 0 0 false B .nil rfl rfl .nil j 100 (by omega) ?_
      simp [wkA, -Int.natCast_add]
      exact finN _ _ _ _ _ _ h1 rfl
    · obtain ⟨j1, hj1⟩ : ∃ j1, j = j1 + 1 := ⟨j - 1, by omega⟩
      have hw3 : IntKind.i64.wrap ((j : Int) - 1) = (j1 : Int) := by rw [wrap_in (by omega) (by omega)]; omega
      have e0 : ((j : Int) == a) = false := by simp; omega
      obtain ⟨c, hc⟩ : ∃ c, s[j1]? = some c := ⟨_, List.getElem?_eq_getElem (by omega)⟩
      have hat := lat_eq hc
      have hj1l : j1 < s.length := by omega
      by_cases h13 : c = 13
      · subst h13
        rw [show a + n - 1 = j1 by omega, if_neg (by rw [hc]; simp; exact hz), show n - 1 = j1 - a by omega] at hend
        obtain ⟨ln, hln⟩ : ∃ ln, (s.drop a).take (j1 - a) = ln := ⟨_, rfl⟩
        have hlnl : ln.length ≤ s.length := by rw [← hln, List.length_take, List.length_drop]; omega
        rw [hln] at hend
        have haj : a ≤ j1 := by omega
        have hjl : j1 ≤ s.length := by omega
        simp [e0, hw3, hat, hj1l, hln, haj, hjl]
        refine dsize_pc E _ _ ln (by simp only [cap]; omega) ?_
        by_cases he : (sizeAns ln).2.2 = 0
        · obtain ⟨N, hN⟩ : ∃ N, (sizeAns ln).1 = N := ⟨_, rfl⟩
          have hrng := sizeAns_rng ln he
          rw [hN] at hrng
          have hw5 : IntKind.i64.wrap (m - (B.length : Int)) = m - B.length := wrap_in (by omega) (by omega)
          by_cases hmu : m - B.length < N
          · have h1 := sz_much hfw hj hn h256 hend he (by rw [hN]; exact hmu)
            rw [← hjj] at h1
            simp [he, hN, hw5, hmu]
            refine failed_pc E _ _ 0 0 false B .nil rfl rfl .nil j 102 (by omega) ?_
            simp [wkA, -Int.natCast_add]
            exact finN _ _ _ _ _ _ h1 rfl
          · have hw4 : IntKind.i64.wrap ((j : Int) + 1) = ((j + 1 : Nat) : Int) := by rw [wrap_in (by omega) (by omega)]; omega
            by_cases hN0 : N = 0
            · have h1 := sz_trail hfw hj hn h256 hend he (by rw [hN]; exact hmu) (by rw [hN]; exact hN0)
              rw [← hjj] at h1
              subst hN0
              simp [he, hN, hw5, hmu, hw4, -Int.natCast_add]
              refine trail_pc E _ _ m f r s (j + 1) B hs (by omega) h1 (fun t e dn T hE => ?_)
              simp [wkA, -Int.natCast_add]
              exact fin _ _ [] _ _ _ _ _ _ hE (.inl rfl) rfl
            · have h1 := sz_data hfw hj hn h256 hend he (by rw [hN]; exact hmu) (by rw [hN]; exact hN0)
              rw [← hjj, hN] at h1
              obtain ⟨k, rfl⟩ : ∃ k : Nat, N = k := ⟨N.toNat, by omega⟩
              have hN2 : ((k : Int) == 0) = false := by simpa using hN0
              obtain ⟨a1, ha1⟩ : ∃ a1, a1 = j + 1 := ⟨_, rfl⟩
              rw [← ha1] at h1 hw4
              have hw6 : IntKind.i64.wrap ((s.length : Int) - a1) = ((s.length - a1 : Nat) : Int) := by rw [wrap_in (by omega) (by omega)]; omega
              have hle1 : a1 ≤ s.length := by omega
              by_cases hlt : s.length - a1 < k
              · have h2 := da_open h1 hle1 (by omega)
                have hlt' : ((s.length - a1 : Nat) : Int) < k := by omega
                have m3 : B.length + (s.length - a1) ≤ maxLen := by unfold maxLen; omega
                simp [he, hN, hw5, hmu, hw4, hN2, hw6, hlt', hle1, m3, -Int.natCast_add]
                exact finN _ _ _ _ _ _ h2 rfl
              · have hlt' : ¬ ((s.length - a1 : Nat) : Int) < k := by omega
                have h2 := da_full h1 (by omega) (by omega)
                obtain ⟨a2, ha2⟩ : ∃ a2, a2 = a1 + k := ⟨_, rfl⟩
                obtain ⟨B2, hB2⟩ : ∃ B2, B ++ (s.drop a1).take k = B2 := ⟨_, rfl⟩
                have hB2l : B2.length ≤ a2 := by rw [← hB2, List.length_append, List.length_take]; omega
                rw [← ha2, hB2] at h2
                have hw7 : IntKind.i64.wrap ((a1 : Int) + k) = a2 := by rw [wrap_in (by omega) (by omega)]; omega
                have hle2 : a1 ≤ a2 := by omega
                have hle3 : a2 ≤ s.length := by omega
                have hsl : (s.drop a1).take (a2 - a1) = (s.drop a1).take k := by rw [show a2 - a1 = k by omega]
                have m4 : B.length + min k (s.length - a1) ≤ maxLen := by unfold maxLen; omega
                simp [he, hN, hw5, hmu, hw4, hN2, hw6, hlt', hle1, hw7, hle2, hle3, hsl, hB2, m4, (by decide : ([0, 1] : List Nat) = List.range 2), -Int.natCast_add]
                refine VL_go (wkInv2 m r f s a2 B2 H) (fun fr _ => 2 - (ai (aget fr 108)).toNat) ⟨0, a2, rfl, by omega, by omega, hle3, hB2l, h2, fr_intro (by simp [bts])⟩ ?_
                rintro fr H' ⟨i, b, rfl, hi, hb, hbl, hBb, hph, y, rfl⟩
                by_cases hi2 : i < 2
                · have hi' : (i : Int) < 2 := by omega
                  have hw8 : IntKind.i64.wrap ((i : Int) + 1) = i + 1 := wrap_in (by omega) (by omega)
                  have hw9 : IntKind.i64.wrap ((b : Int) + 1) = ((b + 1 : Nat) : Int) := by rw [wrap_in (by omega) (by omega)]; omega
                  obtain ⟨q, hq⟩ : ∃ q : UInt8, q = if i = 0 then 13 else 10 := ⟨_, rfl⟩
                  have hrow : lat (bts [13, 10]) i = some [.int .u8 (q.toNat : Int)] := by
                    rcases (by omega : i = 0 ∨ i = 1) with rfl | rfl
                    · simp at hq; subst hq; rfl
                    · simp at hq; subst hq; rfl
                  by_cases hbe : b = s.length
                  · have h3 := ph_open hph hbe
                    have e1 : ((b : Int) == s.length) = true := by simp; omega
                    rw [← hbe] at h3
                    simp [hi', hrow, e1]
                    exact finN _ _ _ _ _ _ h3 rfl
                  · have e1 : ((b : Int) == s.length) = false := by simp; omega
                    obtain ⟨u, hu⟩ : ∃ u, s[b]? = some u := ⟨_, List.getElem?_eq_getElem (by omega)⟩
                    have hatu := lat_eq hu
                    have hbs : b < s.length := by omega
                    by_cases huq : u = q
                    · have h3 := ph_go hi2 hph (by rw [hu, huq, hq])
                      subst huq
                      simp [hi', hrow, e1, hatu, hbs, hw8, hw9, -Int.natCast_add]
                      exact Kloop_normal ⟨i + 1, b + 1, rfl, by omega, by omega, by omega, by omega, h3, fr_intro (by simp)⟩ (by simp; omega)
                    · have h3 := ph_bad hi2 hph hu (by rw [← hq]; exact huq)
                      have e2 : ((u.toNat : Int) == (q.toNat : Int)) = false := by
                        rw [beq_eq_false_iff_ne]
                        intro hh
                        exact huq (UInt8.toNat_inj.1 (by omega))
                      simp [hi', hrow, e1, hatu, hbs, e2, bne]
                      refine failed_pc E _ _ 0 0 false B2 .nil rfl rfl .nil b 100 (by omega) ?_
                      simp [wkA, -Int.natCast_add]
                      exact finN _ _ _ _ _ _ h3 rfl
                · obtain rfl : i = 2 := by omega
                  rw [ph_two] at hph
                  simp
                  exact Kloop_normal ⟨b, B2, rfl, by omega, hBb, hph, fr_intro (by simp)⟩ (by simp; omega)
        · have h1 := sz_bad hfw hj hn h256 hend he
          rw [← hjj] at h1
          have he2 : ((sizeAns ln).2.2 != 0) = true := by simpa using he
          simp [he2]
          refine failed_pc E _ _ 0 0 false B .nil rfl rfl .nil j (sizeAns ln).2.2 (by omega) ?_
          simp [wkA, -Int.natCast_add]
          exact finN _ _ _ _ _ _ h1 rfl
      · rw [show a + n - 1 = j1 by omega, if_pos (.inr (by rw [hc]; simpa using h13))] at hend
        have h1 := sz_none hfw hj hn h256 hend
        rw [← hjj] at h1
        have t1 : ((c.toNat : Int) == 13) = false := byte_ne c 13 (by omega) h13
        simp [e0, hw3, hat, hj1l, t1, bne]
        refine failed_pc E _ _ 0 0 false B .nil rfl rfl .nil j 100 (by omega) ?_
        simp [wkA, -Int.natCast_add]
        exact finN _ _ _ _ _ _ h1 rfl
  · have hea : endAns s a 256 = -1 := by unfold endAns; rw [hn, if_neg hj]
    rw [hea]
    simp
    refine open_pc E _ _ 0 0 false B .nil rfl rfl .nil s a 255 100 hs hal (fun hlt => ?_) (fun hge => ?_)
    · have h1 := sz_over hfw (by omega) (by omega)
      simp [wkA, -Int.natCast_add]
      exact finN _ _ _ _ _ _ h1 rfl
    · have h1 := sz_open hfw hal (by omega) (by omega)
      simp [wkA, -Int.natCast_add]
      exact finN _ _ _ _ _ _ h1 rfl
theorem walk_pc (m f : Int) (r : Nat) (s : List UInt8) (hs : s.length ≤ 1000000000) (hm : 0 ≤ m ∧ m ≤ 9223372036854775807)
    (hQ : ∀ t e dn B T, Ends m r f s t e dn B T → Q (wkA t e dn B (.sl false 2 (flds T))) H) :
    PC Tryz.prog E 95 [.str s, .int .i64 m, .int .i64 r, .int .i64 f] H Q := by
  refine PC.nilD (walk_pc' E H _ m f r s hs hm (fun t e dn B T z hE hz => ?_))
  refine ⟨wkA t e dn B (.sl false 2 (flds T)), ?_, hQ t e dn B T hE⟩
  rcases hz with rfl | ⟨rfl, rfl⟩
  · exact .same _
  · exact NilD_agg (by simp [flds])
end
end Go.Proofs.YtcdkcaocfioigaaGreatDoor

set_option linter.unusedVariables false
set_option linter.unnecessarySimpa false
set_option linter.unusedSimpArgs false
set_option linter.unusedSectionVars false
set_option maxRecDepth 100000
namespace Go.Proofs.YtcdkcaocfioigaaGreatDoor
open Go Go.RowKit Go.Proofs

theorem stepD_done (d : Dec) (b : UInt8) (h : d.done = false) : (stepD d b).1.done = true → (stepD d b).2 = 0 := by
  unfold stepD sizeD dataD firstD secondD trailerD
  (repeat' split) <;> simp [h]
theorem feed1_done (d : Dec) (b : UInt8) (h : d.done = false) (h1 : (feed1 d b).done = true) : (feed1 d b).err = 0 := stepD_done { d with total := d.total + 1 } b h h1
theorem feedD_done : ∀ (s : List UInt8) (d : Dec), d.done = false → d.err = 0 → (feedD d s).1.done = true → (feedD d s).1.err = 0
  | [], d, h, he, h1 => he
  | b :: s, d, h, he, h1 => by
    rw [feedD_cons] at h1 ⊢
    by_cases hc : (feed1 d b).done = true ∨ (feed1 d b).err ≠ 0
    · rw [if_pos hc] at h1 ⊢
      exact feed1_done d b h h1
    · rw [if_neg hc] at h1 ⊢
      exact feedD_done s (feed1 d b) (by cases hd : (feed1 d b).done; rfl; exact absurd (.inl hd) hc) (by by_cases he : (feed1 d b).err = 0; exact he; exact absurd (.inr he) hc) h1
section
variable (E : Env) (H : Hp) (Q : AV → Hp → Prop)
theorem limits_pc (m r f : Int) (hQ : Q (.int .i64 (if m < 0 ∨ r < 0 ∨ f < 0 then 1 else 0)) H) : PC Tryz.prog E 94 [.int .i64 m, .int .i64 r, .int .i64 f] H Q := by
  refine pc_enter Tryz.func94 rfl [] [] (by kernel_rfl) (fun hB => ?_)
  by_cases h1 : m < 0
  · rw [if_pos (.inl h1)] at hQ
    simp [Tryz.ntmps94, Tryz.results94, List.replicate_succ, h1]
    exact aPost_same0 hB rfl (nilV_refl _) (by simp) hQ
  · by_cases h2 : r < 0
    · rw [if_pos (.inr (.inl h2))] at hQ
      simp [Tryz.ntmps94, Tryz.results94, List.replicate_succ, h1, h2]
      exact aPost_same0 hB rfl (nilV_refl _) (by simp) hQ
    · by_cases h3 : f < 0
      · rw [if_pos (.inr (.inr h3))] at hQ
        simp [Tryz.ntmps94, Tryz.results94, List.replicate_succ, h1, h2, h3]
        exact aPost_same0 hB rfl (nilV_refl _) (by simp) hQ
      · rw [if_neg (by omega)] at hQ
        simp [Tryz.ntmps94, Tryz.results94, List.replicate_succ, h1, h2, h3]
        exact aPost_same0 hB rfl (nilV_refl _) (by simp) hQ
theorem ddecode_pc (s : List UInt8) (m r f : Int) (hs : s.length ≤ 1000000000) (hm : m ≤ 9223372036854775807)
    (hQ : Q (.tup [.str (decodeD s m r f).1, .sl false 2 (flds (decodeD s m r f).2.1), .int .i64 (decodeD s m r f).2.2.1, .int .i64 (decodeD s m r f).2.2.2]) H) : PC Tryz.prog E 59 [.str s, .int .i64 m, .int .i64 r, .int .i64 f] H Q := by
  refine pc_enter Tryz.func59 rfl [] [] (by kernel_rfl) (fun hB => ?_)
  simp [Tryz.ntmps59, Tryz.results59, List.replicate_succ]
  refine limits_pc E _ _ m r f ?_
  by_cases hneg : m < 0 ∨ r < 0 ∨ f < 0
  · unfold decodeD at hQ
    rw [if_pos hneg] at hQ
    rw [if_pos hneg]
    simp
    exact aPost_same0 hB (v0 := .tup [.str [], .nil, .int .i64 0, .int .i64 1]) (by simp) (nilV_tup4 2 _ _ _ rfl rfl rfl) (by simp) hQ
  · unfold decodeD at hQ
    rw [if_neg hneg] at hQ
    rw [if_neg hneg]
    obtain ⟨r, rfl⟩ : ∃ k : Nat, r = k := ⟨r.toNat, by omega⟩
    simp
    refine walk_pc E _ _ m f r s hs ⟨by omega, hm⟩ (fun t e dn B T hE => ?_)
    obtain ⟨h1, h2, h3, h4, h5⟩ := hE
    have hdn := feedD_done s (newD m r f) rfl rfl
    have hle := feedD_le s (newD m r f)
    rw [h1] at hle
    rw [h2, h3] at hdn
    rw [h1, h2, h3, h4, h5] at hQ
    cases dn with
    | true =>
      rw [if_neg (by simp [hdn rfl]), if_neg (by simp)] at hQ
      simp [wkA]
      exact aPost_same hB (v0 := .tup [.str B, .sl false 2 (flds T), .int .i64 t, .int .i64 0]) (by simp) (nilV_refl _) (by simp) hQ
    | false =>
      by_cases he : e = 0
      · rw [if_neg (by simp [he]), if_pos rfl] at hQ
        simp [wkA, he]
        exact aPost_same hB (v0 := .tup [.str [], .nil, .int .i64 s.length, .int .i64 105]) (by simp) (nilV_tup4 2 _ _ _ rfl rfl rfl) (by simp) hQ
      · rw [if_pos he] at hQ
        have he2 : (e != 0) = true := by simpa using he
        have hw : IntKind.i64.wrap ((t : Int) - 1) = t - 1 := wrap_in (by omega) (by omega)
        simp [wkA, he2, hw]
        exact aPost_same hB (v0 := .tup [.str [], .nil, .int .i64 ((t : Int) - 1), .int .i64 e]) (by simp) (nilV_tup4 2 _ _ _ rfl rfl rfl) (by simp) hQ
theorem decodeD_len (s : List UInt8) (m r f : Int) (hs : s.length ≤ 1000000000) (h1 : m ≤ 9223372036854775807) (h2 : r ≤ 9223372036854775807) (h3 : f ≤ 9223372036854775807) : (decodeD s m r f).2.1.length ≤ 1073741824 := by
  unfold decodeD
  split
  · simp
  · split
    · simp
    · split
      · simp
      · rename_i g _ _
        obtain ⟨hok, ht⟩ := feedD_ok s (newD m r f) (newD_ok m r f ⟨by omega, h1⟩ ⟨by omega, h2⟩ ⟨by omega, h3⟩)
        have hle := feedD_le s (newD m r f)
        have := hok.2.2.1
        have ht0 : (newD m r f).total = 0 := rfl
        simp only
        omega
end
theorem kind_i64 {x : AV} (h : KindOf (.int .i64) x) : ∃ z, x = .int .i64 z ∧ -9223372036854775808 ≤ z ∧ z ≤ 9223372036854775807 := by
  cases x <;> simp [KindOf] at h
  obtain ⟨rfl, h⟩ := h
  refine ⟨_, rfl, ?_⟩
  simpa [Lit.wf, IntKind.min, IntKind.max, IntKind.signed, IntKind.bits] using h
theorem kind_bool {x : AV} (h : KindOf .bool x) : ∃ z, x = .bool z := by
  cases x <;> simp [KindOf] at h
  exact ⟨_, rfl⟩
theorem kind_str {x : AV} (h : KindOf .str x) : ∃ z, x = .str z := by
  cases x <;> simp [KindOf] at h
  exact ⟨_, rfl⟩
end Go.Proofs.YtcdkcaocfioigaaGreatDoor

set_option linter.unusedVariables false
set_option linter.unnecessarySimpa false
set_option linter.unusedSimpArgs false
set_option linter.unusedSectionVars false
set_option maxRecDepth 100000
namespace Go.Proofs.YtcdkcaocfioigaaGreatDoor
open Go Go.RowKit Go.Proofs

/-- A decoder that is played, as the law has it. -/
def dptr (p : Option Nat) : AV := .ptr (p.map fun i => (i, 0))
def PlI (H : Hp) (p : Option Nat) (m r f : Int) (fed : List UInt8) (gone : Bool) : Prop := ∀ i, p = some i →
  H[i]? = some (feedD (newD m r f) fed).1.av ∧ (feedD (newD m r f) fed).2 = fed.length ∧ (gone = false → goD (feedD (newD m r f) fed).1) ∧ (gone = true → (feedD (newD m r f) fed).1.done = true ∨ (feedD (newD m r f) fed).1.err ≠ 0) ∧
    (0 ≤ m ∧ m ≤ 9223372036854775807) ∧ (0 ≤ r ∧ r ≤ 9223372036854775807) ∧ (0 ≤ f ∧ f ≤ 9223372036854775807)
theorem aPost_up {P : Program} {rs : List ResultVar} {n : Nat} {Q : AV → Hp → Prop} {fr : List AV} {H' : Hp} {v : AV} (h1 : ares P fr H' rs = some v) (h3 : n ≤ H'.length) (h4 : BndH H'.length H') (h5 : Bnd H'.length v) (h6 : Q v H') :
    aPost P rs n Q .ret fr H' := ⟨v, v, H', H', [], h1, nilV_refl _, nilH_refl _, (List.append_nil H').symm, h3, h4, h5, h6⟩
theorem pc_enterF {P : Program} {E : Env} (S : Nat → Prop) {f : FuncId} {fn : Func} {c : Code} (hf : P.funcs[f]? = some fn) (hb : fn.body = some c) (B : List Tmp) (ND : List (Nat × List Nat)) (hok : okB P B ND fn = true) {args : List AV} {H : Hp} {Q : AV → Hp → Prop}
    (h : ∀ E' : Env, E'.S = S → E'.w0 = E.w0 → E'.Fix = E.Fix → BndH H.length H → vc P E' B ND c (aPost P fn.results.toList H.length Q) (args ++ List.replicate (fn.ntmps - args.length) (.raw undef)) H) : PC P E f args H Q :=
  PC.env (E := E) (E' := { E with S := S }) rfl rfl (pc_enter hf hb B ND hok (h _ rfl rfl rfl))
section
variable (E : Env) (H : Hp) (Q : AV → Hp → Prop)
structure COp where
  k : Int
  s : List UInt8
def COp.av (o : COp) : List AV := [.int .i64 o.k, .str o.s]
end
end Go.Proofs.YtcdkcaocfioigaaGreatDoor

set_option linter.unusedVariables false
set_option linter.unnecessarySimpa false
set_option linter.unusedSimpArgs false
set_option linter.unusedSectionVars false
set_option maxRecDepth 100000
namespace Go.Proofs.YtcdkcaocfioigaaGreatDoor
open Go Go.RowKit Go.Proofs

@[simp] theorem dptr_dis (p : Option Nat) : (dptr p).dis = dptr p := rfl
@[simp] theorem dptr_free (p : Option Nat) : (dptr p).free = true := rfl
@[simp] theorem dptr_one (p : Option Nat) : (dptr p).one = true := rfl
theorem at_lt {α : Type} {l : List α} {i : Nat} {x : α} (h : l[i]? = some x) : i < l.length := (List.getElem?_eq_some_iff.1 h).1
theorem up_drop {H H' : Hp} (h : H.length ≤ H'.length) (k : ∀ j, j < H.length → H'[j]? = H[j]?) : H' = H ++ H'.drop H.length := by
  refine List.ext_getElem? fun j => ?_
  by_cases hj : j < H.length
  · rw [List.getElem?_append_left hj, k j hj]
  · rw [List.getElem?_append_right (by omega), List.getElem?_drop]; congr 1; omega
theorem aPost_law {P : Program} {rs : List ResultVar} {Q : AV → Hp → Prop} {fr : List AV} {H H' : Hp} {v0 : AV} (hB : BndH H.length H) (hl : H.length ≤ H'.length) (hk : ∀ j, j < H.length → H'[j]? = H[j]?) (h1 : ares P fr H' rs = some v0) (h5 : Bnd H.length v0) (h6 : Q v0 H) :
    aPost P rs H.length Q .ret fr H' := by
  have e := up_drop hl hk
  rw [e] at h1 ⊢
  exact aPost_same hB h1 (nilV_refl _) h5 h6
theorem PlI.of_eq {H H' : Hp} {p : Option Nat} {m r f : Int} {fed : List UInt8} {gone : Bool} (h : PlI H p m r f fed gone) (he : ∀ i, p = some i → H'[i]? = H[i]?) : PlI H' p m r f fed gone := fun i hi => by
  have := h i hi
  rw [he i hi]; exact this
theorem PlI.lt {H : Hp} {p : Option Nat} {m r f : Int} {fed : List UInt8} {gone : Bool} (h : PlI H p m r f fed gone) (i : Nat) (hi : p = some i) : i < H.length := at_lt (h i hi).1
theorem PlI.app {H : Hp} {p : Option Nat} {m r f : Int} {fed : List UInt8} {gone : Bool} (h : PlI H p m r f fed gone) (J : Hp) : PlI (H ++ J) p m r f fed gone :=
  h.of_eq fun i hi => List.getElem?_append_left (h.lt i hi)
def cops (l : List COp) : List (List AV) := l.map COp.av
@[simp] theorem cops_len (l : List COp) : (cops l).length = l.length := by simp [cops]
def COp.wf (o : COp) : Prop := -9223372036854775808 ≤ o.k ∧ o.k ≤ 9223372036854775807
section
variable (E : Env) (H : Hp) (Q : AV → Hp → Prop)
variable {H}
variable (H)
end
end Go.Proofs.YtcdkcaocfioigaaGreatDoor

set_option linter.unusedVariables false
set_option linter.unnecessarySimpa false
set_option linter.unusedSimpArgs false
set_option linter.unusedSectionVars false
set_option maxRecDepth 100000
namespace Go.Proofs.YtcdkcaocfioigaaGreatDoor
open Go Go.RowKit Go.Proofs

end Go.Proofs.YtcdkcaocfioigaaGreatDoor

set_option linter.unusedVariables false
set_option linter.unnecessarySimpa false
set_option linter.unusedSimpArgs false
set_option linter.unusedSectionVars false
set_option maxRecDepth 100000
namespace Go.Proofs.YtcdkcaocfioigaaGreatDoor
open Go Go.RowKit Go.Proofs

def ints (l : List Int) : List (List AV) := l.map fun z => [.int .i64 z]
@[simp] theorem ints_len (l : List Int) : (ints l).length = l.length := by simp [ints]
theorem ints_at {l : List Int} {i : Nat} {z : Int} (h : l[i]? = some z) : lat (ints l) i = some [.int .i64 z] := by simp [lat, ints, h]
section
variable (E : Env) (H : Hp) (Q : AV → Hp → Prop)
end
end Go.Proofs.YtcdkcaocfioigaaGreatDoor

set_option linter.unusedVariables false
set_option linter.unnecessarySimpa false
set_option linter.unusedSimpArgs false
set_option linter.unusedSectionVars false
set_option maxRecDepth 100000
namespace Go.Proofs.YtcdkcaocfioigaaGreatDoor
open Go Go.RowKit Go.Proofs

/-- The digit that says n, and the digits. -/
def hx (n : Nat) : UInt8 := if n < 10 then UInt8.ofNat (48 + n) else UInt8.ofNat (87 + n)
def hexD (n : Nat) : List UInt8 := if h : n < 16 then [hx n] else hexD (n / 16) ++ [hx (n % 16)]
termination_by n
decreasing_by omega
theorem hexD_small {n : Nat} (h : n < 16) : hexD n = [hx n] := by rw [hexD, dif_pos h]
theorem hexD_big {n : Nat} (h : ¬ n < 16) : hexD n = hexD (n / 16) ++ [hx (n % 16)] := by rw [hexD, dif_neg h]
theorem hexD_pos (n : Nat) : 1 ≤ (hexD n).length := by
  by_cases h : n < 16
  · rw [hexD_small h]; simp
  · rw [hexD_big h]; simp
theorem hexD_len : ∀ (k n : Nat), n < 16 ^ (k + 1) → (hexD n).length ≤ k + 1
  | 0, n, h => by rw [hexD_small (by simpa using h)]; simp
  | k + 1, n, h => by
    by_cases h1 : n < 16
    · rw [hexD_small h1]; simp
    · rw [hexD_big h1, List.length_append]
      have := hexD_len k (n / 16) (by rw [Nat.pow_succ] at h; omega)
      simp; omega
theorem hexD_len11 (n : Nat) (h : n ≤ 1099511627776) : (hexD n).length ≤ 11 := hexD_len 10 n (by simp; omega)
/-- A chunk. -/
def chunkT (p : List UInt8) : List UInt8 := hexD p.length ++ [13, 10] ++ p ++ [13, 10]
/-- The chunks of pieces. -/
def chunksT (ps : List (List UInt8)) : List UInt8 := ps.flatMap chunkT
/-- A trailer's line, with its end. -/
def lineT (f : Fld) : List UInt8 := f.name ++ 58 :: (if f.value = [] then [] else 32 :: f.value)
def valueB (l : List UInt8) : Bool := decide (l.length ≤ 8192) && fldB l && decide (trimB l = l)
def rightB (f : Fld) : Bool := mayB f.name && valueB f.value
def linesT (ts : List Fld) : List UInt8 := ts.flatMap fun f => lineT f ++ [13, 10]
/-- What is encoded. -/
def encT (ps : List (List UInt8)) (ts : List Fld) : List UInt8 := chunksT ps ++ ([48, 13, 10] ++ (linesT ts ++ [13, 10]))
/-- The pieces that a body is cut into. -/
def piecesB : List UInt8 → List Int → List (List UInt8)
  | b, [] => if b = [] then [] else [b]
  | b, n :: ns => if b = [] then [] else b.take n.toNat :: piecesB (b.drop n.toNat) ns
theorem pieces_flat : ∀ (ns : List Int) (b : List UInt8), (piecesB b ns).flatten = b
  | [], b => by unfold piecesB; split <;> simp_all
  | n :: ns, b => by
    unfold piecesB
    split
    · simp_all
    · rw [List.flatten_cons, pieces_flat ns, List.take_append_drop]
theorem pieces_ne : ∀ (ns : List Int) (b : List UInt8), (∀ n ∈ ns, 1 ≤ n) → ∀ p ∈ piecesB b ns, p ≠ []
  | [], b, _, p, hp => by
    unfold piecesB at hp
    split at hp
    · cases hp
    · rename_i h; simp at hp; subst hp; exact h
  | n :: ns, b, hn, p, hp => by
    unfold piecesB at hp
    split at hp
    · cases hp
    · rename_i h
      rcases List.mem_cons.1 hp with rfl | hp
      · have h1 := hn n (by simp)
        intro e
        have := congrArg List.length e
        rw [List.length_take] at this
        have hb : b.length ≠ 0 := fun e => h (List.length_eq_zero_iff.1 e)
        have h3 : ([] : List UInt8).length = 0 := rfl
        omega
      · exact pieces_ne ns _ (fun x hx => hn x (by simp [hx])) p hp
theorem pieces_nil : ∀ (ns : List Int), piecesB [] ns = []
  | [] => rfl
  | _ :: _ => rfl
end Go.Proofs.YtcdkcaocfioigaaGreatDoor

set_option linter.unusedVariables false
set_option linter.unnecessarySimpa false
set_option linter.unusedSimpArgs false
set_option linter.unusedSectionVars false
set_option maxRecDepth 100000
namespace Go.Proofs.YtcdkcaocfioigaaGreatDoor
open Go Go.RowKit Go.Proofs

/-- What parameters weigh. -/
def psz : List Par → Nat
  | [] => 0
  | p :: l => p.name.length + p.value.length + psz l
theorem psz_take (l : List Par) (i : Nat) : psz (l.take i) ≤ psz l := by
  induction l generalizing i with
  | nil => simp
  | cons p l ih =>
    cases i with
    | zero => simp [psz]
    | succ i => have := ih i; simp [psz]; omega
theorem psz_mem {l : List Par} {i : Nat} {p : Par} (h : l[i]? = some p) : p.name.length + p.value.length ≤ psz l := by
  induction l generalizing i with
  | nil => simp at h
  | cons q l ih =>
    cases i with
    | zero => simp at h; subst h; simp [psz]
    | succ i => have := ih (i := i) (by simpa using h); simp [psz]; omega
theorem prtV_le (v : List UInt8) : (prtV signB v).length ≤ 2 * v.length + 2 := by
  unfold prtV
  have := quoted_le v
  split <;> omega
theorem prt_le (l : List Par) : (prt signB l).length ≤ 2 * psz l + 5 * l.length := by
  induction l with
  | nil => simp [prt, psz]
  | cons p l ih =>
    have e : prt signB (p :: l) = prt1 signB p ++ prt signB l := by simp [prt]
    have := prtV_le p.value
    rw [e, List.length_append]
    have h1 : (prt1 signB p).length ≤ p.name.length + 2 * p.value.length + 5 := by
      unfold prt1
      split <;> simp <;> omega
    simp [psz]; omega
theorem prt_step (l : List Par) (i : Nat) (p : Par) (h : l[i]? = some p) : prt signB (l.take (i + 1)) = prt signB (l.take i) ++ prt1 signB p := by
  rw [List.take_add_one, h]
  simp [prt]
def prtAns (l : List Par) : List UInt8 × Int := if l.all (okPar signB) = true then (prt signB l, 0) else ([], 15)
theorem tokP_tokB (l : List UInt8) : tokP signB l = tokB l := rfl
section
variable (E : Env) (H : Hp) (Q : AV → Hp → Prop)
def printInv (l : List Par) (H : Hp) (fr : List AV) (H' : Hp) : Prop := ∃ (J : Hp) (i : Nat), H' = H ++ J ∧ i ≤ l.length ∧ (l.take i).all (okPar signB) = true ∧ ∃ x : Nat → AV, fr = [x 0, x 1, x 2, x 3, .str (prt signB (l.take i)), x 5, x 6, x 7, .sl false 3 (prs l), .int .i64 l.length, .int .i64 i, x 11, x 12, x 13, x 14, x 15, x 16, x 17, x 18, x 19, x 20, x 21, x 22, x 23, x 24, x 25, x 26, x 27, x 28, x 29, x 30, x 31, x 32, x 33, x 34, x 35, x 36, x 37, x 38, x 39, x 40, x 41, x 42, x 43, x 44, x 45, x 46, x 47, x 48, x 49, x 50, x 51, x 52, x 53, x 54, x 55, x 56, x 57]
set_option maxHeartbeats 2000000 in
theorem print_pc (hE : SE E) (l : List Par) (hl : psz l + l.length ≤ 1048577) (hQ : Q (.tup [.str (prtAns l).1, .int .i64 (prtAns l).2]) H) : PC Tryz.prog E 138 [.sl false 3 (prs l)] H Q := by
  refine pc_enter Tryz.func138 rfl [] [] (by kernel_rfl) (fun hB => ?_)
  simp [Tryz.ntmps138, Tryz.results138, List.replicate_succ]
  refine VL_go (printInv l H) (fun fr _ => l.length - (ai (aget fr 10)).toNat) ⟨[], 0, by simp, by omega, by simp, fr_intro (by simp [prt])⟩ ?_
  rintro fr H' ⟨J, i, rfl, hi, hall, x, rfl⟩
  obtain ⟨out, hout⟩ : ∃ out, prt signB (l.take i) = out := ⟨_, rfl⟩
  have hol : out.length ≤ 7 * 1048577 := by
    rw [← hout]
    have h1 := prt_le (l.take i)
    have h2 := psz_take l i
    rw [List.length_take] at h1
    omega
  rw [hout]
  by_cases h : i < l.length
  · obtain ⟨p, hp⟩ : ∃ u, l[i]? = some u := ⟨_, List.getElem?_eq_getElem h⟩
    have hat := prs_at hp
    have hw : IntKind.i64.wrap ((i : Int) + 1) = i + 1 := wrap_in (by omega) (by omega)
    have hpw := psz_mem hp
    have hst := prt_step l i p hp
    rw [hout] at hst
    have hstep := all_step (okPar signB) l i p hp
    have hstop := all_stop (okPar signB) l i p hp
    obtain ⟨nm, vl, hs⟩ := p
    simp only at hat hpw hst hstep hstop
    have bad : okPar signB ⟨nm, vl, hs⟩ = false → Q (.tup [.str [], .int .i64 15]) H := fun hb => by
      have : prtAns l = ([], 15) := by unfold prtAns; rw [if_neg (by rw [hstop hb]; simp)]
      rw [this] at hQ; exact hQ
    have ncap : nm.length ≤ cap := by simp only [cap]; omega
    have vcap : vl.length ≤ cap := by simp only [cap]; omega
    simp [h, hat]
    refine isToken_pc E _ _ hE nm ncap ?_
    cases htk : tokB nm
    · simp
      exact aPost_same hB rfl (nilV_refl _) (by simp) (bad (by simp [okPar, tokP_tokB, htk]))
    · simp
      refine isField_pc E _ _ vl vcap ?_
      cases hfd : fldB vl
      · simp
        exact aPost_same hB rfl (nilV_refl _) (by simp) (bad (by simp [okPar, tokP_tokB, htk, hfd]))
      · have hm1 : nm.length + 2 ≤ maxLen ∧ 2 + nm.length ≤ maxLen ∧ nm.length + 1 + 1 ≤ maxLen ∧ out.length + (nm.length + 1 + 1) ≤ maxLen ∧ out.length + (nm.length + 2) ≤ maxLen := by unfold maxLen; omega
        cases hs with
        | false =>
          by_cases hv : vl = []
          · subst hv
            have hok : okPar signB ⟨nm, [], false⟩ = true := by simp [okPar, tokP_tokB, htk]; rfl
            have hst2 : prt signB (l.take (i + 1)) = out ++ 59 :: 32 :: nm := by rw [hst]; simp [prt1]
            simp [hm1, hw]
            exact Kloop_normal ⟨_, i + 1, by simp; rfl, by omega, by rw [hstep, hall, hok]; rfl, fr_intro (by rw [hst2]; simp)⟩ (by simp; omega)
          · have hne : (vl != []) = true := by simpa using hv
            simp [hne]
            exact aPost_same hB rfl (nilV_refl _) (by simp) (bad (by simp [okPar, hv]))
        | true =>
          have hok : okPar signB ⟨nm, vl, true⟩ = true := by simp [okPar, tokP_tokB, htk, hfd]
          have hst2 : prt signB (l.take (i + 1)) = out ++ 59 :: 32 :: (nm ++ 61 :: prtV signB vl) := by rw [hst]; simp [prt1]
          simp [hm1]
          refine isToken_pc E _ _ hE vl vcap ?_
          cases htv : tokB vl
          · have hpv : prtV signB vl = quoted vl := by unfold prtV; rw [tokP_tokB, htv]; simp
            have hqa : quoteAns vl = (quoted vl, 0) := by rw [quoteAns, if_pos hfd]
            have hql := quoted_le vl
            rw [hpv] at hst2
            have hm2 : (quoted vl).length + 1 ≤ maxLen ∧ 1 + (quoted vl).length ≤ maxLen ∧ out.length + (nm.length + 1 + 1) + ((quoted vl).length + 1) ≤ maxLen ∧ out.length + (nm.length + 1 + 1 + ((quoted vl).length + 1)) ≤ maxLen := by unfold maxLen; omega
            simp
            refine quote_pc E _ _ vl (by omega) ?_
            simp [hqa, hm2, hw]
            exact Kloop_normal ⟨_, i + 1, by simp; rfl, by omega, by rw [hstep, hall, hok]; rfl, fr_intro (by rw [hst2]; simp)⟩ (by simp; omega)
          · have hpv : prtV signB vl = vl := by unfold prtV; rw [tokP_tokB, htv]; simp
            rw [hpv] at hst2
            have hm2 : vl.length + 1 ≤ maxLen ∧ 1 + vl.length ≤ maxLen ∧ out.length + (nm.length + 1 + 1) + (vl.length + 1) ≤ maxLen ∧ out.length + (nm.length + 1 + 1 + (vl.length + 1)) ≤ maxLen := by unfold maxLen; omega
            simp [hm2, hw]
            exact Kloop_normal ⟨_, i + 1, by simp; rfl, by omega, by rw [hstep, hall, hok]; rfl, fr_intro (by rw [hst2]; simp)⟩ (by simp; omega)
  · have ha : l.take i = l := List.take_of_length_le (by omega)
    rw [ha] at hall hout
    have : prtAns l = (out, 0) := by unfold prtAns; rw [if_pos hall, hout]
    rw [this] at hQ
    simp [h]
    exact aPost_same hB rfl (nilV_refl _) (by simp) hQ
end
section
variable (E : Env) (H : Hp) (Q : AV → Hp → Prop)
end
end Go.Proofs.YtcdkcaocfioigaaGreatDoor

set_option linter.unusedVariables false
set_option linter.unnecessarySimpa false
set_option linter.unusedSimpArgs false
set_option linter.unusedSectionVars false
set_option maxRecDepth 100000
namespace Go.Proofs.YtcdkcaocfioigaaGreatDoor
open Go Go.RowKit Go.Proofs

/-- The one row of the table of trailing zeros that is asked. -/
def Tz (w : World) : Prop := w.cell? ⟨3, 15, none⟩ = some (.int .u8 4)
/-- .. and the table of tokens' signs. -/
def SZ (E : Env) : Prop := SE E ∧ E.Fix 3 ∧ Tz E.w0
theorem SZ.tz {E : Env} (h : SZ E) {w : World} (hw : ∀ b, E.Fix b → w.heap[b]? = E.w0.heap[b]?) : Tz w := by
  unfold Tz
  rw [World.cell?_of_block (a := ⟨3, 15, none⟩) (hw _ h.2.1)]
  exact h.2.2
set_option maxRecDepth 100000 in
set_option maxHeartbeats 1000000 in
theorem tz64_ok (W : World) (hT : Tz W) : Calls Tryz.prog 181 #[.int .u64 16] W fun e w' => e = .returned (.int .i64 4) ∧ w' = W := by
  unfold Tz at hT
  have hq : IntKind.u64.wrap (bits BinOp.and IntKind.u64 16 (IntKind.u64.wrap (-16)) * 285870213051353865) / 288230376151711744 = 15 := by decide
  go_enter Tryz.func181, Tryz.ntmps181
  go_wp2
  go_ret
  exact ⟨rfl, rfl⟩
@[simp] theorem tzc65 : tzc Tryz.prog 221 = some (List.replicate 65 (.int .u8 0)) := by kernel_rfl
section
variable (E : Env) (H : Hp) (Q : AV → Hp → Prop)
theorem tz64_pc (hE : SZ E) (hQ : Q (.int .i64 4) H) : PC Tryz.prog E 181 [.int .u64 16] H Q := by
  refine pc_of_calls (v := .int .i64 4) (by kernel_rfl) Tz (fun w hw => hE.tz hw) (fun w β Rd cargs hS hsz hargs => ?_) (.int _ _) rfl hQ
  obtain ⟨u, rfl, hu⟩ := args1 hsz hargs
  obtain rfl := rel_int hu
  refine (tz64_ok w hS).mono ?_
  rintro e w' ⟨rfl, rfl⟩
  exact ⟨_, rfl, Frm.refl _ _, .int _ _⟩
theorem tz_pc (hE : SZ E) (hQ : Q (.int .i64 4) H) : PC Tryz.prog E 159 [.int .u64 16] H Q := by
  refine pc_enter Tryz.func159 rfl [] [] (by kernel_rfl) (fun hB => ?_)
  simp [Tryz.ntmps159, Tryz.results159, List.replicate_succ]
  refine tz64_pc E _ _ hE ?_
  simp
  exact aPost_same0 hB rfl (nilV_refl _) (by simp) hQ
theorem pow2_pc (hQ : Q (.bool true) H) : PC Tryz.prog E 158 [.int .i64 16] H Q := by
  refine pc_enter Tryz.func158 rfl [] [] (by kernel_rfl) (fun hB => ?_)
  simp [Tryz.ntmps158, Tryz.results158, List.replicate_succ]
  exact aPost_same0 hB rfl (nilV_refl _) (by simp) hQ
def digL : List UInt8 := [48, 49, 50, 51, 52, 53, 54, 55, 56, 57, 97, 98, 99, 100, 101, 102, 103, 104, 105, 106, 107, 108, 109, 110, 111, 112, 113, 114, 115, 116, 117, 118, 119, 120, 121, 122]
theorem digL_at : ∀ k, k < 16 → digL[k]? = some (hx k) := by decide
theorem wrap_u64 {n : Int} (h0 : 0 ≤ n) (h1 : n < 18446744073709551616) : IntKind.u64.wrap n = n := by
  show n % (2 ^ 64) = n
  omega
theorem and15 (u : Nat) (h : u ≤ 1099511627776) : IntKind.u64.wrap ((u % 2 ^ IntKind.u64.bits &&& 15 % 2 ^ IntKind.u64.bits : Nat) : Int) = ((u % 16 : Nat) : Int) := by
  have e1 : u % 2 ^ IntKind.u64.bits = u := Nat.mod_eq_of_lt (by show u < 18446744073709551616; omega)
  have e2 : 15 % 2 ^ IntKind.u64.bits = 15 := rfl
  have e3 : u &&& 15 = u % 16 := Nat.and_two_pow_sub_one_eq_mod u 4
  rw [e1, e2, e3]
  exact wrap_u64 (by omega) (by omega)
def fbInv (n : Nat) (H : Hp) (fr : List AV) (H' : Hp) : Prop := ∃ (u i : Nat) (tail : List UInt8) (row : List AV), H' = H ++ [row] ∧ row.length = 65 ∧ hexD u ++ tail = hexD n ∧ u ≤ n ∧ i + tail.length = 65 ∧ row.drop i = tail.map (fun b => .int .u8 (b.toNat : Int)) ∧
  ∃ x : Nat → AV, fr = [.nil, .int .u64 u, .int .i64 16, .bool false, .bool false, x 5, x 6, x 7, x 8, x 9, .nil, .str [], .ptr (some (H.length, 0)), .int .i64 i, .int .u64 4, .int .u64 16, .int .u64 15, x 17, x 18, x 19, x 20, x 21, x 22, x 23, x 24, x 25, x 26, x 27, x 28, x 29, x 30, x 31, x 32, x 33, x 34, x 35, x 36, x 37, x 38, x 39, x 40, x 41, x 42, x 43, x 44, x 45, x 46, x 47, x 48, x 49, x 50, x 51, x 52, x 53, x 54, x 55, x 56, x 57, x 58, x 59, x 60, x 61, x 62, x 63, x 64, x 65, x 66, x 67, x 68, x 69, x 70, x 71, x 72, x 73, x 74, x 75, x 76, x 77, x 78, x 79, x 80, x 81, x 82, x 83, x 84, x 85, x 86, x 87, x 88, x 89, x 90, x 91, x 92, x 93, x 94, x 95, x 96, x 97, x 98, x 99, x 100, x 101]
theorem formatBits_pc (hE : SZ E) (n : Nat) (hn : n ≤ 1099511627776) (hQ : Q (.tup [.nil, .str (hexD n)]) H) : PC Tryz.prog E 133 [.nil, .int .u64 n, .int .i64 16, .bool false, .bool false] H Q := by
  refine pc_enter Tryz.func133 rfl [95] [(30, [0, 0, 3])] (by kernel_rfl) (fun hB => ?_)
  simp [Tryz.ntmps133, Tryz.results133, List.replicate_succ]
  refine pow2_pc E _ _ ?_
  simp
  refine tz_pc E _ _ hE ?_
  simp
  refine VL_go (fbInv n H) (fun fr _ => (ai (aget fr 1)).toNat) ⟨n, 65, [], List.replicate 65 (.int .u8 0), by simp, by simp, by simp, by omega, by simp, by simp, fr_intro (by simp; exact ⟨rfl, rfl, rfl⟩)⟩ ?_
  rintro fr H' ⟨u, i, tail, row, rfl, hrow, hu, hun, hi, hdr, x, rfl⟩
  have hlu := hexD_pos u
  have hln := hexD_len11 n hn
  have hcat := congrArg List.length hu
  rw [List.length_append] at hcat
  obtain ⟨j, rfl⟩ : ∃ j, i = j + 1 := ⟨i - 1, by omega⟩
  have hw : IntKind.i64.wrap (j : Int) = j := wrap_in (by omega) (by omega)
  have hw1 : IntKind.i64.wrap (((j + 1 : Nat) : Int) - 1) = j := by rw [wrap_in (by omega) (by omega)]; omega
  by_cases h : 16 ≤ u
  · have h' : (16 : Int) ≤ u := by omega
    have ha := and15 u (by omega)
    have hat : lat [48, 49, 50, 51, 52, 53, 54, 55, 56, 57, 97, 98, 99, 100, 101, 102, 103, 104, 105, 106, 107, 108, 109, 110, 111, 112, 113, 114, 115, 116, 117, 118, 119, 120, 121, 122] (u % 16) = some (hx (u % 16)) := digL_at _ (Nat.mod_lt _ (by omega))
    have hj : j ≤ 64 := by omega
    have hj2 : j < 65 := by omega
    simp [h', hw, hw1, ha, hat, hj, hj2, hrow, -Int.natCast_emod]
    have hsh : (u : Int).fdiv (2 ^ min 4 IntKind.u64.bits) = ((u / 16 : Nat) : Int) := by
      show (u : Int).fdiv 16 = _
      rw [Int.fdiv_eq_ediv_of_nonneg _ (by omega)]; omega
    refine Kloop_normal ⟨u / 16, j, hx (u % 16) :: tail, _, rfl, by simp [hrow]; omega, by rw [← hu, hexD_big (show ¬ u < 16 by omega)]; simp, by omega, by simp; omega, ?_, fr_intro (by simp [hsh])⟩ (by simp [hsh]; omega)
    rw [List.drop_append_of_le_length (by rw [List.length_take]; omega), List.drop_of_length_le (by rw [List.length_take]; omega), hdr]
    simp
  · have h' : ¬ (16 : Int) ≤ u := by omega
    have hat : lat [48, 49, 50, 51, 52, 53, 54, 55, 56, 57, 97, 98, 99, 100, 101, 102, 103, 104, 105, 106, 107, 108, 109, 110, 111, 112, 113, 114, 115, 116, 117, 118, 119, 120, 121, 122] u = some (hx u) := digL_at _ (by omega)
    have hj : j ≤ 64 := by omega
    have hj2 : j < 65 := by omega
    have hm : 65 - j ≤ maxLen := by unfold maxLen; omega
    have m65 : 65 ≤ maxLen := by unfold maxLen; omega
    have hj3 : j ≤ 65 := by omega
    have hj4 : ¬ 65 = j := by omega
    have e1 : 65 ≤ j + (64 - j + 1) := by omega
    have e2 : List.take (65 - j) ([AV.int .u8 (hx u).toNat] :: List.drop (j + 1) (List.map (fun x => [x]) row)) = bts (hx u :: tail) := by
      rw [← List.map_drop, hdr, List.map_map, List.take_of_length_le (by simp; omega)]
      rfl
    have e3 : hexD n = hx u :: tail := by rw [← hu, hexD_small (by omega)]; rfl
    rw [e3] at hQ
    simp [h', hw, hw1, hat, hj, hj2, hj3, hj4, m65, hrow, hm, e1, e2]
    exact aPost_same hB rfl (nilV_refl _) (by simp) hQ
theorem formatInt1_pc (hE : SZ E) (n : Nat) (hn : n ≤ 1099511627776) (hQ : Q (.str (hexD n)) H) : PC Tryz.prog E 101 [.int .i64 n, .int .i64 16] H Q := by
  refine pc_enter Tryz.func101 rfl [] [] (by kernel_rfl) (fun hB => ?_)
  have hw : IntKind.u64.wrap (n : Int) = n := wrap_u64 (by omega) (by omega)
  simp [Tryz.ntmps101, Tryz.results101, List.replicate_succ, hw]
  refine formatBits_pc E _ _ hE n hn ?_
  simp
  exact aPost_same0 hB rfl (nilV_refl _) (by simp) hQ
theorem formatInt_pc (hE : SZ E) (n : Nat) (hn : n ≤ 1099511627776) (hQ : Q (.str (hexD n)) H) : PC Tryz.prog E 139 [.int .i64 n, .int .i64 16] H Q := by
  refine pc_enter Tryz.func139 rfl [] [] (by kernel_rfl) (fun hB => ?_)
  simp [Tryz.ntmps139, Tryz.results139, List.replicate_succ]
  refine formatInt1_pc E _ _ hE n hn ?_
  simp
  exact aPost_same0 hB rfl (nilV_refl _) (by simp) hQ
/-- A size line, without its end, and the error's number. -/
def sizeP (n : Int) (l : List Par) : List UInt8 × Int :=
  if n < 0 ∨ 1099511627776 < n then ([], 1)
  else if l.all (okPar signB) = false then ([], 15)
  else if 254 < (hexD n.toNat ++ prt signB l).length then ([], 100) else (hexD n.toNat ++ prt signB l, 0)
theorem printSize_pc (hE : SZ E) (n : Int) (l : List Par) (hl : psz l + l.length ≤ 1048577) (hQ : Q (.tup [.str (sizeP n l).1, .int .i64 (sizeP n l).2]) H) : PC Tryz.prog E 108 [.int .i64 n, .sl false 3 (prs l)] H Q := by
  refine pc_enter Tryz.func108 rfl [] [] (by kernel_rfl) (fun hB => ?_)
  by_cases h1 : n < 0
  · have e : sizeP n l = ([], 1) := by unfold sizeP; rw [if_pos (.inl h1)]
    rw [e] at hQ
    simp [Tryz.ntmps108, Tryz.results108, List.replicate_succ, h1]
    exact aPost_same0 hB rfl (nilV_refl _) (by simp) hQ
  · by_cases h2 : 1099511627776 < n
    · have e : sizeP n l = ([], 1) := by unfold sizeP; rw [if_pos (.inr h2)]
      rw [e] at hQ
      simp [Tryz.ntmps108, Tryz.results108, List.replicate_succ, h1, h2]
      exact aPost_same0 hB rfl (nilV_refl _) (by simp) hQ
    · obtain ⟨m, rfl⟩ : ∃ m : Nat, n = m := ⟨n.toNat, by omega⟩
      have h3 : ¬ 1099511627776 < (m : Int) := h2
      have hln := hexD_len11 m (by omega)
      have hpl := prt_le l
      simp [Tryz.ntmps108, Tryz.results108, List.replicate_succ, h1, h3]
      refine print_pc E _ _ hE.1 l (by omega) ?_
      cases hall : l.all (okPar signB) with
      | false =>
        have e : sizeP m l = ([], 15) := by unfold sizeP; rw [if_neg (by omega), if_pos hall]
        have e2 : prtAns l = ([], 15) := by unfold prtAns; rw [if_neg (by rw [hall]; simp)]
        rw [e] at hQ
        simp [e2]
        exact aPost_same0 hB rfl (nilV_refl _) (by simp) hQ
      | true =>
        have e2 : prtAns l = (prt signB l, 0) := by unfold prtAns; rw [if_pos hall]
        have hm : (hexD m).length + (prt signB l).length ≤ maxLen := by unfold maxLen; omega
        simp [e2]
        refine formatInt_pc E _ _ hE m (by omega) ?_
        by_cases h4 : 254 < (hexD m ++ prt signB l).length
        · have e : sizeP m l = ([], 100) := by unfold sizeP; rw [if_neg (by omega), if_neg (by rw [hall]; simp), if_pos (by simpa using h4)]
          have h4' : (254 : Int) < (hexD m).length + (prt signB l).length := by rw [List.length_append] at h4; omega
          rw [e] at hQ
          simp [hm, h4']
          exact aPost_same0 hB rfl (nilV_refl _) (by simp) hQ
        · have e : sizeP m l = (hexD m ++ prt signB l, 0) := by unfold sizeP; rw [if_neg (by omega), if_neg (by rw [hall]; simp), if_neg (by simpa using h4)]; simp
          have h4' : ¬ (254 : Int) < (hexD m).length + (prt signB l).length := by rw [List.length_append] at h4; omega
          rw [e] at hQ
          simp [hm, h4']
          exact aPost_same0 hB rfl (nilV_refl _) (by simp) hQ
end
end Go.Proofs.YtcdkcaocfioigaaGreatDoor

set_option linter.unusedVariables false
set_option linter.unnecessarySimpa false
set_option linter.unusedSimpArgs false
set_option linter.unusedSectionVars false
set_option maxRecDepth 100000
namespace Go.Proofs.YtcdkcaocfioigaaGreatDoor
open Go Go.RowKit Go.Proofs

section
variable (E : Env) (H : Hp) (Q : AV → Hp → Prop)
end
end Go.Proofs.YtcdkcaocfioigaaGreatDoor

set_option linter.unusedVariables false
set_option linter.unusedSimpArgs false
set_option linter.unusedSectionVars false
set_option maxRecDepth 100000
namespace Go.Proofs.YtcdkcaocfioigaaGreatDoor
open Go Go.RowKit Go.Proofs

/-- A row is grown by a text's bytes; the row behind it is the old one or new. -/
theorem run_app_bf {P : Program} (w : World) (t u ty e : TypeId) (i : TypeInfo) (ht : P.underlying t = some (.slice e)) (hu : P.underlying u = some .string) (hi : P.info? e = some i) (hz : i.zero = some (.int .u8 0))
    (hsize : i.size = 1) (hby : i.bytes = 1) (v : Value) (n : Nat) (xs : List Value) (hown : w.ownsRowF 0 e 1 v n xs) (s : ByteArray) (h63 : n + s.size ≤ maxLen) (hbytes : n + s.size ≤ 140737488355328) :
    ∃ v' w', (Builtin.append_ #[t, u] ty #[v, .string s]).run P w = .ok v' w' ∧ w'.ownsRowF 0 e 1 v' (n + s.size) (xs ++ Lib.strCells s) ∧ w.grownBy w' v.ownBlock ∧ ∀ g, v'.ownBlock = some g → v.ownBlock = some g ∨ w.heap.size ≤ g := by
  rcases hown.2 with ⟨rfl, rfl⟩ | ⟨g, cap, cur, fz, rfl, hbg, hg, hfz, hnc, hcm, hcs, htake⟩
  · obtain ⟨v', w', h1, h2, h3, _⟩ := Lib.run_append_own_stringF (P := P) w w.heap.size t u ty e i ht hu hi hz hsize hby (.slice none 0 0) 0 xs ⟨hown.1, .inl ⟨rfl, rfl⟩⟩ s h63 hbytes (Nat.le_refl _)
    have h2' : w'.ownsRowF 0 e 1 v' (0 + s.size) (xs ++ Lib.strCells s) := by
      obtain ⟨a, b⟩ := h2
      refine ⟨a, b.imp id fun ⟨g, cap, cur, fz, r1, r2, r3⟩ => ⟨g, cap, cur, fz, r1, Nat.zero_le _, r3⟩⟩
    exact ⟨v', w', h1, h2', h3, fun g hg => .inr (h2.lt g hg).1⟩
  · have hxl : xs.length = n := by simpa using hown.1
    have hlen : (xs ++ Lib.strCells s).length = (n + s.size) * 1 := by rw [List.length_append, hxl, Lib.strCells_length, Nat.mul_one]
    by_cases hroom : n + s.size ≤ cap
    · have hcs' : cur.size = cap := by simpa using hcs
      have hr := Lib.run_append_room_stringF (P := P) w t u ty e i ht hu hi hsize g n cap cur fz hg (by simpa using hfz) s hroom (by omega)
      refine ⟨_, _, hr, ⟨hlen, .inr ⟨g, cap, _, fz, rfl, hbg, setRow_heap w g cur _ e _ hg, by omega, hroom, hcm, ?_, ?_⟩⟩, ⟨rfl, rfl, rfl, by simp, fun k _ hk => setRow_other w g k _ (fun e => hk (by simp [Value.ownBlock, e]))⟩, fun g' hg' => .inl hg'⟩
      · simp only [List.size_toArray, List.length_append, List.length_take, List.length_drop, Array.length_toList, Lib.strCells_length]
        omega
      · have ht' : cur.toList.take n = xs := by simpa using htake
        rw [ht', ← hlen]
        exact List.take_left
    · have holds : ∀ j u, xs[j]? = some u → w.cell? ((⟨g, 0, none⟩ : Addr).add j) = some u := hown.cells (g := g) rfl
      have hr := Lib.run_append_grow_string (P := P) w t u ty e i (.int .u8 0) ht hu hi hz ⟨g, 0, none⟩ n cap xs (by rw [hsize]; simpa using hxl) holds s (by omega) (by simp only [maxLen] at h63; omega) (by rw [hby]; exact growslice_fits (by omega) (by omega))
      have hge := grownCap_ge w (n + s.size) cap e
      have hcm2 : grownCap w (n + s.size) cap e ≤ maxLen := grownCap_le_maxLen w (n + s.size) cap e h63
      refine ⟨_, _, hr, ⟨hlen, .inr ⟨w.heap.size, _, _, (0, 0), rfl, Nat.zero_le _, heap_alloc_new w.drew _, Nat.zero_le _, hge, hcm2, ?_, ?_⟩⟩, ⟨rfl, rfl, rfl, by simp, fun k hk _ => heap_alloc_old w.drew _ hk⟩, fun g' hg' => .inr (by simp [Value.ownBlock] at hg'; omega)⟩
      · have hz1 : (Value.int IntKind.u8 0).cells.size = 1 := rfl
        simp only [Array.size_append, List.size_toArray, size_zeroCells, hz1, hxl, Lib.strCells_length]
        omega
      · simp only [Array.toList_append, List.append_assoc]
        rw [← List.append_assoc, ← hlen]
        exact List.take_left
theorem wpList_app_bf {P : Program} {w : World} {ops : Array Oper} {rest : List Oper} {o : Oper} {a : Act} {Q : Exit → Act → World → Prop} (hgd : o.guard = none) (sl x : Operand) (t u : TypeId)
    (ho : o.op = .call { callee := .builtin .append, args := #[sl, x], argTypes := #[t, u] }) (e : TypeId) (i : TypeInfo) (ht : P.underlying t = some (.slice e)) (hu : P.underlying u = some .string) (hi : P.info? e = some i) (hz : i.zero = some (.int .u8 0))
    (hsize : i.size = 1) (hby : i.bytes = 1) (v : Value) (n : Nat) (xs : List Value) (hs : a.eval sl = v) (hown : w.ownsRowF 0 e 1 v n xs) (s : ByteArray) (hx : a.eval x = .string s) (h63 : n + s.size ≤ maxLen) (hbytes : n + s.size ≤ 140737488355328)
    (h : ∀ v' w', w'.ownsRowF 0 e 1 v' (n + s.size) (xs ++ Lib.strCells s) → w.grownBy w' v.ownBlock → (∀ g, v'.ownBlock = some g → v.ownBlock = some g ∨ w.heap.size ≤ g) → wpList P ops Q rest (a.put o.dst v') w') : wpList P ops Q (o :: rest) a w := by
  refine wpList_plain hgd fun K hK => ?_
  obtain ⟨v', w', hr, h2, h3, h4⟩ := run_app_bf (P := P) w t u o.type e i ht hu hi hz hsize hby v n xs hown s h63 hbytes
  unfold Oper.wp execOp
  simp only [ho, resolve, invoke, builtin, Sem.run_bind, Sem.run_pure, Result.andThen_ok, List.map_toArray, List.map_cons, List.map_nil, hs, hx, hr]
  exact hK _ _ (h v' w' h2 h3 h4)
abbrev TB : TypeId := 125
abbrev TU : TypeId := 5
/-- A builder's block. -/
def BB (b : Nat) (u v : Value) (l : List UInt8) (w : World) : Prop := w.heap[b]? = some (.cells #[u, v] TB (0, 0)) ∧ (u = .pointer none ∨ u = .pointer (some ⟨b, 0, none⟩)) ∧ w.ownsRowF 0 TU 1 v l.length (bfCells l) ∧ v.ownBlock ≠ some b
/-- What is left alone: all but the builder's two blocks. -/
structure BK (b : Nat) (v : Value) (w w' : World) : Prop where
  os : w'.os = w.os
  tape : w'.tape = w.tape
  output : w'.output = w.output
  size : w.heap.size ≤ w'.heap.size
  keep : ∀ k, k < w.heap.size → k ≠ b → v.ownBlock ≠ some k → w'.heap[k]? = w.heap[k]?
theorem bkRefl (b : Nat) (v : Value) (w : World) : BK b v w w := ⟨rfl, rfl, rfl, Nat.le_refl _, fun _ _ _ _ => rfl⟩
theorem bb_lt {b : Nat} {u v : Value} {l : List UInt8} {w : World} (h : BB b u v l w) : b < w.heap.size := blk_lt1 h.1
theorem ccheck_ok (b : Nat) (u v : Value) (l : List UInt8) (w : World) (h : BB b u v l w) : Calls Tryz.prog 104 #[.pointer (some ⟨b, 0, none⟩)] w fun e w' => e = .returned (.tuple #[]) ∧ BB b (.pointer (some ⟨b, 0, none⟩)) v l w' ∧ BK b v w w' := by
  obtain ⟨h1, h2, h3, h4⟩ := h
  have hlt : b < w.heap.size := blk_lt1 h1
  have c0 : w.cell? ⟨b, 0, none⟩ = some u := by rw [Lib.cell_of_heap h1]; rfl
  rcases h2 with rfl | rfl
  · refine (Any.Builder_copyCheck_fresh { lays166 with } lextra.toX72 b w c0 (by simp [World.shape?, h1]; rfl) (Lib.frozen_of_heap h1 0)).mono ?_
    rintro e w' ⟨rfl, rfl⟩
    have hk : ∀ k, k ≠ b → (w.setCell ⟨b, 0, none⟩ (.pointer (some ⟨b, 0, none⟩))).heap[k]? = w.heap[k]? := fun k hk => Below.heap_setCell _ _ _ _ hk
    refine ⟨rfl, ⟨by simp [World.setCell, Array.getElem?_modify, h1], .inr rfl, rowF_kept h3 fun g hg => hk g (fun e => h4 (e ▸ hg)), h4⟩, rfl, rfl, rfl, by simp [World.setCell], fun k _ hkb _ => hk k hkb⟩
  · refine (Any.Builder_copyCheck_used { lays166 with } lextra.toX72 b w c0).mono ?_
    rintro e w' ⟨rfl, rfl⟩
    exact ⟨rfl, ⟨h1, .inr rfl, h3, h4⟩, bkRefl _ _ _⟩
theorem bf_str (l : List UInt8) (s : ByteArray) : bfCells l ++ Lib.strCells s = bfCells (l ++ s.data.toList) := by
  unfold bfCells
  rw [List.map_append]
  rfl
set_option maxHeartbeats 1000000 in
theorem wstr_ok (b : Nat) (u v : Value) (l : List UInt8) (s : ByteArray) (w : World) (h : BB b u v l w) (hlen : l.length + s.size ≤ 140737488355328) : Calls Tryz.prog 74 #[.pointer (some ⟨b, 0, none⟩), .string s] w fun e w' =>
    e = .returned (.tuple #[.int .i64 s.size, .nilIface]) ∧ ∃ u' v', BB b u' v' (l ++ s.data.toList) w' ∧ BK b v w w' ∧ ∀ g, v'.ownBlock = some g → v.ownBlock = some g ∨ w.heap.size ≤ g := by
  obtain ⟨i0, hi, hz0, hz1, hz2⟩ := info_parts lextra.infoByte
  go_enter Tryz.func74, Tryz.ntmps74
  go_wp2_with (go_at_call 104; refine (ccheck_ok b u v l _ h).mono ?_)
  rintro e w1 ⟨rfl, h1, hk1⟩
  obtain ⟨hbk, _, hown, hne⟩ := h1
  have c0 : w1.cell? ⟨b, 0, none⟩ = some (.pointer (some ⟨b, 0, none⟩)) := by rw [Lib.cell_of_heap hbk]; rfl
  have c1 : w1.cell? ⟨b, 1, none⟩ = some v := by rw [Lib.cell_of_heap hbk]; rfl
  have hlt : b < w1.heap.size := blk_lt1 hbk
  go_wp2_with (at_builtin; refine wpList_app_bf rfl _ _ 123 9 rfl TU i0 Tryz.underlying123 Tryz.underlying9 hi hz0 hz1 hz2 _ _ _ rfl hown s rfl ?c3 ?c4 ?_)
  case c3 => unfold maxLen; omega
  case c4 => omega
  intro v' w2 hown' hgrow hnew
  have hb2 : w2.heap[b]? = some (.cells #[.pointer (some ⟨b, 0, none⟩), v] TB (0, 0)) := by
    rw [hgrow.block b hlt (fun e => hne e.symm)]
    exact hbk
  have d0 : w2.cell? ⟨b, 0, none⟩ = some (.pointer (some ⟨b, 0, none⟩)) := by rw [Lib.cell_of_heap hb2]; rfl
  have d1 : w2.cell? ⟨b, 1, none⟩ = some v := by rw [Lib.cell_of_heap hb2]; rfl
  have f1 : w2.frozen? ⟨b, 1, none⟩ = false := Lib.frozen_of_heap hb2 1
  have hne' : v'.ownBlock ≠ some b := fun e => by
    rcases hnew b e with h | h
    · exact hne h
    · omega
  obtain ⟨ao, n', cap, hv'⟩ : ∃ ao n' cap, v' = .slice ao n' cap := by
    rcases hown'.2 with ⟨hv, _⟩ | ⟨g, cap, cur, fz, hv, _⟩
    · exact ⟨_, _, _, hv⟩
    · exact ⟨_, _, _, hv⟩
  have HH := Lib.hid (And.intro hown' (And.intro hgrow (And.intro hnew (And.intro hne' hk1))))
  clear hown' hgrow hnew hne' hk1
  subst hv'
  go_wp2
  go_ret2
  obtain ⟨hown', hgrow, hnew, hne', hk1⟩ := HH.out
  have hk : ∀ k, k ≠ b → (w2.setCell ⟨b, 1, none⟩ (.slice ao n' cap)).heap[k]? = w2.heap[k]? := fun k hk => Below.heap_setCell _ _ _ _ hk
  refine ⟨rfl, _, _, ⟨by simp [World.setCell, Array.getElem?_modify, hb2], .inr rfl, ?_, hne'⟩, ⟨hgrow.os.trans hk1.os, hgrow.tape.trans hk1.tape, hgrow.output.trans hk1.output, by simp only [World.setCell]; simpa using Nat.le_trans hk1.size hgrow.size, fun k h1 h2 h3 => ?_⟩, fun g hg => ?_⟩
  · have e1 : (l ++ s.data.toList).length = l.length + s.size := by rw [List.length_append, size_toList]
    rw [e1, ← bf_str]
    exact rowF_kept hown' fun g hg => hk g (fun e => hne' (e ▸ hg))
  · rw [hk k h2, hgrow.block k (Nat.lt_of_lt_of_le h1 hk1.size) (fun e => h3 e.symm)]
    exact hk1.keep k h1 h2 h3
  · exact (hnew g hg).imp id fun h => Nat.le_trans hk1.size h
set_option maxHeartbeats 2000000 in
theorem bstr_ok (b : Nat) (u v : Value) (l : List UInt8) (w : World) (h : BB b u v l w) : Calls Tryz.prog 75 #[.pointer (some ⟨b, 0, none⟩)] w fun e w' =>
    e = .returned (.string (tx l)) ∧ BB b u v l w' ∧ BK b v w w' := by
  have hUN : ∀ (W : World) (q : Option Addr), (Builtin.unsafeString_ #[161, 3] 9 #[.pointer q, .int .i64 0]).run Tryz.prog W = .ok (.string .empty) W := fun W q => Lib.run_unsafeString_none W _ _ _ q
  have hlt := bb_lt h
  have h' := h
  obtain ⟨hbk, hu, hown, hne⟩ := h
  have H0 := Lib.hid h'
  have HU := Lib.hid hu
  clear h' hu
  rcases hown.2 with ⟨rfl, hz⟩ | ⟨g, cap, cur, fz, rfl, hbg, hg, hfz, hnc, hcm, hcs, htake⟩
  · obtain rfl : l = [] := List.eq_nil_of_length_eq_zero hz
    have c1 : w.drew.cell? ⟨b, 1, none⟩ = some (.slice none 0 0) := by
      have : w.drew.heap[b]? = some (.cells #[u, .slice none 0 0] TB (0, 0)) := hbk
      rw [Lib.cell_of_heap this]; rfl
    have hSD : (Builtin.unsafeSliceData_ #[123] 161 #[.slice none 0 0]).run Tryz.prog w.drew = .ok (.pointer none) w.drew := rfl
    go_enter Tryz.func75, Tryz.ntmps75
    go_wp2
    go_region
    all_goals (go_wp2; go_ret; exact ⟨rfl, H0.out, ⟨rfl, rfl, rfl, Nat.le_refl _, fun _ _ _ _ => rfl⟩⟩)
  · by_cases hl0 : l = []
    · subst hl0
      by_cases hc0 : cap = 0
      · subst hc0
        have hSD : (Builtin.unsafeSliceData_ #[123] 161 #[.slice (some ⟨g, 0, none⟩) 0 0]).run Tryz.prog w.drew = .ok (.pointer (some ⟨w.drew.heap.size, 0, none⟩)) (w.drew.alloc (.view ⟨g, 0, none⟩ TU)) :=
          Lib.run_unsafeSliceData_zero w.drew _ _ TU Tryz.underlying161 ⟨g, 0, none⟩ 0 (TU, cur.size) (by have hg' : w.drew.heap[g]? = some (.cells cur TU fz) := hg; simp [World.shape?, hg'])
        have c1 : w.drew.cell? ⟨b, 1, none⟩ = some (.slice (some ⟨g, 0, none⟩) 0 0) := by
          have : w.drew.heap[b]? = some (.cells #[u, .slice (some ⟨g, 0, none⟩) 0 0] TB (0, 0)) := hbk
          rw [Lib.cell_of_heap this]; rfl
        have c2 : (w.drew.alloc (.view ⟨g, 0, none⟩ TU)).cell? ⟨b, 1, none⟩ = some (.slice (some ⟨g, 0, none⟩) 0 0) := by
          have : (w.drew.alloc (.view ⟨g, 0, none⟩ TU)).heap[b]? = _ := (Lib.alloc_old w.drew _ b hlt).trans hbk
          rw [Lib.cell_of_heap this]; rfl
        have c3 : (w.alloc (.view ⟨g, 0, none⟩ TU)).drew.cell? ⟨b, 1, none⟩ = some (.slice (some ⟨g, 0, none⟩) 0 0) := c2
        have c0 : w.cell? ⟨b, 1, none⟩ = some (.slice (some ⟨g, 0, none⟩) 0 0) := c1
        have hal : ∀ k, k < w.heap.size → (w.drew.alloc (.view ⟨g, 0, none⟩ TU)).heap[k]? = w.heap[k]? := fun k hk => Lib.alloc_old w.drew _ k hk
        have fin : BB b u (.slice (some ⟨g, 0, none⟩) 0 0) [] (w.drew.alloc (.view ⟨g, 0, none⟩ TU)) ∧ BK b (.slice (some ⟨g, 0, none⟩) 0 0) w (w.drew.alloc (.view ⟨g, 0, none⟩ TU)) := by
          obtain ⟨h1, h2, h3, h4⟩ := H0.out
          exact ⟨⟨(hal b hlt).trans h1, h2, rowF_kept h3 fun g' hg' => hal g' (h3.lt g' hg').2, h4⟩, ⟨rfl, rfl, rfl, by simp, fun k hk _ _ => hal k hk⟩⟩
        have HF := Lib.hid fin
        clear fin hal
        go_enter Tryz.func75, Tryz.ntmps75
        go_wp2
        go_region
        all_goals (go_wp2; go_ret; exact ⟨rfl, HF.out⟩)
      · have hSD : (Builtin.unsafeSliceData_ #[123] 161 #[.slice (some ⟨g, 0, none⟩) 0 cap]).run Tryz.prog w.drew = .ok (.pointer (some ⟨g, 0, none⟩)) w.drew :=
          Lib.run_unsafeSliceData_row _ _ _ _ _ _ hc0
        have c1 : w.drew.cell? ⟨b, 1, none⟩ = some (.slice (some ⟨g, 0, none⟩) 0 cap) := by
          have : w.drew.heap[b]? = some (.cells #[u, .slice (some ⟨g, 0, none⟩) 0 cap] TB (0, 0)) := hbk
          rw [Lib.cell_of_heap this]; rfl
        clear hc0
        go_enter Tryz.func75, Tryz.ntmps75
        go_wp2
        go_region
        all_goals (go_wp2; go_ret; exact ⟨rfl, H0.out, ⟨rfl, rfl, rfl, Nat.le_refl _, fun _ _ _ _ => rfl⟩⟩)
    · have hlp : l.length ≠ 0 := fun e => hl0 (List.length_eq_zero_iff.1 e)
      have c1 : w.drew.cell? ⟨b, 1, none⟩ = some (.slice (some ⟨g, 0, none⟩) l.length cap) := by
        have : w.drew.heap[b]? = some (.cells #[u, .slice (some ⟨g, 0, none⟩) l.length cap] TB (0, 0)) := hbk
        rw [Lib.cell_of_heap this]; rfl
      have hSD : (Builtin.unsafeSliceData_ #[123] 161 #[.slice (some ⟨g, 0, none⟩) l.length cap]).run Tryz.prog w.drew = .ok (.pointer (some ⟨g, 0, none⟩)) w.drew :=
        Lib.run_unsafeSliceData_row _ _ _ _ _ _ (by omega)
      have hUS : (Builtin.unsafeString_ #[161, 3] 9 #[.pointer (some ⟨g, 0, none⟩), .int .i64 l.length]).run Tryz.prog w.drew = .ok (.string ⟨l.toArray⟩) (w.drew.freeze ⟨g, 0, none⟩ l.length) := by
        refine Lib.run_unsafeString_row w.drew 161 3 9 TU Tryz.underlying161 lextra.cellsByte g cur.size (by have hg' : w.drew.heap[g]? = some (.cells cur TU fz) := hg; simp [World.shape?, hg']) l hl0 (by omega) (by unfold maxLen at hcm; omega) ?_
        intro j x hx
        exact hown.cells (g := g) rfl j (.int .u8 x.toNat) (by simp [bfCells, hx])
      have hfr : ∀ k, k ≠ g → (w.drew.freeze ⟨g, 0, none⟩ l.length).heap[k]? = w.heap[k]? := fun k hk => by
        unfold World.freeze
        split
        · rfl
        · simp only [Array.getElem?_modify]
          rw [if_neg (fun e => hk e.symm)]
          rfl
      have fin : BB b u (.slice (some ⟨g, 0, none⟩) l.length cap) l (w.drew.freeze ⟨g, 0, none⟩ l.length) ∧ BK b (.slice (some ⟨g, 0, none⟩) l.length cap) w (w.drew.freeze ⟨g, 0, none⟩ l.length) := by
        have hbl : (bfCells l).length = l.length := by simp [bfCells]
        have hA : Lib.BuilderAtF TB TU 0 b u (bfCells l) w.drew := ⟨Nat.zero_le _, _, hbk, by rw [hbl]; exact hown, hne⟩
        have hF := hA.froze (g := g) (cap := cap) (by rw [hbl]; exact c1)
        rw [hbl] at hF
        obtain ⟨_, v', k1, k2, k3⟩ := hF
        have hgb : b ≠ g := fun e => hne (by simp [Value.ownBlock, e])
        have k1' := k1
        rw [hfr b hgb, hbk] at k1'
        simp at k1'
        subst k1'
        rw [hbl] at k2
        refine ⟨⟨k1, HU.out, k2, hne⟩, ⟨?_, ?_, ?_, ?_, fun k hk h2 h3 => hfr k (fun e => h3 (by simp [Value.ownBlock, e]))⟩⟩ <;> (unfold World.freeze; split <;> first | rfl | exact Nat.le_refl _ | (simp only [Array.size_modify]; exact Nat.le_refl _))
      have HF := Lib.hid fin
      clear fin hfr
      go_enter Tryz.func75, Tryz.ntmps75
      go_wp2
      go_region
      all_goals (go_wp2; go_ret; exact ⟨rfl, HF.out⟩)
/-- BEHIND A CALL THAT HAS WRITTEN OR READ A BUILDER. -/
theorem post_bld {E : Env} {w w' : World} {β : Nat → Nat} {Rd : Nat → Nat → Prop} {Ow : Nat → Option Hold} {H : Hp} (hr : HR E w β Rd Ow H) {i : Nat} {l l' : List UInt8} (hi : H[i]? = some [.bl TB, .bf TU l]) {u v u' v' : Value} (hb : BB (β i) u v l w) (hb' : BB (β i) u' v' l' w') (hk : BK (β i) v w w')
    (hnew : ∀ g, v'.ownBlock = some g → v.ownBlock = some g ∨ w.heap.size ≤ g) {x : AV} {c : Value} (hx : Rel w' β Rd x c) (hxf : x.free = true) (hxb : Bnd H.length x) :
    ∃ Ow', Post E w β Rd Ow H w' β Rd Ow' (H.set i [.bl TB, .bf TU l']) x c := by
  have hil : i < H.length := (List.getElem?_eq_some_iff.1 hi).1
  obtain ⟨T, cs, b1, b2, b3⟩ := hr.box i _ hi
  have e0 := hb.1
  rw [e0] at b1
  cases b1
  obtain ⟨r1, r2, r3⟩ := b3 1 (.bf TU l) v rfl rfl
  have hd : ∀ g, v.ownBlock = some g → ∀ o, ¬ Rd g o := by cases r1; assumption
  have hOv : ∀ g, v.ownBlock = some g → Ow g = some (.cell i 1) := fun g hg => r3 g hg
  have hlt : ∀ j, j < H.length → β j < w.heap.size := fun j hj => by
    obtain ⟨T, cs, h1, _⟩ := hr.box j _ (List.getElem?_eq_getElem hj)
    exact blk_lt1 h1
  have hvb : ∀ j, j < H.length → v.ownBlock ≠ some (β j) := fun j hj e => by have := hOv _ e; rw [(hr.sep j hj).1] at this; cases this
  have hv'b : ∀ j, j < H.length → v'.ownBlock ≠ some (β j) := fun j hj e => by
    rcases hnew _ e with h | h
    · exact hvb j hj h
    · have := hlt j hj; omega
  have hR : ∀ g o, Rd g o → Rd g o ∧ w'.cell? ⟨g, o, none⟩ = w.cell? ⟨g, o, none⟩ := fun g o h => ⟨h, World.cell?_of_block (a := ⟨g, o, none⟩) (hk.keep g (hr.rds g o h) (fun e => (hr.sep i hil).2 o (e ▸ h)) (fun e => hd g e o h))⟩
  have hO : ∀ (j p : Nat) g, (j ≠ i ∨ p ≠ 1) → Ow g = some (.cell j p) → w'.heap[g]? = w.heap[g]? ∧ ∀ o, Rd g o → Rd g o := fun j p g hj hg => ⟨hk.keep g (hr.ows g _ hg) (fun e => by rw [e, (hr.sep i hil).1] at hg; cases hg) (fun e => by rw [hOv g e] at hg; cases hg; simp at hj), fun _ h => h⟩
  have hlen : (H.set i [AV.bl TB, .bf TU l']).length = H.length := by simp
  have hother : ∀ j, j < H.length → j ≠ i → w'.heap[β j]? = w.heap[β j]? := fun j hj hji => hk.keep _ (hlt j hj) (fun e => hji (hr.inj j i hj hil e)) (hvb j hj)
  refine ⟨fun g => if v'.ownBlock = some g then some (.cell i 1) else Ow g, hx, by rw [hlen]; exact hxb, fun g hg => (by rw [own0_free hxf] at hg; cases hg), dis_free_of_free hxf, ?_, fun _ _ => rfl, by rw [hlen]; exact Nat.le_refl _, hR, fun b h1 h2 h3 => ⟨hk.keep b h1 (fun e => h2 i hil e.symm) (fun e => (by rw [hOv b e] at h3; cases h3)), ?_, fun j hj => h2 j (by rwa [hlen] at hj), fun _ h => h⟩, hk.os, hk.tape, hk.output, hk.size⟩
  · refine ⟨fun j m hm => ?_, fun a b ha hbb => hr.inj a b (by rwa [hlen] at ha) (by rwa [hlen] at hbb), fun j hj => ⟨?_, (hr.sep j (by rwa [hlen] at hj)).2⟩, fun g k hg => ?_, fun g o h => Nat.lt_of_lt_of_le (hr.rds g o h) hk.size, fun m hm y hy => ?_, fun b hbf => ?_, fun j m t hm h0 => ?_⟩
    · by_cases hji : i = j
      · subst hji
        rw [List.getElem?_set_self hil] at hm
        cases hm
        refine ⟨TB, _, hb'.1, rfl, fun p y z hy hz => ?_⟩
        match p with
        | 0 =>
          simp at hy hz; subst hy; subst hz
          exact ⟨.bl _ _ (by rcases hb'.2.1 with rfl | rfl <;> rfl), rfl, fun g hg => by cases hg⟩
        | 1 =>
          simp at hy hz; subst hy; subst hz
          refine ⟨.bf _ _ _ hb'.2.2.1 (fun g hg o ho => ?_), rfl, fun g hg => ?_⟩
          · rcases hnew g hg with h | h
            · exact hd g h o ho
            · have := hr.rds g o ho; omega
          · have hg : v'.ownBlock = some g := hg
            simp [hg]
        | p + 2 => simp at hy
      · rw [List.getElem?_set_ne hji] at hm
        have hj : j < H.length := (List.getElem?_eq_some_iff.1 hm).1
        obtain ⟨T2, cs2, c1, c2, c3⟩ := hr.box j m hm
        refine ⟨T2, cs2, (hother j hj (fun e => hji e.symm)).trans c1, c2, fun p y z hy hz => ?_⟩
        obtain ⟨q1, q2, q3⟩ := c3 p y z hy hz
        refine ⟨q1.move (hr.bnd m (mem_at hm) y (mem_at hy)) hR (fun g hg => hO j p g (.inl fun e => hji e.symm) (q3 g hg)) hk.size (fun _ _ => rfl), q2, fun g hg => ?_⟩
        have hq := q3 g hg
        show (if v'.ownBlock = some g then _ else _) = _
        rw [if_neg]
        · exact hq
        · intro e
          rcases hnew g e with h | h
          · rw [hOv g h] at hq; cases hq; exact hji rfl
          · have := hr.ows g _ hq; omega
    · rw [hlen] at hj
      show (if v'.ownBlock = some (β j) then _ else _) = _
      rw [if_neg (hv'b j hj)]
      exact (hr.sep j hj).1
    · have hg : (if v'.ownBlock = some g then some (Hold.cell i 1) else Ow g) = some k := hg
      split at hg
      · rename_i e; exact (hb'.2.2.1.lt g e).2
      · exact Nat.lt_of_lt_of_le (hr.ows g k hg) hk.size
    · rw [hlen]
      rcases List.mem_or_eq_of_mem_set hm with h | h
      · exact hr.bnd m h y hy
      · subst h
        simp at hy
        rcases hy with rfl | rfl
        · exact .bl _
        · exact .bf _ _
    · obtain ⟨f1, f2, f3, f4⟩ := hr.fix b hbf
      have hvn : v.ownBlock ≠ some b := fun e => by rw [hOv b e] at f2; cases f2
      refine ⟨(hk.keep b f4 (fun e => f3 i hil e.symm) hvn).trans f1, ?_, fun j hj => f3 j (by rwa [hlen] at hj), Nat.lt_of_lt_of_le f4 hk.size⟩
      show (if v'.ownBlock = some b then _ else _) = _
      rw [if_neg]
      · exact f2
      · intro e
        rcases hnew b e with h | h
        · exact hvn h
        · omega
    · by_cases hji : i = j
      · subst hji
        rw [List.getElem?_set_self hil] at hm
        cases hm
        simp at h0
        subst h0
        exact ⟨u', v', hb'.1, hb'.2.1⟩
      · rw [List.getElem?_set_ne hji] at hm
        have hj : j < H.length := (List.getElem?_eq_some_iff.1 hm).1
        obtain ⟨u2, v2, g1, g2⟩ := hr.bld j m t hm h0
        exact ⟨u2, v2, (hother j hj (fun e => hji e.symm)).trans g1, g2⟩
  · show (if v'.ownBlock = some b then _ else _) = _
    rw [if_neg]
    · exact h3
    · intro e
      rcases hnew b e with h | h
      · rw [hOv b h] at h3; cases h3
      · omega
/-- A builder's box. -/
theorem bb_of {E : Env} {w : World} {β : Nat → Nat} {Rd : Nat → Nat → Prop} {Ow : Nat → Option Hold} {H : Hp} (hr : HR E w β Rd Ow H) {i : Nat} {l : List UInt8} (hi : H[i]? = some [.bl TB, .bf TU l]) : ∃ u v, BB (β i) u v l w := by
  obtain ⟨u, v, h1, h2⟩ := hr.bld i _ TB hi rfl
  obtain ⟨T, cs, b1, b2, b3⟩ := hr.box i _ hi
  rw [h1] at b1
  cases b1
  obtain ⟨r1, r2, r3⟩ := b3 1 (.bf TU l) v rfl rfl
  refine ⟨u, v, h1, h2, by cases r1; assumption, fun e => ?_⟩
  have := r3 _ e
  rw [(hr.sep i (List.getElem?_eq_some_iff.1 hi).1).1] at this
  cases this
section
variable (E : Env) (H : Hp) (Q : AV → Hp → Prop)
theorem wstr_pc (i : Nat) (l s : List UInt8) (hi : H[i]? = some [.bl TB, .bf TU l]) (hl : l.length + s.length ≤ 140737488355328) (hQ : Q (.tup [.int .i64 s.length, .raw .nilIface]) (H.set i [.bl TB, .bf TU (l ++ s)])) : PC Tryz.prog E 74 [.ptr (some (i, 0)), .str s] H Q := by
  refine ⟨by kernel_rfl, fun w β Rd Ow cargs hr hcell hsz hargs => ?_⟩
  obtain ⟨u, v, hb⟩ := bb_of hr hi
  have g0 := hargs 0 _ _ rfl (Array.getElem?_eq_getElem (by rw [hsz]; simp))
  have g1 := hargs 1 _ _ rfl (Array.getElem?_eq_getElem (by rw [hsz]; simp))
  obtain ⟨c0, c1, rfl⟩ : ∃ c0 c1, cargs = #[c0, c1] := by
    cases cargs with
    | mk l =>
      match l, hsz with
      | [x, y], _ => exact ⟨x, y, rfl⟩
  simp at g0 g1
  obtain rfl := rel_ptr g0.1
  obtain ⟨t, rfl, ht, _⟩ := rel_str g1
  subst ht
  refine (wstr_ok (β i) u v l t w hb (by rw [size_toList] at hl; exact hl)).mono ?_
  rintro e w' ⟨rfl, u', v', h1, h2, h3⟩
  obtain ⟨Ow', hP⟩ := post_bld hr hi hb h1 h2 h3 (x := .tup [.int .i64 t.data.toList.length, .raw .nilIface]) (c := .tuple #[.int .i64 t.size, .nilIface])
    (.tup _ _ rfl (by simp [AV.free]) (fun j x u hx hu => by
      match j with
      | 0 => simp at hx hu; subst hx; subst hu; exact .int _ _
      | 1 => simp at hx hu; subst hx; subst hu; exact .raw _
      | j + 2 => simp at hx)) rfl (.tup _ (fun x hx => by simp at hx; rcases hx with rfl | rfl; exact .int _ _; exact .raw _))
  exact ⟨_, _, _, β, Rd, Ow', rfl, hQ, hP⟩
theorem bstr_pc (i : Nat) (l : List UInt8) (hi : H[i]? = some [.bl TB, .bf TU l]) (hl : l.length ≤ maxLen) (hQ : Q (.str l) H) : PC Tryz.prog E 75 [.ptr (some (i, 0))] H Q := by
  refine ⟨by kernel_rfl, fun w β Rd Ow cargs hr hcell hsz hargs => ?_⟩
  obtain ⟨u, v, hb⟩ := bb_of hr hi
  have g0 := hargs 0 _ _ rfl (Array.getElem?_eq_getElem (by rw [hsz]; simp))
  obtain ⟨c0, rfl⟩ : ∃ c0, cargs = #[c0] := by
    cases cargs with
    | mk l =>
      match l, hsz with
      | [x], _ => exact ⟨x, rfl⟩
  simp at g0
  obtain rfl := rel_ptr g0.1
  refine (bstr_ok (β i) u v l w hb).mono ?_
  rintro e w' ⟨rfl, h1, h2⟩
  obtain ⟨Ow', hP⟩ := post_bld hr hi hb h1 h2 (fun g hg => .inl hg) (x := .str l) (c := .string (tx l)) (rel_tx _ hl) rfl (.str _)
  have : H.set i [.bl TB, .bf TU l] = H := by
    apply List.ext_getElem?
    intro j
    by_cases hj : i = j
    · subst hj; rw [List.getElem?_set_self (List.getElem?_eq_some_iff.1 hi).1, hi]
    · rw [List.getElem?_set_ne hj]
  rw [this] at hP
  exact ⟨_, _, _, β, Rd, Ow', rfl, hQ, hP⟩
end
end Go.Proofs.YtcdkcaocfioigaaGreatDoor

set_option linter.unusedVariables false
set_option linter.unnecessarySimpa false
set_option linter.unusedSimpArgs false
set_option linter.unusedSectionVars false
set_option maxRecDepth 100000
namespace Go.Proofs.YtcdkcaocfioigaaGreatDoor
open Go Go.RowKit Go.Proofs

/-- A nil argument is a slice of no rows. -/
theorem PC.argsNil {P : Program} {E : Env} {f : FuncId} {args args' : List AV} {H : Hp} {Q : AV → Hp → Prop} (h : nilL args args') (hf : ∀ x ∈ args', x.free = true) (hp : PC P E f args' H Q) : PC P E f args H Q := by
  obtain ⟨h1, h2⟩ := nilL_at h
  refine ⟨hp.1, fun w β Rd Ow cargs hr hcell hsz hargs => hp.2 w β Rd Ow cargs hr hcell (by rw [hsz, h1]) (fun t y u hy hu => ?_)⟩
  obtain ⟨x, hx, hn⟩ := h2 t y hy
  obtain ⟨r1, r2, r3⟩ := hargs t x u hx hu
  obtain ⟨q1, q2, _⟩ := nil1_rel hn r1 r2
  exact ⟨q1, q2, hf y (mem_at hy)⟩
def u8L (l : List UInt8) : List AV := l.map fun b => .int .u8 (b.toNat : Int)
theorem u8L_app (l m : List UInt8) : u8L (l ++ m) = u8L l ++ u8L m := by simp [u8L]
@[simp] theorem u8L_length (l : List UInt8) : (u8L l).length = l.length := by simp [u8L]
theorem bts_flat8 (l : List UInt8) : (bts l).flatten = u8L l := by
  induction l with
  | nil => rfl
  | cons b l ih =>
    show _ :: (bts l).flatten = _
    rw [ih]; rfl
theorem flat_take_le (strs : List (List UInt8)) (j : Nat) : (strs.take j).flatten.length ≤ strs.flatten.length := by
  have := congrArg (fun l => (List.flatten l).length) (List.take_append_drop j strs)
  simp only [List.flatten_append, List.length_append] at this
  omega
def strRows (strs : List (List UInt8)) : List (List AV) := strs.map fun s => [.str s]
theorem strRows_at {strs : List (List UInt8)} {j : Nat} {s : List UInt8} (h : strs[j]? = some s) : lat (strRows strs) j = some [.str s] := by simp [lat, strRows, h]
/-- A chunk is written, text by text. -/
def putInv (H0 : Hp) (N0 : Nat) (out : List UInt8) (strs : List (List UInt8)) (M : Nat) (fr : List AV) (H' : Hp) : Prop :=
  ∃ (J' : Hp) (tail : List AV) (j : Nat), j ≤ strs.length ∧ H' = H0 ++ (J' ++ [u8L (out ++ (strs.take j).flatten) ++ tail]) ∧ (∀ l ∈ J', ∀ x ∈ l, ∃ z, x = .int .u8 z) ∧ (∀ x ∈ tail, ∃ z, x = .int .u8 z) ∧ N0 ≤ H0.length + J'.length + 1 ∧
    out.length + M ≤ out.length + (strs.take j).flatten.length + tail.length ∧ out.length + (strs.take j).flatten.length + tail.length ≤ maxLen ∧
    ∃ x : Nat → AV, fr = [.bx (H0.length + J'.length) 0 (out.length + M) (out.length + (strs.take j).flatten.length + tail.length) 1, x 1, x 2, x 3, x 4, x 5, x 6, .int .i64 ((out.length + (strs.take j).flatten.length : Nat) : Int), x 8, x 9, x 10, x 11, x 12, x 13, x 14, x 15, x 16, x 17, x 18, x 19, x 20, x 21, x 22, x 23, x 24, x 25, x 26, x 27, .sl true 1 (strRows strs), .int .i64 strs.length, .int .i64 j, x 31, x 32, x 33, x 34, x 35, x 36, x 37, x 38, x 39, x 40, x 41, x 42]
/-- Bytes of one's own, behind boxes H0. -/
def OutAt (H0 : Hp) (v : AV) (out : List UInt8) (H : Hp) : Prop := ∃ J, H = H0 ++ J ∧ (∀ l ∈ J, ∀ x ∈ l, ∃ z, x = .int .u8 z) ∧ ((v = .nil ∧ out = []) ∨
  ∃ J1 tail, J = J1 ++ [u8L out ++ tail] ∧ v = .bx (H0.length + J1.length) 0 out.length (out.length + tail.length) 1 ∧ out.length + tail.length ≤ maxLen)
section
variable (E : Env) (H : Hp) (Q : AV → Hp → Prop)
theorem printSizeNil_pc (hE : SZ E) (n : Nat) (hn : n ≤ 1099511627776) (hQ : Q (.tup [.str (hexD n), .int .i64 0]) H) : PC Tryz.prog E 108 [.int .i64 n, .nil] H Q := by
  have hl := hexD_len11 n hn
  refine PC.argsNil (args' := [.int .i64 n, .sl false 3 (prs [])]) ⟨.inl rfl, .inr ⟨rfl, false, 3, rfl⟩, trivial⟩ (by simp) (printSize_pc E H Q hE n [] (by simp [psz]) ?_)
  have e : sizeP n [] = (hexD n, 0) := by
    unfold sizeP
    rw [if_neg (by omega), if_neg (by simp), if_neg (by simp [prt]; omega)]
    simp [prt]
  rw [e]; exact hQ
theorem put_pc (hE : SZ E) (H0 : Hp) (v : AV) (out p : List UInt8) (hv : OutAt H0 v out H) (hp : p.length ≤ 4194304) (hl : out.length ≤ 1073741824) (hQ : ∀ v' H', OutAt H0 v' (out ++ chunkT p) H' → Q v' H') : PC Tryz.prog E 80 [v, .str p] H Q := by
  obtain ⟨size, hsz⟩ : ∃ s, hexD p.length = s := ⟨_, rfl⟩
  have hs11 := hexD_len11 p.length (by omega)
  rw [hsz] at hs11
  obtain ⟨J, rfl, hJ, hv⟩ := hv
  have hw1 : IntKind.i64.wrap ((size.length : Int) + p.length) = ((size.length + p.length : Nat) : Int) := by rw [wrap_in (by omega) (by omega)]; omega
  have hw2 : IntKind.i64.wrap (((size.length + p.length : Nat) : Int) + 4) = ((size.length + p.length + 4 : Nat) : Int) := by rw [wrap_in (by omega) (by omega)]; omega
  obtain ⟨M, hM⟩ : ∃ M, size.length + p.length + 4 = M := ⟨_, rfl⟩
  rw [hM] at hw2
  have hM0 : ¬ M = 0 := by omega
  have m1 : M ≤ maxLen := by unfold maxLen; omega
  have m2 : M ≤ 140737488355328 := by omega
  have hch : size ++ ([13, 10] ++ (p ++ [13, 10])) = chunkT p := by unfold chunkT; rw [hsz]; simp
  obtain ⟨strs, hstrs⟩ : ∃ strs : List (List UInt8), [size, [13, 10], p, [13, 10]] = strs := ⟨_, rfl⟩
  have hsl : strs.length = 4 := by rw [← hstrs]; rfl
  have hsf : strs.flatten = chunkT p := by rw [← hstrs, ← hch]; simp
  have hsM : strs.flatten.length = M := by rw [← hM, ← hstrs]; simp; omega
  have hrows : strRows strs = [[AV.str size], [.str [13, 10]], [.str p], [.str [13, 10]]] := by rw [← hstrs]; rfl
  have hlast : ∀ j, j < 4 → (strs.take j).flatten.length + 2 ≤ M := fun j hj => by
    have h1 : (strs.take j).flatten.length ≤ (strs.take 3).flatten.length := by
      have := flat_take_le (strs.take 3) j
      rw [List.take_take, Nat.min_eq_left (by omega)] at this
      exact this
    have h2 : (strs.take 3).flatten.length = size.length + (2 + p.length) := by rw [← hstrs]; simp; omega
    omega
  have hM1 : M ≤ 8388608 := by omega
  have r4 : (([0, 1, 2, 3] : List Nat) = List.range 4) = True := eq_true rfl
  have hzero : ∀ (n : Nat) (x : AV), x ∈ List.replicate n (AV.int .u8 0) → ∃ z, x = .int .u8 z := fun n x hx => ⟨0, (List.mem_replicate.1 hx).2⟩
  have hB0 : ∀ N, BndH (H0 ++ J).length (H0 ++ J) → (H0 ++ J).length ≤ N → ∀ l ∈ H0, ∀ x ∈ l, Bnd N x := fun N hB hN l hl x hx => (hB l (List.mem_append_left _ hl) x hx).mono hN
  rcases hv with ⟨rfl, hout⟩ | ⟨J1, tail, rfl, rfl, htl⟩
  case' inl =>
    obtain ⟨N0, hN0⟩ : ∃ N0, H0.length + J.length = N0 := ⟨_, rfl⟩
    refine pc_enter Tryz.func80 rfl [] [(3, [0, 0, 0, 0, 0, 0, 0, 3]), (7, [0, 0, 0, 0, 0, 3])] (by kernel_rfl) (fun hB => ?_)
    simp [Tryz.ntmps80, Tryz.results80, List.replicate_succ]
    refine printSizeNil_pc E _ _ hE p.length (by omega) ?_
    rw [hsz]
    simp [hw1, hw2, m1, m2, hM0, -Int.natCast_add]
    refine VGrow_intro fun c hc1 hc2 => ?_
    simp [r4]
    rw [hN0]
    refine VL_go (putInv H0 N0 out strs M) (fun fr _ => 4 - (ai (aget fr 30)).toNat) ?_ ?_
    · refine ⟨J, List.replicate (M + (c - M)) (.int .u8 0), 0, by omega, by simp [u8L, hout], hJ, hzero _, by omega, by simp, by simp [hout]; omega, fr_intro (by simp [hrows, hsl, hout, hN0]; omega)⟩
    have hBN : ∀ N, N0 ≤ N → ∀ l ∈ H0, ∀ x ∈ l, Bnd N x := fun N hN => hB0 N hB (by simp; omega)
    clear hJ hB hN0 hc1 hc2 hB0 hout
  case' inr =>
    obtain ⟨N0, hN0⟩ : ∃ N0, H0.length + (J1.length + 1) = N0 := ⟨_, rfl⟩
    have hfree : (∀ x ∈ u8L out, x.free = true) = True := eq_true fun x hx => by obtain ⟨b, _, rfl⟩ := List.mem_map.1 hx; rfl
    have hdrop : List.drop (out.length + M) (u8L out ++ tail) = tail.drop M := by rw [List.drop_append, List.drop_of_length_le (by simp only [u8L_length]; omega)]; simp
    have htu : ∀ x ∈ tail, ∃ z, x = .int .u8 z := fun x hx => hJ (u8L out ++ tail) (by simp) x (List.mem_append_right _ hx)
    have hJ1 : ∀ l ∈ J1, ∀ x ∈ l, ∃ z, x = .int .u8 z := fun l hl => hJ l (List.mem_append_left _ hl)
    have hrow : ∀ x ∈ u8L out ++ tail, ∃ z, x = .int .u8 z := hJ _ (by simp)
    refine pc_enter Tryz.func80 rfl [] [(3, [0, 0, 0, 0, 0, 0, 0, 3]), (7, [0, 0, 0, 0, 0, 3])] (by kernel_rfl) (fun hB => ?_)
    simp [Tryz.ntmps80, Tryz.results80, List.replicate_succ]
    refine printSizeNil_pc E _ _ hE p.length (by omega) ?_
    rw [hsz]
    have hBN : ∀ N, N0 ≤ N → ∀ l ∈ H0, ∀ x ∈ l, Bnd N x := fun N hN => hB0 N hB (by simp; omega)
    rcases Nat.lt_or_ge (out.length + tail.length) (out.length + M) with hroom | hroom
    case' inr =>
      simp [hw1, hw2, m1, m2, hM0, hroom, hfree, hdrop, r4, -Int.natCast_add]
      rw [hN0]
      refine VL_go (putInv H0 N0 out strs M) (fun fr _ => 4 - (ai (aget fr 30)).toNat) ?_ ?_
      · refine ⟨J1, List.replicate M (.int .u8 0) ++ tail.drop M, 0, by omega, by simp, hJ1, fun x hx => ?_, by omega, by simp, by simp; omega, fr_intro (by simp [hrows, hsl]; omega)⟩
        rcases List.mem_append.1 hx with h | h
        · exact hzero _ x h
        · exact htu x (List.mem_of_mem_drop h)
      clear hJ hB hN0 hfree hdrop htu hJ1 hroom htl hB0 hrow
    case' inl =>
      have hroom' : ¬ out.length + M ≤ out.length + tail.length := by omega
      have hm3 : out.length + M ≤ maxLen := by unfold maxLen; omega
      have hm4 : out.length + M ≤ 140737488355328 := by omega
      simp [hw1, hw2, m1, m2, hM0, hroom', hfree, hm3, hm4, -Int.natCast_add]
      refine VGrow_intro fun c hc1 hc2 => ?_
      simp [r4]
      rw [hN0]
      refine VL_go (putInv H0 N0 out strs M) (fun fr _ => 4 - (ai (aget fr 30)).toNat) ?_ ?_
      · refine ⟨J1 ++ [u8L out ++ tail], List.replicate M (.int .u8 0) ++ List.replicate (c - (out.length + M)) (.int .u8 0), 0, by omega, by simp, fun l hl => ?_, fun x hx => ?_, by simp; omega, by simp, by simp; omega, fr_intro (by simp [hrows, hsl]; omega)⟩
        · rcases List.mem_append.1 hl with h | h
          · exact hJ1 l h
          · simp at h; subst h; exact hrow
        · rcases List.mem_append.1 hx with h | h <;> exact hzero _ x h
      clear hJ hB hN0 hfree hdrop htu hJ1 hroom htl hB0 hroom' hm3 hm4 hc1 hc2 hrow
  all_goals
    rintro fr H' ⟨J', tl, j, hj, rfl, hJ', htl', hN, hge, hle, x, rfl⟩
    obtain ⟨pre, hpre⟩ : ∃ q, out ++ (strs.take j).flatten = q := ⟨_, rfl⟩
    have hpl : out.length + (strs.take j).flatten.length = pre.length := by rw [← hpre, List.length_append]
    rw [hpl] at hge hle ⊢
    rw [hpre]
    have hget : ∀ r : List AV, (H0 ++ (J' ++ [r]))[H0.length + J'.length]? = some r := fun r => by rw [← List.append_assoc, List.getElem?_append_right (by simp)]; simp
    have hset : ∀ r q : List AV, (H0 ++ (J' ++ [r])).set (H0.length + J'.length) q = H0 ++ (J' ++ [q]) := fun r q => by rw [← List.append_assoc, List.set_append_right _ _ (by simp), List.append_assoc]; simp
    by_cases h : j < strs.length
    · obtain ⟨s, hs⟩ : ∃ s, strs[j]? = some s := ⟨_, List.getElem?_eq_getElem h⟩
      have hat := strRows_at hs
      have hl2 := hlast j (by omega)
      have hnext : (strs.take (j + 1)).flatten = (strs.take j).flatten ++ s := by rw [List.take_add_one, hs]; simp
      have hpn : pre ++ s = out ++ (strs.take (j + 1)).flatten := by rw [hnext, ← hpre]; simp
      have hle2 : pre.length + s.length ≤ out.length + M := by
        have := flat_take_le strs (j + 1)
        have e := congrArg List.length hpn
        rw [List.length_append, List.length_append] at e
        omega
      have q1 : pre.length ≤ out.length + M := by omega
      have q2 : out.length + M ≤ pre.length + tl.length := by omega
      have q3 : ¬ pre.length + tl.length = pre.length := by omega
      have q4 : s.length ≤ out.length + M - pre.length := by omega
      have q5 : pre.length + s.length ≤ pre.length + tl.length := by omega
      have q6 : s.length ≤ tl.length := by omega
      have hw3 : IntKind.i64.wrap ((pre.length : Int) + s.length) = ((pre.length + s.length : Nat) : Int) := by rw [wrap_in (by omega) (by omega)]; omega
      have hw4 : IntKind.i64.wrap ((j : Int) + 1) = j + 1 := wrap_in (by omega) (by omega)
      have hne : ¬ tl = [] := fun e => by rw [e] at q2; simp at q2; omega
      have e1 : List.take pre.length (u8L pre ++ tl) = u8L pre := by rw [List.take_append_of_le_length (by simp), List.take_of_length_le (by simp)]
      have e2 : List.drop (pre.length + s.length) (u8L pre ++ tl) = tl.drop s.length := by rw [List.drop_append, List.drop_of_length_le (by simp)]; simp
      simp [h, hat, q1, q2, q4, q5, q6, hne, hget, hset, hw3, hw4, e1, e2, bts_flat8, -Int.natCast_add]
      refine Kloop_normal ⟨J', tl.drop s.length, j + 1, by omega, by rw [← hpn, u8L_app]; simp, hJ', fun y hy => htl' y (List.mem_of_mem_drop hy), hN, ?_, ?_, fr_intro ?_⟩ (by simp; omega)
      all_goals
        have e3 : out.length + (strs.take (j + 1)).flatten.length = pre.length + s.length := by rw [← List.length_append, ← hpn, List.length_append]
        rw [e3]
        try (rw [List.length_drop]; omega)
      have e4 : pre.length + s.length + (tl.drop s.length).length = pre.length + tl.length := by rw [List.length_drop]; omega
      rw [e4]
      simp
    · obtain rfl : j = strs.length := by omega
      simp
      have hfull : out ++ chunkT p = pre := by rw [← hpre, List.take_of_length_le (Nat.le_refl _), hsf]
      rw [hfull] at hQ
      have hn : out.length + M = pre.length := by rw [← hpl, List.take_of_length_le (Nat.le_refl _), hsM]
      rw [hn]
      have hcells : ∀ y ∈ u8L pre ++ tl, ∃ z, y = .int .u8 z := fun y hy => by
        rcases List.mem_append.1 hy with h | h
        · obtain ⟨b, _, rfl⟩ := List.mem_map.1 h; exact ⟨_, rfl⟩
        · exact htl' y h
      have hJall : ∀ l ∈ J' ++ [u8L pre ++ tl], ∀ y ∈ l, ∃ z, y = .int .u8 z := fun l hl => by
        rcases List.mem_append.1 hl with h | h
        · exact hJ' l h
        · simp at h; subst h; exact hcells
      refine ⟨.bx (H0.length + J'.length) 0 pre.length (pre.length + tl.length) 1, _, _, H0 ++ (J' ++ [u8L pre ++ tl]), [], by simp, nilV_refl _, nilH_refl _, by simp, by simp; omega, fun l hl y hy => ?_, by simp, hQ _ _ ⟨_, rfl, hJall, .inr ⟨J', tl, rfl, rfl, hle⟩⟩⟩
      rcases List.mem_append.1 hl with h | h
      · exact hBN _ (by simp; omega) l h y hy
      · obtain ⟨z, rfl⟩ := hJall l h y hy; exact .int _ _
end
end Go.Proofs.YtcdkcaocfioigaaGreatDoor

set_option linter.unusedVariables false
set_option linter.unnecessarySimpa false
set_option linter.unusedSimpArgs false
set_option linter.unusedSectionVars false
set_option maxRecDepth 100000
namespace Go.Proofs.YtcdkcaocfioigaaGreatDoor
open Go Go.RowKit Go.Proofs

/-- A line of a field: its text and the error's number. -/
def lineP (f : Fld) : List UInt8 × Int := if nameB f.name = false then ([], 60) else if valueB f.value = false then ([], 61) else (lineT f, 0)
@[simp] theorem tblfB : tblf Tryz.prog 125 = some TU := by kernel_rfl
section
variable (E : Env) (H : Hp) (Q : AV → Hp → Prop)
theorem isValue_pc (l : List UInt8) (hl : l.length ≤ cap) (hQ : Q (.bool (valueB l)) H) : PC Tryz.prog E 103 [.str l] H Q := by
  refine pc_enter Tryz.func103 rfl [] [] (by kernel_rfl) (fun hB => ?_)
  have fin : ∀ c : Bool, valueB l = c → Q (.bool c) H := fun c hc => hc ▸ hQ
  by_cases h : l.length ≤ 8192
  · have h' : (l.length : Int) ≤ 8192 := by omega
    simp [Tryz.ntmps103, Tryz.results103, List.replicate_succ, h']
    refine isField_pc E _ _ l hl ?_
    cases hf : fldB l
    · simp
      exact aPost_same0 hB rfl (nilV_refl _) (by simp) (fin _ (by simp [valueB, hf]))
    · simp
      refine trim_pc E _ _ l hl ?_
      simp
      exact aPost_same0 hB rfl (nilV_refl _) (by simp) (fin _ (by unfold valueB; rw [hf, Bool.eq_iff_iff]; simp [h]))
  · have h' : ¬ (l.length : Int) ≤ 8192 := by omega
    simp [Tryz.ntmps103, Tryz.results103, List.replicate_succ, h']
    exact aPost_same0 hB rfl (nilV_refl _) (by simp) (fin _ (by simp [valueB, h]))
theorem printLine_pc (hE : SE E) (f : Fld) (h1 : f.name.length ≤ 16777216) (h2 : f.value.length ≤ 16777216) (hQ : Q (.tup [.str (lineP f).1, .int .i64 (lineP f).2]) H) : PC Tryz.prog E 73 [.agg [.str f.name, .str f.value]] H Q := by
  refine pc_enter Tryz.func73 rfl [] [] (by kernel_rfl) (fun hB => ?_)
  have m1 : f.name.length + 1 ≤ maxLen := by unfold maxLen; omega
  have m2 : f.name.length + 2 ≤ maxLen := by unfold maxLen; omega
  have m3 : f.name.length + 2 + f.value.length ≤ maxLen := by unfold maxLen; omega
  have m4 : f.name.length + 1 + 1 ≤ maxLen := by unfold maxLen; omega
  have m5 : f.name.length + 1 + 1 + f.value.length ≤ maxLen := by unfold maxLen; omega
  simp [Tryz.ntmps73, Tryz.results73, List.replicate_succ]
  refine isName_pc E _ _ hE f.name (by simp only [cap]; omega) ?_
  cases hn : nameB f.name with
  | false =>
    have e : lineP f = ([], 60) := by unfold lineP; rw [if_pos hn]
    rw [e] at hQ
    simp
    exact aPost_same hB rfl (nilV_refl _) (by simp) hQ
  | true =>
    simp
    refine isValue_pc E _ _ f.value (by simp only [cap]; omega) ?_
    cases hv : valueB f.value with
    | false =>
      have e : lineP f = ([], 61) := by unfold lineP; rw [if_neg (by rw [hn]; simp), if_pos hv]
      rw [e] at hQ
      simp
      exact aPost_same hB rfl (nilV_refl _) (by simp) hQ
    | true =>
      have e : lineP f = (lineT f, 0) := by unfold lineP; rw [if_neg (by rw [hn]; simp), if_neg (by rw [hv]; simp)]
      rw [e] at hQ
      by_cases he : f.value = []
      · have e2 : lineT f = f.name ++ [58] := by unfold lineT; rw [if_pos he]
        rw [e2] at hQ
        have he' : (f.value == []) = true := by simpa using he
        simp [he', m1]
        exact aPost_same hB rfl (nilV_refl _) (by simp) hQ
      · have e2 : lineT f = f.name ++ (58 :: 32 :: f.value) := by unfold lineT; rw [if_neg he]
        rw [e2] at hQ
        have he' : (f.value == []) = false := by simpa using he
        simp [he', m2, m3, m4, m5]
        exact aPost_same hB rfl (nilV_refl _) (by simp) hQ
end
/-- Sizes of chunks that may be. -/
def okSizes (ns : List Int) : Bool := ns.all fun n => decide (1 ≤ n)
/-- What is encoded, and the error's number. -/
def encAns (body : List UInt8) (ns : List Int) (ts : List Fld) : List UInt8 × Int := if okSizes ns = false then ([], 1) else if ts.all rightB = false then ([], 101) else (encT (piecesB body ns) ts, 0)
def fsz : List Fld → Nat
  | [] => 0
  | f :: l => f.name.length + f.value.length + fsz l
theorem fsz_mem {l : List Fld} {i : Nat} {f : Fld} (h : l[i]? = some f) : f.name.length + f.value.length ≤ fsz l := by
  induction l generalizing i with
  | nil => simp at h
  | cons q l ih =>
    cases i with
    | zero => simp at h; subst h; simp [fsz]
    | succ i => have := ih (i := i) (by simpa using h); simp [fsz]; omega
theorem fsz_take (l : List Fld) (i : Nat) : fsz (l.take i) ≤ fsz l := by
  induction l generalizing i with
  | nil => simp
  | cons p l ih =>
    cases i with
    | zero => simp [fsz]
    | succ i => have := ih i; simp [fsz]; omega
theorem lineT_le (f : Fld) : (lineT f).length ≤ f.name.length + f.value.length + 2 := by
  unfold lineT
  split <;> simp <;> omega
theorem linesT_le (l : List Fld) : (linesT l).length ≤ fsz l + 4 * l.length := by
  induction l with
  | nil => simp [linesT]
  | cons f l ih =>
    have e : linesT (f :: l) = lineT f ++ [13, 10] ++ linesT l := by simp [linesT]
    have := lineT_le f
    rw [e]
    simp [fsz]; omega
theorem linesT_step (l : List Fld) (i : Nat) (f : Fld) (h : l[i]? = some f) : linesT (l.take (i + 1)) = linesT (l.take i) ++ (lineT f ++ [13, 10]) := by
  rw [List.take_add_one, h]
  simp [linesT]
theorem chunkT_le (p : List UInt8) (h0 : p ≠ []) (h : p.length ≤ 1099511627776) : (chunkT p).length ≤ 16 * p.length := by
  have h1 := hexD_len11 p.length h
  have h2 : p.length ≠ 0 := fun e => h0 (List.length_eq_zero_iff.1 e)
  unfold chunkT
  simp
  omega
theorem chunksT_le : ∀ (ps : List (List UInt8)), (∀ p ∈ ps, p ≠ []) → ps.flatten.length ≤ 1099511627776 → (chunksT ps).length ≤ 16 * ps.flatten.length
  | [], _, _ => by simp [chunksT]
  | p :: ps, h0, h => by
    simp only [List.flatten_cons, List.length_append] at h
    have h1 := chunkT_le p (h0 p (by simp)) (by omega)
    have h2 := chunksT_le ps (fun q hq => h0 q (by simp [hq])) (by omega)
    have e : chunksT (p :: ps) = chunkT p ++ chunksT ps := by simp [chunksT]
    rw [e]
    simp only [List.flatten_cons, List.length_append]
    omega
end Go.Proofs.YtcdkcaocfioigaaGreatDoor

