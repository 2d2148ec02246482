/- The octet layer: contracts of the shelf and over a builder, in the abstract machine. -/
import Derived.Test.YtimhofphmgehgaaDoorChC
set_option linter.unusedVariables false
set_option linter.unusedSimpArgs false
set_option linter.unusedSectionVars false
set_option maxRecDepth 100000
namespace Go.Proofs.YtimhofphmgehgaaDoor
open Go Go.RowKit Go.Proofs

/-- Texts as rows. -/
def strs (l : List (List UInt8)) : List (List AV) := l.map fun x => [.str x]
theorem strs_len (l : List (List UInt8)) : (strs l).length = l.length := by simp [strs]
theorem strs_app (l m : List (List UInt8)) : strs (l ++ m) = strs l ++ strs m := by simp [strs]
theorem strs_flat (l : List (List UInt8)) (j : Nat) : (strs l).flatten[j]? = (l[j]?).map AV.str := by
  induction l generalizing j with
  | nil => simp [strs]
  | cons b l ih =>
    have e : (strs (b :: l)).flatten = .str b :: (strs l).flatten := rfl
    rw [e]
    cases j with
    | zero => rfl
    | succ j => rw [List.getElem?_cons_succ, List.getElem?_cons_succ, ih]
section
variable {w : World} {β : Nat → Nat} {Rd : Nat → Nat → Prop}
theorem rel_strs {own : Bool} {ls : List (List UInt8)} {v : Value} (h : Rel w β Rd (.sl own 1 (strs ls)) v) : ∃ ao c, v = .slice ao ls.length c ∧ ls.length ≤ c ∧ c ≤ maxLen ∧
    (0 < ls.length → ∃ g o, ao = some ⟨g, o, none⟩ ∧ ∃ bs : List ByteArray, bs.map (·.data.toList) = ls ∧ ∀ (j : Nat) x, bs[j]? = some x → w.cell? ⟨g, o + j, none⟩ = some (.string x)) := by
  obtain ⟨xs, hk, ⟨hl, ao, c, rfl, h1, h2, h3⟩, _, _, hr⟩ := rel_sl h
  rw [strs_len] at hl h1 h3
  refine ⟨ao, c, by rw [strs_len], h1, h2, fun hp => ?_⟩
  obtain ⟨g, o, rfl, hc⟩ := h3 (by omega)
  refine ⟨g, o, rfl, ?_⟩
  have : ∀ n, n ≤ ls.length → ∃ bs : List ByteArray, bs.map (·.data.toList) = ls.take n ∧ ∀ (j : Nat) x, bs[j]? = some x → w.cell? ⟨g, o + j, none⟩ = some (.string x) := by
    intro n
    induction n with
    | zero => exact fun _ => ⟨[], by simp, fun j x hx => by simp at hx⟩
    | succ n ih =>
      intro hn
      obtain ⟨bs, e1, e2⟩ := ih (by omega)
      have hlen : bs.length = n := by have := congrArg List.length e1; simpa [Nat.min_eq_left (show n ≤ ls.length by omega)] using this
      have hx : xs[n]? = some (xs[n]'(by omega)) := List.getElem?_eq_getElem _
      have hln : ls[n]? = some (ls[n]'(by omega)) := List.getElem?_eq_getElem _
      obtain ⟨s, hs, hsl, _⟩ := rel_str (hr n (.str ls[n]) _ (by rw [strs_flat, hln]; rfl) hx)
      refine ⟨bs ++ [s], ?_, fun j x hj => ?_⟩
      · rw [List.map_append, e1, List.take_add_one, hln]
        simp [hsl]
      · by_cases hj' : j < bs.length
        · exact e2 j x (by rwa [List.getElem?_append_left hj'] at hj)
        · have := (List.getElem?_eq_some_iff.1 hj).1
          simp at this
          obtain rfl : j = n := by omega
          rw [List.getElem?_append_right (by omega), hlen] at hj
          simp at hj; subst hj
          rw [hc j (by omega), hx, hs]
  obtain ⟨bs, e1, e2⟩ := this _ (Nat.le_refl _)
  exact ⟨bs, by rw [e1, List.take_length], e2⟩
theorem rel_tup_si {a : List UInt8} {k : IntKind} {n : Int} (h : a.length ≤ maxLen) : Rel w β Rd (.tup [.str a, .int k n]) (.tuple #[.string (tx a), .int k n]) := by
  refine .tup _ _ rfl (by simp [AV.free]) (fun j x u hx hu => ?_)
  match j with
  | 0 => simp at hx hu; subst hx; subst hu; exact rel_tx a h
  | 1 => simp at hx hu; subst hx; subst hu; exact .int _ _
  | j + 2 => simp at hx
theorem rel_tup_sii {a : List UInt8} {k k' : IntKind} {n m : Int} (h : a.length ≤ maxLen) : Rel w β Rd (.tup [.str a, .int k n, .int k' m]) (.tuple #[.string (tx a), .int k n, .int k' m]) := by
  refine .tup _ _ rfl (by simp [AV.free]) (fun j x u hx hu => ?_)
  match j with
  | 0 => simp at hx hu; subst hx; subst hu; exact rel_tx a h
  | 1 => simp at hx hu; subst hx; subst hu; exact .int _ _
  | 2 => simp at hx hu; subst hx; subst hu; exact .int _ _
  | j + 3 => simp at hx
end
theorem trim_le (l : List UInt8) : (trimB l).length ≤ l.length := by
  have dw : ∀ (p : UInt8 → Bool) (l : List UInt8), (l.dropWhile p).length ≤ l.length := fun p l => (List.dropWhile_sublist p).length_le
  unfold trimB Go.Lib.trimS Go.Lib.trimLeftS Go.Lib.trimRightS
  refine Nat.le_trans (dw _ _) ?_
  rw [List.length_reverse]
  refine Nat.le_trans (dw _ _) ?_
  rw [List.length_reverse]; exact Nat.le_refl _
theorem quoted_le (l : List UInt8) : (quoted l).length ≤ 2 * l.length + 2 := by
  have := esc_le l
  simp [quoted]; omega
theorem unqAns_le (l : List UInt8) : (unqAns l).1.length ≤ l.length := by
  unfold unqAns
  cases h : unquote l with
  | none => simp
  | some p => have := unquote_le (l := p.1) (k := p.2) h; simp; omega
section
variable (E : Env) (H : Hp) (Q : AV → Hp → Prop)
theorem trim0_pc (l : List UInt8) (hl : l.length ≤ cap) (hQ : Q (.str (trimB l)) H) : PC Tryd.prog E 73 [.str l, .str [32, 9]] H Q := by
  refine pc_of_calls (v := .str (trimB l)) (by kernel_rfl) (fun _ => True) (fun w hw => trivial) (fun w β Rd cargs hS hsz hargs => ?_) (.str _) rfl hQ
  obtain ⟨u, v, rfl, hu, hv⟩ := args2 hsz hargs
  obtain ⟨s, rfl, rfl, hs⟩ := rel_str hu
  obtain ⟨t, rfl, ht, _⟩ := rel_str hv
  have h116 : (Tryd.prog.info? (lren.t 116)).map (fun i => (i.zero, i.size)) = some (some (.agg (Array.replicate 256 (.bool false))), 256) := by kernel_rfl
  have htl : t.size = 2 := by rw [← size_toList, ht]; rfl
  refine (Any.strings_Trim_ascii lays160 (zero_of_info h116).1 (zero_of_info h116).2 s t w (by rw [← size_toList]; simp only [cap] at hl; omega) (by rw [htl]; omega) (fun j b hb => by
    rw [ht] at hb
    match j with
    | 0 => simp at hb; subst hb; decide
    | 1 => simp at hb; subst hb; decide
    | j + 2 => simp at hb)).mono ?_
  rintro e w' ⟨rfl, hb⟩
  rw [ht]
  exact ⟨_, rfl, frm_below hb, rel_tx (trimB s.data.toList) (cap_max (Nat.le_trans (trim_le _) hl))⟩
theorem trim_pc (l : List UInt8) (hl : l.length ≤ cap) (hQ : Q (.str (trimB l)) H) : PC Tryd.prog E 44 [.str l] H Q := by
  refine pc_enter Tryd.func44 rfl [] [] (by kernel_rfl) (fun hB => ?_)
  simp [Tryd.ntmps44, Tryd.results44, List.replicate_succ]
  refine trim0_pc E H _ l hl ?_
  simp [Tryd.results44]
  exact aPost_same0 hB rfl (nilV_refl _) (by simp) hQ
theorem isFieldByte_pc (b : UInt8) (hQ : Q (.bool (fcB b)) H) : PC Tryd.prog E 110 [.int .u8 (b.toNat : Int)] H Q := by
  refine pc_of_calls (v := .bool (fcB b)) (by kernel_rfl) (fun _ => True) (fun w hw => trivial) (fun w β Rd cargs hS hsz hargs => ?_) (.bool _) rfl hQ
  obtain ⟨u, rfl, hu⟩ := args1 hsz hargs
  obtain rfl := rel_int hu
  refine (isFieldByte_ok b w).mono ?_
  rintro e w' ⟨rfl, rfl⟩
  exact ⟨_, rfl, Frm.refl _ _, .bool _⟩
theorem isField_pc (l : List UInt8) (hl : l.length ≤ cap) (hQ : Q (.bool (fldB l)) H) : PC Tryd.prog E 88 [.str l] H Q := by
  refine pc_of_calls (v := .bool (fldB l)) (by kernel_rfl) (fun _ => True) (fun w hw => trivial) (fun w β Rd cargs hS hsz hargs => ?_) (.bool _) rfl hQ
  obtain ⟨u, rfl, hu⟩ := args1 hsz hargs
  obtain ⟨s, rfl, rfl, hs⟩ := rel_str hu
  refine (isField_ok s (by rw [← size_toList]; exact hl) w).mono ?_
  rintro e w' ⟨rfl, rfl⟩
  exact ⟨_, rfl, Frm.refl _ _, .bool _⟩
theorem quote_pc (l : List UInt8) (hl : l.length ≤ 35184372088832) (hQ : Q (.tup [.str (quoteAns l).1, .int .i64 (quoteAns l).2]) H) : PC Tryd.prog E 89 [.str l] H Q := by
  refine pc_of_calls (v := .tup [.str (quoteAns l).1, .int .i64 (quoteAns l).2]) (by kernel_rfl) (fun _ => True) (fun w hw => trivial) (fun w β Rd cargs hS hsz hargs => ?_) (.tup _ (fun x hx => by simp at hx; rcases hx with rfl | rfl; exact .str _; exact .int _ _)) rfl hQ
  obtain ⟨u, rfl, hu⟩ := args1 hsz hargs
  obtain ⟨s, rfl, rfl, hs⟩ := rel_str hu
  refine (quote_ok s (by rw [← size_toList]; exact hl) w).mono ?_
  rintro e w' ⟨rfl, hf⟩
  refine ⟨_, rfl, hf, rel_tup_si ?_⟩
  have := quoted_le s.data.toList
  simp only [maxLen]
  unfold quoteAns; split
  · simp only; omega
  · simp
theorem unquote_pc (l : List UInt8) (hl : l.length ≤ 35184372088832) (hQ : Q (.tup [.str (unqAns l).1, .int .i64 (unqAns l).2.1, .int .i64 (unqAns l).2.2]) H) : PC Tryd.prog E 97 [.str l] H Q := by
  refine pc_of_calls (v := .tup [.str (unqAns l).1, .int .i64 (unqAns l).2.1, .int .i64 (unqAns l).2.2]) (by kernel_rfl) (fun _ => True) (fun w hw => trivial) (fun w β Rd cargs hS hsz hargs => ?_) (.tup _ (fun x hx => by simp at hx; rcases hx with rfl | rfl | rfl; exact .str _; exact .int _ _; exact .int _ _)) rfl hQ
  obtain ⟨u, rfl, hu⟩ := args1 hsz hargs
  obtain ⟨s, rfl, rfl, hs⟩ := rel_str hu
  refine (unquote_ok s (by rw [← size_toList]; exact hl) w).mono ?_
  rintro e w' ⟨rfl, hf⟩
  exact ⟨_, rfl, hf, rel_tup_sii (Nat.le_trans (unqAns_le _) (by simp only [maxLen]; omega))⟩
end
end Go.Proofs.YtimhofphmgehgaaDoor
