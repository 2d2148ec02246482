/- The chunk layer's plain functions: size lines, names, lines of fields. -/
import Derived.Test.YtimhofphmgehgaaDoorChE
set_option linter.unusedVariables false
set_option linter.unusedSimpArgs false
set_option linter.unusedSectionVars false
set_option maxRecDepth 100000
namespace Go.Proofs.YtimhofphmgehgaaDoor
open Go Go.RowKit Go.Proofs

@[simp] theorem take_drop_all {α : Type} (l : List α) (n : Nat) : (l.drop n).take (l.length - n) = l.drop n := List.take_of_length_le (by rw [List.length_drop]; omega)
section
variable (E : Env) (H : Hp) (Q : AV → Hp → Prop)
theorem hex_pc (l : List UInt8) (most : Int) (hl : l.length ≤ cap) (hm1 : -9223372036854775808 ≤ most) (hm2 : most ≤ 9223372036854775807) (hQ : Q (.tup [.int .i64 (numAns 16 most l).1, .int .i64 (numAns 16 most l).2]) H) :
    PC Tryd.prog E 42 [.str l, .int .i64 most] H Q := by
  refine pc_of_calls (v := .tup [.int .i64 (numAns 16 most l).1, .int .i64 (numAns 16 most l).2]) (by kernel_rfl) (fun _ => True) (fun w hw => trivial) (fun w β Rd cargs hS hsz hargs => ?_) (by simp) rfl hQ
  obtain ⟨u, v, rfl, hu, hv⟩ := args2 hsz hargs
  obtain ⟨s, rfl, rfl, hs⟩ := rel_str hu
  obtain rfl := rel_int hv
  refine (hex_ok s most (by rw [← size_toList]; exact hl) hm1 hm2 w).mono ?_
  rintro e w' ⟨rfl, hF⟩
  exact ⟨_, rfl, hF, rel_tup2⟩
theorem indexByte_pc (l : List UInt8) (c : UInt8) (hQ : Q (.int .i64 (Lib.indexByte l c)) H) : PC Tryd.prog E 96 [.str l, .int .u8 (c.toNat : Int)] H Q := by
  refine pc_of_calls (v := .int .i64 (Lib.indexByte l c)) (by kernel_rfl) (fun _ => True) (fun w hw => trivial) (fun w β Rd cargs hS hsz hargs => ?_) (by simp) rfl hQ
  obtain ⟨u, v, rfl, hu, hv⟩ := args2 hsz hargs
  obtain ⟨s, rfl, rfl, hs⟩ := rel_str hu
  obtain rfl := rel_int hv
  refine (strings_indexByte s c.toNat w).mono ?_
  rintro e w' ⟨rfl, rfl⟩
  have : (c.toNat : Int).toNat.toUInt8 = c := by simp
  rw [this]
  exact ⟨_, rfl, Frm.refl _ _, .int _ _⟩
theorem trimLeft_pc (l : List UInt8) (hl : l.length ≤ cap) (hQ : ∀ x, x.length ≤ l.length → Q (.str x) H) : PC Tryd.prog E 123 [.str l, .str [32, 9]] H Q := by
  have hle : (Lib.trimLeftS l [32, 9]).length ≤ l.length := by
    unfold Lib.trimLeftS
    exact (List.dropWhile_sublist _).length_le
  refine pc_of_calls (v := .str (Lib.trimLeftS l [32, 9])) (by kernel_rfl) (fun _ => True) (fun w hw => trivial) (fun w β Rd cargs hS hsz hargs => ?_) (.str _) rfl (hQ _ hle)
  obtain ⟨u, v, rfl, hu, hv⟩ := args2 hsz hargs
  obtain ⟨s, rfl, rfl, hs⟩ := rel_str hu
  obtain ⟨t, rfl, ht, _⟩ := rel_str hv
  have h116 : (Tryd.prog.info? (lren.t 116)).map (fun i => (i.zero, i.size)) = some (some (.agg (Array.replicate 256 (.bool false))), 256) := by kernel_rfl
  have htl : t.size = 2 := by rw [← size_toList, ht]; rfl
  refine (Any.strings_TrimLeft_ascii lays161 (zero_of_info h116).1 (zero_of_info h116).2 s t w (by rw [htl]; omega) (fun j b hb => by
    rw [ht] at hb
    match j with
    | 0 => simp at hb; subst hb; decide
    | 1 => simp at hb; subst hb; decide
    | j + 2 => simp at hb)).mono ?_
  rintro e w' ⟨rfl, hb⟩
  rw [ht]
  exact ⟨_, rfl, frm_below hb, rel_tx _ (cap_max (Nat.le_trans hle hl))⟩
end
theorem pars_le : ∀ (n : Nat) (s : List UInt8) (l : List Par) (k : Nat), s.length ≤ n → pars signB s = some (l, k) → l.length ≤ s.length ∧ k ≤ s.length := by
  intro n
  induction n with
  | zero =>
    intro s l k hn h
    have : s = [] := List.length_eq_zero_iff.1 (by omega)
    subst this
    rw [pars_end signB [] (by simp)] at h
    cases h; simp
  | succ n ih =>
    intro s l k hn h
    by_cases h0 : s[run blankB s]? = some 59
    · have hlt := (List.getElem?_eq_some_iff.1 h0).1
      obtain ⟨m, hm⟩ : ∃ m, run blankB (s.drop (run blankB s + 1)) = m := ⟨_, rfl⟩
      obtain ⟨j, hj⟩ : ∃ j, run signB (s.drop (run blankB s + 1 + m)) = j := ⟨_, rfl⟩
      have hml := run_le blankB (s.drop (run blankB s + 1))
      rw [hm, List.length_drop] at hml
      have hjl := run_le signB (s.drop (run blankB s + 1 + m))
      rw [hj, List.length_drop] at hjl
      by_cases hz : j = 0
      · rw [pars_skip signB s _ m j rfl h0 hm hj hz] at h
        cases hp : pars signB (s.drop (run blankB s + 1)) with
        | none => rw [hp] at h; cases h
        | some p =>
          rw [hp] at h; simp at h
          obtain ⟨rfl, rfl⟩ := h
          have := ih _ p.1 p.2 (by rw [List.length_drop]; omega) hp
          rw [List.length_drop] at this; omega
      · by_cases h1 : s[run blankB s + 1 + m + j]? = some 61
        · have h1l := (List.getElem?_eq_some_iff.1 h1).1
          cases hv : pval signB (s.drop (run blankB s + 1 + m + j + 1)) with
          | none => rw [pars_bad signB s _ m j rfl h0 hm hj hz h1 hv] at h; cases h
          | some q =>
            have hq := pval_le (l := s.drop (run blankB s + 1 + m + j + 1)) (x := q.1) (k := q.2) hv
            rw [List.length_drop] at hq
            rw [pars_value signB s _ m j rfl h0 hm hj hz h1 (x := q.1) (k := q.2) hv] at h
            cases hp : pars signB (s.drop (run blankB s + 1 + m + j + 1 + q.2)) with
            | none => rw [hp] at h; cases h
            | some p =>
              rw [hp] at h; simp at h
              obtain ⟨rfl, rfl⟩ := h
              have := ih _ p.1 p.2 (by rw [List.length_drop]; omega) hp
              rw [List.length_drop] at this; simp; omega
        · rw [pars_plain signB s _ m j rfl h0 hm hj hz h1] at h
          cases hp : pars signB (s.drop (run blankB s + 1 + m + j)) with
          | none => rw [hp] at h; cases h
          | some p =>
            rw [hp] at h; simp at h
            obtain ⟨rfl, rfl⟩ := h
            have := ih _ p.1 p.2 (by rw [List.length_drop]; omega) hp
            rw [List.length_drop] at this; simp; omega
    · rw [pars_end signB s h0] at h
      cases h; simp
theorem parAns_le (l : List UInt8) : (parAns l).1.length ≤ l.length ∧ ∃ m : Nat, (parAns l).2.1 = m ∧ m ≤ l.length := by
  unfold parAns
  cases h : pars signB l with
  | none => exact ⟨by simp, 0, rfl, by omega⟩
  | some p =>
    have := pars_le _ l p.1 p.2 (Nat.le_refl _) h
    exact ⟨this.1, p.2, rfl, this.2⟩
theorem nilV_mid (k : Nat) (x z : AV) (h : x.free = true) (h2 : z.free = true) : nilV (.tup [x, .nil, z]) (.tup [x, .sl false k [], z]) :=
  .inr ⟨_, _, rfl, rfl, ⟨.inl rfl, .inr ⟨rfl, false, k, rfl⟩, .inl rfl, trivial⟩, by simp [h, h2]⟩
/-- What a size line says: the size, the parameters, the error's number. -/
def sizeAns (l : List UInt8) : Int × List Par × Int :=
  if run isHex l = 0 ∨ 254 < l.length then (0, [], 100)
  else if (parAns (l.drop (run isHex l))).2.2 ≠ 0 ∨ trimB (l.drop (run isHex l + (parAns (l.drop (run isHex l))).2.1.toNat)) ≠ [] then (0, [], 100)
  else if (numAns 16 1099511627776 (l.take (run isHex l))).2 ≠ 0 then (0, [], 102)
  else ((numAns 16 1099511627776 (l.take (run isHex l))).1, (parAns (l.drop (run isHex l))).1, 0)
theorem hex1 (b : UInt8) : (numAns 16 15 [b]).2 = if isHex b = true then 0 else 11 := by
  have h := isHex_dig b
  have hlt := dig_lt b
  unfold numAns
  simp only [List.cons_ne_nil, if_false]
  have e1 : okDigs 16 [b] = decide (0 ≤ dig b ∧ dig b < 16) := by simp [okDigs]
  have e2 : numOf 16 [b] = dig b := by simp [numOf]
  rw [e1, ← h, e2]
  cases hb : isHex b
  · simp
  · rw [hb] at h
    have := of_decide_eq_true h.symm
    have h15 : ¬ 15 < dig b := by omega
    simp [h15]
section
variable (E : Env) (H : Hp) (Q : AV → Hp → Prop)
def szInv (l : List UInt8) (H : Hp) (fr : List AV) (H' : Hp) : Prop := H' = H ∧ ∃ n : Nat, n ≤ l.length ∧ (l.take n).all isHex = true ∧ ∃ x : Nat → AV, fr = [.str l, x 1, x 2, x 3, x 4, .int .i64 n, x 6, x 7, x 8, x 9, x 10, x 11, x 12, x 13, x 14, x 15, x 16, x 17, x 18, x 19, x 20, x 21, x 22, x 23, x 24, x 25, x 26, x 27, x 28, x 29, x 30, x 31, x 32, x 33, x 34, x 35, x 36, x 37, x 38, x 39, x 40, x 41, x 42, x 43, x 44, x 45, x 46, x 47, x 48, x 49, x 50, x 51, x 52, x 53, x 54, x 55, x 56, x 57, x 58, x 59, x 60, x 61, x 62, x 63, x 64, x 65]
theorem parseSize_pc (hE : SE E) (l : List UInt8) (hl : l.length ≤ cap) (hQ : Q (.tup [.int .i64 (sizeAns l).1, .sl false 3 (prs (sizeAns l).2.1), .int .i64 (sizeAns l).2.2]) H) : PC Tryd.prog E 16 [.str l] H Q := by
  refine pc_enter Tryd.func16 rfl [] [] (by kernel_rfl) (fun hB => ?_)
  have hl' := hl
  simp only [cap] at hl'
  simp [Tryd.ntmps16, Tryd.results16, List.replicate_succ]
  refine VL_go (szInv l H) (fun fr _ => l.length - (ai (aget fr 5)).toNat) ⟨rfl, 0, by omega, by simp, fr_intro (by simp)⟩ ?_
  rintro fr H' ⟨rfl, n, hn, hall, x, rfl⟩
  have hw : IntKind.i64.wrap ((n : Int) + 1) = n + 1 := wrap_in (by omega) (by omega)
  have hcase : (∃ b, l[n]? = some b ∧ isHex b = true) ∨ (∃ b, l[n]? = some b ∧ isHex b = false) ∨ l.length ≤ n := by
    cases hb : l[n]? with
    | none => exact .inr (.inr (List.getElem?_eq_none_iff.1 hb))
    | some b =>
      cases hx : isHex b
      · exact .inr (.inl ⟨b, rfl, hx⟩)
      · exact .inl ⟨b, rfl, hx⟩
  rcases hcase with ⟨b, hb, hx⟩ | ⟨b, hb, hx⟩ | h
  · have h : n < l.length := (List.getElem?_eq_some_iff.1 hb).1
    have t1 : ((n : Int) + 1).toNat = n + 1 := by omega
    have t2 : (0 : Int) ≤ n + 1 := by omega
    have t3 : (l.drop n).take 1 = [b] := by rw [drop_at l n b hb]; rfl
    have t4 : n + 1 ≤ l.length := by omega
    simp [h, hw, t1, t2, t3, t4]
    refine hex_pc E _ _ [b] 15 (by simp [cap]) (by omega) (by omega) ?_
    rw [hex1, hx]
    simp [hw]
    refine Kloop_normal ?_ ?_
    rotate_left
    · simp; omega
    refine ⟨rfl, n + 1, by omega, ?_, fr_intro (by simp)⟩
    rw [all_take isHex l n b hb, hall, hx]; rfl
  case' inr.inl =>
    have h : n < l.length := (List.getElem?_eq_some_iff.1 hb).1
    have t1 : ((n : Int) + 1).toNat = n + 1 := by omega
    have t2 : (0 : Int) ≤ n + 1 := by omega
    have t3 : (l.drop n).take 1 = [b] := by rw [drop_at l n b hb]; rfl
    have t4 : n + 1 ≤ l.length := by omega
    simp [h, hw, t1, t2, t3, t4]
    refine hex_pc E _ _ [b] 15 (by simp [cap]) (by omega) (by omega) ?_
    rw [hex1, hx]
    have hr : run isHex l = n := run_step isHex l n hall hn (fun c hc => by rw [hb] at hc; cases hc; exact hx)
    clear hb hx t1 t2 t3 t4 h hw
    simp
  case' inr.inr =>
    have h' : ¬ n < l.length := by omega
    have hr : run isHex l = n := run_step isHex l n hall hn (fun c hc => by have := (List.getElem?_eq_some_iff.1 hc).1; omega)
    simp [h']
    clear h h' hw
  all_goals
    clear hall
    have bad : ∀ (fr : List AV) (e : Int), sizeAns l = (0, [], e) → aget fr 2 = .int .i64 0 → aget fr 3 = .nil → aget fr 4 = .int .i64 e → aPost Tryd.prog [ResultVar.tmp 2, ResultVar.tmp 3, ResultVar.tmp 4] H'.length Q .ret fr H' := fun fr e h0 h1 h2 h3 => by
      rw [h0] at hQ
      exact aPost_same0 hB (v0 := .tup [.int .i64 0, .nil, .int .i64 e]) (by simp [h1, h2, h3]) (nilV_mid 3 _ _ rfl rfl) (by simp) hQ
    by_cases hn0 : n = 0
    · have ha : sizeAns l = (0, [], 100) := by unfold sizeAns; rw [if_pos (.inl (by rw [hr]; exact hn0))]
      subst hn0
      simp
      exact bad _ 100 ha rfl rfl rfl
    · have e0 : ((n : Int) == 0) = false := by simp; omega
      by_cases hbig : 254 < l.length
      · have ha : sizeAns l = (0, [], 100) := by unfold sizeAns; rw [if_pos (.inr hbig)]
        have hbig' : (254 : Int) < l.length := by omega
        simp [e0, hbig']
        exact bad _ 100 ha rfl rfl rfl
      · have hbig' : ¬ (254 : Int) < l.length := by omega
        obtain ⟨hpl, m, hm, hml⟩ := parAns_le (l.drop n)
        rw [List.length_drop] at hml hpl
        simp [e0, hbig', hn]
        refine params_pc E _ _ hE (l.drop n) (by rw [List.length_drop]; omega) ?_
        have ha0 : sizeAns l = if (parAns (l.drop n)).2.2 ≠ 0 ∨ trimB (l.drop (n + m)) ≠ [] then (0, [], 100) else if (numAns 16 1099511627776 (l.take n)).2 ≠ 0 then (0, [], 102) else ((numAns 16 1099511627776 (l.take n)).1, (parAns (l.drop n)).1, 0) := by
          unfold sizeAns
          rw [hr, if_neg (by omega), hm, Int.toNat_natCast]
        rw [hm]
        have hw2 : IntKind.i64.wrap ((n : Int) + m) = ((n + m : Nat) : Int) := by rw [wrap_in (by omega) (by omega)]; omega
        by_cases he : (parAns (l.drop n)).2.2 = 0
        · have hnm : n + m ≤ l.length := by omega
          simp [he, hw2, hnm, -Int.natCast_add]
          refine trim_pc E _ _ (l.drop (n + m)) (by rw [List.length_drop]; simp only [cap]; omega) ?_
          by_cases ht : trimB (l.drop (n + m)) = []
          · rw [ht]
            simp [hn]
            refine hex_pc E _ _ (l.take n) 1099511627776 (by rw [List.length_take]; simp only [cap]; omega) (by omega) (by omega) ?_
            by_cases hx : (numAns 16 1099511627776 (l.take n)).2 = 0
            · have ha : sizeAns l = ((numAns 16 1099511627776 (l.take n)).1, (parAns (l.drop n)).1, 0) := by rw [ha0, if_neg (by simp [he, ht]), if_neg (by simp [hx])]
              rw [ha] at hQ
              simp [hx]
              exact aPost_same0 hB (v0 := .tup [.int .i64 (numAns 16 1099511627776 (l.take n)).1, .sl false 3 (prs (parAns (l.drop n)).1), .int .i64 0]) (by simp) (nilV_refl _) (by simp [bnd_prs, -bnd_sl']) hQ
            · have hx2 : ((numAns 16 1099511627776 (l.take n)).2 != 0) = true := by simpa using hx
              have ha : sizeAns l = (0, [], 102) := by rw [ha0, if_neg (by simp [he, ht]), if_pos hx]
              simp [hx2]
              exact bad _ 102 ha rfl rfl rfl
          · have ht2 : (trimB (l.drop (n + m)) != []) = true := by simpa using ht
            have ha : sizeAns l = (0, [], 100) := by rw [ha0, if_pos (.inr ht)]
            simp [ht2]
            exact bad _ 100 ha rfl rfl rfl
        · have he2 : ((parAns (l.drop n)).2.2 != 0) = true := by simpa using he
          have ha : sizeAns l = (0, [], 100) := by rw [ha0, if_pos (.inl he)]
          simp [he2]
          exact bad _ 100 ha rfl rfl rfl
end
end Go.Proofs.YtimhofphmgehgaaDoor
