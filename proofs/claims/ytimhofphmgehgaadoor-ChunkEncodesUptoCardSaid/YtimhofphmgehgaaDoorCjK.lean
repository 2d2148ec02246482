/- The document's Encode; ChunkEncodes. -/
import Derived.Test.YtimhofphmgehgaaDoorCjI
set_option linter.unusedVariables false
set_option linter.unnecessarySimpa false
set_option linter.unusedSimpArgs false
set_option linter.unusedSectionVars false
set_option maxRecDepth 100000
namespace Go.Proofs.YtimhofphmgehgaaDoor
open Go Go.RowKit Go.Proofs

theorem chunksT_app (a b : List (List UInt8)) : chunksT (a ++ b) = chunksT a ++ chunksT b := by simp [chunksT]
def full (l : List (List UInt8)) : List (List UInt8) := l.filter fun p => p != []
theorem full_app (a b : List (List UInt8)) : full (a ++ b) = full a ++ full b := by simp [full]
theorem full_take (l : List (List UInt8)) (j : Nat) : (chunksT (full (l.take j))).length ≤ (chunksT (full l)).length := by
  have h : full l = full (l.take j) ++ full (l.drop j) := by rw [← full_app, List.take_append_drop]
  rw [h, chunksT_app, List.length_append]; omega
theorem strRows_snoc (l : List (List UInt8)) (s : List UInt8) : strRows l ++ [[.str s]] = strRows (l ++ [s]) := by simp [strRows]
@[simp] theorem strRows_length (l : List (List UInt8)) : (strRows l).length = l.length := by simp [strRows]
theorem flat_len_mem {l : List (List UInt8)} {j : Nat} {s : List UInt8} (h : l[j]? = some s) : s.length ≤ l.flatten.length := by
  have := List.mem_of_getElem? h
  induction l generalizing j with
  | nil => cases this
  | cons a l ih =>
    cases j with
    | zero => simp at h; subst h; simp
    | succ j =>
      have h' : l[j]? = some s := by simpa using h
      have := ih h' (List.mem_of_getElem? h')
      simp only [List.flatten_cons, List.length_append]; omega
section
variable (E : Env) (H : Hp) (Q : AV → Hp → Prop)
theorem dprintLine_pc (f : Fld) (h1 : f.name.length ≤ 16777216) (h2 : f.value.length ≤ 16777216) (hQ : Q (.tup [.str (lineP f).1, .int .i64 (lineP f).2]) H) : PC Tryd.prog E 67 [.agg [.str f.name, .str f.value]] H Q := by
  refine pc_enter Tryd.func67 rfl [] [] (by kernel_rfl) (fun hB => ?_)
  have m1 : f.name.length + 1 ≤ maxLen := by unfold maxLen; omega
  have m2 : f.name.length + 2 ≤ maxLen := by unfold maxLen; omega
  have m3 : f.name.length + 2 + f.value.length ≤ maxLen := by unfold maxLen; omega
  have m4 : f.name.length + 1 + 1 ≤ maxLen := by unfold maxLen; omega
  have m5 : f.name.length + 1 + 1 + f.value.length ≤ maxLen := by unfold maxLen; omega
  simp [Tryd.ntmps67, Tryd.results67, List.replicate_succ]
  refine ref_name_pc E _ _ f.name (by simp only [cap]; omega) ?_
  cases hn : nameB f.name with
  | false =>
    have e : lineP f = ([], 60) := by unfold lineP; rw [if_pos hn]
    rw [e] at hQ
    simp
    exact aPost_same hB rfl (nilV_refl _) (by simp) hQ
  | true =>
    simp
    refine dvalue_pc E _ _ f.value (by simp only [cap]; omega) ?_
    cases hv : valueB f.value with
    | false =>
      have e : lineP f = ([], 61) := by unfold lineP; rw [if_neg (by rw [hn]; simp), if_pos hv]
      rw [e] at hQ
      simp
      exact aPost_same hB rfl (nilV_refl _) (by simp) hQ
    | true =>
      have e : lineP f = (lineT f, 0) := by unfold lineP; rw [if_neg (by rw [hn]; simp), if_neg (by rw [hv]; simp)]
      rw [e] at hQ
      by_cases he : f.value = []
      · have e2 : lineT f = f.name ++ [58] := by unfold lineT; rw [if_pos he]
        rw [e2] at hQ
        have he' : (f.value == []) = true := by simpa using he
        simp [he', m1]
        exact aPost_same hB rfl (nilV_refl _) (by simp) hQ
      · have e2 : lineT f = f.name ++ (58 :: 32 :: f.value) := by unfold lineT; rw [if_neg he]
        rw [e2] at hQ
        have he' : (f.value == []) = false := by simpa using he
        simp [he', m2, m3, m4, m5]
        exact aPost_same hB rfl (nilV_refl _) (by simp) hQ
def deInv1 (body : List UInt8) (ns : List Int) (ts : List Fld) (H : Hp) (fr : List AV) (H' : Hp) : Prop := H' = H ∧ ∃ i : Nat, i ≤ ns.length ∧ okSizes (ns.take i) = true ∧
  ∃ x : Nat → AV, fr = [.str body, .sl false 1 (ints ns), .sl false 2 (flds ts), x 3, x 4, x 5, x 6, x 7, x 8, x 9, x 10, x 11, x 12, x 13, x 14, x 15, x 16, x 17, x 18, x 19, x 20, x 21, .sl false 1 (ints ns), .int .i64 ns.length, .int .i64 i, x 25, x 26, x 27, x 28, x 29, x 30, x 31, x 32, x 33, x 34, x 35, x 36, x 37, x 38, x 39, x 40, x 41, x 42, x 43, x 44, x 45, x 46, x 47, x 48, x 49, x 50, x 51, x 52, x 53, x 54, x 55, x 56, x 57, x 58, x 59, x 60, x 61, x 62, x 63, x 64, x 65, x 66, x 67, x 68, x 69, x 70, x 71, x 72, x 73, x 74, x 75, x 76, x 77, x 78, x 79, x 80, x 81, x 82, x 83, x 84, x 85, x 86, x 87, x 88, x 89, x 90, x 91, x 92, x 93, x 94, x 95, x 96, x 97, x 98, x 99, x 100, x 101, x 102, x 103]
def deInv2 (body : List UInt8) (ns : List Int) (ts : List Fld) (H : Hp) (fr : List AV) (H' : Hp) : Prop := ∃ (J : Hp) (i : Nat), H' = H ++ J ∧ i ≤ ts.length ∧ (ts.take i).all rightB = true ∧
  ∃ x : Nat → AV, fr = [.str body, .sl false 1 (ints ns), .sl false 2 (flds ts), x 3, x 4, x 5, x 6, x 7, x 8, x 9, x 10, x 11, x 12, x 13, x 14, x 15, x 16, x 17, x 18, x 19, x 20, x 21, x 22, x 23, x 24, x 25, x 26, x 27, x 28, x 29, x 30, .sl false 2 (flds ts), .int .i64 ts.length, .int .i64 i, x 34, x 35, x 36, x 37, x 38, x 39, x 40, x 41, x 42, x 43, x 44, x 45, x 46, x 47, x 48, x 49, x 50, x 51, x 52, x 53, x 54, x 55, x 56, x 57, x 58, x 59, x 60, x 61, x 62, x 63, x 64, x 65, x 66, x 67, x 68, x 69, x 70, x 71, x 72, x 73, x 74, x 75, x 76, x 77, x 78, x 79, x 80, x 81, x 82, x 83, x 84, x 85, x 86, x 87, x 88, x 89, x 90, x 91, x 92, x 93, x 94, x 95, x 96, x 97, x 98, x 99, x 100, x 101, x 102, x 103]
def deInv3 (body : List UInt8) (ns : List Int) (ts : List Fld) (H : Hp) (fr : List AV) (H' : Hp) : Prop := ∃ (J : Hp) (i : Nat) (b : List UInt8) (pcs : List (List UInt8)), H' = H ++ J ∧ i ≤ ns.length ∧ pcs.length = i ∧ full pcs ++ piecesB b (ns.drop i) = piecesB body ns ∧ b.length ≤ body.length ∧
  ∃ x : Nat → AV, fr = [.str b, x 1, .sl false 2 (flds ts), x 3, x 4, x 5, x 6, x 7, x 8, x 9, x 10, x 11, .sl true 1 (strRows pcs), x 13, x 14, x 15, x 16, x 17, x 18, x 19, x 20, x 21, x 22, x 23, x 24, x 25, x 26, x 27, x 28, x 29, x 30, x 31, x 32, x 33, x 34, x 35, x 36, x 37, x 38, x 39, x 40, .sl false 1 (ints ns), .int .i64 ns.length, .int .i64 i, x 44, x 45, x 46, x 47, x 48, x 49, x 50, x 51, x 52, x 53, x 54, x 55, x 56, x 57, x 58, x 59, x 60, x 61, x 62, x 63, x 64, x 65, x 66, x 67, x 68, x 69, x 70, x 71, x 72, x 73, x 74, x 75, x 76, x 77, x 78, x 79, x 80, x 81, x 82, x 83, x 84, x 85, x 86, x 87, x 88, x 89, x 90, x 91, x 92, x 93, x 94, x 95, x 96, x 97, x 98, x 99, x 100, x 101, x 102, x 103]
def deInv4 (all : List (List UInt8)) (ts : List Fld) (H : Hp) (fr : List AV) (H' : Hp) : Prop := ∃ (J : Hp) (i : Nat), H' = H ++ J ∧ i ≤ all.length ∧
  ∃ x : Nat → AV, fr = [x 0, x 1, .sl false 2 (flds ts), x 3, x 4, x 5, x 6, x 7, x 8, x 9, x 10, x 11, x 12, x 13, x 14, .str (chunksT (full (all.take i))), x 16, x 17, x 18, x 19, x 20, x 21, x 22, x 23, x 24, x 25, x 26, x 27, x 28, x 29, x 30, x 31, x 32, x 33, x 34, x 35, x 36, x 37, x 38, x 39, x 40, x 41, x 42, x 43, x 44, x 45, x 46, x 47, x 48, x 49, x 50, x 51, x 52, x 53, x 54, x 55, x 56, x 57, x 58, x 59, x 60, x 61, x 62, x 63, x 64, x 65, .sl true 1 (strRows all), .int .i64 all.length, .int .i64 i, x 69, x 70, x 71, x 72, x 73, x 74, x 75, x 76, x 77, x 78, x 79, x 80, x 81, x 82, x 83, x 84, x 85, x 86, x 87, x 88, x 89, x 90, x 91, x 92, x 93, x 94, x 95, x 96, x 97, x 98, x 99, x 100, x 101, x 102, x 103]
def deInv5 (out : List UInt8) (ts : List Fld) (H : Hp) (fr : List AV) (H' : Hp) : Prop := ∃ (J : Hp) (i : Nat), H' = H ++ J ∧ i ≤ ts.length ∧
  ∃ x : Nat → AV, fr = [x 0, x 1, x 2, x 3, x 4, x 5, x 6, x 7, x 8, x 9, x 10, x 11, x 12, x 13, x 14, .str (out ++ linesT (ts.take i)), x 16, x 17, x 18, x 19, x 20, x 21, x 22, x 23, x 24, x 25, x 26, x 27, x 28, x 29, x 30, x 31, x 32, x 33, x 34, x 35, x 36, x 37, x 38, x 39, x 40, x 41, x 42, x 43, x 44, x 45, x 46, x 47, x 48, x 49, x 50, x 51, x 52, x 53, x 54, x 55, x 56, x 57, x 58, x 59, x 60, x 61, x 62, x 63, x 64, x 65, x 66, x 67, x 68, x 69, x 70, x 71, x 72, x 73, x 74, x 75, x 76, x 77, x 78, x 79, x 80, x 81, x 82, x 83, x 84, x 85, .sl false 2 (flds ts), .int .i64 ts.length, .int .i64 i, x 89, x 90, x 91, x 92, x 93, x 94, x 95, x 96, x 97, x 98, x 99, x 100, x 101, x 102, x 103]
set_option maxHeartbeats 4000000 in
theorem dencode_pc (body : List UInt8) (ns : List Int) (ts : List Fld) (hb : body.length ≤ 1048576) (hn : ns.length ≤ 1048577) (ht : fsz ts + ts.length ≤ 1048577) (hr : ∀ z ∈ ns, -9223372036854775808 ≤ z ∧ z ≤ 9223372036854775807)
    (hQ : Q (.tup [.str (encAns body ns ts).1, .int .i64 (encAns body ns ts).2]) H) : PC Tryd.prog E 39 [.str body, .sl false 1 (ints ns), .sl false 2 (flds ts)] H Q := by
  refine pc_enter Tryd.func39 rfl [53, 63] [] (by kernel_rfl) (fun hB => ?_)
  simp [Tryd.ntmps39, Tryd.results39, List.replicate_succ]
  refine VL_go (deInv1 body ns ts H) (fun fr _ => ns.length - (ai (aget fr 24)).toNat) ⟨rfl, 0, by omega, rfl, fr_intro (by simp)⟩ ?_
  rintro fr H' ⟨rfl, i, hi, hall, x, rfl⟩
  by_cases h : i < ns.length
  · obtain ⟨z, hz⟩ : ∃ z, ns[i]? = some z := ⟨_, List.getElem?_eq_getElem h⟩
    have hat := ints_at hz
    have hw : IntKind.i64.wrap ((i : Int) + 1) = i + 1 := wrap_in (by omega) (by omega)
    have hst : okSizes (ns.take (i + 1)) = (okSizes (ns.take i) && decide (1 ≤ z)) := by
      unfold okSizes
      rw [List.take_add_one, hz, List.all_append]; simp
    by_cases hz1 : z < 1
    · have e : encAns body ns ts = ([], 1) := by
        unfold encAns
        rw [if_pos]
        unfold okSizes
        rw [List.all_eq_false]
        exact ⟨z, List.mem_of_getElem? hz, by simp; omega⟩
      rw [e] at hQ
      simp [h, hat, hz1]
      exact aPost_same0 hB rfl (nilV_refl _) (by simp) hQ
    · simp [h, hat, hz1, hw]
      exact Kloop_normal ⟨rfl, i + 1, by omega, by rw [hst, hall]; simp; omega, fr_intro (by simp)⟩ (by simp; omega)
  obtain rfl : i = ns.length := by omega
  rw [List.take_of_length_le (Nat.le_refl _)] at hall
  have hns : ∀ z ∈ ns, 1 ≤ z := fun z hz => by have := List.all_eq_true.1 hall z hz; simpa using this
  clear hi h
  simp
  refine VL_go (deInv2 body ns ts H') (fun fr _ => ts.length - (ai (aget fr 33)).toNat) ⟨[], 0, by simp, by omega, by simp, fr_intro (by simp)⟩ ?_
  rintro fr H2 ⟨J, i, rfl, hi, hts, x, rfl⟩
  by_cases h : i < ts.length
  · obtain ⟨f, hf⟩ : ∃ f, ts[i]? = some f := ⟨_, List.getElem?_eq_getElem h⟩
    have hat := flds_at hf
    have hfm := fsz_mem hf
    have hw : IntKind.i64.wrap ((i : Int) + 1) = i + 1 := wrap_in (by omega) (by omega)
    simp [h, hat]
    refine dright_pc E _ _ f (by simp only [cap]; omega) (by simp only [cap]; omega) ?_
    cases hrt : rightB f
    · have hq : encAns body ns ts = ([], 101) := by
        unfold encAns
        rw [if_neg (by rw [hall]; simp), if_pos]
        rw [List.all_eq_false]
        exact ⟨f, List.mem_of_getElem? hf, by rw [hrt]; simp⟩
      rw [hq] at hQ
      simp
      exact aPost_same hB rfl (nilV_refl _) (by simp) hQ
    · simp [hw]
      exact Kloop_normal ⟨_, i + 1, rfl, by omega, by rw [all_step rightB ts i f hf, hts, hrt]; rfl, fr_intro (by simp)⟩ (by simp; omega)
  obtain rfl : i = ts.length := by omega
  rw [List.take_of_length_le (Nat.le_refl _)] at hts
  have he : encAns body ns ts = (encT (piecesB body ns) ts, 0) := by
    unfold encAns
    rw [if_neg (by rw [hall]; simp), if_neg (by rw [hts]; simp)]
  rw [he] at hQ
  simp only at hQ
  clear hi h he hall
  have hpf : (piecesB body ns).flatten = body := pieces_flat ns body
  have htot := chunksT_le (piecesB body ns) (pieces_ne ns body hns) (by rw [hpf]; omega)
  rw [hpf] at htot
  simp
  refine VL_nil 12 1 (by rfl) ?_
  simp only [List.set_cons_succ, List.set_cons_zero]
  refine VL_go (deInv3 body ns ts H') (fun fr _ => ns.length - (ai (aget fr 43)).toNat) ⟨J, 0, body, [], rfl, by omega, rfl, by simp [full], by omega, fr_intro (by simp [strRows])⟩ ?_
  clear J x
  rintro fr H3 ⟨J, i, b, pcs, rfl, hi, hpl, hsum, hbl, x, rfl⟩
  have m1 : pcs.length + 1 ≤ maxLen := by unfold maxLen; omega
  have m2 : (pcs.length + 1) * 16 ≤ 140737488355328 := by omega
  by_cases h : i < ns.length
  · obtain ⟨z, hz⟩ : ∃ z, ns[i]? = some z := ⟨_, List.getElem?_eq_getElem h⟩
    have hat := ints_at hz
    have hz1 := hns z (List.mem_of_getElem? hz)
    have hw : IntKind.i64.wrap ((i : Int) + 1) = i + 1 := wrap_in (by omega) (by omega)
    have hdrop : ns.drop i = z :: ns.drop (i + 1) := by rw [List.drop_eq_getElem_cons h]; simp [(List.getElem?_eq_some_iff.1 hz).2]
    rw [hdrop] at hsum
    obtain ⟨m, hm⟩ : ∃ m : Nat, (if (b.length : Int) < z then (b.length : Int) else z) = m := ⟨(if (b.length : Int) < z then (b.length : Int) else z).toNat, by split <;> omega⟩
    have hml : m ≤ b.length := by split at hm <;> omega
    have htk : b.take m = b.take z.toNat := by
      split at hm
      · rw [List.take_of_length_le (by omega), List.take_of_length_le (by omega)]
      · rw [show m = z.toNat by omega]
    have hdk : b.drop m = b.drop z.toNat := by
      split at hm
      · rw [List.drop_of_length_le (by omega), List.drop_of_length_le (by omega)]
      · rw [show m = z.toNat by omega]
    have hsum2 : full (pcs ++ [b.take m]) ++ piecesB (b.drop m) (ns.drop (i + 1)) = piecesB body ns := by
      rw [← hsum, full_app, htk, hdk]
      by_cases hb0 : b = []
      · subst hb0; simp [full, pieces_nil]
      · have hne : b.take z.toNat ≠ [] := fun e => by
          have := congrArg List.length e
          rw [List.length_take] at this
          have h0 : b.length ≠ 0 := fun e => hb0 (List.length_eq_zero_iff.1 e)
          have h3 : ([] : List UInt8).length = 0 := rfl
          omega
        rw [piecesB_cons hb0]
        simp [full, hne]
    have hsn := strRows_snoc pcs (b.take m)
    have htl : (b.drop m).take (b.length - m) = b.drop m := List.take_of_length_le (by rw [List.length_drop]; omega)
    by_cases hlz : (b.length : Int) < z
    · have hm' : m = b.length := by rw [if_pos hlz] at hm; omega
      subst hm'
      simp at hsn
      simp [h, hat, hlz, m1, m2, hsn, hw]
      exact Kloop_normal ⟨J, i + 1, [], pcs ++ [b], rfl, by omega, by simp [hpl], by simpa using hsum2, by simp, fr_intro (by simp)⟩ (by simp; omega)
    · have hzm : z = m := by rw [if_neg hlz] at hm; exact hm
      subst hzm
      have hlz' : m ≤ b.length := hml
      simp [h, hat, hlz, hlz', m1, m2, hsn, hw, htl]
      exact Kloop_normal ⟨J, i + 1, b.drop m, pcs ++ [b.take m], rfl, by omega, by simp [hpl], hsum2, by rw [List.length_drop]; omega, fr_intro (by simp)⟩ (by simp; omega)
  obtain rfl : i = ns.length := by omega
  rw [List.drop_of_length_le (Nat.le_refl _)] at hsum
  have hall : full (pcs ++ [b]) = piecesB body ns := by
    rw [← hsum, full_app]
    by_cases hb0 : b = []
    · subst hb0; simp [full, pieces_nil]
    · rw [piecesB_last hb0]; simp [full, hb0]
  have hsn := strRows_snoc pcs b
  have hflat : (full (pcs ++ [b])).flatten = (pcs ++ [b]).flatten := by
    generalize pcs ++ [b] = l
    induction l with
    | nil => rfl
    | cons a l ih =>
      unfold full at ih ⊢
      rw [List.filter_cons]
      split
      · simp [ih]
      · rename_i hh
        have : a = [] := by simpa using hh
        subst this
        simpa using ih
  obtain ⟨all, hallE⟩ : ∃ l, pcs ++ [b] = l := ⟨_, rfl⟩
  have hal : all.length = ns.length + 1 := by rw [← hallE]; simp [hpl]
  rw [hallE] at hsn hall hflat
  simp [m1, m2, hsn]
  refine VL_go (deInv4 all ts H') (fun fr _ => all.length - (ai (aget fr 68)).toNat) ⟨J, 0, rfl, by omega, fr_intro (by simp [full, chunksT])⟩ ?_
  clear J x hsum
  rintro fr H4 ⟨J, i, rfl, hi, x, rfl⟩
  have hcl := full_take all i
  rw [hall] at hcl
  by_cases h : i < all.length
  · obtain ⟨s, hs⟩ : ∃ s, all[i]? = some s := ⟨_, List.getElem?_eq_getElem h⟩
    have hat := strRows_at hs
    have hsl := flat_len_mem hs
    rw [← hflat, hall, hpf] at hsl
    have hw : IntKind.i64.wrap ((i : Int) + 1) = i + 1 := wrap_in (by omega) (by omega)
    have htk : all.take (i + 1) = all.take i ++ [s] := by rw [List.take_add_one, hs]; rfl
    have hs11 := hexD_len11 s.length (by omega)
    by_cases hs0 : s = []
    · have e : chunksT (full (all.take (i + 1))) = chunksT (full (all.take i)) := by rw [htk, full_app, hs0]; simp [full]
      subst hs0
      simp [h, hat, hw]
      exact Kloop_normal ⟨J, i + 1, rfl, by omega, fr_intro (by rw [e]; simp)⟩ (by simp; omega)
    · have hs1 : (s != []) = true := by simpa using hs0
      have e : chunksT (full (all.take (i + 1))) = chunksT (full (all.take i)) ++ chunkT s := by
        rw [htk, full_app, chunksT_app]
        simp [full, hs0, chunksT]
      have k1 : (hexD s.length).length + 1 + 1 ≤ maxLen := by unfold maxLen; omega
      have k2 : (hexD s.length).length + 2 ≤ maxLen := by unfold maxLen; omega
      have k3 : (hexD s.length).length + 1 + 1 + s.length ≤ maxLen := by unfold maxLen; omega
      have k4 : (hexD s.length).length + 2 + s.length ≤ maxLen := by unfold maxLen; omega
      have k5 : (hexD s.length).length + (s.length + 1 + 1) + 2 ≤ maxLen := by unfold maxLen; omega
      have k6 : (chunksT (full (all.take i))).length + ((hexD s.length).length + (s.length + 1 + 1 + 1 + 1)) ≤ maxLen := by unfold maxLen; omega
      have k7 : (hexD s.length).length + (s.length + 1 + 1 + 2) ≤ maxLen := by unfold maxLen; omega
      have k8 : (chunksT (full (all.take i))).length + ((hexD s.length).length + (s.length + (1 + 1) + 1 + 1)) ≤ maxLen := by unfold maxLen; omega
      simp [h, hat, hs1]
      refine ddigits_pc E _ _ s.length (by omega) ?_
      simp [k1, k2, k3, k4, k5, k6, k7, k8, hw]
      exact Kloop_normal ⟨J, i + 1, rfl, by omega, fr_intro (by rw [e]; simp [chunkT])⟩ (by simp; omega)
  obtain rfl : i = all.length := by omega
  rw [List.take_of_length_le (Nat.le_refl _), hall] at hcl ⊢
  have k0 : (chunksT (piecesB body ns)).length + 3 ≤ maxLen := by unfold maxLen; omega
  have k0' : (chunksT (piecesB body ns)).length + 1 + 1 + 1 ≤ maxLen := by unfold maxLen; omega
  obtain ⟨out, hout⟩ : ∃ q, chunksT (piecesB body ns) ++ [48, 13, 10] = q := ⟨_, rfl⟩
  have hol : out.length ≤ 17000000 := by rw [← hout]; simp; omega
  simp [k0, k0', hout]
  refine VL_go (deInv5 out ts H') (fun fr _ => ts.length - (ai (aget fr 88)).toNat) ⟨J, 0, rfl, by omega, fr_intro (by simp [linesT])⟩ ?_
  clear J x
  rintro fr H5 ⟨J, i, rfl, hi, x, rfl⟩
  have hlin := linesT_le (ts.take i)
  have hsz := fsz_take ts i
  rw [List.length_take] at hlin
  by_cases h : i < ts.length
  · obtain ⟨f, hf⟩ : ∃ f, ts[i]? = some f := ⟨_, List.getElem?_eq_getElem h⟩
    have hat := flds_at hf
    have hfm := fsz_mem hf
    have hw : IntKind.i64.wrap ((i : Int) + 1) = i + 1 := wrap_in (by omega) (by omega)
    have hrt : rightB f = true := List.all_eq_true.1 hts f (List.mem_of_getElem? hf)
    have hlp : lineP f = (lineT f, 0) := by
      unfold rightB at hrt
      simp at hrt
      unfold lineP
      rw [if_neg (by rw [mayB_name hrt.1]; simp), if_neg (by rw [hrt.2]; simp)]
    have hlt := lineT_le f
    have hst := linesT_step ts i f hf
    have k1 : (lineT f).length + 1 + 1 ≤ maxLen := by unfold maxLen; omega
    have k2 : (lineT f).length + 2 ≤ maxLen := by unfold maxLen; omega
    have k3 : out.length + (linesT (ts.take i)).length + ((lineT f).length + 1 + 1) ≤ maxLen := by unfold maxLen; omega
    have k4 : out.length + (linesT (ts.take i)).length + ((lineT f).length + 2) ≤ maxLen := by unfold maxLen; omega
    simp [h, hat]
    refine dprintLine_pc E _ _ f (by omega) (by omega) ?_
    simp [hlp, k1, k2, k3, k4, hw]
    exact Kloop_normal ⟨_, i + 1, rfl, by omega, fr_intro (by rw [hst]; simp)⟩ (by simp; omega)
  · obtain rfl : i = ts.length := by omega
    rw [List.take_of_length_le (Nat.le_refl _)] at hlin ⊢
    have k1 : out.length + (linesT ts).length + 2 ≤ maxLen := by unfold maxLen; omega
    have k2 : out.length + (linesT ts).length + 1 + 1 ≤ maxLen := by unfold maxLen; omega
    have e : encT (piecesB body ns) ts = out ++ (linesT ts ++ [13, 10]) := by rw [← hout]; unfold encT; simp
    rw [e] at hQ
    simp [k1, k2]
    exact aPost_same hB (by simp) (nilV_refl _) (by simp) hQ
theorem plainO_pc (T : List Fld) (hl : T.length ≤ 1073741824) (hQ : Q (.sl true 2 (flds T)) H) : PC Tryd.prog E 34 [.sl false 2 (flds T)] H Q := by
  refine pc_enter Tryd.func34 rfl [12, 21] [] (by kernel_rfl) (fun hB => ?_)
  simp [Tryd.ntmps34, Tryd.results34, List.replicate_succ]
  refine VL_nil 3 2 (by rfl) ?_
  simp only [List.set_cons_succ, List.set_cons_zero]
  refine VL_go (plainInv T H) (fun fr _ => T.length - (ai (aget fr 8)).toNat) ⟨[], 0, by simp, by omega, fr_intro (by simp [flds])⟩ ?_
  rintro fr H' ⟨J, i, rfl, hi, x, rfl⟩
  by_cases h : i < T.length
  · obtain ⟨u, hu⟩ : ∃ u, T[i]? = some u := ⟨_, List.getElem?_eq_getElem h⟩
    have hat1 := flds_at hu
    have hw : IntKind.i64.wrap ((i : Int) + 1) = i + 1 := wrap_in (by omega) (by omega)
    have htk : T.take (i + 1) = T.take i ++ [u] := by rw [List.take_add_one, hu]; rfl
    obtain ⟨n1, v1⟩ := u
    have m1 : min i T.length + 1 ≤ maxLen := by unfold maxLen; omega
    have m2 : (min i T.length + 1) * 32 ≤ 140737488355328 := by omega
    have hsn := flds_snoc (T.take i) ⟨n1, v1⟩
    rw [← htk] at hsn
    simp only at hat1 hsn
    simp [h, hat1, m1, m2, hsn, hw]
    exact Kloop_normal ⟨_, i + 1, rfl, by omega, fr_intro (by simp)⟩ (by simp; omega)
  · obtain rfl : i = T.length := by omega
    simp
    exact aPost_same hB (v0 := .sl true 2 (flds T)) (by simp) (nilV_refl _) (by simp) hQ
def lenInv (ns : List Int) (H : Hp) (fr : List AV) (H' : Hp) : Prop := H' = H ∧ ∃ i : Nat, i ≤ ns.length ∧ ∃ x : Nat → AV, fr = [x 0, .sl false 1 (ints ns), x 2, x 3, x 4, x 5, x 6, x 7, .sl true 1 (ints (ns ++ [77])), x 9, x 10, x 11, x 12, x 13, x 14, x 15, x 16, x 17, x 18, x 19, x 20, x 21, x 22, x 23, x 24, x 25, x 26, x 27, x 28, x 29, x 30, x 31, x 32, x 33, x 34, x 35, x 36, x 37, x 38, x 39, x 40, x 41, x 42, x 43, x 44, x 45, x 46, x 47, x 48, x 49, x 50, x 51, x 52, x 53, x 54, x 55, x 56, x 57, x 58, x 59, x 60, x 61, x 62, x 63, x 64, x 65, x 66, .sl false 1 (ints ns), .int .i64 ns.length, .int .i64 i, x 70, x 71, x 72, x 73, x 74, x 75, x 76, x 77, x 78, x 79, x 80, x 81, x 82, x 83, x 84, x 85, x 86]
theorem lencodes_pc (hE : SZ E) (body : List UInt8) (ns : List Int) (ts : List Fld) (hb : body.length ≤ 1048576) (hn : ns.length ≤ 1048576) (ht : fsz ts + ts.length ≤ 1048576) (hr : ∀ z ∈ ns, -9223372036854775808 ≤ z ∧ z ≤ 9223372036854775807) (hQ : Q (.bool true) H) :
    PC Tryd.prog E 10 [.str body, .sl false 1 (ints ns), .sl false 2 (flds ts)] H Q := by
  have hm : ts.length ≤ maxLen ∧ ts.length * 32 ≤ 140737488355328 := by unfold maxLen; omega
  have hm1 : ts.length + 1 ≤ maxLen := by unfold maxLen; omega
  have hm2 : (ts.length + 1) * 32 ≤ 140737488355328 := by omega
  have hm3 : ns.length ≤ maxLen ∧ ns.length * 8 ≤ 140737488355328 := by unfold maxLen; omega
  have hm4 : ns.length + 1 ≤ maxLen := by unfold maxLen; omega
  have hm5 : (ns.length + 1) * 8 ≤ 140737488355328 := by omega
  have hsn : flds ts ++ [[AV.str [115, 112, 97, 114, 101], .str []]] = flds (ts ++ [⟨spareB, []⟩]) := flds_snoc ts ⟨spareB, []⟩
  have hsi : ints ns ++ [[AV.int .i64 77]] = ints (ns ++ [77]) := ints_snoc ns 77
  have ht1 : (flds (ts ++ [⟨spareB, []⟩])).take ts.length = flds ts := by simp [flds]
  have ht2 : (ints (ns ++ [77])).take ns.length = ints ns := by simp [ints]
  refine pc_enter Tryd.func10 rfl [17, 19, 23, 25, 60] [] (by kernel_rfl) (fun hB => ?_)
  simp [Tryd.ntmps10, Tryd.results10, List.replicate_succ]
  refine lawake_pc E _ _ hE.1 ?_
  simp [hm, hm1, hm2, hm3, hm4, hm5, hsn, hsi, ht1, ht2]
  refine encode_pc E _ _ hE body ns ts hb (by omega) (by omega) hr ?_
  simp
  refine plain_pc E _ _ ts (by omega) ?_
  simp
  refine dencode_pc E _ _ body ns ts hb (by omega) (by omega) hr ?_
  simp
  refine plainO_pc E _ _ ts (by omega) ?_
  simp [hm1, hm2, hsn]
  refine same_pc E _ _ (ts ++ [⟨spareB, []⟩]) (by simp; omega) ?_
  simp
  refine VL_go (lenInv ns H) (fun fr _ => ns.length - (ai (aget fr 69)).toNat) ⟨rfl, 0, by omega, fr_intro (by simp)⟩ ?_
  rintro fr H' ⟨rfl, i, hi, x, rfl⟩
  have hat77 : lat (ints (ns ++ [77])) ns.length = some [.int .i64 77] := ints_at (by simp)
  by_cases h : i < ns.length
  · obtain ⟨z, hz⟩ : ∃ z, ns[i]? = some z := ⟨_, List.getElem?_eq_getElem h⟩
    have hat := ints_at hz
    have hat2 : lat (ints (ns ++ [77])) i = some [.int .i64 z] := ints_at (by rw [List.getElem?_append_left h]; exact hz)
    have hw : IntKind.i64.wrap ((i : Int) + 1) = i + 1 := wrap_in (by omega) (by omega)
    simp [h, hat, hat2, hw]
    exact Kloop_normal ⟨rfl, i + 1, by omega, fr_intro (by simp)⟩ (by simp; omega)
  · simp [h, hat77]
    exact aPost_same0 hB rfl (nilV_refl _) (by simp) hQ
end
theorem cencodes_true (W : World) (s : ByteArray) (hs : s.size ≤ 1048576) (bo : Option Addr) (len cap : Nat) (rows : List (List AV)) (hr : Rel W (fun _ => 0) (old W) (.sl false 1 rows) (.slice bo len cap)) (hn : Bnd 0 (.sl false 1 rows))
    (hk : ∀ r ∈ rows, r.length = 1 ∧ ∀ (j : Nat) k y, ([.int .i64] : List CK)[j]? = some k → r[j]? = some y → KindOf k y) (e : rows.length = len) (hb : wtA rows.flatten + len ≤ 1048576)
    (bo2 : Option Addr) (len2 cap2 : Nat) (rows2 : List (List AV)) (hr2 : Rel W (fun _ => 0) (old W) (.sl false 2 rows2) (.slice bo2 len2 cap2)) (hn2 : Bnd 0 (.sl false 2 rows2))
    (hk2 : ∀ r ∈ rows2, r.length = 2 ∧ ∀ (j : Nat) k y, ([.str, .str] : List CK)[j]? = some k → r[j]? = some y → KindOf k y) (e2 : rows2.length = len2) (hb2 : wtA rows2.flatten + len2 ≤ 1048576) (hS : Signs W) (hT : Tz W) :
    Calls Tryd.prog 10 #[.string s, .slice bo len cap, .slice bo2 len2 cap2] W fun e w' => e = .returned (.bool true) ∧ Frm (fun _ => False) W w' := by
  obtain ⟨zs, rfl, hz⟩ := kind_int1 hk
  obtain ⟨ts, rfl, ht⟩ := flds_of_rows rows2 hk2
  refine calls_sz (args := [.str s.data.toList, .sl false 1 (ints zs), .sl false 2 (flds ts)]) hS hT rfl (fun t x u hx hu => ?_) (fun E Q hE h => lencodes_pc E [] Q hE s.data.toList zs ts (by rw [size_toList]; omega) (by simp at e; omega) (by simp at e2; omega) hz h)
  match t with
  | 0 => simp at hx hu; subst hx; subst hu; exact rel_stringW W s hs
  | 1 => simp at hx hu; subst hx; subst hu; exact ⟨hr, hn, rfl⟩
  | 2 => simp at hx hu; subst hx; subst hu; exact ⟨hr2, hn2, rfl⟩
  | t + 3 => simp at hx
end Go.Proofs.YtimhofphmgehgaaDoor
