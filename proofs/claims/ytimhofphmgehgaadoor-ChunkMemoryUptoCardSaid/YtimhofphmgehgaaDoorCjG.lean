/- The chunk layer's printer: Encode. -/
import Derived.Test.YtimhofphmgehgaaDoorCjF
set_option linter.unusedVariables false
set_option linter.unnecessarySimpa false
set_option linter.unusedSimpArgs false
set_option linter.unusedSectionVars false
set_option maxRecDepth 100000
namespace Go.Proofs.YtimhofphmgehgaaDoor
open Go Go.RowKit Go.Proofs

theorem chop_u8 (out : List UInt8) (tail : List AV) : chop 1 out.length (u8L out ++ tail) = bts out := by
  rw [chop_one _ _ (by simp), List.take_append_of_le_length (by simp), List.take_of_length_le (by simp)]
  unfold u8L bts
  rw [List.map_map]
  rfl
theorem piecesB_cons {b : List UInt8} (h : b ≠ []) (n : Int) (ns : List Int) : piecesB b (n :: ns) = b.take n.toNat :: piecesB (b.drop n.toNat) ns := by rw [piecesB, if_neg h]
theorem piecesB_last {b : List UInt8} (h : b ≠ []) : piecesB b [] = [b] := by rw [piecesB, if_neg h]
theorem chunksT_cons (p : List UInt8) (ps : List (List UInt8)) : chunksT (p :: ps) = chunkT p ++ chunksT ps := by simp [chunksT]
section
variable (E : Env) (H : Hp) (Q : AV → Hp → Prop)
def encInv1 (body : List UInt8) (ns : List Int) (ts : List Fld) (H : Hp) (fr : List AV) (H' : Hp) : Prop := H' = H ∧ ∃ i : Nat, i ≤ ns.length ∧ okSizes (ns.take i) = true ∧
  ∃ x : Nat → AV, fr = [.str body, .sl false 1 (ints ns), .sl false 2 (flds ts), x 3, x 4, x 5, x 6, x 7, x 8, x 9, x 10, x 11, x 12, x 13, x 14, x 15, x 16, x 17, .sl false 1 (ints ns), .int .i64 ns.length, .int .i64 i, x 21, x 22, x 23, x 24, x 25, x 26, x 27, x 28, x 29, x 30, x 31, x 32, x 33, x 34, x 35, x 36, x 37, x 38, x 39, x 40, x 41, x 42, x 43, x 44, x 45, x 46, x 47, x 48, x 49, x 50, x 51, x 52, x 53, x 54, x 55, x 56, x 57, x 58, x 59, x 60, x 61, x 62, x 63, x 64, x 65, x 66, x 67, x 68, x 69, x 70, x 71, x 72, x 73, x 74, x 75, x 76, x 77, x 78, x 79, x 80, x 81, x 82]
def encInv2 (body : List UInt8) (ns : List Int) (ts : List Fld) (H : Hp) (fr : List AV) (H' : Hp) : Prop := ∃ (J2 : Hp) (i : Nat), i ≤ ts.length ∧ H' = H ++ ([.bl TB, .bf TU (linesT (ts.take i))] :: J2) ∧ (∀ l ∈ J2, ∀ x ∈ l, ∃ s, x = .str s) ∧ (ts.take i).all rightB = true ∧
  ∃ x : Nat → AV, fr = [.str body, .sl false 1 (ints ns), x 2, x 3, x 4, x 5, x 6, x 7, x 8, x 9, .ptr (some (H.length, 0)), x 11, x 12, x 13, x 14, x 15, x 16, x 17, x 18, x 19, x 20, x 21, x 22, x 23, x 24, x 25, x 26, .sl false 2 (flds ts), .int .i64 ts.length, .int .i64 i, x 30, x 31, x 32, x 33, x 34, x 35, x 36, x 37, x 38, x 39, x 40, x 41, x 42, x 43, x 44, x 45, x 46, x 47, x 48, x 49, x 50, x 51, x 52, x 53, x 54, x 55, x 56, x 57, x 58, x 59, x 60, x 61, x 62, x 63, x 64, x 65, x 66, x 67, x 68, x 69, x 70, x 71, x 72, x 73, x 74, x 75, x 76, x 77, x 78, x 79, x 80, x 81, x 82]
def encInv3 (body : List UInt8) (ns : List Int) (H0 : Hp) (hn : Nat) (fr : List AV) (H' : Hp) : Prop := ∃ (i : Nat) (b out : List UInt8) (v : AV), i ≤ ns.length ∧ OutAt H0 v out H' ∧ out ++ chunksT (piecesB b (ns.drop i)) = chunksT (piecesB body ns) ∧ b.length ≤ body.length ∧
  ∃ x : Nat → AV, fr = [.str b, x 1, x 2, x 3, x 4, x 5, x 6, x 7, x 8, x 9, .ptr (some (hn, 0)), x 11, x 12, x 13, x 14, v, x 16, x 17, x 18, x 19, x 20, x 21, x 22, x 23, x 24, x 25, x 26, x 27, x 28, x 29, x 30, x 31, x 32, x 33, x 34, x 35, x 36, x 37, x 38, x 39, x 40, x 41, x 42, x 43, x 44, x 45, x 46, x 47, x 48, x 49, .sl false 1 (ints ns), .int .i64 ns.length, .int .i64 i, x 53, x 54, x 55, x 56, x 57, x 58, x 59, x 60, x 61, x 62, x 63, x 64, x 65, x 66, x 67, x 68, x 69, x 70, x 71, x 72, x 73, x 74, x 75, x 76, x 77, x 78, x 79, x 80, x 81, x 82]
theorem outAt_free {H0 : Hp} {v : AV} {out : List UInt8} {H : Hp} (h : OutAt H0 v out H) : v.free = true ∧ v.dis = v := by
  obtain ⟨J, _, _, ⟨rfl, _⟩ | ⟨J1, tail, _, rfl, _⟩⟩ := h <;> exact ⟨rfl, rfl⟩
set_option maxHeartbeats 4000000 in
theorem encode_pc (hE : SZ E) (body : List UInt8) (ns : List Int) (ts : List Fld) (hb : body.length ≤ 1048576) (hn : ns.length ≤ 1048577) (ht : fsz ts + ts.length ≤ 1048577) (hr : ∀ z ∈ ns, -9223372036854775808 ≤ z ∧ z ≤ 9223372036854775807)
    (hQ : Q (.tup [.str (encAns body ns ts).1, .int .i64 (encAns body ns ts).2]) H) : PC Tryd.prog E 38 [.str body, .sl false 1 (ints ns), .sl false 2 (flds ts)] H Q := by
  refine pc_enterZ Tryd.func38 rfl [] [(7, [3]), (27, [5, H.length])] (by kernel_rfl) (fun id m hm => ?_) (fun hB => ?_)
  · unfold ndOf at hm
    split at hm
    · cases hm
    · unfold ndOf at hm
      split at hm
      · cases hm; exact Nat.le_refl _
      · cases hm
  simp [Tryd.ntmps38, Tryd.results38, List.replicate_succ]
  refine VL_go (encInv1 body ns ts H) (fun fr _ => ns.length - (ai (aget fr 20)).toNat) ⟨rfl, 0, by omega, rfl, fr_intro (by simp)⟩ ?_
  rintro fr H' ⟨rfl, i, hi, hall, x, rfl⟩
  by_cases h : i < ns.length
  · obtain ⟨z, hz⟩ : ∃ z, ns[i]? = some z := ⟨_, List.getElem?_eq_getElem h⟩
    have hat := ints_at hz
    have hw : IntKind.i64.wrap ((i : Int) + 1) = i + 1 := wrap_in (by omega) (by omega)
    have hst : okSizes (ns.take (i + 1)) = (okSizes (ns.take i) && decide (1 ≤ z)) := by
      unfold okSizes
      rw [List.take_add_one, hz, List.all_append]; simp
    by_cases hz1 : z < 1
    · have e : encAns body ns ts = ([], 1) := by
        unfold encAns
        rw [if_pos]
        unfold okSizes
        rw [List.all_eq_false]
        exact ⟨z, List.mem_of_getElem? hz, by simp; omega⟩
      rw [e] at hQ
      simp [h, hat, hz1]
      exact aPost_same0 hB rfl (nilV_refl _) (by simp) hQ
    · simp [h, hat, hz1, hw]
      exact Kloop_normal ⟨rfl, i + 1, by omega, by rw [hst, hall]; simp; omega, fr_intro (by simp)⟩ (by simp; omega)
  obtain rfl : i = ns.length := by omega
  rw [List.take_of_length_le (Nat.le_refl _)] at hall
  have hns : ∀ z ∈ ns, 1 ≤ z := fun z hz => by have := List.all_eq_true.1 hall z hz; simpa using this
  clear hi h
  simp
  refine VL_go (encInv2 body ns ts H') (fun fr _ => ts.length - (ai (aget fr 29)).toNat) ⟨[], 0, by omega, by simp [linesT], by simp, by simp, fr_intro (by simp)⟩ ?_
  rintro fr H2 ⟨J2, i, hi, rfl, hJ2, hts, x, rfl⟩
  have hlin := linesT_le (ts.take i)
  have hsz := fsz_take ts i
  rw [List.length_take] at hlin
  by_cases h : i < ts.length
  · obtain ⟨f, hf⟩ : ∃ f, ts[i]? = some f := ⟨_, List.getElem?_eq_getElem h⟩
    have hat := flds_at hf
    have hfm := fsz_mem hf
    have hw : IntKind.i64.wrap ((i : Int) + 1) = i + 1 := wrap_in (by omega) (by omega)
    have hstop : rightB f = false → encAns body ns ts = ([], 101) := fun hr => by
      unfold encAns
      rw [if_neg (by rw [hall]; simp), if_pos]
      rw [List.all_eq_false]
      exact ⟨f, List.mem_of_getElem? hf, by rw [hr]; simp⟩
    simp [h, hat]
    refine printLine_pc E _ _ hE.1 f (by omega) (by omega) ?_
    cases hnm : nameB f.name with
    | false =>
      have e : lineP f = ([], 60) := by unfold lineP; rw [if_pos hnm]
      have hq := hstop (by unfold rightB mayB; rw [hnm]; simp)
      rw [hq] at hQ
      simp [e]
      exact aPost_same hB rfl (nilV_refl _) (by simp) hQ
    | true =>
    cases hvl : valueB f.value with
    | false =>
      have e : lineP f = ([], 61) := by unfold lineP; rw [if_neg (by rw [hnm]; simp), if_pos hvl]
      have hq := hstop (by unfold rightB; rw [hvl]; simp)
      rw [hq] at hQ
      simp [e]
      exact aPost_same hB rfl (nilV_refl _) (by simp) hQ
    | true =>
    have e : lineP f = (lineT f, 0) := by unfold lineP; rw [if_neg (by rw [hnm]; simp), if_neg (by rw [hvl]; simp)]
    have hlt := lineT_le f
    simp [e]
    refine mayTrail_pc E _ _ hE.1 f.name (by simp only [cap]; omega) ?_
    cases hmy : mayB f.name with
    | false =>
      have hq := hstop (by unfold rightB; rw [hmy]; simp)
      rw [hq] at hQ
      simp
      exact aPost_same hB rfl (nilV_refl _) (by simp) hQ
    | true =>
    have hrt : rightB f = true := by unfold rightB; rw [hmy, hvl]; rfl
    have m1 : (lineT f).length + 1 + 1 ≤ maxLen := by unfold maxLen; omega
    have m2 : (lineT f).length + 2 ≤ maxLen := by unfold maxLen; omega
    simp [m1, m2]
    refine wstr_pc E _ _ H'.length (linesT (ts.take i)) (lineT f ++ [13, 10]) (by simp) (by simp; omega) ?_
    rw [← linesT_step ts i f hf]
    simp [hw]
    refine Kloop_normal ⟨J2 ++ [[.str f.name, .str f.value]], i + 1, by omega, by simp, fun l hl y hy => ?_, ?_, fr_intro (by simp)⟩ (by simp; omega)
    · rcases List.mem_append.1 hl with h | h
      · exact hJ2 l h y hy
      · simp at h; subst h; simp at hy; rcases hy with rfl | rfl <;> exact ⟨_, rfl⟩
    · rw [all_step rightB ts i f hf, hts, hrt]; rfl
  obtain rfl : i = ts.length := by omega
  rw [List.take_of_length_le (Nat.le_refl _)] at hts hlin ⊢
  have he : encAns body ns ts = (encT (piecesB body ns) ts, 0) := by
    unfold encAns
    rw [if_neg (by rw [hall]; simp), if_neg (by rw [hts]; simp)]
  rw [he] at hQ
  simp only at hQ
  clear hi h he hall hts
  obtain ⟨H0, hH0⟩ : ∃ H0, H' ++ ([.bl TB, .bf TU (linesT ts)] :: J2) = H0 := ⟨_, rfl⟩
  have hbl : ∀ J : Hp, (H0 ++ J)[H'.length]? = some [.bl TB, .bf TU (linesT ts)] := fun J => by rw [← hH0]; simp
  have hlH : H'.length < H0.length := by rw [← hH0]; simp
  have hBH : ∀ N, H0.length ≤ N → ∀ l ∈ H0, ∀ y ∈ l, Bnd N y := fun N hN l hl y hy => by
    rw [← hH0] at hl
    rcases List.mem_append.1 hl with h | h
    · exact (hB l h y hy).mono (by omega)
    · rcases List.mem_cons.1 h with rfl | h
      · simp at hy; rcases hy with rfl | rfl
        · exact .bl _
        · exact .bf _ _
      · obtain ⟨s, rfl⟩ := hJ2 l h y hy; exact .str _
  have hpf : (piecesB body ns).flatten = body := pieces_flat ns body
  have htot := chunksT_le (piecesB body ns) (pieces_ne ns body hns) (by rw [hpf]; omega)
  rw [hpf] at htot
  rw [hH0]
  simp
  refine VL_go (encInv3 body ns H0 H'.length) (fun fr _ => ns.length - (ai (aget fr 52)).toNat) ⟨0, body, [], .nil, by omega, ⟨[], by simp, by simp, .inl ⟨rfl, rfl⟩⟩, by simp, by omega, fr_intro (by simp)⟩ ?_
  rintro fr H3 ⟨i, b, out, v, hi, hO, hsum, hbl2, x, rfl⟩
  have hol : out.length ≤ 16 * body.length := by
    have := congrArg List.length hsum
    rw [List.length_append] at this
    omega
  obtain ⟨hvf, hvd⟩ := outAt_free hO
  by_cases h : i < ns.length
  · obtain ⟨z, hz⟩ : ∃ z, ns[i]? = some z := ⟨_, List.getElem?_eq_getElem h⟩
    have hat := ints_at hz
    have hz1 := hns z (List.mem_of_getElem? hz)
    have hw : IntKind.i64.wrap ((i : Int) + 1) = i + 1 := wrap_in (by omega) (by omega)
    have hdrop : ns.drop i = z :: ns.drop (i + 1) := by rw [List.drop_eq_getElem_cons h]; simp [(List.getElem?_eq_some_iff.1 hz).2]
    rw [hdrop] at hsum
    by_cases hb0 : b = []
    · subst hb0
      simp [h, hat, hw]
      exact Kloop_normal ⟨i + 1, [], out, v, by omega, hO, by rw [← hsum, pieces_nil, pieces_nil], by simp, fr_intro (by simp)⟩ (by simp; omega)
    · have hb1 : (b != []) = true := by simpa using hb0
      obtain ⟨m, hm⟩ : ∃ m : Nat, (if (b.length : Int) < z then (b.length : Int) else z) = m := ⟨(if (b.length : Int) < z then (b.length : Int) else z).toNat, by split <;> omega⟩
      have hml : m ≤ b.length := by split at hm <;> omega
      have htk : b.take m = b.take z.toNat := by
        split at hm
        · rw [List.take_of_length_le (by omega), List.take_of_length_le (by omega)]
        · rw [show m = z.toNat by omega]
      have hdk : b.drop m = b.drop z.toNat := by
        split at hm
        · rw [List.drop_of_length_le (by omega), List.drop_of_length_le (by omega)]
        · rw [show m = z.toNat by omega]
      have hsum2 : (out ++ chunkT (b.take m)) ++ chunksT (piecesB (b.drop m) (ns.drop (i + 1))) = chunksT (piecesB body ns) := by
        rw [← hsum, htk, hdk, piecesB_cons hb0, chunksT_cons, List.append_assoc]
      simp [h, hat, hb1, hm, hml, hvd]
      refine put_pc E _ _ hE H0 v out (b.take m) hO (by rw [List.length_take]; omega) (by omega) (fun v' H4 hO' => ?_)
      obtain ⟨hvf', hvd'⟩ := outAt_free hO'
      have htl : (b.drop m).take (b.length - m) = b.drop m := List.take_of_length_le (by rw [List.length_drop]; omega)
      simp [hml, hvd', hw, htl]
      exact Kloop_normal ⟨i + 1, b.drop m, out ++ chunkT (b.take m), v', by omega, hO', hsum2, by rw [List.length_drop]; omega, fr_intro (by simp)⟩ (by simp; omega)
  obtain rfl : i = ns.length := by omega
  rw [List.drop_of_length_le (Nat.le_refl _)] at hsum
  simp
  have fin : ∀ (x : Nat → AV) (b : List UInt8) (v : AV) (H4 : Hp), OutAt H0 v (chunksT (piecesB body ns)) H4 → vc Tryd.prog E [] [(7, [3]), (27, [5, H'.length])] (Code.skip) (fun _ _ _ => True) [] [] := fun _ _ _ _ _ => trivial
  have hm1 : (chunksT (piecesB body ns)).length + 1 ≤ maxLen := by unfold maxLen; omega
  have hm2 : (chunksT (piecesB body ns)).length + 1 + 2 ≤ maxLen := by unfold maxLen; omega
  have hm3 : (chunksT (piecesB body ns)).length + 1 + 2 + (linesT ts).length ≤ maxLen := by unfold maxLen; omega
  have hm4 : (chunksT (piecesB body ns)).length + 1 + 2 + (linesT ts).length + 2 ≤ maxLen := by unfold maxLen; omega
  clear fin
  by_cases hb0 : b = []
  case' pos =>
    subst hb0
    rw [pieces_nil] at hsum
    have hO2 : OutAt H0 v (chunksT (piecesB body ns)) H3 := by
      have : out = chunksT (piecesB body ns) := by rw [← hsum]; simp [chunksT]
      rw [← this]; exact hO
    simp
    clear hO hsum hol hi hbl2
  case' neg =>
    have hb1 : (b != []) = true := by simpa using hb0
    simp [hb1, hvd]
    refine put_pc E _ _ hE H0 v out b hO (by omega) (by omega) (fun v' H4 hO' => ?_)
    obtain ⟨hvf', hvd'⟩ := outAt_free hO'
    have hO2 : OutAt H0 v' (chunksT (piecesB body ns)) H4 := by
      have : out ++ chunkT b = chunksT (piecesB body ns) := by rw [← hsum, piecesB_last hb0, chunksT_cons]; simp [chunksT]
      rw [← this]; exact hO'
    simp [hvd']
    clear hO hO' hsum hol hi hbl2 hvf hvd hb0 hb1 hvf' hvd'
  all_goals
    obtain ⟨J, rfl, hJ, ⟨rfl, hnil⟩ | ⟨J1, tail, rfl, rfl, htl⟩⟩ := hO2
    · refine VFz_skip ?_
      rw [hnil] at hm1 hm2 hm3 hm4
      simp at hm1 hm2 hm3 hm4
      simp [hm1, hm2]
      refine bstr_pc E _ _ H'.length (linesT ts) (hbl J) (by omega) ?_
      have n1 : (linesT ts).length + 1 + 1 + 1 + 2 ≤ maxLen := by unfold maxLen; omega
      simp [hm3, hm4, n1]
      rw [← hH0, List.append_assoc]
      have e : encT (piecesB body ns) ts = 48 :: 13 :: 10 :: (linesT ts ++ [13, 10]) := by unfold encT; rw [hnil]; rfl
      rw [e] at hQ
      exact aPost_same hB (by simp) (nilV_refl _) (by simp) hQ
    · refine VFz_intro [10, 15] (H0 ++ J1) (u8L (chunksT (piecesB body ns)) ++ tail) (by simp) (by simp; omega) ?_ ?_ ?_
      · intro l' hl' y hy
        rcases List.mem_append.1 hl' with h | h
        · exact hBH _ (by simp) l' h y hy
        · obtain ⟨z, rfl⟩ := hJ l' (List.mem_append_left _ h) y hy; exact .int _ _
      · intro t ht y hy
        simp at ht
        rcases ht with rfl | rfl
        · simp at hy; subst hy; exact .ptr _ _ (by simp; omega)
        · simp at hy; subst hy
          refine .inr ⟨by simp, by omega, by simp, fun y hy => ?_⟩
          obtain ⟨z, rfl⟩ := hJ (u8L (chunksT (piecesB body ns)) ++ tail) (by simp) y (List.mem_of_mem_drop (List.mem_of_mem_take hy))
          exact ⟨rfl, .int _ _⟩
      · intro y
        simp [fmapK, frz, chop_u8, hm1, hm2]
        refine bstr_pc E _ _ H'.length (linesT ts) (hbl J1) (by omega) ?_
        have n1 : (chunksT (piecesB body ns)).length + ((linesT ts).length + 1 + 1 + 1) + 2 ≤ maxLen := by unfold maxLen; omega
        have n2 : (chunksT (piecesB body ns)).length + ((linesT ts).length + 1 + 1 + 1) ≤ maxLen := by unfold maxLen; omega
        simp [hm3, hm4, n1, n2]
        rw [← hH0, List.append_assoc]
        have e : encT (piecesB body ns) ts = chunksT (piecesB body ns) ++ 48 :: 13 :: 10 :: (linesT ts ++ [13, 10]) := by unfold encT; simp
        rw [e] at hQ
        exact aPost_same hB (by simp) (nilV_refl _) (by simp) hQ
end
end Go.Proofs.YtimhofphmgehgaaDoor
