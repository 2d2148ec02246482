/- Part 8 of the texts below the law: the abstract machine, the functions that it walks, what they compute. -/
import Derived.Test.YtcdkcaocfioigaaGreatDoorPf7
import Derived.Lib.ItoaLen
import Derived.Stop.LaidErr
set_option linter.unusedVariables false
set_option linter.unnecessarySimpa false
set_option linter.unusedSimpArgs false
set_option linter.unusedSectionVars false
set_option maxRecDepth 100000
namespace Go.Proofs.YtcdkcaocfioigaaGreatDoor
open Go Go.RowKit Go.Proofs

theorem chop_u8 (out : List UInt8) (tail : List AV) : chop 1 out.length (u8L out ++ tail) = bts out := by
  rw [chop_one _ _ (by simp), List.take_append_of_le_length (by simp), List.take_of_length_le (by simp)]
  unfold u8L bts
  rw [List.map_map]
  rfl
theorem piecesB_cons {b : List UInt8} (h : b ≠ []) (n : Int) (ns : List Int) : piecesB b (n :: ns) = b.take n.toNat :: piecesB (b.drop n.toNat) ns := by rw [piecesB, if_neg h]
theorem piecesB_last {b : List UInt8} (h : b ≠ []) : piecesB b [] = [b] := by rw [piecesB, if_neg h]
theorem chunksT_cons (p : List UInt8) (ps : List (List UInt8)) : chunksT (p :: ps) = chunkT p ++ chunksT ps := by simp [chunksT]
section
variable (E : Env) (H : Hp) (Q : AV → Hp → Prop)
def encInv1 (body : List UInt8) (ns : List Int) (ts : List Fld) (H : Hp) (fr : List AV) (H' : Hp) : Prop := H' = H ∧ ∃ i : Nat, i ≤ ns.length ∧ okSizes (ns.take i) = true ∧
  ∃ x : Nat → AV, fr = [.str body, .sl false 1 (ints ns), .sl false 2 (flds ts), x 3, x 4, x 5, x 6, x 7, x 8, x 9, x 10, x 11, x 12, x 13, x 14, x 15, x 16, x 17, .sl false 1 (ints ns), .int .i64 ns.length, .int .i64 i, x 21, x 22, x 23, x 24, x 25, x 26, x 27, x 28, x 29, x 30, x 31, x 32, x 33, x 34, x 35, x 36, x 37, x 38, x 39, x 40, x 41, x 42, x 43, x 44, x 45, x 46, x 47, x 48, x 49, x 50, x 51, x 52, x 53, x 54, x 55, x 56, x 57, x 58, x 59, x 60, x 61, x 62, x 63, x 64, x 65, x 66, x 67, x 68, x 69, x 70, x 71, x 72, x 73, x 74, x 75, x 76, x 77, x 78, x 79, x 80, x 81, x 82]
def encInv2 (body : List UInt8) (ns : List Int) (ts : List Fld) (H : Hp) (fr : List AV) (H' : Hp) : Prop := ∃ (J2 : Hp) (i : Nat), i ≤ ts.length ∧ H' = H ++ ([.bl TB, .bf TU (linesT (ts.take i))] :: J2) ∧ (∀ l ∈ J2, ∀ x ∈ l, ∃ s, x = .str s) ∧ (ts.take i).all rightB = true ∧
  ∃ x : Nat → AV, fr = [.str body, .sl false 1 (ints ns), x 2, x 3, x 4, x 5, x 6, x 7, x 8, x 9, .ptr (some (H.length, 0)), x 11, x 12, x 13, x 14, x 15, x 16, x 17, x 18, x 19, x 20, x 21, x 22, x 23, x 24, x 25, x 26, .sl false 2 (flds ts), .int .i64 ts.length, .int .i64 i, x 30, x 31, x 32, x 33, x 34, x 35, x 36, x 37, x 38, x 39, x 40, x 41, x 42, x 43, x 44, x 45, x 46, x 47, x 48, x 49, x 50, x 51, x 52, x 53, x 54, x 55, x 56, x 57, x 58, x 59, x 60, x 61, x 62, x 63, x 64, x 65, x 66, x 67, x 68, x 69, x 70, x 71, x 72, x 73, x 74, x 75, x 76, x 77, x 78, x 79, x 80, x 81, x 82]
def encInv3 (body : List UInt8) (ns : List Int) (H0 : Hp) (hn : Nat) (fr : List AV) (H' : Hp) : Prop := ∃ (i : Nat) (b out : List UInt8) (v : AV), i ≤ ns.length ∧ OutAt H0 v out H' ∧ out ++ chunksT (piecesB b (ns.drop i)) = chunksT (piecesB body ns) ∧ b.length ≤ body.length ∧
  ∃ x : Nat → AV, fr = [.str b, x 1, x 2, x 3, x 4, x 5, x 6, x 7, x 8, x 9, .ptr (some (hn, 0)), x 11, x 12, x 13, x 14, v, x 16, x 17, x 18, x 19, x 20, x 21, x 22, x 23, x 24, x 25, x 26, x 27, x 28, x 29, x 30, x 31, x 32, x 33, x 34, x 35, x 36, x 37, x 38, x 39, x 40, x 41, x 42, x 43, x 44, x 45, x 46, x 47, x 48, x 49, .sl false 1 (ints ns), .int .i64 ns.length, .int .i64 i, x 53, x 54, x 55, x 56, x 57, x 58, x 59, x 60, x 61, x 62, x 63, x 64, x 65, x 66, x 67, x 68, x 69, x 70, x 71, x 72, x 73, x 74, x 75, x 76, x 77, x 78, x 79, x 80, x 81, x 82]
theorem outAt_free {H0 : Hp} {v : AV} {out : List UInt8} {H : Hp} (h : OutAt H0 v out H) : v.free = true ∧ v.dis = v := by
  obtain ⟨J, _, _, ⟨rfl, _⟩ | ⟨J1, tail, _, rfl, _⟩⟩ := h <;> exact ⟨rfl, rfl⟩
set_option maxHeartbeats 4000000 in
theorem encode_pc (hE : SZ E) (body : List UInt8) (ns : List Int) (ts : List Fld) (hb : body.length ≤ 1048576) (hn : ns.length ≤ 1048577) (ht : fsz ts + ts.length ≤ 1048577) (hr : ∀ z ∈ ns, -9223372036854775808 ≤ z ∧ z ≤ 9223372036854775807)
    (hQ : Q (.tup [.str (encAns body ns ts).1, .int .i64 (encAns body ns ts).2]) H) : PC Tryz.prog E 54 [.str body, .sl false 1 (ints ns), .sl false 2 (flds ts)] H Q := by
  refine pc_enterZ Tryz.func54 rfl [] [(7, [3]), (27, [5, H.length])] (by kernel_rfl) (fun id m hm => ?_) (fun hB => ?_)
  · unfold ndOf at hm
    split at hm
    · cases hm
    · unfold ndOf at hm
      split at hm
      · cases hm; exact Nat.le_refl _
      · cases hm
  simp [Tryz.ntmps54, Tryz.results54, List.replicate_succ]
  refine VL_go (encInv1 body ns ts H) (fun fr _ => ns.length - (ai (aget fr 20)).toNat) ⟨rfl, 0, by omega, rfl, fr_intro (by simp)⟩ ?_
  rintro fr H' ⟨rfl, i, hi, hall, x, rfl⟩
  by_cases h : i < ns.length
  · obtain ⟨z, hz⟩ : ∃ z, ns[i]? = some z := ⟨_, List.getElem?_eq_getElem h⟩
    have hat := ints_at hz
    have hw : IntKind.i64.wrap ((i : Int) + 1) = i + 1 := wrap_in (by omega) (by omega)
    have hst : okSizes (ns.take (i + 1)) = (okSizes (ns.take i) && decide (1 ≤ z)) := by
      unfold okSizes
      rw [List.take_add_one, hz, List.all_append]; simp
    by_cases hz1 : z < 1
    · have e : encAns body ns ts = ([], 1) := by
        unfold encAns
        rw [if_pos]
        unfold okSizes
        rw [List.all_eq_false]
        exact ⟨z, List.mem_of_getElem? hz, by simp; omega⟩
      rw [e] at hQ
      simp [h, hat, hz1]
      exact aPost_same0 hB rfl (nilV_refl _) (by simp) hQ
    · simp [h, hat, hz1, hw]
      exact Kloop_normal ⟨rfl, i + 1, by omega, by rw [hst, hall]; simp; omega, fr_intro (by simp)⟩ (by simp; omega)
  obtain rfl : i = ns.length := by omega
  rw [List.take_of_length_le (Nat.le_refl _)] at hall
  have hns : ∀ z ∈ ns, 1 ≤ z := fun z hz => by have := List.all_eq_true.1 hall z hz; simpa using this
  clear hi h
  simp
  refine VL_go (encInv2 body ns ts H') (fun fr _ => ts.length - (ai (aget fr 29)).toNat) ⟨[], 0, by omega, by simp [linesT], by simp, by simp, fr_intro (by simp)⟩ ?_
  rintro fr H2 ⟨J2, i, hi, rfl, hJ2, hts, x, rfl⟩
  have hlin := linesT_le (ts.take i)
  have hsz := fsz_take ts i
  rw [List.length_take] at hlin
  by_cases h : i < ts.length
  · obtain ⟨f, hf⟩ : ∃ f, ts[i]? = some f := ⟨_, List.getElem?_eq_getElem h⟩
    have hat := flds_at hf
    have hfm := fsz_mem hf
    have hw : IntKind.i64.wrap ((i : Int) + 1) = i + 1 := wrap_in (by omega) (by omega)
    have hstop : rightB f = false → encAns body ns ts = ([], 101) := fun hr => by
      unfold encAns
      rw [if_neg (by rw [hall]; simp), if_pos]
      rw [List.all_eq_false]
      exact ⟨f, List.mem_of_getElem? hf, by rw [hr]; simp⟩
    simp [h, hat]
    refine printLine_pc E _ _ hE.1 f (by omega) (by omega) ?_
    cases hnm : nameB f.name with
    | false =>
      have e : lineP f = ([], 60) := by unfold lineP; rw [if_pos hnm]
      have hq := hstop (by unfold rightB mayB; rw [hnm]; simp)
      rw [hq] at hQ
      simp [e]
      exact aPost_same hB rfl (nilV_refl _) (by simp) hQ
    | true =>
    cases hvl : valueB f.value with
    | false =>
      have e : lineP f = ([], 61) := by unfold lineP; rw [if_neg (by rw [hnm]; simp), if_pos hvl]
      have hq := hstop (by unfold rightB; rw [hvl]; simp)
      rw [hq] at hQ
      simp [e]
      exact aPost_same hB rfl (nilV_refl _) (by simp) hQ
    | true =>
    have e : lineP f = (lineT f, 0) := by unfold lineP; rw [if_neg (by rw [hnm]; simp), if_neg (by rw [hvl]; simp)]
    have hlt := lineT_le f
    simp [e]
    refine mayTrail_pc E _ _ hE.1 f.name (by simp only [cap]; omega) ?_
    cases hmy : mayB f.name with
    | false =>
      have hq := hstop (by unfold rightB; rw [hmy]; simp)
      rw [hq] at hQ
      simp
      exact aPost_same hB rfl (nilV_refl _) (by simp) hQ
    | true =>
    have hrt : rightB f = true := by unfold rightB; rw [hmy, hvl]; rfl
    have m1 : (lineT f).length + 1 + 1 ≤ maxLen := by unfold maxLen; omega
    have m2 : (lineT f).length + 2 ≤ maxLen := by unfold maxLen; omega
    simp [m1, m2]
    refine wstr_pc E _ _ H'.length (linesT (ts.take i)) (lineT f ++ [13, 10]) (by simp) (by simp; omega) ?_
    rw [← linesT_step ts i f hf]
    simp [hw]
    refine Kloop_normal ⟨J2 ++ [[.str f.name, .str f.value]], i + 1, by omega, by simp, fun l hl y hy => ?_, ?_, fr_intro (by simp)⟩ (by simp; omega)
    · rcases List.mem_append.1 hl with h | h
      · exact hJ2 l h y hy
      · simp at h; subst h; simp at hy; rcases hy with rfl | rfl <;> exact ⟨_, rfl⟩
    · rw [all_step rightB ts i f hf, hts, hrt]; rfl
  obtain rfl : i = ts.length := by omega
  rw [List.take_of_length_le (Nat.le_refl _)] at hts hlin ⊢
  have he : encAns body ns ts = (encT (piecesB body ns) ts, 0) := by
    unfold encAns
    rw [if_neg (by rw [hall]; simp), if_neg (by rw [hts]; simp)]
  rw [he] at hQ
  simp only at hQ
  clear hi h he hall hts
  obtain ⟨H0, hH0⟩ : ∃ H0, H' ++ ([.bl TB, .bf TU (linesT ts)] :: J2) = H0 := ⟨_, rfl⟩
  have hbl : ∀ J : Hp, (H0 ++ J)[H'.length]? = some [.bl TB, .bf TU (linesT ts)] := fun J => by rw [← hH0]; simp
  have hlH : H'.length < H0.length := by rw [← hH0]; simp
  have hBH : ∀ N, H0.length ≤ N → ∀ l ∈ H0, ∀ y ∈ l, Bnd N y := fun N hN l hl y hy => by
    rw [← hH0] at hl
    rcases List.mem_append.1 hl with h | h
    · exact (hB l h y hy).mono (by omega)
    · rcases List.mem_cons.1 h with rfl | h
      · simp at hy; rcases hy with rfl | rfl
        · exact .bl _
        · exact .bf _ _
      · obtain ⟨s, rfl⟩ := hJ2 l h y hy; exact .str _
  have hpf : (piecesB body ns).flatten = body := pieces_flat ns body
  have htot := chunksT_le (piecesB body ns) (pieces_ne ns body hns) (by rw [hpf]; omega)
  rw [hpf] at htot
  rw [hH0]
  simp
  refine VL_go (encInv3 body ns H0 H'.length) (fun fr _ => ns.length - (ai (aget fr 52)).toNat) ⟨0, body, [], .nil, by omega, ⟨[], by simp, by simp, .inl ⟨rfl, rfl⟩⟩, by simp, by omega, fr_intro (by simp)⟩ ?_
  rintro fr H3 ⟨i, b, out, v, hi, hO, hsum, hbl2, x, rfl⟩
  have hol : out.length ≤ 16 * body.length := by
    have := congrArg List.length hsum
    rw [List.length_append] at this
    omega
  obtain ⟨hvf, hvd⟩ := outAt_free hO
  by_cases h : i < ns.length
  · obtain ⟨z, hz⟩ : ∃ z, ns[i]? = some z := ⟨_, List.getElem?_eq_getElem h⟩
    have hat := ints_at hz
    have hz1 := hns z (List.mem_of_getElem? hz)
    have hw : IntKind.i64.wrap ((i : Int) + 1) = i + 1 := wrap_in (by omega) (by omega)
    have hdrop : ns.drop i = z :: ns.drop (i + 1) := by rw [List.drop_eq_getElem_cons h]; simp [(List.getElem?_eq_some_iff.1 hz).2]
    rw [hdrop] at hsum
    by_cases hb0 : b = []
    · subst hb0
      simp [h, hat, hw]
      exact Kloop_normal ⟨i + 1, [], out, v, by omega, hO, by rw [← hsum, pieces_nil, pieces_nil], by simp, fr_intro (by simp)⟩ (by simp; omega)
    · have hb1 : (b != []) = true := by simpa using hb0
      obtain ⟨m, hm⟩ : ∃ m : Nat, (if (b.length : Int) < z then (b.length : Int) else z) = m := ⟨(if (b.length : Int) < z then (b.length : Int) else z).toNat, by split <;> omega⟩
      have hml : m ≤ b.length := by split at hm <;> omega
      have htk : b.take m = b.take z.toNat := by
        split at hm
        · rw [List.take_of_length_le (by omega), List.take_of_length_le (by omega)]
        · rw [show m = z.toNat by omega]
      have hdk : b.drop m = b.drop z.toNat := by
        split at hm
        · rw [List.drop_of_length_le (by omega), List.drop_of_length_le (by omega)]
        · rw [show m = z.toNat by omega]
      have hsum2 : (out ++ chunkT (b.take m)) ++ chunksT (piecesB (b.drop m) (ns.drop (i + 1))) = chunksT (piecesB body ns) := by
        rw [← hsum, htk, hdk, piecesB_cons hb0, chunksT_cons, List.append_assoc]
      simp [h, hat, hb1, hm, hml, hvd]
      refine put_pc E _ _ hE H0 v out (b.take m) hO (by rw [List.length_take]; omega) (by omega) (fun v' H4 hO' => ?_)
      obtain ⟨hvf', hvd'⟩ := outAt_free hO'
      have htl : (b.drop m).take (b.length - m) = b.drop m := List.take_of_length_le (by rw [List.length_drop]; omega)
      simp [hml, hvd', hw, htl]
      exact Kloop_normal ⟨i + 1, b.drop m, out ++ chunkT (b.take m), v', by omega, hO', hsum2, by rw [List.length_drop]; omega, fr_intro (by simp)⟩ (by simp; omega)
  obtain rfl : i = ns.length := by omega
  rw [List.drop_of_length_le (Nat.le_refl _)] at hsum
  simp
  have fin : ∀ (x : Nat → AV) (b : List UInt8) (v : AV) (H4 : Hp), OutAt H0 v (chunksT (piecesB body ns)) H4 → vc Tryz.prog E [] [(7, [3]), (27, [5, H'.length])] (Code.skip) (fun _ _ _ => True) [] [] := fun _ _ _ _ _ => trivial
  have hm1 : (chunksT (piecesB body ns)).length + 1 ≤ maxLen := by unfold maxLen; omega
  have hm2 : (chunksT (piecesB body ns)).length + 1 + 2 ≤ maxLen := by unfold maxLen; omega
  have hm3 : (chunksT (piecesB body ns)).length + 1 + 2 + (linesT ts).length ≤ maxLen := by unfold maxLen; omega
  have hm4 : (chunksT (piecesB body ns)).length + 1 + 2 + (linesT ts).length + 2 ≤ maxLen := by unfold maxLen; omega
  clear fin
  by_cases hb0 : b = []
  case' pos =>
    subst hb0
    rw [pieces_nil] at hsum
    have hO2 : OutAt H0 v (chunksT (piecesB body ns)) H3 := by
      have : out = chunksT (piecesB body ns) := by rw [← hsum]; simp [chunksT]
      rw [← this]; exact hO
    simp
    clear hO hsum hol hi hbl2
  case' neg =>
    have hb1 : (b != []) = true := by simpa using hb0
    simp [hb1, hvd]
    refine put_pc E _ _ hE H0 v out b hO (by omega) (by omega) (fun v' H4 hO' => ?_)
    obtain ⟨hvf', hvd'⟩ := outAt_free hO'
    have hO2 : OutAt H0 v' (chunksT (piecesB body ns)) H4 := by
      have : out ++ chunkT b = chunksT (piecesB body ns) := by rw [← hsum, piecesB_last hb0, chunksT_cons]; simp [chunksT]
      rw [← this]; exact hO'
    simp [hvd']
    clear hO hO' hsum hol hi hbl2 hvf hvd hb0 hb1 hvf' hvd'
  all_goals
    obtain ⟨J, rfl, hJ, ⟨rfl, hnil⟩ | ⟨J1, tail, rfl, rfl, htl⟩⟩ := hO2
    · refine VFz_skip ?_
      rw [hnil] at hm1 hm2 hm3 hm4
      simp at hm1 hm2 hm3 hm4
      simp [hm1, hm2]
      refine bstr_pc E _ _ H'.length (linesT ts) (hbl J) (by omega) ?_
      have n1 : (linesT ts).length + 1 + 1 + 1 + 2 ≤ maxLen := by unfold maxLen; omega
      simp [hm3, hm4, n1]
      rw [← hH0, List.append_assoc]
      have e : encT (piecesB body ns) ts = 48 :: 13 :: 10 :: (linesT ts ++ [13, 10]) := by unfold encT; rw [hnil]; rfl
      rw [e] at hQ
      exact aPost_same hB (by simp) (nilV_refl _) (by simp) hQ
    · refine VFz_intro [10, 15] (H0 ++ J1) (u8L (chunksT (piecesB body ns)) ++ tail) (by simp) (by simp; omega) ?_ ?_ ?_
      · intro l' hl' y hy
        rcases List.mem_append.1 hl' with h | h
        · exact hBH _ (by simp) l' h y hy
        · obtain ⟨z, rfl⟩ := hJ l' (List.mem_append_left _ h) y hy; exact .int _ _
      · intro t ht y hy
        simp at ht
        rcases ht with rfl | rfl
        · simp at hy; subst hy; exact .ptr _ _ (by simp; omega)
        · simp at hy; subst hy
          refine .inr ⟨by simp, by omega, by simp, fun y hy => ?_⟩
          obtain ⟨z, rfl⟩ := hJ (u8L (chunksT (piecesB body ns)) ++ tail) (by simp) y (List.mem_of_mem_drop (List.mem_of_mem_take hy))
          exact ⟨rfl, .int _ _⟩
      · intro y
        simp [fmapK, frz, chop_u8, hm1, hm2]
        refine bstr_pc E _ _ H'.length (linesT ts) (hbl J1) (by omega) ?_
        have n1 : (chunksT (piecesB body ns)).length + ((linesT ts).length + 1 + 1 + 1) + 2 ≤ maxLen := by unfold maxLen; omega
        have n2 : (chunksT (piecesB body ns)).length + ((linesT ts).length + 1 + 1 + 1) ≤ maxLen := by unfold maxLen; omega
        simp [hm3, hm4, n1, n2]
        rw [← hH0, List.append_assoc]
        have e : encT (piecesB body ns) ts = chunksT (piecesB body ns) ++ 48 :: 13 :: 10 :: (linesT ts ++ [13, 10]) := by unfold encT; simp
        rw [e] at hQ
        exact aPost_same hB (by simp) (nilV_refl _) (by simp) hQ
end
end Go.Proofs.YtcdkcaocfioigaaGreatDoor

set_option linter.unusedVariables false
set_option linter.unnecessarySimpa false
set_option linter.unusedSimpArgs false
set_option linter.unusedSectionVars false
set_option maxRecDepth 100000
namespace Go.Proofs.YtcdkcaocfioigaaGreatDoor
open Go Go.RowKit Go.Proofs

@[simp] theorem ints_length' (l : List Int) : (ints l).length = l.length := by simp [ints]
section
variable (E : Env) (H : Hp) (Q : AV → Hp → Prop)
end
end Go.Proofs.YtcdkcaocfioigaaGreatDoor

set_option linter.unusedVariables false
set_option linter.unnecessarySimpa false
set_option linter.unusedSimpArgs false
set_option linter.unusedSectionVars false
set_option maxRecDepth 100000
namespace Go.Proofs.YtcdkcaocfioigaaGreatDoor
open Go Go.RowKit Go.Proofs Go.Deep

end Go.Proofs.YtcdkcaocfioigaaGreatDoor

set_option linter.unusedVariables false
set_option linter.unnecessarySimpa false
set_option linter.unusedSimpArgs false
set_option linter.unusedSectionVars false
set_option maxRecDepth 100000
namespace Go.Proofs.YtcdkcaocfioigaaGreatDoor
open Go Go.RowKit Go.Proofs Go.Deep

@[simp] theorem abin_sleql (P : Program) (t : TypeId) (o : Bool) (k : Nat) (r : List AV) (rs : List (List AV)) : abin P .eql t (.sl o k (r :: rs)) .nil = if (tsl P t).isSome then some (.bool false) else none := rfl
@[simp] theorem abin_slneq (P : Program) (t : TypeId) (o : Bool) (k : Nat) (r : List AV) (rs : List (List AV)) : abin P .neq t (.sl o k (r :: rs)) .nil = if (tsl P t).isSome then some (.bool true) else none := rfl
@[simp] theorem abin_bxeql (P : Program) (t : TypeId) (i o n c k : Nat) : abin P .eql t (.bx i o n c k) .nil = if (tsl P t).isSome then some (.bool false) else none := rfl
@[simp] theorem abin_bxneq (P : Program) (t : TypeId) (i o n c k : Nat) : abin P .neq t (.bx i o n c k) .nil = if (tsl P t).isSome then some (.bool true) else none := rfl
/-- A call that answers a slice of no rows, in a row of its own or in none. -/
theorem post_own0 {E : Env} {w w' : World} {β : Nat → Nat} {Rd : Nat → Nat → Prop} {Ow : Nat → Option Hold} {H : Hp} (hHR : HR E w β Rd Ow H) (hf : Frm (fun _ => False) w w') {k : Nat} {c : Value} (hos : OSl w' k c 0 []) (hnew : ∀ g, c.ownBlock = some g → w.heap.size ≤ g) :
    Post E w β Rd Ow H w' β (fun g o => Rd g o ∨ False) (fun g => if c.ownBlock = some g then some (.slot 0) else Ow g) H (.sl true k []) c := by
  have hp := post_freshP hHR hf (fun _ _ => False) (fun _ _ h => h.elim) (v := .nil) (c := .slice none 0 0) .nil .nil rfl
  have hold : ∀ g, g < w.heap.size → (if c.ownBlock = some g then some (Hold.slot 0) else Ow g) = Ow g := fun g hg => if_neg fun e => by have := hnew g e; omega
  have hbx : ∀ i, i < H.length → β i < w.heap.size := fun i hi => by
    obtain ⟨T, cs, h, _⟩ := hHR.box i _ (List.getElem?_eq_getElem hi)
    exact (Array.getElem?_eq_some_iff.1 h).1
  refine ⟨.sl true k [] c [] (by simp) hos.toR (fun g o n c hv j hj => by simp at hj) (fun _ => ⟨hos, fun g o n c' hv j _ _ h3 => ?_⟩) (by simp) (fun j x u hx => by simp at hx), .sl _ _ _ (by simp), fun g hg => if_pos hg, rfl,
    ⟨fun i l hi => ?_, hp.hr.inj, fun i hi => ⟨?_, (hp.hr.sep i hi).2⟩, fun g h hg => ?_, hp.hr.rds, hp.hr.bnd, fun b hb => ?_, hp.hr.bld⟩, fun _ _ => rfl, Nat.le_refl _, hp.keep, fun b hb hbox how => ?_, hf.os, hf.tape, hf.output, hf.size⟩
  · rcases h3 with h3 | h3
    · have h1 := hHR.rds _ _ h3
      have h2 := hnew g (by rw [hv]; rfl)
      omega
    · exact h3
  · obtain ⟨T, cs, h1, h2, h3⟩ := hp.hr.box i l hi
    refine ⟨T, cs, h1, h2, fun j x u hx hu => ?_⟩
    obtain ⟨r1, r2, r3⟩ := h3 j x u hx hu
    exact ⟨r1, r2, fun g hg => (hold g (hHR.ows g _ (r3 g hg))).trans (r3 g hg)⟩
  · show (if c.ownBlock = some (β i) then some (Hold.slot 0) else Ow (β i)) = none
    rw [hold _ (hbx i hi)]; exact (hp.hr.sep i hi).1
  · split at hg
    · rename_i h1; exact hos.lt g h1
    · exact hp.hr.ows g h hg
  · obtain ⟨f1, f2, f3, f4⟩ := hp.hr.fix b hb
    refine ⟨f1, ?_, f3, f4⟩
    show (if c.ownBlock = some b then some (Hold.slot 0) else Ow b) = none
    by_cases h1 : c.ownBlock = some b
    · have h2 := hnew b h1
      have h3 := (hHR.fix b hb).2.2.2
      omega
    · rw [if_neg h1]; exact f2
  · obtain ⟨p1, p2, p3, p4⟩ := hp.frame b hb hbox how
    refine ⟨p1, ?_, p3, p4⟩
    show (if c.ownBlock = some b then some (Hold.slot 0) else Ow b) = none
    rw [hold b hb]; exact how
theorem clone0_pc (E : Env) (H : Hp) (Q : AV → Hp → Prop) (hQ : Q (.sl true 2 []) H) : PC Tryz.prog E 45 [.sl false 2 (flds [])] H Q := by
  refine ⟨by kernel_rfl, fun w β Rd Ow cargs hHR hOw hsz hargs => ?_⟩
  obtain ⟨u, rfl, hu⟩ := args1 hsz (fun t x u hx hu => (hargs t x u hx hu).1)
  obtain ⟨xs, hk, hx, hd, hfr, hr⟩ := rel_sl hu
  obtain ⟨hxl, ao, c, rfl, h2, h3, h4⟩ := id hx
  rw [flds_length] at hx hxl h2 h4
  have hone : ∀ u ∈ xs, u.oneCell' = true := Rel.slOne (own := false) hk (by rw [flds_length]; exact hxl) hfr hr
  have hx0 : xs = [] := List.eq_nil_of_length_eq_zero (by simpa using hxl)
  subst hx0
  rw [flds_length]
  refine (clone_ok (ao := ao) (c := c) hx hone (by simp)).mono ?_
  rintro e w' ⟨bo, m, d, rfl, ⟨rfl, rfl, rfl, hn0, rfl⟩ | ⟨rfl, ho, hnew, hF⟩⟩
  · exact ⟨_, _, H, β, _, _, rfl, hQ, post_own0 hHR (Frm.refl _ _) (OSl.nil _ _) (fun g hg => by simp [Value.ownBlock] at hg)⟩
  · exact ⟨_, _, H, β, _, _, rfl, hQ, post_own0 hHR hF ho hnew⟩
/-- What a slice of fields holds, with room behind. -/
def fcells (l : List Fld) (n : Nat) : List AV := (flds l).flatten ++ (List.replicate n [AV.str [], .str []]).flatten
theorem fcells_str (l : List Fld) (n : Nat) : ∀ x ∈ fcells l n, ∃ s, x = .str s := fun x hx => by
  rcases List.mem_append.1 hx with h | h
  · obtain ⟨j, hj⟩ := List.getElem?_of_mem h
    exact flds_str hj
  · obtain ⟨r, hr, hx⟩ := List.mem_flatten.1 h
    rw [(List.mem_replicate.1 hr).2] at hx
    simp at hx
    exact ⟨_, hx⟩
theorem fcells_bnd (H : Hp) (hB : BndH H.length H) (l : List Fld) (n : Nat) : BndH (H ++ [[], fcells l n]).length (H ++ [[], fcells l n]) := fun r hr y hy => by
  rcases List.mem_append.1 hr with h | h
  · exact (hB r h y hy).mono (by simp)
  · simp at h
    rcases h with rfl | rfl
    · cases hy
    · obtain ⟨s, rfl⟩ := fcells_str _ _ y hy; exact .str _
section
variable (E : Env) (H : Hp) (Q : AV → Hp → Prop)
theorem clone_bx (g : Fld) (l : List Fld) (hl : l.length ≤ 1073741823) (hQ : ∀ n, l.length + 1 + n ≤ maxLen → Q (.bx (H.length + 1) 0 (l.length + 1) (l.length + 1 + n) 2) (H ++ [[], fcells (g :: l) n])) :
    PC Tryz.prog E 45 [.sl false 2 (flds (g :: l))] H Q := by
  have hfl : flds (g :: l) = [.str g.name, .str g.value] :: flds l := rfl
  have m1 : l.length + 1 ≤ maxLen := by unfold maxLen; omega
  have m2 : (l.length + 1) * 32 ≤ 140737488355328 := by omega
  rw [hfl]
  refine pc_enter Tryz.func45 rfl [5] [(3, [3, 0, 3])] (by kernel_rfl) (fun hB => ?_)
  simp [Tryz.ntmps45, Tryz.results45, List.replicate_succ]
  simp [m1, m2]
  refine VGrow_intro fun c hc1 hc2 => ?_
  obtain ⟨n, rfl⟩ : ∃ n, c = l.length + 1 + n := ⟨c - (l.length + 1), by omega⟩
  have hq := hQ n hc2
  simp
  refine aPost_up (v := .bx (H.length + 1) 0 (l.length + 1) (l.length + 1 + n) 2) (by simp) (by simp) ?_ (.bx _ _ _ _ _ (by simp)) ?_
  all_goals have e : AV.str g.name :: AV.str g.value :: ((flds l).flatten ++ (List.replicate n [AV.str [], AV.str []]).flatten) = fcells (g :: l) n := by simp [fcells, hfl]
  all_goals rw [e]
  · exact fcells_bnd H hB _ _
  · exact hq
variable (i : Nat) (d : Dec) (hd : H[i]? = some d.av)
include hd
theorem trailers_bx (g : Fld) (l : List Fld) (ht : d.trailers = g :: l) (hl : l.length ≤ 1073741823) (hQ : ∀ n, l.length + 1 + n ≤ maxLen → Q (.bx (H.length + 1) 0 (l.length + 1) (l.length + 1 + n) 2) (H ++ [[], fcells (g :: l) n])) :
    PC Tryz.prog E 88 [.ptr (some (i, 0))] H Q := by
  refine pc_enter Tryz.func88 rfl [] [] (by kernel_rfl) (fun hB => ?_)
  simp [Dec.av, ht] at hd
  simp [Tryz.ntmps88, Tryz.results88, List.replicate_succ, hd]
  refine clone_bx E _ _ g l hl (fun n hn => ?_)
  have hq := hQ n hn
  simp
  refine aPost_up (v := .bx (H.length + 1) 0 (l.length + 1) (l.length + 1 + n) 2) (by simp) (by simp) (fcells_bnd H hB _ _) (.bx _ _ _ _ _ (by simp)) hq
end
section
variable (E : Env) (H : Hp) (Q : AV → Hp → Prop)
theorem fcells_length (l : List Fld) (n : Nat) : (fcells l n).length = (l.length + n) * 2 := by
  have hfl : ∀ l : List Fld, (flds l).flatten.length = l.length * 2 := fun l => by
    induction l with
    | nil => rfl
    | cons g l ih =>
      have e : (flds (g :: l)).flatten = .str g.name :: .str g.value :: (flds l).flatten := rfl
      rw [e]
      simp only [List.length_cons, ih]
      omega
  unfold fcells
  rw [List.length_append, hfl]
  simp
  omega
end
end Go.Proofs.YtcdkcaocfioigaaGreatDoor

set_option linter.unusedVariables false
set_option linter.unnecessarySimpa false
set_option linter.unusedSimpArgs false
set_option linter.unusedSectionVars false
set_option maxRecDepth 100000
namespace Go.Proofs.YtcdkcaocfioigaaGreatDoor
open Go Go.RowKit Go.Proofs Go.Deep

section
variable (E : Env) (H : Hp) (Q : AV → Hp → Prop)
theorem str_put {A : List AV} (h : ∀ y ∈ A, ∃ s, y = AV.str s) (n m : Nat) (a b : List UInt8) : ∀ y ∈ A.take n ++ .str a :: .str b :: A.drop m, ∃ s, y = .str s := fun y hy => by
  rcases List.mem_append.1 hy with h1 | h1
  · exact h y (List.mem_of_mem_take h1)
  · simp at h1
    rcases h1 with rfl | rfl | h1
    · exact ⟨_, rfl⟩
    · exact ⟨_, rfl⟩
    · exact h y (List.mem_of_mem_drop h1)
theorem len_put {A : List AV} (n : Nat) (h : n + 2 ≤ A.length) (a b : AV) : (A.take n ++ a :: b :: A.drop (n + 2)).length = A.length := by
  simp; omega
end
end Go.Proofs.YtcdkcaocfioigaaGreatDoor

set_option linter.unusedVariables false
set_option linter.unnecessarySimpa false
set_option linter.unusedSimpArgs false
set_option maxRecDepth 100000
namespace Go.Proofs.YtcdkcaocfioigaaGreatDoor
open Go Go.RowKit Go.Proofs

section
variable {K : Hp} {c : Nat} (h : c < K.length)
include h
theorem setL (L J : Hp) (x : List AV) (hl : L.length = K.length) : (L ++ J).set c x = L.set c x ++ J := List.set_append_left _ _ (by omega)
theorem getL (L J : Hp) (hl : L.length = K.length) : (L ++ J)[c]? = L[c]? := List.getElem?_append_left (by omega)
theorem getS (L : Hp) (x : List AV) (hl : L.length = K.length) : (L.set c x)[c]? = some x := List.getElem?_set_self (by omega)
end
theorem getN {L : Hp} {c d : Nat} (h : d ≠ c) (x : List AV) : (L.set d x)[c]? = L[c]? := List.getElem?_set_ne h
/-- A slice of fields as it grows: nil, or a part of a box behind the first N. -/
def FB (K : Hp) (N : Nat) (v : AV) (l : List Fld) : Prop := (l = [] ∧ v = .nil) ∨ ∃ i c A, N ≤ i ∧ v = .bx i 0 l.length c 2 ∧ K[i]? = some A ∧ A.length = c * 2 ∧ l.length ≤ c ∧ c ≤ maxLen ∧ A.take (l.length * 2) = (flds l).flatten ∧ ∀ y ∈ A, ∃ s, y = .str s
theorem flds_flat_len : ∀ l : List Fld, (flds l).flatten.length = l.length * 2
  | [] => rfl
  | g :: l => by
    have e : (flds (g :: l)).flatten = .str g.name :: .str g.value :: (flds l).flatten := rfl
    rw [e]
    simp only [List.length_cons, flds_flat_len l]
    omega
section
variable {K : Hp} {N : Nat} {v : AV} {l : List Fld}
theorem FB.nil : FB K N .nil [] := .inl ⟨rfl, rfl⟩
theorem FB.lt (h : FB K N v l) : ∀ i o n c k, v = .bx i o n c k → N ≤ i ∧ i < K.length := fun i o n c k hv => by
  rcases h with ⟨_, rfl⟩ | ⟨i', c', A, h1, rfl, h2, _⟩
  · cases hv
  · cases hv; exact ⟨h1, (List.getElem?_eq_some_iff.1 h2).1⟩
theorem FB.of_eq {K' : Hp} {M : Nat} (h : FB K N v l) (he : ∀ i o n c k, v = .bx i o n c k → K'[i]? = K[i]?) (hM : ∀ i o n c k, v = .bx i o n c k → M ≤ i) : FB K' M v l := by
  rcases h with h | ⟨i, c, A, h1, rfl, h2, h3⟩
  · exact .inl h
  · exact .inr ⟨i, c, A, hM _ _ _ _ _ rfl, rfl, (he _ _ _ _ _ rfl).trans h2, h3⟩
theorem FB.app (h : FB K N v l) (J : Hp) : FB (K ++ J) N v l :=
  h.of_eq (fun i o n c k hv => List.getElem?_append_left (h.lt i o n c k hv).2) (fun i o n c k hv => (h.lt i o n c k hv).1)
theorem FB.alen {P : Program} {t : TypeId} (h : FB K N v l) (ht : (tsl P t).isSome = true) : Go.Proofs.YtcdkcaocfioigaaGreatDoor.alen P t v = some (.int .i64 l.length) := by
  rcases h with ⟨rfl, rfl⟩ | ⟨i, c, A, h1, rfl, _⟩ <;> simp [Go.Proofs.YtcdkcaocfioigaaGreatDoor.alen, ht]
theorem FB.free (h : FB K N v l) : v.free = true ∧ v.one = true ∧ v.dis = v ∧ Bnd K.length v := by
  rcases h with ⟨_, rfl⟩ | ⟨i, c, A, h1, rfl, h2, _⟩
  · exact ⟨rfl, rfl, rfl, .nil⟩
  · exact ⟨rfl, rfl, rfl, .bx _ _ _ _ _ (List.getElem?_eq_some_iff.1 h2).1⟩
theorem FB.sees (h : FB K N v l) : seesBx K v (.sl false 2 (flds l)) := by
  rcases h with ⟨rfl, rfl⟩ | ⟨i, c, A, h1, rfl, h2, h3, h4, h5, h6, h7⟩
  · exact .inr (.inl ⟨rfl, 2, rfl⟩)
  · refine .inr (.inr ⟨i, 0, l.length, c, 2, flds l, A, rfl, rfl, by simp, fun r hr => ?_, h2, by omega, fun j u hu => ?_, fun r hr x hx => ?_⟩)
    · obtain ⟨g, _, rfl⟩ := List.mem_map.1 hr; rfl
    · rw [← h6, List.getElem?_take] at hu
      split at hu
      · simpa using hu
      · cases hu
    · obtain ⟨g, _, rfl⟩ := List.mem_map.1 hr
      simp at hx
      rcases hx with rfl | rfl <;> rfl
theorem bndH_app2 {N : Nat} {H J : Hp} (h : BndH N H) (h2 : ∀ l ∈ J, ∀ x ∈ l, Bnd N x) : BndH N (H ++ J) := fun l hl x hx => by
  rcases List.mem_append.1 hl with h' | h'
  · exact h l h' x hx
  · exact h2 l h' x hx
theorem bndH_up {N M : Nat} {H : Hp} (h : BndH N H) (hm : N ≤ M) : BndH M H := fun l hl x hx => (h l hl x hx).mono hm
theorem bndH_put {N : Nat} {H : Hp} (h : BndH N H) (c : Nat) {l : List AV} (hl : ∀ x ∈ l, Bnd N x) : BndH N (H.set c l) := fun m hm x hx => by
  rcases List.mem_or_eq_of_mem_set hm with h1 | rfl
  · exact h m h1 x hx
  · exact hl x hx
/-- One more field: where there is room. -/
theorem FB.room {A : List AV} {c : Nat} (hA : A.length = c * 2) (hs : ∀ y ∈ A, ∃ s, y = AV.str s) (ht : A.take (l.length * 2) = (flds l).flatten) (g : Fld) (hr : l.length + 1 ≤ c) :
    (A.take (l.length * 2) ++ .str g.name :: .str g.value :: A.drop (l.length * 2 + 2)).length = c * 2 ∧ (∀ y ∈ A.take (l.length * 2) ++ .str g.name :: .str g.value :: A.drop (l.length * 2 + 2), ∃ s, y = AV.str s) ∧
    (A.take (l.length * 2) ++ .str g.name :: .str g.value :: A.drop (l.length * 2 + 2)).take ((l ++ [g]).length * 2) = (flds (l ++ [g])).flatten := by
  refine ⟨(len_put _ (by omega) _ _).trans hA, str_put hs _ _ _ _, ?_⟩
  have e : (l ++ [g]).length * 2 = (flds l).flatten.length + 2 := by rw [flds_flat_len]; simp; omega
  rw [ht, e, List.take_length_add_append]
  simp [flds]
/-- .. and in a new box. -/
theorem FB.grown {A : List AV} {c c' : Nat} (hA : A.length = c * 2) (hs : ∀ y ∈ A, ∃ s, y = AV.str s) (ht : A.take (l.length * 2) = (flds l).flatten) (g : Fld) (hr : l.length ≤ c) (hc : l.length + 1 ≤ c') :
    (A.take (l.length * 2) ++ .str g.name :: .str g.value :: (List.replicate (c' - (l.length + 1)) [AV.str [], AV.str []]).flatten).length = c' * 2 ∧ (∀ y ∈ A.take (l.length * 2) ++ .str g.name :: .str g.value :: (List.replicate (c' - (l.length + 1)) [AV.str [], AV.str []]).flatten, ∃ s, y = AV.str s) ∧
    (A.take (l.length * 2) ++ .str g.name :: .str g.value :: (List.replicate (c' - (l.length + 1)) [AV.str [], AV.str []]).flatten).take ((l ++ [g]).length * 2) = (flds (l ++ [g])).flatten := by
  refine ⟨by simp; omega, fun y hy => ?_, ?_⟩
  · rcases List.mem_append.1 hy with h1 | h1
    · exact hs y (List.mem_of_mem_take h1)
    · rcases List.mem_cons.1 h1 with rfl | h1
      · exact ⟨_, rfl⟩
      · rcases List.mem_cons.1 h1 with rfl | h1
        · exact ⟨_, rfl⟩
        · obtain ⟨r, hr1, hr2⟩ := List.mem_flatten.1 h1
          rw [(List.mem_replicate.1 hr1).2] at hr2
          simp at hr2
          exact ⟨_, hr2⟩
  · have e : (l ++ [g]).length * 2 = (flds l).flatten.length + 2 := by rw [flds_flat_len]; simp; omega
    rw [ht, e, List.take_length_add_append]
    simp [flds]
end
end Go.Proofs.YtcdkcaocfioigaaGreatDoor

set_option linter.unusedVariables false
set_option linter.unusedSimpArgs false
set_option linter.unusedSectionVars false
set_option maxRecDepth 100000
namespace Go.Proofs.YtcdkcaocfioigaaGreatDoor
open Go Go.RowKit Go.Proofs

/-- Does a text begin with a blank? -/
def lnb (l : List UInt8) : Bool := match l with
  | [] => false
  | a :: _ => blankB a
/-- What a line says: the field, the place, the error. -/
def lineX (l : List UInt8) : Fld × Int × Int :=
  if lnb l = true then ((⟨[], []⟩ : Fld), 0, 63) else if l.length ≤ run ncol l then ((⟨[], []⟩ : Fld), l.length, 62) else if run ncol l = 0 then ((⟨[], []⟩ : Fld), 0, 60)
  else if min (run signB l) 128 < run ncol l then ((⟨[], []⟩ : Fld), (min (run signB l) 128 : Nat), 60)
  else if run fcB (l.drop (run ncol l + 1)) < (l.drop (run ncol l + 1)).length then ((⟨[], []⟩ : Fld), (run ncol l + 1 + run fcB (l.drop (run ncol l + 1)) : Nat), 61)
  else if 8192 < (trimB (l.drop (run ncol l + 1))).length then ((⟨[], []⟩ : Fld), (run ncol l + 1 + run blankB (l.drop (run ncol l + 1)) + 8192 : Nat), 61)
  else (⟨l.take (run ncol l), trimB (l.drop (run ncol l + 1))⟩, 0, 0)
theorem rb_le (l : List UInt8) : run blankB l ≤ l.length := run_le blankB l
theorem lead_len (l : List UInt8) : ((l.length : Int) - (Lib.trimLeftS l [32, 9]).length) = run blankB l := by
  have e : Lib.trimLeftS l [32, 9] = l.dropWhile blankB := by unfold Lib.trimLeftS; rw [sp_blank]
  rw [e]
  have h := congrArg List.length (List.takeWhile_append_dropWhile (p := blankB) (l := l))
  rw [List.length_append] at h
  unfold run
  omega
theorem run_ge (p : UInt8 → Bool) : ∀ (n : Nat) (l : List UInt8), (l.take n).all p = true → n ≤ l.length → n ≤ run p l
  | 0, _, _, _ => Nat.zero_le _
  | n + 1, [], _, h => by simp at h
  | n + 1, a :: l, h, hn => by
    simp only [List.take_succ_cons, List.all_cons, Bool.and_eq_true] at h
    have := run_ge p n l h.2 (by simpa using hn)
    unfold run at this ⊢
    rw [List.takeWhile_cons, if_pos h.1]
    simpa using this
theorem run_whole {p : UInt8 → Bool} {l : List UInt8} (h : l.all p = true) : run p l = l.length := by
  have := run_ge p l.length l (by rw [List.take_length]; exact h) (Nat.le_refl _)
  have := run_le p l
  omega
section
variable {l : List UInt8} (hf : lnb l = false)
theorem lineX_nil : lineX [] = ((⟨[], []⟩ : Fld), 0, 62) := rfl
theorem lineX_fold (a : UInt8) (r : List UInt8) (h : blankB a = true) : lineX (a :: r) = ((⟨[], []⟩ : Fld), 0, 63) := by unfold lineX; rw [if_pos (show lnb (a :: r) = true from h)]
include hf
theorem lineX_nocol (h : l.length ≤ run ncol l) : lineX l = ((⟨[], []⟩ : Fld), (l.length : Int), 62) := by unfold lineX; rw [if_neg (by rw [hf]; simp), if_pos h]
theorem lineX_zero (h1 : run ncol l < l.length) (h : run ncol l = 0) : lineX l = ((⟨[], []⟩ : Fld), 0, 60) := by unfold lineX; rw [if_neg (by rw [hf]; simp), if_neg (by omega), if_pos h]
theorem lineX_name (h1 : run ncol l < l.length) (h2 : run ncol l ≠ 0) (h : min (run signB l) 128 < run ncol l) : lineX l = ((⟨[], []⟩ : Fld), ((min (run signB l) 128 : Nat) : Int), 60) := by unfold lineX; rw [if_neg (by rw [hf]; simp), if_neg (by omega), if_neg h2, if_pos h]
theorem lineX_long (h1 : run ncol l < l.length) (h2 : run ncol l ≠ 0) {i : Nat} (hall : (l.take i).all signB = true) (hi : 128 ≤ i) (hi2 : i ≤ 128) (h : i < run ncol l) : lineX l = ((⟨[], []⟩ : Fld), (i : Int), 60) := by
  have := run_ge signB i l hall (by omega)
  have e : min (run signB l) 128 = i := by omega
  rw [lineX_name hf h1 h2 (by omega), e]
theorem lineX_bad (h1 : run ncol l < l.length) (h2 : run ncol l ≠ 0) {i : Nat} {b : UInt8} (hall : (l.take i).all signB = true) (hi : i ≤ 128) (h : i < run ncol l) (hb : l[i]? = some b) (hs : signB b = false) : lineX l = ((⟨[], []⟩ : Fld), (i : Int), 60) := by
  have := run_step signB l i hall (by omega) (fun c hc => by rw [hb] at hc; cases hc; exact hs)
  have e : min (run signB l) 128 = i := by omega
  rw [lineX_name hf h1 h2 (by omega), e]
omit hf in
theorem name_run (h1 : run ncol l < l.length) (hn : nameB (l.take (run ncol l)) = true) : ¬ min (run signB l) 128 < run ncol l := by
  unfold nameB tokB at hn
  simp only [Bool.and_eq_true, decide_eq_true_eq] at hn
  rw [List.length_take] at hn
  have := run_ge signB (run ncol l) l hn.2.1 (by omega)
  omega
omit hf in
theorem name_ne (hn : nameB (l.take (run ncol l)) = true) : run ncol l ≠ 0 := fun e => by rw [e, List.take_zero] at hn; rw [nameB_nil] at hn; cases hn
theorem lineX_val (h1 : run ncol l < l.length) (hn : nameB (l.take (run ncol l)) = true) {i : Nat} {b : UInt8} (hi : run ncol l + 1 ≤ i) (hall : fldB ((l.drop (run ncol l + 1)).take (i - (run ncol l + 1))) = true) (hb : (l.drop (run ncol l + 1))[i - (run ncol l + 1)]? = some b) (hs : fcB b = false) :
    lineX l = ((⟨[], []⟩ : Fld), ((run ncol l + 1 + (i - (run ncol l + 1)) : Nat) : Int), 61) := by
  have hlt := (List.getElem?_eq_some_iff.1 hb).1
  have := run_step fcB (l.drop (run ncol l + 1)) _ hall (by omega) (fun c hc => by rw [hb] at hc; cases hc; exact hs)
  unfold lineX
  rw [if_neg (by rw [hf]; simp), if_neg (by omega), if_neg (name_ne hn), if_neg (name_run h1 hn), this, if_pos hlt]
theorem lineX_big (h1 : run ncol l < l.length) (hn : nameB (l.take (run ncol l)) = true) (hv : fldB (l.drop (run ncol l + 1)) = true) (h : 8192 < (trimB (l.drop (run ncol l + 1))).length) :
    lineX l = ((⟨[], []⟩ : Fld), ((run ncol l + 1 + run blankB (l.drop (run ncol l + 1)) + 8192 : Nat) : Int), 61) := by
  have := run_whole hv
  unfold lineX
  rw [if_neg (by rw [hf]; simp), if_neg (by omega), if_neg (name_ne hn), if_neg (name_run h1 hn), if_neg (by omega), if_pos h]
theorem lineX_yes (h1 : run ncol l < l.length) (hn : nameB (l.take (run ncol l)) = true) (hv : fldB (l.drop (run ncol l + 1)) = true) (h : ¬ 8192 < (trimB (l.drop (run ncol l + 1))).length) :
    lineX l = (⟨l.take (run ncol l), trimB (l.drop (run ncol l + 1))⟩, 0, 0) := by
  have := run_whole hv
  unfold lineX
  rw [if_neg (by rw [hf]; simp), if_neg (by omega), if_neg (name_ne hn), if_neg (name_run h1 hn), if_neg (by omega), if_neg h]
end
section
variable (E : Env) (H : Hp) (Q : AV → Hp → Prop)
theorem trimLeftX_pc (l : List UInt8) (hl : l.length ≤ cap) (hQ : Q (.str (Lib.trimLeftS l [32, 9])) H) : PC Tryz.prog E 145 [.str l, .str [32, 9]] H Q := by
  have hle : (Lib.trimLeftS l [32, 9]).length ≤ l.length := by
    unfold Lib.trimLeftS
    exact (List.dropWhile_sublist _).length_le
  refine pc_of_calls (v := .str (Lib.trimLeftS l [32, 9])) (by kernel_rfl) (fun _ => True) (fun w hw => trivial) (fun w β Rd cargs hS hsz hargs => ?_) (.str _) rfl hQ
  obtain ⟨u, v, rfl, hu, hv⟩ := args2 hsz hargs
  obtain ⟨s, rfl, rfl, hs⟩ := rel_str hu
  obtain ⟨t, rfl, ht, _⟩ := rel_str hv
  have h116 : (Tryz.prog.info? (lren.t 116)).map (fun i => (i.zero, i.size)) = some (some (.agg (Array.replicate 256 (.bool false))), 256) := by kernel_rfl
  have htl : t.size = 2 := by rw [← size_toList, ht]; rfl
  refine (Any.strings_TrimLeft_ascii lays161 (zero_of_info h116).1 (zero_of_info h116).2 s t w (by rw [htl]; omega) (fun j b hb => by
    rw [ht] at hb
    match j with
    | 0 => simp at hb; subst hb; decide
    | 1 => simp at hb; subst hb; decide
    | j + 2 => simp at hb)).mono ?_
  rintro e w' ⟨rfl, hb⟩
  rw [ht]
  exact ⟨_, rfl, frm_below hb, rel_tx _ (cap_max (Nat.le_trans hle hl))⟩
set_option maxHeartbeats 1000000 in
theorem parseLineX_pc (hE : SE E) (l : List UInt8) (hl : l.length ≤ cap) (hQ : Q (.tup [.agg [.str (lineX l).1.name, .str (lineX l).1.value], .int .i64 (lineX l).2.1, .int .i64 (lineX l).2.2]) H) :
    PC Tryz.prog E 114 [.str l] H Q := by
  refine pc_enter Tryz.func114 rfl [] [] (by kernel_rfl) (fun hB => ?_)
  have hl' := hl
  simp only [cap] at hl'
  obtain ⟨c, hc⟩ : ∃ c, run ncol l = c := ⟨_, rfl⟩
  have hcl := run_le ncol l
  rw [hc] at hcl
  have hib := indexByte_run l
  rw [hc] at hib
  have bad : ∀ (fr : List AV) (pl e : Int), lineX l = ((⟨[], []⟩ : Fld), pl, e) → aget fr 2 = .ptr (some (H.length, 0)) → aget fr 3 = .int .i64 pl → aget fr 4 = .int .i64 e → aPost Tryz.prog [ResultVar.cell 2 47, ResultVar.tmp 3, ResultVar.tmp 4] H.length Q .ret fr (H ++ [[.str [], .str []]]) := fun fr pl e h0 h2 h3 h4 =>
    aPost_same hB (v0 := .tup [.agg [.str [], .str []], .int .i64 pl, .int .i64 e]) (by simp [h2, h3, h4]) (nilV_refl _) (by simp) (by rw [h0] at hQ; exact hQ)
  have hcase : l = [] ∨ (∃ a r, l = a :: r ∧ blankB a = true) ∨ (∃ a r, l = a :: r ∧ blankB a = false) := by
    cases l with
    | nil => exact .inl rfl
    | cons a r =>
      cases hb : blankB a
      · exact .inr (.inr ⟨a, r, rfl, hb⟩)
      · exact .inr (.inl ⟨a, r, rfl, hb⟩)
  rcases hcase with rfl | ⟨a, r, rfl, hb⟩ | ⟨a, r, hl0, hb⟩
  · simp [Tryz.ntmps114, Tryz.results114, List.replicate_succ]
    refine indexByte_pc E _ _ [] 58 ?_
    have e0 : Lib.indexByte [] 58 = -1 := rfl
    rw [e0]
    simp
    exact bad _ 0 62 lineX_nil rfl rfl rfl
  · have hc0 := lineX_fold a r hb
    have hib2 : 0 ≤ Lib.indexByte [32, 9] a := by rw [ib_blank]; exact hb
    have hne : (a :: r != []) = true := rfl
    simp [Tryz.ntmps114, Tryz.results114, List.replicate_succ, hne]
    refine indexByte_pc E _ _ [32, 9] a ?_
    simp [hib2]
    exact bad _ 0 63 hc0 rfl rfl rfl
  · have hib2 : ¬ 0 ≤ Lib.indexByte [32, 9] a := by rw [ib_blank, hb]; simp
    have hne : (l != []) = true := by rw [hl0]; rfl
    have hl1 : 0 < l.length := by rw [hl0]; simp
    have hla : lat l 0 = some a := by rw [hl0]; rfl
    simp [Tryz.ntmps114, Tryz.results114, List.replicate_succ, hne, hl1, hla]
    refine indexByte_pc E _ _ [32, 9] a ?_
    simp [hib2]
    refine indexByte_pc E _ _ l 58 ?_
    rw [hib]
    have hnf : lnb l = false := by rw [hl0]; exact hb
    clear hib2 hne hla hl0 hib
    by_cases hcc : c < l.length
    rotate_left
    · have hno := lineX_nocol hnf (by omega)
      simp [hcc]
      exact bad _ l.length 62 hno rfl rfl rfl
    · by_cases hz : c = 0
      · have hno := lineX_zero hnf (by omega) (by omega)
        subst hz
        simp [hcc]
        exact bad _ 0 60 hno rfl rfl rfl
      · have hz2 : ((c : Int) == 0) = false := by simp; omega
        simp [hcc, hz, hz2]
        subst hc
        refine VL_go (plInv1 l H) (fun fr _ => run ncol l - (ai (aget fr 33)).toNat) ⟨rfl, 0, by omega, by omega, by simp, fr_intro (by simp)⟩ ?_
        rintro fr H' ⟨rfl, i, hi, hi2, hall, x, rfl⟩
        by_cases h : i < run ncol l
        · obtain ⟨b, hbi⟩ : ∃ b, l[i]? = some b := ⟨_, List.getElem?_eq_getElem (by omega)⟩
          by_cases h128 : 128 ≤ i
          · have hno := lineX_long hnf (by omega) (by omega) hall (by omega) (by omega) h
            have h128' : (128 : Int) ≤ i := by omega
            simp [h, h128']
            exact bad _ i 60 hno rfl rfl rfl
          · have h128' : ¬ (128 : Int) ≤ i := by omega
            have hw : IntKind.i64.wrap ((i : Int) + 1) = i + 1 := wrap_in (by omega) (by omega)
            have t1 : ((i : Int) + 1).toNat = i + 1 := by omega
            have t2 : (0 : Int) ≤ i + 1 := by omega
            have t3 : (l.drop i).take 1 = [b] := by rw [drop_at l i b hbi]; rfl
            have t4 : i + 1 ≤ l.length := by omega
            have ht : tokB [b] = signB b := by simp [tokB]
            simp [h, h128', hw, t1, t2, t3, t4]
            refine isToken_pc E _ _ hE [b] (by simp [cap]) ?_
            rw [ht]
            cases hs : signB b with
            | false =>
              have hno := lineX_bad hnf (by omega) (by omega) hall (by omega) h hbi hs
              simp
              exact bad _ i 60 hno rfl rfl rfl
            | true =>
              simp [hw]
              refine Kloop_normal ?_ ?_
              rotate_left
              · simp; omega
              refine ⟨rfl, i + 1, by omega, by omega, ?_, fr_intro (by simp)⟩
              rw [all_take signB l i b hbi, hall, hs]; rfl
        · obtain rfl : i = run ncol l := by omega
          have hnm : nameB (l.take (run ncol l)) = true := by
            unfold nameB tokB
            rw [hall, decide_eq_true (by rw [List.length_take]; omega)]
            have : l.take (run ncol l) ≠ [] := by intro e; have h2 := congrArg List.length e; rw [List.length_take] at h2; have h3 : min (run ncol l) l.length = 0 := h2; omega
            cases he : l.take (run ncol l) with
            | nil => exact absurd he this
            | cons _ _ => rfl
          have hw1 : IntKind.i64.wrap (((run ncol l : Nat) : Int) + 1) = ((run ncol l + 1 : Nat) : Int) := by rw [wrap_in (by omega) (by omega)]; omega
          clear hall
          simp [h, hw1, -Int.natCast_add]
          refine VL_go (plInv2 l H) (fun fr _ => l.length - (ai (aget fr 7)).toNat) ⟨rfl, run ncol l + 1, by omega, by omega, by rw [Nat.sub_self, List.take_zero]; rfl, fr_intro (by simp)⟩ ?_
          clear hw1
          rintro fr H' ⟨rfl, i, hi1, hi2, hall, x, rfl⟩
          by_cases h : i < l.length
          · obtain ⟨b, hbi⟩ : ∃ b, l[i]? = some b := ⟨_, List.getElem?_eq_getElem h⟩
            have hbd : (l.drop (run ncol l + 1))[i - (run ncol l + 1)]? = some b := by rw [List.getElem?_drop, show run ncol l + 1 + (i - (run ncol l + 1)) = i by omega]; exact hbi
            have hw : IntKind.i64.wrap ((i : Int) + 1) = i + 1 := wrap_in (by omega) (by omega)
            have t1 : ((i : Int) + 1).toNat = i + 1 := by omega
            have t2 : (0 : Int) ≤ i + 1 := by omega
            have t3 : (l.drop i).take 1 = [b] := by rw [drop_at l i b hbi]; rfl
            have t4 : i + 1 ≤ l.length := by omega
            have ht : fldB [b] = fcB b := by simp [fldB]
            simp [h, hw, t1, t2, t3, t4]
            refine isField_pc E _ _ [b] (by simp [cap]) ?_
            rw [ht]
            cases hs : fcB b with
            | false =>
              have hno := lineX_val hnf (by omega) hnm (by omega) hall hbd hs
              simp
              exact bad _ i 61 (by rw [hno]; congr 2; omega) rfl rfl rfl
            | true =>
              simp [hw]
              refine Kloop_normal ?_ ?_
              rotate_left
              · simp; omega
              refine ⟨rfl, i + 1, by omega, by omega, ?_, fr_intro (by simp)⟩
              rw [show i + 1 - (run ncol l + 1) = (i - (run ncol l + 1)) + 1 by omega]
              unfold fldB at hall ⊢
              rw [all_take fcB _ _ b hbd, hall, hs]; rfl
          · obtain rfl : i = l.length := by omega
            have hfl : fldB (l.drop (run ncol l + 1)) = true := by rw [List.take_of_length_le (by rw [List.length_drop]; omega)] at hall; exact hall
            clear hall h
            obtain ⟨c, hc⟩ : ∃ c, run ncol l = c := ⟨_, rfl⟩
            rw [hc] at hcl hcc hz hz2 hnm hfl hi1
            have hw1 : IntKind.i64.wrap ((c : Int) + 1) = ((c + 1 : Nat) : Int) := by rw [wrap_in (by omega) (by omega)]; omega
            have t4 : c + 1 ≤ l.length := by omega
            simp [hc, hw1, t4, -Int.natCast_add]
            refine trim_pc E _ _ (l.drop (c + 1)) (by rw [List.length_drop]; simp only [cap]; omega) ?_
            by_cases hbig : 8192 < (trimB (l.drop (c + 1))).length
            · have hbig' : (8192 : Int) < (trimB (l.drop (c + 1))).length := by omega
              have hno := lineX_big hnf (by omega) (by rw [hc]; exact hnm) (by rw [hc]; exact hfl) (by rw [hc]; exact hbig)
              simp [hbig']
              refine trimLeftX_pc E _ _ (l.drop (c + 1)) (by rw [List.length_drop]; simp only [cap]; omega) ?_
              have hle := rb_le (l.drop (c + 1))
              rw [List.length_drop] at hle
              have hdl : (l.drop (c + 1)).length = l.length - (c + 1) := List.length_drop
              obtain ⟨rb, hrb⟩ : ∃ n, run blankB (l.drop (c + 1)) = n := ⟨_, rfl⟩
              have hld := lead_len (l.drop (c + 1))
              rw [hc, hrb] at hno
              rw [hrb] at hle hld
              rw [hdl] at hld
              have hwA : IntKind.i64.wrap ((c : Int) + 1) = c + 1 := wrap_in (by omega) (by omega)
              have hwB : IntKind.i64.wrap (((l.length - (c + 1) : Nat) : Int) - (Lib.trimLeftS (l.drop (c + 1)) [32, 9]).length) = rb := by rw [hld, wrap_in (by omega) (by omega)]
              have hwC : IntKind.i64.wrap ((c : Int) + 1 + rb) = c + 1 + rb := wrap_in (by omega) (by omega)
              have hwD : IntKind.i64.wrap ((c : Int) + 1 + rb + 8192) = c + 1 + rb + 8192 := wrap_in (by omega) (by omega)
              simp [hwA, hwB, hwC, hwD]
              exact bad _ ((c : Int) + 1 + rb + 8192) 61 (by rw [hno]; simp) rfl rfl rfl
            · have hbig' : ¬ (8192 : Int) < (trimB (l.drop (c + 1))).length := by omega
              have hyes := lineX_yes hnf (by omega) (by rw [hc]; exact hnm) (by rw [hc]; exact hfl) (by rw [hc]; exact hbig)
              rw [hc] at hyes
              rw [hyes] at hQ
              simp [hbig', hcl]
              exact aPost_same hB (v0 := .tup [.agg [.str (l.take c), .str (trimB (l.drop (c + 1)))], .int .i64 0, .int .i64 0]) (by simp) (nilV_refl _) (by simp) hQ
end
end Go.Proofs.YtcdkcaocfioigaaGreatDoor

set_option linter.unusedVariables false
set_option linter.unnecessarySimpa false
set_option linter.unusedSimpArgs false
set_option linter.unusedSectionVars false
set_option maxRecDepth 100000
namespace Go.Proofs.YtcdkcaocfioigaaGreatDoor
open Go Go.RowKit Go.Proofs

/-- Two names alike. -/
def lowEq (a b : List UInt8) : Bool := low a == low b
/-- The values of a name. -/
def allB (l : List Fld) (n : List UInt8) : List (List UInt8) := (l.filter fun f => lowEq f.name n).map fun f => f.value
theorem allB_step (l : List Fld) (n : List UInt8) (i : Nat) (f : Fld) (h : l[i]? = some f) : allB (l.take (i + 1)) n = allB (l.take i) n ++ (if lowEq f.name n = true then [f.value] else []) := by
  unfold allB
  rw [List.take_add_one, h]
  simp only [Option.toList, List.filter_append, List.map_append]
  congr 1
  by_cases hl : lowEq f.name n = true
  · rw [if_pos hl, List.filter_cons, if_pos hl]; rfl
  · rw [if_neg hl, List.filter_cons, if_neg hl]; rfl
theorem allB_len (l : List Fld) (n : List UInt8) : (allB l n).length ≤ l.length := by
  unfold allB
  rw [List.length_map]
  exact List.length_filter_le _ _
/-- The bulk of texts. -/
def vsz : List (List UInt8) → Nat
  | [] => 0
  | x :: r => x.length + 1 + vsz r
theorem vsz_app (a b : List (List UInt8)) : vsz (a ++ b) = vsz a + vsz b := by
  induction a with
  | nil => simp [vsz]
  | cons x a ih => simp [vsz, ih]; omega
theorem vsz_allB (l : List Fld) (n : List UInt8) : vsz (allB l n) ≤ fsz l + l.length := by
  induction l with
  | nil => simp [allB, vsz]
  | cons f l ih =>
    unfold allB at ih ⊢
    rw [List.filter_cons]
    simp only [fsz, List.length_cons]
    split
    · simp only [List.map_cons, vsz]; omega
    · omega
theorem vsz_take (l : List (List UInt8)) (i : Nat) : vsz (l.take i) ≤ vsz l := by
  have := congrArg vsz (List.take_append_drop i l)
  rw [vsz_app] at this
  omega
theorem vsz_mem {l : List (List UInt8)} {i : Nat} {x : List UInt8} (h : l[i]? = some x) : x.length + 1 ≤ vsz l := by
  induction l generalizing i with
  | nil => simp at h
  | cons a l ih =>
    cases i with
    | zero => simp at h; subst h; simp [vsz]
    | succ i => simp at h; have := ih h; simp [vsz]; omega
theorem vsz_len (l : List (List UInt8)) : l.length ≤ vsz l := by
  induction l with
  | nil => simp
  | cons a l ih => simp [vsz]; omega
/-- The elements of all values. -/
def listsB : List (List UInt8) → Option (List (List UInt8))
  | [] => some []
  | v :: r => match listB v with
    | none => none
    | some x => (listsB r).map (x ++ ·)
theorem listsB_app : ∀ (a b : List (List UInt8)), listsB (a ++ b) = match listsB a with
    | none => none
    | some x => (listsB b).map (x ++ ·)
  | [], b => by
    show listsB b = (listsB b).map (fun y => [] ++ y)
    cases listsB b <;> simp
  | v :: a, b => by
    rw [List.cons_append, listsB, listsB_app a b, listsB]
    cases listB v with
    | none => rfl
    | some x =>
      cases listsB a with
      | none => rfl
      | some y => cases listsB b <;> simp
theorem listsB_step {vs : List (List UInt8)} {i : Nat} {v : List UInt8} {acc x : List (List UInt8)} (h : vs[i]? = some v) (ha : listsB (vs.take i) = some acc) (hv : listB v = some x) : listsB (vs.take (i + 1)) = some (acc ++ x) := by
  rw [List.take_add_one, h, Option.toList, listsB_app, ha]
  simp [listsB, hv]
theorem listsB_stop {vs : List (List UInt8)} {i : Nat} {v : List UInt8} (h : vs[i]? = some v) (hv : listB v = none) : listsB vs = none := by
  have hi := (List.getElem?_eq_some_iff.1 h).1
  have e : vs = vs.take i ++ (v :: vs.drop (i + 1)) := by
    rw [← (List.getElem?_eq_some_iff.1 h).2, ← List.drop_eq_getElem_cons hi, List.take_append_drop]
  rw [e, listsB_app]
  cases listsB (vs.take i) with
  | none => rfl
  | some y => simp [listsB, hv]
theorem listsB_len : ∀ (vs acc : List (List UInt8)), listsB vs = some acc → acc.length ≤ vsz vs
  | [], acc, h => by cases h; simp
  | v :: r, acc, h => by
    rw [listsB] at h
    cases hv : listB v with
    | none => rw [hv] at h; cases h
    | some x =>
      rw [hv] at h
      cases hr : listsB r with
      | none => rw [hr] at h; cases h
      | some y =>
        rw [hr] at h
        cases h
        have h1 := listB_len hv
        have h2 := listsB_len r y hr
        simp [vsz]; omega
theorem listsB_mem : ∀ (vs acc : List (List UInt8)), listsB vs = some acc → ∀ p ∈ acc, p.length ≤ vsz vs
  | [], acc, h => by cases h; simp
  | v :: r, acc, h => by
    rw [listsB] at h
    cases hv : listB v with
    | none => rw [hv] at h; cases h
    | some x =>
      rw [hv] at h
      cases hr : listsB r with
      | none => rw [hr] at h; cases h
      | some y =>
        rw [hr] at h
        cases h
        intro p hp
        rcases List.mem_append.1 hp with hp | hp
        · have := listB_mem hv p hp; simp [vsz]; omega
        · have := listsB_mem r y hr p hp; simp [vsz]; omega
/-- What List answers. -/
def flistA (l : List Fld) (n : List UInt8) : List (List UInt8) × Int := match listsB (allB l n) with
  | some x => (x, 0)
  | none => ([], 14)
/-- What Tokens answers. -/
def toksA (l : List Fld) (n : List UInt8) : List (List UInt8) × Int := match listsB (allB l n) with
  | some x => if x.all tokB = true then (x.map low, 0) else ([], 10)
  | none => ([], 14)
def hasA (l : List Fld) (n t : List UInt8) : Bool := decide ((toksA l n).2 = 0) && (toksA l n).1.contains (low t)
def nCL : List UInt8 := [67, 111, 110, 116, 101, 110, 116, 45, 76, 101, 110, 103, 116, 104]
def nTE : List UInt8 := [84, 114, 97, 110, 115, 102, 101, 114, 45, 69, 110, 99, 111, 100, 105, 110, 103]
def nCO : List UInt8 := [67, 111, 110, 110, 101, 99, 116, 105, 111, 110]
def vChunked : List UInt8 := [99, 104, 117, 110, 107, 101, 100]
def vClose : List UInt8 := [99, 108, 111, 115, 101]
def vKeep : List UInt8 := [107, 101, 101, 112, 45, 97, 108, 105, 118, 101]
/-- The number that digits say; -1: none. -/
def decA (x : List UInt8) : Int := if (numAns 10 1099511627776 x).2 = 0 then (numAns 10 1099511627776 x).1 else -1
def lengthA (l : List Fld) : Int × Bool × Int := if allB l nCL = [] then (0, false, 0) else match listsB (allB l nCL) with
  | some (x :: r) => if decA x < 0 ∨ (r.all fun y => decide (decA y = decA x)) = false then (0, false, 66) else (decA x, true, 0)
  | _ => (0, false, 66)
def codingsA (l : List Fld) : List (List UInt8) × Bool × Int := if allB l nTE = [] then ([], false, 0) else if (toksA l nTE).2 = 0 then ((toksA l nTE).1, true, 0) else ([], false, 67)
/-- How a body is framed: kind, length, error. -/
def framingA (l : List Fld) (old : Bool) : Int × Int × Int :=
  if (codingsA l).2.2 ≠ 0 ∨ ((codingsA l).2.1 = true ∧ (old = true ∨ (codingsA l).1 ≠ [vChunked])) then (0, 0, 67)
  else if (lengthA l).2.2 ≠ 0 then (0, 0, (lengthA l).2.2)
  else if (codingsA l).2.1 = true ∧ (lengthA l).2.1 = true then (0, 0, 68)
  else if (codingsA l).2.1 = true then (2, 0, 0)
  else if (lengthA l).2.1 = true then (1, (lengthA l).1, 0)
  else (0, 0, 0)
def persistA (l : List Fld) (old : Bool) : Bool := decide ((toksA l nCO).2 = 0) && !(toksA l nCO).1.contains vClose && (!old || (toksA l nCO).1.contains vKeep)

/-- Where a line, or a status line, ends: behind it; a wrong byte's place; or not at all. -/
inductive LR where
  | ok (n : Nat)
  | bad (n : Nat)
  | part
def verT : List UInt8 := [72, 84, 84, 80, 47, 49, 46]
/-- May a byte stand at that place of a status line? -/
def stB (i : Nat) (b : UInt8) : Bool := if i < 7 then decide (verT[i]? = some b) else if i = 7 then b == 48 || b == 49 else if i = 9 then decide (49 ≤ b.toNat ∧ b.toNat ≤ 53) else if i = 10 ∨ i = 11 then isDig b else b == 32
def preR (s : List UInt8) : Nat → Nat → LR
  | 0, i => .ok i
  | n + 1, i => match s[i]? with
    | none => .part
    | some b => if stB i b = true then preR s n (i + 1) else .bad i
/-- Behind the thirteenth byte: the reason, k bytes of it ahead. -/
def reasonR : List UInt8 → Nat → Nat → LR
  | [], _, _ => .part
  | b :: r, k, i => if b = 13 then (match r with
      | [] => .part
      | c :: _ => if c = 10 then .ok (i + 2) else .bad (i + 1))
    else if 256 ≤ k ∨ fcB b = false then .bad i else reasonR r (k + 1) (i + 1)
def stR (s : List UInt8) : LR := match preR s 13 0 with
  | .ok _ => reasonR (s.drop 13) 0 13
  | x => x
/-- A line: back: the byte ahead is a 13 of the line. -/
def lineS (back : Bool) : List UInt8 → Nat → LR
  | [], _ => .part
  | b :: r, i => if back = true then (if b = 10 then .ok (i + 1) else .bad i) else if b = 10 then .bad i else lineS (decide (b = 13)) r (i + 1)
def lineR (t : List UInt8) (a : Nat) : LR := lineS false (t.drop a) a
/-- What a head says, or what is wrong with it, and where. -/
inductive HD where
  | ok (fs : List Fld) (e : Nat)
  | bad (n : Int) (e : Int)
  | part
def fieldsR (t : List UInt8) (old : Bool) : Nat → Nat → List Fld → HD
  | 0, _, _ => .part
  | n + 1, a, fs => match lineR t a with
    | .part => .part
    | .bad i => .bad i 122
    | .ok e => if (t.drop a).take (e - 2 - a) = [] then (if (framingA fs old).2.2 ≠ 0 then .bad a (framingA fs old).2.2 else .ok fs e)
      else if 100 ≤ fs.length then .bad a 65
      else if (lineX ((t.drop a).take (e - 2 - a))).2.2 ≠ 0 then .bad (a + (lineX ((t.drop a).take (e - 2 - a))).2.1) (lineX ((t.drop a).take (e - 2 - a))).2.2
      else fieldsR t old n e (fs ++ [(lineX ((t.drop a).take (e - 2 - a))).1])
/-- The usual reasons. -/
def reasS : List (Int × List UInt8) := [(500, [73, 110, 116, 101, 114, 110, 97, 108, 32, 83, 101, 114, 118, 101, 114, 32, 69, 114, 114, 111, 114]), (501, [78, 111, 116, 32, 73, 109, 112, 108, 101, 109, 101, 110, 116, 101, 100]), (502, [66, 97, 100, 32, 71, 97, 116, 101, 119, 97, 121]), (503, [83, 101, 114, 118, 105, 99, 101, 32, 85, 110, 97, 118, 97, 105, 108, 97, 98, 108, 101]), (504, [71, 97, 116, 101, 119, 97, 121, 32, 84, 105, 109, 101, 111, 117, 116]), (505, [72, 84, 84, 80, 32, 86, 101, 114, 115, 105, 111, 110, 32, 78, 111, 116, 32, 83, 117, 112, 112, 111, 114, 116, 101, 100])]
def reasW : List (Int × List UInt8) := [(400, [66, 97, 100, 32, 82, 101, 113, 117, 101, 115, 116]), (401, [85, 110, 97, 117, 116, 104, 111, 114, 105, 122, 101, 100]), (403, [70, 111, 114, 98, 105, 100, 100, 101, 110]), (404, [78, 111, 116, 32, 70, 111, 117, 110, 100]), (405, [77, 101, 116, 104, 111, 100, 32, 78, 111, 116, 32, 65, 108, 108, 111, 119, 101, 100]), (406, [78, 111, 116, 32, 65, 99, 99, 101, 112, 116, 97, 98, 108, 101]), (408, [82, 101, 113, 117, 101, 115, 116, 32, 84, 105, 109, 101, 111, 117, 116]), (411, [76, 101, 110, 103, 116, 104, 32, 82, 101, 113, 117, 105, 114, 101, 100]), (412, [80, 114, 101, 99, 111, 110, 100, 105, 116, 105, 111, 110, 32, 70, 97, 105, 108, 101, 100]), (413, [67, 111, 110, 116, 101, 110, 116, 32, 84, 111, 111, 32, 76, 97, 114, 103, 101]), (414, [85, 82, 73, 32, 84, 111, 111, 32, 76, 111, 110, 103]), (415, [85, 110, 115, 117, 112, 112, 111, 114, 116, 101, 100, 32, 77, 101, 100, 105, 97, 32, 84, 121, 112, 101]), (416, [82, 97, 110, 103, 101, 32, 78, 111, 116, 32, 83, 97, 116, 105, 115, 102, 105, 97, 98, 108, 101]), (417, [69, 120, 112, 101, 99, 116, 97, 116, 105, 111, 110, 32, 70, 97, 105, 108, 101, 100]), (421, [77, 105, 115, 100, 105, 114, 101, 99, 116, 101, 100, 32, 82, 101, 113, 117, 101, 115, 116]), (422, [85, 110, 112, 114, 111, 99, 101, 115, 115, 97, 98, 108, 101, 32, 67, 111, 110, 116, 101, 110, 116]), (426, [85, 112, 103, 114, 97, 100, 101, 32, 82, 101, 113, 117, 105, 114, 101, 100]), (428, [80, 114, 101, 99, 111, 110, 100, 105, 116, 105, 111, 110, 32, 82, 101, 113, 117, 105, 114, 101, 100]), (429, [84, 111, 111, 32, 77, 97, 110, 121, 32, 82, 101, 113, 117, 101, 115, 116, 115]), (431, [82, 101, 113, 117, 101, 115, 116, 32, 72, 101, 97, 100, 101, 114, 32, 70, 105, 101, 108, 100, 115, 32, 84, 111, 111, 32, 76, 97, 114, 103, 101])]
def reasT : List (Int × List UInt8) := [(100, [67, 111, 110, 116, 105, 110, 117, 101]), (101, [83, 119, 105, 116, 99, 104, 105, 110, 103, 32, 80, 114, 111, 116, 111, 99, 111, 108, 115]), (200, [79, 75]), (201, [67, 114, 101, 97, 116, 101, 100]), (202, [65, 99, 99, 101, 112, 116, 101, 100]), (204, [78, 111, 32, 67, 111, 110, 116, 101, 110, 116]), (206, [80, 97, 114, 116, 105, 97, 108, 32, 67, 111, 110, 116, 101, 110, 116]), (301, [77, 111, 118, 101, 100, 32, 80, 101, 114, 109, 97, 110, 101, 110, 116, 108, 121]), (302, [70, 111, 117, 110, 100]), (303, [83, 101, 101, 32, 79, 116, 104, 101, 114]), (304, [78, 111, 116, 32, 77, 111, 100, 105, 102, 105, 101, 100]), (307, [84, 101, 109, 112, 111, 114, 97, 114, 121, 32, 82, 101, 100, 105, 114, 101, 99, 116]), (308, [80, 101, 114, 109, 97, 110, 101, 110, 116, 32, 82, 101, 100, 105, 114, 101, 99, 116])]
def look (t : List (Int × List UInt8)) (s : Int) : Option (List UInt8) := (t.find? fun p => p.1 == s).map fun p => p.2
def serverB (s : Int) : List UInt8 := (look reasS s).getD []
def wrongB (s : Int) : List UInt8 := (look reasW s).getD (serverB s)
def reasonB (s : Int) : List UInt8 := (look reasT s).getD (wrongB s)
structure Resp where
  status : Int
  reason : List UInt8
  fields : List Fld
  body : List UInt8
structure Mann where
  method : List UInt8
  close : Bool
  old : Bool
  chunked : Bool
  sizes : List Int
  trailers : List Fld
def Resp.avs (r : Resp) : List AV := [.int .i64 r.status, .str r.reason, .sl false 2 (flds r.fields), .str r.body]
def Mann.avs (h : Mann) : List AV := [.str h.method, .bool h.close, .bool h.old, .bool h.chunked, .sl false 1 (ints h.sizes), .sl false 2 (flds h.trailers)]
def neverS (s : Int) : Bool := (decide (100 ≤ s) && decide (s ≤ 199)) || s == 204 || s == 304
def vHead : List UInt8 := [72, 69, 65, 68]
def vConnect : List UInt8 := [67, 79, 78, 78, 69, 67, 84]
def bodylessB (m : List UInt8) (s : Int) : Bool := neverS s || m == vHead || (m == vConnect && (decide (200 ≤ s) && decide (s ≤ 299)))
def interimB (s : Int) : Bool := decide (100 ≤ s) && (decide (s ≤ 199) && s != 101)
def framedB (s : Int) (f : Fld) : Bool := lowEq f.name nCL || (lowEq f.name nTE || (lowEq f.name nCO && s != 101))
/-- What is wrong with a response and a manner. -/
def wrongM (r : Resp) (h : Mann) : Int :=
  if r.status < 100 ∨ 599 < r.status then 120 else if 256 < r.reason.length ∨ fldB r.reason = false then 121
  else if (r.fields.any (framedB r.status)) = true then 123
  else if ((neverS r.status && (decide (r.body ≠ []) || h.chunked)) || ((h.chunked && h.old) || (!h.chunked && (decide (h.sizes ≠ []) || decide (h.trailers ≠ []))))) = true then 123 else 0
@[irreducible] def moreM (r : Resp) (h : Mann) : List Fld := r.fields ++ ((if h.chunked = true then [⟨nTE, vChunked⟩] else if neverS r.status = true then [] else [⟨nCL, Go.Lib.itoa r.body.length⟩]) ++
  (if 199 < r.status ∧ h.close = true then [⟨nCO, vClose⟩] else if 199 < r.status ∧ h.old = true then [⟨nCO, vKeep⟩] else []))
@[irreducible] def printF (l : List Fld) : List UInt8 × Int := if 100 < l.length then ([], 65) else match l.find? fun f => decide ((lineP f).2 ≠ 0) with
  | some f => ([], (lineP f).2)
  | none => (linesT l, 0)
def headP (r : Resp) (h : Mann) : List UInt8 × Int := if wrongM r h ≠ 0 then ([], wrongM r h) else if (printF (moreM r h)).2 ≠ 0 then ([], (printF (moreM r h)).2)
  else (verT ++ ([49, 32] ++ (Go.Lib.itoa r.status ++ ([32] ++ ((if r.reason = [] then reasonB r.status else r.reason) ++ ([13, 10] ++ ((printF (moreM r h)).1 ++ [13, 10])))))), 0)
def printP (r : Resp) (h : Mann) : List UInt8 × Int := if (headP r h).2 ≠ 0 then ([], (headP r h).2) else if 65536 < (headP r h).1.length then ([], 125)
  else if h.chunked = true ∧ (encAns r.body h.sizes h.trailers).2 ≠ 0 then ([], (encAns r.body h.sizes h.trailers).2)
  else if bodylessB h.method r.status = true then ((headP r h).1, 0)
  else ((headP r h).1 ++ (if h.chunked = true then (encAns r.body h.sizes h.trailers).1 else r.body), 0)
/-- A reply: minor, status, reason, fields, body, trailers, kind, length, persist. -/
structure Rep where
  minor : Int
  status : Int
  reason : List UInt8
  fields : List Fld
  body : List UInt8
  trailers : List Fld
  kind : Int
  length : Int
  persist : Bool
def rep0 : Rep := ⟨0, 0, [], [], [], [], 0, 0, false⟩
def dg (s : List UInt8) (i : Nat) : Int := ((s[i]?.getD 0).toNat : Int) - 48
/-- The head that a text begins with. -/
def headM (s : List UInt8) : Rep × Int × Int :=
  let t := s.take 65536
  let bad := fun (n e : Int) => (rep0, n, e)
  let part := if 65536 < s.length then bad 65536 125 else bad s.length 124
  match stR t with
  | .part => part
  | .bad i => bad i 122
  | .ok a => match fieldsR t (decide (dg t 7 = 0)) (t.length + 1) a [] with
    | .part => part
    | .bad n e => bad n e
    | .ok fs e => (⟨dg t 7, 100 * dg t 9 + 10 * dg t 10 + dg t 11, (t.drop 13).take (a - 2 - 13), fs, [], [], (framingA fs (decide (dg t 7 = 0))).1, (framingA fs (decide (dg t 7 = 0))).2.1, persistA fs (decide (dg t 7 = 0))⟩, e, 0)
def parseM (m s : List UInt8) (most : Int) (ended : Bool) : Rep × Int × Int :=
  if most < 0 then (rep0, 0, 1)
  else if (headM s).2.2 ≠ 0 then (rep0, (headM s).2.1, (headM s).2.2)
  else if bodylessB m (headM s).1.status = true then headM s
  else
    let n := (headM s).2.1
    let rest := s.drop n.toNat
    let r := (headM s).1
    if r.kind = 2 then
      (let d := decodeD rest most 65536 100
       if d.2.2.2 = 0 then ({ r with body := d.1, trailers := d.2.1 }, n + d.2.2.1, 0)
       else (rep0, n + d.2.2.1, if d.2.2.2 = 105 then 124 else if d.2.2.2 = 102 then 125 else d.2.2.2))
    else if r.kind = 1 then
      (if most < r.length then (rep0, n, 125) else if (rest.length : Int) < r.length then (rep0, s.length, 124) else ({ r with body := rest.take r.length.toNat }, n + r.length, 0))
    else if most < rest.length then (rep0, n + most, 125) else if ended = false then (rep0, s.length, 124) else ({ r with body := rest, persist := false }, s.length, 0)
end Go.Proofs.YtcdkcaocfioigaaGreatDoor

set_option linter.unusedVariables false
set_option linter.unnecessarySimpa false
set_option linter.unusedSimpArgs false
set_option linter.unusedSectionVars false
set_option maxRecDepth 100000
namespace Go.Proofs.YtcdkcaocfioigaaGreatDoor
open Go Go.RowKit Go.Proofs

section
variable (E : Env) (H : Hp) (Q : AV → Hp → Prop)
set_option maxRecDepth 100000 in
set_option maxHeartbeats 4000000 in
theorem number_ok10 (s : ByteArray) (most : Int) (hs : s.size ≤ 140737488351232) (hm1 : -9223372036854775808 ≤ most) (hm2 : most ≤ 9223372036854775807) (W : World) :
    Calls Tryz.prog 188 #[.string s, .int .i64 most, .int .i64 10] W fun e w' => e = .returned (.tuple #[.int .i64 (numAns 10 most s.data.toList).1, .int .i64 (numAns 10 most s.data.toList).2]) ∧ Frm (fun _ => False) W w' := by
  obtain ⟨q, hq⟩ : ∃ q, most.tdiv 10 = q := ⟨_, rfl⟩
  have hq1 : 0 ≤ most → 10 * q ≤ most ∧ most < 10 * q + 10 := fun h => by
    rw [Int.tdiv_eq_ediv_of_nonneg h] at hq
    omega
  have HQ1 := Lib.hid hq1
  clear hq1
  go_enter Tryz.func188, Tryz.ntmps188
  by_cases he : s.data.toList = []
  · have hn : numAns 10 most s.data.toList = (0, 11) := by rw [numAns, if_pos he]
    have he' : s.toList.isEmpty = true := by rw [ba_toList, he]; rfl
    go_wp2
    go_ret2
    rw [hn]
    exact ⟨rfl, Frm.refl _ _⟩
  · have he' : s.toList.isEmpty = false := by rw [ba_toList]; simpa using he
    have HE := Lib.hid he
    clear he
    go_wp2
    clear he'
    go_loopw [8, 9, 18] (fun n big i wr => ∃ (k : Nat) (v : Int) (bg : Bool), k ≤ s.size ∧ i = .int .i64 k ∧ n = .int .i64 v ∧ big = .bool bg ∧ okDigs 10 (s.data.toList.take k) = true ∧ bg = decide (most < 0 ∨ most < numOf 10 (s.data.toList.take k)) ∧ (bg = false → v = numOf 10 (s.data.toList.take k)) ∧ Frm (fun _ => False) W wr) (fun _ _ i _ => s.size - (intOf i).toNat)
    case atStart =>
      refine ⟨0, 0, decide (most < 0), Nat.zero_le _, rfl, rfl, rfl, rfl, ?_, fun _ => rfl, Frm.refl _ _⟩
      have : numOf 10 (s.data.toList.take 0) = 0 := rfl
      rw [this]; simp
    case round =>
      obtain ⟨k, v, bg, hk, rfl, rfl, rfl, hok, hbg, hv, hf⟩ := hrel
      have HF := Lib.hid hf
      have HOK := Lib.hid hok
      have hnn := numOf_nonneg 10 (by omega) _ hok
      obtain ⟨m, hm⟩ : ∃ m, m = numOf 10 (s.data.toList.take k) := ⟨_, rfl⟩
      rw [← hm] at hbg hv hnn
      have HM := Lib.hid hm
      clear hf hok hm
      by_cases hlt : k < s.size
      · obtain ⟨x, hx⟩ : ∃ x, s.data.toList[k]? = some x := ⟨_, List.getElem?_eq_getElem (by rw [size_toList]; omega)⟩
        have HX := Lib.hid hx
        clear hx
        have hstep := numOf_step 10 _ _ _ HX.out
        have hostep := okDigs_step 10 _ _ _ HX.out
        rw [← HM.out] at hstep
        rw [HOK.out, Bool.true_and] at hostep
        have HB := Lib.hid hbg
        have HV := Lib.hid hv
        have hx16 := dig_lt x
        obtain ⟨d, hd⟩ : ∃ d, d = dig x := ⟨_, rfl⟩
        rw [← hd] at hstep hostep hx16
        have HS := Lib.hid hstep
        have HO := Lib.hid hostep
        clear hbg hv hstep hostep
        go_wp2_with fail
        refine (lower_ok _ (Nat.le_trans (extract_size _ _ _) hs) wr).mono ?_
        rintro e w2 ⟨rfl, hf2⟩
        have h1 : tx (low (s.extract k (k + 1)).data.toList) = ⟨#[lowB x]⟩ := by rw [extract_one s k x HX.out]; rfl
        rw [h1]
        clear h1
        have HF2 := Lib.hid (HF.out.trans hf2)
        clear hf2
        go_wp2_with fail
        refine (strings_indexByte _ _ w2).mono ?_
        rintro e w3 ⟨rfl, rfl⟩
        have h2 : Lib.indexByte (⟨#[48, 49, 50, 51, 52, 53, 54, 55, 56, 57, 97, 98, 99, 100, 101, 102]⟩ : ByteArray).data.toList ((((⟨#[lowB x]⟩ : ByteArray)[0]'(by show 0 < 1; decide)).toNat : Int).toNat.toUInt8) = d := by
          rw [hd]
          show Lib.indexByte digs (((lowB x).toNat : Int).toNat.toUInt8) = Lib.indexByte digs (lowB x)
          simp
        rw [h2]
        clear h2
        have HD := Lib.hid hd
        clear hd
        have hbad : (d < 0 ∨ 10 ≤ d) → numAns 10 most s.data.toList = (0, 11) := fun h => by
          rw [numAns, if_neg HE.out, if_pos (okDigs_bad 10 _ _ _ HX.out (by rw [← HD.out]; omega))]
        have HBad := Lib.hid hbad
        clear hbad
        by_cases hd0 : d < 0
        · go_wp2
          go_ret2
          rw [HBad.out (.inl hd0)]
          exact ⟨rfl, HF2.out⟩
        · by_cases hd1 : 10 ≤ d
          · go_wp2
            go_ret2
            rw [HBad.out (.inr hd1)]
            exact ⟨rfl, HF2.out⟩
          · have HOK' : Hid (okDigs 10 (s.data.toList.take (k + 1)) = true) := HO.out.trans (decide_eq_true ⟨by omega, by omega⟩)
            cases bg with
            | true =>
              go_wp2
              go_roundw
              case rel =>
                refine ⟨k + 1, v, true, by omega, by go_num, rfl, rfl, HOK'.out, ?_, (fun h => by cases h), HF2.out⟩
                have h1 := of_decide_eq_true HB.out.symm
                rw [HS.out]
                exact (decide_eq_true (by omega)).symm
              case measure => simp [intOf]; omega
            | false =>
              have hv := HV.out rfl
              subst hv
              have h1 := of_decide_eq_false HB.out.symm
              have h1a : 0 ≤ most := by omega
              have h1b : v ≤ most := by omega
              have h1c := (HQ1.out h1a).1
              have h1d := (HQ1.out h1a).2
              clear h1
              by_cases hA : q < v
              · go_wp2
                go_roundw
                case rel =>
                  refine ⟨k + 1, v, true, by omega, by go_num, rfl, rfl, HOK'.out, ?_, (fun h => by cases h), HF2.out⟩
                  rw [HS.out]
                  exact (decide_eq_true (by omega)).symm
                case measure => simp [intOf]; omega
              · by_cases hB : most - d < v * 10
                · go_wp2
                  go_roundw
                  case rel =>
                    refine ⟨k + 1, v, true, by omega, by go_num, rfl, rfl, HOK'.out, ?_, (fun h => by cases h), HF2.out⟩
                    rw [HS.out]
                    exact (decide_eq_true (by omega)).symm
                  case measure => simp [intOf]; omega
                · go_wp2
                  go_roundw
                  case rel =>
                    refine ⟨k + 1, v * 10 + d, false, by omega, by go_num, by go_num, rfl, HOK'.out, ?_, (fun _ => HS.out.symm), HF2.out⟩
                    rw [HS.out]
                    exact (decide_eq_false (by omega)).symm
                  case measure => simp [intOf]; omega
      · obtain rfl : k = s.size := by omega
        have ht : s.data.toList.take s.size = s.data.toList := List.take_of_length_le (by rw [size_toList]; omega)
        have hok := HOK.out
        have hm := HM.out
        rw [ht] at hok hm
        have HN : Hid (numAns 10 most s.data.toList = if most < 0 ∨ most < m then (0, 12) else (m, 0)) := by
          show numAns 10 most s.data.toList = _
          rw [numAns, if_neg HE.out, if_neg (by rw [hok]; decide), ← hm]
        clear hok hm ht
        cases bg with
        | true =>
          have h1 := of_decide_eq_true hbg.symm
          rw [if_pos h1] at HN
          clear hbg hv h1
          go_wp2
          go_ret2
          rw [HN.out]
          exact ⟨rfl, HF.out⟩
        | false =>
          have h1 := of_decide_eq_false hbg.symm
          have hv' := hv rfl
          subst hv'
          rw [if_neg h1] at HN
          clear hbg hv h1
          go_wp2
          go_ret2
          rw [HN.out]
          exact ⟨rfl, HF.out⟩
set_option maxRecDepth 100000 in
set_option maxHeartbeats 1000000 in
theorem decimal_ok (s : ByteArray) (most : Int) (hs : s.size ≤ 140737488351232) (hm1 : -9223372036854775808 ≤ most) (hm2 : most ≤ 9223372036854775807) (W : World) :
    Calls Tryz.prog 166 #[.string s, .int .i64 most] W fun e w' => e = .returned (.tuple #[.int .i64 (numAns 10 most s.data.toList).1, .int .i64 (numAns 10 most s.data.toList).2]) ∧ Frm (fun _ => False) W w' := by
  go_enter Tryz.func166, Tryz.ntmps166
  go_wp2_with fail
  refine (number_ok10 s most hs hm1 hm2 W).mono ?_
  rintro e w1 ⟨rfl, hf⟩
  go_wp2
  go_ret2
  exact ⟨rfl, hf⟩
theorem decimal_pc (l : List UInt8) (most : Int) (hl : l.length ≤ cap) (hm1 : -9223372036854775808 ≤ most) (hm2 : most ≤ 9223372036854775807) (hQ : Q (.tup [.int .i64 (numAns 10 most l).1, .int .i64 (numAns 10 most l).2]) H) :
    PC Tryz.prog E 166 [.str l, .int .i64 most] H Q := by
  refine pc_of_calls (v := .tup [.int .i64 (numAns 10 most l).1, .int .i64 (numAns 10 most l).2]) (by kernel_rfl) (fun _ => True) (fun w hw => trivial) (fun w β Rd cargs hS hsz hargs => ?_) (.tup _ (fun x hx => by simp at hx; rcases hx with rfl | rfl <;> exact .int _ _)) rfl hQ
  obtain ⟨u, v, rfl, hu, hv⟩ := args2 hsz hargs
  obtain ⟨s, rfl, rfl, hs⟩ := rel_str hu
  obtain rfl := rel_int hv
  refine (decimal_ok s most (by rw [← size_toList]; exact hl) hm1 hm2 w).mono ?_
  rintro e w' ⟨rfl, hf⟩
  exact ⟨_, rfl, hf, rel_tup2⟩
def listInv1 (l : List UInt8) (H : Hp) (fr : List AV) (H' : Hp) : Prop := H' = H ∧ ∃ (f i : Nat) (out : List (List UInt8)), f ≤ i ∧ i ≤ l.length ∧ out.length ≤ i ∧ cutIs l out f i ∧ ∃ x : Nat → AV, fr = [.str l, x 1, x 2, x 3, .sl true 1 (strs out), .int .i64 f, .int .i64 i, x 7, x 8, x 9, x 10, x 11, x 12, x 13, x 14, x 15, x 16, x 17, x 18, x 19, x 20, x 21, x 22, x 23, x 24, x 25, x 26, x 27, x 28, x 29, x 30, x 31, x 32, x 33, x 34, x 35, x 36, x 37, x 38, x 39, x 40, x 41, x 42, x 43, x 44, x 45, x 46, x 47, x 48, x 49, x 50, x 51, x 52, x 53, x 54, x 55, x 56, x 57, x 58, x 59, x 60, x 61, x 62, x 63, x 64, x 65, x 66, x 67, x 68, x 69, x 70, x 71, x 72, x 73]
def listInv2 (ps : List (List UInt8)) (H : Hp) (fr : List AV) (H' : Hp) : Prop := H' = H ∧ ∃ (i : Nat) (own : Bool), i ≤ ps.length ∧ ∃ x : Nat → AV, fr = [x 0, x 1, x 2, x 3, x 4, x 5, x 6, x 7, x 8, x 9, .sl true 1 (strs (keepB (ps.take i))), x 11, x 12, x 13, x 14, x 15, x 16, x 17, x 18, x 19, x 20, x 21, x 22, x 23, x 24, x 25, x 26, x 27, x 28, x 29, x 30, x 31, x 32, x 33, x 34, x 35, x 36, x 37, x 38, x 39, x 40, x 41, x 42, x 43, x 44, x 45, x 46, x 47, x 48, x 49, x 50, x 51, x 52, x 53, x 54, x 55, x 56, x 57, .sl own 1 (strs ps), .int .i64 ps.length, .int .i64 i, x 61, x 62, x 63, x 64, x 65, x 66, x 67, x 68, x 69, x 70, x 71, x 72, x 73]
theorem list_pc (l : List UInt8) (hl : l.length ≤ 4194304) (hQ : Q (.tup [.sl false 1 (strs (listAns l).1), .int .i64 (listAns l).2]) H) : PC Tryz.prog E 187 [.str l] H Q := by
  refine pc_enter Tryz.func187 rfl [43, 53, 68] [] (by kernel_rfl) (fun hB => ?_)
  simp [Tryz.ntmps187, Tryz.results187, List.replicate_succ]
  refine VL_nil 4 1 (by rfl) ?_
  simp only [List.set_cons_succ, List.set_cons_zero]
  refine VL_go (listInv1 l H) (fun fr _ => l.length - (ai (aget fr 6)).toNat) ⟨rfl, 0, 0, [], by omega, by omega, by simp, cutIs_start l, fr_intro (by simp [strs])⟩ ?_
  rintro fr H' ⟨rfl, f, i, out, hf, hi, hout, hc, x, rfl⟩
  have hm : out.length + 1 ≤ maxLen ∧ (out.length + 1) * 16 ≤ 140737488355328 := by unfold maxLen; omega
  by_cases h : i < l.length
  · have t1 : ((i : Int) == (l.length : Int)) = false := by simp; omega
    have hw : IntKind.i64.wrap ((i : Int) + 1) = i + 1 := wrap_in (by omega) (by omega)
    obtain ⟨b, hb⟩ : ∃ b, l[i]? = some b := ⟨_, List.getElem?_eq_getElem h⟩
    have hat := lat_eq hb
    have hbn := b.toNat_lt
    by_cases b34 : b.toNat = 34
    · have hx34 : b = 34 := UInt8.toNat_inj.1 b34
      have hb' : l[i]? = some 34 := by rw [hb, hx34]
      have t2 : ((b.toNat : Int) == 34) = true := by simp; omega
      have hd : (l.drop i).take (l.length - i) = l.drop i := List.take_of_length_le (by rw [List.length_drop]; omega)
      simp [t1, hat, t2, hd, hi]
      refine unquote_pc E _ _ (l.drop i) (by rw [List.length_drop]; omega) ?_
      cases hu : unquote (l.drop i) with
      | none =>
        have ha : unqAns (l.drop i) = ([], 0, 13) := by unfold unqAns; rw [hu]
        have hbad := listAns_bad (cutIs_bad hc hf hb' hu)
        rw [hbad] at hQ
        simp [ha]
        exact aPost_same0 hB rfl (nilV_tup2 1 _ rfl) (by simp [strs]) hQ
      | some p =>
        obtain ⟨y, k⟩ := p
        have ha : unqAns (l.drop i) = (y, (k : Int), 0) := by unfold unqAns; rw [hu]
        have hk := unquote_le hu
        rw [List.length_drop] at hk
        have hw2 : IntKind.i64.wrap ((i : Int) + k) = i + k := wrap_in (by omega) (by omega)
        simp [ha, hw2]
        exact Kloop_normal ⟨rfl, f, i + k, out, by omega, by omega, by omega, cutIs_quote hc hf hb' hu, fr_intro (by simp)⟩ (by simp; omega)
    · have t2 : ((b.toNat : Int) == 34) = false := by simp; omega
      have ne34 : b ≠ 34 := by rintro rfl; exact b34 rfl
      by_cases b44 : b.toNat = 44
      · have hx44 : b = 44 := UInt8.toNat_inj.1 b44
        have hb' : l[i]? = some 44 := by rw [hb, hx44]
        have t3 : ((b.toNat : Int) == 44) = true := by simp; omega
        simp [t1, hat, t2, t3, hf, hi, hm, hw]
        exact Kloop_normal ⟨rfl, i + 1, i + 1, out ++ [(l.drop f).take (i - f)], by omega, by omega, by simp; omega, cutIs_comma hc hf hb', fr_intro (by simp [strs])⟩ (by simp; omega)
      · have t3 : ((b.toNat : Int) == 44) = false := by simp; omega
        have ne44 : b ≠ 44 := by rintro rfl; exact b44 rfl
        simp [t1, hat, t2, t3, hw]
        exact Kloop_normal ⟨rfl, f, i + 1, out, by omega, by omega, by omega, cutIs_plain hc hf hb ne44 ne34, fr_intro (by simp)⟩ (by simp; omega)
  · obtain rfl : i = l.length := by omega
    have hcut := cutIs_end hc hf (Nat.le_refl _)
    have t1 : ((l.length : Int) == (l.length : Int)) = true := by simp
    obtain ⟨ps, hps⟩ : ∃ ps, out ++ [(l.drop f).take (l.length - f)] = ps := ⟨_, rfl⟩
    have hpl : ps.length = out.length + 1 := by rw [← hps]; simp
    rw [hps] at hcut
    have hans := listAns_ok hcut
    rw [hans] at hQ
    simp [hf, hm]
    refine VL_nil 10 1 (by rfl) ?_
    simp only [List.set_cons_succ, List.set_cons_zero]
    refine VL_go (listInv2 ps H') (fun fr _ => ps.length - (ai (aget fr 60)).toNat) ⟨rfl, 0, true, by omega, fr_intro (by rw [hpl, ← hps]; simp [strs, keepB])⟩ ?_
    rintro fr H'' ⟨rfl, i, own, hi2, y, rfl⟩
    have hkl : (keepB (ps.take i)).length ≤ ps.length := by
      have := keepB_le (ps.take i)
      rw [List.length_take] at this; omega
    have hm2 : (keepB (ps.take i)).length + 1 ≤ maxLen ∧ ((keepB (ps.take i)).length + 1) * 16 ≤ 140737488355328 := by unfold maxLen; omega
    by_cases h2 : i < ps.length
    · obtain ⟨p, hp⟩ : ∃ b, ps[i]? = some b := ⟨_, List.getElem?_eq_getElem h2⟩
      have hat := strs_at hp
      have hw : IntKind.i64.wrap ((i : Int) + 1) = i + 1 := wrap_in (by omega) (by omega)
      have hst := keepB_take ps i p hp
      have hpl2 : p.length ≤ cap := by
        have := cut_mem _ [] l ps (Nat.le_refl _) hcut p (List.mem_of_getElem? hp)
        simp only [cap]; simp at this; omega
      simp [h2, hat]
      refine trim_pc E _ _ p hpl2 ?_
      cases ht : (trimB p).isEmpty
      · have hne : (trimB p != []) = true := by rw [len_ne _ 0, ht]; rfl
        rw [ht] at hst
        simp [hne, hm2, hw]
        exact Kloop_normal ⟨rfl, i + 1, own, by omega, fr_intro (by rw [hst]; simp [strs])⟩ (by simp; omega)
      · have hne : (trimB p != []) = false := by rw [len_ne _ 0, ht]; rfl
        rw [ht] at hst
        simp [hne, hw]
        exact Kloop_normal ⟨rfl, i + 1, own, by omega, fr_intro (by rw [hst]; simp [strs])⟩ (by simp; omega)
    · have ha : ps.take i = ps := List.take_of_length_le (by omega)
      simp [h2]
      rw [ha]
      exact aPost_same0 hB rfl (nilV_refl _) (by simp) hQ

theorem osame_pc (a b : List UInt8) (ha : a.length ≤ cap) (hb : b.length ≤ cap) (hQ : Q (.bool (low a == low b)) H) : PC Tryz.prog E 71 [.str a, .str b] H Q := by
  refine pc_enter Tryz.func71 rfl [] [] (by kernel_rfl) (fun hB => ?_)
  simp [Tryz.ntmps71, Tryz.results71, List.replicate_succ]
  refine lower_pc E _ _ a ha ?_
  simp
  refine lower_pc E _ _ b hb ?_
  simp
  exact aPost_same0 hB rfl (nilV_refl _) (by simp) hQ
end
section
open Go.Lib
/-- .. and the table of tens. -/
def SE2 (E : Env) : Prop := SE E ∧ E.Fix 0 ∧ TabIs Tryz.prog E.w0 "internal/strconv.uint64pow10" .u64 pow10Tab
theorem pow10Named : Tryz.prog.globalNamed "internal/strconv.uint64pow10" = some 0 := by kernel_rfl
theorem SE2.tab {E : Env} (h : SE2 E) {w : World} (hw : ∀ b, E.Fix b → w.heap[b]? = E.w0.heap[b]?) : TabIs Tryz.prog w "internal/strconv.uint64pow10" .u64 pow10Tab := by
  have := h.2.2
  unfold TabIs World.var? at this ⊢
  rw [pow10Named] at this ⊢
  simp only [Option.bind_some] at this ⊢
  rw [hw _ h.2.1]; exact this
section
variable (E : Env) (H : Hp) (Q : AV → Hp → Prop)
theorem itoa_le (n : Int) (h0 : -9223372036854775808 ≤ n) (h1 : n ≤ 9223372036854775807) : (itoa n).length ≤ 21 ∧ (decDigits n.natAbs).length ≤ 21 := by
  have h := itoa_length_le n h0 h1
  refine ⟨h, ?_⟩
  unfold itoa at h
  split at h
  · simp at h; omega
  · have : n.toNat = n.natAbs := by omega
    rw [this] at h; exact h
theorem itoa_pc (hE : SE2 E) (n : Int) (h0 : -9223372036854775808 ≤ n) (h1 : n ≤ 9223372036854775807) (hQ : Q (.str (itoa n)) H) : PC Tryz.prog E 47 [.int .i64 n] H Q := by
  refine pc_of_calls (v := .str (itoa n)) (by kernel_rfl) (fun w => TabIs Tryz.prog w "internal/strconv.uint64pow10" .u64 pow10Tab) (fun w hw => hE.tab hw) (fun w β Rd cargs hS hsz hargs => ?_) (.str _) rfl hQ
  obtain ⟨u, rfl, hu⟩ := args1 hsz hargs
  obtain rfl := rel_int hu
  refine (Any.strconv_Itoa laysM171 n h0 h1 w hS).mono ?_
  rintro e w' ⟨rfl, k, os, rfl⟩
  refine ⟨_, rfl, ⟨rfl, rfl, rfl, by simp [Go.Sort.grow], fun b hb _ => ?_⟩, rel_tx _ (by have := (itoa_le n h0 h1).1; unfold maxLen; omega)⟩
  show (w.heap ++ os)[b]? = _
  rw [Array.getElem?_append_left hb]
end
end
end Go.Proofs.YtcdkcaocfioigaaGreatDoor

set_option linter.unusedVariables false
set_option linter.unnecessarySimpa false
set_option linter.unusedSimpArgs false
set_option linter.unusedSectionVars false
set_option maxRecDepth 100000
namespace Go.Proofs.YtcdkcaocfioigaaGreatDoor
open Go Go.RowKit Go.Proofs

def strL (l : List (List UInt8)) : List AV := l.map AV.str
@[simp] theorem strL_length (l : List (List UInt8)) : (strL l).length = l.length := by simp [strL]
theorem strL_app (l m : List (List UInt8)) : strL (l ++ m) = strL l ++ strL m := by simp [strL]
theorem strs_flat' (l : List (List UInt8)) : (strs l).flatten = strL l := by
  induction l with
  | nil => rfl
  | cons x l ih => show _ :: (strs l).flatten = _; rw [ih]; rfl
theorem strL_str (l : List (List UInt8)) : ∀ x ∈ strL l, ∃ s, x = .str s := fun x hx => by obtain ⟨s, _, rfl⟩ := List.mem_map.1 hx; exact ⟨s, rfl⟩
theorem chop_strL (out : List (List UInt8)) (tail : List AV) : chop 1 out.length (strL out ++ tail) = strs out := by
  rw [chop_one _ _ (by simp), List.take_append_of_le_length (by simp), List.take_of_length_le (by simp)]
  unfold strL strs
  rw [List.map_map]
  rfl
/-- Texts of one's own, behind boxes H0. -/
def SAt (H0 : Hp) (v : AV) (out : List (List UInt8)) (H : Hp) : Prop := ∃ J, H = H0 ++ J ∧ (∀ l ∈ J, ∀ x ∈ l, ∃ z, x = .str z) ∧ ((v = .nil ∧ out = []) ∨
  ∃ J1 tail, J = J1 ++ [strL out ++ tail] ∧ v = .bx (H0.length + J1.length) 0 out.length (out.length + tail.length) 1 ∧ out.length + tail.length ≤ maxLen)
theorem sAt_free {H0 : Hp} {v : AV} {out : List (List UInt8)} {H : Hp} (h : SAt H0 v out H) : v.free = true ∧ v.dis = v := by
  obtain ⟨J, _, _, ⟨rfl, _⟩ | ⟨J1, tail, _, rfl, _⟩⟩ := h <;> exact ⟨rfl, rfl⟩
theorem sAt_bnd {H0 : Hp} {v : AV} {out : List (List UInt8)} {H : Hp} (h : SAt H0 v out H) : Bnd H.length v := by
  obtain ⟨J, rfl, _, ⟨rfl, _⟩ | ⟨J1, tail, rfl, rfl, _⟩⟩ := h
  · exact .nil
  · exact .bx _ _ _ _ _ (by simp)
theorem sAt_bndH {H0 : Hp} {v : AV} {out : List (List UInt8)} {H : Hp} (h : SAt H0 v out H) (hB : BndH H0.length H0) : BndH H.length H := by
  obtain ⟨J, rfl, hJ, _⟩ := h
  intro l hl y hy
  rcases List.mem_append.1 hl with h | h
  · exact (hB l h y hy).mono (by simp)
  · obtain ⟨s, rfl⟩ := hJ l h y hy; exact .str _
section
variable (E : Env) (H : Hp) (Q : AV → Hp → Prop)
def allInv (l : List Fld) (n : List UInt8) (H : Hp) (fr : List AV) (H' : Hp) : Prop := ∃ (J : Hp) (i : Nat), H' = H ++ J ∧ i ≤ l.length ∧ ∃ x : Nat → AV, fr = [x 0, .str n, x 2, x 3, x 4, .sl true 1 (strs (allB (l.take i) n)), x 6, x 7, .sl false 2 (flds l), .int .i64 l.length, .int .i64 i, x 11, x 12, x 13, x 14, x 15, x 16, x 17, x 18, x 19, x 20, x 21, x 22, x 23, x 24]
theorem all_pc (l : List Fld) (n : List UInt8) (hl : fsz l + l.length ≤ 16777216) (hn : n.length ≤ cap) (hQ : Q (.sl false 1 (strs (allB l n))) H) : PC Tryz.prog E 164 [.sl false 2 (flds l), .str n] H Q := by
  refine pc_enter Tryz.func164 rfl [18] [] (by kernel_rfl) (fun hB => ?_)
  simp [Tryz.ntmps164, Tryz.results164, List.replicate_succ]
  refine VL_nil 5 1 (by rfl) ?_
  simp only [List.set_cons_succ, List.set_cons_zero]
  refine VL_go (allInv l n H) (fun fr _ => l.length - (ai (aget fr 10)).toNat) ⟨[], 0, by simp, by omega, fr_intro (by simp [allB, strs])⟩ ?_
  rintro fr H' ⟨J, i, rfl, hi, x, rfl⟩
  by_cases h : i < l.length
  · obtain ⟨f, hf⟩ : ∃ f, l[i]? = some f := ⟨_, List.getElem?_eq_getElem h⟩
    have hat := flds_at hf
    have hfm := fsz_mem hf
    have hw : IntKind.i64.wrap ((i : Int) + 1) = i + 1 := wrap_in (by omega) (by omega)
    have hst := allB_step l n i f hf
    have hal := allB_len (l.take i) n
    rw [List.length_take] at hal
    simp [h, hat]
    refine osame_pc E _ _ f.name n (by simp only [cap]; omega) hn ?_
    cases he : (low f.name == low n) with
    | false =>
      rw [if_neg (by unfold lowEq; rw [he]; simp), List.append_nil] at hst
      simp [hw]
      exact Kloop_normal ⟨_, i + 1, rfl, by omega, fr_intro (by simp [hst])⟩ (by simp; omega)
    | true =>
      rw [if_pos (show lowEq f.name n = true from he)] at hst
      have m1 : (allB (l.take i) n).length + 1 ≤ maxLen := by unfold maxLen; omega
      have m2 : ((allB (l.take i) n).length + 1) * 16 ≤ 140737488355328 := by omega
      have hsn := strs_snoc (allB (l.take i) n) f.value
      rw [← hst] at hsn
      simp [m1, m2, hsn, hw]
      exact Kloop_normal ⟨_, i + 1, rfl, by omega, fr_intro (by simp)⟩ (by simp; omega)
  · obtain rfl : i = l.length := by omega
    simp
    exact aPost_same hB (v0 := .sl false 1 (strs (allB l n))) (by simp) (nilV_refl _) (by simp [bnd_strs]) hQ
def flInv (vs : List (List UInt8)) (H : Hp) (fr : List AV) (H' : Hp) : Prop := ∃ (i : Nat) (v : AV) (acc : List (List UInt8)), i ≤ vs.length ∧ SAt H v acc H' ∧ listsB (vs.take i) = some acc ∧
  ∃ x : Nat → AV, fr = [x 0, x 1, x 2, x 3, x 4, x 5, v, x 7, x 8, x 9, x 10, x 11, x 12, .sl false 1 (strs vs), .int .i64 vs.length, .int .i64 i, x 16, x 17, x 18, x 19, x 20, x 21, x 22, x 23, x 24, x 25, x 26, x 27, x 28, x 29, x 30, x 31]
theorem flist_bx (l : List Fld) (n : List UInt8) (hl : fsz l + l.length ≤ 4194304) (hn : n.length ≤ cap) (hQ1 : listsB (allB l n) = none → Q (.tup [.sl false 1 [], .int .i64 14]) H)
    (hQ2 : ∀ acc v H', listsB (allB l n) = some acc → SAt H v acc H' → Q (.tup [v, .int .i64 0]) H') : PC Tryz.prog E 165 [.sl false 2 (flds l), .str n] H Q := by
  have hvz := vsz_allB l n
  refine pc_enter Tryz.func165 rfl [] [(8, [0, 0, 3])] (by kernel_rfl) (fun hB => ?_)
  simp [Tryz.ntmps165, Tryz.results165, List.replicate_succ]
  refine all_pc E _ _ l n (by omega) hn ?_
  generalize allB l n = vs at *
  have hvl := vsz_len vs
  simp
  refine VL_go (flInv vs H) (fun fr _ => vs.length - (ai (aget fr 15)).toNat) ⟨0, .nil, [], by omega, ⟨[], by simp, by simp, .inl ⟨rfl, rfl⟩⟩, rfl, fr_intro (by simp)⟩ ?_
  rintro fr H' ⟨i, v, acc, hi, hS, hacc, x, rfl⟩
  obtain ⟨hvf, hvd⟩ := sAt_free hS
  have hlen := listsB_len _ _ hacc
  have hvt := vsz_take vs i
  by_cases h : i < vs.length
  · obtain ⟨s, hs⟩ : ∃ s, vs[i]? = some s := ⟨_, List.getElem?_eq_getElem h⟩
    have hat := strs_at hs
    have hsz := vsz_mem hs
    have hw : IntKind.i64.wrap ((i : Int) + 1) = i + 1 := wrap_in (by omega) (by omega)
    simp [h, hat]
    refine list_pc E _ _ s (by omega) ?_
    cases hlb : listB s with
    | none =>
      have e : listAns s = ([], 14) := by unfold listAns; rw [hlb]
      rw [e]
      obtain ⟨J, rfl, _⟩ := hS
      simp
      exact aPost_same hB (v0 := .tup [.nil, .int .i64 14]) (by simp) (nilV_tup2 1 _ rfl) (by simp) (hQ1 (listsB_stop hs hlb))
    | some y =>
      have e : listAns s = (y, 0) := by unfold listAns; rw [hlb]
      rw [e]
      have hyl := listB_len hlb
      have hst := listsB_step hs hacc hlb
      obtain ⟨J, rfl, hJ, ⟨rfl, rfl⟩ | ⟨J1, tail, rfl, rfl, htl⟩⟩ := hS
      · by_cases hy : y = []
        · subst hy
          have hs0 : strs ([] : List (List UInt8)) = [] := rfl
          simp [hw, hs0]
          exact Kloop_normal ⟨i + 1, .nil, [], by omega, ⟨J, rfl, hJ, .inl ⟨rfl, rfl⟩⟩, by simpa using hst, fr_intro (by simp)⟩ (by simp; omega)
        · have m1 : y.length ≤ maxLen := by unfold maxLen; omega
          have m2 : y.length * 16 ≤ 140737488355328 := by omega
          simp [hy, m1, m2, strs_flat']
          refine VGrow_intro fun c hc1 hc2 => ?_
          obtain ⟨k, rfl⟩ : ∃ k, c = y.length + k := ⟨c - y.length, by omega⟩
          simp [hw]
          refine Kloop_normal ⟨i + 1, .bx (H.length + J.length) 0 y.length (y.length + k) 1, y, by omega, ⟨J ++ [strL y ++ List.replicate k (.str [])], rfl, fun l hl z hz => ?_, .inr ⟨J, List.replicate k (.str []), rfl, by simp, by simpa using hc2⟩⟩, by simpa using hst, fr_intro (by simp)⟩ (by simp; omega)
          rcases List.mem_append.1 hl with h | h
          · exact hJ l h z hz
          · simp only [List.mem_singleton] at h
            subst h
            rcases List.mem_append.1 hz with h | h
            · exact strL_str _ z h
            · exact ⟨_, (List.mem_replicate.1 h).2⟩
      · have hget : ∀ r : List AV, (H ++ (J1 ++ [r]))[H.length + J1.length]? = some r := fun r => by rw [← List.append_assoc, List.getElem?_append_right (by simp)]; simp
        have hset : ∀ r q : List AV, (H ++ (J1 ++ [r])).set (H.length + J1.length) q = H ++ (J1 ++ [q]) := fun r q => by rw [← List.append_assoc, List.set_append_right _ _ (by simp), List.append_assoc]; simp
        have hfree : (∀ x ∈ strL acc, x.free = true) = True := eq_true fun x hx => by obtain ⟨b, rfl⟩ := strL_str _ x hx; rfl
        have htk : List.take acc.length (strL acc) = strL acc := List.take_of_length_le (by simp)
        have htu : ∀ x ∈ tail, ∃ z, x = .str z := fun x hx => hJ (strL acc ++ tail) (by simp) x (List.mem_append_right _ hx)
        have hJ1 : ∀ l ∈ J1, ∀ x ∈ l, ∃ z, x = .str z := fun l hl => hJ l (List.mem_append_left _ hl)
        have hdr : List.drop (acc.length + y.length) (strL acc ++ tail) = tail.drop y.length := by rw [List.drop_append, List.drop_of_length_le (by simp)]; simp
        by_cases hroom : y.length ≤ tail.length
        · simp [hroom, hfree, hget, hset, htk, hdr, hw, strs_flat']
          refine Kloop_normal ⟨i + 1, .bx (H.length + J1.length) 0 (acc.length + y.length) (acc.length + tail.length) 1, acc ++ y, by omega, ⟨J1 ++ [strL (acc ++ y) ++ tail.drop y.length], by simp [strL_app], fun l hl z hz => ?_, .inr ⟨J1, tail.drop y.length, rfl, by simp; omega, by simp; omega⟩⟩, hst, fr_intro (by simp)⟩ (by simp; omega)
          rcases List.mem_append.1 hl with h | h
          · exact hJ1 l h z hz
          · simp only [List.mem_singleton] at h
            subst h
            rcases List.mem_append.1 hz with h | h
            · exact strL_str _ z h
            · exact htu z (List.mem_of_mem_drop h)
        · have m1 : acc.length + y.length ≤ maxLen := by unfold maxLen; omega
          have m2 : (acc.length + y.length) * 16 ≤ 140737488355328 := by omega
          simp [hroom, hfree, hget, hset, htk, hdr, hw, strs_flat', m1, m2]
          refine VGrow_intro fun c hc1 hc2 => ?_
          obtain ⟨k, rfl⟩ : ∃ k, c = acc.length + y.length + k := ⟨c - (acc.length + y.length), by omega⟩
          simp [hw]
          refine Kloop_normal ⟨i + 1, .bx (H.length + (J1.length + 1)) 0 (acc.length + y.length) (acc.length + y.length + k) 1, acc ++ y, by omega, ⟨(J1 ++ [strL acc ++ tail]) ++ [strL (acc ++ y) ++ List.replicate k (.str [])], by simp [strL_app], fun l hl z hz => ?_, .inr ⟨J1 ++ [strL acc ++ tail], List.replicate k (.str []), rfl, by simp, by simpa using hc2⟩⟩, hst, fr_intro (by simp)⟩ (by simp; omega)
          rcases List.mem_append.1 hl with h | h
          · exact hJ l h z hz
          · simp only [List.mem_singleton] at h
            subst h
            rcases List.mem_append.1 hz with h | h
            · exact strL_str _ z h
            · exact ⟨_, (List.mem_replicate.1 h).2⟩
  · obtain rfl : i = vs.length := by omega
    rw [List.take_of_length_le (Nat.le_refl _)] at hacc
    simp [hvd]
    exact aPost_up (v := .tup [v, .int .i64 0]) (by simp [hvd]) (by obtain ⟨J, rfl, _⟩ := hS; simp) (sAt_bndH hS hB) (.tup _ (fun y hy => by simp at hy; rcases hy with rfl | rfl; exact sAt_bnd hS; exact .int _ _)) (hQ2 acc v H' hacc hS)
/-- Elements of which i are with small letters. -/
def mix (acc : List (List UInt8)) (i : Nat) : List (List UInt8) := (acc.take i).map low ++ acc.drop i
theorem mix_len (acc : List (List UInt8)) (i : Nat) : (mix acc i).length = acc.length := by
  unfold mix
  simp
  omega
theorem mix_zero (acc : List (List UInt8)) : mix acc 0 = acc := by simp [mix]
theorem mix_all (acc : List (List UInt8)) : mix acc acc.length = acc.map low := by simp [mix]
theorem mix_at {acc : List (List UInt8)} {i : Nat} {u : List UInt8} (h : acc[i]? = some u) (tail : List AV) : (strL (mix acc i) ++ tail)[i]? = some (.str u) := by
  have hi := (List.getElem?_eq_some_iff.1 h).1
  rw [List.getElem?_append_left (by rw [strL_length, mix_len]; exact hi)]
  unfold strL mix
  rw [List.getElem?_map, List.getElem?_append_right (by simp; omega)]
  simp [h, Nat.min_eq_left (Nat.le_of_lt hi)]
theorem mix_step {acc : List (List UInt8)} {i : Nat} {u : List UInt8} (h : acc[i]? = some u) (tail : List AV) : (strL (mix acc i) ++ tail).set i (.str (low u)) = strL (mix acc (i + 1)) ++ tail := by
  have hi := (List.getElem?_eq_some_iff.1 h).1
  have e : mix acc (i + 1) = (mix acc i).set i (low u) := by
    unfold mix
    rw [List.set_append_right _ _ (by simp; omega), List.take_add_one, h]
    simp only [Option.toList, List.map_append, List.map_cons, List.map_nil, List.length_map, List.length_take, Nat.min_eq_left (Nat.le_of_lt hi), Nat.sub_self]
    rw [List.drop_eq_getElem_cons hi, List.set_cons_zero, List.append_assoc]
    rfl
  rw [e, List.set_append_left _ _ (by rw [strL_length, mix_len]; exact hi)]
  unfold strL
  rw [List.map_set]
theorem mix_put {acc : List (List UInt8)} {i : Nat} {u : List UInt8} (h : acc[i]? = some u) (tail : List AV) : (strL (mix acc i) ++ tail).take i ++ .str (low u) :: (strL (mix acc i) ++ tail).drop (i + 1) = strL (mix acc (i + 1)) ++ tail := by
  have hi := (List.getElem?_eq_some_iff.1 h).1
  rw [← mix_step h tail, List.set_eq_take_append_cons_drop, if_pos (by rw [List.length_append, strL_length, mix_len]; omega)]
def toInv (acc : List (List UInt8)) (J1 : Hp) (tail : List AV) (H : Hp) (fr : List AV) (H' : Hp) : Prop := ∃ (i : Nat), i ≤ acc.length ∧ H' = H ++ (J1 ++ [strL (mix acc i) ++ tail]) ∧ (acc.take i).all tokB = true ∧
  ∃ x : Nat → AV, fr = [x 0, x 1, x 2, x 3, x 4, x 5, .bx (H.length + J1.length) 0 acc.length (acc.length + tail.length) 1, x 7, x 8, x 9, x 10, x 11, x 12, x 13, x 14, x 15, x 16, x 17, x 18, .bx (H.length + J1.length) 0 acc.length (acc.length + tail.length) 1, .int .i64 acc.length, .int .i64 i, x 22, x 23, x 24, x 25, x 26, x 27, x 28, x 29, x 30, x 31, x 32, x 33, x 34, x 35]
theorem tokens_pc (hE : SE E) (l : List Fld) (n : List UInt8) (hl : fsz l + l.length ≤ 4194304) (hn : n.length ≤ cap) (hQ : Q (.tup [.sl false 1 (strs (toksA l n).1), .int .i64 (toksA l n).2]) H) : PC Tryz.prog E 143 [.sl false 2 (flds l), .str n] H Q := by
  have hvz := vsz_allB l n
  refine pc_enterZ Tryz.func143 rfl [] [(11, [5, H.length])] (by kernel_rfl) (fun id m hm => ?_) (fun hB => ?_)
  · unfold ndOf at hm
    split at hm
    · cases hm; exact Nat.le_refl _
    · cases hm
  simp [Tryz.ntmps143, Tryz.results143, List.replicate_succ]
  refine flist_bx E _ _ l n hl hn (fun hno => ?_) (fun acc v H' hacc hS => ?_)
  · have e : toksA l n = ([], 14) := by unfold toksA; rw [hno]
    rw [e] at hQ
    simp
    exact aPost_same0 hB (v0 := .tup [.nil, .int .i64 14]) (by simp) (nilV_tup2 1 _ rfl) (by simp) hQ
  have hmem := listsB_mem _ _ hacc
  have hlen := listsB_len _ _ hacc
  have e : toksA l n = if acc.all tokB = true then (acc.map low, 0) else ([], 10) := by unfold toksA; rw [hacc]
  rw [e] at hQ
  clear e hacc
  obtain ⟨J, rfl, hJ, ⟨rfl, rfl⟩ | ⟨J1, tail, rfl, rfl, htl⟩⟩ := hS
  · simp
    refine VL_go (fun fr H' => ∃ J : Hp, H' = H ++ J ∧ ∃ x : Nat → AV, fr = [x 0, x 1, x 2, x 3, x 4, x 5, .nil, x 7, x 8, x 9, x 10, x 11, x 12, x 13, x 14, x 15, x 16, x 17, x 18, .nil, .int .i64 0, .int .i64 0, x 22, x 23, x 24, x 25, x 26, x 27, x 28, x 29, x 30, x 31, x 32, x 33, x 34, x 35]) (fun fr _ => 0) ⟨J, rfl, fr_intro (by simp)⟩ ?_
    rintro fr H' ⟨J, rfl, x, rfl⟩
    simp
    refine VFz_skip ?_
    simp
    exact aPost_same hB (v0 := .tup [.nil, .int .i64 0]) (by simp) (nilV_tup2 1 _ rfl) (by simp) hQ
  · simp
    refine VL_go (toInv acc J1 tail H) (fun fr _ => acc.length - (ai (aget fr 21)).toNat) ⟨0, by omega, by rw [mix_zero], by simp, fr_intro (by simp)⟩ ?_
    rintro fr H' ⟨i, hi, rfl, hall, x, rfl⟩
    by_cases h : i < acc.length
    · obtain ⟨u, hu⟩ : ∃ u, acc[i]? = some u := ⟨_, List.getElem?_eq_getElem h⟩
      have hw : IntKind.i64.wrap ((i : Int) + 1) = i + 1 := wrap_in (by omega) (by omega)
      have hget : ∀ r : List AV, (H ++ (J1 ++ [r]))[H.length + J1.length]? = some r := fun r => by rw [← List.append_assoc, List.getElem?_append_right (by simp)]; simp
      have hset : ∀ r q : List AV, (H ++ (J1 ++ [r])).set (H.length + J1.length) q = H ++ (J1 ++ [q]) := fun r q => by rw [← List.append_assoc, List.set_append_right _ _ (by simp), List.append_assoc]; simp
      have hat := mix_at hu tail
      have hst := mix_put hu tail
      have hul := hmem u (List.mem_of_getElem? hu)
      simp [h, hget, hat]
      refine isToken_pc E _ _ hE u (by simp only [cap]; omega) ?_
      cases ht : tokB u with
      | false =>
        have e : acc.all tokB = false := all_stop tokB acc i u hu ht
        rw [if_neg (by rw [e]; simp)] at hQ
        simp
        exact aPost_same hB (v0 := .tup [.nil, .int .i64 10]) (by simp) (nilV_tup2 1 _ rfl) (by simp) hQ
      | true =>
        simp
        refine lower_pc E _ _ u (by simp only [cap]; omega) ?_
        have hle : i + 1 ≤ (mix acc i).length + tail.length := by rw [mix_len]; omega
        simp [hget, hset, hst, hw, h, hle]
        exact Kloop_normal ⟨i + 1, by omega, rfl, by rw [all_step tokB acc i u hu, hall, ht]; rfl, fr_intro (by simp)⟩ (by simp; omega)
    · obtain rfl : i = acc.length := by omega
      simp
      rw [List.take_of_length_le (Nat.le_refl _)] at hall
      rw [if_pos hall] at hQ
      rw [mix_all]
      have hJ1 : ∀ l ∈ J1, ∀ x ∈ l, ∃ z, x = .str z := fun l hl => hJ l (List.mem_append_left _ hl)
      have htu : ∀ x ∈ tail, ∃ z, x = .str z := fun x hx => hJ (strL acc ++ tail) (by simp) x (List.mem_append_right _ hx)
      have hch := chop_strL (acc.map low) tail
      rw [List.length_map] at hch
      refine VFz_intro [6] (H ++ J1) (strL (acc.map low) ++ tail) (by simp) (by simp) (fun l' hl' y hy => ?_) (fun t ht y hy => ?_) (fun y => ?_)
      · rcases List.mem_append.1 hl' with h | h
        · exact (hB l' h y hy).mono (by simp)
        · obtain ⟨z, rfl⟩ := hJ1 l' h y hy; exact .str _
      · simp at ht
        subst ht
        simp at hy; subst hy
        refine .inr ⟨by simp, by omega, by simp, fun y hy => ?_⟩
        have hy2 := List.mem_of_mem_drop (List.mem_of_mem_take hy)
        rcases List.mem_append.1 hy2 with h | h
        · obtain ⟨z, rfl⟩ := strL_str _ y h; exact ⟨rfl, .str _⟩
        · obtain ⟨z, rfl⟩ := htu y h; exact ⟨rfl, .str _⟩
      · simp [fmapK, frz, hch]
        exact aPost_same hB (v0 := .tup [.sl false 1 (strs (acc.map low)), .int .i64 0]) (by simp) (nilV_refl _) (by simp [bnd_strs]) hQ
def idxInv (ls : List (List UInt8)) (t : List UInt8) (H : Hp) (fr : List AV) (H' : Hp) : Prop := H' = H ∧ ∃ i : Nat, i ≤ ls.length ∧ t ∉ ls.take i ∧ ∃ x : Nat → AV, fr = [.sl false 1 (strs ls), .str t, x 2, x 3, x 4, x 5, x 6, .int .i64 ls.length, .int .i64 i, x 9, x 10, x 11, x 12, x 13, x 14, x 15, x 16, x 17, x 18]
theorem index_pc (ls : List (List UInt8)) (t : List UInt8) (hl : ls.length ≤ 1073741824) (hQ : ∀ z : Int, (0 ≤ z ↔ t ∈ ls) → Q (.int .i64 z) H) : PC Tryz.prog E 189 [.sl false 1 (strs ls), .str t] H Q := by
  refine pc_enter Tryz.func189 rfl [] [] (by kernel_rfl) (fun hB => ?_)
  simp [Tryz.ntmps189, Tryz.results189, List.replicate_succ]
  refine VL_go (idxInv ls t H) (fun fr _ => ls.length - (ai (aget fr 8)).toNat) ⟨rfl, 0, by omega, by simp, fr_intro (by simp)⟩ ?_
  rintro fr H' ⟨rfl, i, hi, hno, x, rfl⟩
  by_cases h : i < ls.length
  · obtain ⟨u, hu⟩ : ∃ u, ls[i]? = some u := ⟨_, List.getElem?_eq_getElem h⟩
    have hat := strs_at hu
    have hw : IntKind.i64.wrap ((i : Int) + 1) = i + 1 := wrap_in (by omega) (by omega)
    cases he : (t == u) with
    | true =>
      have : t = u := by simpa using he
      subst this
      simp [h, hat]
      exact aPost_same0 hB rfl (nilV_refl _) (by simp) (hQ _ ⟨fun _ => List.mem_of_getElem? hu, fun _ => by omega⟩)
    | false =>
      have hne : t ≠ u := by simpa using he
      simp [h, hat, he, hw]
      refine Kloop_normal ⟨rfl, i + 1, by omega, ?_, fr_intro (by simp)⟩ (by simp; omega)
      rw [List.take_add_one, hu]
      simp [hno, hne]
  · obtain rfl : i = ls.length := by omega
    rw [List.take_of_length_le (Nat.le_refl _)] at hno
    simp
    exact aPost_same0 hB rfl (nilV_refl _) (by simp) (hQ _ ⟨fun h => by omega, fun h => absurd h hno⟩)
theorem contains_pc (ls : List (List UInt8)) (t : List UInt8) (hl : ls.length ≤ 1073741824) (hQ : Q (.bool (ls.contains t)) H) : PC Tryz.prog E 167 [.sl false 1 (strs ls), .str t] H Q := by
  refine pc_enter Tryz.func167 rfl [] [] (by kernel_rfl) (fun hB => ?_)
  simp [Tryz.ntmps167, Tryz.results167, List.replicate_succ]
  refine index_pc E _ _ ls t hl (fun z hz => ?_)
  have e : ls.contains t = decide (0 ≤ z) := by
    rw [Bool.eq_iff_iff]
    simp [hz]
  rw [e] at hQ
  simp
  exact aPost_same0 hB rfl (nilV_refl _) (by simp) hQ
theorem toksA_len (l : List Fld) (n : List UInt8) : (toksA l n).1.length ≤ fsz l + l.length := by
  have hvz := vsz_allB l n
  unfold toksA
  cases h : listsB (allB l n) with
  | none => simp
  | some acc =>
    have := listsB_len _ _ h
    simp only
    split
    · simp; omega
    · simp
theorem has_pc (hE : SE E) (l : List Fld) (n t : List UInt8) (hl : fsz l + l.length ≤ 4194304) (hn : n.length ≤ cap) (ht : t.length ≤ cap) (hQ : Q (.bool (hasA l n t)) H) : PC Tryz.prog E 144 [.sl false 2 (flds l), .str n, .str t] H Q := by
  have htl := toksA_len l n
  refine pc_enter Tryz.func144 rfl [] [] (by kernel_rfl) (fun hB => ?_)
  simp [Tryz.ntmps144, Tryz.results144, List.replicate_succ]
  refine tokens_pc E _ _ hE l n hl hn ?_
  unfold hasA at hQ
  by_cases he : (toksA l n).2 = 0
  · rw [he] at hQ
    simp [he]
    refine lower_pc E _ _ t ht ?_
    simp
    refine contains_pc E _ _ _ _ (by omega) ?_
    simp at hQ
    simp
    exact aPost_same0 hB rfl (nilV_refl _) (by simp) hQ
  · have he2 : ((toksA l n).2 == 0) = false := by simpa using he
    rw [decide_eq_false he] at hQ
    simp [he2]
    exact aPost_same0 hB rfl (nilV_refl _) (by simp) hQ
end
end Go.Proofs.YtcdkcaocfioigaaGreatDoor

set_option linter.unusedVariables false
set_option linter.unnecessarySimpa false
set_option linter.unusedSimpArgs false
set_option linter.unusedSectionVars false
set_option maxRecDepth 100000
namespace Go.Proofs.YtcdkcaocfioigaaGreatDoor
open Go Go.RowKit Go.Proofs

theorem dec_rng (x : List UInt8) : 0 ≤ (numAns 10 1099511627776 x).1 ∧ (numAns 10 1099511627776 x).1 ≤ 1099511627776 := by
  unfold numAns
  split
  · simp
  · split
    · simp
    · split
      · simp
      · rename_i h1 h2 h3
        have h := numOf_nonneg 10 (by omega) x (by simpa using h2)
        simp only
        omega
theorem decA_ok {x : List UInt8} (h : (numAns 10 1099511627776 x).2 = 0) : decA x = (numAns 10 1099511627776 x).1 := by unfold decA; rw [if_pos h]
theorem decA_bad {x : List UInt8} (h : (numAns 10 1099511627776 x).2 ≠ 0) : decA x = -1 := by unfold decA; rw [if_neg h]
section
variable (E : Env) (H : Hp) (Q : AV → Hp → Prop)
/-- i elements: all digits, and the same number. -/
def lenOk (acc : List (List UInt8)) (i : Nat) (m : Int) : Prop := (i = 0 ∧ m = 0) ∨ (0 < i ∧ 0 ≤ m ∧ ∀ y ∈ acc.take i, decA y = m)
def lenInv (acc : List (List UInt8)) (b : Nat) (c : Nat) (H3 : Hp) (fr : List AV) (H' : Hp) : Prop := H' = H3 ∧ ∃ (i : Nat) (m : Int), i ≤ acc.length ∧ lenOk acc i m ∧ m ≤ 1099511627776 ∧
  ∃ x : Nat → AV, fr = [x 0, x 1, x 2, x 3, x 4, x 5, x 6, .int .i64 m, x 8, x 9, x 10, x 11, x 12, x 13, x 14, x 15, x 16, x 17, x 18, x 19, x 20, x 21, x 22, x 23, x 24, x 25, x 26, x 27, .bx b 0 acc.length c 1, .int .i64 acc.length, .int .i64 i, x 31, x 32, x 33, x 34, x 35, x 36, x 37, x 38, x 39, x 40, x 41, x 42, x 43, x 44, x 45, x 46, x 47, x 48, x 49, x 50, x 51, x 52, x 53]
theorem length_pc (l : List Fld) (hl : fsz l + l.length ≤ 4194304) (hQ : Q (.tup [.int .i64 (lengthA l).1, .bool (lengthA l).2.1, .int .i64 (lengthA l).2.2]) H) : PC Tryz.prog E 142 [.sl false 2 (flds l)] H Q := by
  refine pc_enter Tryz.func142 rfl [] [] (by kernel_rfl) (fun hB => ?_)
  have fin : ∀ a : Int × Bool × Int, lengthA l = a → Q (.tup [.int .i64 a.1, .bool a.2.1, .int .i64 a.2.2]) H := fun a ha => ha ▸ hQ
  have hvz := vsz_allB l nCL
  have hcn : nCL.length ≤ cap := by simp [nCL, cap]
  simp [Tryz.ntmps142, Tryz.results142, List.replicate_succ]
  refine all_pc E _ _ l nCL (by omega) hcn ?_
  by_cases h0 : allB l nCL = []
  · have e : lengthA l = (0, false, 0) := by unfold lengthA; rw [if_pos h0]
    have hs0 : strs ([] : List (List UInt8)) = [] := rfl
    simp [h0, hs0]
    exact aPost_same0 hB rfl (nilV_refl _) (by simp) (fin _ e)
  have h0' : (((allB l nCL).length : Int) == 0) = false := by
    rw [beq_eq_false_iff_ne]
    intro e
    exact h0 (List.length_eq_zero_iff.1 (by omega))
  simp [h0']
  refine flist_bx E _ _ l nCL hl hcn (fun hno => ?_) (fun acc v H' hacc hS => ?_)
  · have e : lengthA l = (0, false, 66) := by unfold lengthA; rw [if_neg h0, hno]
    simp
    exact aPost_same0 hB rfl (nilV_refl _) (by simp) (fin _ e)
  have hlen := listsB_len _ _ hacc
  have hmem := listsB_mem _ _ hacc
  obtain ⟨J, rfl, hJ, ⟨rfl, rfl⟩ | ⟨J1, tail, rfl, rfl, htl⟩⟩ := hS
  · have e : lengthA l = (0, false, 66) := by unfold lengthA; rw [if_neg h0, hacc]
    simp
    exact aPost_same hB rfl (nilV_refl _) (by simp) (fin _ e)
  cases acc with
  | nil =>
    have e : lengthA l = (0, false, 66) := by unfold lengthA; rw [if_neg h0, hacc]
    simp
    exact aPost_same hB rfl (nilV_refl _) (by simp) (fin _ e)
  | cons w ws =>
    have e : lengthA l = if decA w < 0 ∨ (ws.all fun y => decide (decA y = decA w)) = false then (0, false, 66) else (decA w, true, 0) := by unfold lengthA; rw [if_neg h0, hacc]
    obtain ⟨acc, ha⟩ : ∃ acc, w :: ws = acc := ⟨_, rfl⟩
    have hal : 0 < acc.length := by rw [← ha]; simp
    have ha0 : acc[0]? = some w := by rw [← ha]; rfl
    rw [ha] at hlen hmem hJ htl hacc
    have hlz : ((acc.length : Int) == 0) = false := by rw [beq_eq_false_iff_ne]; omega
    rw [ha]
    simp [hlz]
    refine VL_go (lenInv acc (H.length + J1.length) (acc.length + tail.length) (H ++ (J1 ++ [strL acc ++ tail]))) (fun fr _ => acc.length - (ai (aget fr 30)).toNat) ⟨rfl, 0, 0, by omega, .inl ⟨rfl, rfl⟩, by omega, fr_intro (by simp)⟩ ?_
    rintro fr H' ⟨rfl, i, m, hi, hok, hm, x, rfl⟩
    by_cases h : i < acc.length
    · obtain ⟨u, hu⟩ : ∃ u, acc[i]? = some u := ⟨_, List.getElem?_eq_getElem h⟩
      have hul := hmem u (List.mem_of_getElem? hu)
      have hget : ∀ r : List AV, (H ++ (J1 ++ [r]))[H.length + J1.length]? = some r := fun r => by rw [← List.append_assoc, List.getElem?_append_right (by simp)]; simp
      have hat : (strL acc ++ tail)[i]? = some (.str u) := by
        rw [List.getElem?_append_left (by rw [strL_length]; exact h)]
        unfold strL
        rw [List.getElem?_map, hu]; rfl
      have hw : IntKind.i64.wrap ((i : Int) + 1) = i + 1 := wrap_in (by omega) (by omega)
      have hrng := dec_rng u
      have hwm : ¬ m < -9223372036854775808 := by rcases hok with ⟨_, h⟩ | ⟨_, h, _⟩ <;> omega
      have hwA : decA w < 0 ∨ (ws.all fun y => decide (decA y = decA w)) = false ∨ ∀ y ∈ acc, decA y = decA w := by
        by_cases h2 : (ws.all fun y => decide (decA y = decA w)) = false
        · exact .inr (.inl h2)
        · refine .inr (.inr (fun y hy => ?_))
          rw [← ha] at hy
          rcases List.mem_cons.1 hy with rfl | hy
          · rfl
          · rw [Bool.not_eq_false] at h2
            have := List.all_eq_true.1 h2 y hy
            simpa using this
      have hbad : (decA u < 0 ∨ (0 < i ∧ decA u ≠ m)) → lengthA l = (0, false, 66) := fun hb => by
        rw [e]
        apply if_pos
        rcases hwA with h | h | h
        · exact .inl h
        · exact .inr h
        · left
          have h1 := h u (List.mem_of_getElem? hu)
          rcases hb with hb | ⟨hb, hne⟩
          · omega
          · exfalso
            rcases hok with ⟨h0, _⟩ | ⟨_, _, h3⟩
            · omega
            · have h4 := h3 w (List.mem_of_getElem? (by rw [List.getElem?_take_of_lt hb]; exact ha0))
              omega
      simp [h, hget, hat]
      refine decimal_pc E _ _ u 1099511627776 (by simp only [cap]; omega) (by omega) (by omega) ?_
      by_cases hd : (numAns 10 1099511627776 u).2 = 0
      · have hdA := decA_ok hd
        by_cases hi0 : i = 0
        · subst hi0
          have hw0 : IntKind.i64.wrap 1 = 1 := by decide
          simp [hd, hw0]
          refine Kloop_normal ⟨rfl, 1, _, by omega, .inr ⟨by omega, hrng.1, fun y hy => ?_⟩, hrng.2, fr_intro (by simp)⟩ (by simp; omega)
          have : acc.take 1 = [u] := by
            rw [show (1 : Nat) = 0 + 1 from rfl, List.take_add_one, hu]; simp
          rw [this] at hy
          simp at hy
          subst hy
          exact hdA
        · have hig : 0 < i := by omega
          by_cases hne : (numAns 10 1099511627776 u).1 = m
          · simp [hd, hig, hne, hw]
            refine Kloop_normal ⟨rfl, i + 1, m, by omega, .inr ⟨by omega, by rw [← hne]; exact hrng.1, fun y hy => ?_⟩, hm, fr_intro (by simp)⟩ (by simp; omega)
            rw [List.take_add_one, hu] at hy
            rcases List.mem_append.1 hy with hy | hy
            · rcases hok with ⟨h0, _⟩ | ⟨_, _, h3⟩
              · omega
              · exact h3 y hy
            · simp at hy
              subst hy
              rw [hdA, hne]
          · have hne2 : ((numAns 10 1099511627776 u).1 != m) = true := by simpa using hne
            simp [hd, hig, hne2]
            exact aPost_same hB rfl (nilV_refl _) (by simp) (fin _ (hbad (.inr ⟨hig, by rw [hdA]; exact hne⟩)))
      · have hd2 : ((numAns 10 1099511627776 u).2 != 0) = true := by simpa using hd
        simp [hd2]
        exact aPost_same hB rfl (nilV_refl _) (by simp) (fin _ (hbad (.inl (by rw [decA_bad hd]; omega))))
    · obtain rfl : i = acc.length := by omega
      have hres : lengthA l = (m, true, 0) := by
        rcases hok with ⟨h0, _⟩ | ⟨_, h2, h3⟩
        · omega
        · rw [List.take_of_length_le (Nat.le_refl _)] at h3
          have hw0 := h3 w (List.mem_of_getElem? ha0)
          rw [e, if_neg, hw0]
          intro hb
          rcases hb with hb | hb
          · omega
          · rw [List.all_eq_false] at hb
            obtain ⟨y, hy, hy2⟩ := hb
            have := h3 y (by rw [← ha]; exact List.mem_cons_of_mem _ hy)
            exact hy2 (by rw [this, hw0]; simp)
      simp
      exact aPost_same hB rfl (nilV_refl _) (by simp) (fin _ hres)
theorem codings_pc (hE : SE E) (l : List Fld) (hl : fsz l + l.length ≤ 4194304) (hQ : Q (.tup [.sl false 1 (strs (codingsA l).1), .bool (codingsA l).2.1, .int .i64 (codingsA l).2.2]) H) : PC Tryz.prog E 141 [.sl false 2 (flds l)] H Q := by
  refine pc_enter Tryz.func141 rfl [] [] (by kernel_rfl) (fun hB => ?_)
  have fin : ∀ a : List (List UInt8) × Bool × Int, codingsA l = a → Q (.tup [.sl false 1 (strs a.1), .bool a.2.1, .int .i64 a.2.2]) H := fun a ha => ha ▸ hQ
  have hcn : nTE.length ≤ cap := by simp [nTE, cap]
  simp [Tryz.ntmps141, Tryz.results141, List.replicate_succ]
  refine all_pc E _ _ l nTE (by omega) hcn ?_
  by_cases h0 : allB l nTE = []
  · have e : codingsA l = ([], false, 0) := by unfold codingsA; rw [if_pos h0]
    have hs0 : strs ([] : List (List UInt8)) = [] := rfl
    simp [h0, hs0]
    exact aPost_same0 hB (v0 := .tup [.nil, .bool false, .int .i64 0]) (by simp) (nilV_tup3 1 _ _ rfl rfl) (by simp) (fin _ e)
  have h0' : (((allB l nTE).length : Int) == 0) = false := by
    rw [beq_eq_false_iff_ne]
    intro e
    exact h0 (List.length_eq_zero_iff.1 (by omega))
  simp [h0']
  refine tokens_pc E _ _ hE l nTE hl hcn ?_
  by_cases he : (toksA l nTE).2 = 0
  · have e : codingsA l = ((toksA l nTE).1, true, 0) := by unfold codingsA; rw [if_neg h0, if_pos he]
    simp [he]
    exact aPost_same0 hB (v0 := .tup [.sl false 1 (strs (toksA l nTE).1), .bool true, .int .i64 0]) (by simp) (nilV_refl _) (by simp [bnd_strs]) (fin _ e)
  · have e : codingsA l = ([], false, 67) := by unfold codingsA; rw [if_neg h0, if_neg he]
    have he2 : ((toksA l nTE).2 != 0) = true := by simpa using he
    simp [he2]
    exact aPost_same0 hB (v0 := .tup [.nil, .bool false, .int .i64 67]) (by simp) (nilV_tup3 1 _ _ rfl rfl) (by simp) (fin _ e)
theorem persist_pc (hE : SE E) (l : List Fld) (old : Bool) (hl : fsz l + l.length ≤ 4194304) (hQ : Q (.bool (persistA l old)) H) : PC Tryz.prog E 113 [.sl false 2 (flds l), .bool old] H Q := by
  refine pc_enter Tryz.func113 rfl [] [] (by kernel_rfl) (fun hB => ?_)
  have hcn : nCO.length ≤ cap := by simp [nCO, cap]
  have fin : ∀ a : Bool, persistA l old = a → Q (.bool a) H := fun a ha => ha ▸ hQ
  have hcl : low vClose = vClose := by decide
  have hka : low vKeep = vKeep := by decide
  simp [Tryz.ntmps113, Tryz.results113, List.replicate_succ]
  refine tokens_pc E _ _ hE l nCO hl hcn ?_
  by_cases he : (toksA l nCO).2 = 0
  · simp [he]
    refine has_pc E _ _ hE l nCO vClose hl hcn (by simp [vClose, cap]) ?_
    have h1 : hasA l nCO vClose = (toksA l nCO).1.contains vClose := by unfold hasA; rw [he, hcl]; simp
    rw [h1]
    cases hc : (toksA l nCO).1.contains vClose with
    | true =>
      simp
      exact aPost_same0 hB rfl (nilV_refl _) (by simp) (fin _ (by unfold persistA; rw [hc]; simp))
    | false =>
      cases old with
      | false =>
        simp
        exact aPost_same0 hB rfl (nilV_refl _) (by simp) (fin _ (by unfold persistA; rw [hc, he]; simp))
      | true =>
        simp
        refine has_pc E _ _ hE l nCO vKeep hl hcn (by simp [vKeep, cap]) ?_
        have h2 : hasA l nCO vKeep = (toksA l nCO).1.contains vKeep := by unfold hasA; rw [he, hka]; simp
        rw [h2]
        simp
        exact aPost_same0 hB rfl (nilV_refl _) (by simp) (fin _ (by unfold persistA; rw [hc, he]; simp))
  · have he2 : ((toksA l nCO).2 != 0) = true := by simpa using he
    simp [he2]
    exact aPost_same0 hB rfl (nilV_refl _) (by simp) (fin _ (by unfold persistA; rw [decide_eq_false he]; rfl))
theorem codA_len (l : List Fld) (hl : fsz l + l.length ≤ 4194304) : (codingsA l).1.length ≤ 4194304 := by
  have := toksA_len l nTE
  unfold codingsA
  split
  · simp
  · split
    · simp only; omega
    · simp
theorem framing_of {l : List Fld} {old : Bool} {cs : List (List UInt8)} {cd : Bool} {ce n : Int} {tl : Bool} {f : Int} (h1 : codingsA l = (cs, cd, ce)) (h2 : lengthA l = (n, tl, f)) :
    framingA l old = if ce ≠ 0 ∨ (cd = true ∧ (old = true ∨ cs ≠ [vChunked])) then (0, 0, 67) else if f ≠ 0 then (0, 0, f) else if cd = true ∧ tl = true then (0, 0, 68) else if cd = true then (2, 0, 0) else if tl = true then (1, n, 0) else (0, 0, 0) := by
  unfold framingA
  rw [h1, h2]
set_option maxHeartbeats 1000000 in
theorem framing_pc (hE : SE E) (l : List Fld) (old : Bool) (hl : fsz l + l.length ≤ 4194304) (hQ : Q (.tup [.agg [.int .i64 (framingA l old).1, .int .i64 (framingA l old).2.1], .int .i64 (framingA l old).2.2]) H) : PC Tryz.prog E 112 [.sl false 2 (flds l), .bool old] H Q := by
  have fin : ∀ a : Int × Int × Int, framingA l old = a → Q (.tup [.agg [.int .i64 a.1, .int .i64 a.2.1], .int .i64 a.2.2]) H := fun a ha => ha ▸ hQ
  have hcl := codA_len l hl
  refine pc_enter Tryz.func112 rfl [] [] (by kernel_rfl) (fun hB => ?_)
  simp [Tryz.ntmps112, Tryz.results112, List.replicate_succ]
  refine codings_pc E _ _ hE l hl ?_
  simp
  refine length_pc E _ _ l hl ?_
  obtain ⟨⟨cs, cd, ce⟩, hC⟩ : ∃ c, codingsA l = c := ⟨_, rfl⟩
  obtain ⟨⟨n, tl, f⟩, hL⟩ : ∃ c, lengthA l = c := ⟨_, rfl⟩
  have hF := framing_of (old := old) hC hL
  rw [hC] at hcl
  rw [hC, hL]
  simp only at hcl ⊢
  have hce : (ce != 0) = decide (ce ≠ 0) := by rw [Bool.eq_iff_iff]; simp
  have hfe : (f != 0) = decide (f ≠ 0) := by rw [Bool.eq_iff_iff]; simp
  by_cases h1 : ce = 0
  rotate_left
  · rw [if_pos (.inl h1)] at hF
    have h1' : (ce != 0) = true := by simpa using h1
    simp [h1']
    exact aPost_same hB (v0 := .tup [.agg [.int .i64 0, .int .i64 0], .int .i64 67]) (by simp) (nilV_refl _) (by simp) (fin _ hF)
  subst h1
  cases cd with
  | true =>
    cases old with
    | true =>
      rw [if_pos (.inr ⟨rfl, .inl rfl⟩)] at hF
      simp
      exact aPost_same hB (v0 := .tup [.agg [.int .i64 0, .int .i64 0], .int .i64 67]) (by simp) (nilV_refl _) (by simp) (fin _ hF)
    | false =>
      by_cases h2 : cs = [vChunked]
      · subst h2
        rw [if_neg (by simp)] at hF
        have hat : lat (strs [vChunked]) 0 = some [.str vChunked] := rfl
        have hv : (vChunked != [99, 104, 117, 110, 107, 101, 100]) = false := by decide
        by_cases h3 : f = 0
        · subst h3
          rw [if_neg (by simp)] at hF
          cases tl with
          | true =>
            rw [if_pos ⟨rfl, rfl⟩] at hF
            simp [hat, hv]
            exact aPost_same hB (v0 := .tup [.agg [.int .i64 0, .int .i64 0], .int .i64 68]) (by simp) (nilV_refl _) (by simp) (fin _ hF)
          | false =>
            rw [if_neg (by simp), if_pos rfl] at hF
            simp [hat, hv]
            exact aPost_same hB (v0 := .tup [.agg [.int .i64 2, .int .i64 0], .int .i64 0]) (by simp) (nilV_refl _) (by simp) (fin _ hF)
        · rw [if_pos h3] at hF
          have h3' : (f != 0) = true := by simpa using h3
          simp [hat, hv, h3']
          exact aPost_same hB (v0 := .tup [.agg [.int .i64 0, .int .i64 0], .int .i64 f]) (by simp) (nilV_refl _) (by simp) (fin _ hF)
      · rw [if_pos (.inr ⟨rfl, .inr h2⟩)] at hF
        match cs, h2 with
        | [], _ =>
          simp
          exact aPost_same hB (v0 := .tup [.agg [.int .i64 0, .int .i64 0], .int .i64 67]) (by simp) (nilV_refl _) (by simp) (fin _ hF)
        | [c], h2 =>
          have hat : lat (strs [c]) 0 = some [.str c] := rfl
          have hv : (c != [99, 104, 117, 110, 107, 101, 100]) = true := by simpa [vChunked] using h2
          simp [hat, hv]
          exact aPost_same hB (v0 := .tup [.agg [.int .i64 0, .int .i64 0], .int .i64 67]) (by simp) (nilV_refl _) (by simp) (fin _ hF)
        | c :: d :: r, _ =>
          have hl : ((r.length : Int) + 1 + 1 != 1) = true := by rw [bne_iff_ne]; omega
          simp [hl]
          exact aPost_same hB (v0 := .tup [.agg [.int .i64 0, .int .i64 0], .int .i64 67]) (by simp) (nilV_refl _) (by simp) (fin _ hF)
  | false =>
    by_cases h3 : f = 0
    · subst h3
      cases tl with
      | true =>
        rw [if_neg (by simp), if_neg (by simp), if_neg (by simp), if_neg (by simp), if_pos rfl] at hF
        simp
        exact aPost_same hB (v0 := .tup [.agg [.int .i64 1, .int .i64 n], .int .i64 0]) (by simp) (nilV_refl _) (by simp) (fin _ hF)
      | false =>
        rw [if_neg (by simp), if_neg (by simp), if_neg (by simp), if_neg (by simp), if_neg (by simp)] at hF
        simp
        exact aPost_same hB (v0 := .tup [.agg [.int .i64 0, .int .i64 0], .int .i64 0]) (by simp) (nilV_refl _) (by simp) (fin _ hF)
    · rw [if_neg (by simp), if_pos h3] at hF
      have h3' : (f != 0) = true := by simpa using h3
      simp [h3']
      exact aPost_same hB (v0 := .tup [.agg [.int .i64 0, .int .i64 0], .int .i64 f]) (by simp) (nilV_refl _) (by simp) (fin _ hF)
end
end Go.Proofs.YtcdkcaocfioigaaGreatDoor

set_option linter.unusedVariables false
set_option linter.unnecessarySimpa false
set_option linter.unusedSimpArgs false
set_option linter.unusedSectionVars false
set_option maxRecDepth 100000
namespace Go.Proofs.YtcdkcaocfioigaaGreatDoor
open Go Go.RowKit Go.Proofs

theorem beq_rev {s k : Int} (h : (s == k) = false) : (k == s) = false := by
  rw [beq_eq_false_iff_ne] at h ⊢
  exact fun e => h e.symm
section
variable (E : Env) (H : Hp) (Q : AV → Hp → Prop)
theorem serverReason_pc (s : Int) (hQ : Q (.str (serverB s)) H) : PC Tryz.prog E 96 [.int .i64 s] H Q := by
  refine pc_enter Tryz.func96 rfl [] [] (by kernel_rfl) (fun hB => ?_)
  have fin : ∀ t, serverB s = t → Q (.str t) H := fun t ht => ht ▸ hQ
  by_cases h500 : s = 500
  · subst h500
    simp [Tryz.ntmps96, Tryz.results96, List.replicate_succ]
    exact aPost_same0 hB rfl (nilV_refl _) (by simp) (fin _ rfl)
  have b500 : (s == 500) = false := by simpa using h500
  by_cases h501 : s = 501
  · subst h501
    simp [Tryz.ntmps96, Tryz.results96, List.replicate_succ]
    exact aPost_same0 hB rfl (nilV_refl _) (by simp) (fin _ rfl)
  have b501 : (s == 501) = false := by simpa using h501
  by_cases h502 : s = 502
  · subst h502
    simp [Tryz.ntmps96, Tryz.results96, List.replicate_succ]
    exact aPost_same0 hB rfl (nilV_refl _) (by simp) (fin _ rfl)
  have b502 : (s == 502) = false := by simpa using h502
  by_cases h503 : s = 503
  · subst h503
    simp [Tryz.ntmps96, Tryz.results96, List.replicate_succ]
    exact aPost_same0 hB rfl (nilV_refl _) (by simp) (fin _ rfl)
  have b503 : (s == 503) = false := by simpa using h503
  by_cases h504 : s = 504
  · subst h504
    simp [Tryz.ntmps96, Tryz.results96, List.replicate_succ]
    exact aPost_same0 hB rfl (nilV_refl _) (by simp) (fin _ rfl)
  have b504 : (s == 504) = false := by simpa using h504
  by_cases h505 : s = 505
  · subst h505
    simp [Tryz.ntmps96, Tryz.results96, List.replicate_succ]
    exact aPost_same0 hB rfl (nilV_refl _) (by simp) (fin _ rfl)
  have b505 : (s == 505) = false := by simpa using h505
  have e : serverB s = [] := by
    unfold serverB look reasS
    simp [beq_rev b500, beq_rev b501, beq_rev b502, beq_rev b503, beq_rev b504, beq_rev b505]
  simp [Tryz.ntmps96, Tryz.results96, List.replicate_succ, b500, b501, b502, b503, b504, b505]
  exact aPost_same0 hB rfl (nilV_refl _) (by simp) (fin _ e)
theorem wrongReason_pc (s : Int) (hQ : Q (.str (wrongB s)) H) : PC Tryz.prog E 60 [.int .i64 s] H Q := by
  refine pc_enter Tryz.func60 rfl [] [] (by kernel_rfl) (fun hB => ?_)
  have fin : ∀ t, wrongB s = t → Q (.str t) H := fun t ht => ht ▸ hQ
  by_cases h400 : s = 400
  · subst h400
    simp [Tryz.ntmps60, Tryz.results60, List.replicate_succ]
    exact aPost_same0 hB rfl (nilV_refl _) (by simp) (fin _ rfl)
  have b400 : (s == 400) = false := by simpa using h400
  by_cases h401 : s = 401
  · subst h401
    simp [Tryz.ntmps60, Tryz.results60, List.replicate_succ]
    exact aPost_same0 hB rfl (nilV_refl _) (by simp) (fin _ rfl)
  have b401 : (s == 401) = false := by simpa using h401
  by_cases h403 : s = 403
  · subst h403
    simp [Tryz.ntmps60, Tryz.results60, List.replicate_succ]
    exact aPost_same0 hB rfl (nilV_refl _) (by simp) (fin _ rfl)
  have b403 : (s == 403) = false := by simpa using h403
  by_cases h404 : s = 404
  · subst h404
    simp [Tryz.ntmps60, Tryz.results60, List.replicate_succ]
    exact aPost_same0 hB rfl (nilV_refl _) (by simp) (fin _ rfl)
  have b404 : (s == 404) = false := by simpa using h404
  by_cases h405 : s = 405
  · subst h405
    simp [Tryz.ntmps60, Tryz.results60, List.replicate_succ]
    exact aPost_same0 hB rfl (nilV_refl _) (by simp) (fin _ rfl)
  have b405 : (s == 405) = false := by simpa using h405
  by_cases h406 : s = 406
  · subst h406
    simp [Tryz.ntmps60, Tryz.results60, List.replicate_succ]
    exact aPost_same0 hB rfl (nilV_refl _) (by simp) (fin _ rfl)
  have b406 : (s == 406) = false := by simpa using h406
  by_cases h408 : s = 408
  · subst h408
    simp [Tryz.ntmps60, Tryz.results60, List.replicate_succ]
    exact aPost_same0 hB rfl (nilV_refl _) (by simp) (fin _ rfl)
  have b408 : (s == 408) = false := by simpa using h408
  by_cases h411 : s = 411
  · subst h411
    simp [Tryz.ntmps60, Tryz.results60, List.replicate_succ]
    exact aPost_same0 hB rfl (nilV_refl _) (by simp) (fin _ rfl)
  have b411 : (s == 411) = false := by simpa using h411
  by_cases h412 : s = 412
  · subst h412
    simp [Tryz.ntmps60, Tryz.results60, List.replicate_succ]
    exact aPost_same0 hB rfl (nilV_refl _) (by simp) (fin _ rfl)
  have b412 : (s == 412) = false := by simpa using h412
  by_cases h413 : s = 413
  · subst h413
    simp [Tryz.ntmps60, Tryz.results60, List.replicate_succ]
    exact aPost_same0 hB rfl (nilV_refl _) (by simp) (fin _ rfl)
  have b413 : (s == 413) = false := by simpa using h413
  by_cases h414 : s = 414
  · subst h414
    simp [Tryz.ntmps60, Tryz.results60, List.replicate_succ]
    exact aPost_same0 hB rfl (nilV_refl _) (by simp) (fin _ rfl)
  have b414 : (s == 414) = false := by simpa using h414
  by_cases h415 : s = 415
  · subst h415
    simp [Tryz.ntmps60, Tryz.results60, List.replicate_succ]
    exact aPost_same0 hB rfl (nilV_refl _) (by simp) (fin _ rfl)
  have b415 : (s == 415) = false := by simpa using h415
  by_cases h416 : s = 416
  · subst h416
    simp [Tryz.ntmps60, Tryz.results60, List.replicate_succ]
    exact aPost_same0 hB rfl (nilV_refl _) (by simp) (fin _ rfl)
  have b416 : (s == 416) = false := by simpa using h416
  by_cases h417 : s = 417
  · subst h417
    simp [Tryz.ntmps60, Tryz.results60, List.replicate_succ]
    exact aPost_same0 hB rfl (nilV_refl _) (by simp) (fin _ rfl)
  have b417 : (s == 417) = false := by simpa using h417
  by_cases h421 : s = 421
  · subst h421
    simp [Tryz.ntmps60, Tryz.results60, List.replicate_succ]
    exact aPost_same0 hB rfl (nilV_refl _) (by simp) (fin _ rfl)
  have b421 : (s == 421) = false := by simpa using h421
  by_cases h422 : s = 422
  · subst h422
    simp [Tryz.ntmps60, Tryz.results60, List.replicate_succ]
    exact aPost_same0 hB rfl (nilV_refl _) (by simp) (fin _ rfl)
  have b422 : (s == 422) = false := by simpa using h422
  by_cases h426 : s = 426
  · subst h426
    simp [Tryz.ntmps60, Tryz.results60, List.replicate_succ]
    exact aPost_same0 hB rfl (nilV_refl _) (by simp) (fin _ rfl)
  have b426 : (s == 426) = false := by simpa using h426
  by_cases h428 : s = 428
  · subst h428
    simp [Tryz.ntmps60, Tryz.results60, List.replicate_succ]
    exact aPost_same0 hB rfl (nilV_refl _) (by simp) (fin _ rfl)
  have b428 : (s == 428) = false := by simpa using h428
  by_cases h429 : s = 429
  · subst h429
    simp [Tryz.ntmps60, Tryz.results60, List.replicate_succ]
    exact aPost_same0 hB rfl (nilV_refl _) (by simp) (fin _ rfl)
  have b429 : (s == 429) = false := by simpa using h429
  by_cases h431 : s = 431
  · subst h431
    simp [Tryz.ntmps60, Tryz.results60, List.replicate_succ]
    exact aPost_same0 hB rfl (nilV_refl _) (by simp) (fin _ rfl)
  have b431 : (s == 431) = false := by simpa using h431
  have e : wrongB s = serverB s := by
    unfold wrongB look reasW
    simp [beq_rev b400, beq_rev b401, beq_rev b403, beq_rev b404, beq_rev b405, beq_rev b406, beq_rev b408, beq_rev b411, beq_rev b412, beq_rev b413, beq_rev b414, beq_rev b415, beq_rev b416, beq_rev b417, beq_rev b421, beq_rev b422, beq_rev b426, beq_rev b428, beq_rev b429, beq_rev b431]
  simp [Tryz.ntmps60, Tryz.results60, List.replicate_succ, b400, b401, b403, b404, b405, b406, b408, b411, b412, b413, b414, b415, b416, b417, b421, b422, b426, b428, b429, b431]
  refine serverReason_pc E _ _ s ?_
  simp
  exact aPost_same0 hB rfl (nilV_refl _) (by simp) (fin _ e)
theorem reason_pc (s : Int) (hQ : Q (.str (reasonB s)) H) : PC Tryz.prog E 27 [.int .i64 s] H Q := by
  refine pc_enter Tryz.func27 rfl [] [] (by kernel_rfl) (fun hB => ?_)
  have fin : ∀ t, reasonB s = t → Q (.str t) H := fun t ht => ht ▸ hQ
  by_cases h100 : s = 100
  · subst h100
    simp [Tryz.ntmps27, Tryz.results27, List.replicate_succ]
    exact aPost_same0 hB rfl (nilV_refl _) (by simp) (fin _ rfl)
  have b100 : (s == 100) = false := by simpa using h100
  by_cases h101 : s = 101
  · subst h101
    simp [Tryz.ntmps27, Tryz.results27, List.replicate_succ]
    exact aPost_same0 hB rfl (nilV_refl _) (by simp) (fin _ rfl)
  have b101 : (s == 101) = false := by simpa using h101
  by_cases h200 : s = 200
  · subst h200
    simp [Tryz.ntmps27, Tryz.results27, List.replicate_succ]
    exact aPost_same0 hB rfl (nilV_refl _) (by simp) (fin _ rfl)
  have b200 : (s == 200) = false := by simpa using h200
  by_cases h201 : s = 201
  · subst h201
    simp [Tryz.ntmps27, Tryz.results27, List.replicate_succ]
    exact aPost_same0 hB rfl (nilV_refl _) (by simp) (fin _ rfl)
  have b201 : (s == 201) = false := by simpa using h201
  by_cases h202 : s = 202
  · subst h202
    simp [Tryz.ntmps27, Tryz.results27, List.replicate_succ]
    exact aPost_same0 hB rfl (nilV_refl _) (by simp) (fin _ rfl)
  have b202 : (s == 202) = false := by simpa using h202
  by_cases h204 : s = 204
  · subst h204
    simp [Tryz.ntmps27, Tryz.results27, List.replicate_succ]
    exact aPost_same0 hB rfl (nilV_refl _) (by simp) (fin _ rfl)
  have b204 : (s == 204) = false := by simpa using h204
  by_cases h206 : s = 206
  · subst h206
    simp [Tryz.ntmps27, Tryz.results27, List.replicate_succ]
    exact aPost_same0 hB rfl (nilV_refl _) (by simp) (fin _ rfl)
  have b206 : (s == 206) = false := by simpa using h206
  by_cases h301 : s = 301
  · subst h301
    simp [Tryz.ntmps27, Tryz.results27, List.replicate_succ]
    exact aPost_same0 hB rfl (nilV_refl _) (by simp) (fin _ rfl)
  have b301 : (s == 301) = false := by simpa using h301
  by_cases h302 : s = 302
  · subst h302
    simp [Tryz.ntmps27, Tryz.results27, List.replicate_succ]
    exact aPost_same0 hB rfl (nilV_refl _) (by simp) (fin _ rfl)
  have b302 : (s == 302) = false := by simpa using h302
  by_cases h303 : s = 303
  · subst h303
    simp [Tryz.ntmps27, Tryz.results27, List.replicate_succ]
    exact aPost_same0 hB rfl (nilV_refl _) (by simp) (fin _ rfl)
  have b303 : (s == 303) = false := by simpa using h303
  by_cases h304 : s = 304
  · subst h304
    simp [Tryz.ntmps27, Tryz.results27, List.replicate_succ]
    exact aPost_same0 hB rfl (nilV_refl _) (by simp) (fin _ rfl)
  have b304 : (s == 304) = false := by simpa using h304
  by_cases h307 : s = 307
  · subst h307
    simp [Tryz.ntmps27, Tryz.results27, List.replicate_succ]
    exact aPost_same0 hB rfl (nilV_refl _) (by simp) (fin _ rfl)
  have b307 : (s == 307) = false := by simpa using h307
  by_cases h308 : s = 308
  · subst h308
    simp [Tryz.ntmps27, Tryz.results27, List.replicate_succ]
    exact aPost_same0 hB rfl (nilV_refl _) (by simp) (fin _ rfl)
  have b308 : (s == 308) = false := by simpa using h308
  have e : reasonB s = wrongB s := by
    unfold reasonB look reasT
    simp [beq_rev b100, beq_rev b101, beq_rev b200, beq_rev b201, beq_rev b202, beq_rev b204, beq_rev b206, beq_rev b301, beq_rev b302, beq_rev b303, beq_rev b304, beq_rev b307, beq_rev b308]
  simp [Tryz.ntmps27, Tryz.results27, List.replicate_succ, b100, b101, b200, b201, b202, b204, b206, b301, b302, b303, b304, b307, b308]
  refine wrongReason_pc E _ _ s ?_
  simp
  exact aPost_same0 hB rfl (nilV_refl _) (by simp) (fin _ e)
theorem never_pc (s : Int) (hQ : Q (.bool (neverS s)) H) : PC Tryz.prog E 46 [.int .i64 s] H Q := by
  refine pc_enter Tryz.func46 rfl [] [] (by kernel_rfl) (fun hB => ?_)
  have fin : ∀ c : Bool, neverS s = c → Q (.bool c) H := fun c hc => hc ▸ hQ
  by_cases h1 : 100 ≤ s
  · by_cases h2 : s ≤ 199
    · simp [Tryz.ntmps46, Tryz.results46, List.replicate_succ, h1, h2]
      exact aPost_same0 hB rfl (nilV_refl _) (by simp) (fin _ (by simp [neverS, h1, h2]))
    · simp [Tryz.ntmps46, Tryz.results46, List.replicate_succ, h1, h2]
      by_cases h3 : s = 204
      · subst h3
        simp
        exact aPost_same0 hB rfl (nilV_refl _) (by simp) (fin _ (by simp [neverS]))
      · have b3 : (s == 204) = false := by simpa using h3
        simp [b3]
        exact aPost_same0 hB rfl (nilV_refl _) (by simp) (fin _ (by simp [neverS, h1, h2, b3]))
  · simp [Tryz.ntmps46, Tryz.results46, List.replicate_succ, h1]
    by_cases h3 : s = 204
    · omega
    · have b3 : (s == 204) = false := by simpa using h3
      simp [b3]
      exact aPost_same0 hB rfl (nilV_refl _) (by simp) (fin _ (by simp [neverS, h1, b3]))
theorem bodyless_pc (m : List UInt8) (s : Int) (hQ : Q (.bool (bodylessB m s)) H) : PC Tryz.prog E 24 [.str m, .int .i64 s] H Q := by
  refine pc_enter Tryz.func24 rfl [] [] (by kernel_rfl) (fun hB => ?_)
  have fin : ∀ c : Bool, bodylessB m s = c → Q (.bool c) H := fun c hc => hc ▸ hQ
  simp [Tryz.ntmps24, Tryz.results24, List.replicate_succ]
  refine never_pc E _ _ s ?_
  cases hn : neverS s with
  | true =>
    simp
    exact aPost_same0 hB rfl (nilV_refl _) (by simp) (fin _ (by simp [bodylessB, hn]))
  | false =>
    cases hh : (m == [72, 69, 65, 68]) with
    | true =>
      simp [hh]
      exact aPost_same0 hB rfl (nilV_refl _) (by simp) (fin _ (by simp [bodylessB, vHead, hn, hh]))
    | false =>
      cases hc : (m == [67, 79, 78, 78, 69, 67, 84]) with
      | false =>
        simp [hh, hc]
        exact aPost_same0 hB rfl (nilV_refl _) (by simp) (fin _ (by simp [bodylessB, vHead, vConnect, hn, hh, hc]))
      | true =>
        by_cases h1 : 200 ≤ s
        · simp [hh, hc, h1]
          exact aPost_same0 hB rfl (nilV_refl _) (by simp) (fin _ (by simp [bodylessB, vHead, vConnect, hn, hh, hc, h1]))
        · simp [hh, hc, h1]
          exact aPost_same0 hB rfl (nilV_refl _) (by simp) (fin _ (by simp [bodylessB, vHead, vConnect, hn, hh, hc, h1]))
end
end Go.Proofs.YtcdkcaocfioigaaGreatDoor

set_option linter.unusedVariables false
set_option linter.unnecessarySimpa false
set_option linter.unusedSimpArgs false
set_option linter.unusedSectionVars false
set_option maxRecDepth 100000
namespace Go.Proofs.YtcdkcaocfioigaaGreatDoor
open Go Go.RowKit Go.Proofs

/-- The tables that the message layer reads. -/
def SM (E : Env) : Prop := SZ E ∧ SE2 E
theorem printF_step {l : List Fld} (h : l.length ≤ 100) {i : Nat} {f : Fld} (hf : l[i]? = some f) (hall : ∀ g ∈ l.take i, (lineP g).2 = 0) (hne : (lineP f).2 ≠ 0) : printF l = ([], (lineP f).2) := by
  have hi := (List.getElem?_eq_some_iff.1 hf).1
  have e : l = l.take i ++ (f :: l.drop (i + 1)) := by rw [← (List.getElem?_eq_some_iff.1 hf).2, ← List.drop_eq_getElem_cons hi, List.take_append_drop]
  have hn : (l.take i).find? (fun f => decide ((lineP f).2 ≠ 0)) = none := List.find?_eq_none.2 fun g hg => by simp [hall g hg]
  unfold printF
  rw [if_neg (by omega)]
  have : l.find? (fun f => decide ((lineP f).2 ≠ 0)) = some f := by
    rw [e, List.find?_append, hn]
    simp [hne]
  rw [this]
theorem printF_all {l : List Fld} (h : l.length ≤ 100) (hall : ∀ g ∈ l, (lineP g).2 = 0) : printF l = (linesT l, 0) := by
  have hn : l.find? (fun f => decide ((lineP f).2 ≠ 0)) = none := List.find?_eq_none.2 fun g hg => by simp [hall g hg]
  unfold printF
  rw [if_neg (by omega), hn]
theorem lineP_ok {f : Fld} (h : (lineP f).2 = 0) : (lineP f).1 = lineT f := by
  unfold lineP at h ⊢
  split
  · rename_i h1; rw [if_pos h1] at h; cases h
  · rename_i h1
    rw [if_neg h1] at h
    split
    · rename_i h2; rw [if_pos h2] at h; cases h
    · rfl
section
variable (E : Env) (H : Hp) (Q : AV → Hp → Prop)
theorem cloneOwn_pc (l : List Fld) (hl : l.length ≤ 1073741823) (hQ : Q (.sl true 2 (flds l)) H) : PC Tryz.prog E 45 [.sl false 2 (flds l)] H Q := by
  cases l with
  | nil => exact clone0_pc E H Q hQ
  | cons g l =>
    have hfl : flds (g :: l) = [.str g.name, .str g.value] :: flds l := rfl
    simp only [List.length_cons] at hl
    have m1 : l.length + 1 ≤ maxLen := by unfold maxLen; omega
    have m2 : (l.length + 1) * 32 ≤ 140737488355328 := by omega
    have hb := bnd_flds (N := H.length) true 2 (g :: l)
    rw [hfl] at hQ hb ⊢
    refine pc_enter Tryz.func45 rfl [5] [] (by kernel_rfl) (fun hB => ?_)
    simp [Tryz.ntmps45, Tryz.results45, List.replicate_succ, m1, m2]
    exact aPost_same0 hB (v0 := .sl true 2 ([.str g.name, .str g.value] :: flds l)) (by simp) (nilV_refl _) hb hQ
def fpInv (l : List Fld) (H : Hp) (fr : List AV) (H' : Hp) : Prop := ∃ (J2 : Hp) (i : Nat), i ≤ l.length ∧ H' = H ++ ([.bl TB, .bf TU (linesT (l.take i))] :: J2) ∧ (∀ g ∈ l.take i, (lineP g).2 = 0) ∧
  ∃ x : Nat → AV, fr = [x 0, x 1, x 2, x 3, .ptr (some (H.length, 0)), x 5, x 6, x 7, x 8, x 9, x 10, x 11, .sl false 2 (flds l), .int .i64 l.length, .int .i64 i, x 15, x 16, x 17, x 18, x 19, x 20, x 21, x 22, x 23, x 24, x 25, x 26, x 27, x 28, x 29, x 30]
theorem fprint_pc (hE : SE E) (l : List Fld) (hl : fsz l + l.length ≤ 16777216) (hQ : Q (.tup [.str (printF l).1, .int .i64 (printF l).2]) H) : PC Tryz.prog E 48 [.sl false 2 (flds l)] H Q := by
  have fin : ∀ a : List UInt8 × Int, printF l = a → Q (.tup [.str a.1, .int .i64 a.2]) H := fun a ha => ha ▸ hQ
  refine pc_enter Tryz.func48 rfl [] [(3, [3])] (by kernel_rfl) (fun hB => ?_)
  simp [Tryz.ntmps48, Tryz.results48, List.replicate_succ]
  by_cases h100 : 100 < l.length
  · have h1 : (100 : Int) < l.length := by omega
    simp [h1]
    exact aPost_same0 hB (v0 := .tup [.str [], .int .i64 65]) (by simp) (nilV_refl _) (by simp) (fin ([], 65) (by unfold printF; rw [if_pos h100]))
  have h1 : ¬ (100 : Int) < l.length := by omega
  simp [h1]
  refine VL_go (fpInv l H) (fun fr _ => l.length - (ai (aget fr 14)).toNat) ⟨[], 0, by omega, by simp [linesT], by simp, fr_intro (by simp)⟩ ?_
  rintro fr H2 ⟨J2, i, hi, rfl, hall, x, rfl⟩
  have hlin := linesT_le (l.take i)
  have hsz := fsz_take l i
  rw [List.length_take] at hlin
  by_cases h : i < l.length
  · obtain ⟨f, hf⟩ : ∃ f, l[i]? = some f := ⟨_, List.getElem?_eq_getElem h⟩
    have hat := flds_at hf
    have hfm := fsz_mem hf
    have hw : IntKind.i64.wrap ((i : Int) + 1) = i + 1 := wrap_in (by omega) (by omega)
    have hlt := lineT_le f
    simp [h, hat]
    refine printLine_pc E _ _ hE f (by omega) (by omega) ?_
    by_cases hz : (lineP f).2 = 0
    · have hz1 := lineP_ok hz
      have m1 : (lineT f).length + 2 ≤ maxLen := by unfold maxLen; omega
      have m0 : (lineT f).length + 1 + 1 ≤ maxLen := by unfold maxLen; omega
      simp [hz, hz1, m1, m0]
      refine wstr_pc E _ _ H.length (linesT (l.take i)) (lineT f ++ [13, 10]) (by simp) (by simp; omega) ?_
      rw [← linesT_step l i f hf]
      simp [hw]
      refine Kloop_normal ⟨_, i + 1, by omega, rfl, fun g hg => ?_, fr_intro (by simp)⟩ (by simp; omega)
      rw [List.take_add_one, hf] at hg
      rcases List.mem_append.1 hg with hg | hg
      · exact hall g hg
      · simp at hg; subst hg; exact hz
    · have hz2 : ((lineP f).2 != 0) = true := by simpa using hz
      simp [hz2]
      exact aPost_same hB (v0 := .tup [.str [], .int .i64 (lineP f).2]) (by simp) (nilV_refl _) (by simp) (fin ([], (lineP f).2) (printF_step (by omega) hf hall hz))
  · obtain rfl : i = l.length := by omega
    rw [List.take_of_length_le (Nat.le_refl _)] at hall hlin ⊢
    simp
    refine bstr_pc E _ _ H.length (linesT l) (by simp) (by unfold maxLen; omega) ?_
    simp
    exact aPost_same hB (v0 := .tup [.str (linesT l), .int .i64 0]) (by simp) (nilV_refl _) (by simp) (fin (linesT l, 0) (printF_all (by omega) hall))
def wrInv (r : Resp) (h : Mann) (H : Hp) (fr : List AV) (H' : Hp) : Prop := ∃ (J : Hp) (i : Nat), H' = H ++ (r.avs :: h.avs :: J) ∧ i ≤ r.fields.length ∧ (r.fields.take i).any (framedB r.status) = false ∧
  ∃ x : Nat → AV, fr = [x 0, x 1, .ptr (some (H.length, 0)), .ptr (some (H.length + 1, 0)), x 4, x 5, x 6, x 7, x 8, x 9, x 10, x 11, x 12, x 13, x 14, x 15, x 16, x 17, x 18, x 19, x 20, x 21, x 22, x 23, x 24, x 25, .sl false 2 (flds r.fields), .int .i64 r.fields.length, .int .i64 i, x 29, x 30, x 31, x 32, x 33, x 34, x 35, x 36, x 37, x 38, x 39, x 40, x 41, x 42, x 43, x 44, x 45, x 46, x 47, x 48, x 49, x 50, x 51, x 52, x 53, x 54, x 55, x 56, x 57, x 58, x 59, x 60, x 61, x 62, x 63, x 64, x 65, x 66, x 67, x 68, x 69, x 70, x 71, x 72, x 73, x 74, x 75, x 76, x 77, x 78, x 79, x 80, x 81, x 82, x 83, x 84, x 85]
theorem any_step {α : Type} (p : α → Bool) (l : List α) (i : Nat) (x : α) (h : l[i]? = some x) : (l.take (i + 1)).any p = ((l.take i).any p || p x) := by
  rw [List.take_add_one, h]; simp
theorem any_stop {α : Type} (p : α → Bool) (l : List α) (i : Nat) (x : α) (h : l[i]? = some x) (hp : p x = true) : l.any p = true := List.any_eq_true.2 ⟨x, List.mem_of_getElem? h, hp⟩
def okR (r : Resp) (h : Mann) : Prop := fsz r.fields + r.fields.length ≤ 1048577 ∧ fsz h.trailers + h.trailers.length ≤ 1048577 ∧ h.sizes.length ≤ 1048577 ∧ r.reason.length ≤ 1048577 ∧ r.body.length ≤ 1048576 ∧ h.method.length ≤ 1048577 ∧
  (-9223372036854775808 ≤ r.status ∧ r.status ≤ 9223372036854775807) ∧ ∀ z ∈ h.sizes, -9223372036854775808 ≤ z ∧ z ≤ 9223372036854775807
set_option maxHeartbeats 1000000 in
theorem wrong_pc (r : Resp) (h : Mann) (hok : okR r h) (hQ : Q (.int .i64 (wrongM r h)) H) : PC Tryz.prog E 44 [.agg r.avs, .agg h.avs] H Q := by
  obtain ⟨o1, o2, o3, o4, o5, o6, ⟨o7, o8⟩, o9⟩ := hok
  have fin : ∀ a : Int, wrongM r h = a → Q (.int .i64 a) H := fun a ha => ha ▸ hQ
  have hR : r.avs = [.int .i64 r.status, .str r.reason, .sl false 2 (flds r.fields), .str r.body] := rfl
  have hM : h.avs = [.str h.method, .bool h.close, .bool h.old, .bool h.chunked, .sl false 1 (ints h.sizes), .sl false 2 (flds h.trailers)] := rfl
  rw [hR, hM]
  refine pc_enter Tryz.func44 rfl [] [] (by kernel_rfl) (fun hB => ?_)
  by_cases h1 : r.status < 100
  · simp [Tryz.ntmps44, Tryz.results44, List.replicate_succ, h1]
    exact aPost_same hB rfl (nilV_refl _) (by simp) (fin _ (by unfold wrongM; rw [if_pos (.inl h1)]))
  by_cases h2 : 599 < r.status
  · simp [Tryz.ntmps44, Tryz.results44, List.replicate_succ, h1, h2]
    exact aPost_same hB rfl (nilV_refl _) (by simp) (fin _ (by unfold wrongM; rw [if_pos (.inr h2)]))
  by_cases h3 : 256 < r.reason.length
  · have h3' : (256 : Int) < r.reason.length := by omega
    simp [Tryz.ntmps44, Tryz.results44, List.replicate_succ, h1, h2, h3']
    exact aPost_same hB rfl (nilV_refl _) (by simp) (fin _ (by unfold wrongM; rw [if_neg (by omega), if_pos (.inl h3)]))
  have h3' : ¬ (256 : Int) < r.reason.length := by omega
  simp [Tryz.ntmps44, Tryz.results44, List.replicate_succ, h1, h2, h3']
  refine isField_pc E _ _ r.reason (by simp only [cap]; omega) ?_
  cases hf : fldB r.reason with
  | false =>
    simp
    exact aPost_same hB rfl (nilV_refl _) (by simp) (fin _ (by unfold wrongM; rw [if_neg (by omega), if_pos (.inr hf)]))
  | true =>
    have hW : wrongM r h = if (r.fields.any (framedB r.status)) = true then 123
        else if ((neverS r.status && (decide (r.body ≠ []) || h.chunked)) || ((h.chunked && h.old) || (!h.chunked && (decide (h.sizes ≠ []) || decide (h.trailers ≠ []))))) = true then 123 else 0 := by
      unfold wrongM
      rw [if_neg (by omega), if_neg (by rw [hf]; simp; omega)]
    simp
    refine VL_go (wrInv r h H) (fun fr _ => r.fields.length - (ai (aget fr 28)).toNat) ⟨[], 0, by simp [hR, hM], by omega, by simp, fr_intro (by simp)⟩ ?_
    rintro fr H2 ⟨J, i, rfl, hi, hany, x, rfl⟩
    by_cases hil : i < r.fields.length
    · obtain ⟨f, hf2⟩ : ∃ f, r.fields[i]? = some f := ⟨_, List.getElem?_eq_getElem hil⟩
      have hat := flds_at hf2
      have hfm := fsz_mem hf2
      have hw : IntKind.i64.wrap ((i : Int) + 1) = i + 1 := wrap_in (by omega) (by omega)
      have hst := any_step (framedB r.status) r.fields i f hf2
      have hsp : framedB r.status f = true → wrongM r h = 123 := fun hp => by rw [hW, if_pos (any_stop _ _ _ _ hf2 hp)]
      have hfd : framedB r.status f = ((low f.name == low nCL) || ((low f.name == low nTE) || ((low f.name == low nCO) && r.status != 101))) := rfl
      simp [hil, hat, hR]
      refine osame_pc E _ _ f.name nCL (by simp only [cap]; omega) (by simp [nCL, cap]) ?_
      cases e1 : (low f.name == low nCL) with
      | true =>
        simp
        exact aPost_same hB rfl (nilV_refl _) (by simp) (fin _ (hsp (by rw [hfd, e1]; rfl)))
      | false =>
        simp
        refine osame_pc E _ _ f.name nTE (by simp only [cap]; omega) (by simp [nTE, cap]) ?_
        cases e2 : (low f.name == low nTE) with
        | true =>
          simp
          exact aPost_same hB rfl (nilV_refl _) (by simp) (fin _ (hsp (by rw [hfd, e1, e2]; rfl)))
        | false =>
          simp
          refine osame_pc E _ _ f.name nCO (by simp only [cap]; omega) (by simp [nCO, cap]) ?_
          cases e3 : (low f.name == low nCO) with
          | false =>
            simp [hw]
            exact Kloop_normal ⟨J ++ [[.str f.name, .str f.value]], i + 1, by simp [hR], by omega, by rw [hst, hany, hfd, e1, e2, e3]; rfl, fr_intro (by simp)⟩ (by simp; omega)
          | true =>
            cases e4 : (r.status != 101) with
            | true =>
              simp [e4]
              exact aPost_same hB rfl (nilV_refl _) (by simp) (fin _ (hsp (by rw [hfd, e1, e2, e3, e4]; rfl)))
            | false =>
              simp [e4, hw]
              exact Kloop_normal ⟨J ++ [[.str f.name, .str f.value]], i + 1, by simp [hR], by omega, by rw [hst, hany, hfd, e1, e2, e3, e4]; rfl, fr_intro (by simp)⟩ (by simp; omega)
    · obtain rfl : i = r.fields.length := by omega
      rw [List.take_of_length_le (Nat.le_refl _)] at hany
      rw [if_neg (by rw [hany]; simp)] at hW
      have hw2 : IntKind.i64.wrap ((h.sizes.length : Int) + h.trailers.length) = h.sizes.length + h.trailers.length := wrap_in (by omega) (by omega)
      have hst : (decide (h.sizes ≠ []) || decide (h.trailers ≠ [])) = decide ((0 : Int) < h.sizes.length + h.trailers.length) := by
        rw [Bool.eq_iff_iff]
        simp
        rw [← List.length_eq_zero_iff, ← List.length_eq_zero_iff]
        omega
      rw [hst] at hW
      simp [hR, hM]
      refine never_pc E _ _ r.status ?_
      cases hn : neverS r.status with
      | true =>
        by_cases hb : r.body = []
        · cases hc : h.chunked with
          | true =>
            simp [hb]
            exact aPost_same hB rfl (nilV_refl _) (by simp) (fin _ (by rw [hW, hn, hc]; simp))
          | false =>
            by_cases hz : (0 : Int) < h.sizes.length + h.trailers.length
            · simp [hb, hw2, hz]
              exact aPost_same hB rfl (nilV_refl _) (by simp) (fin _ (by rw [hW, hc, decide_eq_true hz]; simp))
            · simp [hb, hw2, hz]
              exact aPost_same hB rfl (nilV_refl _) (by simp) (fin _ (by rw [hW, hc, decide_eq_false hz, hb]; simp))
        · have hb2 : (r.body != []) = true := by simpa using hb
          simp [hb2]
          exact aPost_same hB rfl (nilV_refl _) (by simp) (fin _ (by rw [hW, hn, decide_eq_true hb]; simp))
      | false =>
        cases hc : h.chunked with
        | true =>
          cases ho : h.old with
          | true =>
            simp
            exact aPost_same hB rfl (nilV_refl _) (by simp) (fin _ (by rw [hW, hc, ho]; simp))
          | false =>
            simp
            exact aPost_same hB rfl (nilV_refl _) (by simp) (fin _ (by rw [hW, hn, hc, ho]; simp))
        | false =>
          by_cases hz : (0 : Int) < h.sizes.length + h.trailers.length
          · simp [hw2, hz]
            exact aPost_same hB rfl (nilV_refl _) (by simp) (fin _ (by rw [hW, hc, decide_eq_true hz]; simp))
          · simp [hw2, hz]
            exact aPost_same hB rfl (nilV_refl _) (by simp) (fin _ (by rw [hW, hc, decide_eq_false hz, hn]; simp))
end
end Go.Proofs.YtcdkcaocfioigaaGreatDoor

