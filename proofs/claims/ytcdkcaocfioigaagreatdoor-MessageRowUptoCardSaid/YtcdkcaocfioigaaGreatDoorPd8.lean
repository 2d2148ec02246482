/- Part 8 of the texts below the law: the abstract machine, the functions that it walks, what they compute. -/
import Derived.Test.YtcdkcaocfioigaaGreatDoorPd7
set_option linter.unusedVariables false
set_option linter.unnecessarySimpa false
set_option linter.unusedSimpArgs false
set_option linter.unusedSectionVars false
set_option maxRecDepth 100000
namespace Go.Proofs.YtcdkcaocfioigaaGreatDoor
open Go Go.RowKit Go.Proofs

theorem chop_u8 (out : List UInt8) (tail : List AV) : chop 1 out.length (u8L out ++ tail) = bts out := by
  rw [chop_one _ _ (by simp), List.take_append_of_le_length (by simp), List.take_of_length_le (by simp)]
  unfold u8L bts
  rw [List.map_map]
  rfl
theorem piecesB_cons {b : List UInt8} (h : b ≠ []) (n : Int) (ns : List Int) : piecesB b (n :: ns) = b.take n.toNat :: piecesB (b.drop n.toNat) ns := by rw [piecesB, if_neg h]
theorem piecesB_last {b : List UInt8} (h : b ≠ []) : piecesB b [] = [b] := by rw [piecesB, if_neg h]
theorem chunksT_cons (p : List UInt8) (ps : List (List UInt8)) : chunksT (p :: ps) = chunkT p ++ chunksT ps := by simp [chunksT]
section
variable (E : Env) (H : Hp) (Q : AV → Hp → Prop)
def encInv1 (body : List UInt8) (ns : List Int) (ts : List Fld) (H : Hp) (fr : List AV) (H' : Hp) : Prop := H' = H ∧ ∃ i : Nat, i ≤ ns.length ∧ okSizes (ns.take i) = true ∧
  ∃ x : Nat → AV, fr = [.str body, .sl false 1 (ints ns), .sl false 2 (flds ts), x 3, x 4, x 5, x 6, x 7, x 8, x 9, x 10, x 11, x 12, x 13, x 14, x 15, x 16, x 17, .sl false 1 (ints ns), .int .i64 ns.length, .int .i64 i, x 21, x 22, x 23, x 24, x 25, x 26, x 27, x 28, x 29, x 30, x 31, x 32, x 33, x 34, x 35, x 36, x 37, x 38, x 39, x 40, x 41, x 42, x 43, x 44, x 45, x 46, x 47, x 48, x 49, x 50, x 51, x 52, x 53, x 54, x 55, x 56, x 57, x 58, x 59, x 60, x 61, x 62, x 63, x 64, x 65, x 66, x 67, x 68, x 69, x 70, x 71, x 72, x 73, x 74, x 75, x 76, x 77, x 78, x 79, x 80, x 81, x 82]
def encInv2 (body : List UInt8) (ns : List Int) (ts : List Fld) (H : Hp) (fr : List AV) (H' : Hp) : Prop := ∃ (J2 : Hp) (i : Nat), i ≤ ts.length ∧ H' = H ++ ([.bl TB, .bf TU (linesT (ts.take i))] :: J2) ∧ (∀ l ∈ J2, ∀ x ∈ l, ∃ s, x = .str s) ∧ (ts.take i).all rightB = true ∧
  ∃ x : Nat → AV, fr = [.str body, .sl false 1 (ints ns), x 2, x 3, x 4, x 5, x 6, x 7, x 8, x 9, .ptr (some (H.length, 0)), x 11, x 12, x 13, x 14, x 15, x 16, x 17, x 18, x 19, x 20, x 21, x 22, x 23, x 24, x 25, x 26, .sl false 2 (flds ts), .int .i64 ts.length, .int .i64 i, x 30, x 31, x 32, x 33, x 34, x 35, x 36, x 37, x 38, x 39, x 40, x 41, x 42, x 43, x 44, x 45, x 46, x 47, x 48, x 49, x 50, x 51, x 52, x 53, x 54, x 55, x 56, x 57, x 58, x 59, x 60, x 61, x 62, x 63, x 64, x 65, x 66, x 67, x 68, x 69, x 70, x 71, x 72, x 73, x 74, x 75, x 76, x 77, x 78, x 79, x 80, x 81, x 82]
def encInv3 (body : List UInt8) (ns : List Int) (H0 : Hp) (hn : Nat) (fr : List AV) (H' : Hp) : Prop := ∃ (i : Nat) (b out : List UInt8) (v : AV), i ≤ ns.length ∧ OutAt H0 v out H' ∧ out ++ chunksT (piecesB b (ns.drop i)) = chunksT (piecesB body ns) ∧ b.length ≤ body.length ∧
  ∃ x : Nat → AV, fr = [.str b, x 1, x 2, x 3, x 4, x 5, x 6, x 7, x 8, x 9, .ptr (some (hn, 0)), x 11, x 12, x 13, x 14, v, x 16, x 17, x 18, x 19, x 20, x 21, x 22, x 23, x 24, x 25, x 26, x 27, x 28, x 29, x 30, x 31, x 32, x 33, x 34, x 35, x 36, x 37, x 38, x 39, x 40, x 41, x 42, x 43, x 44, x 45, x 46, x 47, x 48, x 49, .sl false 1 (ints ns), .int .i64 ns.length, .int .i64 i, x 53, x 54, x 55, x 56, x 57, x 58, x 59, x 60, x 61, x 62, x 63, x 64, x 65, x 66, x 67, x 68, x 69, x 70, x 71, x 72, x 73, x 74, x 75, x 76, x 77, x 78, x 79, x 80, x 81, x 82]
theorem outAt_free {H0 : Hp} {v : AV} {out : List UInt8} {H : Hp} (h : OutAt H0 v out H) : v.free = true ∧ v.dis = v := by
  obtain ⟨J, _, _, ⟨rfl, _⟩ | ⟨J1, tail, _, rfl, _⟩⟩ := h <;> exact ⟨rfl, rfl⟩
set_option maxHeartbeats 4000000 in
theorem encode_pc (hE : SZ E) (body : List UInt8) (ns : List Int) (ts : List Fld) (hb : body.length ≤ 1048576) (hn : ns.length ≤ 1048577) (ht : fsz ts + ts.length ≤ 1048577) (hr : ∀ z ∈ ns, -9223372036854775808 ≤ z ∧ z ≤ 9223372036854775807)
    (hQ : Q (.tup [.str (encAns body ns ts).1, .int .i64 (encAns body ns ts).2]) H) : PC Tryz.prog E 54 [.str body, .sl false 1 (ints ns), .sl false 2 (flds ts)] H Q := by
  refine pc_enterZ Tryz.func54 rfl [] [(7, [3]), (27, [5, H.length])] (by kernel_rfl) (fun id m hm => ?_) (fun hB => ?_)
  · unfold ndOf at hm
    split at hm
    · cases hm
    · unfold ndOf at hm
      split at hm
      · cases hm; exact Nat.le_refl _
      · cases hm
  simp [Tryz.ntmps54, Tryz.results54, List.replicate_succ]
  refine VL_go (encInv1 body ns ts H) (fun fr _ => ns.length - (ai (aget fr 20)).toNat) ⟨rfl, 0, by omega, rfl, fr_intro (by simp)⟩ ?_
  rintro fr H' ⟨rfl, i, hi, hall, x, rfl⟩
  by_cases h : i < ns.length
  · obtain ⟨z, hz⟩ : ∃ z, ns[i]? = some z := ⟨_, List.getElem?_eq_getElem h⟩
    have hat := ints_at hz
    have hw : IntKind.i64.wrap ((i : Int) + 1) = i + 1 := wrap_in (by omega) (by omega)
    have hst : okSizes (ns.take (i + 1)) = (okSizes (ns.take i) && decide (1 ≤ z)) := by
      unfold okSizes
      rw [List.take_add_one, hz, List.all_append]; simp
    by_cases hz1 : z < 1
    · have e : encAns body ns ts = ([], 1) := by
        unfold encAns
        rw [if_pos]
        unfold okSizes
        rw [List.all_eq_false]
        exact ⟨z, List.mem_of_getElem? hz, by simp; omega⟩
      rw [e] at hQ
      simp [h, hat, hz1]
      exact aPost_same0 hB rfl (nilV_refl _) (by simp) hQ
    · simp [h, hat, hz1, hw]
      exact Kloop_normal ⟨rfl, i + 1, by omega, by rw [hst, hall]; simp; omega, fr_intro (by simp)⟩ (by simp; omega)
  obtain rfl : i = ns.length := by omega
  rw [List.take_of_length_le (Nat.le_refl _)] at hall
  have hns : ∀ z ∈ ns, 1 ≤ z := fun z hz => by have := List.all_eq_true.1 hall z hz; simpa using this
  clear hi h
  simp
  refine VL_go (encInv2 body ns ts H') (fun fr _ => ts.length - (ai (aget fr 29)).toNat) ⟨[], 0, by omega, by simp [linesT], by simp, by simp, fr_intro (by simp)⟩ ?_
  rintro fr H2 ⟨J2, i, hi, rfl, hJ2, hts, x, rfl⟩
  have hlin := linesT_le (ts.take i)
  have hsz := fsz_take ts i
  rw [List.length_take] at hlin
  by_cases h : i < ts.length
  · obtain ⟨f, hf⟩ : ∃ f, ts[i]? = some f := ⟨_, List.getElem?_eq_getElem h⟩
    have hat := flds_at hf
    have hfm := fsz_mem hf
    have hw : IntKind.i64.wrap ((i : Int) + 1) = i + 1 := wrap_in (by omega) (by omega)
    have hstop : rightB f = false → encAns body ns ts = ([], 101) := fun hr => by
      unfold encAns
      rw [if_neg (by rw [hall]; simp), if_pos]
      rw [List.all_eq_false]
      exact ⟨f, List.mem_of_getElem? hf, by rw [hr]; simp⟩
    simp [h, hat]
    refine printLine_pc E _ _ hE.1 f (by omega) (by omega) ?_
    cases hnm : nameB f.name with
    | false =>
      have e : lineP f = ([], 60) := by unfold lineP; rw [if_pos hnm]
      have hq := hstop (by unfold rightB mayB; rw [hnm]; simp)
      rw [hq] at hQ
      simp [e]
      exact aPost_same hB rfl (nilV_refl _) (by simp) hQ
    | true =>
    cases hvl : valueB f.value with
    | false =>
      have e : lineP f = ([], 61) := by unfold lineP; rw [if_neg (by rw [hnm]; simp), if_pos hvl]
      have hq := hstop (by unfold rightB; rw [hvl]; simp)
      rw [hq] at hQ
      simp [e]
      exact aPost_same hB rfl (nilV_refl _) (by simp) hQ
    | true =>
    have e : lineP f = (lineT f, 0) := by unfold lineP; rw [if_neg (by rw [hnm]; simp), if_neg (by rw [hvl]; simp)]
    have hlt := lineT_le f
    simp [e]
    refine mayTrail_pc E _ _ hE.1 f.name (by simp only [cap]; omega) ?_
    cases hmy : mayB f.name with
    | false =>
      have hq := hstop (by unfold rightB; rw [hmy]; simp)
      rw [hq] at hQ
      simp
      exact aPost_same hB rfl (nilV_refl _) (by simp) hQ
    | true =>
    have hrt : rightB f = true := by unfold rightB; rw [hmy, hvl]; rfl
    have m1 : (lineT f).length + 1 + 1 ≤ maxLen := by unfold maxLen; omega
    have m2 : (lineT f).length + 2 ≤ maxLen := by unfold maxLen; omega
    simp [m1, m2]
    refine wstr_pc E _ _ H'.length (linesT (ts.take i)) (lineT f ++ [13, 10]) (by simp) (by simp; omega) ?_
    rw [← linesT_step ts i f hf]
    simp [hw]
    refine Kloop_normal ⟨J2 ++ [[.str f.name, .str f.value]], i + 1, by omega, by simp, fun l hl y hy => ?_, ?_, fr_intro (by simp)⟩ (by simp; omega)
    · rcases List.mem_append.1 hl with h | h
      · exact hJ2 l h y hy
      · simp at h; subst h; simp at hy; rcases hy with rfl | rfl <;> exact ⟨_, rfl⟩
    · rw [all_step rightB ts i f hf, hts, hrt]; rfl
  obtain rfl : i = ts.length := by omega
  rw [List.take_of_length_le (Nat.le_refl _)] at hts hlin ⊢
  have he : encAns body ns ts = (encT (piecesB body ns) ts, 0) := by
    unfold encAns
    rw [if_neg (by rw [hall]; simp), if_neg (by rw [hts]; simp)]
  rw [he] at hQ
  simp only at hQ
  clear hi h he hall hts
  obtain ⟨H0, hH0⟩ : ∃ H0, H' ++ ([.bl TB, .bf TU (linesT ts)] :: J2) = H0 := ⟨_, rfl⟩
  have hbl : ∀ J : Hp, (H0 ++ J)[H'.length]? = some [.bl TB, .bf TU (linesT ts)] := fun J => by rw [← hH0]; simp
  have hlH : H'.length < H0.length := by rw [← hH0]; simp
  have hBH : ∀ N, H0.length ≤ N → ∀ l ∈ H0, ∀ y ∈ l, Bnd N y := fun N hN l hl y hy => by
    rw [← hH0] at hl
    rcases List.mem_append.1 hl with h | h
    · exact (hB l h y hy).mono (by omega)
    · rcases List.mem_cons.1 h with rfl | h
      · simp at hy; rcases hy with rfl | rfl
        · exact .bl _
        · exact .bf _ _
      · obtain ⟨s, rfl⟩ := hJ2 l h y hy; exact .str _
  have hpf : (piecesB body ns).flatten = body := pieces_flat ns body
  have htot := chunksT_le (piecesB body ns) (pieces_ne ns body hns) (by rw [hpf]; omega)
  rw [hpf] at htot
  rw [hH0]
  simp
  refine VL_go (encInv3 body ns H0 H'.length) (fun fr _ => ns.length - (ai (aget fr 52)).toNat) ⟨0, body, [], .nil, by omega, ⟨[], by simp, by simp, .inl ⟨rfl, rfl⟩⟩, by simp, by omega, fr_intro (by simp)⟩ ?_
  rintro fr H3 ⟨i, b, out, v, hi, hO, hsum, hbl2, x, rfl⟩
  have hol : out.length ≤ 16 * body.length := by
    have := congrArg List.length hsum
    rw [List.length_append] at this
    omega
  obtain ⟨hvf, hvd⟩ := outAt_free hO
  by_cases h : i < ns.length
  · obtain ⟨z, hz⟩ : ∃ z, ns[i]? = some z := ⟨_, List.getElem?_eq_getElem h⟩
    have hat := ints_at hz
    have hz1 := hns z (List.mem_of_getElem? hz)
    have hw : IntKind.i64.wrap ((i : Int) + 1) = i + 1 := wrap_in (by omega) (by omega)
    have hdrop : ns.drop i = z :: ns.drop (i + 1) := by rw [List.drop_eq_getElem_cons h]; simp [(List.getElem?_eq_some_iff.1 hz).2]
    rw [hdrop] at hsum
    by_cases hb0 : b = []
    · subst hb0
      simp [h, hat, hw]
      exact Kloop_normal ⟨i + 1, [], out, v, by omega, hO, by rw [← hsum, pieces_nil, pieces_nil], by simp, fr_intro (by simp)⟩ (by simp; omega)
    · have hb1 : (b != []) = true := by simpa using hb0
      obtain ⟨m, hm⟩ : ∃ m : Nat, (if (b.length : Int) < z then (b.length : Int) else z) = m := ⟨(if (b.length : Int) < z then (b.length : Int) else z).toNat, by split <;> omega⟩
      have hml : m ≤ b.length := by split at hm <;> omega
      have htk : b.take m = b.take z.toNat := by
        split at hm
        · rw [List.take_of_length_le (by omega), List.take_of_length_le (by omega)]
        · rw [show m = z.toNat by omega]
      have hdk : b.drop m = b.drop z.toNat := by
        split at hm
        · rw [List.drop_of_length_le (by omega), List.drop_of_length_le (by omega)]
        · rw [show m = z.toNat by omega]
      have hsum2 : (out ++ chunkT (b.take m)) ++ chunksT (piecesB (b.drop m) (ns.drop (i + 1))) = chunksT (piecesB body ns) := by
        rw [← hsum, htk, hdk, piecesB_cons hb0, chunksT_cons, List.append_assoc]
      simp [h, hat, hb1, hm, hml, hvd]
      refine put_pc E _ _ hE H0 v out (b.take m) hO (by rw [List.length_take]; omega) (by omega) (fun v' H4 hO' => ?_)
      obtain ⟨hvf', hvd'⟩ := outAt_free hO'
      have htl : (b.drop m).take (b.length - m) = b.drop m := List.take_of_length_le (by rw [List.length_drop]; omega)
      simp [hml, hvd', hw, htl]
      exact Kloop_normal ⟨i + 1, b.drop m, out ++ chunkT (b.take m), v', by omega, hO', hsum2, by rw [List.length_drop]; omega, fr_intro (by simp)⟩ (by simp; omega)
  obtain rfl : i = ns.length := by omega
  rw [List.drop_of_length_le (Nat.le_refl _)] at hsum
  simp
  have fin : ∀ (x : Nat → AV) (b : List UInt8) (v : AV) (H4 : Hp), OutAt H0 v (chunksT (piecesB body ns)) H4 → vc Tryz.prog E [] [(7, [3]), (27, [5, H'.length])] (Code.skip) (fun _ _ _ => True) [] [] := fun _ _ _ _ _ => trivial
  have hm1 : (chunksT (piecesB body ns)).length + 1 ≤ maxLen := by unfold maxLen; omega
  have hm2 : (chunksT (piecesB body ns)).length + 1 + 2 ≤ maxLen := by unfold maxLen; omega
  have hm3 : (chunksT (piecesB body ns)).length + 1 + 2 + (linesT ts).length ≤ maxLen := by unfold maxLen; omega
  have hm4 : (chunksT (piecesB body ns)).length + 1 + 2 + (linesT ts).length + 2 ≤ maxLen := by unfold maxLen; omega
  clear fin
  by_cases hb0 : b = []
  case' pos =>
    subst hb0
    rw [pieces_nil] at hsum
    have hO2 : OutAt H0 v (chunksT (piecesB body ns)) H3 := by
      have : out = chunksT (piecesB body ns) := by rw [← hsum]; simp [chunksT]
      rw [← this]; exact hO
    simp
    clear hO hsum hol hi hbl2
  case' neg =>
    have hb1 : (b != []) = true := by simpa using hb0
    simp [hb1, hvd]
    refine put_pc E _ _ hE H0 v out b hO (by omega) (by omega) (fun v' H4 hO' => ?_)
    obtain ⟨hvf', hvd'⟩ := outAt_free hO'
    have hO2 : OutAt H0 v' (chunksT (piecesB body ns)) H4 := by
      have : out ++ chunkT b = chunksT (piecesB body ns) := by rw [← hsum, piecesB_last hb0, chunksT_cons]; simp [chunksT]
      rw [← this]; exact hO'
    simp [hvd']
    clear hO hO' hsum hol hi hbl2 hvf hvd hb0 hb1 hvf' hvd'
  all_goals
    obtain ⟨J, rfl, hJ, ⟨rfl, hnil⟩ | ⟨J1, tail, rfl, rfl, htl⟩⟩ := hO2
    · refine VFz_skip ?_
      rw [hnil] at hm1 hm2 hm3 hm4
      simp at hm1 hm2 hm3 hm4
      simp [hm1, hm2]
      refine bstr_pc E _ _ H'.length (linesT ts) (hbl J) (by omega) ?_
      have n1 : (linesT ts).length + 1 + 1 + 1 + 2 ≤ maxLen := by unfold maxLen; omega
      simp [hm3, hm4, n1]
      rw [← hH0, List.append_assoc]
      have e : encT (piecesB body ns) ts = 48 :: 13 :: 10 :: (linesT ts ++ [13, 10]) := by unfold encT; rw [hnil]; rfl
      rw [e] at hQ
      exact aPost_same hB (by simp) (nilV_refl _) (by simp) hQ
    · refine VFz_intro [10, 15] (H0 ++ J1) (u8L (chunksT (piecesB body ns)) ++ tail) (by simp) (by simp; omega) ?_ ?_ ?_
      · intro l' hl' y hy
        rcases List.mem_append.1 hl' with h | h
        · exact hBH _ (by simp) l' h y hy
        · obtain ⟨z, rfl⟩ := hJ l' (List.mem_append_left _ h) y hy; exact .int _ _
      · intro t ht y hy
        simp at ht
        rcases ht with rfl | rfl
        · simp at hy; subst hy; exact .ptr _ _ (by simp; omega)
        · simp at hy; subst hy
          refine .inr ⟨by simp, by omega, by simp, fun y hy => ?_⟩
          obtain ⟨z, rfl⟩ := hJ (u8L (chunksT (piecesB body ns)) ++ tail) (by simp) y (List.mem_of_mem_drop (List.mem_of_mem_take hy))
          exact ⟨rfl, .int _ _⟩
      · intro y
        simp [fmapK, frz, chop_u8, hm1, hm2]
        refine bstr_pc E _ _ H'.length (linesT ts) (hbl J1) (by omega) ?_
        have n1 : (chunksT (piecesB body ns)).length + ((linesT ts).length + 1 + 1 + 1) + 2 ≤ maxLen := by unfold maxLen; omega
        have n2 : (chunksT (piecesB body ns)).length + ((linesT ts).length + 1 + 1 + 1) ≤ maxLen := by unfold maxLen; omega
        simp [hm3, hm4, n1, n2]
        rw [← hH0, List.append_assoc]
        have e : encT (piecesB body ns) ts = chunksT (piecesB body ns) ++ 48 :: 13 :: 10 :: (linesT ts ++ [13, 10]) := by unfold encT; simp
        rw [e] at hQ
        exact aPost_same hB (by simp) (nilV_refl _) (by simp) hQ
end
end Go.Proofs.YtcdkcaocfioigaaGreatDoor

set_option linter.unusedVariables false
set_option linter.unnecessarySimpa false
set_option linter.unusedSimpArgs false
set_option linter.unusedSectionVars false
set_option maxRecDepth 100000
namespace Go.Proofs.YtcdkcaocfioigaaGreatDoor
open Go Go.RowKit Go.Proofs

theorem beq_rev {s k : Int} (h : (s == k) = false) : (k == s) = false := by
  rw [beq_eq_false_iff_ne] at h ⊢
  exact fun e => h e.symm
section
variable (E : Env) (H : Hp) (Q : AV → Hp → Prop)
theorem serverReason_pc (s : Int) (hQ : Q (.str (serverB s)) H) : PC Tryz.prog E 96 [.int .i64 s] H Q := by
  refine pc_enter Tryz.func96 rfl [] [] (by kernel_rfl) (fun hB => ?_)
  have fin : ∀ t, serverB s = t → Q (.str t) H := fun t ht => ht ▸ hQ
  by_cases h500 : s = 500
  · subst h500
    simp [Tryz.ntmps96, Tryz.results96, List.replicate_succ]
    exact aPost_same0 hB rfl (nilV_refl _) (by simp) (fin _ rfl)
  have b500 : (s == 500) = false := by simpa using h500
  by_cases h501 : s = 501
  · subst h501
    simp [Tryz.ntmps96, Tryz.results96, List.replicate_succ]
    exact aPost_same0 hB rfl (nilV_refl _) (by simp) (fin _ rfl)
  have b501 : (s == 501) = false := by simpa using h501
  by_cases h502 : s = 502
  · subst h502
    simp [Tryz.ntmps96, Tryz.results96, List.replicate_succ]
    exact aPost_same0 hB rfl (nilV_refl _) (by simp) (fin _ rfl)
  have b502 : (s == 502) = false := by simpa using h502
  by_cases h503 : s = 503
  · subst h503
    simp [Tryz.ntmps96, Tryz.results96, List.replicate_succ]
    exact aPost_same0 hB rfl (nilV_refl _) (by simp) (fin _ rfl)
  have b503 : (s == 503) = false := by simpa using h503
  by_cases h504 : s = 504
  · subst h504
    simp [Tryz.ntmps96, Tryz.results96, List.replicate_succ]
    exact aPost_same0 hB rfl (nilV_refl _) (by simp) (fin _ rfl)
  have b504 : (s == 504) = false := by simpa using h504
  by_cases h505 : s = 505
  · subst h505
    simp [Tryz.ntmps96, Tryz.results96, List.replicate_succ]
    exact aPost_same0 hB rfl (nilV_refl _) (by simp) (fin _ rfl)
  have b505 : (s == 505) = false := by simpa using h505
  have e : serverB s = [] := by
    unfold serverB look reasS
    simp [beq_rev b500, beq_rev b501, beq_rev b502, beq_rev b503, beq_rev b504, beq_rev b505]
  simp [Tryz.ntmps96, Tryz.results96, List.replicate_succ, b500, b501, b502, b503, b504, b505]
  exact aPost_same0 hB rfl (nilV_refl _) (by simp) (fin _ e)
theorem wrongReason_pc (s : Int) (hQ : Q (.str (wrongB s)) H) : PC Tryz.prog E 60 [.int .i64 s] H Q := by
  refine pc_enter Tryz.func60 rfl [] [] (by kernel_rfl) (fun hB => ?_)
  have fin : ∀ t, wrongB s = t → Q (.str t) H := fun t ht => ht ▸ hQ
  by_cases h400 : s = 400
  · subst h400
    simp [Tryz.ntmps60, Tryz.results60, List.replicate_succ]
    exact aPost_same0 hB rfl (nilV_refl _) (by simp) (fin _ rfl)
  have b400 : (s == 400) = false := by simpa using h400
  by_cases h401 : s = 401
  · subst h401
    simp [Tryz.ntmps60, Tryz.results60, List.replicate_succ]
    exact aPost_same0 hB rfl (nilV_refl _) (by simp) (fin _ rfl)
  have b401 : (s == 401) = false := by simpa using h401
  by_cases h403 : s = 403
  · subst h403
    simp [Tryz.ntmps60, Tryz.results60, List.replicate_succ]
    exact aPost_same0 hB rfl (nilV_refl _) (by simp) (fin _ rfl)
  have b403 : (s == 403) = false := by simpa using h403
  by_cases h404 : s = 404
  · subst h404
    simp [Tryz.ntmps60, Tryz.results60, List.replicate_succ]
    exact aPost_same0 hB rfl (nilV_refl _) (by simp) (fin _ rfl)
  have b404 : (s == 404) = false := by simpa using h404
  by_cases h405 : s = 405
  · subst h405
    simp [Tryz.ntmps60, Tryz.results60, List.replicate_succ]
    exact aPost_same0 hB rfl (nilV_refl _) (by simp) (fin _ rfl)
  have b405 : (s == 405) = false := by simpa using h405
  by_cases h406 : s = 406
  · subst h406
    simp [Tryz.ntmps60, Tryz.results60, List.replicate_succ]
    exact aPost_same0 hB rfl (nilV_refl _) (by simp) (fin _ rfl)
  have b406 : (s == 406) = false := by simpa using h406
  by_cases h408 : s = 408
  · subst h408
    simp [Tryz.ntmps60, Tryz.results60, List.replicate_succ]
    exact aPost_same0 hB rfl (nilV_refl _) (by simp) (fin _ rfl)
  have b408 : (s == 408) = false := by simpa using h408
  by_cases h411 : s = 411
  · subst h411
    simp [Tryz.ntmps60, Tryz.results60, List.replicate_succ]
    exact aPost_same0 hB rfl (nilV_refl _) (by simp) (fin _ rfl)
  have b411 : (s == 411) = false := by simpa using h411
  by_cases h412 : s = 412
  · subst h412
    simp [Tryz.ntmps60, Tryz.results60, List.replicate_succ]
    exact aPost_same0 hB rfl (nilV_refl _) (by simp) (fin _ rfl)
  have b412 : (s == 412) = false := by simpa using h412
  by_cases h413 : s = 413
  · subst h413
    simp [Tryz.ntmps60, Tryz.results60, List.replicate_succ]
    exact aPost_same0 hB rfl (nilV_refl _) (by simp) (fin _ rfl)
  have b413 : (s == 413) = false := by simpa using h413
  by_cases h414 : s = 414
  · subst h414
    simp [Tryz.ntmps60, Tryz.results60, List.replicate_succ]
    exact aPost_same0 hB rfl (nilV_refl _) (by simp) (fin _ rfl)
  have b414 : (s == 414) = false := by simpa using h414
  by_cases h415 : s = 415
  · subst h415
    simp [Tryz.ntmps60, Tryz.results60, List.replicate_succ]
    exact aPost_same0 hB rfl (nilV_refl _) (by simp) (fin _ rfl)
  have b415 : (s == 415) = false := by simpa using h415
  by_cases h416 : s = 416
  · subst h416
    simp [Tryz.ntmps60, Tryz.results60, List.replicate_succ]
    exact aPost_same0 hB rfl (nilV_refl _) (by simp) (fin _ rfl)
  have b416 : (s == 416) = false := by simpa using h416
  by_cases h417 : s = 417
  · subst h417
    simp [Tryz.ntmps60, Tryz.results60, List.replicate_succ]
    exact aPost_same0 hB rfl (nilV_refl _) (by simp) (fin _ rfl)
  have b417 : (s == 417) = false := by simpa using h417
  by_cases h421 : s = 421
  · subst h421
    simp [Tryz.ntmps60, Tryz.results60, List.replicate_succ]
    exact aPost_same0 hB rfl (nilV_refl _) (by simp) (fin _ rfl)
  have b421 : (s == 421) = false := by simpa using h421
  by_cases h422 : s = 422
  · subst h422
    simp [Tryz.ntmps60, Tryz.results60, List.replicate_succ]
    exact aPost_same0 hB rfl (nilV_refl _) (by simp) (fin _ rfl)
  have b422 : (s == 422) = false := by simpa using h422
  by_cases h426 : s = 426
  · subst h426
    simp [Tryz.ntmps60, Tryz.results60, List.replicate_succ]
    exact aPost_same0 hB rfl (nilV_refl _) (by simp) (fin _ rfl)
  have b426 : (s == 426) = false := by simpa using h426
  by_cases h428 : s = 428
  · subst h428
    simp [Tryz.ntmps60, Tryz.results60, List.replicate_succ]
    exact aPost_same0 hB rfl (nilV_refl _) (by simp) (fin _ rfl)
  have b428 : (s == 428) = false := by simpa using h428
  by_cases h429 : s = 429
  · subst h429
    simp [Tryz.ntmps60, Tryz.results60, List.replicate_succ]
    exact aPost_same0 hB rfl (nilV_refl _) (by simp) (fin _ rfl)
  have b429 : (s == 429) = false := by simpa using h429
  by_cases h431 : s = 431
  · subst h431
    simp [Tryz.ntmps60, Tryz.results60, List.replicate_succ]
    exact aPost_same0 hB rfl (nilV_refl _) (by simp) (fin _ rfl)
  have b431 : (s == 431) = false := by simpa using h431
  have e : wrongB s = serverB s := by
    unfold wrongB look reasW
    simp [beq_rev b400, beq_rev b401, beq_rev b403, beq_rev b404, beq_rev b405, beq_rev b406, beq_rev b408, beq_rev b411, beq_rev b412, beq_rev b413, beq_rev b414, beq_rev b415, beq_rev b416, beq_rev b417, beq_rev b421, beq_rev b422, beq_rev b426, beq_rev b428, beq_rev b429, beq_rev b431]
  simp [Tryz.ntmps60, Tryz.results60, List.replicate_succ, b400, b401, b403, b404, b405, b406, b408, b411, b412, b413, b414, b415, b416, b417, b421, b422, b426, b428, b429, b431]
  refine serverReason_pc E _ _ s ?_
  simp
  exact aPost_same0 hB rfl (nilV_refl _) (by simp) (fin _ e)
theorem reason_pc (s : Int) (hQ : Q (.str (reasonB s)) H) : PC Tryz.prog E 27 [.int .i64 s] H Q := by
  refine pc_enter Tryz.func27 rfl [] [] (by kernel_rfl) (fun hB => ?_)
  have fin : ∀ t, reasonB s = t → Q (.str t) H := fun t ht => ht ▸ hQ
  by_cases h100 : s = 100
  · subst h100
    simp [Tryz.ntmps27, Tryz.results27, List.replicate_succ]
    exact aPost_same0 hB rfl (nilV_refl _) (by simp) (fin _ rfl)
  have b100 : (s == 100) = false := by simpa using h100
  by_cases h101 : s = 101
  · subst h101
    simp [Tryz.ntmps27, Tryz.results27, List.replicate_succ]
    exact aPost_same0 hB rfl (nilV_refl _) (by simp) (fin _ rfl)
  have b101 : (s == 101) = false := by simpa using h101
  by_cases h200 : s = 200
  · subst h200
    simp [Tryz.ntmps27, Tryz.results27, List.replicate_succ]
    exact aPost_same0 hB rfl (nilV_refl _) (by simp) (fin _ rfl)
  have b200 : (s == 200) = false := by simpa using h200
  by_cases h201 : s = 201
  · subst h201
    simp [Tryz.ntmps27, Tryz.results27, List.replicate_succ]
    exact aPost_same0 hB rfl (nilV_refl _) (by simp) (fin _ rfl)
  have b201 : (s == 201) = false := by simpa using h201
  by_cases h202 : s = 202
  · subst h202
    simp [Tryz.ntmps27, Tryz.results27, List.replicate_succ]
    exact aPost_same0 hB rfl (nilV_refl _) (by simp) (fin _ rfl)
  have b202 : (s == 202) = false := by simpa using h202
  by_cases h204 : s = 204
  · subst h204
    simp [Tryz.ntmps27, Tryz.results27, List.replicate_succ]
    exact aPost_same0 hB rfl (nilV_refl _) (by simp) (fin _ rfl)
  have b204 : (s == 204) = false := by simpa using h204
  by_cases h206 : s = 206
  · subst h206
    simp [Tryz.ntmps27, Tryz.results27, List.replicate_succ]
    exact aPost_same0 hB rfl (nilV_refl _) (by simp) (fin _ rfl)
  have b206 : (s == 206) = false := by simpa using h206
  by_cases h301 : s = 301
  · subst h301
    simp [Tryz.ntmps27, Tryz.results27, List.replicate_succ]
    exact aPost_same0 hB rfl (nilV_refl _) (by simp) (fin _ rfl)
  have b301 : (s == 301) = false := by simpa using h301
  by_cases h302 : s = 302
  · subst h302
    simp [Tryz.ntmps27, Tryz.results27, List.replicate_succ]
    exact aPost_same0 hB rfl (nilV_refl _) (by simp) (fin _ rfl)
  have b302 : (s == 302) = false := by simpa using h302
  by_cases h303 : s = 303
  · subst h303
    simp [Tryz.ntmps27, Tryz.results27, List.replicate_succ]
    exact aPost_same0 hB rfl (nilV_refl _) (by simp) (fin _ rfl)
  have b303 : (s == 303) = false := by simpa using h303
  by_cases h304 : s = 304
  · subst h304
    simp [Tryz.ntmps27, Tryz.results27, List.replicate_succ]
    exact aPost_same0 hB rfl (nilV_refl _) (by simp) (fin _ rfl)
  have b304 : (s == 304) = false := by simpa using h304
  by_cases h307 : s = 307
  · subst h307
    simp [Tryz.ntmps27, Tryz.results27, List.replicate_succ]
    exact aPost_same0 hB rfl (nilV_refl _) (by simp) (fin _ rfl)
  have b307 : (s == 307) = false := by simpa using h307
  by_cases h308 : s = 308
  · subst h308
    simp [Tryz.ntmps27, Tryz.results27, List.replicate_succ]
    exact aPost_same0 hB rfl (nilV_refl _) (by simp) (fin _ rfl)
  have b308 : (s == 308) = false := by simpa using h308
  have e : reasonB s = wrongB s := by
    unfold reasonB look reasT
    simp [beq_rev b100, beq_rev b101, beq_rev b200, beq_rev b201, beq_rev b202, beq_rev b204, beq_rev b206, beq_rev b301, beq_rev b302, beq_rev b303, beq_rev b304, beq_rev b307, beq_rev b308]
  simp [Tryz.ntmps27, Tryz.results27, List.replicate_succ, b100, b101, b200, b201, b202, b204, b206, b301, b302, b303, b304, b307, b308]
  refine wrongReason_pc E _ _ s ?_
  simp
  exact aPost_same0 hB rfl (nilV_refl _) (by simp) (fin _ e)
theorem never_pc (s : Int) (hQ : Q (.bool (neverS s)) H) : PC Tryz.prog E 46 [.int .i64 s] H Q := by
  refine pc_enter Tryz.func46 rfl [] [] (by kernel_rfl) (fun hB => ?_)
  have fin : ∀ c : Bool, neverS s = c → Q (.bool c) H := fun c hc => hc ▸ hQ
  by_cases h1 : 100 ≤ s
  · by_cases h2 : s ≤ 199
    · simp [Tryz.ntmps46, Tryz.results46, List.replicate_succ, h1, h2]
      exact aPost_same0 hB rfl (nilV_refl _) (by simp) (fin _ (by simp [neverS, h1, h2]))
    · simp [Tryz.ntmps46, Tryz.results46, List.replicate_succ, h1, h2]
      by_cases h3 : s = 204
      · subst h3
        simp
        exact aPost_same0 hB rfl (nilV_refl _) (by simp) (fin _ (by simp [neverS]))
      · have b3 : (s == 204) = false := by simpa using h3
        simp [b3]
        exact aPost_same0 hB rfl (nilV_refl _) (by simp) (fin _ (by simp [neverS, h1, h2, b3]))
  · simp [Tryz.ntmps46, Tryz.results46, List.replicate_succ, h1]
    by_cases h3 : s = 204
    · omega
    · have b3 : (s == 204) = false := by simpa using h3
      simp [b3]
      exact aPost_same0 hB rfl (nilV_refl _) (by simp) (fin _ (by simp [neverS, h1, b3]))
theorem interim_pc (s : Int) (hQ : Q (.bool (interimB s)) H) : PC Tryz.prog E 30 [.int .i64 s] H Q := by
  refine pc_enter Tryz.func30 rfl [] [] (by kernel_rfl) (fun hB => ?_)
  have fin : ∀ c : Bool, interimB s = c → Q (.bool c) H := fun c hc => hc ▸ hQ
  by_cases h1 : 100 ≤ s
  · by_cases h2 : s ≤ 199
    · simp [Tryz.ntmps30, Tryz.results30, List.replicate_succ, h1, h2]
      exact aPost_same0 hB rfl (nilV_refl _) (by simp) (fin _ (by simp [interimB, h1, h2]))
    · simp [Tryz.ntmps30, Tryz.results30, List.replicate_succ, h1, h2]
      exact aPost_same0 hB rfl (nilV_refl _) (by simp) (fin _ (by simp [interimB, h1, h2]))
  · simp [Tryz.ntmps30, Tryz.results30, List.replicate_succ, h1]
    exact aPost_same0 hB rfl (nilV_refl _) (by simp) (fin _ (by simp [interimB, h1]))
theorem bodyless_pc (m : List UInt8) (s : Int) (hQ : Q (.bool (bodylessB m s)) H) : PC Tryz.prog E 24 [.str m, .int .i64 s] H Q := by
  refine pc_enter Tryz.func24 rfl [] [] (by kernel_rfl) (fun hB => ?_)
  have fin : ∀ c : Bool, bodylessB m s = c → Q (.bool c) H := fun c hc => hc ▸ hQ
  simp [Tryz.ntmps24, Tryz.results24, List.replicate_succ]
  refine never_pc E _ _ s ?_
  cases hn : neverS s with
  | true =>
    simp
    exact aPost_same0 hB rfl (nilV_refl _) (by simp) (fin _ (by simp [bodylessB, hn]))
  | false =>
    cases hh : (m == [72, 69, 65, 68]) with
    | true =>
      simp [hh]
      exact aPost_same0 hB rfl (nilV_refl _) (by simp) (fin _ (by simp [bodylessB, vHead, hn, hh]))
    | false =>
      cases hc : (m == [67, 79, 78, 78, 69, 67, 84]) with
      | false =>
        simp [hh, hc]
        exact aPost_same0 hB rfl (nilV_refl _) (by simp) (fin _ (by simp [bodylessB, vHead, vConnect, hn, hh, hc]))
      | true =>
        by_cases h1 : 200 ≤ s
        · simp [hh, hc, h1]
          exact aPost_same0 hB rfl (nilV_refl _) (by simp) (fin _ (by simp [bodylessB, vHead, vConnect, hn, hh, hc, h1]))
        · simp [hh, hc, h1]
          exact aPost_same0 hB rfl (nilV_refl _) (by simp) (fin _ (by simp [bodylessB, vHead, vConnect, hn, hh, hc, h1]))
end
end Go.Proofs.YtcdkcaocfioigaaGreatDoor

set_option linter.unusedVariables false
set_option linter.unusedSimpArgs false
set_option maxRecDepth 100000
namespace Go.Proofs.YtcdkcaocfioigaaGreatDoor
open Go Go.RowKit Go.Lib

def dgB (k : Nat) : UInt8 := UInt8.ofNat (48 + k)
theorem dec_small {u : Nat} (h : u < 10) : decDigits u = [dgB u] := by rw [decDigits, dif_pos h]; rfl
theorem dec_big {u : Nat} (h : ¬ u < 10) : decDigits u = decDigits (u / 10) ++ [dgB (u % 10)] := by rw [decDigits, dif_neg h]; rfl
theorem dig_dgB : ∀ k, k < 10 → dig (dgB k) = k := by decide
theorem okDigs_app (a b : List UInt8) : okDigs 10 (a ++ b) = (okDigs 10 a && okDigs 10 b) := by unfold okDigs; rw [List.all_append]
theorem okDigs_dec (u : Nat) : okDigs 10 (decDigits u) = true := by
  induction u using Nat.strongRecOn with
  | _ u ih =>
    have one : ∀ k, k < 10 → okDigs 10 [dgB k] = true := fun k hk => by unfold okDigs; simp [dig_dgB k hk]; omega
    by_cases h : u < 10
    · rw [dec_small h]; exact one u h
    · rw [dec_big h, okDigs_app, ih (u / 10) (by omega), one _ (Nat.mod_lt _ (by omega))]; rfl
theorem numOf_snoc (l : List UInt8) (b : UInt8) : numOf 10 (l ++ [b]) = numOf 10 l * 10 + dig b := by unfold numOf; rw [List.foldl_append]; rfl
theorem numOf_dec (u : Nat) : numOf 10 (decDigits u) = u := by
  induction u using Nat.strongRecOn with
  | _ u ih =>
    by_cases h : u < 10
    · rw [dec_small h]
      have := numOf_snoc [] (dgB u)
      rw [List.nil_append] at this
      rw [this, dig_dgB u h]
      simp [numOf]
    · rw [dec_big h, numOf_snoc, ih (u / 10) (by omega), dig_dgB _ (Nat.mod_lt _ (by omega))]
      omega
theorem dig48 : dig 48 = 0 := by decide
theorem numOf_zeros (i : Nat) (l : List UInt8) : numOf 10 (List.replicate i 48 ++ l) = numOf 10 l := by
  unfold numOf
  rw [List.foldl_append]
  congr 1
  induction i with
  | zero => rfl
  | succ i ih => rw [List.replicate_succ, List.foldl_cons, dig48]; exact ih
theorem okDigs_zeros (i : Nat) : okDigs 10 (List.replicate i 48) = true := by
  unfold okDigs
  rw [List.all_eq_true]
  intro x hx
  rw [(List.mem_replicate.1 hx).2, dig48]; rfl
theorem numAns_back (u i : Nat) (most : Int) (h : 0 ≤ most) : numAns 10 most (List.replicate i 48 ++ decDigits u) = if most < u then (0, 12) else ((u : Int), 0) := by
  have hne : List.replicate i 48 ++ decDigits u ≠ [] := by
    intro hh
    have := congrArg List.length hh
    rw [List.length_append, decDigits_length] at this
    have h1 : nDigits u ≠ 0 := by rw [nDigits]; split <;> omega
    simp at this; omega
  unfold numAns
  rw [if_neg hne, okDigs_app, okDigs_zeros, okDigs_dec, numOf_zeros, numOf_dec]
  simp
  by_cases hm : most < u
  · rw [if_pos (.inr hm), if_pos hm]
  · rw [if_neg (by omega), if_neg hm]
theorem dec_head (u : Nat) : ∃ c r, decDigits u = c :: r ∧ (u ≠ 0 → c.toNat ≠ 48) ∧ (u = 0 → c.toNat = 48) := by
  induction u using Nat.strongRecOn with
  | _ u ih =>
    by_cases h : u < 10
    · refine ⟨dgB u, [], dec_small h, fun h0 => ?_, fun h0 => by subst h0; rfl⟩
      have : (dgB u).toNat = 48 + u := by simp [dgB]; omega
      omega
    · obtain ⟨c, r, h1, h2, _⟩ := ih (u / 10) (by omega)
      exact ⟨c, r ++ [dgB (u % 10)], by rw [dec_big h, h1]; rfl, fun _ => h2 (by omega), fun h0 => by omega⟩
theorem u8_add48 : ∀ k : Nat, k < 10 → IntKind.u8.wrap (48 + (k : Int)) = 48 + k := by decide

theorem dec_inj {u v : Nat} (h : decDigits u = decDigits v) : u = v := by
  have h1 := numOf_dec u
  have h2 := numOf_dec v
  rw [h] at h1
  omega
theorem dec_three {u : Nat} (h1 : 100 ≤ u) (h2 : u < 1000) : decDigits u = [dgB (u / 100), dgB (u / 10 % 10), dgB (u % 10)] := by
  rw [dec_big (by omega), dec_big (by omega), dec_small (by omega)]
  simp [show u / 10 / 10 = u / 100 by omega]
end Go.Proofs.YtcdkcaocfioigaaGreatDoor

set_option linter.unusedVariables false
set_option linter.unnecessarySimpa false
set_option linter.unusedSimpArgs false
set_option linter.unusedSectionVars false
set_option maxRecDepth 100000
namespace Go.Proofs.YtcdkcaocfioigaaGreatDoor
open Go Go.RowKit Go.Proofs Go.Lib

/-- What the document's Digits says. -/
def digR (n : Int) : List UInt8 := if n < 0 then [45] else decDigits n.toNat
theorem digR_inj {n k : Int} (hk : 0 ≤ k) (h : digR n = digR k) : n = k := by
  unfold digR at h
  rw [if_neg (show ¬ k < 0 by omega)] at h
  by_cases hn : n < 0
  · rw [if_pos hn] at h
    obtain ⟨m, hm⟩ : ∃ m, m = k.toNat := ⟨_, rfl⟩
    rw [← hm] at h
    exfalso
    have h1 := okDigs_dec m
    rw [← h] at h1
    revert h1; decide
  · rw [if_neg hn] at h
    have := dec_inj h
    omega
/-- The document's table, a row after the other: rest, what stands since the last 124. -/
def rsn (d : List UInt8) : List UInt8 → List UInt8 → List UInt8
  | [], _ => []
  | b :: r, cur => if b = 124 then (if cur.take 3 = d then cur.drop 4 else rsn d r []) else rsn d r (cur ++ [b])
theorem rsn_seg (d r : List UInt8) : ∀ (x cur : List UInt8), 124 ∉ x → rsn d (x ++ 124 :: r) cur = if (cur ++ x).take 3 = d then (cur ++ x).drop 4 else rsn d r []
  | [], cur, _ => by simp [rsn]
  | b :: x, cur, h => by
    simp only [List.mem_cons, not_or] at h
    rw [List.cons_append, rsn, if_neg (fun e => h.1 e.symm), rsn_seg d r x (cur ++ [b]) h.2]
    simp
def rowT (p : List UInt8 × List UInt8) : List UInt8 := p.1 ++ (32 :: p.2)
def flatT : List (List UInt8 × List UInt8) → List UInt8
  | [] => []
  | p :: l => rowT p ++ 124 :: flatT l
theorem rsn_flat (d : List UInt8) : ∀ (l : List (List UInt8 × List UInt8)), (∀ p ∈ l, p.1.length = 3 ∧ 124 ∉ rowT p) → rsn d (flatT l) [] = ((l.find? fun p => p.1 == d).map (·.2)).getD []
  | [], _ => rfl
  | p :: l, h => by
    obtain ⟨h1, h2⟩ := h p (by simp)
    have h3 : (rowT p).take 3 = p.1 := by unfold rowT; rw [← h1]; simp
    have h4 : (rowT p).drop 4 = p.2 := by
      unfold rowT
      obtain ⟨a, b⟩ := p
      simp only at h1
      match a, h1 with
      | [x, y, z], _ => rfl
    rw [flatT, rsn_seg d _ _ _ h2, List.nil_append, h3, h4, List.find?_cons]
    by_cases hd : p.1 = d
    · rw [if_pos hd, show (p.1 == d) = true by simpa using hd]; rfl
    · rw [if_neg hd, show (p.1 == d) = false by simpa using hd]
      exact rsn_flat d l (fun q hq => h q (List.mem_cons_of_mem _ hq))
def reasRows : List (Int × List UInt8) := reasT ++ (reasW ++ reasS)
/-- A number below a thousand in three digits. -/
def d3 (n : Int) : List UInt8 := [dgB (n.toNat / 100), dgB (n.toNat / 10 % 10), dgB (n.toNat % 10)]
def reasText : List UInt8 := flatT (reasRows.map fun p => (d3 p.1, p.2))
theorem reasRows_rng : ∀ p ∈ reasRows, 100 ≤ p.1 ∧ p.1 < 1000 := by decide
theorem look_app (a b : List (Int × List UInt8)) (s : Int) : (look (a ++ b) s).getD [] = (look a s).getD ((look b s).getD []) := by
  unfold look
  rw [List.find?_append]
  cases a.find? (fun p => p.1 == s) <;> rfl
theorem reasonB_rows (s : Int) : reasonB s = (look reasRows s).getD [] := by
  unfold reasRows
  rw [look_app, look_app]; rfl
theorem find_map (l : List (Int × List UInt8)) (s : Int) (h : ∀ p ∈ l, 100 ≤ p.1 ∧ p.1 < 1000) : ((l.map fun p => (d3 p.1, p.2)).find? fun p => p.1 == digR s).map (·.2) = look l s := by
  unfold look
  induction l with
  | nil => rfl
  | cons p l ih =>
    obtain ⟨h1, h2⟩ := h p (by simp)
    have hd : digR p.1 = d3 p.1 := by
      unfold digR d3
      rw [if_neg (by omega), dec_three (by omega) (by omega)]
    rw [List.map_cons, List.find?_cons, List.find?_cons]
    by_cases hs : p.1 = s
    · have e : (d3 p.1 == digR s) = true := by rw [← hd, hs]; simp
      have e2 : (p.1 == s) = true := by simpa using hs
      simp only [e, e2]; rfl
    · have e : (d3 p.1 == digR s) = false := by
        rw [beq_eq_false_iff_ne, ← hd]
        exact fun e => hs (digR_inj (by omega) e.symm).symm
      have e2 : (p.1 == s) = false := by simpa using hs
      simp only [e, e2]
      exact ih (fun q hq => h q (List.mem_cons_of_mem _ hq))
/-- THE DOCUMENT's WAY TO A REASON IS THE TABLE's. -/
theorem rsn_reason (s : Int) : rsn (digR s) reasText [] = reasonB s := by
  unfold reasText
  rw [rsn_flat, find_map reasRows s reasRows_rng, reasonB_rows]
  have key : ∀ p ∈ (reasRows.map fun p => (d3 p.1, p.2)), p.1.length = 3 ∧ 124 ∉ rowT p := by decide +kernel
  exact key
/-- At each 124 at least four bytes stand since the last. -/
def segOk : List UInt8 → Nat → Bool
  | [], _ => true
  | b :: r, k => if b = 124 then decide (4 ≤ k) && segOk r 0 else segOk r (k + 1)
theorem reasText_ok : segOk reasText 0 = true := by decide +kernel
theorem reasText_len : reasText.length = 787 := by decide +kernel
end Go.Proofs.YtcdkcaocfioigaaGreatDoor

set_option linter.unusedVariables false
set_option linter.unnecessarySimpa false
set_option linter.unusedSimpArgs false
set_option linter.unusedSectionVars false
set_option maxRecDepth 100000
namespace Go.Proofs.YtcdkcaocfioigaaGreatDoor
open Go Go.RowKit Go.Proofs Go.Lib

section
variable (E : Env) (H : Hp) (Q : AV → Hp → Prop)
def ddigInv (n : Nat) (H : Hp) (fr : List AV) (H' : Hp) : Prop := H' = H ∧ ∃ (m : Int) (out : List UInt8), 0 ≤ m ∧ m ≤ n ∧ decDigits m.natAbs ++ out = decDigits n ∧ ∃ x : Nat → AV, fr = [.int .i64 m, x 1, x 2, .str out, x 4, x 5, x 6, x 7, x 8, x 9, x 10, x 11, x 12, x 13, x 14, x 15, x 16, x 17, x 18]
theorem dg12_pc (n : Int) (h0 : -9223372036854775808 ≤ n) (h1 : n ≤ 9223372036854775807) (hQ : Q (.str (digR n)) H) : PC Tryz.prog E 53 [.int .i64 n] H Q := by
  refine pc_enter Tryz.func53 rfl [] [] (by kernel_rfl) (fun hB => ?_)
  by_cases hn : n < 0
  · have e : digR n = [45] := by unfold digR; rw [if_pos hn]
    rw [e] at hQ
    simp [Tryz.ntmps53, Tryz.results53, List.replicate_succ, hn]
    exact aPost_same0 hB rfl (nilV_refl _) (by simp) hQ
  obtain ⟨u, rfl⟩ : ∃ u : Nat, n = u := ⟨n.toNat, by omega⟩
  have e : digR (u : Int) = decDigits u := by unfold digR; rw [if_neg hn]; simp
  rw [e] at hQ
  have hlen := (itoa_le (u : Int) h0 h1).2
  rw [show (u : Int).natAbs = u from rfl] at hlen
  simp [Tryz.ntmps53, Tryz.results53, List.replicate_succ, hn]
  refine VL_go (ddigInv u H) (fun fr _ => (ai (aget fr 0)).natAbs) ⟨rfl, u, [], by omega, by omega, by simp, fr_intro (by simp)⟩ ?_
  rintro fr H' ⟨rfl, m, out, hm0, hm, hout, x, rfl⟩
  have hol : out.length ≤ 21 := by
    have := congrArg List.length hout
    rw [List.length_append] at this; omega
  obtain ⟨d, hd⟩ : ∃ d, m.tmod 10 = d := ⟨_, rfl⟩
  obtain ⟨q, hq⟩ : ∃ q, m.tdiv 10 = q := ⟨_, rfl⟩
  have hda : d.natAbs = m.natAbs % 10 := by rw [← hd, Int.natAbs_tmod]; rfl
  have hqa : q.natAbs = m.natAbs / 10 := by rw [← hq, Int.natAbs_tdiv]; rfl
  have hd0 : 0 ≤ d := by rw [← hd]; exact Int.tmod_nonneg _ hm0
  have hq0 : 0 ≤ q := by rw [← hq]; exact Int.tdiv_nonneg hm0 (by omega)
  have hwq : IntKind.i64.wrap q = q := wrap_in (by omega) (by omega)
  obtain ⟨k, hk⟩ : ∃ k, m.natAbs % 10 = k := ⟨_, rfl⟩
  have hk10 : k < 10 := by rw [← hk]; exact Nat.mod_lt _ (by omega)
  have hdk : d = k := by omega
  have hw48 : IntKind.i64.wrap (48 + (k : Int)) = 48 + k := wrap_in (by omega) (by omega)
  have hu8 := u8_add48 k hk10
  have c1 : (0 : Int) ≤ 48 + k := by omega
  have c2 : (48 : Int) + k < 256 := by omega
  have htn : ((48 : Int) + k).toNat = 48 + k := by omega
  have hml : out.length + 1 ≤ maxLen ∧ 1 + out.length ≤ maxLen := by unfold maxLen; omega
  by_cases h10 : m.natAbs < 10
  · have hqz : q = 0 := by omega
    have hw0 : IntKind.i64.wrap 0 = 0 := by decide
    have hres : dgB k :: out = decDigits u := by
      rw [← hout, dec_small h10, show m.natAbs = k by omega]; rfl
    rw [← hres] at hQ
    simp [hd, hdk, hw48, hu8, c1, c2, htn, hml, hq, hwq, hqz, hw0]
    exact aPost_same0 hB (v0 := .str (dgB k :: out)) (by simp [dgB]) (nilV_refl _) (by simp) hQ
  · have hqz : (q == 0) = false := by rw [beq_eq_false_iff_ne]; omega
    have hnext : decDigits q.natAbs ++ (dgB k :: out) = decDigits u := by
      rw [← hout, dec_big h10, hk, hqa]; simp
    simp [hd, hdk, hw48, hu8, c1, c2, htn, hml, hq, hwq, hqz]
    exact Kloop_normal ⟨rfl, q, dgB k :: out, hq0, by omega, hnext, fr_intro (by simp [dgB])⟩ (by simp; omega)
theorem rsn_step (d r cur : List UInt8) (b : UInt8) (h : b ≠ 124) : rsn d (b :: r) cur = rsn d r (cur ++ [b]) := by rw [rsn, if_neg h]
theorem rsn_yes (d r cur : List UInt8) (h : cur.take 3 = d) : rsn d (124 :: r) cur = cur.drop 4 := by rw [rsn, if_pos rfl, if_pos h]
theorem rsn_no (d r cur : List UInt8) (h : cur.take 3 ≠ d) : rsn d (124 :: r) cur = rsn d r [] := by rw [rsn, if_pos rfl, if_neg h]
theorem segOk_step (r : List UInt8) (k : Nat) (b : UInt8) (h : b ≠ 124) : segOk (b :: r) k = segOk r (k + 1) := by rw [segOk, if_neg h]
theorem segOk_bar {r : List UInt8} {k : Nat} (h : segOk (124 :: r) k = true) : 4 ≤ k ∧ segOk r 0 = true := by
  rw [segOk, if_pos rfl, Bool.and_eq_true] at h
  exact ⟨by simpa using h.1, h.2⟩
def drsInv (n : Int) (T : List UInt8) (H : Hp) (fr : List AV) (H' : Hp) : Prop := H' = H ∧ ∃ f i : Nat, f ≤ i ∧ i ≤ T.length ∧ rsn (digR n) (T.drop i) ((T.drop f).take (i - f)) = reasonB n ∧ segOk (T.drop i) (i - f) = true ∧ ∃ x : Nat → AV, fr = [.int .i64 n, x 1, x 2, .str T, .int .i64 f, .int .i64 i, x 6, x 7, x 8, x 9, x 10, x 11, x 12, x 13, x 14, x 15, x 16, x 17, x 18, x 19, x 20, x 21, x 22, x 23, x 24, x 25, x 26, x 27, x 28, x 29, x 30]
theorem dreason_pc (n : Int) (h0 : -9223372036854775808 ≤ n) (h1 : n ≤ 9223372036854775807) (hQ : Q (.str (reasonB n)) H) : PC Tryz.prog E 28 [.int .i64 n] H Q := by
  have hT1 := reasText_len
  have hT2 := reasText_ok
  have hT3 := rsn_reason n
  refine pc_enter Tryz.func28 rfl [] [] (by kernel_rfl) (fun hB => ?_)
  simp [Tryz.ntmps28, Tryz.results28, List.replicate_succ]
  refine VL_go (drsInv n reasText H) (fun fr _ => 787 - (ai (aget fr 5)).toNat) ⟨rfl, 0, 0, by omega, by omega, by simpa using hT3, by simpa using hT2, fr_intro (by simp; decide +kernel)⟩ ?_
  generalize reasText = T at *
  rintro fr H' ⟨rfl, f, i, hfi, hi, hr, hs, x, rfl⟩
  by_cases h : i < T.length
  · obtain ⟨b, hb⟩ : ∃ b, T[i]? = some b := ⟨_, List.getElem?_eq_getElem h⟩
    have hat := lat_eq hb
    have hd := drop_at T i b hb
    have hw : IntKind.i64.wrap ((i : Int) + 1) = i + 1 := wrap_in (by omega) (by omega)
    rw [hd] at hr hs
    by_cases h124 : b = 124
    · subst h124
      obtain ⟨h4, hs2⟩ := segOk_bar hs
      have hw3 : IntKind.i64.wrap ((f : Int) + 3) = f + 3 := wrap_in (by omega) (by omega)
      have hw4 : IntKind.i64.wrap ((f : Int) + 4) = f + 4 := wrap_in (by omega) (by omega)
      have t3 : ((f : Int) + 3).toNat = f + 3 := by omega
      have t4 : ((f : Int) + 4).toNat = f + 4 := by omega
      have l3 : f + 3 ≤ T.length := by omega
      have l4 : f + 4 ≤ i := by omega
      have g3 : (0 : Int) ≤ (f : Int) + 3 := by omega
      have g4 : (0 : Int) ≤ (f : Int) + 4 := by omega
      have hil : i ≤ T.length := by omega
      simp [h, hat, hw3, t3, l3, g3]
      refine dg12_pc E _ _ n h0 h1 ?_
      have e3 : ((T.drop f).take (i - f)).take 3 = (T.drop f).take 3 := by rw [List.take_take, Nat.min_eq_left (by omega)]
      cases hc : ((T.drop f).take 3 == digR n) with
      | true =>
        have hc2 : ((T.drop f).take (i - f)).take 3 = digR n := by rw [e3]; simpa using hc
        rw [rsn_yes _ _ _ hc2] at hr
        have e4 : ((T.drop f).take (i - f)).drop 4 = (T.drop (f + 4)).take (i - (f + 4)) := by rw [List.drop_take, List.drop_drop, show i - f - 4 = i - (f + 4) by omega]
        rw [e4] at hr
        rw [← hr] at hQ
        simp [hc, hw4, t4, l4, g4, hil]
        exact aPost_same0 hB rfl (nilV_refl _) (by simp) hQ
      | false =>
        have hc2 : ((T.drop f).take (i - f)).take 3 ≠ digR n := by rw [e3]; simpa using hc
        rw [rsn_no _ _ _ hc2] at hr
        simp [hc, hw]
        exact Kloop_normal ⟨rfl, i + 1, i + 1, by omega, by omega, by simpa using hr, by simpa using hs2, fr_intro (by simp)⟩ (by simp; omega)
    · rw [rsn_step _ _ _ _ h124] at hr
      rw [segOk_step _ _ _ h124] at hs
      have hne : ((b.toNat : Int) != 124) = true := by
        rw [bne_iff_ne]; intro e; exact h124 (UInt8.toNat_inj.1 (by have : (124 : UInt8).toNat = 124 := rfl; omega))
      have hcur : (T.drop f).take (i - f) ++ [b] = (T.drop f).take (i + 1 - f) := by
        rw [show i + 1 - f = i - f + 1 by omega, List.take_add_one, List.getElem?_drop, show f + (i - f) = i by omega, hb]; rfl
      rw [hcur] at hr
      simp [h, hat, hne, hw]
      exact Kloop_normal ⟨rfl, f, i + 1, by omega, by omega, hr, by have := hs; rwa [show i - f + 1 = i + 1 - f by omega] at this, fr_intro (by simp)⟩ (by simp; omega)
  · obtain rfl : i = T.length := by omega
    rw [List.drop_of_length_le (Nat.le_refl _)] at hr
    have e : reasonB n = [] := hr.symm
    rw [e] at hQ
    simp
    exact aPost_same0 hB rfl (nilV_refl _) (by simp) hQ
theorem dempty_pc (s : Int) (hQ : Q (.bool (neverS s)) H) : PC Tryz.prog E 61 [.int .i64 s] H Q := by
  refine pc_enter Tryz.func61 rfl [] [] (by kernel_rfl) (fun hB => ?_)
  have fin : ∀ c : Bool, neverS s = c → Q (.bool c) H := fun c hc => hc ▸ hQ
  by_cases h1 : 100 ≤ s
  · by_cases h2 : s ≤ 199
    · simp [Tryz.ntmps61, Tryz.results61, List.replicate_succ, h1, h2]
      exact aPost_same0 hB rfl (nilV_refl _) (by simp) (fin _ (by simp [neverS, h1, h2]))
    · simp [Tryz.ntmps61, Tryz.results61, List.replicate_succ, h1, h2]
      by_cases h3 : s = 204
      · subst h3
        simp
        exact aPost_same0 hB rfl (nilV_refl _) (by simp) (fin _ (by simp [neverS]))
      · have b3 : (s == 204) = false := by simpa using h3
        simp [b3]
        exact aPost_same0 hB rfl (nilV_refl _) (by simp) (fin _ (by simp [neverS, h1, h2, b3]))
  · simp [Tryz.ntmps61, Tryz.results61, List.replicate_succ, h1]
    by_cases h3 : s = 204
    · omega
    · have b3 : (s == 204) = false := by simpa using h3
      simp [b3]
      exact aPost_same0 hB rfl (nilV_refl _) (by simp) (fin _ (by simp [neverS, h1, b3]))
theorem dinterim_pc (s : Int) (hQ : Q (.bool (interimB s)) H) : PC Tryz.prog E 31 [.int .i64 s] H Q := by
  refine pc_enter Tryz.func31 rfl [] [] (by kernel_rfl) (fun hB => ?_)
  have fin : ∀ c : Bool, interimB s = c → Q (.bool c) H := fun c hc => hc ▸ hQ
  by_cases h1 : 100 ≤ s
  · by_cases h2 : s ≤ 199
    · simp [Tryz.ntmps31, Tryz.results31, List.replicate_succ, h1, h2]
      exact aPost_same0 hB rfl (nilV_refl _) (by simp) (fin _ (by simp [interimB, h1, h2]))
    · simp [Tryz.ntmps31, Tryz.results31, List.replicate_succ, h1, h2]
      exact aPost_same0 hB rfl (nilV_refl _) (by simp) (fin _ (by simp [interimB, h1, h2]))
  · simp [Tryz.ntmps31, Tryz.results31, List.replicate_succ, h1]
    exact aPost_same0 hB rfl (nilV_refl _) (by simp) (fin _ (by simp [interimB, h1]))
theorem dbodyless_pc (m : List UInt8) (s : Int) (hQ : Q (.bool (bodylessB m s)) H) : PC Tryz.prog E 29 [.str m, .int .i64 s] H Q := by
  refine pc_enter Tryz.func29 rfl [] [] (by kernel_rfl) (fun hB => ?_)
  have fin : ∀ c : Bool, bodylessB m s = c → Q (.bool c) H := fun c hc => hc ▸ hQ
  simp [Tryz.ntmps29, Tryz.results29, List.replicate_succ]
  refine dempty_pc E _ _ s ?_
  cases hn : neverS s with
  | true =>
    simp
    exact aPost_same0 hB rfl (nilV_refl _) (by simp) (fin _ (by simp [bodylessB, hn]))
  | false =>
    cases hh : (m == [72, 69, 65, 68]) with
    | true =>
      simp [hh]
      exact aPost_same0 hB rfl (nilV_refl _) (by simp) (fin _ (by simp [bodylessB, vHead, hn, hh]))
    | false =>
      cases hc : (m == [67, 79, 78, 78, 69, 67, 84]) with
      | false =>
        simp [hh, hc]
        exact aPost_same0 hB rfl (nilV_refl _) (by simp) (fin _ (by simp [bodylessB, vHead, vConnect, hn, hh, hc]))
      | true =>
        by_cases h1 : 200 ≤ s
        · simp [hh, hc, h1]
          exact aPost_same0 hB rfl (nilV_refl _) (by simp) (fin _ (by simp [bodylessB, vHead, vConnect, hn, hh, hc, h1]))
        · simp [hh, hc, h1]
          exact aPost_same0 hB rfl (nilV_refl _) (by simp) (fin _ (by simp [bodylessB, vHead, vConnect, hn, hh, hc, h1]))
end
end Go.Proofs.YtcdkcaocfioigaaGreatDoor

set_option linter.unusedVariables false
set_option linter.unnecessarySimpa false
set_option linter.unusedSimpArgs false
set_option linter.unusedSectionVars false
set_option maxRecDepth 100000
namespace Go.Proofs.YtcdkcaocfioigaaGreatDoor
open Go Go.RowKit Go.Proofs Go.Deep

@[simp] theorem abin_sleql (P : Program) (t : TypeId) (o : Bool) (k : Nat) (r : List AV) (rs : List (List AV)) : abin P .eql t (.sl o k (r :: rs)) .nil = if (tsl P t).isSome then some (.bool false) else none := rfl
@[simp] theorem abin_slneq (P : Program) (t : TypeId) (o : Bool) (k : Nat) (r : List AV) (rs : List (List AV)) : abin P .neq t (.sl o k (r :: rs)) .nil = if (tsl P t).isSome then some (.bool true) else none := rfl
@[simp] theorem abin_bxeql (P : Program) (t : TypeId) (i o n c k : Nat) : abin P .eql t (.bx i o n c k) .nil = if (tsl P t).isSome then some (.bool false) else none := rfl
@[simp] theorem abin_bxneq (P : Program) (t : TypeId) (i o n c k : Nat) : abin P .neq t (.bx i o n c k) .nil = if (tsl P t).isSome then some (.bool true) else none := rfl
/-- A call that answers a slice of no rows, in a row of its own or in none. -/
theorem post_own0 {E : Env} {w w' : World} {β : Nat → Nat} {Rd : Nat → Nat → Prop} {Ow : Nat → Option Hold} {H : Hp} (hHR : HR E w β Rd Ow H) (hf : Frm (fun _ => False) w w') {k : Nat} {c : Value} (hos : OSl w' k c 0 []) (hnew : ∀ g, c.ownBlock = some g → w.heap.size ≤ g) :
    Post E w β Rd Ow H w' β (fun g o => Rd g o ∨ False) (fun g => if c.ownBlock = some g then some (.slot 0) else Ow g) H (.sl true k []) c := by
  have hp := post_freshP hHR hf (fun _ _ => False) (fun _ _ h => h.elim) (v := .nil) (c := .slice none 0 0) .nil .nil rfl
  have hold : ∀ g, g < w.heap.size → (if c.ownBlock = some g then some (Hold.slot 0) else Ow g) = Ow g := fun g hg => if_neg fun e => by have := hnew g e; omega
  have hbx : ∀ i, i < H.length → β i < w.heap.size := fun i hi => by
    obtain ⟨T, cs, h, _⟩ := hHR.box i _ (List.getElem?_eq_getElem hi)
    exact (Array.getElem?_eq_some_iff.1 h).1
  refine ⟨.sl true k [] c [] (by simp) hos.toR (fun g o n c hv j hj => by simp at hj) (fun _ => ⟨hos, fun g o n c' hv j _ _ h3 => ?_⟩) (by simp) (fun j x u hx => by simp at hx), .sl _ _ _ (by simp), fun g hg => if_pos hg, rfl,
    ⟨fun i l hi => ?_, hp.hr.inj, fun i hi => ⟨?_, (hp.hr.sep i hi).2⟩, fun g h hg => ?_, hp.hr.rds, hp.hr.bnd, fun b hb => ?_, hp.hr.bld⟩, fun _ _ => rfl, Nat.le_refl _, hp.keep, fun b hb hbox how => ?_, hf.os, hf.tape, hf.output, hf.size⟩
  · rcases h3 with h3 | h3
    · have h1 := hHR.rds _ _ h3
      have h2 := hnew g (by rw [hv]; rfl)
      omega
    · exact h3
  · obtain ⟨T, cs, h1, h2, h3⟩ := hp.hr.box i l hi
    refine ⟨T, cs, h1, h2, fun j x u hx hu => ?_⟩
    obtain ⟨r1, r2, r3⟩ := h3 j x u hx hu
    exact ⟨r1, r2, fun g hg => (hold g (hHR.ows g _ (r3 g hg))).trans (r3 g hg)⟩
  · show (if c.ownBlock = some (β i) then some (Hold.slot 0) else Ow (β i)) = none
    rw [hold _ (hbx i hi)]; exact (hp.hr.sep i hi).1
  · split at hg
    · rename_i h1; exact hos.lt g h1
    · exact hp.hr.ows g h hg
  · obtain ⟨f1, f2, f3, f4⟩ := hp.hr.fix b hb
    refine ⟨f1, ?_, f3, f4⟩
    show (if c.ownBlock = some b then some (Hold.slot 0) else Ow b) = none
    by_cases h1 : c.ownBlock = some b
    · have h2 := hnew b h1
      have h3 := (hHR.fix b hb).2.2.2
      omega
    · rw [if_neg h1]; exact f2
  · obtain ⟨p1, p2, p3, p4⟩ := hp.frame b hb hbox how
    refine ⟨p1, ?_, p3, p4⟩
    show (if c.ownBlock = some b then some (Hold.slot 0) else Ow b) = none
    rw [hold b hb]; exact how
theorem clone0_pc (E : Env) (H : Hp) (Q : AV → Hp → Prop) (hQ : Q (.sl true 2 []) H) : PC Tryz.prog E 45 [.sl false 2 (flds [])] H Q := by
  refine ⟨by kernel_rfl, fun w β Rd Ow cargs hHR hOw hsz hargs => ?_⟩
  obtain ⟨u, rfl, hu⟩ := args1 hsz (fun t x u hx hu => (hargs t x u hx hu).1)
  obtain ⟨xs, hk, hx, hd, hfr, hr⟩ := rel_sl hu
  obtain ⟨hxl, ao, c, rfl, h2, h3, h4⟩ := id hx
  rw [flds_length] at hx hxl h2 h4
  have hone : ∀ u ∈ xs, u.oneCell' = true := Rel.slOne (own := false) hk (by rw [flds_length]; exact hxl) hfr hr
  have hx0 : xs = [] := List.eq_nil_of_length_eq_zero (by simpa using hxl)
  subst hx0
  rw [flds_length]
  refine (clone_ok (ao := ao) (c := c) hx hone (by simp)).mono ?_
  rintro e w' ⟨bo, m, d, rfl, ⟨rfl, rfl, rfl, hn0, rfl⟩ | ⟨rfl, ho, hnew, hF⟩⟩
  · exact ⟨_, _, H, β, _, _, rfl, hQ, post_own0 hHR (Frm.refl _ _) (OSl.nil _ _) (fun g hg => by simp [Value.ownBlock] at hg)⟩
  · exact ⟨_, _, H, β, _, _, rfl, hQ, post_own0 hHR hF ho hnew⟩
section
variable (E : Env) (H : Hp) (Q : AV → Hp → Prop)
variable (i : Nat) (d : Dec) (hd : H[i]? = some d.av)
include hd
end
section
variable (E : Env) (H : Hp) (Q : AV → Hp → Prop)
end
end Go.Proofs.YtcdkcaocfioigaaGreatDoor

set_option linter.unusedVariables false
set_option linter.unnecessarySimpa false
set_option linter.unusedSimpArgs false
set_option linter.unusedSectionVars false
set_option maxRecDepth 100000
namespace Go.Proofs.YtcdkcaocfioigaaGreatDoor
open Go Go.RowKit Go.Proofs

/-- The tables that the message layer reads. -/
def SM (E : Env) : Prop := SZ E ∧ SE2 E
theorem printF_step {l : List Fld} (h : l.length ≤ 100) {i : Nat} {f : Fld} (hf : l[i]? = some f) (hall : ∀ g ∈ l.take i, (lineP g).2 = 0) (hne : (lineP f).2 ≠ 0) : printF l = ([], (lineP f).2) := by
  have hi := (List.getElem?_eq_some_iff.1 hf).1
  have e : l = l.take i ++ (f :: l.drop (i + 1)) := by rw [← (List.getElem?_eq_some_iff.1 hf).2, ← List.drop_eq_getElem_cons hi, List.take_append_drop]
  have hn : (l.take i).find? (fun f => decide ((lineP f).2 ≠ 0)) = none := List.find?_eq_none.2 fun g hg => by simp [hall g hg]
  unfold printF
  rw [if_neg (by omega)]
  have : l.find? (fun f => decide ((lineP f).2 ≠ 0)) = some f := by
    rw [e, List.find?_append, hn]
    simp [hne]
  rw [this]
theorem printF_all {l : List Fld} (h : l.length ≤ 100) (hall : ∀ g ∈ l, (lineP g).2 = 0) : printF l = (linesT l, 0) := by
  have hn : l.find? (fun f => decide ((lineP f).2 ≠ 0)) = none := List.find?_eq_none.2 fun g hg => by simp [hall g hg]
  unfold printF
  rw [if_neg (by omega), hn]
theorem lineP_ok {f : Fld} (h : (lineP f).2 = 0) : (lineP f).1 = lineT f := by
  unfold lineP at h ⊢
  split
  · rename_i h1; rw [if_pos h1] at h; cases h
  · rename_i h1
    rw [if_neg h1] at h
    split
    · rename_i h2; rw [if_pos h2] at h; cases h
    · rfl
section
variable (E : Env) (H : Hp) (Q : AV → Hp → Prop)
theorem cloneOwn_pc (l : List Fld) (hl : l.length ≤ 1073741823) (hQ : Q (.sl true 2 (flds l)) H) : PC Tryz.prog E 45 [.sl false 2 (flds l)] H Q := by
  cases l with
  | nil => exact clone0_pc E H Q hQ
  | cons g l =>
    have hfl : flds (g :: l) = [.str g.name, .str g.value] :: flds l := rfl
    simp only [List.length_cons] at hl
    have m1 : l.length + 1 ≤ maxLen := by unfold maxLen; omega
    have m2 : (l.length + 1) * 32 ≤ 140737488355328 := by omega
    have hb := bnd_flds (N := H.length) true 2 (g :: l)
    rw [hfl] at hQ hb ⊢
    refine pc_enter Tryz.func45 rfl [5] [] (by kernel_rfl) (fun hB => ?_)
    simp [Tryz.ntmps45, Tryz.results45, List.replicate_succ, m1, m2]
    exact aPost_same0 hB (v0 := .sl true 2 ([.str g.name, .str g.value] :: flds l)) (by simp) (nilV_refl _) hb hQ
def fpInv (l : List Fld) (H : Hp) (fr : List AV) (H' : Hp) : Prop := ∃ (J2 : Hp) (i : Nat), i ≤ l.length ∧ H' = H ++ ([.bl TB, .bf TU (linesT (l.take i))] :: J2) ∧ (∀ g ∈ l.take i, (lineP g).2 = 0) ∧
  ∃ x : Nat → AV, fr = [x 0, x 1, x 2, x 3, .ptr (some (H.length, 0)), x 5, x 6, x 7, x 8, x 9, x 10, x 11, .sl false 2 (flds l), .int .i64 l.length, .int .i64 i, x 15, x 16, x 17, x 18, x 19, x 20, x 21, x 22, x 23, x 24, x 25, x 26, x 27, x 28, x 29, x 30]
theorem fprint_pc (hE : SE E) (l : List Fld) (hl : fsz l + l.length ≤ 16777216) (hQ : Q (.tup [.str (printF l).1, .int .i64 (printF l).2]) H) : PC Tryz.prog E 48 [.sl false 2 (flds l)] H Q := by
  have fin : ∀ a : List UInt8 × Int, printF l = a → Q (.tup [.str a.1, .int .i64 a.2]) H := fun a ha => ha ▸ hQ
  refine pc_enter Tryz.func48 rfl [] [(3, [3])] (by kernel_rfl) (fun hB => ?_)
  simp [Tryz.ntmps48, Tryz.results48, List.replicate_succ]
  by_cases h100 : 100 < l.length
  · have h1 : (100 : Int) < l.length := by omega
    simp [h1]
    exact aPost_same0 hB (v0 := .tup [.str [], .int .i64 65]) (by simp) (nilV_refl _) (by simp) (fin ([], 65) (by unfold printF; rw [if_pos h100]))
  have h1 : ¬ (100 : Int) < l.length := by omega
  simp [h1]
  refine VL_go (fpInv l H) (fun fr _ => l.length - (ai (aget fr 14)).toNat) ⟨[], 0, by omega, by simp [linesT], by simp, fr_intro (by simp)⟩ ?_
  rintro fr H2 ⟨J2, i, hi, rfl, hall, x, rfl⟩
  have hlin := linesT_le (l.take i)
  have hsz := fsz_take l i
  rw [List.length_take] at hlin
  by_cases h : i < l.length
  · obtain ⟨f, hf⟩ : ∃ f, l[i]? = some f := ⟨_, List.getElem?_eq_getElem h⟩
    have hat := flds_at hf
    have hfm := fsz_mem hf
    have hw : IntKind.i64.wrap ((i : Int) + 1) = i + 1 := wrap_in (by omega) (by omega)
    have hlt := lineT_le f
    simp [h, hat]
    refine printLine_pc E _ _ hE f (by omega) (by omega) ?_
    by_cases hz : (lineP f).2 = 0
    · have hz1 := lineP_ok hz
      have m1 : (lineT f).length + 2 ≤ maxLen := by unfold maxLen; omega
      have m0 : (lineT f).length + 1 + 1 ≤ maxLen := by unfold maxLen; omega
      simp [hz, hz1, m1, m0]
      refine wstr_pc E _ _ H.length (linesT (l.take i)) (lineT f ++ [13, 10]) (by simp) (by simp; omega) ?_
      rw [← linesT_step l i f hf]
      simp [hw]
      refine Kloop_normal ⟨_, i + 1, by omega, rfl, fun g hg => ?_, fr_intro (by simp)⟩ (by simp; omega)
      rw [List.take_add_one, hf] at hg
      rcases List.mem_append.1 hg with hg | hg
      · exact hall g hg
      · simp at hg; subst hg; exact hz
    · have hz2 : ((lineP f).2 != 0) = true := by simpa using hz
      simp [hz2]
      exact aPost_same hB (v0 := .tup [.str [], .int .i64 (lineP f).2]) (by simp) (nilV_refl _) (by simp) (fin ([], (lineP f).2) (printF_step (by omega) hf hall hz))
  · obtain rfl : i = l.length := by omega
    rw [List.take_of_length_le (Nat.le_refl _)] at hall hlin ⊢
    simp
    refine bstr_pc E _ _ H.length (linesT l) (by simp) (by unfold maxLen; omega) ?_
    simp
    exact aPost_same hB (v0 := .tup [.str (linesT l), .int .i64 0]) (by simp) (nilV_refl _) (by simp) (fin (linesT l, 0) (printF_all (by omega) hall))
def wrInv (r : Resp) (h : Mann) (H : Hp) (fr : List AV) (H' : Hp) : Prop := ∃ (J : Hp) (i : Nat), H' = H ++ (r.avs :: h.avs :: J) ∧ i ≤ r.fields.length ∧ (r.fields.take i).any (framedB r.status) = false ∧
  ∃ x : Nat → AV, fr = [x 0, x 1, .ptr (some (H.length, 0)), .ptr (some (H.length + 1, 0)), x 4, x 5, x 6, x 7, x 8, x 9, x 10, x 11, x 12, x 13, x 14, x 15, x 16, x 17, x 18, x 19, x 20, x 21, x 22, x 23, x 24, x 25, .sl false 2 (flds r.fields), .int .i64 r.fields.length, .int .i64 i, x 29, x 30, x 31, x 32, x 33, x 34, x 35, x 36, x 37, x 38, x 39, x 40, x 41, x 42, x 43, x 44, x 45, x 46, x 47, x 48, x 49, x 50, x 51, x 52, x 53, x 54, x 55, x 56, x 57, x 58, x 59, x 60, x 61, x 62, x 63, x 64, x 65, x 66, x 67, x 68, x 69, x 70, x 71, x 72, x 73, x 74, x 75, x 76, x 77, x 78, x 79, x 80, x 81, x 82, x 83, x 84, x 85]
theorem any_step {α : Type} (p : α → Bool) (l : List α) (i : Nat) (x : α) (h : l[i]? = some x) : (l.take (i + 1)).any p = ((l.take i).any p || p x) := by
  rw [List.take_add_one, h]; simp
theorem any_stop {α : Type} (p : α → Bool) (l : List α) (i : Nat) (x : α) (h : l[i]? = some x) (hp : p x = true) : l.any p = true := List.any_eq_true.2 ⟨x, List.mem_of_getElem? h, hp⟩
def okR (r : Resp) (h : Mann) : Prop := fsz r.fields + r.fields.length ≤ 1048577 ∧ fsz h.trailers + h.trailers.length ≤ 1048577 ∧ h.sizes.length ≤ 1048577 ∧ r.reason.length ≤ 1048577 ∧ r.body.length ≤ 1048576 ∧ h.method.length ≤ 1048577 ∧
  (-9223372036854775808 ≤ r.status ∧ r.status ≤ 9223372036854775807) ∧ ∀ z ∈ h.sizes, -9223372036854775808 ≤ z ∧ z ≤ 9223372036854775807
set_option maxHeartbeats 1000000 in
theorem wrong_pc (r : Resp) (h : Mann) (hok : okR r h) (hQ : Q (.int .i64 (wrongM r h)) H) : PC Tryz.prog E 44 [.agg r.avs, .agg h.avs] H Q := by
  obtain ⟨o1, o2, o3, o4, o5, o6, ⟨o7, o8⟩, o9⟩ := hok
  have fin : ∀ a : Int, wrongM r h = a → Q (.int .i64 a) H := fun a ha => ha ▸ hQ
  have hR : r.avs = [.int .i64 r.status, .str r.reason, .sl false 2 (flds r.fields), .str r.body] := rfl
  have hM : h.avs = [.str h.method, .bool h.close, .bool h.old, .bool h.chunked, .sl false 1 (ints h.sizes), .sl false 2 (flds h.trailers)] := rfl
  rw [hR, hM]
  refine pc_enter Tryz.func44 rfl [] [] (by kernel_rfl) (fun hB => ?_)
  by_cases h1 : r.status < 100
  · simp [Tryz.ntmps44, Tryz.results44, List.replicate_succ, h1]
    exact aPost_same hB rfl (nilV_refl _) (by simp) (fin _ (by unfold wrongM; rw [if_pos (.inl h1)]))
  by_cases h2 : 599 < r.status
  · simp [Tryz.ntmps44, Tryz.results44, List.replicate_succ, h1, h2]
    exact aPost_same hB rfl (nilV_refl _) (by simp) (fin _ (by unfold wrongM; rw [if_pos (.inr h2)]))
  by_cases h3 : 256 < r.reason.length
  · have h3' : (256 : Int) < r.reason.length := by omega
    simp [Tryz.ntmps44, Tryz.results44, List.replicate_succ, h1, h2, h3']
    exact aPost_same hB rfl (nilV_refl _) (by simp) (fin _ (by unfold wrongM; rw [if_neg (by omega), if_pos (.inl h3)]))
  have h3' : ¬ (256 : Int) < r.reason.length := by omega
  simp [Tryz.ntmps44, Tryz.results44, List.replicate_succ, h1, h2, h3']
  refine isField_pc E _ _ r.reason (by simp only [cap]; omega) ?_
  cases hf : fldB r.reason with
  | false =>
    simp
    exact aPost_same hB rfl (nilV_refl _) (by simp) (fin _ (by unfold wrongM; rw [if_neg (by omega), if_pos (.inr hf)]))
  | true =>
    have hW : wrongM r h = if (r.fields.any (framedB r.status)) = true then 123
        else if ((neverS r.status && (decide (r.body ≠ []) || h.chunked)) || ((h.chunked && h.old) || (!h.chunked && (decide (h.sizes ≠ []) || decide (h.trailers ≠ []))))) = true then 123 else 0 := by
      unfold wrongM
      rw [if_neg (by omega), if_neg (by rw [hf]; simp; omega)]
    simp
    refine VL_go (wrInv r h H) (fun fr _ => r.fields.length - (ai (aget fr 28)).toNat) ⟨[], 0, by simp [hR, hM], by omega, by simp, fr_intro (by simp)⟩ ?_
    rintro fr H2 ⟨J, i, rfl, hi, hany, x, rfl⟩
    by_cases hil : i < r.fields.length
    · obtain ⟨f, hf2⟩ : ∃ f, r.fields[i]? = some f := ⟨_, List.getElem?_eq_getElem hil⟩
      have hat := flds_at hf2
      have hfm := fsz_mem hf2
      have hw : IntKind.i64.wrap ((i : Int) + 1) = i + 1 := wrap_in (by omega) (by omega)
      have hst := any_step (framedB r.status) r.fields i f hf2
      have hsp : framedB r.status f = true → wrongM r h = 123 := fun hp => by rw [hW, if_pos (any_stop _ _ _ _ hf2 hp)]
      have hfd : framedB r.status f = ((low f.name == low nCL) || ((low f.name == low nTE) || ((low f.name == low nCO) && r.status != 101))) := rfl
      simp [hil, hat, hR]
      refine osame_pc E _ _ f.name nCL (by simp only [cap]; omega) (by simp [nCL, cap]) ?_
      cases e1 : (low f.name == low nCL) with
      | true =>
        simp
        exact aPost_same hB rfl (nilV_refl _) (by simp) (fin _ (hsp (by rw [hfd, e1]; rfl)))
      | false =>
        simp
        refine osame_pc E _ _ f.name nTE (by simp only [cap]; omega) (by simp [nTE, cap]) ?_
        cases e2 : (low f.name == low nTE) with
        | true =>
          simp
          exact aPost_same hB rfl (nilV_refl _) (by simp) (fin _ (hsp (by rw [hfd, e1, e2]; rfl)))
        | false =>
          simp
          refine osame_pc E _ _ f.name nCO (by simp only [cap]; omega) (by simp [nCO, cap]) ?_
          cases e3 : (low f.name == low nCO) with
          | false =>
            simp [hw]
            exact Kloop_normal ⟨J ++ [[.str f.name, .str f.value]], i + 1, by simp [hR], by omega, by rw [hst, hany, hfd, e1, e2, e3]; rfl, fr_intro (by simp)⟩ (by simp; omega)
          | true =>
            cases e4 : (r.status != 101) with
            | true =>
              simp [e4]
              exact aPost_same hB rfl (nilV_refl _) (by simp) (fin _ (hsp (by rw [hfd, e1, e2, e3, e4]; rfl)))
            | false =>
              simp [e4, hw]
              exact Kloop_normal ⟨J ++ [[.str f.name, .str f.value]], i + 1, by simp [hR], by omega, by rw [hst, hany, hfd, e1, e2, e3, e4]; rfl, fr_intro (by simp)⟩ (by simp; omega)
    · obtain rfl : i = r.fields.length := by omega
      rw [List.take_of_length_le (Nat.le_refl _)] at hany
      rw [if_neg (by rw [hany]; simp)] at hW
      have hw2 : IntKind.i64.wrap ((h.sizes.length : Int) + h.trailers.length) = h.sizes.length + h.trailers.length := wrap_in (by omega) (by omega)
      have hst : (decide (h.sizes ≠ []) || decide (h.trailers ≠ [])) = decide ((0 : Int) < h.sizes.length + h.trailers.length) := by
        rw [Bool.eq_iff_iff]
        simp
        rw [← List.length_eq_zero_iff, ← List.length_eq_zero_iff]
        omega
      rw [hst] at hW
      simp [hR, hM]
      refine never_pc E _ _ r.status ?_
      cases hn : neverS r.status with
      | true =>
        by_cases hb : r.body = []
        · cases hc : h.chunked with
          | true =>
            simp [hb]
            exact aPost_same hB rfl (nilV_refl _) (by simp) (fin _ (by rw [hW, hn, hc]; simp))
          | false =>
            by_cases hz : (0 : Int) < h.sizes.length + h.trailers.length
            · simp [hb, hw2, hz]
              exact aPost_same hB rfl (nilV_refl _) (by simp) (fin _ (by rw [hW, hc, decide_eq_true hz]; simp))
            · simp [hb, hw2, hz]
              exact aPost_same hB rfl (nilV_refl _) (by simp) (fin _ (by rw [hW, hc, decide_eq_false hz, hb]; simp))
        · have hb2 : (r.body != []) = true := by simpa using hb
          simp [hb2]
          exact aPost_same hB rfl (nilV_refl _) (by simp) (fin _ (by rw [hW, hn, decide_eq_true hb]; simp))
      | false =>
        cases hc : h.chunked with
        | true =>
          cases ho : h.old with
          | true =>
            simp
            exact aPost_same hB rfl (nilV_refl _) (by simp) (fin _ (by rw [hW, hc, ho]; simp))
          | false =>
            simp
            exact aPost_same hB rfl (nilV_refl _) (by simp) (fin _ (by rw [hW, hn, hc, ho]; simp))
        | false =>
          by_cases hz : (0 : Int) < h.sizes.length + h.trailers.length
          · simp [hw2, hz]
            exact aPost_same hB rfl (nilV_refl _) (by simp) (fin _ (by rw [hW, hc, decide_eq_true hz]; simp))
          · simp [hw2, hz]
            exact aPost_same hB rfl (nilV_refl _) (by simp) (fin _ (by rw [hW, hc, decide_eq_false hz, hn]; simp))
end
end Go.Proofs.YtcdkcaocfioigaaGreatDoor

set_option linter.unusedVariables false
set_option linter.unnecessarySimpa false
set_option linter.unusedSimpArgs false
set_option linter.unusedSectionVars false
set_option maxRecDepth 100000
namespace Go.Proofs.YtcdkcaocfioigaaGreatDoor
open Go Go.RowKit Go.Proofs

@[irreducible] def moreX (r : Resp) (h : Mann) : List Fld := if h.chunked = true then [⟨nTE, vChunked⟩] else if neverS r.status = true then [] else [⟨nCL, Go.Lib.itoa r.body.length⟩]
@[irreducible] def moreY (r : Resp) (h : Mann) : List Fld := if 199 < r.status ∧ h.close = true then [⟨nCO, vClose⟩] else if 199 < r.status ∧ h.old = true then [⟨nCO, vKeep⟩] else []
theorem moreM_eq (r : Resp) (h : Mann) : moreM r h = r.fields ++ (moreX r h ++ moreY r h) := by unfold moreM moreX moreY; exact Eq.refl _
section
variable {r : Resp} {h : Mann}
theorem moreX_c (hc : h.chunked = true) : moreX r h = [⟨nTE, vChunked⟩] := by unfold moreX; rw [if_pos hc]
theorem moreX_n (hc : h.chunked = false) (hn : neverS r.status = true) : moreX r h = [] := by unfold moreX; rw [if_neg (by rw [hc]; simp), if_pos hn]
theorem moreX_l (hc : h.chunked = false) (hn : neverS r.status = false) : moreX r h = [⟨nCL, Go.Lib.itoa r.body.length⟩] := by unfold moreX; rw [if_neg (by rw [hc]; simp), if_neg (by rw [hn]; simp)]
theorem moreY_s (hs : ¬ 199 < r.status) : moreY r h = [] := by unfold moreY; rw [if_neg (fun e => hs e.1), if_neg (fun e => hs e.1)]
theorem moreY_c (hs : 199 < r.status) (hc : h.close = true) : moreY r h = [⟨nCO, vClose⟩] := by unfold moreY; rw [if_pos ⟨hs, hc⟩]
theorem moreY_o (hs : 199 < r.status) (hc : h.close = false) (ho : h.old = true) : moreY r h = [⟨nCO, vKeep⟩] := by unfold moreY; rw [if_neg (by rw [hc]; simp), if_pos ⟨hs, ho⟩]
theorem moreY_n (hc : h.close = false) (ho : h.old = false) : moreY r h = [] := by unfold moreY; rw [if_neg (by rw [hc]; simp), if_neg (by rw [ho]; simp)]
end
section
variable (E : Env) (H : Hp) (Q : AV → Hp → Prop)
theorem fsz_app (a b : List Fld) : fsz (a ++ b) = fsz a + fsz b := by
  induction a with
  | nil => simp [fsz]
  | cons x a ih => simp [fsz, ih]; omega
theorem reason_len (s : Int) : (reasonB s).length ≤ 100 := by
  have key : ∀ (t : List (Int × List UInt8)) (d : List UInt8), (∀ p ∈ t, p.2.length ≤ 100) → d.length ≤ 100 → ((look t s).getD d).length ≤ 100 := fun t d h hd => by
    unfold look
    cases hf : t.find? (fun p => p.1 == s) with
    | none => exact hd
    | some p => exact h p (List.mem_of_find?_eq_some hf)
  exact key _ _ (by decide) (key _ _ (by decide) (key _ _ (by decide) (by simp)))
theorem moreM_sz (r : Resp) (h : Mann) (hok : okR r h) : fsz (moreM r h) + (moreM r h).length ≤ 1048577 + 1000 := by
  obtain ⟨o1, o2, o3, o4, o5, o6, ⟨o7, o8⟩, o9⟩ := hok
  have hi := (itoa_le (r.body.length : Int) (by omega) (by omega)).1
  unfold moreM
  rw [fsz_app, fsz_app, List.length_append, List.length_append]
  have h1 : ∀ a : List Fld, a = [⟨nTE, vChunked⟩] ∨ a = [] ∨ a = [⟨nCL, Go.Lib.itoa r.body.length⟩] → fsz a + a.length ≤ 100 := fun a ha => by
    rcases ha with rfl | rfl | rfl
    · simp [fsz, nTE, vChunked]
    · simp [fsz]
    · simp [fsz, nCL]; omega
  have h2 : ∀ a : List Fld, a = [⟨nCO, vClose⟩] ∨ a = [⟨nCO, vKeep⟩] ∨ a = [] → fsz a + a.length ≤ 100 := fun a ha => by
    rcases ha with rfl | rfl | rfl
    · simp [fsz, nCO, vClose]
    · simp [fsz, nCO, vKeep]
    · simp [fsz]
  have k1 := h1 (if h.chunked = true then [⟨nTE, vChunked⟩] else if neverS r.status = true then [] else [⟨nCL, Go.Lib.itoa r.body.length⟩]) (by split; exact .inl rfl; split; exact .inr (.inl rfl); exact .inr (.inr rfl))
  have k2 := h2 (if 199 < r.status ∧ h.close = true then [⟨nCO, vClose⟩] else if 199 < r.status ∧ h.old = true then [⟨nCO, vKeep⟩] else []) (by split; exact .inl rfl; split; exact .inr (.inl rfl); exact .inr (.inr rfl))
  omega
theorem printF_le {l : List Fld} : (printF l).1.length ≤ fsz l + 4 * l.length := by
  unfold printF
  split
  · simp
  · split
    · simp
    · exact linesT_le l
theorem headP_bad {r : Resp} {h : Mann} (hw : wrongM r h = 0) (hp : (printF (moreM r h)).2 ≠ 0) : headP r h = ([], (printF (moreM r h)).2) := by unfold headP; rw [if_neg (by rw [hw]; simp), if_pos hp]
theorem headP_ok {r : Resp} {h : Mann} (hw : wrongM r h = 0) (hp : (printF (moreM r h)).2 = 0) : headP r h = (verT ++ ([49, 32] ++ (Go.Lib.itoa r.status ++ ([32] ++ ((if r.reason = [] then reasonB r.status else r.reason) ++ ([13, 10] ++ ((printF (moreM r h)).1 ++ [13, 10])))))), 0) := by
  unfold headP; rw [if_neg (by rw [hw]; simp), if_neg (by rw [hp]; simp)]
theorem fl_facts {r : Resp} {h : Mann} (hok : okR r h) : r.fields.length + 1 ≤ maxLen ∧ (r.fields.length + 1) * 32 ≤ 140737488355328 ∧ r.fields.length + 1 + 1 ≤ maxLen ∧ (r.fields.length + 1 + 1) * 32 ≤ 140737488355328 := by
  have := hok.1
  unfold maxLen
  omega
theorem more_ok {r : Resp} {h : Mann} (hok : okR r h) : fsz (moreM r h) + (moreM r h).length ≤ 16777216 := Nat.le_trans (moreM_sz r h hok) (by omega)
theorem lines_ok {r : Resp} {h : Mann} (hok : okR r h) : (printF (moreM r h)).1.length ≤ 16777216 := by
  have h1 := moreM_sz r h hok
  have h2 := printF_le (l := moreM r h)
  omega
theorem fprint_pc' (hE : SE E) (l : List Fld) (L : List (List AV)) (hL : L = flds l) (hl : fsz l + l.length ≤ 16777216) (hQ : Q (.tup [.str (printF l).1, .int .i64 (printF l).2]) H) : PC Tryz.prog E 48 [.sl false 2 L] H Q := hL ▸ fprint_pc E H Q hE l hl hQ
set_option maxHeartbeats 2000000 in
theorem head_pc (hE : SM E) (r : Resp) (h : Mann) (hok : okR r h) (hQ : Q (.tup [.str (headP r h).1, .int .i64 (headP r h).2]) H) : PC Tryz.prog E 14 [.agg r.avs, .agg h.avs] H Q := by
  have hok' := hok
  obtain ⟨o1, o2, o3, o4, o5, o6, ⟨o7, o8⟩, o9⟩ := hok'
  have fin : ∀ a : List UInt8 × Int, headP r h = a → Q (.tup [.str a.1, .int .i64 a.2]) H := fun a ha => ha ▸ hQ
  have hR : r.avs = [.int .i64 r.status, .str r.reason, .sl false 2 (flds r.fields), .str r.body] := rfl
  have hM : h.avs = [.str h.method, .bool h.close, .bool h.old, .bool h.chunked, .sl false 1 (ints h.sizes), .sl false 2 (flds h.trailers)] := rfl
  rw [hR, hM]
  refine pc_enter Tryz.func14 rfl [22, 30, 45, 56] [] (by kernel_rfl) (fun hB => ?_)
  simp [Tryz.ntmps14, Tryz.results14, List.replicate_succ]
  refine wrong_pc E _ _ r h hok ?_
  by_cases hw : wrongM r h = 0
  rotate_left
  · have hw2 : (wrongM r h != 0) = true := by simpa using hw
    simp [hw2]
    exact aPost_same hB (v0 := .tup [.str [], .int .i64 (wrongM r h)]) (by simp) (nilV_refl _) (by simp) (fin ([], wrongM r h) (by unfold headP; rw [if_pos hw]))
  obtain ⟨m1, m2, m3, m4⟩ := fl_facts hok
  simp [hw]
  refine cloneOwn_pc E _ _ r.fields (by omega) ?_
  cases hc : h.chunked
  case' true =>
    have hX := moreX_c (r := r) hc
    simp [m1, m2]
  case' false =>
    simp
    refine never_pc E _ _ r.status ?_
    cases hn : neverS r.status
    case' true =>
      have hX := moreX_n hc hn
      simp
    case' false =>
      have hX := moreX_l hc hn
      simp
      refine itoa_pc E _ _ hE.2 r.body.length (by omega) (by omega) ?_
      simp [m1, m2]
  all_goals
    by_cases h199 : 199 < r.status
    case' neg =>
      have hY := moreY_s (h := h) h199
      simp [h199]
    case' pos =>
      cases hcl : h.close
      case' true =>
        have hY := moreY_c h199 hcl
        simp [h199, m1, m2, m3, m4]
      case' false =>
        cases hol : h.old
        case' true =>
          have hY := moreY_o h199 hcl hol
          simp [h199, m1, m2, m3, m4]
        case' false =>
          have hY := moreY_n (r := r) hcl hol
          simp [h199]
  all_goals
    refine fprint_pc' E _ _ hE.1.1 (moreM r h) _ ?_ (more_ok hok) ?_
    · rw [moreM_eq, hX, hY]
      simp [flds, nTE, nCL, nCO, vChunked, vClose, vKeep]
  all_goals
    clear hX hY m1 m2 m3 m4
    have hl := lines_ok hok
    have hrl := reason_len r.status
    have hil := (itoa_le r.status o7 o8).1
    simp
    by_cases hp : (printF (moreM r h)).2 = 0
    rotate_left
    · have hp2 : ((printF (moreM r h)).2 != 0) = true := by simpa using hp
      simp [hp2]
      exact aPost_same hB (v0 := .tup [.str [], .int .i64 (printF (moreM r h)).2]) (by simp) (nilV_refl _) (by simp) (fin ([], (printF (moreM r h)).2) (headP_bad hw hp))
    have hA := headP_ok hw hp
    generalize (printF (moreM r h)).1 = L at *
    generalize hS : Go.Lib.itoa r.status = S at *
    by_cases hre : r.reason = []
    case' pos =>
      rw [if_pos hre] at hA
      simp [hp, hre]
      refine reason_pc E _ _ r.status ?_
      generalize reasonB r.status = R at *
      simp
    case' neg =>
      rw [if_neg hre] at hA
      have hre2 : (r.reason == []) = false := by simpa using hre
      simp [hp, hre2]
  all_goals
    refine itoa_pc E _ _ hE.2 r.status o7 o8 ?_
    rw [hS]
    have k1 : 9 + S.length ≤ maxLen := by unfold maxLen; omega
    have hmx : ∀ n : Nat, n ≤ 100000000 → n ≤ maxLen := fun n hn => by unfold maxLen; omega
    simp
    simp (disch := omega) only [hmx, if_true, if_pos]
    simp
    simp (disch := omega) only [hmx, if_true, if_pos]
    simp
    simp (disch := omega) only [hmx, if_true, if_pos]
    simp
    simp (disch := omega) only [hmx, if_true, if_pos]
    simp
    simp (disch := omega) only [hmx, if_true, if_pos]
    simp
    simp (disch := omega) only [hmx, if_true, if_pos]
    simp
  all_goals
    first
      | exact aPost_same hB (v0 := .tup [.str (verT ++ ([49, 32] ++ (S ++ ([32] ++ (R ++ ([13, 10] ++ (L ++ [13, 10]))))))), .int .i64 0]) (by simp [verT]) (nilV_refl _) (by simp) (fin (_, 0) hA)
      | exact aPost_same hB (v0 := .tup [.str (verT ++ ([49, 32] ++ (S ++ ([32] ++ (r.reason ++ ([13, 10] ++ (L ++ [13, 10]))))))), .int .i64 0]) (by simp [verT]) (nilV_refl _) (by simp) (fin (_, 0) hA)
end
end Go.Proofs.YtcdkcaocfioigaaGreatDoor

set_option linter.unusedVariables false
set_option linter.unnecessarySimpa false
set_option linter.unusedSimpArgs false
set_option linter.unusedSectionVars false
set_option maxRecDepth 100000
namespace Go.Proofs.YtcdkcaocfioigaaGreatDoor
open Go Go.RowKit Go.Proofs

theorem headP_le {r : Resp} {h : Mann} (hok : okR r h) : (headP r h).1.length ≤ 20000000 := by
  have hl := lines_ok hok
  have hrl := reason_len r.status
  have hil := (itoa_le r.status hok.2.2.2.2.2.2.1.1 hok.2.2.2.2.2.2.1.2).1
  have hr := hok.2.2.2.1
  by_cases hw : wrongM r h = 0
  · by_cases hp : (printF (moreM r h)).2 = 0
    · rw [headP_ok hw hp]
      generalize (printF (moreM r h)).1 = L at *
      generalize Go.Lib.itoa r.status = S at *
      simp only [List.length_append, verT, List.length_cons, List.length_nil]
      split <;> omega
    · rw [headP_bad hw hp]; simp
  · unfold headP; rw [if_pos hw]; simp
theorem enc_le {r : Resp} {h : Mann} (hok : okR r h) : (encAns r.body h.sizes h.trailers).1.length ≤ 40000000 := by
  obtain ⟨o1, o2, o3, o4, o5, o6, o7, o9⟩ := hok
  unfold encAns
  split
  · simp
  · split
    · simp
    · rename_i h1 h2
      have hns : ∀ z ∈ h.sizes, 1 ≤ z := fun z hz => by
        rw [Bool.not_eq_false] at h1
        have := List.all_eq_true.1 h1 z hz
        simpa using this
      have hpf : (piecesB r.body h.sizes).flatten = r.body := pieces_flat _ _
      have htot := chunksT_le (piecesB r.body h.sizes) (pieces_ne h.sizes r.body hns) (by rw [hpf]; omega)
      have hlin := linesT_le h.trailers
      rw [hpf] at htot
      unfold encT
      simp
      omega
section
variable (E : Env) (H : Hp) (Q : AV → Hp → Prop)
theorem mprint_pc (hE : SM E) (r : Resp) (h : Mann) (hok : okR r h) (hQ : Q (.tup [.str (printP r h).1, .int .i64 (printP r h).2]) H) : PC Tryz.prog E 18 [.agg r.avs, .agg h.avs] H Q := by
  have hhl := headP_le hok
  have hel := enc_le hok
  have hok' := hok
  obtain ⟨o1, o2, o3, o4, o5, o6, ⟨o7, o8⟩, o9⟩ := hok'
  have fin : ∀ a : List UInt8 × Int, printP r h = a → Q (.tup [.str a.1, .int .i64 a.2]) H := fun a ha => ha ▸ hQ
  have hR : r.avs = [.int .i64 r.status, .str r.reason, .sl false 2 (flds r.fields), .str r.body] := rfl
  have hM : h.avs = [.str h.method, .bool h.close, .bool h.old, .bool h.chunked, .sl false 1 (ints h.sizes), .sl false 2 (flds h.trailers)] := rfl
  rw [hR, hM]
  refine pc_enter Tryz.func18 rfl [] [] (by kernel_rfl) (fun hB => ?_)
  simp [Tryz.ntmps18, Tryz.results18, List.replicate_succ]
  refine head_pc E _ _ hE r h hok ?_
  have hP : printP r h = if (headP r h).2 ≠ 0 then ([], (headP r h).2) else if 65536 < (headP r h).1.length then ([], 125)
      else if h.chunked = true ∧ (encAns r.body h.sizes h.trailers).2 ≠ 0 then ([], (encAns r.body h.sizes h.trailers).2)
      else if bodylessB h.method r.status = true then ((headP r h).1, 0)
      else ((headP r h).1 ++ (if h.chunked = true then (encAns r.body h.sizes h.trailers).1 else r.body), 0) := by unfold printP; exact Eq.refl _
  generalize headP r h = hd at *
  obtain ⟨hd, he⟩ := hd
  simp only at hP hhl ⊢
  by_cases h0 : he = 0
  rotate_left
  · rw [if_pos h0] at hP
    have h0' : (he != 0) = true := by simpa using h0
    simp [h0']
    exact aPost_same hB (v0 := .tup [.str [], .int .i64 he]) (by simp) (nilV_refl _) (by simp) (fin _ hP)
  rw [if_neg (by simp [h0])] at hP
  by_cases h1 : 65536 < hd.length
  · rw [if_pos h1] at hP
    have h1' : (65536 : Int) < hd.length := by omega
    simp [h0, h1']
    exact aPost_same hB (v0 := .tup [.str [], .int .i64 125]) (by simp) (nilV_refl _) (by simp) (fin _ hP)
  rw [if_neg h1] at hP
  have h1' : ¬ (65536 : Int) < hd.length := by omega
  cases hc : h.chunked with
  | true =>
    simp [h0, h1']
    refine encode_pc E _ _ hE.1 r.body h.sizes h.trailers o5 o3 o2 o9 ?_
    generalize encAns r.body h.sizes h.trailers = en at *
    obtain ⟨en, ee⟩ := en
    simp only at hP hel ⊢
    by_cases h2 : ee = 0
    rotate_left
    · rw [if_pos ⟨hc, h2⟩] at hP
      have h2' : (ee != 0) = true := by simpa using h2
      simp [h2']
      exact aPost_same hB (v0 := .tup [.str [], .int .i64 ee]) (by simp) (nilV_refl _) (by simp) (fin _ hP)
    rw [if_neg (fun e => e.2 h2), if_pos hc] at hP
    simp [h2]
    refine bodyless_pc E _ _ h.method r.status ?_
    cases hb : bodylessB h.method r.status with
    | true =>
      rw [if_pos hb] at hP
      simp
      exact aPost_same hB (v0 := .tup [.str hd, .int .i64 0]) (by simp) (nilV_refl _) (by simp) (fin _ hP)
    | false =>
      rw [if_neg (by rw [hb]; simp)] at hP
      have m1 : hd.length + en.length ≤ maxLen := by unfold maxLen; omega
      simp [m1]
      exact aPost_same hB (v0 := .tup [.str (hd ++ en), .int .i64 0]) (by simp) (nilV_refl _) (by simp) (fin _ hP)
  | false =>
    rw [if_neg (fun e => by rw [hc] at e; cases e.1), if_neg (show ¬ h.chunked = true by rw [hc]; simp)] at hP
    simp [h0, h1']
    refine bodyless_pc E _ _ h.method r.status ?_
    cases hb : bodylessB h.method r.status with
    | true =>
      rw [if_pos hb] at hP
      simp
      exact aPost_same hB (v0 := .tup [.str hd, .int .i64 0]) (by simp) (nilV_refl _) (by simp) (fin _ hP)
    | false =>
      rw [if_neg (by rw [hb]; simp)] at hP
      have m1 : hd.length + r.body.length ≤ maxLen := by unfold maxLen; omega
      simp [m1]
      exact aPost_same hB (v0 := .tup [.str (hd ++ r.body), .int .i64 0]) (by simp) (nilV_refl _) (by simp) (fin _ hP)
end
end Go.Proofs.YtcdkcaocfioigaaGreatDoor

set_option linter.unusedVariables false
set_option linter.unnecessarySimpa false
set_option linter.unusedSimpArgs false
set_option linter.unusedSectionVars false
set_option maxRecDepth 100000
namespace Go.Proofs.YtcdkcaocfioigaaGreatDoor
open Go Go.RowKit Go.Proofs

@[simp] theorem ints_length' (l : List Int) : (ints l).length = l.length := by simp [ints]
section
variable (E : Env) (H : Hp) (Q : AV → Hp → Prop)
def dvalInv (l : List UInt8) (H : Hp) (fr : List AV) (H' : Hp) : Prop := H' = H ∧ ∃ i : Nat, i ≤ l.length ∧ fldB (l.take i) = true ∧ ∃ x : Nat → AV, fr = [.str l, x 1, x 2, .int .i64 i, x 4, x 5, x 6, x 7, x 8, x 9, x 10, x 11, x 12, x 13, x 14, x 15, x 16, x 17, x 18, x 19, x 20, x 21, x 22, x 23]
theorem dvalue_pc (l : List UInt8) (hl : l.length ≤ cap) (hQ : Q (.bool (valueB l)) H) : PC Tryz.prog E 107 [.str l] H Q := by
  have hc := hl
  simp only [cap] at hl
  refine pc_enter Tryz.func107 rfl [] [] (by kernel_rfl) (fun hB => ?_)
  have fin : ∀ c : Bool, valueB l = c → Q (.bool c) H := fun c hc => hc ▸ hQ
  simp [Tryz.ntmps107, Tryz.results107, List.replicate_succ]
  refine VL_go (dvalInv l H) (fun fr _ => l.length - (ai (aget fr 3)).toNat) ⟨rfl, 0, by omega, rfl, fr_intro (by simp)⟩ ?_
  rintro fr H' ⟨rfl, i, hi, hall, x, rfl⟩
  by_cases h : i < l.length
  · obtain ⟨b, hb⟩ : ∃ b, l[i]? = some b := ⟨_, List.getElem?_eq_getElem h⟩
    have hat := lat_eq hb
    have hw : IntKind.i64.wrap ((i : Int) + 1) = i + 1 := wrap_in (by omega) (by omega)
    simp [h, hat]
    refine inside_pc E _ _ b ?_
    cases hf : fcB b
    · simp [hf]
      exact aPost_same0 hB rfl (nilV_refl _) (by simp) (fin _ (by unfold valueB fldB; rw [all_bad fcB l i b hb hf]; simp))
    · simp [hf, hw]
      refine Kloop_normal ⟨rfl, i + 1, by omega, ?_, fr_intro (by simp)⟩ (by simp; omega)
      unfold fldB at hall ⊢
      rw [all_take fcB l i b hb, hall, hf]; rfl
  · have : l.take i = l := List.take_of_length_le (by omega)
    rw [this] at hall
    by_cases h8 : l.length ≤ 8192
    · have h8' : (l.length : Int) ≤ 8192 := by omega
      simp [h, h8']
      refine ref_trim_pc E _ _ l hc ?_
      simp
      exact aPost_same0 hB rfl (nilV_refl _) (by simp) (fin _ (by unfold valueB; rw [hall, Bool.eq_iff_iff]; simp [h8]))
    · have h8' : ¬ (l.length : Int) ≤ 8192 := by omega
      simp [h, h8']
      exact aPost_same0 hB rfl (nilV_refl _) (by simp) (fin _ (by simp [valueB, h8]))
theorem dright_pc (f : Fld) (h1 : f.name.length ≤ cap) (h2 : f.value.length ≤ cap) (hQ : Q (.bool (rightB f)) H) : PC Tryz.prog E 81 [.agg [.str f.name, .str f.value]] H Q := by
  refine pc_enter Tryz.func81 rfl [] [] (by kernel_rfl) (fun hB => ?_)
  have fin : ∀ c : Bool, rightB f = c → Q (.bool c) H := fun c hc => hc ▸ hQ
  simp [Tryz.ntmps81, Tryz.results81, List.replicate_succ]
  refine ref_may_pc E _ _ f.name h1 ?_
  cases hm : mayB f.name
  · simp
    exact aPost_same hB rfl (nilV_refl _) (by simp) (fin _ (by unfold rightB; rw [hm]; rfl))
  · simp
    refine dvalue_pc E _ _ f.value h2 ?_
    simp
    exact aPost_same hB rfl (nilV_refl _) (by simp) (fin _ (by unfold rightB; rw [hm]; simp))
end
end Go.Proofs.YtcdkcaocfioigaaGreatDoor

set_option linter.unusedVariables false
set_option linter.unnecessarySimpa false
set_option linter.unusedSimpArgs false
set_option linter.unusedSectionVars false
set_option maxRecDepth 100000
namespace Go.Proofs.YtcdkcaocfioigaaGreatDoor
open Go Go.RowKit Go.Proofs Go.Deep

theorem flds_of_rows : ∀ (rows : List (List AV)), (∀ r ∈ rows, r.length = 2 ∧ ∀ (j : Nat) k y, [CK.str, .str][j]? = some k → r[j]? = some y → KindOf k y) → ∃ ls, rows = flds ls ∧ fsz ls ≤ wtA rows.flatten
  | [], _ => ⟨[], rfl, by simp [fsz]⟩
  | r :: rows, h => by
    obtain ⟨ls, rfl, hw⟩ := flds_of_rows rows (fun q hq => h q (List.mem_cons_of_mem _ hq))
    obtain ⟨h1, h2⟩ := h r (List.mem_cons_self ..)
    match r, h1 with
    | [a, b], _ =>
      obtain ⟨x, rfl⟩ := kind_str (h2 0 _ _ rfl rfl)
      obtain ⟨y, rfl⟩ := kind_str (h2 1 _ _ rfl rfl)
      refine ⟨⟨x, y⟩ :: ls, rfl, ?_⟩
      rw [List.flatten_cons, wtA_app]
      simp [fsz, wtA] at hw ⊢
      omega
end Go.Proofs.YtcdkcaocfioigaaGreatDoor

set_option linter.unusedVariables false
set_option linter.unnecessarySimpa false
set_option linter.unusedSimpArgs false
set_option linter.unusedSectionVars false
set_option maxRecDepth 100000
namespace Go.Proofs.YtcdkcaocfioigaaGreatDoor
open Go Go.RowKit Go.Proofs

theorem chunksT_app (a b : List (List UInt8)) : chunksT (a ++ b) = chunksT a ++ chunksT b := by simp [chunksT]
def full (l : List (List UInt8)) : List (List UInt8) := l.filter fun p => p != []
theorem full_app (a b : List (List UInt8)) : full (a ++ b) = full a ++ full b := by simp [full]
theorem full_take (l : List (List UInt8)) (j : Nat) : (chunksT (full (l.take j))).length ≤ (chunksT (full l)).length := by
  have h : full l = full (l.take j) ++ full (l.drop j) := by rw [← full_app, List.take_append_drop]
  rw [h, chunksT_app, List.length_append]; omega
theorem strRows_snoc (l : List (List UInt8)) (s : List UInt8) : strRows l ++ [[.str s]] = strRows (l ++ [s]) := by simp [strRows]
@[simp] theorem strRows_length (l : List (List UInt8)) : (strRows l).length = l.length := by simp [strRows]
theorem flat_len_mem {l : List (List UInt8)} {j : Nat} {s : List UInt8} (h : l[j]? = some s) : s.length ≤ l.flatten.length := by
  have := List.mem_of_getElem? h
  induction l generalizing j with
  | nil => cases this
  | cons a l ih =>
    cases j with
    | zero => simp at h; subst h; simp
    | succ j =>
      have h' : l[j]? = some s := by simpa using h
      have := ih h' (List.mem_of_getElem? h')
      simp only [List.flatten_cons, List.length_append]; omega
section
variable (E : Env) (H : Hp) (Q : AV → Hp → Prop)
theorem dprintLine_pc (f : Fld) (h1 : f.name.length ≤ 16777216) (h2 : f.value.length ≤ 16777216) (hQ : Q (.tup [.str (lineP f).1, .int .i64 (lineP f).2]) H) : PC Tryz.prog E 78 [.agg [.str f.name, .str f.value]] H Q := by
  refine pc_enter Tryz.func78 rfl [] [] (by kernel_rfl) (fun hB => ?_)
  have m1 : f.name.length + 1 ≤ maxLen := by unfold maxLen; omega
  have m2 : f.name.length + 2 ≤ maxLen := by unfold maxLen; omega
  have m3 : f.name.length + 2 + f.value.length ≤ maxLen := by unfold maxLen; omega
  have m4 : f.name.length + 1 + 1 ≤ maxLen := by unfold maxLen; omega
  have m5 : f.name.length + 1 + 1 + f.value.length ≤ maxLen := by unfold maxLen; omega
  simp [Tryz.ntmps78, Tryz.results78, List.replicate_succ]
  refine ref_name_pc E _ _ f.name (by simp only [cap]; omega) ?_
  cases hn : nameB f.name with
  | false =>
    have e : lineP f = ([], 60) := by unfold lineP; rw [if_pos hn]
    rw [e] at hQ
    simp
    exact aPost_same hB rfl (nilV_refl _) (by simp) hQ
  | true =>
    simp
    refine dvalue_pc E _ _ f.value (by simp only [cap]; omega) ?_
    cases hv : valueB f.value with
    | false =>
      have e : lineP f = ([], 61) := by unfold lineP; rw [if_neg (by rw [hn]; simp), if_pos hv]
      rw [e] at hQ
      simp
      exact aPost_same hB rfl (nilV_refl _) (by simp) hQ
    | true =>
      have e : lineP f = (lineT f, 0) := by unfold lineP; rw [if_neg (by rw [hn]; simp), if_neg (by rw [hv]; simp)]
      rw [e] at hQ
      by_cases he : f.value = []
      · have e2 : lineT f = f.name ++ [58] := by unfold lineT; rw [if_pos he]
        rw [e2] at hQ
        have he' : (f.value == []) = true := by simpa using he
        simp [he', m1]
        exact aPost_same hB rfl (nilV_refl _) (by simp) hQ
      · have e2 : lineT f = f.name ++ (58 :: 32 :: f.value) := by unfold lineT; rw [if_neg he]
        rw [e2] at hQ
        have he' : (f.value == []) = false := by simpa using he
        simp [he', m2, m3, m4, m5]
        exact aPost_same hB rfl (nilV_refl _) (by simp) hQ
def deInv1 (body : List UInt8) (ns : List Int) (ts : List Fld) (H : Hp) (fr : List AV) (H' : Hp) : Prop := H' = H ∧ ∃ i : Nat, i ≤ ns.length ∧ okSizes (ns.take i) = true ∧
  ∃ x : Nat → AV, fr = [.str body, .sl false 1 (ints ns), .sl false 2 (flds ts), x 3, x 4, x 5, x 6, x 7, x 8, x 9, x 10, x 11, x 12, x 13, x 14, x 15, x 16, x 17, x 18, x 19, x 20, x 21, .sl false 1 (ints ns), .int .i64 ns.length, .int .i64 i, x 25, x 26, x 27, x 28, x 29, x 30, x 31, x 32, x 33, x 34, x 35, x 36, x 37, x 38, x 39, x 40, x 41, x 42, x 43, x 44, x 45, x 46, x 47, x 48, x 49, x 50, x 51, x 52, x 53, x 54, x 55, x 56, x 57, x 58, x 59, x 60, x 61, x 62, x 63, x 64, x 65, x 66, x 67, x 68, x 69, x 70, x 71, x 72, x 73, x 74, x 75, x 76, x 77, x 78, x 79, x 80, x 81, x 82, x 83, x 84, x 85, x 86, x 87, x 88, x 89, x 90, x 91, x 92, x 93, x 94, x 95, x 96, x 97, x 98, x 99, x 100, x 101, x 102, x 103]
def deInv2 (body : List UInt8) (ns : List Int) (ts : List Fld) (H : Hp) (fr : List AV) (H' : Hp) : Prop := ∃ (J : Hp) (i : Nat), H' = H ++ J ∧ i ≤ ts.length ∧ (ts.take i).all rightB = true ∧
  ∃ x : Nat → AV, fr = [.str body, .sl false 1 (ints ns), .sl false 2 (flds ts), x 3, x 4, x 5, x 6, x 7, x 8, x 9, x 10, x 11, x 12, x 13, x 14, x 15, x 16, x 17, x 18, x 19, x 20, x 21, x 22, x 23, x 24, x 25, x 26, x 27, x 28, x 29, x 30, .sl false 2 (flds ts), .int .i64 ts.length, .int .i64 i, x 34, x 35, x 36, x 37, x 38, x 39, x 40, x 41, x 42, x 43, x 44, x 45, x 46, x 47, x 48, x 49, x 50, x 51, x 52, x 53, x 54, x 55, x 56, x 57, x 58, x 59, x 60, x 61, x 62, x 63, x 64, x 65, x 66, x 67, x 68, x 69, x 70, x 71, x 72, x 73, x 74, x 75, x 76, x 77, x 78, x 79, x 80, x 81, x 82, x 83, x 84, x 85, x 86, x 87, x 88, x 89, x 90, x 91, x 92, x 93, x 94, x 95, x 96, x 97, x 98, x 99, x 100, x 101, x 102, x 103]
def deInv3 (body : List UInt8) (ns : List Int) (ts : List Fld) (H : Hp) (fr : List AV) (H' : Hp) : Prop := ∃ (J : Hp) (i : Nat) (b : List UInt8) (pcs : List (List UInt8)), H' = H ++ J ∧ i ≤ ns.length ∧ pcs.length = i ∧ full pcs ++ piecesB b (ns.drop i) = piecesB body ns ∧ b.length ≤ body.length ∧
  ∃ x : Nat → AV, fr = [.str b, x 1, .sl false 2 (flds ts), x 3, x 4, x 5, x 6, x 7, x 8, x 9, x 10, x 11, .sl true 1 (strRows pcs), x 13, x 14, x 15, x 16, x 17, x 18, x 19, x 20, x 21, x 22, x 23, x 24, x 25, x 26, x 27, x 28, x 29, x 30, x 31, x 32, x 33, x 34, x 35, x 36, x 37, x 38, x 39, x 40, .sl false 1 (ints ns), .int .i64 ns.length, .int .i64 i, x 44, x 45, x 46, x 47, x 48, x 49, x 50, x 51, x 52, x 53, x 54, x 55, x 56, x 57, x 58, x 59, x 60, x 61, x 62, x 63, x 64, x 65, x 66, x 67, x 68, x 69, x 70, x 71, x 72, x 73, x 74, x 75, x 76, x 77, x 78, x 79, x 80, x 81, x 82, x 83, x 84, x 85, x 86, x 87, x 88, x 89, x 90, x 91, x 92, x 93, x 94, x 95, x 96, x 97, x 98, x 99, x 100, x 101, x 102, x 103]
def deInv4 (all : List (List UInt8)) (ts : List Fld) (H : Hp) (fr : List AV) (H' : Hp) : Prop := ∃ (J : Hp) (i : Nat), H' = H ++ J ∧ i ≤ all.length ∧
  ∃ x : Nat → AV, fr = [x 0, x 1, .sl false 2 (flds ts), x 3, x 4, x 5, x 6, x 7, x 8, x 9, x 10, x 11, x 12, x 13, x 14, .str (chunksT (full (all.take i))), x 16, x 17, x 18, x 19, x 20, x 21, x 22, x 23, x 24, x 25, x 26, x 27, x 28, x 29, x 30, x 31, x 32, x 33, x 34, x 35, x 36, x 37, x 38, x 39, x 40, x 41, x 42, x 43, x 44, x 45, x 46, x 47, x 48, x 49, x 50, x 51, x 52, x 53, x 54, x 55, x 56, x 57, x 58, x 59, x 60, x 61, x 62, x 63, x 64, x 65, .sl true 1 (strRows all), .int .i64 all.length, .int .i64 i, x 69, x 70, x 71, x 72, x 73, x 74, x 75, x 76, x 77, x 78, x 79, x 80, x 81, x 82, x 83, x 84, x 85, x 86, x 87, x 88, x 89, x 90, x 91, x 92, x 93, x 94, x 95, x 96, x 97, x 98, x 99, x 100, x 101, x 102, x 103]
def deInv5 (out : List UInt8) (ts : List Fld) (H : Hp) (fr : List AV) (H' : Hp) : Prop := ∃ (J : Hp) (i : Nat), H' = H ++ J ∧ i ≤ ts.length ∧
  ∃ x : Nat → AV, fr = [x 0, x 1, x 2, x 3, x 4, x 5, x 6, x 7, x 8, x 9, x 10, x 11, x 12, x 13, x 14, .str (out ++ linesT (ts.take i)), x 16, x 17, x 18, x 19, x 20, x 21, x 22, x 23, x 24, x 25, x 26, x 27, x 28, x 29, x 30, x 31, x 32, x 33, x 34, x 35, x 36, x 37, x 38, x 39, x 40, x 41, x 42, x 43, x 44, x 45, x 46, x 47, x 48, x 49, x 50, x 51, x 52, x 53, x 54, x 55, x 56, x 57, x 58, x 59, x 60, x 61, x 62, x 63, x 64, x 65, x 66, x 67, x 68, x 69, x 70, x 71, x 72, x 73, x 74, x 75, x 76, x 77, x 78, x 79, x 80, x 81, x 82, x 83, x 84, x 85, .sl false 2 (flds ts), .int .i64 ts.length, .int .i64 i, x 89, x 90, x 91, x 92, x 93, x 94, x 95, x 96, x 97, x 98, x 99, x 100, x 101, x 102, x 103]
set_option maxHeartbeats 4000000 in
theorem dencode_pc (body : List UInt8) (ns : List Int) (ts : List Fld) (hb : body.length ≤ 1048576) (hn : ns.length ≤ 1048577) (ht : fsz ts + ts.length ≤ 1048577) (hr : ∀ z ∈ ns, -9223372036854775808 ≤ z ∧ z ≤ 9223372036854775807)
    (hQ : Q (.tup [.str (encAns body ns ts).1, .int .i64 (encAns body ns ts).2]) H) : PC Tryz.prog E 55 [.str body, .sl false 1 (ints ns), .sl false 2 (flds ts)] H Q := by
  refine pc_enter Tryz.func55 rfl [53, 63] [] (by kernel_rfl) (fun hB => ?_)
  simp [Tryz.ntmps55, Tryz.results55, List.replicate_succ]
  refine VL_go (deInv1 body ns ts H) (fun fr _ => ns.length - (ai (aget fr 24)).toNat) ⟨rfl, 0, by omega, rfl, fr_intro (by simp)⟩ ?_
  rintro fr H' ⟨rfl, i, hi, hall, x, rfl⟩
  by_cases h : i < ns.length
  · obtain ⟨z, hz⟩ : ∃ z, ns[i]? = some z := ⟨_, List.getElem?_eq_getElem h⟩
    have hat := ints_at hz
    have hw : IntKind.i64.wrap ((i : Int) + 1) = i + 1 := wrap_in (by omega) (by omega)
    have hst : okSizes (ns.take (i + 1)) = (okSizes (ns.take i) && decide (1 ≤ z)) := by
      unfold okSizes
      rw [List.take_add_one, hz, List.all_append]; simp
    by_cases hz1 : z < 1
    · have e : encAns body ns ts = ([], 1) := by
        unfold encAns
        rw [if_pos]
        unfold okSizes
        rw [List.all_eq_false]
        exact ⟨z, List.mem_of_getElem? hz, by simp; omega⟩
      rw [e] at hQ
      simp [h, hat, hz1]
      exact aPost_same0 hB rfl (nilV_refl _) (by simp) hQ
    · simp [h, hat, hz1, hw]
      exact Kloop_normal ⟨rfl, i + 1, by omega, by rw [hst, hall]; simp; omega, fr_intro (by simp)⟩ (by simp; omega)
  obtain rfl : i = ns.length := by omega
  rw [List.take_of_length_le (Nat.le_refl _)] at hall
  have hns : ∀ z ∈ ns, 1 ≤ z := fun z hz => by have := List.all_eq_true.1 hall z hz; simpa using this
  clear hi h
  simp
  refine VL_go (deInv2 body ns ts H') (fun fr _ => ts.length - (ai (aget fr 33)).toNat) ⟨[], 0, by simp, by omega, by simp, fr_intro (by simp)⟩ ?_
  rintro fr H2 ⟨J, i, rfl, hi, hts, x, rfl⟩
  by_cases h : i < ts.length
  · obtain ⟨f, hf⟩ : ∃ f, ts[i]? = some f := ⟨_, List.getElem?_eq_getElem h⟩
    have hat := flds_at hf
    have hfm := fsz_mem hf
    have hw : IntKind.i64.wrap ((i : Int) + 1) = i + 1 := wrap_in (by omega) (by omega)
    simp [h, hat]
    refine dright_pc E _ _ f (by simp only [cap]; omega) (by simp only [cap]; omega) ?_
    cases hrt : rightB f
    · have hq : encAns body ns ts = ([], 101) := by
        unfold encAns
        rw [if_neg (by rw [hall]; simp), if_pos]
        rw [List.all_eq_false]
        exact ⟨f, List.mem_of_getElem? hf, by rw [hrt]; simp⟩
      rw [hq] at hQ
      simp
      exact aPost_same hB rfl (nilV_refl _) (by simp) hQ
    · simp [hw]
      exact Kloop_normal ⟨_, i + 1, rfl, by omega, by rw [all_step rightB ts i f hf, hts, hrt]; rfl, fr_intro (by simp)⟩ (by simp; omega)
  obtain rfl : i = ts.length := by omega
  rw [List.take_of_length_le (Nat.le_refl _)] at hts
  have he : encAns body ns ts = (encT (piecesB body ns) ts, 0) := by
    unfold encAns
    rw [if_neg (by rw [hall]; simp), if_neg (by rw [hts]; simp)]
  rw [he] at hQ
  simp only at hQ
  clear hi h he hall
  have hpf : (piecesB body ns).flatten = body := pieces_flat ns body
  have htot := chunksT_le (piecesB body ns) (pieces_ne ns body hns) (by rw [hpf]; omega)
  rw [hpf] at htot
  simp
  refine VL_nil 12 1 (by rfl) ?_
  simp only [List.set_cons_succ, List.set_cons_zero]
  refine VL_go (deInv3 body ns ts H') (fun fr _ => ns.length - (ai (aget fr 43)).toNat) ⟨J, 0, body, [], rfl, by omega, rfl, by simp [full], by omega, fr_intro (by simp [strRows])⟩ ?_
  clear J x
  rintro fr H3 ⟨J, i, b, pcs, rfl, hi, hpl, hsum, hbl, x, rfl⟩
  have m1 : pcs.length + 1 ≤ maxLen := by unfold maxLen; omega
  have m2 : (pcs.length + 1) * 16 ≤ 140737488355328 := by omega
  by_cases h : i < ns.length
  · obtain ⟨z, hz⟩ : ∃ z, ns[i]? = some z := ⟨_, List.getElem?_eq_getElem h⟩
    have hat := ints_at hz
    have hz1 := hns z (List.mem_of_getElem? hz)
    have hw : IntKind.i64.wrap ((i : Int) + 1) = i + 1 := wrap_in (by omega) (by omega)
    have hdrop : ns.drop i = z :: ns.drop (i + 1) := by rw [List.drop_eq_getElem_cons h]; simp [(List.getElem?_eq_some_iff.1 hz).2]
    rw [hdrop] at hsum
    obtain ⟨m, hm⟩ : ∃ m : Nat, (if (b.length : Int) < z then (b.length : Int) else z) = m := ⟨(if (b.length : Int) < z then (b.length : Int) else z).toNat, by split <;> omega⟩
    have hml : m ≤ b.length := by split at hm <;> omega
    have htk : b.take m = b.take z.toNat := by
      split at hm
      · rw [List.take_of_length_le (by omega), List.take_of_length_le (by omega)]
      · rw [show m = z.toNat by omega]
    have hdk : b.drop m = b.drop z.toNat := by
      split at hm
      · rw [List.drop_of_length_le (by omega), List.drop_of_length_le (by omega)]
      · rw [show m = z.toNat by omega]
    have hsum2 : full (pcs ++ [b.take m]) ++ piecesB (b.drop m) (ns.drop (i + 1)) = piecesB body ns := by
      rw [← hsum, full_app, htk, hdk]
      by_cases hb0 : b = []
      · subst hb0; simp [full, pieces_nil]
      · have hne : b.take z.toNat ≠ [] := fun e => by
          have := congrArg List.length e
          rw [List.length_take] at this
          have h0 : b.length ≠ 0 := fun e => hb0 (List.length_eq_zero_iff.1 e)
          have h3 : ([] : List UInt8).length = 0 := rfl
          omega
        rw [piecesB_cons hb0]
        simp [full, hne]
    have hsn := strRows_snoc pcs (b.take m)
    have htl : (b.drop m).take (b.length - m) = b.drop m := List.take_of_length_le (by rw [List.length_drop]; omega)
    by_cases hlz : (b.length : Int) < z
    · have hm' : m = b.length := by rw [if_pos hlz] at hm; omega
      subst hm'
      simp at hsn
      simp [h, hat, hlz, m1, m2, hsn, hw]
      exact Kloop_normal ⟨J, i + 1, [], pcs ++ [b], rfl, by omega, by simp [hpl], by simpa using hsum2, by simp, fr_intro (by simp)⟩ (by simp; omega)
    · have hzm : z = m := by rw [if_neg hlz] at hm; exact hm
      subst hzm
      have hlz' : m ≤ b.length := hml
      simp [h, hat, hlz, hlz', m1, m2, hsn, hw, htl]
      exact Kloop_normal ⟨J, i + 1, b.drop m, pcs ++ [b.take m], rfl, by omega, by simp [hpl], hsum2, by rw [List.length_drop]; omega, fr_intro (by simp)⟩ (by simp; omega)
  obtain rfl : i = ns.length := by omega
  rw [List.drop_of_length_le (Nat.le_refl _)] at hsum
  have hall : full (pcs ++ [b]) = piecesB body ns := by
    rw [← hsum, full_app]
    by_cases hb0 : b = []
    · subst hb0; simp [full, pieces_nil]
    · rw [piecesB_last hb0]; simp [full, hb0]
  have hsn := strRows_snoc pcs b
  have hflat : (full (pcs ++ [b])).flatten = (pcs ++ [b]).flatten := by
    generalize pcs ++ [b] = l
    induction l with
    | nil => rfl
    | cons a l ih =>
      unfold full at ih ⊢
      rw [List.filter_cons]
      split
      · simp [ih]
      · rename_i hh
        have : a = [] := by simpa using hh
        subst this
        simpa using ih
  obtain ⟨all, hallE⟩ : ∃ l, pcs ++ [b] = l := ⟨_, rfl⟩
  have hal : all.length = ns.length + 1 := by rw [← hallE]; simp [hpl]
  rw [hallE] at hsn hall hflat
  simp [m1, m2, hsn]
  refine VL_go (deInv4 all ts H') (fun fr _ => all.length - (ai (aget fr 68)).toNat) ⟨J, 0, rfl, by omega, fr_intro (by simp [full, chunksT])⟩ ?_
  clear J x hsum
  rintro fr H4 ⟨J, i, rfl, hi, x, rfl⟩
  have hcl := full_take all i
  rw [hall] at hcl
  by_cases h : i < all.length
  · obtain ⟨s, hs⟩ : ∃ s, all[i]? = some s := ⟨_, List.getElem?_eq_getElem h⟩
    have hat := strRows_at hs
    have hsl := flat_len_mem hs
    rw [← hflat, hall, hpf] at hsl
    have hw : IntKind.i64.wrap ((i : Int) + 1) = i + 1 := wrap_in (by omega) (by omega)
    have htk : all.take (i + 1) = all.take i ++ [s] := by rw [List.take_add_one, hs]; rfl
    have hs11 := hexD_len11 s.length (by omega)
    by_cases hs0 : s = []
    · have e : chunksT (full (all.take (i + 1))) = chunksT (full (all.take i)) := by rw [htk, full_app, hs0]; simp [full]
      subst hs0
      simp [h, hat, hw]
      exact Kloop_normal ⟨J, i + 1, rfl, by omega, fr_intro (by rw [e]; simp)⟩ (by simp; omega)
    · have hs1 : (s != []) = true := by simpa using hs0
      have e : chunksT (full (all.take (i + 1))) = chunksT (full (all.take i)) ++ chunkT s := by
        rw [htk, full_app, chunksT_app]
        simp [full, hs0, chunksT]
      have k1 : (hexD s.length).length + 1 + 1 ≤ maxLen := by unfold maxLen; omega
      have k2 : (hexD s.length).length + 2 ≤ maxLen := by unfold maxLen; omega
      have k3 : (hexD s.length).length + 1 + 1 + s.length ≤ maxLen := by unfold maxLen; omega
      have k4 : (hexD s.length).length + 2 + s.length ≤ maxLen := by unfold maxLen; omega
      have k5 : (hexD s.length).length + (s.length + 1 + 1) + 2 ≤ maxLen := by unfold maxLen; omega
      have k6 : (chunksT (full (all.take i))).length + ((hexD s.length).length + (s.length + 1 + 1 + 1 + 1)) ≤ maxLen := by unfold maxLen; omega
      have k7 : (hexD s.length).length + (s.length + 1 + 1 + 2) ≤ maxLen := by unfold maxLen; omega
      have k8 : (chunksT (full (all.take i))).length + ((hexD s.length).length + (s.length + (1 + 1) + 1 + 1)) ≤ maxLen := by unfold maxLen; omega
      simp [h, hat, hs1]
      refine ddigits_pc E _ _ s.length (by omega) ?_
      simp [k1, k2, k3, k4, k5, k6, k7, k8, hw]
      exact Kloop_normal ⟨J, i + 1, rfl, by omega, fr_intro (by rw [e]; simp [chunkT])⟩ (by simp; omega)
  obtain rfl : i = all.length := by omega
  rw [List.take_of_length_le (Nat.le_refl _), hall] at hcl ⊢
  have k0 : (chunksT (piecesB body ns)).length + 3 ≤ maxLen := by unfold maxLen; omega
  have k0' : (chunksT (piecesB body ns)).length + 1 + 1 + 1 ≤ maxLen := by unfold maxLen; omega
  obtain ⟨out, hout⟩ : ∃ q, chunksT (piecesB body ns) ++ [48, 13, 10] = q := ⟨_, rfl⟩
  have hol : out.length ≤ 17000000 := by rw [← hout]; simp; omega
  simp [k0, k0', hout]
  refine VL_go (deInv5 out ts H') (fun fr _ => ts.length - (ai (aget fr 88)).toNat) ⟨J, 0, rfl, by omega, fr_intro (by simp [linesT])⟩ ?_
  clear J x
  rintro fr H5 ⟨J, i, rfl, hi, x, rfl⟩
  have hlin := linesT_le (ts.take i)
  have hsz := fsz_take ts i
  rw [List.length_take] at hlin
  by_cases h : i < ts.length
  · obtain ⟨f, hf⟩ : ∃ f, ts[i]? = some f := ⟨_, List.getElem?_eq_getElem h⟩
    have hat := flds_at hf
    have hfm := fsz_mem hf
    have hw : IntKind.i64.wrap ((i : Int) + 1) = i + 1 := wrap_in (by omega) (by omega)
    have hrt : rightB f = true := List.all_eq_true.1 hts f (List.mem_of_getElem? hf)
    have hlp : lineP f = (lineT f, 0) := by
      unfold rightB at hrt
      simp at hrt
      unfold lineP
      rw [if_neg (by rw [mayB_name hrt.1]; simp), if_neg (by rw [hrt.2]; simp)]
    have hlt := lineT_le f
    have hst := linesT_step ts i f hf
    have k1 : (lineT f).length + 1 + 1 ≤ maxLen := by unfold maxLen; omega
    have k2 : (lineT f).length + 2 ≤ maxLen := by unfold maxLen; omega
    have k3 : out.length + (linesT (ts.take i)).length + ((lineT f).length + 1 + 1) ≤ maxLen := by unfold maxLen; omega
    have k4 : out.length + (linesT (ts.take i)).length + ((lineT f).length + 2) ≤ maxLen := by unfold maxLen; omega
    simp [h, hat]
    refine dprintLine_pc E _ _ f (by omega) (by omega) ?_
    simp [hlp, k1, k2, k3, k4, hw]
    exact Kloop_normal ⟨_, i + 1, rfl, by omega, fr_intro (by rw [hst]; simp)⟩ (by simp; omega)
  · obtain rfl : i = ts.length := by omega
    rw [List.take_of_length_le (Nat.le_refl _)] at hlin ⊢
    have k1 : out.length + (linesT ts).length + 2 ≤ maxLen := by unfold maxLen; omega
    have k2 : out.length + (linesT ts).length + 1 + 1 ≤ maxLen := by unfold maxLen; omega
    have e : encT (piecesB body ns) ts = out ++ (linesT ts ++ [13, 10]) := by rw [← hout]; unfold encT; simp
    rw [e] at hQ
    simp [k1, k2]
    exact aPost_same hB (by simp) (nilV_refl _) (by simp) hQ
end
end Go.Proofs.YtcdkcaocfioigaaGreatDoor

set_option linter.unusedVariables false
set_option linter.unnecessarySimpa false
set_option linter.unusedSimpArgs false
set_option linter.unusedSectionVars false
set_option maxRecDepth 100000
namespace Go.Proofs.YtcdkcaocfioigaaGreatDoor
open Go Go.RowKit Go.Proofs

/-- Has a response what it may not have? -/
def frB (r : Resp) (h : Mann) : Bool := r.fields.any (framedB r.status) || ((decide (r.body ≠ []) && neverS r.status) || (if h.chunked = true then h.old || neverS r.status else decide (h.sizes ≠ []) || decide (h.trailers ≠ [])))
theorem wrongM_fr (r : Resp) (h : Mann) : wrongM r h = if r.status < 100 ∨ 599 < r.status then 120 else if (fldB r.reason && decide (r.reason.length ≤ 256)) = false then 121 else if frB r h = true then 123 else 0 := by
  unfold wrongM frB
  by_cases h1 : r.status < 100 ∨ 599 < r.status
  · rw [if_pos h1, if_pos h1]
  rw [if_neg h1, if_neg h1]
  have e2 : (256 < r.reason.length ∨ fldB r.reason = false) ↔ (fldB r.reason && decide (r.reason.length ≤ 256)) = false := by
    rw [Bool.and_eq_false_iff]
    constructor
    · rintro (h | h)
      · right; simp; omega
      · left; exact h
    · rintro (h | h)
      · right; exact h
      · left; simp at h; omega
  by_cases h2 : (fldB r.reason && decide (r.reason.length ≤ 256)) = false
  · rw [if_pos (e2.2 h2), if_pos h2]
  rw [if_neg (fun e => h2 (e2.1 e)), if_neg h2]
  cases r.fields.any (framedB r.status) with
  | true => simp
  | false =>
    rw [if_neg (by simp)]
    generalize neverS r.status = n
    generalize decide (r.body ≠ []) = b
    generalize decide (h.sizes ≠ []) = s
    generalize decide (h.trailers ≠ []) = t
    generalize h.chunked = c
    generalize h.old = o
    cases n <;> cases b <;> cases s <;> cases t <;> cases c <;> cases o <;> rfl
theorem itoa_dig (n : Int) (h : 0 ≤ n) : Go.Lib.itoa n = digR n := by
  unfold Go.Lib.itoa digR
  rw [if_neg (by omega), if_neg (by omega)]
section
variable (E : Env) (H : Hp) (Q : AV → Hp → Prop)
theorem dalike_pc (a b : List UInt8) (ha : a.length ≤ cap) (hb : b.length ≤ cap) (hQ : Q (.bool (lowEq a b)) H) : PC Tryz.prog E 77 [.str a, .str b] H Q := by
  refine pc_enter Tryz.func77 rfl [] [] (by kernel_rfl) (fun hB => ?_)
  simp [Tryz.ntmps77, Tryz.results77, List.replicate_succ]
  refine ref_lower_pc E _ _ a ha ?_
  simp
  refine ref_lower_pc E _ _ b hb ?_
  simp
  exact aPost_same0 hB rfl (nilV_refl _) (by simp) hQ
def isrInv (s : List UInt8) (H : Hp) (fr : List AV) (H' : Hp) : Prop := H' = H ∧ ∃ i : Nat, i ≤ s.length ∧ fldB (s.take i) = true ∧ ∃ x : Nat → AV, fr = [.str s, x 1, x 2, .int .i64 i, x 4, x 5, x 6, x 7, x 8, x 9, x 10, x 11, x 12, x 13, x 14, x 15, x 16, x 17]
theorem disReason_pc (s : List UInt8) (hl : s.length ≤ cap) (hQ : Q (.bool (fldB s && decide (s.length ≤ 256))) H) : PC Tryz.prog E 49 [.str s] H Q := by
  simp only [cap] at hl
  refine pc_enter Tryz.func49 rfl [] [] (by kernel_rfl) (fun hB => ?_)
  simp [Tryz.ntmps49, Tryz.results49, List.replicate_succ]
  refine VL_go (isrInv s H) (fun fr _ => s.length - (ai (aget fr 3)).toNat) ⟨rfl, 0, by omega, rfl, fr_intro (by simp)⟩ ?_
  rintro fr H' ⟨rfl, i, hi, hall, x, rfl⟩
  by_cases h : i < s.length
  · obtain ⟨b, hb⟩ : ∃ b, s[i]? = some b := ⟨_, List.getElem?_eq_getElem h⟩
    have hat := lat_eq hb
    have hw : IntKind.i64.wrap ((i : Int) + 1) = i + 1 := wrap_in (by omega) (by omega)
    simp [h, hat]
    refine inside_pc E _ _ b ?_
    cases hf : fcB b with
    | false =>
      have e : fldB s = false := by
        unfold fldB
        rw [List.all_eq_false]
        exact ⟨b, List.mem_of_getElem? hb, by rw [hf]; simp⟩
      rw [e] at hQ
      simp
      exact aPost_same0 hB rfl (nilV_refl _) (by simp) hQ
    | true =>
      simp [hw]
      refine Kloop_normal ⟨rfl, i + 1, by omega, ?_, fr_intro (by simp)⟩ (by simp; omega)
      unfold fldB at hall ⊢
      rw [List.take_add_one, hb, List.all_append, hall]
      simp [hf]
  · obtain rfl : i = s.length := by omega
    rw [List.take_of_length_le (Nat.le_refl _)] at hall
    rw [hall] at hQ
    have e : decide ((s.length : Int) ≤ 256) = decide (s.length ≤ 256) := by rw [decide_eq_decide]; omega
    simp [e]
    exact aPost_same0 hB rfl (nilV_refl _) (by simp) (by simpa using hQ)
def dfrInv (r : Resp) (h : Mann) (H : Hp) (fr : List AV) (H' : Hp) : Prop := ∃ (J : Hp) (i : Nat), H' = H ++ (r.avs :: h.avs :: J) ∧ i ≤ r.fields.length ∧ (r.fields.take i).any (framedB r.status) = false ∧
  ∃ x : Nat → AV, fr = [x 0, x 1, .ptr (some (H.length, 0)), .ptr (some (H.length + 1, 0)), x 4, x 5, x 6, x 7, .sl false 2 (flds r.fields), .int .i64 r.fields.length, .int .i64 i, x 11, x 12, x 13, x 14, x 15, x 16, x 17, x 18, x 19, x 20, x 21, x 22, x 23, x 24, x 25, x 26, x 27, x 28, x 29, x 30, x 31, x 32, x 33, x 34, x 35, x 36, x 37, x 38, x 39, x 40, x 41, x 42, x 43, x 44, x 45, x 46, x 47, x 48, x 49, x 50, x 51, x 52, x 53, x 54, x 55, x 56, x 57]
set_option maxHeartbeats 1000000 in
theorem dframed_pc (r : Resp) (h : Mann) (hok : okR r h) (hQ : Q (.bool (frB r h)) H) : PC Tryz.prog E 50 [.agg r.avs, .agg h.avs] H Q := by
  obtain ⟨o1, o2, o3, o4, o5, o6, ⟨o7, o8⟩, o9⟩ := hok
  have fin : ∀ a : Bool, frB r h = a → Q (.bool a) H := fun a ha => ha ▸ hQ
  have hR : r.avs = [.int .i64 r.status, .str r.reason, .sl false 2 (flds r.fields), .str r.body] := rfl
  have hM : h.avs = [.str h.method, .bool h.close, .bool h.old, .bool h.chunked, .sl false 1 (ints h.sizes), .sl false 2 (flds h.trailers)] := rfl
  rw [hR, hM]
  refine pc_enter Tryz.func50 rfl [] [] (by kernel_rfl) (fun hB => ?_)
  simp [Tryz.ntmps50, Tryz.results50, List.replicate_succ]
  refine VL_go (dfrInv r h H) (fun fr _ => r.fields.length - (ai (aget fr 10)).toNat) ⟨[], 0, by simp [hR, hM], by omega, by simp, fr_intro (by simp)⟩ ?_
  rintro fr H2 ⟨J, i, rfl, hi, hany, x, rfl⟩
  by_cases hil : i < r.fields.length
  · obtain ⟨f, hf2⟩ : ∃ f, r.fields[i]? = some f := ⟨_, List.getElem?_eq_getElem hil⟩
    have hat := flds_at hf2
    have hfm := fsz_mem hf2
    have hw : IntKind.i64.wrap ((i : Int) + 1) = i + 1 := wrap_in (by omega) (by omega)
    have hst := any_step (framedB r.status) r.fields i f hf2
    have hsp : framedB r.status f = true → frB r h = true := fun hp => by unfold frB; rw [any_stop _ _ _ _ hf2 hp]; rfl
    have hfd : framedB r.status f = (lowEq f.name nCL || (lowEq f.name nTE || (lowEq f.name nCO && r.status != 101))) := rfl
    simp [hil, hat, hR]
    refine dalike_pc E _ _ f.name nCL (by simp only [cap]; omega) (by simp [nCL, cap]) ?_
    cases e1 : lowEq f.name nCL with
    | true =>
      simp
      exact aPost_same hB rfl (nilV_refl _) (by simp) (fin _ (hsp (by rw [hfd, e1]; rfl)))
    | false =>
      simp
      refine dalike_pc E _ _ f.name nTE (by simp only [cap]; omega) (by simp [nTE, cap]) ?_
      cases e2 : lowEq f.name nTE with
      | true =>
        simp
        exact aPost_same hB rfl (nilV_refl _) (by simp) (fin _ (hsp (by rw [hfd, e1, e2]; rfl)))
      | false =>
        simp
        refine dalike_pc E _ _ f.name nCO (by simp only [cap]; omega) (by simp [nCO, cap]) ?_
        cases e3 : lowEq f.name nCO with
        | false =>
          simp [hw]
          exact Kloop_normal ⟨J ++ [[.str f.name, .str f.value]], i + 1, by simp [hR], by omega, by rw [hst, hany, hfd, e1, e2, e3]; rfl, fr_intro (by simp)⟩ (by simp; omega)
        | true =>
          cases e4 : (r.status != 101) with
          | true =>
            simp [e4]
            exact aPost_same hB rfl (nilV_refl _) (by simp) (fin _ (hsp (by rw [hfd, e1, e2, e3, e4]; rfl)))
          | false =>
            simp [e4, hw]
            exact Kloop_normal ⟨J ++ [[.str f.name, .str f.value]], i + 1, by simp [hR], by omega, by rw [hst, hany, hfd, e1, e2, e3, e4]; rfl, fr_intro (by simp)⟩ (by simp; omega)
  · obtain rfl : i = r.fields.length := by omega
    rw [List.take_of_length_le (Nat.le_refl _)] at hany
    have hF : frB r h = ((decide (r.body ≠ []) && neverS r.status) || (if h.chunked = true then h.old || neverS r.status else decide (h.sizes ≠ []) || decide (h.trailers ≠ []))) := by unfold frB; rw [hany]; rfl
    have hbne : (r.body != []) = decide (r.body ≠ []) := by rw [Bool.eq_iff_iff]; simp
    have hgz : decide ((0 : Int) < h.sizes.length) = decide (h.sizes ≠ []) := by rw [decide_eq_decide, ← List.length_pos_iff]; omega
    have hgt : decide ((0 : Int) < h.trailers.length) = decide (h.trailers ≠ []) := by rw [decide_eq_decide, ← List.length_pos_iff]; omega
    have hnot : ∀ b, (r.body != []) = b → decide (r.body ≠ []) = b := fun b hb => by rw [← hbne]; exact hb
    cases hb : (r.body != [])
    case' false =>
      rw [hnot _ hb, Bool.false_and, Bool.false_or] at hF
      simp [hR, hM, hb]
    case' true =>
      rw [hnot _ hb, Bool.true_and] at hF
      simp [hR, hM, hb]
      refine dempty_pc E _ _ r.status ?_
      cases hn : neverS r.status
      case' true =>
        rw [hn, Bool.true_or] at hF
        simp
        exact aPost_same hB rfl (nilV_refl _) (by simp) (fin _ hF)
      case' false =>
        rw [hn, Bool.false_or] at hF
        rw [← hn] at hF
        simp
    all_goals
      cases hc : h.chunked
      case' true =>
        rw [if_pos hc] at hF
        cases ho : h.old
        case' true =>
          rw [ho, Bool.true_or] at hF
          simp [ho]
          exact aPost_same hB rfl (nilV_refl _) (by simp) (fin _ hF)
        case' false =>
          rw [ho, Bool.false_or] at hF
          simp [ho]
          refine dempty_pc E _ _ r.status ?_
          simp
          exact aPost_same hB rfl (nilV_refl _) (by simp) (fin _ hF)
      case' false =>
        rw [if_neg (by rw [hc]; simp)] at hF
        simp
        by_cases hz : h.sizes = []
        case' neg =>
          rw [decide_eq_true hz, Bool.true_or] at hF
          have hzl : 0 < h.sizes.length := List.length_pos_iff.2 hz
          simp [hzl]
          exact aPost_same hB rfl (nilV_refl _) (by simp) (fin _ hF)
        case' pos =>
          rw [decide_eq_false (fun e => e hz), Bool.false_or] at hF
          have hzl : h.sizes.length = 0 := by rw [hz]; rfl
          simp [hzl]
          by_cases ht : h.trailers = []
          case' pos =>
            rw [decide_eq_false (fun e => e ht)] at hF
            have htl : h.trailers.length = 0 := by rw [ht]; rfl
            simp [htl]
            exact aPost_same hB rfl (nilV_refl _) (by simp) (fin _ hF)
          case' neg =>
            rw [decide_eq_true ht] at hF
            have htl : 0 < h.trailers.length := List.length_pos_iff.2 ht
            simp [htl]
            exact aPost_same hB rfl (nilV_refl _) (by simp) (fin _ hF)
theorem dbehind_pc (r : Resp) (h : Mann) (hok : okR r h) (hQ : Q (.sl false 2 (flds (moreX r h ++ moreY r h))) H) : PC Tryz.prog E 52 [.agg r.avs, .agg h.avs] H Q := by
  obtain ⟨o1, o2, o3, o4, o5, o6, ⟨o7, o8⟩, o9⟩ := hok
  have hR : r.avs = [.int .i64 r.status, .str r.reason, .sl false 2 (flds r.fields), .str r.body] := rfl
  have hM : h.avs = [.str h.method, .bool h.close, .bool h.old, .bool h.chunked, .sl false 1 (ints h.sizes), .sl false 2 (flds h.trailers)] := rfl
  have hdg := itoa_dig (r.body.length : Int) (by omega)
  have m1 : (1 : Nat) ≤ maxLen ∧ (2 : Nat) ≤ maxLen := by unfold maxLen; omega
  rw [hR, hM]
  refine pc_enter Tryz.func52 rfl [8, 21, 36, 52] [] (by kernel_rfl) (fun hB => ?_)
  cases hc : h.chunked
  case' true =>
    have hX := moreX_c (r := r) hc
    simp [Tryz.ntmps52, Tryz.results52, List.replicate_succ, m1]
  case' false =>
    simp [Tryz.ntmps52, Tryz.results52, List.replicate_succ]
    refine dempty_pc E _ _ r.status ?_
    cases hn : neverS r.status
    case' true =>
      have hX := moreX_n hc hn
      simp
    case' false =>
      have hX := moreX_l hc hn
      simp
      refine dg12_pc E _ _ (r.body.length : Int) (by omega) (by omega) ?_
      rw [← hdg]
      simp [m1]
  all_goals
    by_cases h199 : 199 < r.status
    case' neg =>
      have hY := moreY_s (h := h) h199
      simp [h199]
    case' pos =>
      cases hcl : h.close
      case' true =>
        have hY := moreY_c h199 hcl
        simp [h199, m1]
      case' false =>
        cases hol : h.old
        case' true =>
          have hY := moreY_o h199 hcl hol
          simp [h199, m1]
        case' false =>
          have hY := moreY_n (r := r) hcl hol
          simp [h199]
  all_goals
    rw [hX, hY] at hQ
    first
      | exact aPost_same hB (v0 := .nil) (by simp) (nilV_nil false 2) (by simp) hQ
      | (refine aPost_same hB rfl (nilV_refl _) (by simp) ?_
         simpa [flds, nTE, nCL, nCO, vChunked, vClose, vKeep] using hQ)
end
end Go.Proofs.YtcdkcaocfioigaaGreatDoor

set_option linter.unusedVariables false
set_option linter.unnecessarySimpa false
set_option linter.unusedSimpArgs false
set_option linter.unusedSectionVars false
set_option maxRecDepth 100000
namespace Go.Proofs.YtcdkcaocfioigaaGreatDoor
open Go Go.RowKit Go.Proofs

section
variable (E : Env) (H : Hp) (Q : AV → Hp → Prop)
def dfpInv (l : List Fld) (H : Hp) (fr : List AV) (H' : Hp) : Prop := ∃ (J : Hp) (i : Nat), i ≤ l.length ∧ H' = H ++ J ∧ (∀ g ∈ l.take i, (lineP g).2 = 0) ∧
  ∃ x : Nat → AV, fr = [x 0, x 1, x 2, x 3, .str (linesT (l.take i)), x 5, x 6, x 7, x 8, x 9, x 10, x 11, .sl false 2 (flds l), .int .i64 l.length, .int .i64 i, x 15, x 16, x 17, x 18, x 19, x 20, x 21, x 22, x 23, x 24, x 25, x 26, x 27, x 28, x 29, x 30, x 31]
theorem dfprint_pc (l : List Fld) (hl : fsz l + l.length ≤ 16777216) (hQ : Q (.tup [.str (printF l).1, .int .i64 (printF l).2]) H) : PC Tryz.prog E 51 [.sl false 2 (flds l)] H Q := by
  have fin : ∀ a : List UInt8 × Int, printF l = a → Q (.tup [.str a.1, .int .i64 a.2]) H := fun a ha => ha ▸ hQ
  refine pc_enter Tryz.func51 rfl [] [] (by kernel_rfl) (fun hB => ?_)
  simp [Tryz.ntmps51, Tryz.results51, List.replicate_succ]
  by_cases h100 : 100 < l.length
  · have h1 : (100 : Int) < l.length := by omega
    simp [h1]
    exact aPost_same0 hB (v0 := .tup [.str [], .int .i64 65]) (by simp) (nilV_refl _) (by simp) (fin ([], 65) (by unfold printF; rw [if_pos h100]))
  have h1 : ¬ (100 : Int) < l.length := by omega
  simp [h1]
  refine VL_go (dfpInv l H) (fun fr _ => l.length - (ai (aget fr 14)).toNat) ⟨[], 0, by omega, by simp, by simp, fr_intro (by simp [linesT])⟩ ?_
  rintro fr H2 ⟨J2, i, hi, rfl, hall, x, rfl⟩
  have hlin := linesT_le (l.take i)
  have hsz := fsz_take l i
  rw [List.length_take] at hlin
  by_cases h : i < l.length
  · obtain ⟨f, hf⟩ : ∃ f, l[i]? = some f := ⟨_, List.getElem?_eq_getElem h⟩
    have hat := flds_at hf
    have hfm := fsz_mem hf
    have hw : IntKind.i64.wrap ((i : Int) + 1) = i + 1 := wrap_in (by omega) (by omega)
    have hlt := lineT_le f
    simp [h, hat]
    refine dprintLine_pc E _ _ f (by omega) (by omega) ?_
    by_cases hz : (lineP f).2 = 0
    · have hz1 := lineP_ok hz
      have m1 : (lineT f).length + 2 ≤ maxLen := by unfold maxLen; omega
      have m0 : (lineT f).length + 1 + 1 ≤ maxLen := by unfold maxLen; omega
      have m2 : (linesT (l.take i)).length + ((lineT f).length + 1 + 1) ≤ maxLen := by unfold maxLen; omega
      have m3 : (linesT (l.take i)).length + ((lineT f).length + 2) ≤ maxLen := by unfold maxLen; omega
      have hst := linesT_step l i f hf
      simp [hz, hz1, m1, m0, m2, m3, hw]
      refine Kloop_normal ⟨_, i + 1, by omega, rfl, fun g hg => ?_, fr_intro (by simp [hst])⟩ (by simp; omega)
      rw [List.take_add_one, hf] at hg
      rcases List.mem_append.1 hg with hg | hg
      · exact hall g hg
      · simp at hg; subst hg; exact hz
    · have hz2 : ((lineP f).2 != 0) = true := by simpa using hz
      simp [hz2]
      exact aPost_same hB (v0 := .tup [.str [], .int .i64 (lineP f).2]) (by simp) (nilV_refl _) (by simp) (fin ([], (lineP f).2) (printF_step (by omega) hf hall hz))
  · obtain rfl : i = l.length := by omega
    rw [List.take_of_length_le (Nat.le_refl _)] at hall hlin ⊢
    simp
    exact aPost_same hB (v0 := .tup [.str (linesT l), .int .i64 0]) (by simp) (nilV_refl _) (by simp) (fin (linesT l, 0) (printF_all (by omega) hall))
theorem dfprint_pc' (l : List Fld) (L : List (List AV)) (hL : L = flds l) (hl : fsz l + l.length ≤ 16777216) (hQ : Q (.tup [.str (printF l).1, .int .i64 (printF l).2]) H) : PC Tryz.prog E 51 [.sl false 2 L] H Q := hL ▸ dfprint_pc E H Q l hl hQ
theorem headP_wr {r : Resp} {h : Mann} {e : Int} (hw : wrongM r h = e) (he : e ≠ 0) : headP r h = ([], e) := by unfold headP; rw [hw, if_pos he]
set_option maxHeartbeats 2000000 in
theorem dhead_pc (r : Resp) (h : Mann) (hok : okR r h) (hQ : Q (.tup [.str (headP r h).1, .int .i64 (headP r h).2]) H) : PC Tryz.prog E 15 [.agg r.avs, .agg h.avs] H Q := by
  have hok' := hok
  obtain ⟨o1, o2, o3, o4, o5, o6, ⟨o7, o8⟩, o9⟩ := hok'
  have fin : ∀ a : List UInt8 × Int, headP r h = a → Q (.tup [.str a.1, .int .i64 a.2]) H := fun a ha => ha ▸ hQ
  have hR : r.avs = [.int .i64 r.status, .str r.reason, .sl false 2 (flds r.fields), .str r.body] := rfl
  have hM : h.avs = [.str h.method, .bool h.close, .bool h.old, .bool h.chunked, .sl false 1 (ints h.sizes), .sl false 2 (flds h.trailers)] := rfl
  have hW := wrongM_fr r h
  refine pc_enter Tryz.func15 rfl [25, 28] [] (by kernel_rfl) (fun hB => ?_)
  by_cases h1 : r.status < 100
  · rw [if_pos (.inl h1)] at hW
    rw [hR, hM]
    simp [Tryz.ntmps15, Tryz.results15, List.replicate_succ, h1]
    exact aPost_same hB (v0 := .tup [.str [], .int .i64 120]) (by simp) (nilV_refl _) (by simp) (fin _ (headP_wr hW (by decide)))
  by_cases h2 : 599 < r.status
  · rw [if_pos (.inr h2)] at hW
    rw [hR, hM]
    simp [Tryz.ntmps15, Tryz.results15, List.replicate_succ, h1, h2]
    exact aPost_same hB (v0 := .tup [.str [], .int .i64 120]) (by simp) (nilV_refl _) (by simp) (fin _ (headP_wr hW (by decide)))
  rw [if_neg (by omega)] at hW
  rw [hR, hM]
  simp [Tryz.ntmps15, Tryz.results15, List.replicate_succ, h1, h2]
  refine disReason_pc E _ _ r.reason (by simp only [cap]; omega) ?_
  cases hre : (fldB r.reason && decide (r.reason.length ≤ 256))
  · rw [if_pos hre] at hW
    simp
    exact aPost_same hB (v0 := .tup [.str [], .int .i64 121]) (by simp) (nilV_refl _) (by simp) (fin _ (headP_wr hW (by decide)))
  rw [if_neg (by rw [hre]; simp)] at hW
  simp
  rw [← hR, ← hM]
  refine dframed_pc E _ _ r h hok ?_
  cases hfr : frB r h
  rotate_left
  · rw [if_pos hfr] at hW
    simp
    exact aPost_same hB (v0 := .tup [.str [], .int .i64 123]) (by simp) (nilV_refl _) (by simp) (fin _ (headP_wr hW (by decide)))
  rw [if_neg (by rw [hfr]; simp)] at hW
  have m1 : r.fields.length ≤ maxLen := by unfold maxLen; omega
  have m2 : r.fields.length * 32 ≤ 140737488355328 := by omega
  rw [hR, hM]
  simp [m1, m2]
  rw [← hR, ← hM]
  refine dbehind_pc E _ _ r h hok ?_
  have hmo := more_ok hok
  have hml : (moreM r h).length ≤ 16777216 := by omega
  rw [moreM_eq] at hml
  simp only [List.length_append] at hml
  have m3 : r.fields.length + ((moreX r h).length + (moreY r h).length) ≤ maxLen := by unfold maxLen; omega
  have m4 : (r.fields.length + ((moreX r h).length + (moreY r h).length)) * 32 ≤ 140737488355328 := by omega
  simp [m3, m4]
  refine dfprint_pc' E _ _ (moreM r h) _ (by rw [moreM_eq]; simp [flds]) hmo ?_
  have hl := lines_ok hok
  have hrl := reason_len r.status
  have hil := (itoa_le r.status o7 o8).1
  have hdg := itoa_dig r.status (by omega)
  simp
  by_cases hp : (printF (moreM r h)).2 = 0
  rotate_left
  · have hp2 : ((printF (moreM r h)).2 != 0) = true := by simpa using hp
    simp [hp2]
    exact aPost_same hB (v0 := .tup [.str [], .int .i64 (printF (moreM r h)).2]) (by simp) (nilV_refl _) (by simp) (fin ([], (printF (moreM r h)).2) (headP_bad hW hp))
  have hA := headP_ok hW hp
  rw [hdg] at hA hil
  generalize (printF (moreM r h)).1 = L at *
  clear m1 m2 m3 m4
  have hmx : ∀ n : Nat, n ≤ 100000000 → n ≤ maxLen := fun n hn => by unfold maxLen; omega
  by_cases hrs : r.reason = []
  case' pos =>
    rw [if_pos hrs] at hA
    simp [hp, hR, hrs]
    refine dreason_pc E _ _ r.status o7 o8 ?_
    generalize reasonB r.status = R at *
    simp
  case' neg =>
    rw [if_neg hrs] at hA
    have hrs2 : (r.reason == []) = false := by simpa using hrs
    simp [hp, hR, hrs2]
  all_goals
    refine dg12_pc E _ _ r.status o7 o8 ?_
    generalize digR r.status = S at *
    simp
    simp (disch := omega) only [hmx, if_true, if_pos]
    simp
    simp (disch := omega) only [hmx, if_true, if_pos]
    simp
    simp (disch := omega) only [hmx, if_true, if_pos]
    simp
    simp (disch := omega) only [hmx, if_true, if_pos]
    simp
    simp (disch := omega) only [hmx, if_true, if_pos]
    simp
    simp (disch := omega) only [hmx, if_true, if_pos]
    simp
  all_goals
    first
      | exact aPost_same hB (v0 := .tup [.str (verT ++ ([49, 32] ++ (S ++ ([32] ++ (R ++ ([13, 10] ++ (L ++ [13, 10]))))))), .int .i64 0]) (by simp [verT]) (nilV_refl _) (by simp) (fin (_, 0) hA)
      | exact aPost_same hB (v0 := .tup [.str (verT ++ ([49, 32] ++ (S ++ ([32] ++ (r.reason ++ ([13, 10] ++ (L ++ [13, 10]))))))), .int .i64 0]) (by simp [verT]) (nilV_refl _) (by simp) (fin (_, 0) hA)
end
end Go.Proofs.YtcdkcaocfioigaaGreatDoor

set_option linter.unusedVariables false
set_option linter.unnecessarySimpa false
set_option linter.unusedSimpArgs false
set_option linter.unusedSectionVars false
set_option maxRecDepth 100000
namespace Go.Proofs.YtcdkcaocfioigaaGreatDoor
open Go Go.RowKit Go.Proofs

theorem lineS_nil (back : Bool) (i : Nat) : lineS back [] i = .part := by cases back <;> rfl
theorem lineS_back (b : UInt8) (r : List UInt8) (i : Nat) : lineS true (b :: r) i = if b = 10 then .ok (i + 1) else .bad i := by rw [lineS, if_pos rfl]
theorem lineS_go (b : UInt8) (r : List UInt8) (i : Nat) : lineS false (b :: r) i = if b = 10 then .bad i else lineS (decide (b = 13)) r (i + 1) := by rw [lineS, if_neg (by simp)]
section
variable (E : Env) (H : Hp) (Q : AV → Hp → Prop)
def lnInv (t : List UInt8) (a : Nat) (H : Hp) (fr : List AV) (H' : Hp) : Prop := H' = H ++ [[.int .i64 0, .int .i64 0]] ∧ ∃ i : Nat, a ≤ i ∧ i ≤ t.length ∧ lineS false (t.drop i) i = lineR t a ∧
  ∃ x : Nat → AV, fr = [.str t, .int .i64 a, x 2, x 3, x 4, x 5, .ptr (some (H.length, 0)), .int .i64 i, x 8, x 9, x 10, x 11, x 12, x 13, x 14, x 15, x 16, x 17, x 18, x 19, x 20, x 21, x 22, x 23, x 24, x 25, x 26, x 27, x 28, x 29, x 30, x 31, x 32, x 33, x 34, x 35, x 36, x 37, x 38, x 39, x 40, x 41, x 42, x 43, x 44, x 45, x 46, x 47, x 48, x 49, x 50, x 51, x 52, x 53, x 54]
theorem line_pc (t : List UInt8) (a : Nat) (ha : a ≤ t.length) (hl : t.length ≤ 1073741824) (hQ1 : ∀ i : Nat, a ≤ i → i + 2 ≤ t.length → lineR t a = .ok (i + 2) → Q (.tup [.str ((t.drop a).take (i - a)), .int .i64 ((i + 2 : Nat) : Int), .agg [.int .i64 0, .int .i64 0]]) H)
    (hQ2 : ∀ n : Nat, lineR t a = .bad n → Q (.tup [.str [], .int .i64 0, .agg [.int .i64 n, .int .i64 122]]) H) (hQ3 : lineR t a = .part → Q (.tup [.str [], .int .i64 0, .agg [.int .i64 t.length, .int .i64 124]]) H) :
    PC Tryz.prog E 111 [.str t, .int .i64 a] H Q := by
  refine pc_enter Tryz.func111 rfl [] [] (by kernel_rfl) (fun hB => ?_)
  simp [Tryz.ntmps111, Tryz.results111, List.replicate_succ]
  refine VL_go (lnInv t a H) (fun fr _ => t.length - (ai (aget fr 7)).toNat) ⟨rfl, a, by omega, ha, rfl, fr_intro (by simp)⟩ ?_
  rintro fr H' ⟨rfl, i, hai, hi, hS, x, rfl⟩
  by_cases h : i < t.length
  · obtain ⟨b, hb⟩ : ∃ b, t[i]? = some b := ⟨_, List.getElem?_eq_getElem h⟩
    have hat := lat_eq hb
    have hd := drop_at t i b hb
    have hw : IntKind.i64.wrap ((i : Int) + 1) = i + 1 := wrap_in (by omega) (by omega)
    rw [hd, lineS_go] at hS
    by_cases h10 : b = 10
    · subst h10
      rw [if_pos rfl] at hS
      simp [h, hat]
      exact aPost_same hB (v0 := .tup [.str [], .int .i64 0, .agg [.int .i64 i, .int .i64 122]]) (by simp) (nilV_refl _) (by simp) (hQ2 i hS.symm)
    have b10 : ((b.toNat : Int) == 10) = false := by
      rw [beq_eq_false_iff_ne]; intro e; exact h10 (UInt8.toNat_inj.1 (by have : (10 : UInt8).toNat = 10 := rfl; omega))
    rw [if_neg h10] at hS
    by_cases h13 : b = 13
    rotate_left
    · have b13 : ((b.toNat : Int) != 13) = true := by
        rw [bne_iff_ne]; intro e; exact h13 (UInt8.toNat_inj.1 (by have : (13 : UInt8).toNat = 13 := rfl; omega))
      rw [decide_eq_false h13] at hS
      simp [h, hat, b10, b13, hw]
      exact Kloop_normal ⟨rfl, i + 1, by omega, by omega, hS, fr_intro (by simp)⟩ (by simp; omega)
    subst h13
    simp only [decide_true] at hS
    by_cases hl2 : i + 1 = t.length
    · rw [List.drop_of_length_le (by omega), lineS_nil] at hS
      have e1 : ((i : Int) + 1 == t.length) = true := by rw [beq_iff_eq]; omega
      simp [h, hat, hw, e1]
      exact aPost_same hB (v0 := .tup [.str [], .int .i64 0, .agg [.int .i64 t.length, .int .i64 124]]) (by simp) (nilV_refl _) (by simp) (hQ3 hS.symm)
    · have hlt : i + 1 < t.length := by omega
      obtain ⟨c, hcc⟩ : ∃ c, t[i + 1]? = some c := ⟨_, List.getElem?_eq_getElem hlt⟩
      have hat2 := lat_eq hcc
      have e1 : ((i : Int) + 1 == t.length) = false := by rw [beq_eq_false_iff_ne]; omega
      have tn : ((i : Int) + 1).toNat = i + 1 := by omega
      rw [drop_at t (i + 1) c hcc, lineS_back] at hS
      have hlt2 : (i : Int) + 1 < t.length := by omega
      have hge2 : (0 : Int) ≤ (i : Int) + 1 := by omega
      by_cases hc10 : c = 10
      · subst hc10
        rw [if_pos rfl] at hS
        have hw2 : IntKind.i64.wrap ((i : Int) + 2) = i + 2 := wrap_in (by omega) (by omega)
        have hile : i ≤ t.length := by omega
        simp [h, hat, hw, e1, hat2, tn, hlt2, hge2, hw2, hai, hile]
        exact aPost_same hB (v0 := .tup [.str ((t.drop a).take (i - a)), .int .i64 ((i + 2 : Nat) : Int), .agg [.int .i64 0, .int .i64 0]]) (by simp) (nilV_refl _) (by simp) (hQ1 i hai (by omega) hS.symm)
      · rw [if_neg hc10] at hS
        have b10' : ((c.toNat : Int) != 10) = true := by
          rw [bne_iff_ne]; intro e; exact hc10 (UInt8.toNat_inj.1 (by have : (10 : UInt8).toNat = 10 := rfl; omega))
        simp [h, hat, hw, e1, hat2, tn, hlt2, hge2, b10']
        exact aPost_same hB (v0 := .tup [.str [], .int .i64 0, .agg [.int .i64 ((i + 1 : Nat) : Int), .int .i64 122]]) (by simp) (nilV_refl _) (by simp) (hQ2 (i + 1) hS.symm)
  · obtain rfl : i = t.length := by omega
    rw [List.drop_of_length_le (Nat.le_refl _), lineS_nil] at hS
    simp
    exact aPost_same hB (v0 := .tup [.str [], .int .i64 0, .agg [.int .i64 t.length, .int .i64 124]]) (by simp) (nilV_refl _) (by simp) (hQ3 hS.symm)
end
end Go.Proofs.YtcdkcaocfioigaaGreatDoor

set_option linter.unusedVariables false
set_option linter.unnecessarySimpa false
set_option linter.unusedSimpArgs false
set_option linter.unusedSectionVars false
set_option maxRecDepth 100000
namespace Go.Proofs.YtcdkcaocfioigaaGreatDoor
open Go Go.RowKit Go.Proofs

theorem preR_end (s : List UInt8) (n i : Nat) (h : s[i]? = none) : preR s (n + 1) i = .part := by rw [preR, h]
theorem preR_ok {s : List UInt8} {n i : Nat} {b : UInt8} (h : s[i]? = some b) (hb : stB i b = true) : preR s (n + 1) i = preR s n (i + 1) := by rw [preR, h]; simp [hb]
theorem preR_bad {s : List UInt8} {n i : Nat} {b : UInt8} (h : s[i]? = some b) (hb : stB i b = false) : preR s (n + 1) i = .bad i := by rw [preR, h]; simp [hb]
theorem stR_part {s : List UInt8} (h : preR s 13 0 = .part) : stR s = .part := by unfold stR; rw [h]
theorem stR_bad {s : List UInt8} {i : Nat} (h : preR s 13 0 = .bad i) : stR s = .bad i := by unfold stR; rw [h]
theorem stR_ok {s : List UInt8} {i : Nat} (h : preR s 13 0 = .ok i) : stR s = reasonR (s.drop 13) 0 13 := by unfold stR; rw [h]
theorem reasonR_nil (k i : Nat) : reasonR [] k i = .part := rfl
theorem reasonR_cr1 (k i : Nat) : reasonR [13] k i = .part := rfl
theorem reasonR_cr (c : UInt8) (r : List UInt8) (k i : Nat) : reasonR (13 :: c :: r) k i = if c = 10 then .ok (i + 2) else .bad (i + 1) := by rw [reasonR, if_pos rfl]
theorem reasonR_bad (b : UInt8) (r : List UInt8) (k i : Nat) (h : b ≠ 13) (h2 : 256 ≤ k ∨ fcB b = false) : reasonR (b :: r) k i = .bad i := by
  rw [reasonR.eq_def]
  simp only
  rw [if_neg h, if_pos h2]
theorem reasonR_go (b : UInt8) (r : List UInt8) (k i : Nat) (h : b ≠ 13) (h2 : ¬ (256 ≤ k ∨ fcB b = false)) : reasonR (b :: r) k i = reasonR r (k + 1) (i + 1) := by
  rw [reasonR.eq_def]
  simp only
  rw [if_neg h, if_neg h2]
end Go.Proofs.YtcdkcaocfioigaaGreatDoor

