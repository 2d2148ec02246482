/- Part 10 of the texts below the law: the abstract machine, the functions that it walks, what they compute. -/
import Derived.Test.YtnnhdehmlkkfjaaGreatDoorPb9
import Derived.Lib.DecodeN
import Derived.Shelf.Vars
set_option linter.unusedVariables false
set_option linter.unnecessarySimpa false
set_option linter.unusedSimpArgs false
set_option linter.unusedSectionVars false
set_option maxRecDepth 100000
namespace Go.Proofs.YtnnhdehmlkkfjaaGreatDoor
open Go Go.RowKit Go.Proofs
theorem chop_u8 (out : List UInt8) (tail : List AV) : chop 1 out.length (u8L out ++ tail) = bts out := by
 rw [chop_one _ _ (by simp), List.take_append_of_le_length (by simp), List.take_of_length_le (by simp)]
 unfold u8L bts
 rw [List.map_map]
 rfl
theorem piecesB_cons {b : List UInt8} (h : b ≠ []) (n : Int) (ns : List Int) : piecesB b (n :: ns) = b.take n.toNat :: piecesB (b.drop n.toNat) ns := by rw [piecesB, if_neg h]
theorem piecesB_last {b : List UInt8} (h : b ≠ []) : piecesB b [] = [b] := by rw [piecesB, if_neg h]
theorem chunksT_cons (p : List UInt8) (ps : List (List UInt8)) : chunksT (p :: ps) = chunkT p ++ chunksT ps := by simp [chunksT]
section
variable (E : Env) (H : Hp) (Q : AV → Hp → Prop)
def encInv1 (body : List UInt8) (ns : List Int) (ts : List Fld) (H : Hp) (fr : List AV) (H' : Hp) : Prop := H' = H ∧ ∃ i : Nat, i ≤ ns.length ∧ okSizes (ns.take i) = true ∧
 ∃ x : Nat → AV, fr = [.str body, .sl false 1 (ints ns), .sl false 2 (flds ts), x 3, x 4, x 5, x 6, x 7, x 8, x 9, x 10, x 11, x 12, x 13, x 14, x 15, x 16, x 17, .sl false 1 (ints ns), .int .i64 ns.length, .int .i64 i, x 21, x 22, x 23, x 24, x 25, x 26, x 27, x 28, x 29, x 30, x 31, x 32, x 33, x 34, x 35, x 36, x 37, x 38, x 39, x 40, x 41, x 42, x 43, x 44, x 45, x 46, x 47, x 48, x 49, x 50, x 51, x 52, x 53, x 54, x 55, x 56, x 57, x 58, x 59, x 60, x 61, x 62, x 63, x 64, x 65, x 66, x 67, x 68, x 69, x 70, x 71, x 72, x 73, x 74, x 75, x 76, x 77, x 78, x 79, x 80, x 81, x 82]
def encInv2 (body : List UInt8) (ns : List Int) (ts : List Fld) (H : Hp) (fr : List AV) (H' : Hp) : Prop := ∃ (J2 : Hp) (i : Nat), i ≤ ts.length ∧ H' = H ++ ([.bl TB, .bf TU (linesT (ts.take i))] :: J2) ∧ (∀ l ∈ J2, ∀ x ∈ l, ∃ s, x = .str s) ∧ (ts.take i).all rightB = true ∧
 ∃ x : Nat → AV, fr = [.str body, .sl false 1 (ints ns), x 2, x 3, x 4, x 5, x 6, x 7, x 8, x 9, .ptr (some (H.length, 0)), x 11, x 12, x 13, x 14, x 15, x 16, x 17, x 18, x 19, x 20, x 21, x 22, x 23, x 24, x 25, x 26, .sl false 2 (flds ts), .int .i64 ts.length, .int .i64 i, x 30, x 31, x 32, x 33, x 34, x 35, x 36, x 37, x 38, x 39, x 40, x 41, x 42, x 43, x 44, x 45, x 46, x 47, x 48, x 49, x 50, x 51, x 52, x 53, x 54, x 55, x 56, x 57, x 58, x 59, x 60, x 61, x 62, x 63, x 64, x 65, x 66, x 67, x 68, x 69, x 70, x 71, x 72, x 73, x 74, x 75, x 76, x 77, x 78, x 79, x 80, x 81, x 82]
def encInv3 (body : List UInt8) (ns : List Int) (H0 : Hp) (hn : Nat) (fr : List AV) (H' : Hp) : Prop := ∃ (i : Nat) (b out : List UInt8) (v : AV), i ≤ ns.length ∧ OutAt H0 v out H' ∧ out ++ chunksT (piecesB b (ns.drop i)) = chunksT (piecesB body ns) ∧ b.length ≤ body.length ∧
 ∃ x : Nat → AV, fr = [.str b, x 1, x 2, x 3, x 4, x 5, x 6, x 7, x 8, x 9, .ptr (some (hn, 0)), x 11, x 12, x 13, x 14, v, x 16, x 17, x 18, x 19, x 20, x 21, x 22, x 23, x 24, x 25, x 26, x 27, x 28, x 29, x 30, x 31, x 32, x 33, x 34, x 35, x 36, x 37, x 38, x 39, x 40, x 41, x 42, x 43, x 44, x 45, x 46, x 47, x 48, x 49, .sl false 1 (ints ns), .int .i64 ns.length, .int .i64 i, x 53, x 54, x 55, x 56, x 57, x 58, x 59, x 60, x 61, x 62, x 63, x 64, x 65, x 66, x 67, x 68, x 69, x 70, x 71, x 72, x 73, x 74, x 75, x 76, x 77, x 78, x 79, x 80, x 81, x 82]
theorem outAt_free {H0 : Hp} {v : AV} {out : List UInt8} {H : Hp} (h : OutAt H0 v out H) : v.free = true ∧ v.dis = v := by
 obtain ⟨J, _, _, ⟨rfl, _⟩ | ⟨J1, tail, _, rfl, _⟩⟩ := h <;> exact ⟨rfl, rfl⟩
set_option maxHeartbeats 4000000 in
theorem encode_pc (hE : SZ E) (body : List UInt8) (ns : List Int) (ts : List Fld) (hb : body.length ≤ 1048576) (hn : ns.length ≤ 1048577) (ht : fsz ts + ts.length ≤ 1048577) (hr : ∀ z ∈ ns, -9223372036854775808 ≤ z ∧ z ≤ 9223372036854775807)
  (hQ : Q (.tup [.str (encAns body ns ts).1, .int .i64 (encAns body ns ts).2]) H) : PC Tryz.prog E 55 [.str body, .sl false 1 (ints ns), .sl false 2 (flds ts)] H Q := by
 refine pc_enterZ Tryz.func55 rfl [] [(7, [3]), (27, [5, H.length])] (by kernel_rfl) (fun id m hm => ?_) (fun hB => ?_)
 ·unfold ndOf at hm
  split at hm
  ·cases hm
  ·unfold ndOf at hm
   split at hm
   ·cases hm; exact Nat.le_refl _
   ·cases hm
 simp [Tryz.ntmps55, Tryz.results55, List.replicate_succ]
 refine VL_go (encInv1 body ns ts H) (fun fr _ => ns.length - (ai (aget fr 20)).toNat) ⟨rfl, 0, by omega, rfl, fr_intro (by simp)⟩ ?_
 rintro fr H' ⟨rfl, i, hi, hall, x, rfl⟩
 by_cases h : i < ns.length
 ·obtain ⟨z, hz⟩ : ∃ z, ns[i]? = some z := ⟨_, List.getElem?_eq_getElem h⟩
  have hat := ints_at hz
  have hw : IntKind.i64.wrap ((i : Int) + 1) = i + 1 := wrap_in (by omega) (by omega)
  have hst : okSizes (ns.take (i + 1)) = (okSizes (ns.take i) && decide (1 ≤ z)) := by
   unfold okSizes
   rw [List.take_add_one, hz, List.all_append]; simp
  by_cases hz1 : z < 1
  ·have e : encAns body ns ts = ([], 1) := by
    unfold encAns
    rw [if_pos]
    unfold okSizes
    rw [List.all_eq_false]
    exact ⟨z, List.mem_of_getElem? hz, by simp; omega⟩
   rw [e] at hQ
   simp [h, hat, hz1]
   exact aPost_same0 hB rfl (nilV_refl _) (by simp) hQ
  ·simp [h, hat, hz1, hw]
   exact Kloop_normal ⟨rfl, i + 1, by omega, by rw [hst, hall]; simp; omega, fr_intro (by simp)⟩ (by simp; omega)
 obtain rfl : i = ns.length := by omega
 rw [List.take_of_length_le (Nat.le_refl _)] at hall
 have hns : ∀ z ∈ ns, 1 ≤ z := fun z hz => by have := List.all_eq_true.1 hall z hz; simpa using this
 clear hi h
 simp
 refine VL_go (encInv2 body ns ts H') (fun fr _ => ts.length - (ai (aget fr 29)).toNat) ⟨[], 0, by omega, by simp [linesT], by simp, by simp, fr_intro (by simp)⟩ ?_
 rintro fr H2 ⟨J2, i, hi, rfl, hJ2, hts, x, rfl⟩
 have hlin := linesT_le (ts.take i)
 have hsz := fsz_take ts i
 rw [List.length_take] at hlin
 by_cases h : i < ts.length
 ·obtain ⟨f, hf⟩ : ∃ f, ts[i]? = some f := ⟨_, List.getElem?_eq_getElem h⟩
  have hat := flds_at hf
  have hfm := fsz_mem hf
  have hw : IntKind.i64.wrap ((i : Int) + 1) = i + 1 := wrap_in (by omega) (by omega)
  have hstop : rightB f = false → encAns body ns ts = ([], 101) := fun hr => by
   unfold encAns
   rw [if_neg (by rw [hall]; simp), if_pos]
   rw [List.all_eq_false]
   exact ⟨f, List.mem_of_getElem? hf, by rw [hr]; simp⟩
  simp [h, hat]
  refine printLine_pc E _ _ hE.1 f (by omega) (by omega) ?_
  cases hnm : nameB f.name with
  | false =>
   have e : lineP f = ([], 60) := by unfold lineP; rw [if_pos hnm]
   have hq := hstop (by unfold rightB mayB; rw [hnm]; simp)
   rw [hq] at hQ
   simp [e]
   exact aPost_same hB rfl (nilV_refl _) (by simp) hQ
  | true =>
  cases hvl : valueB f.value with
  | false =>
   have e : lineP f = ([], 61) := by unfold lineP; rw [if_neg (by rw [hnm]; simp), if_pos hvl]
   have hq := hstop (by unfold rightB; rw [hvl]; simp)
   rw [hq] at hQ
   simp [e]
   exact aPost_same hB rfl (nilV_refl _) (by simp) hQ
  | true =>
  have e : lineP f = (lineT f, 0) := by unfold lineP; rw [if_neg (by rw [hnm]; simp), if_neg (by rw [hvl]; simp)]
  have hlt := lineT_le f
  simp [e]
  refine mayTrail_pc E _ _ hE.1 f.name (by simp only [cap]; omega) ?_
  cases hmy : mayB f.name with
  | false =>
   have hq := hstop (by unfold rightB; rw [hmy]; simp)
   rw [hq] at hQ
   simp
   exact aPost_same hB rfl (nilV_refl _) (by simp) hQ
  | true =>
  have hrt : rightB f = true := by unfold rightB; rw [hmy, hvl]; rfl
  have m1 : (lineT f).length + 1 + 1 ≤ maxLen := by unfold maxLen; omega
  have m2 : (lineT f).length + 2 ≤ maxLen := by unfold maxLen; omega
  simp [m1, m2]
  refine wstr_pc E _ _ H'.length (linesT (ts.take i)) (lineT f ++ [13, 10]) (by simp) (by simp; omega) ?_
  rw [← linesT_step ts i f hf]
  simp [hw]
  refine Kloop_normal ⟨J2 ++ [[.str f.name, .str f.value]], i + 1, by omega, by simp, fun l hl y hy => ?_, ?_, fr_intro (by simp)⟩ (by simp; omega)
  ·rcases List.mem_append.1 hl with h | h
   ·exact hJ2 l h y hy
   ·simp at h; subst h; simp at hy; rcases hy with rfl | rfl <;> exact ⟨_, rfl⟩
  ·rw [all_step rightB ts i f hf, hts, hrt]; rfl
 obtain rfl : i = ts.length := by omega
 rw [List.take_of_length_le (Nat.le_refl _)] at hts hlin ⊢
 have he : encAns body ns ts = (encT (piecesB body ns) ts, 0) := by
  unfold encAns
  rw [if_neg (by rw [hall]; simp), if_neg (by rw [hts]; simp)]
 rw [he] at hQ
 simp only at hQ
 clear hi h he hall hts
 obtain ⟨H0, hH0⟩ : ∃ H0, H' ++ ([.bl TB, .bf TU (linesT ts)] :: J2) = H0 := ⟨_, rfl⟩
 have hbl : ∀ J : Hp, (H0 ++ J)[H'.length]? = some [.bl TB, .bf TU (linesT ts)] := fun J => by rw [← hH0]; simp
 have hlH : H'.length < H0.length := by rw [← hH0]; simp
 have hBH : ∀ N, H0.length ≤ N → ∀ l ∈ H0, ∀ y ∈ l, Bnd N y := fun N hN l hl y hy => by
  rw [← hH0] at hl
  rcases List.mem_append.1 hl with h | h
  ·exact (hB l h y hy).mono (by omega)
  ·rcases List.mem_cons.1 h with rfl | h
   ·simp at hy; rcases hy with rfl | rfl
    ·exact .bl _
    ·exact .bf _ _
   ·obtain ⟨s, rfl⟩ := hJ2 l h y hy; exact .str _
 have hpf : (piecesB body ns).flatten = body := pieces_flat ns body
 have htot := chunksT_le (piecesB body ns) (pieces_ne ns body hns) (by rw [hpf]; omega)
 rw [hpf] at htot
 rw [hH0]
 simp
 refine VL_go (encInv3 body ns H0 H'.length) (fun fr _ => ns.length - (ai (aget fr 52)).toNat) ⟨0, body, [], .nil, by omega, ⟨[], by simp, by simp, .inl ⟨rfl, rfl⟩⟩, by simp, by omega, fr_intro (by simp)⟩ ?_
 rintro fr H3 ⟨i, b, out, v, hi, hO, hsum, hbl2, x, rfl⟩
 have hol : out.length ≤ 16 * body.length := by
  have := congrArg List.length hsum
  rw [List.length_append] at this
  omega
 obtain ⟨hvf, hvd⟩ := outAt_free hO
 by_cases h : i < ns.length
 ·obtain ⟨z, hz⟩ : ∃ z, ns[i]? = some z := ⟨_, List.getElem?_eq_getElem h⟩
  have hat := ints_at hz
  have hz1 := hns z (List.mem_of_getElem? hz)
  have hw : IntKind.i64.wrap ((i : Int) + 1) = i + 1 := wrap_in (by omega) (by omega)
  have hdrop : ns.drop i = z :: ns.drop (i + 1) := by rw [List.drop_eq_getElem_cons h]; simp [(List.getElem?_eq_some_iff.1 hz).2]
  rw [hdrop] at hsum
  by_cases hb0 : b = []
  ·subst hb0
   simp [h, hat, hw]
   exact Kloop_normal ⟨i + 1, [], out, v, by omega, hO, by rw [← hsum, pieces_nil, pieces_nil], by simp, fr_intro (by simp)⟩ (by simp; omega)
  ·have hb1 : (b != []) = true := by simpa using hb0
   obtain ⟨m, hm⟩ : ∃ m : Nat, (if (b.length : Int) < z then (b.length : Int) else z) = m := ⟨(if (b.length : Int) < z then (b.length : Int) else z).toNat, by split <;> omega⟩
   have hml : m ≤ b.length := by split at hm <;> omega
   have htk : b.take m = b.take z.toNat := by
    split at hm
    ·rw [List.take_of_length_le (by omega), List.take_of_length_le (by omega)]
    ·rw [show m = z.toNat by omega]
   have hdk : b.drop m = b.drop z.toNat := by
    split at hm
    ·rw [List.drop_of_length_le (by omega), List.drop_of_length_le (by omega)]
    ·rw [show m = z.toNat by omega]
   have hsum2 : (out ++ chunkT (b.take m)) ++ chunksT (piecesB (b.drop m) (ns.drop (i + 1))) = chunksT (piecesB body ns) := by
    rw [← hsum, htk, hdk, piecesB_cons hb0, chunksT_cons, List.append_assoc]
   simp [h, hat, hb1, hm, hml, hvd]
   refine put_pc E _ _ hE H0 v out (b.take m) hO (by rw [List.length_take]; omega) (by omega) (fun v' H4 hO' => ?_)
   obtain ⟨hvf', hvd'⟩ := outAt_free hO'
   have htl : (b.drop m).take (b.length - m) = b.drop m := List.take_of_length_le (by rw [List.length_drop]; omega)
   simp [hml, hvd', hw, htl]
   exact Kloop_normal ⟨i + 1, b.drop m, out ++ chunkT (b.take m), v', by omega, hO', hsum2, by rw [List.length_drop]; omega, fr_intro (by simp)⟩ (by simp; omega)
 obtain rfl : i = ns.length := by omega
 rw [List.drop_of_length_le (Nat.le_refl _)] at hsum
 simp
 have fin : ∀ (x : Nat → AV) (b : List UInt8) (v : AV) (H4 : Hp), OutAt H0 v (chunksT (piecesB body ns)) H4 → vc Tryz.prog E [] [(7, [3]), (27, [5, H'.length])] (Code.skip) (fun _ _ _ => True) [] [] := fun _ _ _ _ _ => trivial
 have hm1 : (chunksT (piecesB body ns)).length + 1 ≤ maxLen := by unfold maxLen; omega
 have hm2 : (chunksT (piecesB body ns)).length + 1 + 2 ≤ maxLen := by unfold maxLen; omega
 have hm3 : (chunksT (piecesB body ns)).length + 1 + 2 + (linesT ts).length ≤ maxLen := by unfold maxLen; omega
 have hm4 : (chunksT (piecesB body ns)).length + 1 + 2 + (linesT ts).length + 2 ≤ maxLen := by unfold maxLen; omega
 clear fin
 by_cases hb0 : b = []
 case' pos =>
  subst hb0
  rw [pieces_nil] at hsum
  have hO2 : OutAt H0 v (chunksT (piecesB body ns)) H3 := by
   have : out = chunksT (piecesB body ns) := by rw [← hsum]; simp [chunksT]
   rw [← this]; exact hO
  simp
  clear hO hsum hol hi hbl2
 case' neg =>
  have hb1 : (b != []) = true := by simpa using hb0
  simp [hb1, hvd]
  refine put_pc E _ _ hE H0 v out b hO (by omega) (by omega) (fun v' H4 hO' => ?_)
  obtain ⟨hvf', hvd'⟩ := outAt_free hO'
  have hO2 : OutAt H0 v' (chunksT (piecesB body ns)) H4 := by
   have : out ++ chunkT b = chunksT (piecesB body ns) := by rw [← hsum, piecesB_last hb0, chunksT_cons]; simp [chunksT]
   rw [← this]; exact hO'
  simp [hvd']
  clear hO hO' hsum hol hi hbl2 hvf hvd hb0 hb1 hvf' hvd'
 all_goals
  obtain ⟨J, rfl, hJ, ⟨rfl, hnil⟩ | ⟨J1, tail, rfl, rfl, htl⟩⟩ := hO2
  ·refine VFz_skip ?_
   rw [hnil] at hm1 hm2 hm3 hm4
   simp at hm1 hm2 hm3 hm4
   simp [hm1, hm2]
   refine bstr_pc E _ _ H'.length (linesT ts) (hbl J) (by omega) ?_
   have n1 : (linesT ts).length + 1 + 1 + 1 + 2 ≤ maxLen := by unfold maxLen; omega
   simp [hm3, hm4, n1]
   rw [← hH0, List.append_assoc]
   have e : encT (piecesB body ns) ts = 48 :: 13 :: 10 :: (linesT ts ++ [13, 10]) := by unfold encT; rw [hnil]; rfl
   rw [e] at hQ
   exact aPost_same hB (by simp) (nilV_refl _) (by simp) hQ
  ·refine VFz_intro [10, 15] (H0 ++ J1) (u8L (chunksT (piecesB body ns)) ++ tail) (by simp) (by simp; omega) ?_ ?_ ?_
   ·intro l' hl' y hy
    rcases List.mem_append.1 hl' with h | h
    ·exact hBH _ (by simp) l' h y hy
    ·obtain ⟨z, rfl⟩ := hJ l' (List.mem_append_left _ h) y hy; exact .int _ _
   ·intro t ht y hy
    simp at ht
    rcases ht with rfl | rfl
    ·simp at hy; subst hy; exact .ptr _ _ (by simp; omega)
    ·simp at hy; subst hy
     refine .inr ⟨by simp, by omega, by simp, fun y hy => ?_⟩
     obtain ⟨z, rfl⟩ := hJ (u8L (chunksT (piecesB body ns)) ++ tail) (by simp) y (List.mem_of_mem_drop (List.mem_of_mem_take hy))
     exact ⟨rfl, .int _ _⟩
   ·intro y
    simp [fmapK, frz, chop_u8, hm1, hm2]
    refine bstr_pc E _ _ H'.length (linesT ts) (hbl J1) (by omega) ?_
    have n1 : (chunksT (piecesB body ns)).length + ((linesT ts).length + 1 + 1 + 1) + 2 ≤ maxLen := by unfold maxLen; omega
    have n2 : (chunksT (piecesB body ns)).length + ((linesT ts).length + 1 + 1 + 1) ≤ maxLen := by unfold maxLen; omega
    simp [hm3, hm4, n1, n2]
    rw [← hH0, List.append_assoc]
    have e : encT (piecesB body ns) ts = chunksT (piecesB body ns) ++ 48 :: 13 :: 10 :: (linesT ts ++ [13, 10]) := by unfold encT; simp
    rw [e] at hQ
    exact aPost_same hB (by simp) (nilV_refl _) (by simp) hQ
end
end Go.Proofs.YtnnhdehmlkkfjaaGreatDoor
set_option maxRecDepth 100000
namespace Go.Proofs.YtnnhdehmlkkfjaaGreatDoor
open Go Go.RowKit Go.Proofs
section
variable (E : Env) (H : Hp) (Q : AV → Hp → Prop)
end
end Go.Proofs.YtnnhdehmlkkfjaaGreatDoor
set_option maxRecDepth 100000
namespace Go.Proofs.YtnnhdehmlkkfjaaGreatDoor
open Go Go.RowKit Go.Proofs Go.Deep
@[simp] theorem abin_sleql (P : Program) (t : TypeId) (o : Bool) (k : Nat) (r : List AV) (rs : List (List AV)) : abin P .eql t (.sl o k (r :: rs)) .nil = if (tsl P t).isSome then some (.bool false) else none := rfl
@[simp] theorem abin_slneq (P : Program) (t : TypeId) (o : Bool) (k : Nat) (r : List AV) (rs : List (List AV)) : abin P .neq t (.sl o k (r :: rs)) .nil = if (tsl P t).isSome then some (.bool true) else none := rfl
@[simp] theorem abin_bxeql (P : Program) (t : TypeId) (i o n c k : Nat) : abin P .eql t (.bx i o n c k) .nil = if (tsl P t).isSome then some (.bool false) else none := rfl
@[simp] theorem abin_bxneq (P : Program) (t : TypeId) (i o n c k : Nat) : abin P .neq t (.bx i o n c k) .nil = if (tsl P t).isSome then some (.bool true) else none := rfl
section
variable (E : Env) (H : Hp) (Q : AV → Hp → Prop)
variable (i : Nat) (d : Dec) (hd : H[i]? = some d.av)
include hd
end
section
variable (E : Env) (H : Hp) (Q : AV → Hp → Prop)
end
end Go.Proofs.YtnnhdehmlkkfjaaGreatDoor
set_option maxRecDepth 100000
namespace Go.Proofs.YtnnhdehmlkkfjaaGreatDoor
open Go Go.RowKit Go.Proofs
theorem printF_step {l : List Fld} (h : l.length ≤ 100) {i : Nat} {f : Fld} (hf : l[i]? = some f) (hall : ∀ g ∈ l.take i, (lineP g).2 = 0) (hne : (lineP f).2 ≠ 0) : printF l = ([], (lineP f).2) := by
 have hi := (List.getElem?_eq_some_iff.1 hf).1
 have e : l = l.take i ++ (f :: l.drop (i + 1)) := by rw [← (List.getElem?_eq_some_iff.1 hf).2, ← List.drop_eq_getElem_cons hi, List.take_append_drop]
 have hn : (l.take i).find? (fun f => decide ((lineP f).2 ≠ 0)) = none := List.find?_eq_none.2 fun g hg => by simp [hall g hg]
 unfold printF
 rw [if_neg (by omega)]
 have : l.find? (fun f => decide ((lineP f).2 ≠ 0)) = some f := by
  rw [e, List.find?_append, hn]
  simp [hne]
 rw [this]
theorem printF_all {l : List Fld} (h : l.length ≤ 100) (hall : ∀ g ∈ l, (lineP g).2 = 0) : printF l = (linesT l, 0) := by
 have hn : l.find? (fun f => decide ((lineP f).2 ≠ 0)) = none := List.find?_eq_none.2 fun g hg => by simp [hall g hg]
 unfold printF
 rw [if_neg (by omega), hn]
theorem lineP_ok {f : Fld} (h : (lineP f).2 = 0) : (lineP f).1 = lineT f := by
 unfold lineP at h ⊢
 split
 ·rename_i h1; rw [if_pos h1] at h; cases h
 ·rename_i h1
  rw [if_neg h1] at h
  split
  ·rename_i h2; rw [if_pos h2] at h; cases h
  ·rfl
section
variable (E : Env) (H : Hp) (Q : AV → Hp → Prop)
def fpInv (l : List Fld) (H : Hp) (fr : List AV) (H' : Hp) : Prop := ∃ (J2 : Hp) (i : Nat), i ≤ l.length ∧ H' = H ++ ([.bl TB, .bf TU (linesT (l.take i))] :: J2) ∧ (∀ g ∈ l.take i, (lineP g).2 = 0) ∧
 ∃ x : Nat → AV, fr = [x 0, x 1, x 2, x 3, .ptr (some (H.length, 0)), x 5, x 6, x 7, x 8, x 9, x 10, x 11, .sl false 2 (flds l), .int .i64 l.length, .int .i64 i, x 15, x 16, x 17, x 18, x 19, x 20, x 21, x 22, x 23, x 24, x 25, x 26, x 27, x 28, x 29, x 30]
theorem fprint_pc (hE : SE E) (l : List Fld) (hl : fsz l + l.length ≤ 16777216) (hQ : Q (.tup [.str (printF l).1, .int .i64 (printF l).2]) H) : PC Tryz.prog E 53 [.sl false 2 (flds l)] H Q := by
 have fin : ∀ a : List UInt8 × Int, printF l = a → Q (.tup [.str a.1, .int .i64 a.2]) H := fun a ha => ha ▸ hQ
 refine pc_enter Tryz.func53 rfl [] [(3, [3])] (by kernel_rfl) (fun hB => ?_)
 simp [Tryz.ntmps53, Tryz.results53, List.replicate_succ]
 by_cases h100 : 100 < l.length
 ·have h1 : (100 : Int) < l.length := by omega
  simp [h1]
  exact aPost_same0 hB (v0 := .tup [.str [], .int .i64 65]) (by simp) (nilV_refl _) (by simp) (fin ([], 65) (by unfold printF; rw [if_pos h100]))
 have h1 : ¬ (100 : Int) < l.length := by omega
 simp [h1]
 refine VL_go (fpInv l H) (fun fr _ => l.length - (ai (aget fr 14)).toNat) ⟨[], 0, by omega, by simp [linesT], by simp, fr_intro (by simp)⟩ ?_
 rintro fr H2 ⟨J2, i, hi, rfl, hall, x, rfl⟩
 have hlin := linesT_le (l.take i)
 have hsz := fsz_take l i
 rw [List.length_take] at hlin
 by_cases h : i < l.length
 ·obtain ⟨f, hf⟩ : ∃ f, l[i]? = some f := ⟨_, List.getElem?_eq_getElem h⟩
  have hat := flds_at hf
  have hfm := fsz_mem hf
  have hw : IntKind.i64.wrap ((i : Int) + 1) = i + 1 := wrap_in (by omega) (by omega)
  have hlt := lineT_le f
  simp [h, hat]
  refine printLine_pc E _ _ hE f (by omega) (by omega) ?_
  by_cases hz : (lineP f).2 = 0
  ·have hz1 := lineP_ok hz
   have m1 : (lineT f).length + 2 ≤ maxLen := by unfold maxLen; omega
   have m0 : (lineT f).length + 1 + 1 ≤ maxLen := by unfold maxLen; omega
   simp [hz, hz1, m1, m0]
   refine wstr_pc E _ _ H.length (linesT (l.take i)) (lineT f ++ [13, 10]) (by simp) (by simp; omega) ?_
   rw [← linesT_step l i f hf]
   simp [hw]
   refine Kloop_normal ⟨_, i + 1, by omega, rfl, fun g hg => ?_, fr_intro (by simp)⟩ (by simp; omega)
   rw [List.take_add_one, hf] at hg
   rcases List.mem_append.1 hg with hg | hg
   ·exact hall g hg
   ·simp at hg; subst hg; exact hz
  ·have hz2 : ((lineP f).2 != 0) = true := by simpa using hz
   simp [hz2]
   exact aPost_same hB (v0 := .tup [.str [], .int .i64 (lineP f).2]) (by simp) (nilV_refl _) (by simp) (fin ([], (lineP f).2) (printF_step (by omega) hf hall hz))
 ·obtain rfl : i = l.length := by omega
  rw [List.take_of_length_le (Nat.le_refl _)] at hall hlin ⊢
  simp
  refine bstr_pc E _ _ H.length (linesT l) (by simp) (by unfold maxLen; omega) ?_
  simp
  exact aPost_same hB (v0 := .tup [.str (linesT l), .int .i64 0]) (by simp) (nilV_refl _) (by simp) (fin (linesT l, 0) (printF_all (by omega) hall))
end
end Go.Proofs.YtnnhdehmlkkfjaaGreatDoor
set_option maxRecDepth 100000
namespace Go.Proofs.YtnnhdehmlkkfjaaGreatDoor
open Go Go.RowKit Go.Proofs
section
variable {r : Resp} {h : Mann}
end
section
variable (E : Env) (H : Hp) (Q : AV → Hp → Prop)
end
end Go.Proofs.YtnnhdehmlkkfjaaGreatDoor
set_option maxRecDepth 100000
namespace Go.Proofs.YtnnhdehmlkkfjaaGreatDoor
open Go Go.RowKit Go.Proofs
section
variable (E : Env) (H : Hp) (Q : AV → Hp → Prop)
end
end Go.Proofs.YtnnhdehmlkkfjaaGreatDoor
set_option maxRecDepth 100000
namespace Go.Proofs.YtnnhdehmlkkfjaaGreatDoor
open Go Go.RowKit Go.Proofs
section
variable (E : Env) (H : Hp) (Q : AV → Hp → Prop)
end
end Go.Proofs.YtnnhdehmlkkfjaaGreatDoor
set_option maxRecDepth 100000
namespace Go.Proofs.YtnnhdehmlkkfjaaGreatDoor
open Go Go.RowKit Go.Proofs
end Go.Proofs.YtnnhdehmlkkfjaaGreatDoor
set_option maxRecDepth 100000
namespace Go.Proofs.YtnnhdehmlkkfjaaGreatDoor
open Go Go.RowKit Go.Proofs
end Go.Proofs.YtnnhdehmlkkfjaaGreatDoor
set_option maxRecDepth 100000
namespace Go.Proofs.YtnnhdehmlkkfjaaGreatDoor
open Go Go.RowKit Go.Proofs
structure RM where
 bytes : List UInt8
 err : Int
 over : Bool
 ended : Bool
 most : Int
 asked : List (List UInt8)
 done : List Rep
def RM.put (r : RM) (u : List UInt8) : RM := { r with bytes := r.bytes ++ u }
end Go.Proofs.YtnnhdehmlkkfjaaGreatDoor
set_option maxRecDepth 100000
namespace Go.Proofs.YtnnhdehmlkkfjaaGreatDoor
open Go Go.RowKit Go.Lib
def dgB (k : Nat) : UInt8 := UInt8.ofNat (48 + k)
theorem dec_small {u : Nat} (h : u < 10) : decDigits u = [dgB u] := by rw [decDigits, dif_pos h]; rfl
theorem dec_big {u : Nat} (h : ¬ u < 10) : decDigits u = decDigits (u / 10) ++ [dgB (u % 10)] := by rw [decDigits, dif_neg h]; rfl
def decD (u : Nat) : List UInt8 := if u = 0 then [] else decDigits u
theorem decD_step (u : Nat) (h : u ≠ 0) : decD u = decD (u / 10) ++ [dgB (u % 10)] := by
 unfold decD
 rw [if_neg h]
 by_cases h10 : u < 10
 ·rw [dec_small h10, if_pos (by omega), Nat.mod_eq_of_lt h10]; rfl
 ·rw [dec_big h10, if_neg (by omega)]
theorem u8_add48 : ∀ k : Nat, k < 10 → IntKind.u8.wrap (48 + (k : Int)) = 48 + k := by decide
end Go.Proofs.YtnnhdehmlkkfjaaGreatDoor
set_option maxRecDepth 100000
namespace Go.Proofs.YtnnhdehmlkkfjaaGreatDoor
open Go Go.RowKit Go.Proofs Go.Lib
def d3 (n : Int) : List UInt8 := [dgB (n.toNat / 100), dgB (n.toNat / 10 % 10), dgB (n.toNat % 10)]
end Go.Proofs.YtnnhdehmlkkfjaaGreatDoor
set_option maxRecDepth 100000
namespace Go.Proofs.YtnnhdehmlkkfjaaGreatDoor
open Go Go.RowKit Go.Proofs
@[simp] theorem ints_length' (l : List Int) : (ints l).length = l.length := by simp [ints]
section
variable (E : Env) (H : Hp) (Q : AV → Hp → Prop)
def dvalInv (l : List UInt8) (H : Hp) (fr : List AV) (H' : Hp) : Prop := H' = H ∧ ∃ i : Nat, i ≤ l.length ∧ fldB (l.take i) = true ∧ ∃ x : Nat → AV, fr = [.str l, x 1, x 2, .int .i64 i, x 4, x 5, x 6, x 7, x 8, x 9, x 10, x 11, x 12, x 13, x 14, x 15, x 16, x 17, x 18, x 19, x 20, x 21, x 22, x 23]
theorem dvalue_pc (l : List UInt8) (hl : l.length ≤ cap) (hQ : Q (.bool (valueB l)) H) : PC Tryz.prog E 114 [.str l] H Q := by
 have hc := hl
 simp only [cap] at hl
 refine pc_enter Tryz.func114 rfl [] [] (by kernel_rfl) (fun hB => ?_)
 have fin : ∀ c : Bool, valueB l = c → Q (.bool c) H := fun c hc => hc ▸ hQ
 simp [Tryz.ntmps114, Tryz.results114, List.replicate_succ]
 refine VL_go (dvalInv l H) (fun fr _ => l.length - (ai (aget fr 3)).toNat) ⟨rfl, 0, by omega, rfl, fr_intro (by simp)⟩ ?_
 rintro fr H' ⟨rfl, i, hi, hall, x, rfl⟩
 by_cases h : i < l.length
 ·obtain ⟨b, hb⟩ : ∃ b, l[i]? = some b := ⟨_, List.getElem?_eq_getElem h⟩
  have hat := lat_eq hb
  have hw : IntKind.i64.wrap ((i : Int) + 1) = i + 1 := wrap_in (by omega) (by omega)
  simp [h, hat]
  refine inside_pc E _ _ b ?_
  cases hf : fcB b
  ·simp [hf]
   exact aPost_same0 hB rfl (nilV_refl _) (by simp) (fin _ (by unfold valueB fldB; rw [all_bad fcB l i b hb hf]; simp))
  ·simp [hf, hw]
   refine Kloop_normal ⟨rfl, i + 1, by omega, ?_, fr_intro (by simp)⟩ (by simp; omega)
   unfold fldB at hall ⊢
   rw [all_take fcB l i b hb, hall, hf]; rfl
 ·have : l.take i = l := List.take_of_length_le (by omega)
  rw [this] at hall
  by_cases h8 : l.length ≤ 8192
  ·have h8' : (l.length : Int) ≤ 8192 := by omega
   simp [h, h8']
   refine ref_trim_pc E _ _ l hc ?_
   simp
   exact aPost_same0 hB rfl (nilV_refl _) (by simp) (fin _ (by unfold valueB; rw [hall, Bool.eq_iff_iff]; simp [h8]))
  ·have h8' : ¬ (l.length : Int) ≤ 8192 := by omega
   simp [h, h8']
   exact aPost_same0 hB rfl (nilV_refl _) (by simp) (fin _ (by simp [valueB, h8]))
theorem dright_pc (f : Fld) (h1 : f.name.length ≤ cap) (h2 : f.value.length ≤ cap) (hQ : Q (.bool (rightB f)) H) : PC Tryz.prog E 84 [.agg [.str f.name, .str f.value]] H Q := by
 refine pc_enter Tryz.func84 rfl [] [] (by kernel_rfl) (fun hB => ?_)
 have fin : ∀ c : Bool, rightB f = c → Q (.bool c) H := fun c hc => hc ▸ hQ
 simp [Tryz.ntmps84, Tryz.results84, List.replicate_succ]
 refine ref_may_pc E _ _ f.name h1 ?_
 cases hm : mayB f.name
 ·simp
  exact aPost_same hB rfl (nilV_refl _) (by simp) (fin _ (by unfold rightB; rw [hm]; rfl))
 ·simp
  refine dvalue_pc E _ _ f.value h2 ?_
  simp
  exact aPost_same hB rfl (nilV_refl _) (by simp) (fin _ (by unfold rightB; rw [hm]; simp))
end
end Go.Proofs.YtnnhdehmlkkfjaaGreatDoor
set_option maxRecDepth 100000
namespace Go.Proofs.YtnnhdehmlkkfjaaGreatDoor
open Go Go.RowKit Go.Proofs Go.Lib
section
variable {r : Resp} {h : Mann}
end
end Go.Proofs.YtnnhdehmlkkfjaaGreatDoor
set_option maxRecDepth 100000
namespace Go.Proofs.YtnnhdehmlkkfjaaGreatDoor
open Go Go.RowKit Go.Proofs Go.Lib
section
variable (E : Env) (H : Hp) (Q : AV → Hp → Prop)
end
end Go.Proofs.YtnnhdehmlkkfjaaGreatDoor
set_option maxRecDepth 100000
namespace Go.Proofs.YtnnhdehmlkkfjaaGreatDoor
open Go Go.RowKit Go.Proofs Go.Deep
theorem flds_of_rows : ∀ (rows : List (List AV)), (∀ r ∈ rows, r.length = 2 ∧ ∀ (j : Nat) k y, [CK.str, .str][j]? = some k → r[j]? = some y → KindOf k y) → ∃ ls, rows = flds ls ∧ fsz ls ≤ wtA rows.flatten
 | [], _ => ⟨[], rfl, by simp [fsz]⟩
 | r :: rows, h => by
  obtain ⟨ls, rfl, hw⟩ := flds_of_rows rows (fun q hq => h q (List.mem_cons_of_mem _ hq))
  obtain ⟨h1, h2⟩ := h r (List.mem_cons_self ..)
  match r, h1 with
  | [a, b], _ =>
   obtain ⟨x, rfl⟩ := kind_str (h2 0 _ _ rfl rfl)
   obtain ⟨y, rfl⟩ := kind_str (h2 1 _ _ rfl rfl)
   refine ⟨⟨x, y⟩ :: ls, rfl, ?_⟩
   rw [List.flatten_cons, wtA_app]
   simp [fsz, wtA] at hw ⊢
   omega
end Go.Proofs.YtnnhdehmlkkfjaaGreatDoor
set_option maxRecDepth 100000
namespace Go.Proofs.YtnnhdehmlkkfjaaGreatDoor
open Go Go.RowKit Go.Proofs
theorem chunksT_app (a b : List (List UInt8)) : chunksT (a ++ b) = chunksT a ++ chunksT b := by simp [chunksT]
def full (l : List (List UInt8)) : List (List UInt8) := l.filter fun p => p != []
theorem full_app (a b : List (List UInt8)) : full (a ++ b) = full a ++ full b := by simp [full]
theorem full_take (l : List (List UInt8)) (j : Nat) : (chunksT (full (l.take j))).length ≤ (chunksT (full l)).length := by
 have h : full l = full (l.take j) ++ full (l.drop j) := by rw [← full_app, List.take_append_drop]
 rw [h, chunksT_app, List.length_append]; omega
theorem strRows_snoc (l : List (List UInt8)) (s : List UInt8) : strRows l ++ [[.str s]] = strRows (l ++ [s]) := by simp [strRows]
@[simp] theorem strRows_length (l : List (List UInt8)) : (strRows l).length = l.length := by simp [strRows]
theorem flat_len_mem {l : List (List UInt8)} {j : Nat} {s : List UInt8} (h : l[j]? = some s) : s.length ≤ l.flatten.length := by
 have := List.mem_of_getElem? h
 induction l generalizing j with
 | nil => cases this
 | cons a l ih =>
  cases j with
  | zero => simp at h; subst h; simp
  | succ j =>
   have h' : l[j]? = some s := by simpa using h
   have := ih h' (List.mem_of_getElem? h')
   simp only [List.flatten_cons, List.length_append]; omega
section
variable (E : Env) (H : Hp) (Q : AV → Hp → Prop)
theorem dprintLine_pc (f : Fld) (h1 : f.name.length ≤ 16777216) (h2 : f.value.length ≤ 16777216) (hQ : Q (.tup [.str (lineP f).1, .int .i64 (lineP f).2]) H) : PC Tryz.prog E 81 [.agg [.str f.name, .str f.value]] H Q := by
 refine pc_enter Tryz.func81 rfl [] [] (by kernel_rfl) (fun hB => ?_)
 have m1 : f.name.length + 1 ≤ maxLen := by unfold maxLen; omega
 have m2 : f.name.length + 2 ≤ maxLen := by unfold maxLen; omega
 have m3 : f.name.length + 2 + f.value.length ≤ maxLen := by unfold maxLen; omega
 have m4 : f.name.length + 1 + 1 ≤ maxLen := by unfold maxLen; omega
 have m5 : f.name.length + 1 + 1 + f.value.length ≤ maxLen := by unfold maxLen; omega
 simp [Tryz.ntmps81, Tryz.results81, List.replicate_succ]
 refine ref_name_pc E _ _ f.name (by simp only [cap]; omega) ?_
 cases hn : nameB f.name with
 | false =>
  have e : lineP f = ([], 60) := by unfold lineP; rw [if_pos hn]
  rw [e] at hQ
  simp
  exact aPost_same hB rfl (nilV_refl _) (by simp) hQ
 | true =>
  simp
  refine dvalue_pc E _ _ f.value (by simp only [cap]; omega) ?_
  cases hv : valueB f.value with
  | false =>
   have e : lineP f = ([], 61) := by unfold lineP; rw [if_neg (by rw [hn]; simp), if_pos hv]
   rw [e] at hQ
   simp
   exact aPost_same hB rfl (nilV_refl _) (by simp) hQ
  | true =>
   have e : lineP f = (lineT f, 0) := by unfold lineP; rw [if_neg (by rw [hn]; simp), if_neg (by rw [hv]; simp)]
   rw [e] at hQ
   by_cases he : f.value = []
   ·have e2 : lineT f = f.name ++ [58] := by unfold lineT; rw [if_pos he]
    rw [e2] at hQ
    have he' : (f.value == []) = true := by simpa using he
    simp [he', m1]
    exact aPost_same hB rfl (nilV_refl _) (by simp) hQ
   ·have e2 : lineT f = f.name ++ (58 :: 32 :: f.value) := by unfold lineT; rw [if_neg he]
    rw [e2] at hQ
    have he' : (f.value == []) = false := by simpa using he
    simp [he', m2, m3, m4, m5]
    exact aPost_same hB rfl (nilV_refl _) (by simp) hQ
def deInv1 (body : List UInt8) (ns : List Int) (ts : List Fld) (H : Hp) (fr : List AV) (H' : Hp) : Prop := H' = H ∧ ∃ i : Nat, i ≤ ns.length ∧ okSizes (ns.take i) = true ∧
 ∃ x : Nat → AV, fr = [.str body, .sl false 1 (ints ns), .sl false 2 (flds ts), x 3, x 4, x 5, x 6, x 7, x 8, x 9, x 10, x 11, x 12, x 13, x 14, x 15, x 16, x 17, x 18, x 19, x 20, x 21, .sl false 1 (ints ns), .int .i64 ns.length, .int .i64 i, x 25, x 26, x 27, x 28, x 29, x 30, x 31, x 32, x 33, x 34, x 35, x 36, x 37, x 38, x 39, x 40, x 41, x 42, x 43, x 44, x 45, x 46, x 47, x 48, x 49, x 50, x 51, x 52, x 53, x 54, x 55, x 56, x 57, x 58, x 59, x 60, x 61, x 62, x 63, x 64, x 65, x 66, x 67, x 68, x 69, x 70, x 71, x 72, x 73, x 74, x 75, x 76, x 77, x 78, x 79, x 80, x 81, x 82, x 83, x 84, x 85, x 86, x 87, x 88, x 89, x 90, x 91, x 92, x 93, x 94, x 95, x 96, x 97, x 98, x 99, x 100, x 101, x 102, x 103]
def deInv2 (body : List UInt8) (ns : List Int) (ts : List Fld) (H : Hp) (fr : List AV) (H' : Hp) : Prop := ∃ (J : Hp) (i : Nat), H' = H ++ J ∧ i ≤ ts.length ∧ (ts.take i).all rightB = true ∧
 ∃ x : Nat → AV, fr = [.str body, .sl false 1 (ints ns), .sl false 2 (flds ts), x 3, x 4, x 5, x 6, x 7, x 8, x 9, x 10, x 11, x 12, x 13, x 14, x 15, x 16, x 17, x 18, x 19, x 20, x 21, x 22, x 23, x 24, x 25, x 26, x 27, x 28, x 29, x 30, .sl false 2 (flds ts), .int .i64 ts.length, .int .i64 i, x 34, x 35, x 36, x 37, x 38, x 39, x 40, x 41, x 42, x 43, x 44, x 45, x 46, x 47, x 48, x 49, x 50, x 51, x 52, x 53, x 54, x 55, x 56, x 57, x 58, x 59, x 60, x 61, x 62, x 63, x 64, x 65, x 66, x 67, x 68, x 69, x 70, x 71, x 72, x 73, x 74, x 75, x 76, x 77, x 78, x 79, x 80, x 81, x 82, x 83, x 84, x 85, x 86, x 87, x 88, x 89, x 90, x 91, x 92, x 93, x 94, x 95, x 96, x 97, x 98, x 99, x 100, x 101, x 102, x 103]
def deInv3 (body : List UInt8) (ns : List Int) (ts : List Fld) (H : Hp) (fr : List AV) (H' : Hp) : Prop := ∃ (J : Hp) (i : Nat) (b : List UInt8) (pcs : List (List UInt8)), H' = H ++ J ∧ i ≤ ns.length ∧ pcs.length = i ∧ full pcs ++ piecesB b (ns.drop i) = piecesB body ns ∧ b.length ≤ body.length ∧
 ∃ x : Nat → AV, fr = [.str b, x 1, .sl false 2 (flds ts), x 3, x 4, x 5, x 6, x 7, x 8, x 9, x 10, x 11, .sl true 1 (strRows pcs), x 13, x 14, x 15, x 16, x 17, x 18, x 19, x 20, x 21, x 22, x 23, x 24, x 25, x 26, x 27, x 28, x 29, x 30, x 31, x 32, x 33, x 34, x 35, x 36, x 37, x 38, x 39, x 40, .sl false 1 (ints ns), .int .i64 ns.length, .int .i64 i, x 44, x 45, x 46, x 47, x 48, x 49, x 50, x 51, x 52, x 53, x 54, x 55, x 56, x 57, x 58, x 59, x 60, x 61, x 62, x 63, x 64, x 65, x 66, x 67, x 68, x 69, x 70, x 71, x 72, x 73, x 74, x 75, x 76, x 77, x 78, x 79, x 80, x 81, x 82, x 83, x 84, x 85, x 86, x 87, x 88, x 89, x 90, x 91, x 92, x 93, x 94, x 95, x 96, x 97, x 98, x 99, x 100, x 101, x 102, x 103]
def deInv4 (all : List (List UInt8)) (ts : List Fld) (H : Hp) (fr : List AV) (H' : Hp) : Prop := ∃ (J : Hp) (i : Nat), H' = H ++ J ∧ i ≤ all.length ∧
 ∃ x : Nat → AV, fr = [x 0, x 1, .sl false 2 (flds ts), x 3, x 4, x 5, x 6, x 7, x 8, x 9, x 10, x 11, x 12, x 13, x 14, .str (chunksT (full (all.take i))), x 16, x 17, x 18, x 19, x 20, x 21, x 22, x 23, x 24, x 25, x 26, x 27, x 28, x 29, x 30, x 31, x 32, x 33, x 34, x 35, x 36, x 37, x 38, x 39, x 40, x 41, x 42, x 43, x 44, x 45, x 46, x 47, x 48, x 49, x 50, x 51, x 52, x 53, x 54, x 55, x 56, x 57, x 58, x 59, x 60, x 61, x 62, x 63, x 64, x 65, .sl true 1 (strRows all), .int .i64 all.length, .int .i64 i, x 69, x 70, x 71, x 72, x 73, x 74, x 75, x 76, x 77, x 78, x 79, x 80, x 81, x 82, x 83, x 84, x 85, x 86, x 87, x 88, x 89, x 90, x 91, x 92, x 93, x 94, x 95, x 96, x 97, x 98, x 99, x 100, x 101, x 102, x 103]
def deInv5 (out : List UInt8) (ts : List Fld) (H : Hp) (fr : List AV) (H' : Hp) : Prop := ∃ (J : Hp) (i : Nat), H' = H ++ J ∧ i ≤ ts.length ∧
 ∃ x : Nat → AV, fr = [x 0, x 1, x 2, x 3, x 4, x 5, x 6, x 7, x 8, x 9, x 10, x 11, x 12, x 13, x 14, .str (out ++ linesT (ts.take i)), x 16, x 17, x 18, x 19, x 20, x 21, x 22, x 23, x 24, x 25, x 26, x 27, x 28, x 29, x 30, x 31, x 32, x 33, x 34, x 35, x 36, x 37, x 38, x 39, x 40, x 41, x 42, x 43, x 44, x 45, x 46, x 47, x 48, x 49, x 50, x 51, x 52, x 53, x 54, x 55, x 56, x 57, x 58, x 59, x 60, x 61, x 62, x 63, x 64, x 65, x 66, x 67, x 68, x 69, x 70, x 71, x 72, x 73, x 74, x 75, x 76, x 77, x 78, x 79, x 80, x 81, x 82, x 83, x 84, x 85, .sl false 2 (flds ts), .int .i64 ts.length, .int .i64 i, x 89, x 90, x 91, x 92, x 93, x 94, x 95, x 96, x 97, x 98, x 99, x 100, x 101, x 102, x 103]
set_option maxHeartbeats 4000000 in
theorem dencode_pc (body : List UInt8) (ns : List Int) (ts : List Fld) (hb : body.length ≤ 1048576) (hn : ns.length ≤ 1048577) (ht : fsz ts + ts.length ≤ 1048577) (hr : ∀ z ∈ ns, -9223372036854775808 ≤ z ∧ z ≤ 9223372036854775807)
  (hQ : Q (.tup [.str (encAns body ns ts).1, .int .i64 (encAns body ns ts).2]) H) : PC Tryz.prog E 59 [.str body, .sl false 1 (ints ns), .sl false 2 (flds ts)] H Q := by
 refine pc_enter Tryz.func59 rfl [53, 63] [] (by kernel_rfl) (fun hB => ?_)
 simp [Tryz.ntmps59, Tryz.results59, List.replicate_succ]
 refine VL_go (deInv1 body ns ts H) (fun fr _ => ns.length - (ai (aget fr 24)).toNat) ⟨rfl, 0, by omega, rfl, fr_intro (by simp)⟩ ?_
 rintro fr H' ⟨rfl, i, hi, hall, x, rfl⟩
 by_cases h : i < ns.length
 ·obtain ⟨z, hz⟩ : ∃ z, ns[i]? = some z := ⟨_, List.getElem?_eq_getElem h⟩
  have hat := ints_at hz
  have hw : IntKind.i64.wrap ((i : Int) + 1) = i + 1 := wrap_in (by omega) (by omega)
  have hst : okSizes (ns.take (i + 1)) = (okSizes (ns.take i) && decide (1 ≤ z)) := by
   unfold okSizes
   rw [List.take_add_one, hz, List.all_append]; simp
  by_cases hz1 : z < 1
  ·have e : encAns body ns ts = ([], 1) := by
    unfold encAns
    rw [if_pos]
    unfold okSizes
    rw [List.all_eq_false]
    exact ⟨z, List.mem_of_getElem? hz, by simp; omega⟩
   rw [e] at hQ
   simp [h, hat, hz1]
   exact aPost_same0 hB rfl (nilV_refl _) (by simp) hQ
  ·simp [h, hat, hz1, hw]
   exact Kloop_normal ⟨rfl, i + 1, by omega, by rw [hst, hall]; simp; omega, fr_intro (by simp)⟩ (by simp; omega)
 obtain rfl : i = ns.length := by omega
 rw [List.take_of_length_le (Nat.le_refl _)] at hall
 have hns : ∀ z ∈ ns, 1 ≤ z := fun z hz => by have := List.all_eq_true.1 hall z hz; simpa using this
 clear hi h
 simp
 refine VL_go (deInv2 body ns ts H') (fun fr _ => ts.length - (ai (aget fr 33)).toNat) ⟨[], 0, by simp, by omega, by simp, fr_intro (by simp)⟩ ?_
 rintro fr H2 ⟨J, i, rfl, hi, hts, x, rfl⟩
 by_cases h : i < ts.length
 ·obtain ⟨f, hf⟩ : ∃ f, ts[i]? = some f := ⟨_, List.getElem?_eq_getElem h⟩
  have hat := flds_at hf
  have hfm := fsz_mem hf
  have hw : IntKind.i64.wrap ((i : Int) + 1) = i + 1 := wrap_in (by omega) (by omega)
  simp [h, hat]
  refine dright_pc E _ _ f (by simp only [cap]; omega) (by simp only [cap]; omega) ?_
  cases hrt : rightB f
  ·have hq : encAns body ns ts = ([], 101) := by
    unfold encAns
    rw [if_neg (by rw [hall]; simp), if_pos]
    rw [List.all_eq_false]
    exact ⟨f, List.mem_of_getElem? hf, by rw [hrt]; simp⟩
   rw [hq] at hQ
   simp
   exact aPost_same hB rfl (nilV_refl _) (by simp) hQ
  ·simp [hw]
   exact Kloop_normal ⟨_, i + 1, rfl, by omega, by rw [all_step rightB ts i f hf, hts, hrt]; rfl, fr_intro (by simp)⟩ (by simp; omega)
 obtain rfl : i = ts.length := by omega
 rw [List.take_of_length_le (Nat.le_refl _)] at hts
 have he : encAns body ns ts = (encT (piecesB body ns) ts, 0) := by
  unfold encAns
  rw [if_neg (by rw [hall]; simp), if_neg (by rw [hts]; simp)]
 rw [he] at hQ
 simp only at hQ
 clear hi h he hall
 have hpf : (piecesB body ns).flatten = body := pieces_flat ns body
 have htot := chunksT_le (piecesB body ns) (pieces_ne ns body hns) (by rw [hpf]; omega)
 rw [hpf] at htot
 simp
 refine VL_nil 12 1 (by rfl) ?_
 simp only [List.set_cons_succ, List.set_cons_zero]
 refine VL_go (deInv3 body ns ts H') (fun fr _ => ns.length - (ai (aget fr 43)).toNat) ⟨J, 0, body, [], rfl, by omega, rfl, by simp [full], by omega, fr_intro (by simp [strRows])⟩ ?_
 clear J x
 rintro fr H3 ⟨J, i, b, pcs, rfl, hi, hpl, hsum, hbl, x, rfl⟩
 have m1 : pcs.length + 1 ≤ maxLen := by unfold maxLen; omega
 have m2 : (pcs.length + 1) * 16 ≤ 140737488355328 := by omega
 by_cases h : i < ns.length
 ·obtain ⟨z, hz⟩ : ∃ z, ns[i]? = some z := ⟨_, List.getElem?_eq_getElem h⟩
  have hat := ints_at hz
  have hz1 := hns z (List.mem_of_getElem? hz)
  have hw : IntKind.i64.wrap ((i : Int) + 1) = i + 1 := wrap_in (by omega) (by omega)
  have hdrop : ns.drop i = z :: ns.drop (i + 1) := by rw [List.drop_eq_getElem_cons h]; simp [(List.getElem?_eq_some_iff.1 hz).2]
  rw [hdrop] at hsum
  obtain ⟨m, hm⟩ : ∃ m : Nat, (if (b.length : Int) < z then (b.length : Int) else z) = m := ⟨(if (b.length : Int) < z then (b.length : Int) else z).toNat, by split <;> omega⟩
  have hml : m ≤ b.length := by split at hm <;> omega
  have htk : b.take m = b.take z.toNat := by
   split at hm
   ·rw [List.take_of_length_le (by omega), List.take_of_length_le (by omega)]
   ·rw [show m = z.toNat by omega]
  have hdk : b.drop m = b.drop z.toNat := by
   split at hm
   ·rw [List.drop_of_length_le (by omega), List.drop_of_length_le (by omega)]
   ·rw [show m = z.toNat by omega]
  have hsum2 : full (pcs ++ [b.take m]) ++ piecesB (b.drop m) (ns.drop (i + 1)) = piecesB body ns := by
   rw [← hsum, full_app, htk, hdk]
   by_cases hb0 : b = []
   ·subst hb0; simp [full, pieces_nil]
   ·have hne : b.take z.toNat ≠ [] := fun e => by
     have := congrArg List.length e
     rw [List.length_take] at this
     have h0 : b.length ≠ 0 := fun e => hb0 (List.length_eq_zero_iff.1 e)
     have h3 : ([] : List UInt8).length = 0 := rfl
     omega
    rw [piecesB_cons hb0]
    simp [full, hne]
  have hsn := strRows_snoc pcs (b.take m)
  have htl : (b.drop m).take (b.length - m) = b.drop m := List.take_of_length_le (by rw [List.length_drop]; omega)
  by_cases hlz : (b.length : Int) < z
  ·have hm' : m = b.length := by rw [if_pos hlz] at hm; omega
   subst hm'
   simp at hsn
   simp [h, hat, hlz, m1, m2, hsn, hw]
   exact Kloop_normal ⟨J, i + 1, [], pcs ++ [b], rfl, by omega, by simp [hpl], by simpa using hsum2, by simp, fr_intro (by simp)⟩ (by simp; omega)
  ·have hzm : z = m := by rw [if_neg hlz] at hm; exact hm
   subst hzm
   have hlz' : m ≤ b.length := hml
   simp [h, hat, hlz, hlz', m1, m2, hsn, hw, htl]
   exact Kloop_normal ⟨J, i + 1, b.drop m, pcs ++ [b.take m], rfl, by omega, by simp [hpl], hsum2, by rw [List.length_drop]; omega, fr_intro (by simp)⟩ (by simp; omega)
 obtain rfl : i = ns.length := by omega
 rw [List.drop_of_length_le (Nat.le_refl _)] at hsum
 have hall : full (pcs ++ [b]) = piecesB body ns := by
  rw [← hsum, full_app]
  by_cases hb0 : b = []
  ·subst hb0; simp [full, pieces_nil]
  ·rw [piecesB_last hb0]; simp [full, hb0]
 have hsn := strRows_snoc pcs b
 have hflat : (full (pcs ++ [b])).flatten = (pcs ++ [b]).flatten := by
  generalize pcs ++ [b] = l
  induction l with
  | nil => rfl
  | cons a l ih =>
   unfold full at ih ⊢
   rw [List.filter_cons]
   split
   ·simp [ih]
   ·rename_i hh
    have : a = [] := by simpa using hh
    subst this
    simpa using ih
 obtain ⟨all, hallE⟩ : ∃ l, pcs ++ [b] = l := ⟨_, rfl⟩
 have hal : all.length = ns.length + 1 := by rw [← hallE]; simp [hpl]
 rw [hallE] at hsn hall hflat
 simp [m1, m2, hsn]
 refine VL_go (deInv4 all ts H') (fun fr _ => all.length - (ai (aget fr 68)).toNat) ⟨J, 0, rfl, by omega, fr_intro (by simp [full, chunksT])⟩ ?_
 clear J x hsum
 rintro fr H4 ⟨J, i, rfl, hi, x, rfl⟩
 have hcl := full_take all i
 rw [hall] at hcl
 by_cases h : i < all.length
 ·obtain ⟨s, hs⟩ : ∃ s, all[i]? = some s := ⟨_, List.getElem?_eq_getElem h⟩
  have hat := strRows_at hs
  have hsl := flat_len_mem hs
  rw [← hflat, hall, hpf] at hsl
  have hw : IntKind.i64.wrap ((i : Int) + 1) = i + 1 := wrap_in (by omega) (by omega)
  have htk : all.take (i + 1) = all.take i ++ [s] := by rw [List.take_add_one, hs]; rfl
  have hs11 := hexD_len11 s.length (by omega)
  by_cases hs0 : s = []
  ·have e : chunksT (full (all.take (i + 1))) = chunksT (full (all.take i)) := by rw [htk, full_app, hs0]; simp [full]
   subst hs0
   simp [h, hat, hw]
   exact Kloop_normal ⟨J, i + 1, rfl, by omega, fr_intro (by rw [e]; simp)⟩ (by simp; omega)
  ·have hs1 : (s != []) = true := by simpa using hs0
   have e : chunksT (full (all.take (i + 1))) = chunksT (full (all.take i)) ++ chunkT s := by
    rw [htk, full_app, chunksT_app]
    simp [full, hs0, chunksT]
   have k1 : (hexD s.length).length + 1 + 1 ≤ maxLen := by unfold maxLen; omega
   have k2 : (hexD s.length).length + 2 ≤ maxLen := by unfold maxLen; omega
   have k3 : (hexD s.length).length + 1 + 1 + s.length ≤ maxLen := by unfold maxLen; omega
   have k4 : (hexD s.length).length + 2 + s.length ≤ maxLen := by unfold maxLen; omega
   have k5 : (hexD s.length).length + (s.length + 1 + 1) + 2 ≤ maxLen := by unfold maxLen; omega
   have k6 : (chunksT (full (all.take i))).length + ((hexD s.length).length + (s.length + 1 + 1 + 1 + 1)) ≤ maxLen := by unfold maxLen; omega
   have k7 : (hexD s.length).length + (s.length + 1 + 1 + 2) ≤ maxLen := by unfold maxLen; omega
   have k8 : (chunksT (full (all.take i))).length + ((hexD s.length).length + (s.length + (1 + 1) + 1 + 1)) ≤ maxLen := by unfold maxLen; omega
   simp [h, hat, hs1]
   refine ddigits_pc E _ _ s.length (by omega) ?_
   simp [k1, k2, k3, k4, k5, k6, k7, k8, hw]
   exact Kloop_normal ⟨J, i + 1, rfl, by omega, fr_intro (by rw [e]; simp [chunkT])⟩ (by simp; omega)
 obtain rfl : i = all.length := by omega
 rw [List.take_of_length_le (Nat.le_refl _), hall] at hcl ⊢
 have k0 : (chunksT (piecesB body ns)).length + 3 ≤ maxLen := by unfold maxLen; omega
 have k0' : (chunksT (piecesB body ns)).length + 1 + 1 + 1 ≤ maxLen := by unfold maxLen; omega
 obtain ⟨out, hout⟩ : ∃ q, chunksT (piecesB body ns) ++ [48, 13, 10] = q := ⟨_, rfl⟩
 have hol : out.length ≤ 17000000 := by rw [← hout]; simp; omega
 simp [k0, k0', hout]
 refine VL_go (deInv5 out ts H') (fun fr _ => ts.length - (ai (aget fr 88)).toNat) ⟨J, 0, rfl, by omega, fr_intro (by simp [linesT])⟩ ?_
 clear J x
 rintro fr H5 ⟨J, i, rfl, hi, x, rfl⟩
 have hlin := linesT_le (ts.take i)
 have hsz := fsz_take ts i
 rw [List.length_take] at hlin
 by_cases h : i < ts.length
 ·obtain ⟨f, hf⟩ : ∃ f, ts[i]? = some f := ⟨_, List.getElem?_eq_getElem h⟩
  have hat := flds_at hf
  have hfm := fsz_mem hf
  have hw : IntKind.i64.wrap ((i : Int) + 1) = i + 1 := wrap_in (by omega) (by omega)
  have hrt : rightB f = true := List.all_eq_true.1 hts f (List.mem_of_getElem? hf)
  have hlp : lineP f = (lineT f, 0) := by
   unfold rightB at hrt
   simp at hrt
   unfold lineP
   rw [if_neg (by rw [mayB_name hrt.1]; simp), if_neg (by rw [hrt.2]; simp)]
  have hlt := lineT_le f
  have hst := linesT_step ts i f hf
  have k1 : (lineT f).length + 1 + 1 ≤ maxLen := by unfold maxLen; omega
  have k2 : (lineT f).length + 2 ≤ maxLen := by unfold maxLen; omega
  have k3 : out.length + (linesT (ts.take i)).length + ((lineT f).length + 1 + 1) ≤ maxLen := by unfold maxLen; omega
  have k4 : out.length + (linesT (ts.take i)).length + ((lineT f).length + 2) ≤ maxLen := by unfold maxLen; omega
  simp [h, hat]
  refine dprintLine_pc E _ _ f (by omega) (by omega) ?_
  simp [hlp, k1, k2, k3, k4, hw]
  exact Kloop_normal ⟨_, i + 1, rfl, by omega, fr_intro (by rw [hst]; simp)⟩ (by simp; omega)
 ·obtain rfl : i = ts.length := by omega
  rw [List.take_of_length_le (Nat.le_refl _)] at hlin ⊢
  have k1 : out.length + (linesT ts).length + 2 ≤ maxLen := by unfold maxLen; omega
  have k2 : out.length + (linesT ts).length + 1 + 1 ≤ maxLen := by unfold maxLen; omega
  have e : encT (piecesB body ns) ts = out ++ (linesT ts ++ [13, 10]) := by rw [← hout]; unfold encT; simp
  rw [e] at hQ
  simp [k1, k2]
  exact aPost_same hB (by simp) (nilV_refl _) (by simp) hQ
end
end Go.Proofs.YtnnhdehmlkkfjaaGreatDoor
set_option maxRecDepth 100000
namespace Go.Proofs.YtnnhdehmlkkfjaaGreatDoor
open Go Go.RowKit Go.Proofs
section
variable (E : Env) (H : Hp) (Q : AV → Hp → Prop)
theorem dalike_pc (a b : List UInt8) (ha : a.length ≤ cap) (hb : b.length ≤ cap) (hQ : Q (.bool (lowEq a b)) H) : PC Tryz.prog E 126 [.str a, .str b] H Q := by
 refine pc_enter Tryz.func126 rfl [] [] (by kernel_rfl) (fun hB => ?_)
 simp [Tryz.ntmps126, Tryz.results126, List.replicate_succ]
 refine ref_lower_pc E _ _ a ha ?_
 simp
 refine ref_lower_pc E _ _ b hb ?_
 simp
 exact aPost_same0 hB rfl (nilV_refl _) (by simp) hQ
end
end Go.Proofs.YtnnhdehmlkkfjaaGreatDoor
set_option maxRecDepth 100000
namespace Go.Proofs.YtnnhdehmlkkfjaaGreatDoor
open Go Go.RowKit Go.Proofs
section
variable (E : Env) (H : Hp) (Q : AV → Hp → Prop)
def dfpInv (l : List Fld) (H : Hp) (fr : List AV) (H' : Hp) : Prop := ∃ (J : Hp) (i : Nat), i ≤ l.length ∧ H' = H ++ J ∧ (∀ g ∈ l.take i, (lineP g).2 = 0) ∧
 ∃ x : Nat → AV, fr = [x 0, x 1, x 2, x 3, .str (linesT (l.take i)), x 5, x 6, x 7, x 8, x 9, x 10, x 11, .sl false 2 (flds l), .int .i64 l.length, .int .i64 i, x 15, x 16, x 17, x 18, x 19, x 20, x 21, x 22, x 23, x 24, x 25, x 26, x 27, x 28, x 29, x 30, x 31]
theorem dfprint_pc (l : List Fld) (hl : fsz l + l.length ≤ 16777216) (hQ : Q (.tup [.str (printF l).1, .int .i64 (printF l).2]) H) : PC Tryz.prog E 57 [.sl false 2 (flds l)] H Q := by
 have fin : ∀ a : List UInt8 × Int, printF l = a → Q (.tup [.str a.1, .int .i64 a.2]) H := fun a ha => ha ▸ hQ
 refine pc_enter Tryz.func57 rfl [] [] (by kernel_rfl) (fun hB => ?_)
 simp [Tryz.ntmps57, Tryz.results57, List.replicate_succ]
 by_cases h100 : 100 < l.length
 ·have h1 : (100 : Int) < l.length := by omega
  simp [h1]
  exact aPost_same0 hB (v0 := .tup [.str [], .int .i64 65]) (by simp) (nilV_refl _) (by simp) (fin ([], 65) (by unfold printF; rw [if_pos h100]))
 have h1 : ¬ (100 : Int) < l.length := by omega
 simp [h1]
 refine VL_go (dfpInv l H) (fun fr _ => l.length - (ai (aget fr 14)).toNat) ⟨[], 0, by omega, by simp, by simp, fr_intro (by simp [linesT])⟩ ?_
 rintro fr H2 ⟨J2, i, hi, rfl, hall, x, rfl⟩
 have hlin := linesT_le (l.take i)
 have hsz := fsz_take l i
 rw [List.length_take] at hlin
 by_cases h : i < l.length
 ·obtain ⟨f, hf⟩ : ∃ f, l[i]? = some f := ⟨_, List.getElem?_eq_getElem h⟩
  have hat := flds_at hf
  have hfm := fsz_mem hf
  have hw : IntKind.i64.wrap ((i : Int) + 1) = i + 1 := wrap_in (by omega) (by omega)
  have hlt := lineT_le f
  simp [h, hat]
  refine dprintLine_pc E _ _ f (by omega) (by omega) ?_
  by_cases hz : (lineP f).2 = 0
  ·have hz1 := lineP_ok hz
   have m1 : (lineT f).length + 2 ≤ maxLen := by unfold maxLen; omega
   have m0 : (lineT f).length + 1 + 1 ≤ maxLen := by unfold maxLen; omega
   have m2 : (linesT (l.take i)).length + ((lineT f).length + 1 + 1) ≤ maxLen := by unfold maxLen; omega
   have m3 : (linesT (l.take i)).length + ((lineT f).length + 2) ≤ maxLen := by unfold maxLen; omega
   have hst := linesT_step l i f hf
   simp [hz, hz1, m1, m0, m2, m3, hw]
   refine Kloop_normal ⟨_, i + 1, by omega, rfl, fun g hg => ?_, fr_intro (by simp [hst])⟩ (by simp; omega)
   rw [List.take_add_one, hf] at hg
   rcases List.mem_append.1 hg with hg | hg
   ·exact hall g hg
   ·simp at hg; subst hg; exact hz
  ·have hz2 : ((lineP f).2 != 0) = true := by simpa using hz
   simp [hz2]
   exact aPost_same hB (v0 := .tup [.str [], .int .i64 (lineP f).2]) (by simp) (nilV_refl _) (by simp) (fin ([], (lineP f).2) (printF_step (by omega) hf hall hz))
 ·obtain rfl : i = l.length := by omega
  rw [List.take_of_length_le (Nat.le_refl _)] at hall hlin ⊢
  simp
  exact aPost_same hB (v0 := .tup [.str (linesT l), .int .i64 0]) (by simp) (nilV_refl _) (by simp) (fin (linesT l, 0) (printF_all (by omega) hall))
end
end Go.Proofs.YtnnhdehmlkkfjaaGreatDoor
set_option maxRecDepth 100000
namespace Go.Proofs.YtnnhdehmlkkfjaaGreatDoor
open Go Go.RowKit Go.Proofs
section
variable (E : Env) (H : Hp) (Q : AV → Hp → Prop)
end
end Go.Proofs.YtnnhdehmlkkfjaaGreatDoor
set_option maxRecDepth 100000
namespace Go.Proofs.YtnnhdehmlkkfjaaGreatDoor
open Go Go.RowKit Go.Proofs
def Rep.avs (r : Rep) : List AV := [.int .i64 r.status, .str r.reason, .sl false 2 (flds r.fields), .str r.body, .int .i64 r.minor, .sl false 2 (flds r.trailers), .int .i64 r.kind, .int .i64 r.length, .bool r.persist]
section
variable (E : Env) (H : Hp) (Q : AV → Hp → Prop)
end
end Go.Proofs.YtnnhdehmlkkfjaaGreatDoor
set_option maxRecDepth 100000
namespace Go.Proofs.YtnnhdehmlkkfjaaGreatDoor
open Go Go.RowKit Go.Proofs
section
variable (E : Env) (H : Hp) (Q : AV → Hp → Prop)
end
end Go.Proofs.YtnnhdehmlkkfjaaGreatDoor
set_option maxRecDepth 100000
namespace Go.Proofs.YtnnhdehmlkkfjaaGreatDoor
open Go Go.RowKit Go.Proofs
@[simp] theorem bnd_ints {N : Nat} (l : List Int) : (∀ r ∈ ints l, ∀ x ∈ r, Bnd N x) = True := eq_true fun r hr x hx => by
 obtain ⟨z, _, rfl⟩ := List.mem_map.1 hr
 simp at hx
 subst hx
 exact .int _ _
section
variable (E : Env) (H : Hp) (Q : AV → Hp → Prop)
end
end Go.Proofs.YtnnhdehmlkkfjaaGreatDoor
set_option maxRecDepth 100000
namespace Go.Proofs.YtnnhdehmlkkfjaaGreatDoor
open Go Go.RowKit Go.Proofs
section
variable (E : Env) (H : Hp) (Q : AV → Hp → Prop)
end
end Go.Proofs.YtnnhdehmlkkfjaaGreatDoor
set_option maxRecDepth 100000
namespace Go.Proofs.YtnnhdehmlkkfjaaGreatDoor
open Go Go.RowKit Go.Proofs Go.Deep
section
variable (E : Env) (H : Hp) (Q : AV → Hp → Prop)
end
end Go.Proofs.YtnnhdehmlkkfjaaGreatDoor
set_option maxRecDepth 100000
namespace Go.Proofs.YtnnhdehmlkkfjaaGreatDoor
open Go Go.RowKit Go.Proofs Go.Deep
def Tabs (W : World) : Prop := Signs W ∧ Tz W ∧ Lib.TabIs Tryz.prog W "internal/strconv.uint64pow10" .u64 Lib.pow10Tab
theorem tab_lt {W : World} (hT : Lib.TabIs Tryz.prog W "internal/strconv.uint64pow10" .u64 Lib.pow10Tab) : 1 < W.heap.size := by
 have := hT
 unfold Lib.TabIs World.var? at this
 rw [pow10Named] at this
 simp only [Option.bind_some] at this
 by_cases h : 1 < W.heap.size
 ·exact h
 ·rw [Array.getElem?_eq_none (by omega)] at this; cases this
end Go.Proofs.YtnnhdehmlkkfjaaGreatDoor
set_option maxRecDepth 100000
namespace Go.Proofs.YtnnhdehmlkkfjaaGreatDoor
open Go Go.RowKit Go.Proofs
section
variable (E : Env) (H : Hp) (Q : AV → Hp → Prop)
end
end Go.Proofs.YtnnhdehmlkkfjaaGreatDoor
set_option maxRecDepth 100000
namespace Go.Proofs.YtnnhdehmlkkfjaaGreatDoor
open Go Go.RowKit
def okE (e : Int) : Prop := e ≠ 110 ∧ e ≠ 111 ∧ e ≠ 117
def PRs (p : Prs) (s : List UInt8) (q : Prs) : Prop := feedP p s = (q, s.length) ∨ ((feedP p s).1.nx = none ∧ (feedP p s).1.state = 5 ∧ okE (feedP p s).1.ferr)
theorem PRs.nil (p : Prs) : PRs p [] p := .inl rfl
theorem PRs.trans {p q r : Prs} {a b : List UInt8} (h1 : PRs p a q) (h2 : PRs q b r) : PRs p (a ++ b) r := by
 rcases h1 with h1 | ⟨h1, h3, h4⟩
 ·rcases h2 with h2 | ⟨h2, h3, h4⟩
  ·exact .inl (by rw [feedP_append, h1, h2]; simp)
  ·exact .inr (by rw [feedP_append, h1]; exact ⟨h2, h3, h4⟩)
 ·exact .inr (by rw [feedP_append, feedP_none b h1]; exact ⟨h1, h3, h4⟩)
theorem PRs.go {p p1 : Prs} {m : Md} {c : UInt8} {nx : Option Md} (h : p.nx = some m) (hs : stepS p m c = .go p1 nx) : PRs p [c] (adv p1 nx) := .inl (by rw [feedP_go [] h hs]; rfl)
theorem PRs.bad {p p1 : Prs} {m : Md} {c : UInt8} {st err at_ : Int} (h : p.nx = some m) (hs : stepS p m c = .bad p1 st err at_) (he : okE err) (q : Prs) : PRs p [c] q := .inr (by rw [feedP_bad [] h hs]; exact ⟨rfl, rfl, he⟩)
def ResD (d : Dec) (s : List UInt8) (e : Dec) : Prop := (feedD d s = (e, s.length) ∧ goD e) ∨ ((feedD d s).1.err ≠ 0 ∧ okE (feedD d s).1.err)
theorem feedD_stopped (d : Dec) (b : List UInt8) : ∀ a : List UInt8, (feedD d a).1.err ≠ 0 → goD d → feedD d (a ++ b) = feedD d a := fun a => by
 induction a generalizing d with
 | nil => intro h hg; exact absurd hg.2 h
 | cons c a ih =>
  intro h hg
  rw [List.cons_append, feedD_cons, feedD_cons]
  rw [feedD_cons] at h
  by_cases hs : (feed1 d c).done = true ∨ (feed1 d c).err ≠ 0
  ·rw [if_pos hs, if_pos hs]
  ·rw [if_neg hs] at h
   rw [if_neg hs, if_neg hs, ih _ h ⟨by simpa using fun e => hs (.inl e), by simpa using fun e => hs (.inr e)⟩]
theorem ResD.trans {d e g : Dec} {a b : List UInt8} (hd : goD d) (h1 : ResD d a e) (h2 : ResD e b g) : ResD d (a ++ b) g := by
 rcases h1 with ⟨h1, he⟩ | ⟨h1, h3⟩
 ·rcases h2 with ⟨h2, hg⟩ | ⟨h2, h3⟩
  ·exact .inl ⟨feedD_cat2 h1 he h2, hg⟩
  ·exact .inr (by rw [feedD_cat _ _ _ _ h1 he]; exact ⟨h2, h3⟩)
 ·exact .inr (by rw [feedD_stopped d b a h1 hd]; exact ⟨h1, h3⟩)
theorem ResD.one {d e : Dec} {c : UInt8} (h : feed1 d c = e) (h2 : goD e ∨ (e.err ≠ 0 ∧ okE e.err)) (g : Dec) (hg : goD e → g = e) : ResD d [c] g := by
 have := feedD_one h
 rcases h2 with h2 | h2
 ·rw [hg h2]; exact .inl ⟨this, h2⟩
 ·exact .inr (by rw [this]; exact h2)
def methB (s : List UInt8) : Bool := tokB s && decide (s.length ≤ 24)
def isLineB (s : List UInt8) : Bool := !s.isEmpty && s.all fun c => decide (33 ≤ c.toNat) && decide (c.toNat ≤ 126)
def preQ (r : Rq) : List UInt8 := r.meth ++ ([32] ++ (r.targ ++ ([32] ++ ([72, 84, 84, 80, 47] ++ ([49, 46] ++ (Go.Lib.itoa r.minor ++ ([13, 10] ++ ((printF r.fields).1 ++ [13, 10]))))))))
def printQ (r : Rq) : List UInt8 × Int :=
 if methB r.meth = false then ([], 110) else if isLineB r.targ = false then ([], 111) else if r.major ≠ 1 ∨ (r.minor ≠ 0 ∧ r.minor ≠ 1) then ([], 117)
 else if (printF r.fields).2 ≠ 0 then ([], (printF r.fields).2)
 else if (framingA r.fields (decide (r.minor = 0))).2.2 ≠ 0 then ([], (framingA r.fields (decide (r.minor = 0))).2.2)
 else if (framingA r.fields (decide (r.minor = 0))).1 ≠ 2 ∧ (r.body.length : Int) ≠ (framingA r.fields (decide (r.minor = 0))).2.1 then ([], 114)
 else if (framingA r.fields (decide (r.minor = 0))).1 ≠ 2 ∧ r.trailers ≠ [] then ([], 113)
 else if (framingA r.fields (decide (r.minor = 0))).1 = 2 then (if (encAns r.body [] r.trailers).2 ≠ 0 then ([], (encAns r.body [] r.trailers).2) else (preQ r ++ (encAns r.body [] r.trailers).1, 0))
 else (preQ r ++ r.body, 0)
section
variable {lt lh lf lb : Int}
end
end Go.Proofs.YtnnhdehmlkkfjaaGreatDoor
set_option maxRecDepth 100000
namespace Go.Proofs.YtnnhdehmlkkfjaaGreatDoor
open Go Go.RowKit Go.Shelf
theorem dN_lo (n b0 b1 b2 b3 : Nat) (h : b0 < 128) : Lib.decodeN n b0 b1 b2 b3 = (b0, 1) := by unfold Lib.decodeN; rw [if_pos h]
theorem dN_hi (n b0 b1 b2 b3 : Nat) (h : 128 ≤ b0) : 126 < (Lib.decodeN n b0 b1 b2 b3).1 := by
 unfold Lib.decodeN
 rw [if_neg (by omega)]
 repeat' split
 all_goals (simp only; omega)
def notL (x : Nat) : Bool := decide (x < 33) || decide (126 < x)
theorem idx_line (s : ByteArray) : ∀ (f pos : Nat), s.size ≤ pos + f → (Lib.idxFuncFrom notL true s f pos < 0 ↔ ∀ b ∈ s.data.toList.drop pos, 33 ≤ b.toNat ∧ b.toNat ≤ 126)
 | f, pos, hf => by
  by_cases hp : pos < s.size
  ·obtain ⟨g, rfl⟩ : ∃ g, f = g + 1 := ⟨f - 1, by omega⟩
   have hat : s.data.toList[pos]? = some (s.get! pos) := by
    have h1 : pos < s.data.toList.length := by rw [Array.length_toList]; exact hp
    rw [List.getElem?_eq_getElem h1]
    simp [ByteArray.get!, getElem!_pos, hp]
   have hd := drop_at _ _ _ hat
   rw [Lib.idxFuncFrom, if_pos hp, Lib.decode_at, hd]
   by_cases hlo : (s.get! pos).toNat < 128
   ·rw [dN_lo _ _ _ _ _ hlo]
    by_cases hn : notL (s.get! pos).toNat = true
    ·rw [if_pos hn]
     unfold notL at hn
     simp only [Bool.or_eq_true, decide_eq_true_eq] at hn
     refine ⟨fun h => by omega, fun h => ?_⟩
     have := h _ (.head _)
     omega
    ·rw [if_neg hn]
     have ih := idx_line s g (pos + 1) (by omega)
     unfold notL at hn
     simp only [Bool.or_eq_true, decide_eq_true_eq] at hn
     rw [ih]
     refine ⟨fun h b hb => ?_, fun h b hb => h b (.tail _ hb)⟩
     rcases List.mem_cons.1 hb with rfl | hb
     ·omega
     ·exact h b hb
   ·have hh := dN_hi (s.size - pos) (s.get! pos).toNat (s.get! (pos + 1)).toNat (s.get! (pos + 2)).toNat (s.get! (pos + 3)).toNat (by omega)
    rw [if_pos (by unfold notL; simp; omega)]
    refine ⟨fun h => by omega, fun h => ?_⟩
    have := h _ (.head _)
    omega
  ·have h0 : s.data.toList.drop pos = [] := List.drop_eq_nil_of_le (by rw [Array.length_toList]; show s.size ≤ pos; omega)
   rw [Lib.idxFuncFrom_end _ _ _ _ _ hp, h0]
   simp
set_option maxHeartbeats 1000000 in
theorem isLine1_calls (x : Nat) (hx : x ≤ 1114111) (w : World) : Calls Tryz.prog 72 #[encR x] w fun e w' => e = .returned (.bool (notL x)) ∧ Below w.heap.size w w' := by
 unfold encR notL
 by_cases h1 : x < 33
 ·go_enter Tryz.func72, Tryz.ntmps72
  go_wp2
  go_ret
  exact ⟨by simp [h1], Below.refl _ _⟩
 ·by_cases h2 : 126 < x
  ·go_enter Tryz.func72, Tryz.ntmps72
   go_wp2
   go_ret
   exact ⟨by simp [h2]; omega, Below.refl _ _⟩
  ·go_enter Tryz.func72, Tryz.ntmps72
   go_wp2
   go_ret
   exact ⟨by simp [h1, h2]; omega, Below.refl _ _⟩
section
variable (E : Env) {H : Hp} (Q : AV → Hp → Prop)
theorem indexFunc_pc (l : List UInt8) (hQ : ∀ z : Int, (z < 0 ↔ ∀ b ∈ l, 33 ≤ b.toNat ∧ b.toNat ≤ 126) → Q (.int .i64 z) H) : PC Tryz.prog E 71 [.str l, .fn 72 []] H Q := by
 refine ⟨by kernel_rfl, fun w β Rd Ow cargs hHR hOw hsz hargs => ?_⟩
 obtain ⟨u, v, rfl, hu, hv⟩ := args2 hsz (fun t x u hx hu => (hargs t x u hx hu).1)
 obtain ⟨s, rfl, rfl, hs⟩ := rel_str hu
 have hv' : v = .func (.func 72) #[] #[] := by
  cases hv with
  | fn _ _ vs hl _ _ _ =>
   have : vs = #[] := Array.eq_empty_of_size_eq_zero (by simpa using hl)
   rw [this]
 subst hv'
 have eg : ∀ args w, (callFunc 72 args).run Tryz.prog w = .ok (.enter 72 args) w := enters_of Tryz.func72 (by kernel_rfl) rfl
 refine (Any.strings_IndexFunc_grows layGw_n15 72 #[] eg notL s w (fun W x hx hb => isLine1_calls x hx W)).mono ?_
 rintro e w' ⟨rfl, hb⟩
 have hi := idx_line s s.size 0 (by omega)
 rw [List.drop_zero] at hi
 exact ⟨_, _, H, β, _, Ow, rfl, hQ _ hi, post_freshP hHR (frm_below hb) (fun _ _ => False) (fun _ _ h => h.elim) (.int _ _) (.int _ _) rfl⟩
theorem isLine_pc (l : List UInt8) (hQ : Q (.bool (isLineB l)) H) : PC Tryz.prog E 52 [.str l] H Q := by
 refine pc_enter Tryz.func52 rfl [] [] (by kernel_rfl) (fun hB => ?_)
 unfold isLineB at hQ
 by_cases h : l = []
 ·subst h
  simp [Tryz.ntmps52, Tryz.results52, List.replicate_succ]
  exact aPost_same0 hB rfl (nilV_refl _) (by simp) hQ
 ·have h1 : (l != []) = true := by simpa using h
  have h2 : l.isEmpty = false := by simpa using h
  rw [h2] at hQ
  simp [Tryz.ntmps52, Tryz.results52, List.replicate_succ, h1]
  refine indexFunc_pc E _ l (fun z hz => ?_)
  have e : decide (z < 0) = l.all fun c => decide (33 ≤ c.toNat) && decide (c.toNat ≤ 126) := by
   rw [Bool.eq_iff_iff, decide_eq_true_eq, hz, List.all_eq_true]
   simp
  simp
  refine aPost_same0 hB rfl (nilV_refl _) (by simp) ?_
  rw [e]
  exact hQ
end
end Go.Proofs.YtnnhdehmlkkfjaaGreatDoor
set_option maxRecDepth 100000
namespace Go.Proofs.YtnnhdehmlkkfjaaGreatDoor
open Go Go.RowKit
section
variable (E : Env) {H : Hp} (Q : AV → Hp → Prop)
def lfI (l : List Fld) (H : Hp) (fr : List AV) (K : Hp) : Prop := K = H ∧ ∃ i : Nat, i ≤ l.length ∧ ∃ x : Nat → AV, fr = [.sl false 2 (flds l), .sl false 2 (flds l), x 2, x 3, x 4, .int .i64 (i : Int), x 6, x 7, x 8, x 9, x 10, x 11, x 12, x 13, x 14, x 15, x 16, x 17, x 18, x 19, x 20, x 21, x 22, x 23, x 24, x 25, x 26, x 27, x 28, x 29, x 30, x 31, x 32, x 33, x 34, x 35, x 36, x 37, x 38, x 39, x 40]
theorem lfields_pc (l : List Fld) (hl : l.length ≤ 1073741824) (hQ : Q (.bool true) H) : PC Tryz.prog E 38 [.sl false 2 (flds l), .sl false 2 (flds l)] H Q := by
 refine pc_enter Tryz.func38 rfl [] [] (by kernel_rfl) (fun hB => ?_)
 simp [Tryz.ntmps38, Tryz.results38, List.replicate_succ]
 refine VL_go (lfI l H) (fun fr _ => l.length - (ai (aget fr 5)).toNat) ⟨rfl, 0, by omega, fr_intro (by simp)⟩ ?_
 rintro fr K ⟨rfl, i, hi, x, rfl⟩
 by_cases h : i < l.length
 ·obtain ⟨f, hf⟩ : ∃ f, l[i]? = some f := ⟨_, List.getElem?_eq_getElem h⟩
  have hat := flds_at hf
  have w1 : IntKind.i64.wrap ((i : Int) + 1) = i + 1 := wrap_in (by omega) (by omega)
  simp [h, hat, w1]
  exact Kloop_normal ⟨rfl, i + 1, by omega, fr_intro (by simp)⟩ (by simp; omega)
 ·simp [h]
  exact aPost_same0 hB rfl (nilV_refl _) (by simp) hQ
theorem lsame_pc (r : Rq) (h1 : r.fields.length ≤ 1073741824) (h2 : r.trailers.length ≤ 1073741824) (hQ : Q (.bool true) H) : PC Tryz.prog E 16 [r.av, r.av] H Q := by
 refine pc_enter Tryz.func16 rfl [] [] (by kernel_rfl) (fun hB => ?_)
 simp [Tryz.ntmps16, Tryz.results16, List.replicate_succ, Rq.av, Rq.avs]
 refine lfields_pc E _ r.fields h1 ?_
 simp
 refine lfields_pc E _ r.trailers h2 ?_
 simp
 exact aPost_same hB (by simp) (nilV_refl _) (by simp) hQ
def lrI1 (r : Rq) (H : Hp) (fr : List AV) (K : Hp) : Prop := ∃ i : Nat, i ≤ r.fields.length ∧ K = H ++ [r.avs, [.str [], .str [], .int .i64 0, .int .i64 0, .nil, .str [], .nil], [.str r.meth, .str r.targ, .int .i64 r.major, .int .i64 r.minor, .sl true 2 (flds (r.fields.take i)), .str r.body, .sl true 2 (flds [])]] ∧
 ∃ x : Nat → AV, fr = [x 0, .ptr (some (H.length, 0)), .ptr (some (H.length + 1, 0)), .ptr (some (H.length + 2, 0)), .int .i64 (i : Int), x 5, x 6, x 7, x 8, x 9, x 10, x 11, x 12, x 13, x 14, x 15, x 16, x 17, x 18, x 19, x 20, x 21, x 22, x 23, x 24, x 25, x 26, x 27, x 28, x 29, x 30, x 31, x 32, x 33, x 34, x 35, x 36, x 37, x 38, x 39, x 40, x 41, x 42, x 43, x 44, x 45, x 46, x 47, x 48, x 49, x 50, x 51, x 52, x 53, x 54, x 55, x 56, x 57, x 58, x 59, x 60, x 61, x 62, x 63, x 64, x 65, x 66, x 67]
def lrI2 (r : Rq) (H : Hp) (fr : List AV) (K : Hp) : Prop := ∃ i : Nat, i ≤ r.trailers.length ∧ K = H ++ [r.avs, [.str [], .str [], .int .i64 0, .int .i64 0, .nil, .str [], .nil], [.str r.meth, .str r.targ, .int .i64 r.major, .int .i64 r.minor, .sl true 2 (flds r.fields), .str r.body, .sl true 2 (flds (r.trailers.take i))]] ∧
 ∃ x : Nat → AV, fr = [x 0, .ptr (some (H.length, 0)), .ptr (some (H.length + 1, 0)), .ptr (some (H.length + 2, 0)), x 4, .int .i64 (i : Int), x 6, x 7, x 8, x 9, x 10, x 11, x 12, x 13, x 14, x 15, x 16, x 17, x 18, x 19, x 20, x 21, x 22, x 23, x 24, x 25, x 26, x 27, x 28, x 29, x 30, x 31, x 32, x 33, x 34, x 35, x 36, x 37, x 38, x 39, x 40, x 41, x 42, x 43, x 44, x 45, x 46, x 47, x 48, x 49, x 50, x 51, x 52, x 53, x 54, x 55, x 56, x 57, x 58, x 59, x 60, x 61, x 62, x 63, x 64, x 65, x 66, x 67]
set_option maxHeartbeats 1000000 in
theorem lrequest_pc (r : Rq) (h1 : r.fields.length ≤ 16777216) (h2 : r.trailers.length ≤ 16777216) (hQ : Q r.av H) : PC Tryz.prog E 30 [r.av] H Q := by
 refine pc_enter Tryz.func30 rfl [25, 50] [] (by kernel_rfl) (fun hB => ?_)
 simp [Tryz.ntmps30, Tryz.results30, List.replicate_succ, Rq.av, Rq.avs]
 refine VL_nilH (H.length + 2) _ 4 2 (by simp; rfl) (by rfl) ?_
 refine VL_nilH (H.length + 2) _ 6 2 (by simp; rfl) (by rfl) ?_
 refine VL_go (lrI1 r H) (fun fr _ => r.fields.length - (ai (aget fr 4)).toNat) ⟨0, by omega, by simp [Rq.avs, flds], fr_intro (by simp)⟩ ?_
 rintro fr K ⟨i, hi, rfl, x, rfl⟩
 by_cases h : i < r.fields.length
 ·obtain ⟨f, hf⟩ : ∃ f, r.fields[i]? = some f := ⟨_, List.getElem?_eq_getElem h⟩
  have hat := flds_at hf
  have w1 : IntKind.i64.wrap ((i : Int) + 1) = i + 1 := wrap_in (by omega) (by omega)
  have htk : flds (r.fields.take i) ++ [[AV.str f.name, AV.str f.value]] = flds (r.fields.take (i + 1)) := by rw [flds_snoc, List.take_add_one, hf]; rfl
  have hlt : (r.fields.take i).length = i := by rw [List.length_take]; omega
  have m1 : i + 1 ≤ maxLen := by unfold maxLen; omega
  have m2 : (i + 1) * 32 ≤ 140737488355328 := by omega
  have m3 : i ≤ maxLen := by unfold maxLen; omega
  simp [Rq.avs, h, hat, w1, htk, hlt, m1, m2, m3, -List.length_take]
  exact Kloop_normal ⟨i + 1, by omega, by simp [Rq.avs], fr_intro (by simp)⟩ (by simp; omega)
 ·obtain rfl : i = r.fields.length := by omega
  rw [List.take_length]
  simp [Rq.avs]
  refine VL_go (lrI2 r H) (fun fr _ => r.trailers.length - (ai (aget fr 5)).toNat) ⟨0, by omega, by simp [Rq.avs, flds], fr_intro (by simp)⟩ ?_
  rintro fr K ⟨i, hi, rfl, x, rfl⟩
  by_cases h : i < r.trailers.length
  ·obtain ⟨f, hf⟩ : ∃ f, r.trailers[i]? = some f := ⟨_, List.getElem?_eq_getElem h⟩
   have hat := flds_at hf
   have w1 : IntKind.i64.wrap ((i : Int) + 1) = i + 1 := wrap_in (by omega) (by omega)
   have htk : flds (r.trailers.take i) ++ [[AV.str f.name, AV.str f.value]] = flds (r.trailers.take (i + 1)) := by rw [flds_snoc, List.take_add_one, hf]; rfl
   have hlt : (r.trailers.take i).length = i := by rw [List.length_take]; omega
   have m1 : i + 1 ≤ maxLen := by unfold maxLen; omega
   have m2 : (i + 1) * 32 ≤ 140737488355328 := by omega
   have m3 : i ≤ maxLen := by unfold maxLen; omega
   simp [Rq.avs, h, hat, w1, htk, hlt, m1, m2, m3, -List.length_take]
   exact Kloop_normal ⟨i + 1, by omega, by simp [Rq.avs], fr_intro (by simp)⟩ (by simp; omega)
  ·obtain rfl : i = r.trailers.length := by omega
   rw [List.take_length]
   simp [Rq.avs]
   exact aPost_same hB (v0 := r.av) (by simp [Rq.av, Rq.avs]) (nilV_refl _) (by simp [Rq.av, Rq.avs, bnd_flds]) hQ
def awkT : List UInt8 := [71, 69, 84, 32, 47, 97, 32, 72, 84, 84, 80, 47, 49, 46, 48, 13, 10, 13, 10, 120]
theorem awk_feed : (feedP (newP 8000 16384 100 1048576) awkT).2 = 19 ∧ (feedP (newP 8000 16384 100 1048576) awkT).1.state = 4 ∧ (feedP (newP 8000 16384 100 1048576) awkT).1.meth = [71, 69, 84] ∧ (feedP (newP 8000 16384 100 1048576) awkT).1.targ = [47, 97] ∧ (feedP (newP 8000 16384 100 1048576) awkT).1.major = 1 := by decide +kernel
theorem lawake_pc (hE : PE E) (hQ : Q (.bool true) H) : PC Tryz.prog E 15 [] H Q := by
 refine pc_enter Tryz.func15 rfl [] [] (by kernel_rfl) (fun hB => ?_)
 simp [Tryz.ntmps15, Tryz.results15, List.replicate_succ]
 refine pusual_pc E _ ?_
 simp
 refine pwhole_pc E _ hE 8000 16384 100 1048576 awkT (by decide) ?_
 obtain ⟨g1, g2, g3, g4, g5⟩ := awk_feed
 have hch : chkE 8000 16384 100 1048576 = 0 := by decide
 have hk : kindP (feedP (newP 8000 16384 100 1048576) awkT).1 = 1 := by unfold kindP; rw [if_pos g2]
 have hf : fltV (feedP (newP 8000 16384 100 1048576) awkT).1 = .agg [.int .i64 0, .int .i64 0, .int .i64 0] := by unfold fltV; rw [if_neg (by omega)]
 unfold wholV
 rw [if_pos hch, hk, hf, g1, g2]
 have hrq : Rq.if (decide ((4 : Int) = 4)) (feedP (newP 8000 16384 100 1048576) awkT).1.rq = (feedP (newP 8000 16384 100 1048576) awkT).1.rq := rfl
 rw [hrq]
 simp [Rq.av, Rq.avs, Prs.rq, g3, g4, g5]
 exact aPost_same hB (by simp) (nilV_refl _) (by simp) hQ
end
end Go.Proofs.YtnnhdehmlkkfjaaGreatDoor
set_option maxRecDepth 100000
namespace Go.Proofs.YtnnhdehmlkkfjaaGreatDoor
open Go Go.RowKit
set_option maxRecDepth 100000 in
set_option maxHeartbeats 1000000 in
theorem r1_digit_ok (b : UInt8) (W : World) : Calls Tryz.prog 64 #[.int .u8 b.toNat] W fun e w' => e = .returned (.bool (isDig b)) ∧ w' = W := by
 go_enter Tryz.func64, Tryz.ntmps64
 have hb := b.toNat_lt
 by_cases h1 : 48 ≤ b.toNat
 ·by_cases h2 : b.toNat ≤ 57
  ·have e1 : isDig b = true := decide_eq_true ⟨h1, h2⟩
   rw [e1]
   go_wp2
   go_ret
   exact ⟨by first | rfl | (simp <;> omega), rfl⟩
  ·have e1 : isDig b = false := decide_eq_false (fun h => h2 h.2)
   rw [e1]
   go_wp2
   go_ret
   exact ⟨by first | rfl | (simp <;> omega), rfl⟩
 ·have e1 : isDig b = false := decide_eq_false (fun h => h1 h.1)
  rw [e1]
  go_wp2
  go_ret
  exact ⟨by first | rfl | (simp <;> omega), rfl⟩
section
variable (E : Env) (H : Hp) (Q : AV → Hp → Prop)
theorem r1_digit_pc (b : UInt8) (hQ : Q (.bool (isDig b)) H) : PC Tryz.prog E 64 [.int .u8 (b.toNat : Int)] H Q := by
 refine pc_of_calls (v := .bool (isDig b)) (by kernel_rfl) (fun _ => True) (fun w hw => trivial) (fun w β Rd cargs hS hsz hargs => ?_) (.bool _) rfl hQ
 obtain ⟨u, rfl, hu⟩ := args1 hsz hargs
 obtain rfl := rel_int hu
 refine (r1_digit_ok b w).mono ?_
 rintro e w' ⟨rfl, rfl⟩
 exact ⟨_, rfl, Frm.refl _ _, .bool _⟩
theorem r1_letter_pc (b : UInt8) (hQ : Q (.bool (isLet b)) H) : PC Tryz.prog E 65 [.int .u8 (b.toNat : Int)] H Q := by
 refine pc_enter Tryz.func65 rfl [] [] (by kernel_rfl) (fun hB => ?_)
 have fin : ∀ c : Bool, isLet b = c → Q (.bool c) H := fun c hc => hc ▸ hQ
 by_cases h1 : 65 ≤ b.toNat
 ·have t1 : (65 : Int) ≤ b.toNat := by omega
  by_cases h2 : b.toNat ≤ 90
  ·have t2 : (b.toNat : Int) ≤ 90 := by omega
   simp [Tryz.ntmps65, Tryz.results65, List.replicate_succ, t1, t2]
   exact aPost_same0 hB rfl (nilV_refl _) (by simp) (fin _ (by simp [isLet, h1, h2]))
  ·have t2 : ¬ (b.toNat : Int) ≤ 90 := by omega
   by_cases h3 : 97 ≤ b.toNat
   ·have t3 : (97 : Int) ≤ b.toNat := by omega
    by_cases h4 : b.toNat ≤ 122
    ·have t4 : (b.toNat : Int) ≤ 122 := by omega
     simp [Tryz.ntmps65, Tryz.results65, List.replicate_succ, t1, t2, t3, t4]
     exact aPost_same0 hB rfl (nilV_refl _) (by simp) (fin _ (by simp [isLet, h3, h4]))
    ·have t4 : ¬ (b.toNat : Int) ≤ 122 := by omega
     simp [Tryz.ntmps65, Tryz.results65, List.replicate_succ, t1, t2, t3, t4]
     exact aPost_same0 hB rfl (nilV_refl _) (by simp) (fin _ (by simp [isLet, h2, h4]))
   ·have t3 : ¬ (97 : Int) ≤ b.toNat := by omega
    simp [Tryz.ntmps65, Tryz.results65, List.replicate_succ, t1, t2, t3]
    exact aPost_same0 hB rfl (nilV_refl _) (by simp) (fin _ (by simp [isLet, h2, h3]))
 ·have t1 : ¬ (65 : Int) ≤ b.toNat := by omega
  have t3 : ¬ (97 : Int) ≤ b.toNat := by omega
  simp [Tryz.ntmps65, Tryz.results65, List.replicate_succ, t1, t3]
  exact aPost_same0 hB rfl (nilV_refl _) (by simp) (fin _ (by simp [isLet, h1]; omega))
def r1SignInv (b : UInt8) (H : Hp) (fr : List AV) (H' : Hp) : Prop := H' = H ∧ ∃ i : Nat, i ≤ 15 ∧ (sgs.take i).contains b = false ∧ ∃ x : Nat → AV, fr = [.int .u8 (b.toNat : Int), x 1, x 2, .str sgs, .int .i64 i, x 5, x 6, x 7, x 8, x 9, x 10, x 11, x 12, x 13, x 14, x 15, x 16, x 17, x 18, x 19, x 20, x 21]
theorem r1_sign_pc (b : UInt8) (hQ : Q (.bool (signB b)) H) : PC Tryz.prog E 48 [.int .u8 (b.toNat : Int)] H Q := by
 refine pc_enter Tryz.func48 rfl [] [] (by kernel_rfl) (fun hB => ?_)
 have fin : ∀ c : Bool, signB b = c → Q (.bool c) H := fun c hc => hc ▸ hQ
 simp [Tryz.ntmps48, Tryz.results48, List.replicate_succ]
 refine r1_digit_pc E _ _ b ?_
 cases hd : isDig b
 ·simp
  refine r1_letter_pc E _ _ b ?_
  cases hl : isLet b
  ·simp
   refine VL_go (r1SignInv b H) (fun fr _ => 15 - (ai (aget fr 4)).toNat) ⟨rfl, 0, by omega, rfl, fr_intro (by simp [sgs])⟩ ?_
   rintro fr H' ⟨rfl, i, hi, hall, x, rfl⟩
   have hlen : sgs.length = 15 := rfl
   by_cases h : i < 15
   ·obtain ⟨c, hc⟩ : ∃ c, sgs[i]? = some c := ⟨_, List.getElem?_eq_getElem (by rw [hlen]; exact h)⟩
    have hat := lat_eq hc
    have h15 : (i : Int) < 15 := by omega
    have hw : IntKind.i64.wrap ((i : Int) + 1) = i + 1 := wrap_in (by omega) (by omega)
    by_cases he : c = b
    ·have t1 : ((c.toNat : Int) == (b.toNat : Int)) = true := by simp [he]
     simp [hlen, h15, hat, t1]
     refine aPost_same0 hB rfl (nilV_refl _) (by simp) (fin _ ?_)
     rw [← sign_refB, show sgs.contains b = true by rw [List.contains_iff_mem, ← he]; exact List.mem_of_getElem? hc]
     simp
    ·have t1 : ((c.toNat : Int) == (b.toNat : Int)) = false := by
      rw [beq_eq_false_iff_ne]
      intro hh
      exact he (UInt8.toNat_inj.1 (by omega))
     simp [hlen, h15, hat, t1, hw]
     refine Kloop_normal ⟨rfl, i + 1, by omega, ?_, fr_intro (by simp)⟩ (by simp; omega)
     rw [List.take_add_one, hc]
     simp at hall
     simp [hall]
     exact fun e => he e.symm
   ·obtain rfl : i = 15 := by omega
    simp [hlen]
    refine aPost_same0 hB rfl (nilV_refl _) (by simp) (fin _ ?_)
    rw [← sign_refB, hd, hl]
    exact hall
  ·simp
   refine aPost_same0 hB rfl (nilV_refl _) (by simp) (fin _ ?_)
   rw [← sign_refB, hl]; simp
 ·simp
  refine aPost_same0 hB rfl (nilV_refl _) (by simp) (fin _ ?_)
  rw [← sign_refB, hd]; simp
def r1TokInv (l : List UInt8) (H : Hp) (fr : List AV) (H' : Hp) : Prop := H' = H ∧ ∃ i : Nat, i ≤ l.length ∧ (l.take i).all signB = true ∧ ∃ x : Nat → AV, fr = [.str l, x 1, x 2, .int .i64 i, x 4, x 5, x 6, x 7, x 8, x 9, x 10, x 11, x 12, x 13, x 14, x 15, x 16]
theorem r1_token_pc (l : List UInt8) (hl : l.length ≤ cap) (hQ : Q (.bool (tokB l)) H) : PC Tryz.prog E 42 [.str l] H Q := by
 simp only [cap] at hl
 refine pc_enter Tryz.func42 rfl [] [] (by kernel_rfl) (fun hB => ?_)
 have fin : ∀ c : Bool, tokB l = c → Q (.bool c) H := fun c hc => hc ▸ hQ
 simp [Tryz.ntmps42, Tryz.results42, List.replicate_succ]
 refine VL_go (r1TokInv l H) (fun fr _ => l.length - (ai (aget fr 3)).toNat) ⟨rfl, 0, by omega, rfl, fr_intro (by simp)⟩ ?_
 rintro fr H' ⟨rfl, i, hi, hall, x, rfl⟩
 by_cases h : i < l.length
 ·obtain ⟨b, hb⟩ : ∃ b, l[i]? = some b := ⟨_, List.getElem?_eq_getElem h⟩
  have hat := lat_eq hb
  have hw : IntKind.i64.wrap ((i : Int) + 1) = i + 1 := wrap_in (by omega) (by omega)
  simp [h, hat]
  refine r1_sign_pc E _ _ b ?_
  cases hf : signB b
  ·simp [hf]
   exact aPost_same0 hB rfl (nilV_refl _) (by simp) (fin _ (by rw [tokB, all_bad signB l i b hb hf]; rfl))
  ·simp [hf, hw]
   refine Kloop_normal ⟨rfl, i + 1, by omega, ?_, fr_intro (by simp)⟩ (by simp; omega)
   rw [all_take signB l i b hb, hall, hf]; rfl
 ·have : l.take i = l := List.take_of_length_le (by omega)
  rw [this] at hall
  have ht : tokB l = (l != []) := by rw [tokB, hall, len_ne l 0]; simp
  simp [h]
  exact aPost_same0 hB rfl (nilV_refl _) (by simp) (fin _ ht)
end
section
variable (E : Env) {H : Hp} (Q : AV → Hp → Prop)
end
end Go.Proofs.YtnnhdehmlkkfjaaGreatDoor
set_option maxRecDepth 100000
namespace Go.Proofs.YtnnhdehmlkkfjaaGreatDoor
open Go Go.RowKit
section
variable (E : Env) {H : Hp} (Q : AV → Hp → Prop)
theorem dmeth_pc (s : List UInt8) (hl : s.length ≤ cap) (hQ : Q (.bool (tokB s && decide (s.length ≤ 24))) H) : PC Tryz.prog E 22 [.str s] H Q := by
 refine pc_enter Tryz.func22 rfl [] [] (by kernel_rfl) (fun hB => ?_)
 simp [Tryz.ntmps22, Tryz.results22, List.replicate_succ]
 refine r1_token_pc E _ _ s hl ?_
 cases ht : tokB s with
 | false =>
  rw [ht] at hQ
  simp
  exact aPost_same0 hB rfl (nilV_refl _) (by simp) hQ
 | true =>
  rw [ht] at hQ
  have e : decide ((s.length : Int) ≤ 24) = decide (s.length ≤ 24) := by rw [decide_eq_decide]; omega
  rw [Bool.true_and, ← e] at hQ
  simp
  exact aPost_same0 hB rfl (nilV_refl _) (by simp) hQ
end
end Go.Proofs.YtnnhdehmlkkfjaaGreatDoor
set_option maxRecDepth 100000
namespace Go.Proofs.YtnnhdehmlkkfjaaGreatDoor
open Go Go.RowKit Go.Proofs Go.Deep
def PZ (E : Env) : Prop := PE E ∧ SZ E
def MaxLenAt (W : World) : Prop := ∃ m : Int, W.cell? ⟨2, 0, none⟩ = some (.int .i64 m)
theorem maxLen_of_shape {W : World} (h : W.ShapedOpen Tryz.prog) : MaxLenAt W :=
 cell_of_shapedOpen_int (zero := #[.int .i64 0]) (t := 3) h (of_decide_eq_true (by kernel_rfl)) (by kernel_rfl) rfl (by kernel_rfl) (by kernel_rfl) Tryz.underlying3
theorem calls_pz {f : FuncId} {args : List AV} {cargs : Array Value} {W : World} (hT : Tabs W) (hM : MaxLenAt W) (hsz : cargs.size = args.length)
  (hargs : ∀ (t : Nat) x u, args[t]? = some x → cargs[t]? = some u → Rel W (fun _ => 0) (old W) x u ∧ Bnd 0 x ∧ x.free = true)
  (h : ∀ (E : Env) (Q : AV → Hp → Prop), PZ E → Q (.bool true) [] → PC Tryz.prog E f args [] Q) : Calls Tryz.prog f cargs W fun e w' => e = .returned (.bool true) ∧ Frm (fun _ => False) W w' := by
 obtain ⟨m, hm⟩ := hM
 refine calls_of_pcF (fun b => b = 0 ∨ b = 4 ∨ b = 1 ∨ b = 2)
  (fun b hb => ?_) (old W) (fun _ _ h => h) hsz hargs
  (fun E Q h0 hf hq => h E Q ⟨⟨⟨⟨by rw [hf]; exact .inl rfl, by rw [h0]; exact hT.1⟩, by rw [hf]; exact .inr (.inr (.inl rfl)), by rw [h0]; exact hT.2.2⟩, ⟨by rw [hf]; exact .inr (.inr (.inr rfl)), m, by rw [h0]; exact hm⟩⟩, ⟨by rw [hf]; exact .inl rfl, by rw [h0]; exact hT.1⟩, by rw [hf]; exact .inr (.inl rfl), by rw [h0]; exact hT.2.1⟩ hq)
 rcases hb with hb | hb | hb | hb
 ·exact law_fix W hT.1 b hb
 ·exact hb ▸ World.block_lt_of_cell? _ _ hT.2.1
 ·exact hb ▸ tab_lt hT.2.2
 ·exact hb ▸ World.block_lt_of_cell? _ _ hm
end Go.Proofs.YtnnhdehmlkkfjaaGreatDoor
set_option maxRecDepth 100000
namespace Go.Proofs.YtnnhdehmlkkfjaaGreatDoor
open Go Go.RowKit Go.Lib
section
open Go.Lib
variable (E : Env) (H : Hp) (Q : AV → Hp → Prop)
def r1DigInv (n : Int) (H : Hp) (fr : List AV) (H' : Hp) : Prop := H' = H ∧ ∃ (m : Int) (out : List UInt8), m.natAbs ≤ n.natAbs ∧ decD m.natAbs ++ out = decDigits n.natAbs ∧ ∃ x : Nat → AV, fr = [.int .i64 m, x 1, x 2, .bool (decide (n < 0)), .str out, x 5, x 6, x 7, x 8, x 9, x 10, x 11, x 12, x 13, x 14, x 15, x 16, x 17, x 18, x 19, x 20, x 21, x 22, x 23, x 24, x 25, x 26, x 27, x 28, x 29, x 30]
theorem r1_digits_pc (n : Int) (h0 : -9223372036854775808 ≤ n) (h1 : n ≤ 9223372036854775807) (hQ : Q (.str (itoa n)) H) : PC Tryz.prog E 33 [.int .i64 n] H Q := by
 have hlen := (itoa_le n h0 h1).2
 refine pc_enter Tryz.func33 rfl [] [] (by kernel_rfl) (fun hB => ?_)
 by_cases hz : n = 0
 ·have e : itoa n = [48] := by rw [hz]; decide +kernel
  rw [e] at hQ
  simp [Tryz.ntmps33, Tryz.results33, List.replicate_succ, hz]
  exact aPost_same0 hB rfl (nilV_refl _) (by simp) hQ
 ·have tz : (n == 0) = false := by simpa using hz
  simp [Tryz.ntmps33, Tryz.results33, List.replicate_succ, tz]
  refine VL_go (r1DigInv n H) (fun fr _ => (ai (aget fr 0)).natAbs) ⟨rfl, n, [], Nat.le_refl _, by unfold decD; rw [if_neg (by omega)]; simp, fr_intro (by simp)⟩ ?_
  rintro fr H' ⟨rfl, m, out, hm, hout, x, rfl⟩
  have hol : out.length ≤ 21 := by
   have := congrArg List.length hout
   rw [List.length_append] at this; omega
  by_cases hmz : m = 0
  ·have tm : (m != 0) = false := by simp [hmz]
   have e : out = decDigits n.natAbs := by rw [← hout, hmz]; rfl
   have hml : out.length + 1 ≤ maxLen ∧ 1 + out.length ≤ maxLen := by unfold maxLen; omega
   by_cases hn : n < 0
   ·have ei : itoa n = 45 :: out := by unfold itoa; rw [if_pos hn, e]
    rw [ei] at hQ
    simp [tm, hn, hml]
    exact aPost_same0 hB rfl (nilV_refl _) (by simp) hQ
   ·have ei : itoa n = out := by
     unfold itoa
     rw [if_neg hn, e, show n.toNat = n.natAbs by omega]
    rw [ei] at hQ
    simp [tm, hn]
    exact aPost_same0 hB rfl (nilV_refl _) (by simp) hQ
  ·have tm : (m != 0) = true := by simpa using hmz
   obtain ⟨d, hd⟩ : ∃ d, m.tmod 10 = d := ⟨_, rfl⟩
   obtain ⟨q, hq⟩ : ∃ q, m.tdiv 10 = q := ⟨_, rfl⟩
   have hda : d.natAbs = m.natAbs % 10 := by rw [← hd, Int.natAbs_tmod]; rfl
   have hqa : q.natAbs = m.natAbs / 10 := by rw [← hq, Int.natAbs_tdiv]; rfl
   have hwq : IntKind.i64.wrap q = q := wrap_in (by omega) (by omega)
   obtain ⟨k, hk⟩ : ∃ k, m.natAbs % 10 = k := ⟨_, rfl⟩
   have hk10 : k < 10 := by rw [← hk]; exact Nat.mod_lt _ (by omega)
   have hw48 : IntKind.i64.wrap (48 + (k : Int)) = 48 + k := wrap_in (by omega) (by omega)
   have hu8 := u8_add48 k hk10
   have c1 : (0 : Int) ≤ 48 + k := by omega
   have c2 : (48 : Int) + k < 256 := by omega
   have htn : ((48 : Int) + k).toNat = 48 + k := by omega
   have hml : out.length + 1 ≤ maxLen ∧ 1 + out.length ≤ maxLen := by unfold maxLen; omega
   have hst := decD_step m.natAbs (by omega)
   rw [hk, ← hqa] at hst
   have hnext : decD q.natAbs ++ (dgB k :: out) = decDigits n.natAbs := by rw [← hout, hst]; simp
   by_cases hneg : d < 0
   ·have hnd : IntKind.i64.wrap (-d) = k := by rw [wrap_in (by omega) (by omega)]; omega
    have hnd2 : IntKind.i64.wrap (0 - d) = k := by rw [wrap_in (by omega) (by omega)]; omega
    simp [tm, hd, hneg, hnd, hnd2, hw48, hu8, c1, c2, htn, hml, hq, hwq]
    exact Kloop_normal ⟨rfl, q, dgB k :: out, by omega, hnext, fr_intro (by simp [dgB])⟩ (by simp; omega)
   ·have hdk : d = k := by omega
    simp [tm, hd, hneg, hdk, hw48, hu8, c1, c2, htn, hml, hq, hwq]
    exact Kloop_normal ⟨rfl, q, dgB k :: out, by omega, hnext, fr_intro (by simp [dgB])⟩ (by simp; omega)
end
end Go.Proofs.YtnnhdehmlkkfjaaGreatDoor
set_option maxRecDepth 100000
namespace Go.Proofs.YtnnhdehmlkkfjaaGreatDoor
open Go Go.RowKit Go.Proofs
theorem keep_snoc (out : List (List UInt8)) (x : List UInt8) : keepB (out ++ [x]) = keepB out ++ (if (trimB x).isEmpty then [] else [trimB x]) := by
 cases h : (trimB x).isEmpty <;> simp [keepB, h]
section
variable (E : Env) (H : Hp) (Q : AV → Hp → Prop)
theorem dall_pc (l : List Fld) (n : List UInt8) (hl : fsz l + l.length ≤ 16777216) (hn : n.length ≤ cap) (hQ : Q (.sl false 1 (strs (allB l n))) H) : PC Tryz.prog E 95 [.sl false 2 (flds l), .str n] H Q := by
 refine pc_enter Tryz.func95 rfl [18] [] (by kernel_rfl) (fun hB => ?_)
 simp [Tryz.ntmps95, Tryz.results95, List.replicate_succ]
 refine VL_nil 5 1 (by rfl) ?_
 simp only [List.set_cons_succ, List.set_cons_zero]
 refine VL_go (allInv l n H) (fun fr _ => l.length - (ai (aget fr 10)).toNat) ⟨[], 0, by simp, by omega, fr_intro (by simp [allB, strs])⟩ ?_
 rintro fr H' ⟨J, i, rfl, hi, x, rfl⟩
 by_cases h : i < l.length
 ·obtain ⟨f, hf⟩ : ∃ f, l[i]? = some f := ⟨_, List.getElem?_eq_getElem h⟩
  have hat := flds_at hf
  have hfm := fsz_mem hf
  have hw : IntKind.i64.wrap ((i : Int) + 1) = i + 1 := wrap_in (by omega) (by omega)
  have hst := allB_step l n i f hf
  have hal := allB_len (l.take i) n
  rw [List.length_take] at hal
  simp [h, hat]
  refine dalike_pc E _ _ f.name n (by simp only [cap]; omega) hn ?_
  cases he : lowEq f.name n with
  | false =>
   rw [if_neg (by rw [he]; simp), List.append_nil] at hst
   simp [hw]
   exact Kloop_normal ⟨_, i + 1, rfl, by omega, fr_intro (by simp [hst])⟩ (by simp; omega)
  | true =>
   rw [if_pos he] at hst
   have m1 : (allB (l.take i) n).length + 1 ≤ maxLen := by unfold maxLen; omega
   have m2 : ((allB (l.take i) n).length + 1) * 16 ≤ 140737488355328 := by omega
   have hsn := strs_snoc (allB (l.take i) n) f.value
   rw [← hst] at hsn
   simp [m1, m2, hsn, hw]
   exact Kloop_normal ⟨_, i + 1, rfl, by omega, fr_intro (by simp)⟩ (by simp; omega)
 ·obtain rfl : i = l.length := by omega
  simp
  exact aPost_same hB (v0 := .sl false 1 (strs (allB l n))) (by simp) (nilV_refl _) (by simp [bnd_strs]) hQ
def elInv (l : List UInt8) (H : Hp) (fr : List AV) (H' : Hp) : Prop := H' = H ∧ ∃ (f i : Nat) (out : List (List UInt8)), ((f ≤ i ∧ i ≤ l.length ∧ out.length ≤ i ∧ cutIs l out f i) ∨ (i = l.length + 1 ∧ cut [] l = some out)) ∧
 ∃ x : Nat → AV, fr = [.str l, x 1, x 2, x 3, .sl true 1 (strs (keepB out)), .int .i64 f, .int .i64 i, x 7, x 8, x 9, x 10, x 11, x 12, x 13, x 14, x 15, x 16, x 17, x 18, x 19, x 20, x 21, x 22, x 23, x 24, x 25, x 26, x 27, x 28, x 29, x 30, x 31, x 32, x 33, x 34, x 35, x 36, x 37, x 38, x 39, x 40, x 41, x 42, x 43, x 44, x 45, x 46, x 47, x 48, x 49, x 50, x 51, x 52, x 53, x 54, x 55, x 56, x 57, x 58]
set_option maxHeartbeats 1000000 in
theorem delems_pc (l : List UInt8) (hl : l.length ≤ 16777216) (hQ1 : listB l = none → Q (.tup [.sl false 1 [], .bool false]) H) (hQ2 : ∀ y, listB l = some y → Q (.tup [.sl false 1 (strs y), .bool true]) H) : PC Tryz.prog E 142 [.str l] H Q := by
 refine pc_enter Tryz.func142 rfl [52] [] (by kernel_rfl) (fun hB => ?_)
 simp [Tryz.ntmps142, Tryz.results142, List.replicate_succ]
 refine VL_nil 4 1 (by rfl) ?_
 simp only [List.set_cons_succ, List.set_cons_zero]
 refine VL_go (elInv l H) (fun fr _ => l.length + 1 - (ai (aget fr 6)).toNat) ⟨rfl, 0, 0, [], .inl ⟨by omega, by omega, by simp, cutIs_start l⟩, fr_intro (by simp [strs, keepB])⟩ ?_
 rintro fr H' ⟨rfl, f, i, out, ⟨hf, hi, hout, hc⟩ | ⟨rfl, hc⟩, x, rfl⟩
 ·have hkl := keepB_le out
  have hm : (keepB out).length + 1 ≤ maxLen ∧ ((keepB out).length + 1) * 16 ≤ 140737488355328 := by unfold maxLen; omega
  have hle : (i : Int) ≤ l.length := by omega
  have hw : IntKind.i64.wrap ((i : Int) + 1) = i + 1 := wrap_in (by omega) (by omega)
  have pl : ((l.drop f).take (i - f)).length ≤ cap := by rw [List.length_take, List.length_drop]; simp only [cap]; omega
  have hst := keep_snoc out ((l.drop f).take (i - f))
  by_cases h : i < l.length
  rotate_left
  ·obtain rfl : i = l.length := by omega
   have hcut := cutIs_end hc hf (Nat.le_refl _)
   have hsl : (l.drop f).take (l.length - f) = l.drop f := List.take_of_length_le (by rw [List.length_drop]; omega)
   rw [hsl] at hcut pl hst
   simp [hf, hsl]
   refine ref_trim_pc E _ _ _ pl ?_
   cases ht : (trimB (l.drop f)).isEmpty
   ·have hne : (trimB (l.drop f) != []) = true := by rw [len_ne _ 0, ht]; rfl
    rw [ht] at hst
    have hsn := strs_snoc (keepB out) (trimB (l.drop f))
    simp [hne, hm, hw]
    exact Kloop_normal ⟨rfl, l.length + 1, l.length + 1, _, .inr ⟨rfl, hcut⟩, fr_intro (by rw [hst]; simp [strs])⟩ (by simp)
   ·have hne : (trimB (l.drop f) != []) = false := by rw [len_ne _ 0, ht]; rfl
    rw [ht] at hst
    simp [hne, hw]
    exact Kloop_normal ⟨rfl, l.length + 1, l.length + 1, _, .inr ⟨rfl, hcut⟩, fr_intro (by rw [hst]; simp [strs])⟩ (by simp)
  obtain ⟨b, hb⟩ : ∃ b, l[i]? = some b := ⟨_, List.getElem?_eq_getElem h⟩
  have hat := lat_eq hb
  have hbn := b.toNat_lt
  have t1 : ((i : Int) == (l.length : Int)) = false := by simp; omega
  by_cases b34 : b.toNat = 34
  ·have hx34 : b = 34 := UInt8.toNat_inj.1 b34
   have hb' : l[i]? = some 34 := by rw [hb, hx34]
   have t2 : ((b.toNat : Int) == 34) = true := by simp; omega
   have hd : (l.drop i).take (l.length - i) = l.drop i := List.take_of_length_le (by rw [List.length_drop]; omega)
   simp [h, hat, t2, hd, hi]
   refine quoted_pc E _ _ (l.drop i) (by rw [List.length_drop]; omega) (by rw [List.getElem?_drop]; exact hb') ?_
   cases hu : unquote (l.drop i) with
   | none =>
    have ha : unqAns (l.drop i) = ([], 0, 13) := by unfold unqAns; rw [hu]
    have hbad := cutIs_bad hc hf hb' hu
    simp [ha]
    exact aPost_same0 hB (v0 := .tup [.nil, .bool false]) (by simp) (nilV_tup2 1 _ rfl) (by simp) (hQ1 (by unfold listB; rw [hbad]; rfl))
   | some p =>
    obtain ⟨y, k⟩ := p
    have ha : unqAns (l.drop i) = (y, (k : Int), 0) := by unfold unqAns; rw [hu]
    have hk := unquote_le hu
    rw [List.length_drop] at hk
    have hk0 : ((k : Int) == 0) = false := by rw [beq_eq_false_iff_ne]; omega
    have hw1 : IntKind.i64.wrap ((k : Int) - 1) = (k : Int) - 1 := wrap_in (by omega) (by omega)
    have hw2 : IntKind.i64.wrap ((i : Int) + ((k : Int) - 1)) = (i : Int) + ((k : Int) - 1) := wrap_in (by omega) (by omega)
    have hw3 : IntKind.i64.wrap ((i : Int) + ((k : Int) - 1) + 1) = ((i + k : Nat) : Int) := by rw [wrap_in (by omega) (by omega)]; omega
    simp [ha, hk0, hw1, hw2, hw3]
    exact Kloop_normal ⟨rfl, f, i + k, out, .inl ⟨by omega, by omega, by omega, cutIs_quote hc hf hb' hu⟩, fr_intro (by simp)⟩ (by simp; omega)
  ·have t2 : ((b.toNat : Int) == 34) = false := by simp; omega
   have ne34 : b ≠ 34 := by rintro rfl; exact b34 rfl
   by_cases b44 : b.toNat = 44
   ·have hx44 : b = 44 := UInt8.toNat_inj.1 b44
    have hb' : l[i]? = some 44 := by rw [hb, hx44]
    have t3 : ((b.toNat : Int) == 44) = true := by simp; omega
    have hcm := cutIs_comma hc hf hb'
    simp [h, hat, t1, t2, t3, hf, hi]
    refine ref_trim_pc E _ _ _ pl ?_
    cases ht : (trimB ((l.drop f).take (i - f))).isEmpty
    ·have hne : (trimB ((l.drop f).take (i - f)) != []) = true := by rw [len_ne _ 0, ht]; rfl
     rw [ht] at hst
     simp [hne, hm, hw]
     exact Kloop_normal ⟨rfl, i + 1, i + 1, _, .inl ⟨by omega, by omega, by simp; omega, hcm⟩, fr_intro (by rw [hst]; simp [strs])⟩ (by simp; omega)
    ·have hne : (trimB ((l.drop f).take (i - f)) != []) = false := by rw [len_ne _ 0, ht]; rfl
     rw [ht] at hst
     simp [hne, hw]
     exact Kloop_normal ⟨rfl, i + 1, i + 1, _, .inl ⟨by omega, by omega, by simp; omega, hcm⟩, fr_intro (by rw [hst]; simp [strs])⟩ (by simp; omega)
   ·have t3 : ((b.toNat : Int) == 44) = false := by simp; omega
    have ne44 : b ≠ 44 := by rintro rfl; exact b44 rfl
    simp [h, hi, hat, t1, t2, t3, hw]
    exact Kloop_normal ⟨rfl, f, i + 1, out, .inl ⟨by omega, by omega, by omega, cutIs_plain hc hf hb ne44 ne34⟩, fr_intro (by simp)⟩ (by simp; omega)
 ·have hgt : ¬ ((l.length : Int) + 1 ≤ l.length) := by omega
  have hq := hQ2 (keepB out) (by unfold listB; rw [hc]; rfl)
  simp [hgt]
  exact aPost_same0 hB (v0 := .tup [.sl false 1 (strs (keepB out)), .bool true]) (by simp) (nilV_refl _) (by simp [bnd_strs]) hq
def dlInv (vs : List (List UInt8)) (H : Hp) (fr : List AV) (H' : Hp) : Prop := H' = H ∧ ∃ (i : Nat) (acc : List (List UInt8)), i ≤ vs.length ∧ listsB (vs.take i) = some acc ∧
 ∃ x : Nat → AV, fr = [x 0, x 1, x 2, x 3, x 4, x 5, .sl true 1 (strs acc), x 7, x 8, x 9, x 10, x 11, x 12, .sl false 1 (strs vs), .int .i64 vs.length, .int .i64 i, x 16, x 17, x 18, x 19, x 20, x 21, x 22, x 23, x 24, x 25, x 26, x 27, x 28, x 29, x 30]
theorem dlist_pc (l : List Fld) (n : List UInt8) (hl : fsz l + l.length ≤ 4194304) (hn : n.length ≤ cap) (hQ : Q (.tup [.sl false 1 (strs (flistA l n).1), .int .i64 (flistA l n).2]) H) : PC Tryz.prog E 115 [.sl false 2 (flds l), .str n] H Q := by
 have hvz := vsz_allB l n
 have q1 : listsB (allB l n) = none → Q (.tup [.sl false 1 [], .int .i64 14]) H := fun h => by
  have : flistA l n = ([], 14) := by unfold flistA; rw [h]
  rw [this] at hQ; exact hQ
 have q2 : ∀ acc, listsB (allB l n) = some acc → Q (.tup [.sl false 1 (strs acc), .int .i64 0]) H := fun acc h => by
  have : flistA l n = (acc, 0) := by unfold flistA; rw [h]
  rw [this] at hQ; exact hQ
 refine pc_enter Tryz.func115 rfl [26] [] (by kernel_rfl) (fun hB => ?_)
 simp [Tryz.ntmps115, Tryz.results115, List.replicate_succ]
 refine dall_pc E _ _ l n (by omega) hn ?_
 generalize allB l n = vs at *
 have hvl := vsz_len vs
 simp
 refine VL_nil 6 1 (by rfl) ?_
 simp only [List.set_cons_succ, List.set_cons_zero]
 refine VL_go (dlInv vs H) (fun fr _ => vs.length - (ai (aget fr 15)).toNat) ⟨rfl, 0, [], by omega, rfl, fr_intro (by simp [strs])⟩ ?_
 rintro fr H' ⟨rfl, i, acc, hi, hacc, x, rfl⟩
 have hlen := listsB_len _ _ hacc
 have hvt := vsz_take vs i
 by_cases h : i < vs.length
 ·obtain ⟨s, hs⟩ : ∃ s, vs[i]? = some s := ⟨_, List.getElem?_eq_getElem h⟩
  have hat := strs_at hs
  have hsz := vsz_mem hs
  have hw : IntKind.i64.wrap ((i : Int) + 1) = i + 1 := wrap_in (by omega) (by omega)
  simp [h, hat]
  refine delems_pc E _ _ s (by omega) (fun hb => ?_) (fun y hb => ?_)
  ·simp
   exact aPost_same0 hB (v0 := .tup [.nil, .int .i64 14]) (by simp) (nilV_tup2 1 _ rfl) (by simp) (q1 (listsB_stop hs hb))
  ·have hyl := listB_len hb
   have hst := listsB_step hs hacc hb
   have m1 : acc.length + y.length ≤ maxLen := by unfold maxLen; omega
   have m2 : (acc.length + y.length) * 16 ≤ 140737488355328 := by omega
   have hsa : strs acc ++ strs y = strs (acc ++ y) := by simp [strs]
   simp [m1, m2, hsa, hw]
   exact Kloop_normal ⟨rfl, i + 1, acc ++ y, by omega, hst, fr_intro (by simp)⟩ (by simp; omega)
 ·obtain rfl : i = vs.length := by omega
  rw [List.take_of_length_le (Nat.le_refl _)] at hacc
  simp
  exact aPost_same0 hB (v0 := .tup [.sl false 1 (strs acc), .int .i64 0]) (by simp) (nilV_refl _) (by simp [bnd_strs]) (q2 acc hacc)
def dtInv (acc : List (List UInt8)) (H : Hp) (fr : List AV) (H' : Hp) : Prop := H' = H ∧ ∃ i : Nat, i ≤ acc.length ∧ (acc.take i).all tokB = true ∧
 ∃ x : Nat → AV, fr = [x 0, x 1, x 2, x 3, x 4, x 5, x 6, x 7, .sl true 1 (strs ((acc.take i).map low)), x 9, x 10, x 11, x 12, x 13, x 14, x 15, x 16, x 17, x 18, x 19, .sl false 1 (strs acc), .int .i64 acc.length, .int .i64 i, x 23, x 24, x 25, x 26, x 27, x 28, x 29, x 30, x 31, x 32, x 33, x 34, x 35]
theorem dtokens_pc (l : List Fld) (n : List UInt8) (hl : fsz l + l.length ≤ 4194304) (hn : n.length ≤ cap) (hQ : Q (.tup [.sl false 1 (strs (toksA l n).1), .int .i64 (toksA l n).2]) H) : PC Tryz.prog E 96 [.sl false 2 (flds l), .str n] H Q := by
 have hvz := vsz_allB l n
 refine pc_enter Tryz.func96 rfl [29] [] (by kernel_rfl) (fun hB => ?_)
 simp [Tryz.ntmps96, Tryz.results96, List.replicate_succ]
 refine dlist_pc E _ _ l n hl hn ?_
 cases hacc : listsB (allB l n) with
 | none =>
  have e1 : flistA l n = ([], 14) := by unfold flistA; rw [hacc]
  have e2 : toksA l n = ([], 14) := by unfold toksA; rw [hacc]
  rw [e2] at hQ
  rw [e1]
  simp
  exact aPost_same0 hB (v0 := .tup [.nil, .int .i64 14]) (by simp) (nilV_tup2 1 _ rfl) (by simp) hQ
 | some acc =>
  have e1 : flistA l n = (acc, 0) := by unfold flistA; rw [hacc]
  have e2 : toksA l n = if acc.all tokB = true then (acc.map low, 0) else ([], 10) := by unfold toksA; rw [hacc]
  have hmem := listsB_mem _ _ hacc
  have hlen := listsB_len _ _ hacc
  rw [e2] at hQ
  rw [e1]
  clear e1 e2 hacc
  simp
  refine VL_nil 8 1 (by rfl) ?_
  simp only [List.set_cons_succ, List.set_cons_zero]
  refine VL_go (dtInv acc H) (fun fr _ => acc.length - (ai (aget fr 22)).toNat) ⟨rfl, 0, by omega, by simp, fr_intro (by simp [strs])⟩ ?_
  rintro fr H' ⟨rfl, i, hi, hall, x, rfl⟩
  by_cases h : i < acc.length
  ·obtain ⟨u, hu⟩ : ∃ u, acc[i]? = some u := ⟨_, List.getElem?_eq_getElem h⟩
   have hat := strs_at hu
   have hw : IntKind.i64.wrap ((i : Int) + 1) = i + 1 := wrap_in (by omega) (by omega)
   have hul := hmem u (List.mem_of_getElem? hu)
   simp [h, hat]
   refine ref_token_pc E _ _ u (by simp only [cap]; omega) ?_
   cases ht : tokB u with
   | false =>
    have e : acc.all tokB = false := all_stop tokB acc i u hu ht
    rw [if_neg (by rw [e]; simp)] at hQ
    simp
    exact aPost_same0 hB (v0 := .tup [.nil, .int .i64 10]) (by simp) (nilV_tup2 1 _ rfl) (by simp) hQ
   | true =>
    simp
    refine ref_lower_pc E _ _ u (by simp only [cap]; omega) ?_
    have m1 : (List.take i acc).length + 1 ≤ maxLen := by rw [List.length_take]; unfold maxLen; omega
    have m2 : ((List.take i acc).length + 1) * 16 ≤ 140737488355328 := by rw [List.length_take]; omega
    rw [List.length_take, Nat.min_eq_left hi] at m1 m2
    have hst : strs ((acc.take i).map low) ++ [[.str (low u)]] = strs ((acc.take (i + 1)).map low) := by
     rw [List.take_add_one, hu]; simp [strs]
    have hmin : min i acc.length = i := Nat.min_eq_left hi
    simp [m1, m2, hmin, hw]
    exact Kloop_normal ⟨rfl, i + 1, by omega, by rw [all_step tokB acc i u hu, hall, ht]; rfl, fr_intro (by rw [← hst]; simp)⟩ (by simp; omega)
  ·obtain rfl : i = acc.length := by omega
   rw [List.take_of_length_le (Nat.le_refl _)] at hall
   rw [if_pos hall] at hQ
   simp
   exact aPost_same0 hB (v0 := .tup [.sl false 1 (strs (acc.map low)), .int .i64 0]) (by simp) (nilV_refl _) (by simp [bnd_strs]) hQ
end
end Go.Proofs.YtnnhdehmlkkfjaaGreatDoor
set_option maxRecDepth 100000
namespace Go.Proofs.YtnnhdehmlkkfjaaGreatDoor
open Go Go.RowKit Go.Proofs
set_option maxRecDepth 100000 in
theorem digd_all : ∀ n, n < 256 → (let b := UInt8.ofNat n; (48 ≤ b.toNat ∧ b.toNat ≤ 57 → dig b = (b.toNat : Int) - 48) ∧ (¬ (48 ≤ b.toNat ∧ b.toNat ≤ 57) → ¬ (0 ≤ dig b ∧ dig b < 10))) := by decide
theorem dig_yes {b : UInt8} (h : 48 ≤ b.toNat ∧ b.toNat ≤ 57) : dig b = (b.toNat : Int) - 48 := by
 have := digd_all b.toNat b.toNat_lt
 simp at this
 exact this.1 h.1 h.2
theorem dig_no {b : UInt8} (h : ¬ (48 ≤ b.toNat ∧ b.toNat ≤ 57)) : ¬ (0 ≤ dig b ∧ dig b < 10) := by
 have := (digd_all b.toNat b.toNat_lt).2 (by simpa using h)
 simpa using this
def decIs (p : List UInt8) (n : Int) : Prop := okDigs 10 p = true ∧ ((n ≤ 1099511627776 ∧ n = numOf 10 p) ∨ (1099511627776 < n ∧ 1099511627776 < numOf 10 p)) ∧ 0 ≤ n ∧ n ≤ 10995116277769
theorem decIs_step {l : List UInt8} {i : Nat} {b : UInt8} {n : Int} (h : decIs (l.take i) n) (hb : l[i]? = some b) (hd : 48 ≤ b.toNat ∧ b.toNat ≤ 57) :
  decIs (l.take (i + 1)) (if n ≤ 1099511627776 then 10 * n + ((b.toNat : Int) - 48) else n) := by
 obtain ⟨h1, h2, h3, h4⟩ := h
 have hs := numOf_step 10 l i b hb
 have ho := okDigs_step 10 l i b hb
 have hdg := dig_yes hd
 have hn0 := numOf_nonneg 10 (by omega) (l.take i) h1
 rw [hdg] at hs ho
 refine ⟨?_, ?_, ?_, ?_⟩
 ·rw [ho, h1, decide_eq_true (by omega)]; rfl
 ·rcases h2 with ⟨h5, h6⟩ | ⟨h5, h6⟩
  ·rw [if_pos h5]
   by_cases hm : 10 * n + ((b.toNat : Int) - 48) ≤ 1099511627776
   ·exact .inl ⟨hm, by rw [hs, ← h6]; omega⟩
   ·exact .inr ⟨by omega, by rw [hs, ← h6]; omega⟩
  ·rw [if_neg (by omega)]
   exact .inr ⟨h5, by rw [hs]; omega⟩
 ·split <;> omega
 ·split <;> omega
theorem decIs_end {l : List UInt8} {n : Int} (h : decIs l n) : decA l = if l = [] ∨ 1099511627776 < n then -1 else n := by
 obtain ⟨h1, h2, h3, h4⟩ := h
 by_cases hl : l = []
 ·rw [if_pos (.inl hl), hl]
  decide
 rcases h2 with ⟨h5, h6⟩ | ⟨h5, h6⟩
 ·have e : numAns 10 1099511627776 l = (numOf 10 l, 0) := by
   unfold numAns
   rw [if_neg hl, if_neg (by rw [h1]; simp), if_neg (by omega)]
  rw [decA_ok (by rw [e]), e, if_neg (by rintro (h | h); exact hl h; omega), h6]
 ·have e : numAns 10 1099511627776 l = (0, 12) := by
   unfold numAns
   rw [if_neg hl, if_neg (by rw [h1]; simp), if_pos (.inr h6)]
  rw [decA_bad (by rw [e]; decide), if_pos (.inr h5)]
theorem dec_stop {l : List UInt8} {i : Nat} {b : UInt8} (hb : l[i]? = some b) (hd : ¬ (48 ≤ b.toNat ∧ b.toNat ≤ 57)) : decA l = -1 := by
 apply decA_bad
 have hne : l ≠ [] := fun e => by rw [e] at hb; simp at hb
 unfold numAns
 rw [if_neg hne, if_pos (okDigs_bad 10 l i b hb (dig_no hd))]
 decide
section
variable (E : Env) (H : Hp) (Q : AV → Hp → Prop)
def ddcInv (l : List UInt8) (H : Hp) (fr : List AV) (H' : Hp) : Prop := H' = H ∧ ∃ (i : Nat) (n : Int), i ≤ l.length ∧ decIs (l.take i) n ∧ ∃ x : Nat → AV, fr = [.str l, x 1, x 2, .int .i64 n, .int .i64 i, x 5, x 6, x 7, x 8, x 9, x 10, x 11, x 12, x 13, x 14, x 15, x 16, x 17, x 18, x 19, x 20, x 21, x 22, x 23, x 24, x 25, x 26, x 27, x 28, x 29, x 30, x 31, x 32, x 33, x 34, x 35, x 36, x 37]
theorem ddecimal_pc (l : List UInt8) (hl : l.length ≤ cap) (hQ : Q (.int .i64 (decA l)) H) : PC Tryz.prog E 116 [.str l] H Q := by
 simp only [cap] at hl
 have fin : ∀ a : Int, decA l = a → Q (.int .i64 a) H := fun a ha => ha ▸ hQ
 refine pc_enter Tryz.func116 rfl [] [] (by kernel_rfl) (fun hB => ?_)
 simp [Tryz.ntmps116, Tryz.results116, List.replicate_succ]
 refine VL_go (ddcInv l H) (fun fr _ => l.length - (ai (aget fr 4)).toNat) ⟨rfl, 0, 0, by omega, ⟨rfl, .inl ⟨by omega, rfl⟩, by omega, by omega⟩, fr_intro (by simp)⟩ ?_
 rintro fr H' ⟨rfl, i, n, hi, hn, x, rfl⟩
 obtain ⟨_, _, n0, n1⟩ := id hn
 by_cases h : i < l.length
 ·obtain ⟨b, hb⟩ : ∃ b, l[i]? = some b := ⟨_, List.getElem?_eq_getElem h⟩
  have hat := lat_eq hb
  have hbn := b.toNat_lt
  have hw : IntKind.i64.wrap ((i : Int) + 1) = i + 1 := wrap_in (by omega) (by omega)
  by_cases h48 : (b.toNat : Int) < 48
  ·simp [h, hat, h48]
   exact aPost_same0 hB rfl (nilV_refl _) (by simp) (fin _ (dec_stop hb (by omega)))
  by_cases h57 : (57 : Int) < b.toNat
  ·simp [h, hat, h48, h57]
   exact aPost_same0 hB rfl (nilV_refl _) (by simp) (fin _ (dec_stop hb (by omega)))
  have hst := decIs_step hn hb (by omega)
  have w1 : IntKind.u8.wrap ((b.toNat : Int) - 48) = (b.toNat : Int) - 48 := by
   unfold IntKind.wrap
   simp [IntKind.signed, IntKind.bits, IntKind.min]
   omega
  by_cases hM : n ≤ 1099511627776
  ·rw [if_pos hM] at hst
   have w2 : IntKind.i64.wrap (10 * n) = 10 * n := wrap_in (by omega) (by omega)
   have w3 : IntKind.i64.wrap ((b.toNat : Int) - 48) = (b.toNat : Int) - 48 := wrap_in (by omega) (by omega)
   have w4 : IntKind.i64.wrap (10 * n + ((b.toNat : Int) - 48)) = 10 * n + ((b.toNat : Int) - 48) := wrap_in (by omega) (by omega)
   simp [h, hat, h48, h57, hM, w1, w2, w3, w4, hw]
   exact Kloop_normal ⟨rfl, i + 1, _, by omega, hst, fr_intro (by simp)⟩ (by simp; omega)
  ·rw [if_neg hM] at hst
   simp [h, hat, h48, h57, hM, hw]
   exact Kloop_normal ⟨rfl, i + 1, _, by omega, hst, fr_intro (by simp)⟩ (by simp; omega)
 ·obtain rfl : i = l.length := by omega
  rw [List.take_of_length_le (Nat.le_refl _)] at hn
  have he := decIs_end hn
  by_cases h0 : l = []
  ·rw [if_pos (.inl h0)] at he
   have h0' : (l == []) = true := by rw [h0]; rfl
   simp [h0']
   exact aPost_same0 hB rfl (nilV_refl _) (by simp) (fin _ he)
  have h0' : (l == []) = false := by simpa using h0
  by_cases hM : 1099511627776 < n
  ·rw [if_pos (.inr hM)] at he
   simp [h0', hM]
   exact aPost_same0 hB rfl (nilV_refl _) (by simp) (fin _ he)
  ·rw [if_neg (by rintro (h | h); exact h0 h; exact hM h)] at he
   simp [h0', hM]
   exact aPost_same0 hB rfl (nilV_refl _) (by simp) (fin _ he)
def dlnInv (acc : List (List UInt8)) (m : Int) (H : Hp) (fr : List AV) (H' : Hp) : Prop := H' = H ∧ ∃ i : Nat, i ≤ acc.length ∧ (∀ y ∈ acc.take i, decA y = m) ∧ (0 < i → 0 ≤ m) ∧
 ∃ x : Nat → AV, fr = [x 0, x 1, x 2, x 3, x 4, .sl false 1 (strs acc), x 6, x 7, x 8, x 9, x 10, x 11, x 12, x 13, x 14, x 15, x 16, x 17, x 18, x 19, x 20, x 21, x 22, x 23, x 24, .sl false 1 (strs acc), .int .i64 acc.length, .int .i64 i, x 28, x 29, x 30, x 31, x 32, x 33, x 34, x 35, x 36, x 37, x 38, x 39, x 40, x 41, x 42, x 43, x 44, x 45, x 46, x 47]
set_option maxHeartbeats 1000000 in
theorem dlength_pc (l : List Fld) (hl : fsz l + l.length ≤ 4194304) (hQ : Q (.tup [.int .i64 (lengthA l).1, .bool (lengthA l).2.1, .int .i64 (lengthA l).2.2]) H) : PC Tryz.prog E 83 [.sl false 2 (flds l)] H Q := by
 have fin : ∀ a : Int × Bool × Int, lengthA l = a → Q (.tup [.int .i64 a.1, .bool a.2.1, .int .i64 a.2.2]) H := fun a ha => ha ▸ hQ
 have hcn : nCL.length ≤ cap := by simp [nCL, cap]
 have hvz := vsz_allB l nCL
 refine pc_enter Tryz.func83 rfl [] [(9, [0, 0, 0, 0, 0, 1])] (by kernel_rfl) (fun hB => ?_)
 simp [Tryz.ntmps83, Tryz.results83, List.replicate_succ]
 refine dall_pc E _ _ l nCL (by omega) hcn ?_
 by_cases h0 : allB l nCL = []
 ·have hs0 : strs ([] : List (List UInt8)) = [] := rfl
  simp [h0, hs0]
  exact aPost_same0 hB rfl (nilV_refl _) (by simp) (fin _ (by unfold lengthA; rw [if_pos h0] : lengthA l = (0, false, 0)))
 have h0' : (((allB l nCL).length : Int) == 0) = false := by
  rw [beq_eq_false_iff_ne]
  intro e
  exact h0 (List.length_eq_zero_iff.1 (by omega))
 simp [h0']
 refine dlist_pc E _ _ l nCL hl hcn ?_
 cases hacc : listsB (allB l nCL) with
 | none =>
  have e1 : flistA l nCL = ([], 14) := by unfold flistA; rw [hacc]
  have e2 : lengthA l = (0, false, 66) := by unfold lengthA; rw [if_neg h0, hacc]
  rw [e1]
  simp
  exact aPost_same0 hB rfl (nilV_refl _) (by simp) (fin _ e2)
 | some acc =>
  have e1 : flistA l nCL = (acc, 0) := by unfold flistA; rw [hacc]
  have hmem := listsB_mem _ _ hacc
  have hlen := listsB_len _ _ hacc
  rw [e1]
  cases acc with
  | nil =>
   have e2 : lengthA l = (0, false, 66) := by unfold lengthA; rw [if_neg h0, hacc]
   have hs0 : strs ([] : List (List UInt8)) = [] := rfl
   simp [hs0]
   exact aPost_same0 hB rfl (nilV_refl _) (by simp) (fin _ e2)
  | cons w r =>
   have e2 : lengthA l = if decA w < 0 ∨ (r.all fun y => decide (decA y = decA w)) = false then (0, false, 66) else (decA w, true, 0) := by unfold lengthA; rw [if_neg h0, hacc]
   obtain ⟨acc, ha⟩ : ∃ acc, w :: r = acc := ⟨_, rfl⟩
   have hw0 : acc[0]? = some w := by rw [← ha]; rfl
   have hat0 := strs_at hw0
   have hpos : 0 < acc.length := by rw [← ha]; simp
   have hne : ((acc.length : Int) == 0) = false := by rw [beq_eq_false_iff_ne]; omega
   have hbad : ∀ y ∈ acc, (decA y < 0 ∨ decA y ≠ decA w) → lengthA l = (0, false, 66) := fun y hy hb => by
    rw [e2]
    apply if_pos
    by_cases hlt : decA w < 0
    ·exact .inl hlt
    right
    rw [← ha] at hy
    rcases List.mem_cons.1 hy with rfl | hy
    ·rcases hb with hb | hb
     ·exact absurd hb hlt
     ·exact absurd rfl hb
    ·rw [List.all_eq_false]
     refine ⟨y, hy, ?_⟩
     simp only [decide_eq_true_eq]
     rcases hb with hb | hb
     ·omega
     ·exact hb
   have hgood : (∀ y ∈ acc, decA y = decA w) → 0 ≤ decA w → lengthA l = (decA w, true, 0) := fun h1 h2 => by
    rw [e2]
    apply if_neg
    rintro (h | h)
    ·omega
    ·rw [List.all_eq_false] at h
     obtain ⟨y, hy, hh⟩ := h
     exact hh (by simpa using h1 y (by rw [← ha]; exact List.mem_cons_of_mem _ hy))
   rw [ha] at hmem hlen ⊢
   have hwl := hmem w (List.mem_of_getElem? hw0)
   clear e2 hacc e1
   simp [hne]
   refine VL_go (dlnInv acc (decA w) H) (fun fr _ => acc.length - (ai (aget fr 27)).toNat) ⟨rfl, 0, by omega, by simp, by omega, fr_intro (by simp)⟩ ?_
   rintro fr H' ⟨rfl, i, hi, hall, hm0, x, rfl⟩
   by_cases h : i < acc.length
   ·obtain ⟨u, hu⟩ : ∃ u, acc[i]? = some u := ⟨_, List.getElem?_eq_getElem h⟩
    have hat := strs_at hu
    have hum := List.mem_of_getElem? hu
    have hul := hmem u hum
    have hw : IntKind.i64.wrap ((i : Int) + 1) = i + 1 := wrap_in (by omega) (by omega)
    simp [h, hat, hat0, hpos]
    refine ddecimal_pc E _ _ u (by simp only [cap]; omega) ?_
    by_cases hneg : decA u < 0
    ·simp [hneg]
     exact aPost_same0 hB rfl (nilV_refl _) (by simp) (fin _ (hbad u hum (.inl hneg)))
    simp [hneg, hat0, hpos]
    refine ddecimal_pc E _ _ u (by simp only [cap]; omega) ?_
    simp [hat0, hpos]
    refine ddecimal_pc E _ _ w (by simp only [cap]; omega) ?_
    by_cases heq : decA u = decA w
    ·simp [heq, hw]
     refine Kloop_normal ⟨rfl, i + 1, by omega, fun y hy => ?_, fun _ => by omega, fr_intro (by simp)⟩ (by simp; omega)
     rw [List.take_add_one, hu] at hy
     rcases List.mem_append.1 hy with hy | hy
     ·exact hall y hy
     ·simp at hy; subst hy; exact heq
    ·have heq' : (decA u != decA w) = true := by simpa using heq
     simp [heq']
     exact aPost_same0 hB rfl (nilV_refl _) (by simp) (fin _ (hbad u hum (.inr heq)))
   ·obtain rfl : i = acc.length := by omega
    rw [List.take_of_length_le (Nat.le_refl _)] at hall
    have hres := hgood hall (hm0 hpos)
    simp [hat0, hpos]
    refine ddecimal_pc E _ _ w (by simp only [cap]; omega) ?_
    simp
    exact aPost_same0 hB rfl (nilV_refl _) (by simp) (fin _ hres)
theorem dcodings_pc (l : List Fld) (hl : fsz l + l.length ≤ 4194304) (hQ : Q (.tup [.sl false 1 (strs (codingsA l).1), .bool (codingsA l).2.1, .int .i64 (codingsA l).2.2]) H) : PC Tryz.prog E 82 [.sl false 2 (flds l)] H Q := by
 refine pc_enter Tryz.func82 rfl [] [] (by kernel_rfl) (fun hB => ?_)
 have fin : ∀ a : List (List UInt8) × Bool × Int, codingsA l = a → Q (.tup [.sl false 1 (strs a.1), .bool a.2.1, .int .i64 a.2.2]) H := fun a ha => ha ▸ hQ
 have hcn : nTE.length ≤ cap := by simp [nTE, cap]
 simp [Tryz.ntmps82, Tryz.results82, List.replicate_succ]
 refine dall_pc E _ _ l nTE (by omega) hcn ?_
 by_cases h0 : allB l nTE = []
 ·have e : codingsA l = ([], false, 0) := by unfold codingsA; rw [if_pos h0]
  have hs0 : strs ([] : List (List UInt8)) = [] := rfl
  simp [h0, hs0]
  exact aPost_same0 hB (v0 := .tup [.nil, .bool false, .int .i64 0]) (by simp) (nilV_tup3 1 _ _ rfl rfl) (by simp) (fin _ e)
 have h0' : (((allB l nTE).length : Int) == 0) = false := by
  rw [beq_eq_false_iff_ne]
  intro e
  exact h0 (List.length_eq_zero_iff.1 (by omega))
 simp [h0']
 refine dtokens_pc E _ _ l nTE hl hcn ?_
 by_cases he : (toksA l nTE).2 = 0
 ·have e : codingsA l = ((toksA l nTE).1, true, 0) := by unfold codingsA; rw [if_neg h0, if_pos he]
  simp [he]
  exact aPost_same0 hB (v0 := .tup [.sl false 1 (strs (toksA l nTE).1), .bool true, .int .i64 0]) (by simp) (nilV_refl _) (by simp [bnd_strs]) (fin _ e)
 ·have e : codingsA l = ([], false, 67) := by unfold codingsA; rw [if_neg h0, if_neg he]
  have he2 : ((toksA l nTE).2 != 0) = true := by simpa using he
  simp [he2]
  exact aPost_same0 hB (v0 := .tup [.nil, .bool false, .int .i64 67]) (by simp) (nilV_tup3 1 _ _ rfl rfl) (by simp) (fin _ e)
set_option maxHeartbeats 1000000 in
theorem dframing_pc (l : List Fld) (old : Bool) (hl : fsz l + l.length ≤ 4194304) (hQ : Q (.tup [.int .i64 (framingA l old).1, .int .i64 (framingA l old).2.1, .int .i64 (framingA l old).2.2]) H) : PC Tryz.prog E 58 [.sl false 2 (flds l), .bool old] H Q := by
 have fin : ∀ a : Int × Int × Int, framingA l old = a → Q (.tup [.int .i64 a.1, .int .i64 a.2.1, .int .i64 a.2.2]) H := fun a ha => ha ▸ hQ
 have hcl := codA_len l hl
 refine pc_enter Tryz.func58 rfl [] [] (by kernel_rfl) (fun hB => ?_)
 simp [Tryz.ntmps58, Tryz.results58, List.replicate_succ]
 refine dcodings_pc E _ _ l hl ?_
 obtain ⟨⟨cs, cd, ce⟩, hC⟩ : ∃ c, codingsA l = c := ⟨_, rfl⟩
 obtain ⟨⟨n, tl, f⟩, hL⟩ : ∃ c, lengthA l = c := ⟨_, rfl⟩
 have hF := framing_of (old := old) hC hL
 rw [hC] at hcl
 rw [hC]
 simp only at hcl ⊢
 by_cases h1 : ce = 0
 rotate_left
 ·rw [if_pos (.inl h1)] at hF
  have h1' : (ce != 0) = true := by simpa using h1
  simp [h1']
  exact aPost_same0 hB rfl (nilV_refl _) (by simp) (fin _ hF)
 subst h1
 cases cd with
 | true =>
  cases old with
  | true =>
   rw [if_pos (.inr ⟨rfl, .inl rfl⟩)] at hF
   simp
   exact aPost_same0 hB rfl (nilV_refl _) (by simp) (fin _ hF)
  | false =>
   by_cases h2 : cs = [vChunked]
   ·subst h2
    rw [if_neg (by simp)] at hF
    have hat : lat (strs [vChunked]) 0 = some [.str vChunked] := rfl
    have hv : (vChunked != [99, 104, 117, 110, 107, 101, 100]) = false := by decide
    simp [hat, hv]
    refine dlength_pc E _ _ l hl ?_
    rw [hL]
    simp only
    by_cases h3 : f = 0
    ·subst h3
     rw [if_neg (by simp)] at hF
     cases tl with
     | true =>
      rw [if_pos ⟨rfl, rfl⟩] at hF
      simp
      exact aPost_same0 hB rfl (nilV_refl _) (by simp) (fin _ hF)
     | false =>
      rw [if_neg (by simp), if_pos rfl] at hF
      simp
      exact aPost_same0 hB rfl (nilV_refl _) (by simp) (fin _ hF)
    ·rw [if_pos h3] at hF
     have h3' : (f != 0) = true := by simpa using h3
     simp [h3']
     exact aPost_same0 hB rfl (nilV_refl _) (by simp) (fin _ hF)
   ·rw [if_pos (.inr ⟨rfl, .inr h2⟩)] at hF
    match cs, h2 with
    | [], _ =>
     simp
     exact aPost_same0 hB rfl (nilV_refl _) (by simp) (fin _ hF)
    | [c], h2 =>
     have hat : lat (strs [c]) 0 = some [.str c] := rfl
     have hv : (c != [99, 104, 117, 110, 107, 101, 100]) = true := by simpa [vChunked] using h2
     simp [hat, hv]
     exact aPost_same0 hB rfl (nilV_refl _) (by simp) (fin _ hF)
    | c :: d :: r, _ =>
     have hl : ((r.length : Int) + 1 + 1 != 1) = true := by rw [bne_iff_ne]; omega
     simp [hl]
     exact aPost_same0 hB rfl (nilV_refl _) (by simp) (fin _ hF)
 | false =>
  simp
  refine dlength_pc E _ _ l hl ?_
  rw [hL]
  simp only
  by_cases h3 : f = 0
  ·subst h3
   cases tl with
   | true =>
    rw [if_neg (by simp), if_neg (by simp), if_neg (by simp), if_neg (by simp), if_pos rfl] at hF
    simp
    exact aPost_same0 hB rfl (nilV_refl _) (by simp) (fin _ hF)
   | false =>
    rw [if_neg (by simp), if_neg (by simp), if_neg (by simp), if_neg (by simp), if_neg (by simp)] at hF
    simp
    exact aPost_same0 hB rfl (nilV_refl _) (by simp) (fin _ hF)
  ·rw [if_neg (by simp), if_pos h3] at hF
   have h3' : (f != 0) = true := by simpa using h3
   simp [h3']
   exact aPost_same0 hB rfl (nilV_refl _) (by simp) (fin _ hF)
end
end Go.Proofs.YtnnhdehmlkkfjaaGreatDoor
