/- The document's size lines; ChunkSizes. -/
import Derived.Test.YtimhofphmgehgaaDoorChQ
import Derived.Lib.IndexLaws
set_option linter.unusedVariables false
set_option linter.unnecessarySimpa false
set_option linter.unusedSimpArgs false
set_option linter.unusedSectionVars false
set_option maxRecDepth 100000
namespace Go.Proofs.YtimhofphmgehgaaDoor
open Go Go.RowKit Go.Proofs

theorem index_at (l : List UInt8) (c : UInt8) (i : Nat) (h : l[i]? = some c) (hn : ∀ j, j < i → l[j]? ≠ some c) : Lib.indexByte l c = i := by
  have h1 := Lib.indexByte_ge l c
  by_cases h0 : Lib.indexByte l c = -1
  · exact absurd h (Lib.indexByte_none h0 i)
  · obtain ⟨o, ho⟩ : ∃ o : Nat, Lib.indexByte l c = o := ⟨(Lib.indexByte l c).toNat, by omega⟩
    obtain ⟨g1, g2⟩ := Lib.indexByte_some ho
    rw [ho]
    by_cases hlt : o < i
    · exact absurd g1 (hn o hlt)
    · by_cases hgt : i < o
      · exact absurd h (g2 i hgt)
      · omega
theorem index_no (l : List UInt8) (c : UInt8) (hn : ∀ j, j < l.length → l[j]? ≠ some c) : Lib.indexByte l c = -1 := by
  have h1 := Lib.indexByte_ge l c
  by_cases h0 : Lib.indexByte l c = -1
  · exact h0
  · obtain ⟨o, ho⟩ : ∃ o : Nat, Lib.indexByte l c = o := ⟨(Lib.indexByte l c).toNat, by omega⟩
    obtain ⟨g1, g2⟩ := Lib.indexByte_some ho
    exact absurd g1 (hn o (List.getElem?_eq_some_iff.1 g1).1)
theorem hex_nonneg (b : UInt8) : (0 ≤ dig b) = (isHex b = true) := by
  have h := isHex_dig b
  have hl := dig_lt b
  rw [h]
  simp only [decide_eq_true_eq, eq_iff_iff]
  omega
theorem okDigs_hex (l : List UInt8) (h : l.all isHex = true) : okDigs 16 l = true := by
  unfold okDigs
  rw [List.all_eq_true] at h ⊢
  intro b hb
  have := h b hb
  rw [isHex_dig] at this
  exact this
section
variable (E : Env) (H : Hp) (Q : AV → Hp → Prop)
def hxInv (c : UInt8) (H : Hp) (fr : List AV) (H' : Hp) : Prop := H' = H ∧ ∃ i : Nat, i ≤ 16 ∧ (∀ j, j < i → digs[j]? ≠ some (lowB c)) ∧ ∃ x : Nat → AV, fr = [.int .u8 (c.toNat : Int), x 1, x 2, .str digs, .int .i64 i, x 5, x 6, x 7, x 8, x 9, x 10, x 11, x 12, x 13, x 14, x 15, x 16, x 17, x 18, x 19]
theorem hexd_pc (c : UInt8) (hQ : Q (.int .i64 (dig c)) H) : PC Tryd.prog E 45 [.int .u8 (c.toNat : Int)] H Q := by
  refine pc_enter Tryd.func45 rfl [] [] (by kernel_rfl) (fun hB => ?_)
  have fin : ∀ z : Int, dig c = z → Q (.int .i64 z) H := fun z hz => hz ▸ hQ
  simp [Tryd.ntmps45, Tryd.results45, List.replicate_succ]
  refine VL_go (hxInv c H) (fun fr _ => 16 - (ai (aget fr 4)).toNat) ⟨rfl, 0, by omega, (fun j hj => by omega), fr_intro (by simp [digs])⟩ ?_
  rintro fr H' ⟨rfl, i, hi, hno, x, rfl⟩
  have hlen : digs.length = 16 := rfl
  by_cases h : i < 16
  · obtain ⟨d, hd⟩ : ∃ d, digs[i]? = some d := ⟨_, List.getElem?_eq_getElem (by rw [hlen]; exact h)⟩
    have h16 : (i : Int) < 16 := by omega
    have hw : IntKind.i64.wrap ((i : Int) + 1) = i + 1 := wrap_in (by omega) (by omega)
    have hbt : [[AV.int .u8 (c.toNat : Int)]] = bts [c] := by simp [bts]
    have t1 : ((i : Int) + 1).toNat = i + 1 := by omega
    have t2 : (0 : Int) ≤ i + 1 := by omega
    have t3 : (digs.drop i).take 1 = [d] := by rw [drop_at digs i d hd]; rfl
    have t4 : i + 1 ≤ 16 := by omega
    simp [h16, hw, hbt, t1, t2, t3, t4, hlen]
    refine ref_lower_pc E _ _ [c] (by simp [cap]) ?_
    have hlow : low [c] = [lowB c] := rfl
    rw [hlow]
    by_cases he : lowB c = d
    · have t5 : ([lowB c] == [d]) = true := by rw [he]; simp
      simp [t5, t3, t4, hlen, h16, hw, t1, t2]
      exact aPost_same0 hB rfl (nilV_refl _) (by simp) (fin i (index_at digs (lowB c) i (by rw [hd, he]) hno))
    · have t5 : ([lowB c] == [d]) = false := by rw [beq_eq_false_iff_ne]; intro hh; cases hh; exact he rfl
      simp [t5, t3, t4, hlen, h16, hw, t1, t2]
      refine Kloop_normal ⟨rfl, i + 1, by omega, fun j hj => ?_, fr_intro (by simp)⟩ (by simp; omega)
      by_cases hji : j < i
      · exact hno j hji
      · obtain rfl : j = i := by omega
        rw [hd]; exact fun hh => he (Option.some.inj hh).symm
  · obtain rfl : i = 16 := by omega
    simp
    exact aPost_same0 hB rfl (nilV_refl _) (by simp) (fin (-1) (index_no digs (lowB c) (fun j hj => hno j (by rw [hlen] at hj; exact hj))))
def dszInv (l : List UInt8) (H : Hp) (fr : List AV) (H' : Hp) : Prop := H' = H ∧ ∃ (k : Nat) (n : Int), k ≤ l.length ∧ (l.take k).all isHex = true ∧ 0 ≤ n ∧ n ≤ 17592186044432 ∧ (numOf 16 (l.take k) ≤ 1099511627776 → n = numOf 16 (l.take k)) ∧ (1099511627776 < numOf 16 (l.take k) → 1099511627776 < n) ∧
  ∃ x : Nat → AV, fr = [.str l, x 1, x 2, x 3, x 4, .int .i64 n, .int .i64 k, x 7, x 8, x 9, x 10, x 11, x 12, x 13, x 14, x 15, x 16, x 17, x 18, x 19, x 20, x 21, x 22, x 23, x 24, x 25, x 26, x 27, x 28, x 29, x 30, x 31, x 32, x 33, x 34, x 35, x 36, x 37, x 38, x 39, x 40, x 41, x 42, x 43, x 44, x 45, x 46, x 47, x 48, x 49, x 50, x 51, x 52, x 53, x 54, x 55, x 56, x 57, x 58, x 59, x 60, x 61]
set_option maxHeartbeats 1000000 in
theorem dsize_pc (l : List UInt8) (hl : l.length ≤ cap) (hQ : Q (.tup [.int .i64 (sizeAns l).1, .sl false 3 (prs (sizeAns l).2.1), .int .i64 (sizeAns l).2.2]) H) : PC Tryd.prog E 17 [.str l] H Q := by
  refine pc_enter Tryd.func17 rfl [] [] (by kernel_rfl) (fun hB => ?_)
  have hl' := hl
  simp only [cap] at hl'
  have bad : ∀ (fr : List AV) (e : Int), sizeAns l = (0, [], e) → aget fr 2 = .int .i64 0 → aget fr 3 = .nil → aget fr 4 = .int .i64 e → aPost Tryd.prog [ResultVar.tmp 2, ResultVar.tmp 3, ResultVar.tmp 4] H.length Q .ret fr H := fun fr e h0 h1 h2 h3 => by
    rw [h0] at hQ
    exact aPost_same0 hB (v0 := .tup [.int .i64 0, .nil, .int .i64 e]) (by simp [h1, h2, h3]) (nilV_mid 3 _ _ rfl rfl) (by simp) hQ
  by_cases hbig : 254 < l.length
  · have ha : sizeAns l = (0, [], 100) := by unfold sizeAns; rw [if_pos (.inr hbig)]
    have hbig' : (254 : Int) < l.length := by omega
    simp [Tryd.ntmps17, Tryd.results17, List.replicate_succ, hbig']
    exact bad _ 100 ha rfl rfl rfl
  · have hbig' : ¬ (254 : Int) < l.length := by omega
    simp [Tryd.ntmps17, Tryd.results17, List.replicate_succ, hbig']
    refine VL_go (dszInv l H) (fun fr _ => l.length - (ai (aget fr 6)).toNat) ⟨rfl, 0, 0, by omega, by simp, by omega, by omega, fun _ => rfl, (fun h => by simp [numOf] at h), fr_intro (by simp)⟩ ?_
    rintro fr H' ⟨rfl, k, n, hk, hall, hn0, hn1, hs1, hs2, x, rfl⟩
    have hw : IntKind.i64.wrap ((k : Int) + 1) = k + 1 := wrap_in (by omega) (by omega)
    have hcase : (∃ b, l[k]? = some b ∧ isHex b = true) ∨ (∃ b, l[k]? = some b ∧ isHex b = false) ∨ l.length ≤ k := by
      cases hb : l[k]? with
      | none => exact .inr (.inr (List.getElem?_eq_none_iff.1 hb))
      | some b =>
        cases hx : isHex b
        · exact .inr (.inl ⟨b, rfl, hx⟩)
        · exact .inl ⟨b, rfl, hx⟩
    rcases hcase with ⟨b, hb, hx⟩ | ⟨b, hb, hx⟩ | h
    · have h : k < l.length := (List.getElem?_eq_some_iff.1 hb).1
      have hat := lat_eq hb
      have hd0 : 0 ≤ dig b := by rw [hex_nonneg]; exact hx
      have hd16 := (dig_lt b).2
      have hst := numOf_step 16 l k b hb
      have hnn := numOf_nonneg 16 (by omega) (l.take k) (okDigs_hex _ hall)
      simp [h, hat]
      refine hexd_pc E _ _ b ?_
      by_cases hle : n ≤ 1099511627776
      · have hwm : IntKind.i64.wrap (16 * n) = 16 * n := wrap_in (by omega) (by omega)
        have hwa : IntKind.i64.wrap (16 * n + dig b) = 16 * n + dig b := wrap_in (by omega) (by omega)
        simp [hd0, hle, hwm, hat]
        refine hexd_pc E _ _ b ?_
        simp [hwa, hw]
        refine Kloop_normal ⟨rfl, k + 1, 16 * n + dig b, by omega, by rw [all_take isHex l k b hb, hall, hx]; rfl, by omega, by omega, fun hh => ?_, fun hh => ?_, fr_intro (by simp)⟩ (by simp; omega)
        · rw [hst] at hh ⊢
          have := hs1 (by omega)
          omega
        · rw [hst] at hh
          by_cases hh2 : numOf 16 (l.take k) ≤ 1099511627776
          · have := hs1 hh2; omega
          · have := hs2 (by omega); omega
      · simp [hd0, hle, hw]
        have hbg : 1099511627776 < numOf 16 (l.take k) := by
          by_cases hh2 : numOf 16 (l.take k) ≤ 1099511627776
          · have := hs1 hh2; omega
          · omega
        refine Kloop_normal ⟨rfl, k + 1, n, by omega, by rw [all_take isHex l k b hb, hall, hx]; rfl, hn0, hn1, fun hh => ?_, fun _ => by omega, fr_intro (by simp)⟩ (by simp; omega)
        rw [hst] at hh
        omega
    case' inr.inl =>
      have h : k < l.length := (List.getElem?_eq_some_iff.1 hb).1
      have hat := lat_eq hb
      have hd0 : ¬ 0 ≤ dig b := by rw [hex_nonneg, hx]; simp
      have hr : run isHex l = k := run_step isHex l k hall hk (fun c hc => by rw [hb] at hc; cases hc; exact hx)
      simp [h, hat]
      refine hexd_pc E _ _ b ?_
      simp [hd0, hk]
    case' inr.inr =>
      have h' : ¬ k < l.length := by omega
      have hr : run isHex l = k := run_step isHex l k hall hk (fun c hc => by have := (List.getElem?_eq_some_iff.1 hc).1; omega)
      simp [h', hk]
    all_goals
      obtain ⟨hpl, m, hm, hml⟩ := parAns_le (l.drop k)
      rw [List.length_drop] at hml hpl
      refine dparams_pc E _ _ (l.drop k) (by rw [List.length_drop]; omega) ?_
      rw [hm]
      have hw2 : IntKind.i64.wrap ((k : Int) + m) = ((k + m : Nat) : Int) := by rw [wrap_in (by omega) (by omega)]; omega
      by_cases hn0k : k = 0
      · have ha : sizeAns l = (0, [], 100) := by unfold sizeAns; rw [if_pos (.inl (by rw [hr]; exact hn0k))]
        simp [hn0k]
        exact bad _ 100 ha rfl rfl rfl
      · have e0 : ((k : Int) == 0) = false := by simp; omega
        have ha0 : sizeAns l = if (parAns (l.drop k)).2.2 ≠ 0 ∨ trimB (l.drop (k + m)) ≠ [] then (0, [], 100) else if (numAns 16 1099511627776 (l.take k)).2 ≠ 0 then (0, [], 102) else ((numAns 16 1099511627776 (l.take k)).1, (parAns (l.drop k)).1, 0) := by
          unfold sizeAns
          rw [hr, if_neg (by omega), hm, Int.toNat_natCast]
        have hna : numAns 16 1099511627776 (l.take k) = if 1099511627776 < numOf 16 (l.take k) then (0, 12) else (numOf 16 (l.take k), 0) := by
          have hne : l.take k ≠ [] := by intro e; have := congrArg List.length e; rw [List.length_take] at this; have h3 : min k l.length = 0 := this; omega
          unfold numAns
          rw [if_neg hne, if_neg (by rw [okDigs_hex _ hall]; simp)]
          by_cases hg : 1099511627776 < numOf 16 (l.take k)
          · rw [if_pos (.inr hg), if_pos hg]
          · rw [if_neg (by omega), if_neg hg]
        by_cases he : (parAns (l.drop k)).2.2 = 0
        · have hnm : k + m ≤ l.length := by omega
          simp [e0, he, hw2, hnm, -Int.natCast_add]
          refine ref_trim_pc E _ _ (l.drop (k + m)) (by rw [List.length_drop]; simp only [cap]; omega) ?_
          by_cases ht : trimB (l.drop (k + m)) = []
          · by_cases hg : 1099511627776 < n
            · have hgg : 1099511627776 < numOf 16 (l.take k) := by
                by_cases hh2 : numOf 16 (l.take k) ≤ 1099511627776
                · have := hs1 hh2; omega
                · omega
              have ha : sizeAns l = (0, [], 102) := by rw [ha0, if_neg (by simp [he, ht]), hna, if_pos hgg]; rfl
              simp [ht, hg]
              exact bad _ 102 ha rfl rfl rfl
            · have hgg : ¬ 1099511627776 < numOf 16 (l.take k) := fun hh => hg (hs2 hh)
              have hnn := hs1 (by omega)
              have ha : sizeAns l = (n, (parAns (l.drop k)).1, 0) := by rw [ha0, if_neg (by simp [he, ht]), hna, if_neg hgg, hnn]; rfl
              rw [ha] at hQ
              simp [ht, hg]
              exact aPost_same0 hB (v0 := .tup [.int .i64 n, .sl false 3 (prs (parAns (l.drop k)).1), .int .i64 0]) (by simp) (nilV_refl _) (by simp [bnd_prs, -bnd_sl']) hQ
          · have ht2 : (trimB (l.drop (k + m)) != []) = true := by simpa using ht
            have ha : sizeAns l = (0, [], 100) := by rw [ha0, if_pos (.inr ht)]
            simp [ht2]
            exact bad _ 100 ha rfl rfl rfl
        · have ha : sizeAns l = (0, [], 100) := by rw [ha0, if_pos (.inl he)]
          simp [e0, he]
          exact bad _ 100 ha rfl rfl rfl
def spInv (a : List Par) (H : Hp) (fr : List AV) (H' : Hp) : Prop := H' = H ∧ ∃ i : Nat, i ≤ a.length ∧ ∃ x : Nat → AV, fr = [.sl false 3 (prs a), .sl false 3 (prs a), x 2, x 3, x 4, x 5, x 6, x 7, x 8, x 9, x 10, x 11, .int .i64 a.length, .int .i64 i, x 14, x 15, x 16, x 17, x 18, x 19, x 20, x 21, x 22, x 23, x 24, x 25, x 26, x 27, x 28, x 29, x 30, x 31, x 32, x 33, x 34, x 35, x 36, x 37, x 38, x 39, x 40, x 41, x 42, x 43, x 44, x 45, x 46, x 47, x 48, x 49, x 50, x 51, x 52, x 53]
theorem sameP_pc (a : List Par) (ha : a.length ≤ cap) (hQ : Q (.bool true) H) : PC Tryd.prog E 18 [.sl false 3 (prs a), .sl false 3 (prs a)] H Q := by
  simp only [cap] at ha
  refine pc_enter Tryd.func18 rfl [] [] (by kernel_rfl) (fun hB => ?_)
  simp [Tryd.ntmps18, Tryd.results18, List.replicate_succ]
  refine VL_go (spInv a H) (fun fr _ => a.length - (ai (aget fr 13)).toNat) ⟨rfl, 0, by omega, fr_intro (by simp)⟩ ?_
  rintro fr H' ⟨rfl, i, hi, x, rfl⟩
  by_cases h : i < a.length
  · obtain ⟨u, hu⟩ : ∃ u, a[i]? = some u := ⟨_, List.getElem?_eq_getElem h⟩
    have hat1 := prs_at hu
    have hw : IntKind.i64.wrap ((i : Int) + 1) = i + 1 := wrap_in (by omega) (by omega)
    obtain ⟨n1, v1, h1⟩ := u
    simp only at hat1
    simp [h, hat1, hw]
    exact Kloop_normal ⟨rfl, i + 1, by omega, fr_intro (by simp)⟩ (by simp; omega)
  · simp [h]
    exact aPost_same0 hB rfl (nilV_refl _) (by simp) hQ
theorem sizeAns_len (l : List UInt8) : (sizeAns l).2.1.length ≤ l.length := by
  unfold sizeAns
  split
  · simp
  · split
    · simp
    · split
      · simp
      · have := (parAns_le (l.drop (run isHex l))).1
        rw [List.length_drop] at this
        simp only; omega
theorem lsizes_pc (hE : SE E) (l : List UInt8) (hl : l.length ≤ cap) (hQ : Q (.bool true) H) : PC Tryd.prog E 3 [.str l] H Q := by
  refine pc_enter Tryd.func3 rfl [] [] (by kernel_rfl) (fun hB => ?_)
  simp [Tryd.ntmps3, Tryd.results3, List.replicate_succ]
  refine lawake_pc E _ _ hE ?_
  simp
  refine parseSize_pc E _ _ hE l hl ?_
  simp
  refine dsize_pc E _ _ l hl ?_
  simp
  refine sameP_pc E _ _ _ (Nat.le_trans (sizeAns_len l) hl) ?_
  simp
  exact aPost_same0 hB rfl (nilV_refl _) (by simp) hQ
end
theorem csizes_true (W : World) (s : ByteArray) (hs : s.size ≤ 1048576) (hS : Signs W) : Calls Tryd.prog 3 #[.string s] W fun e w' => e = .returned (.bool true) ∧ Frm (fun _ => False) W w' :=
  calls_signs (args := [.str s.data.toList]) hS rfl (fun t x u hx hu => by
    match t with
    | 0 => simp at hx hu; subst hx; subst hu; exact rel_stringW W s hs
    | t + 1 => simp at hx) (fun E Q hE h => lsizes_pc E [] Q hE s.data.toList (by rw [size_toList]; simp only [cap]; omega) h)
end Go.Proofs.YtimhofphmgehgaaDoor
