/- The chunk layer: hexadecimal digits: the program's (FormatInt) and the document's; size lines; ChunkPrints. -/
import Derived.Test.YtimhofphmgehgaaDoorCjB
set_option linter.unusedVariables false
set_option linter.unnecessarySimpa false
set_option linter.unusedSimpArgs false
set_option linter.unusedSectionVars false
set_option maxRecDepth 100000
namespace Go.Proofs.YtimhofphmgehgaaDoor
open Go Go.RowKit Go.Proofs

/-- The one row of the table of trailing zeros that is asked. -/
def Tz (w : World) : Prop := w.cell? ⟨6, 15, none⟩ = some (.int .u8 4)
/-- .. and the table of tokens' signs. -/
def SZ (E : Env) : Prop := SE E ∧ E.Fix 6 ∧ Tz E.w0
theorem SZ.tz {E : Env} (h : SZ E) {w : World} (hw : ∀ b, E.Fix b → w.heap[b]? = E.w0.heap[b]?) : Tz w := by
  unfold Tz
  rw [World.cell?_of_block (a := ⟨6, 15, none⟩) (hw _ h.2.1)]
  exact h.2.2
set_option maxRecDepth 100000 in
set_option maxHeartbeats 1000000 in
theorem tz64_ok (W : World) (hT : Tz W) : Calls Tryd.prog 135 #[.int .u64 16] W fun e w' => e = .returned (.int .i64 4) ∧ w' = W := by
  unfold Tz at hT
  have hq : IntKind.u64.wrap (bits BinOp.and IntKind.u64 16 (IntKind.u64.wrap (-16)) * 285870213051353865) / 288230376151711744 = 15 := by decide
  go_enter Tryd.func135, Tryd.ntmps135
  go_wp2
  go_ret
  exact ⟨rfl, rfl⟩
@[simp] theorem tzc65 : tzc Tryd.prog 170 = some (List.replicate 65 (.int .u8 0)) := by kernel_rfl
section
variable (E : Env) (H : Hp) (Q : AV → Hp → Prop)
theorem tz64_pc (hE : SZ E) (hQ : Q (.int .i64 4) H) : PC Tryd.prog E 135 [.int .u64 16] H Q := by
  refine pc_of_calls (v := .int .i64 4) (by kernel_rfl) Tz (fun w hw => hE.tz hw) (fun w β Rd cargs hS hsz hargs => ?_) (.int _ _) rfl hQ
  obtain ⟨u, rfl, hu⟩ := args1 hsz hargs
  obtain rfl := rel_int hu
  refine (tz64_ok w hS).mono ?_
  rintro e w' ⟨rfl, rfl⟩
  exact ⟨_, rfl, Frm.refl _ _, .int _ _⟩
theorem tz_pc (hE : SZ E) (hQ : Q (.int .i64 4) H) : PC Tryd.prog E 129 [.int .u64 16] H Q := by
  refine pc_enter Tryd.func129 rfl [] [] (by kernel_rfl) (fun hB => ?_)
  simp [Tryd.ntmps129, Tryd.results129, List.replicate_succ]
  refine tz64_pc E _ _ hE ?_
  simp
  exact aPost_same0 hB rfl (nilV_refl _) (by simp) hQ
theorem pow2_pc (hQ : Q (.bool true) H) : PC Tryd.prog E 128 [.int .i64 16] H Q := by
  refine pc_enter Tryd.func128 rfl [] [] (by kernel_rfl) (fun hB => ?_)
  simp [Tryd.ntmps128, Tryd.results128, List.replicate_succ]
  exact aPost_same0 hB rfl (nilV_refl _) (by simp) hQ
def digL : List UInt8 := [48, 49, 50, 51, 52, 53, 54, 55, 56, 57, 97, 98, 99, 100, 101, 102, 103, 104, 105, 106, 107, 108, 109, 110, 111, 112, 113, 114, 115, 116, 117, 118, 119, 120, 121, 122]
theorem digL_at : ∀ k, k < 16 → digL[k]? = some (hx k) := by decide
theorem wrap_u64 {n : Int} (h0 : 0 ≤ n) (h1 : n < 18446744073709551616) : IntKind.u64.wrap n = n := by
  show n % (2 ^ 64) = n
  omega
theorem and15 (u : Nat) (h : u ≤ 1099511627776) : IntKind.u64.wrap ((u % 2 ^ IntKind.u64.bits &&& 15 % 2 ^ IntKind.u64.bits : Nat) : Int) = ((u % 16 : Nat) : Int) := by
  have e1 : u % 2 ^ IntKind.u64.bits = u := Nat.mod_eq_of_lt (by show u < 18446744073709551616; omega)
  have e2 : 15 % 2 ^ IntKind.u64.bits = 15 := rfl
  have e3 : u &&& 15 = u % 16 := Nat.and_two_pow_sub_one_eq_mod u 4
  rw [e1, e2, e3]
  exact wrap_u64 (by omega) (by omega)
def fbInv (n : Nat) (H : Hp) (fr : List AV) (H' : Hp) : Prop := ∃ (u i : Nat) (tail : List UInt8) (row : List AV), H' = H ++ [row] ∧ row.length = 65 ∧ hexD u ++ tail = hexD n ∧ u ≤ n ∧ i + tail.length = 65 ∧ row.drop i = tail.map (fun b => .int .u8 (b.toNat : Int)) ∧
  ∃ x : Nat → AV, fr = [.nil, .int .u64 u, .int .i64 16, .bool false, .bool false, x 5, x 6, x 7, x 8, x 9, .nil, .str [], .ptr (some (H.length, 0)), .int .i64 i, .int .u64 4, .int .u64 16, .int .u64 15, x 17, x 18, x 19, x 20, x 21, x 22, x 23, x 24, x 25, x 26, x 27, x 28, x 29, x 30, x 31, x 32, x 33, x 34, x 35, x 36, x 37, x 38, x 39, x 40, x 41, x 42, x 43, x 44, x 45, x 46, x 47, x 48, x 49, x 50, x 51, x 52, x 53, x 54, x 55, x 56, x 57, x 58, x 59, x 60, x 61, x 62, x 63, x 64, x 65, x 66, x 67, x 68, x 69, x 70, x 71, x 72, x 73, x 74, x 75, x 76, x 77, x 78, x 79, x 80, x 81, x 82, x 83, x 84, x 85, x 86, x 87, x 88, x 89, x 90, x 91, x 92, x 93, x 94, x 95, x 96, x 97, x 98, x 99, x 100, x 101]
theorem formatBits_pc (hE : SZ E) (n : Nat) (hn : n ≤ 1099511627776) (hQ : Q (.tup [.nil, .str (hexD n)]) H) : PC Tryd.prog E 115 [.nil, .int .u64 n, .int .i64 16, .bool false, .bool false] H Q := by
  refine pc_enter Tryd.func115 rfl [95] [(30, [0, 0, 3])] (by kernel_rfl) (fun hB => ?_)
  simp [Tryd.ntmps115, Tryd.results115, List.replicate_succ]
  refine pow2_pc E _ _ ?_
  simp
  refine tz_pc E _ _ hE ?_
  simp
  refine VL_go (fbInv n H) (fun fr _ => (ai (aget fr 1)).toNat) ⟨n, 65, [], List.replicate 65 (.int .u8 0), by simp, by simp, by simp, by omega, by simp, by simp, fr_intro (by simp; exact ⟨rfl, rfl, rfl⟩)⟩ ?_
  rintro fr H' ⟨u, i, tail, row, rfl, hrow, hu, hun, hi, hdr, x, rfl⟩
  have hlu := hexD_pos u
  have hln := hexD_len11 n hn
  have hcat := congrArg List.length hu
  rw [List.length_append] at hcat
  obtain ⟨j, rfl⟩ : ∃ j, i = j + 1 := ⟨i - 1, by omega⟩
  have hw : IntKind.i64.wrap (j : Int) = j := wrap_in (by omega) (by omega)
  have hw1 : IntKind.i64.wrap (((j + 1 : Nat) : Int) - 1) = j := by rw [wrap_in (by omega) (by omega)]; omega
  by_cases h : 16 ≤ u
  · have h' : (16 : Int) ≤ u := by omega
    have ha := and15 u (by omega)
    have hat : lat [48, 49, 50, 51, 52, 53, 54, 55, 56, 57, 97, 98, 99, 100, 101, 102, 103, 104, 105, 106, 107, 108, 109, 110, 111, 112, 113, 114, 115, 116, 117, 118, 119, 120, 121, 122] (u % 16) = some (hx (u % 16)) := digL_at _ (Nat.mod_lt _ (by omega))
    have hj : j ≤ 64 := by omega
    have hj2 : j < 65 := by omega
    simp [h', hw, hw1, ha, hat, hj, hj2, hrow, -Int.natCast_emod]
    have hsh : (u : Int).fdiv (2 ^ min 4 IntKind.u64.bits) = ((u / 16 : Nat) : Int) := by
      show (u : Int).fdiv 16 = _
      rw [Int.fdiv_eq_ediv_of_nonneg _ (by omega)]; omega
    refine Kloop_normal ⟨u / 16, j, hx (u % 16) :: tail, _, rfl, by simp [hrow]; omega, by rw [← hu, hexD_big (show ¬ u < 16 by omega)]; simp, by omega, by simp; omega, ?_, fr_intro (by simp [hsh])⟩ (by simp [hsh]; omega)
    rw [List.drop_append_of_le_length (by rw [List.length_take]; omega), List.drop_of_length_le (by rw [List.length_take]; omega), hdr]
    simp
  · have h' : ¬ (16 : Int) ≤ u := by omega
    have hat : lat [48, 49, 50, 51, 52, 53, 54, 55, 56, 57, 97, 98, 99, 100, 101, 102, 103, 104, 105, 106, 107, 108, 109, 110, 111, 112, 113, 114, 115, 116, 117, 118, 119, 120, 121, 122] u = some (hx u) := digL_at _ (by omega)
    have hj : j ≤ 64 := by omega
    have hj2 : j < 65 := by omega
    have hm : 65 - j ≤ maxLen := by unfold maxLen; omega
    have m65 : 65 ≤ maxLen := by unfold maxLen; omega
    have hj3 : j ≤ 65 := by omega
    have hj4 : ¬ 65 = j := by omega
    have e1 : 65 ≤ j + (64 - j + 1) := by omega
    have e2 : List.take (65 - j) ([AV.int .u8 (hx u).toNat] :: List.drop (j + 1) (List.map (fun x => [x]) row)) = bts (hx u :: tail) := by
      rw [← List.map_drop, hdr, List.map_map, List.take_of_length_le (by simp; omega)]
      rfl
    have e3 : hexD n = hx u :: tail := by rw [← hu, hexD_small (by omega)]; rfl
    rw [e3] at hQ
    simp [h', hw, hw1, hat, hj, hj2, hj3, hj4, m65, hrow, hm, e1, e2]
    exact aPost_same hB rfl (nilV_refl _) (by simp) hQ
theorem formatInt1_pc (hE : SZ E) (n : Nat) (hn : n ≤ 1099511627776) (hQ : Q (.str (hexD n)) H) : PC Tryd.prog E 90 [.int .i64 n, .int .i64 16] H Q := by
  refine pc_enter Tryd.func90 rfl [] [] (by kernel_rfl) (fun hB => ?_)
  have hw : IntKind.u64.wrap (n : Int) = n := wrap_u64 (by omega) (by omega)
  simp [Tryd.ntmps90, Tryd.results90, List.replicate_succ, hw]
  refine formatBits_pc E _ _ hE n hn ?_
  simp
  exact aPost_same0 hB rfl (nilV_refl _) (by simp) hQ
theorem formatInt_pc (hE : SZ E) (n : Nat) (hn : n ≤ 1099511627776) (hQ : Q (.str (hexD n)) H) : PC Tryd.prog E 59 [.int .i64 n, .int .i64 16] H Q := by
  refine pc_enter Tryd.func59 rfl [] [] (by kernel_rfl) (fun hB => ?_)
  simp [Tryd.ntmps59, Tryd.results59, List.replicate_succ]
  refine formatInt1_pc E _ _ hE n hn ?_
  simp
  exact aPost_same0 hB rfl (nilV_refl _) (by simp) hQ
def ddInv (n : Nat) (H : Hp) (fr : List AV) (H' : Hp) : Prop := H' = H ∧ ∃ (u : Nat) (tail : List UInt8), hexD u ++ tail = hexD n ∧ u ≤ n ∧ ∃ x : Nat → AV, fr = [.int .i64 u, x 1, x 2, .str tail, x 4, x 5, x 6, x 7, x 8, x 9, x 10, x 11, x 12, x 13, x 14, x 15, x 16]
theorem hexL_at : ∀ k, k < 16 → ([48, 49, 50, 51, 52, 53, 54, 55, 56, 57, 97, 98, 99, 100, 101, 102] : List UInt8).drop k = hx k :: ([48, 49, 50, 51, 52, 53, 54, 55, 56, 57, 97, 98, 99, 100, 101, 102] : List UInt8).drop (k + 1) := by decide
theorem ddigits_pc (n : Nat) (hn : n ≤ 1099511627776) (hQ : Q (.str (hexD n)) H) : PC Tryd.prog E 61 [.int .i64 n] H Q := by
  refine pc_enter Tryd.func61 rfl [] [] (by kernel_rfl) (fun hB => ?_)
  simp [Tryd.ntmps61, Tryd.results61, List.replicate_succ]
  refine VL_go (ddInv n H) (fun fr _ => (ai (aget fr 0)).toNat) ⟨rfl, n, [], by simp, by omega, fr_intro (by simp)⟩ ?_
  rintro fr H' ⟨rfl, u, tail, hu, hun, x, rfl⟩
  have hln := hexD_len11 n hn
  have hcat := congrArg List.length hu
  rw [List.length_append] at hcat
  have hmod : (u : Int).tmod 16 = ((u % 16 : Nat) : Int) := by rw [Int.tmod_eq_emod_of_nonneg (by omega)]; omega
  have hdiv : (u : Int).tdiv 16 = ((u / 16 : Nat) : Int) := by rw [Int.tdiv_eq_ediv_of_nonneg (by omega)]; omega
  obtain ⟨k, hk⟩ : ∃ k, u % 16 = k := ⟨_, rfl⟩
  have hk16 : k < 16 := by omega
  have hw : IntKind.i64.wrap ((k : Int) + 1) = k + 1 := wrap_in (by omega) (by omega)
  have hw2 : IntKind.i64.wrap ((u / 16 : Nat) : Int) = ((u / 16 : Nat) : Int) := wrap_in (by omega) (by omega)
  have p1 : (0 : Int) ≤ (k : Int) + 1 := by omega
  have p2 : k + 1 ≤ 16 := by omega
  have p3 : k ≤ 15 := by omega
  have hl := hexL_at k hk16
  have hm : tail.length + 1 ≤ maxLen := by unfold maxLen; omega
  have hm2 : 1 + tail.length ≤ maxLen := by unfold maxLen; omega
  rw [hk] at hmod
  by_cases h : u < 16
  · have h0 : u / 16 = 0 := by omega
    rw [h0] at hdiv hw2
    have e3 : hexD n = hx k :: tail := by rw [← hu, hexD_small h, ← hk, Nat.mod_eq_of_lt h]; rfl
    rw [e3] at hQ
    have hw0 : IntKind.i64.wrap 0 = 0 := rfl
    simp [hmod, hdiv, hw, hw0, p1, p2, p3, hl, hm, hm2]
    exact aPost_same0 hB rfl (nilV_refl _) (by simp) hQ
  · have h0 : (((u / 16 : Nat) : Int) == 0) = false := by rw [beq_eq_false_iff_ne]; omega
    simp [hmod, hdiv, hw, hw2, p1, p2, p3, hl, hm, hm2, h0, -Int.natCast_ediv]
    exact Kloop_normal ⟨rfl, u / 16, hx k :: tail, by rw [← hu, hexD_big h, ← hk]; simp, by omega, fr_intro (by simp)⟩ (by simp; omega)
/-- A size line, without its end, and the error's number. -/
def sizeP (n : Int) (l : List Par) : List UInt8 × Int :=
  if n < 0 ∨ 1099511627776 < n then ([], 1)
  else if l.all (okPar signB) = false then ([], 15)
  else if 254 < (hexD n.toNat ++ prt signB l).length then ([], 100) else (hexD n.toNat ++ prt signB l, 0)
theorem printSize_pc (hE : SZ E) (n : Int) (l : List Par) (hl : psz l + l.length ≤ 1048577) (hQ : Q (.tup [.str (sizeP n l).1, .int .i64 (sizeP n l).2]) H) : PC Tryd.prog E 35 [.int .i64 n, .sl false 3 (prs l)] H Q := by
  refine pc_enter Tryd.func35 rfl [] [] (by kernel_rfl) (fun hB => ?_)
  by_cases h1 : n < 0
  · have e : sizeP n l = ([], 1) := by unfold sizeP; rw [if_pos (.inl h1)]
    rw [e] at hQ
    simp [Tryd.ntmps35, Tryd.results35, List.replicate_succ, h1]
    exact aPost_same0 hB rfl (nilV_refl _) (by simp) hQ
  · by_cases h2 : 1099511627776 < n
    · have e : sizeP n l = ([], 1) := by unfold sizeP; rw [if_pos (.inr h2)]
      rw [e] at hQ
      simp [Tryd.ntmps35, Tryd.results35, List.replicate_succ, h1, h2]
      exact aPost_same0 hB rfl (nilV_refl _) (by simp) hQ
    · obtain ⟨m, rfl⟩ : ∃ m : Nat, n = m := ⟨n.toNat, by omega⟩
      have h3 : ¬ 1099511627776 < (m : Int) := h2
      have hln := hexD_len11 m (by omega)
      have hpl := prt_le l
      simp [Tryd.ntmps35, Tryd.results35, List.replicate_succ, h1, h3]
      refine print_pc E _ _ hE.1 l (by omega) ?_
      cases hall : l.all (okPar signB) with
      | false =>
        have e : sizeP m l = ([], 15) := by unfold sizeP; rw [if_neg (by omega), if_pos hall]
        have e2 : prtAns l = ([], 15) := by unfold prtAns; rw [if_neg (by rw [hall]; simp)]
        rw [e] at hQ
        simp [e2]
        exact aPost_same0 hB rfl (nilV_refl _) (by simp) hQ
      | true =>
        have e2 : prtAns l = (prt signB l, 0) := by unfold prtAns; rw [if_pos hall]
        have hm : (hexD m).length + (prt signB l).length ≤ maxLen := by unfold maxLen; omega
        simp [e2]
        refine formatInt_pc E _ _ hE m (by omega) ?_
        by_cases h4 : 254 < (hexD m ++ prt signB l).length
        · have e : sizeP m l = ([], 100) := by unfold sizeP; rw [if_neg (by omega), if_neg (by rw [hall]; simp), if_pos (by simpa using h4)]
          have h4' : (254 : Int) < (hexD m).length + (prt signB l).length := by rw [List.length_append] at h4; omega
          rw [e] at hQ
          simp [hm, h4']
          exact aPost_same0 hB rfl (nilV_refl _) (by simp) hQ
        · have e : sizeP m l = (hexD m ++ prt signB l, 0) := by unfold sizeP; rw [if_neg (by omega), if_neg (by rw [hall]; simp), if_neg (by simpa using h4)]; simp
          have h4' : ¬ (254 : Int) < (hexD m).length + (prt signB l).length := by rw [List.length_append] at h4; omega
          rw [e] at hQ
          simp [hm, h4']
          exact aPost_same0 hB rfl (nilV_refl _) (by simp) hQ
theorem dprintSize_pc (n : Int) (l : List Par) (hl : psz l + l.length ≤ 1048577) (hQ : Q (.tup [.str (sizeP n l).1, .int .i64 (sizeP n l).2]) H) : PC Tryd.prog E 36 [.int .i64 n, .sl false 3 (prs l)] H Q := by
  refine pc_enter Tryd.func36 rfl [] [] (by kernel_rfl) (fun hB => ?_)
  by_cases h1 : n < 0
  · have e : sizeP n l = ([], 1) := by unfold sizeP; rw [if_pos (.inl h1)]
    rw [e] at hQ
    simp [Tryd.ntmps36, Tryd.results36, List.replicate_succ, h1]
    exact aPost_same0 hB rfl (nilV_refl _) (by simp) hQ
  · by_cases h2 : 1099511627776 < n
    · have e : sizeP n l = ([], 1) := by unfold sizeP; rw [if_pos (.inr h2)]
      rw [e] at hQ
      simp [Tryd.ntmps36, Tryd.results36, List.replicate_succ, h1, h2]
      exact aPost_same0 hB rfl (nilV_refl _) (by simp) hQ
    · obtain ⟨m, rfl⟩ : ∃ m : Nat, n = m := ⟨n.toNat, by omega⟩
      have h3 : ¬ 1099511627776 < (m : Int) := h2
      have hln := hexD_len11 m (by omega)
      have hpl := prt_le l
      simp [Tryd.ntmps36, Tryd.results36, List.replicate_succ, h1, h3]
      refine dprint_pc E _ _ l (by omega) ?_
      cases hall : l.all (okPar signB) with
      | false =>
        have e : sizeP m l = ([], 15) := by unfold sizeP; rw [if_neg (by omega), if_pos hall]
        have e2 : prtOk l = ([], false) := by unfold prtOk; rw [if_neg (by rw [hall]; simp)]
        rw [e] at hQ
        simp [e2]
        exact aPost_same0 hB rfl (nilV_refl _) (by simp) hQ
      | true =>
        have e2 : prtOk l = (prt signB l, true) := by unfold prtOk; rw [if_pos hall]
        have hm : (hexD m).length + (prt signB l).length ≤ maxLen := by unfold maxLen; omega
        simp [e2]
        refine ddigits_pc E _ _ m (by omega) ?_
        by_cases h4 : 254 < (hexD m ++ prt signB l).length
        · have e : sizeP m l = ([], 100) := by unfold sizeP; rw [if_neg (by omega), if_neg (by rw [hall]; simp), if_pos (by simpa using h4)]
          have h4' : (254 : Int) < (hexD m).length + (prt signB l).length := by rw [List.length_append] at h4; omega
          rw [e] at hQ
          simp [hm, h4']
          exact aPost_same0 hB rfl (nilV_refl _) (by simp) hQ
        · have e : sizeP m l = (hexD m ++ prt signB l, 0) := by unfold sizeP; rw [if_neg (by omega), if_neg (by rw [hall]; simp), if_neg (by simpa using h4)]; simp
          have h4' : ¬ (254 : Int) < (hexD m).length + (prt signB l).length := by rw [List.length_append] at h4; omega
          rw [e] at hQ
          simp [hm, h4']
          exact aPost_same0 hB rfl (nilV_refl _) (by simp) hQ
end
end Go.Proofs.YtimhofphmgehgaaDoor
