/- Part 9 of the texts below the law: the abstract machine, the functions that it walks, what they compute. -/
import Derived.Test.YtcdkcaocfioigaaGreatDoorPd8
set_option linter.unusedVariables false
set_option linter.unnecessarySimpa false
set_option linter.unusedSimpArgs false
set_option linter.unusedSectionVars false
set_option maxRecDepth 100000
namespace Go.Proofs.YtcdkcaocfioigaaGreatDoor
open Go Go.RowKit Go.Proofs

/-- The cells of a reply. -/
def rcells (st : Int) (re : List UInt8) (mi : Int) : List AV := [.int .i64 st, .str re, .nil, .str [], .int .i64 mi, .nil, .int .i64 0, .int .i64 0, .bool false]
/-- What may stand behind the version's begin. -/
def mayT : List (List UInt8) := [[48, 49], [32], [49, 50, 51, 52, 53], [48, 49, 50, 51, 52, 53, 54, 55, 56, 57], [48, 49, 50, 51, 52, 53, 54, 55, 56, 57], [32]]
def stP (s : List UInt8) (k : Nat) : Int := if k ≤ 2 then 0 else if k = 3 then dg s 9 else if k = 4 then 10 * dg s 9 + dg s 10 else 10 * (10 * dg s 9 + dg s 10) + dg s 11
def miP (s : List UInt8) (k : Nat) : Int := if k = 0 then 0 else dg s 7
theorem may_all : ∀ k, k < 6 → ∀ n, n < 256 → decide (Lib.indexByte (mayT.getD k []) (UInt8.ofNat n) < 0) = !stB (7 + k) (UInt8.ofNat n) := by decide +kernel
theorem may_at {k : Nat} (hk : k < 6) (b : UInt8) : decide (Lib.indexByte (mayT.getD k []) b < 0) = !stB (7 + k) b := by
  have := may_all k hk b.toNat b.toNat_lt
  rw [u8_ofNat] at this
  exact this
theorem may_dig : ∀ n, n < 256 → ((stB 7 (UInt8.ofNat n) = true ∨ stB 9 (UInt8.ofNat n) = true ∨ stB 10 (UInt8.ofNat n) = true ∨ stB 11 (UInt8.ofNat n) = true) → 48 ≤ n ∧ n ≤ 57) := by decide +kernel
theorem may_dig' {b : UInt8} (h : stB 7 b = true ∨ stB 9 b = true ∨ stB 10 b = true ∨ stB 11 b = true) : 48 ≤ b.toNat ∧ b.toNat ≤ 57 := by
  have := may_dig b.toNat b.toNat_lt
  rw [u8_ofNat] at this
  exact this h
theorem u8_sub48 : ∀ n : Nat, n < 256 → 48 ≤ n → IntKind.u8.wrap ((n : Int) - 48) = (n : Int) - 48 := by decide
theorem dg_at {s : List UInt8} {i : Nat} {b : UInt8} (h : s[i]? = some b) : dg s i = (b.toNat : Int) - 48 := by unfold dg; rw [h]; rfl
theorem wlit : IntKind.i64.wrap 0 = 0 ∧ IntKind.i64.wrap 1 = 1 ∧ IntKind.i64.wrap 2 = 2 ∧ IntKind.i64.wrap 3 = 3 ∧ IntKind.i64.wrap 4 = 4 ∧ IntKind.i64.wrap 5 = 5 ∧ IntKind.i64.wrap 6 = 6 ∧ IntKind.i64.wrap 7 = 7 ∧ IntKind.i64.wrap 8 = 8 ∧ IntKind.i64.wrap 9 = 9 ∧ IntKind.i64.wrap 10 = 10 ∧ IntKind.i64.wrap 11 = 11 ∧ IntKind.i64.wrap 12 = 12 ∧ IntKind.i64.wrap 13 = 13 := by decide
theorem mayT_at (k : Nat) (hk : k < 6) : lat [[AV.str [48, 49]], [.str [32]], [.str [49, 50, 51, 52, 53]], [.str [48, 49, 50, 51, 52, 53, 54, 55, 56, 57]], [.str [48, 49, 50, 51, 52, 53, 54, 55, 56, 57]], [.str [32]]] k = some [.str (mayT.getD k [])] := by
  rcases (by omega : k = 0 ∨ k = 1 ∨ k = 2 ∨ k = 3 ∨ k = 4 ∨ k = 5) with rfl | rfl | rfl | rfl | rfl | rfl <;> rfl
section
variable (E : Env) (H : Hp) (Q : AV → Hp → Prop)
def slInv1 (s : List UInt8) (H : Hp) (fr : List AV) (H' : Hp) : Prop := H' = H ++ [rcells 0 [] 0, [.int .i64 0, .int .i64 0], rcells 0 [] 0, [.int .i64 s.length, .int .i64 124]] ∧ ∃ i : Nat, i ≤ 7 ∧ i ≤ s.length ∧ preR s (13 - i) i = preR s 13 0 ∧
  ∃ x : Nat → AV, fr = [.str s, x 1, .ptr (some (H.length, 0)), x 3, .ptr (some (H.length + 1, 0)), .ptr (some (H.length + 2, 0)), .int .i64 i, .ptr (some (H.length + 3, 0)), x 8, x 9, x 10, x 11, x 12, x 13, x 14, x 15, x 16, x 17, x 18, x 19, x 20, x 21, x 22, x 23, x 24, x 25, x 26, x 27, x 28, x 29, x 30, x 31, x 32, x 33, x 34, x 35, x 36, x 37, x 38, x 39, x 40, x 41, x 42, x 43, x 44, x 45, x 46, x 47, x 48, x 49, x 50, x 51, x 52, x 53, x 54, x 55, x 56, x 57, x 58, x 59, x 60, x 61, x 62, x 63, x 64, x 65, x 66, x 67, x 68, x 69, x 70, x 71, x 72, x 73, x 74, x 75, x 76, x 77, x 78, x 79, x 80, x 81, x 82, x 83, x 84, x 85, x 86, x 87, x 88, x 89, x 90, x 91, x 92, x 93, x 94, x 95, x 96, x 97, x 98, x 99, x 100, x 101, x 102, x 103, x 104, x 105, x 106, x 107, x 108, x 109, x 110, x 111, x 112, x 113, x 114, x 115, x 116, x 117, x 118, x 119, x 120, x 121, x 122, x 123, x 124, x 125, x 126, x 127, x 128, x 129, x 130, x 131, x 132, x 133, x 134, x 135, x 136, x 137, x 138, x 139, x 140, x 141]
def slInv2 (s : List UInt8) (H : Hp) (fr : List AV) (H' : Hp) : Prop := ∃ k : Nat, k ≤ 6 ∧ 7 + k ≤ s.length ∧ preR s (6 - k) (7 + k) = preR s 13 0 ∧
  H' = H ++ [rcells 0 [] 0, [.int .i64 0, .int .i64 0], rcells (stP s k) [] (miP s k), [.int .i64 s.length, .int .i64 124]] ∧
  ∃ x : Nat → AV, fr = [.str s, x 1, .ptr (some (H.length, 0)), x 3, .ptr (some (H.length + 1, 0)), .ptr (some (H.length + 2, 0)), .int .i64 ((7 + k : Nat) : Int), .ptr (some (H.length + 3, 0)), x 8, x 9, x 10, x 11, x 12, x 13, x 14, x 15, x 16, x 17, x 18, x 19, x 20, x 21, x 22, x 23, x 24, x 25, x 26, x 27, x 28, x 29, x 30, x 31, x 32, x 33, .sl true 1 [[AV.str [48, 49]], [.str [32]], [.str [49, 50, 51, 52, 53]], [.str [48, 49, 50, 51, 52, 53, 54, 55, 56, 57]], [.str [48, 49, 50, 51, 52, 53, 54, 55, 56, 57]], [.str [32]]], .int .i64 6, .int .i64 k, x 37, x 38, x 39, x 40, x 41, x 42, x 43, x 44, x 45, x 46, x 47, x 48, x 49, x 50, x 51, x 52, x 53, x 54, x 55, x 56, x 57, x 58, x 59, x 60, x 61, x 62, x 63, x 64, x 65, x 66, x 67, x 68, x 69, x 70, x 71, x 72, x 73, x 74, x 75, x 76, x 77, x 78, x 79, x 80, x 81, x 82, x 83, x 84, x 85, x 86, x 87, x 88, x 89, x 90, x 91, x 92, x 93, x 94, x 95, x 96, x 97, x 98, x 99, x 100, x 101, x 102, x 103, x 104, x 105, x 106, x 107, x 108, x 109, x 110, x 111, x 112, x 113, x 114, x 115, x 116, x 117, x 118, x 119, x 120, x 121, x 122, x 123, x 124, x 125, x 126, x 127, x 128, x 129, x 130, x 131, x 132, x 133, x 134, x 135, x 136, x 137, x 138, x 139, x 140, x 141]
def slInv3 (s : List UInt8) (H : Hp) (fr : List AV) (H' : Hp) : Prop := ∃ i : Nat, 13 ≤ i ∧ i ≤ s.length ∧ reasonR (s.drop i) (i - 13) i = stR s ∧
  H' = H ++ [rcells 0 [] 0, [.int .i64 0, .int .i64 0], rcells (stP s 6) [] (miP s 6), [.int .i64 s.length, .int .i64 124]] ∧
  ∃ x : Nat → AV, fr = [.str s, x 1, .ptr (some (H.length, 0)), x 3, .ptr (some (H.length + 1, 0)), .ptr (some (H.length + 2, 0)), .int .i64 i, .ptr (some (H.length + 3, 0)), x 8, x 9, .int .i64 13, x 11, x 12, x 13, x 14, x 15, x 16, x 17, x 18, x 19, x 20, x 21, x 22, x 23, x 24, x 25, x 26, x 27, x 28, x 29, x 30, x 31, x 32, x 33, x 34, x 35, x 36, x 37, x 38, x 39, x 40, x 41, x 42, x 43, x 44, x 45, x 46, x 47, x 48, x 49, x 50, x 51, x 52, x 53, x 54, x 55, x 56, x 57, x 58, x 59, x 60, x 61, x 62, x 63, x 64, x 65, x 66, x 67, x 68, x 69, x 70, x 71, x 72, x 73, x 74, x 75, x 76, x 77, x 78, x 79, x 80, x 81, x 82, x 83, x 84, x 85, x 86, x 87, x 88, x 89, x 90, x 91, x 92, x 93, x 94, x 95, x 96, x 97, x 98, x 99, x 100, x 101, x 102, x 103, x 104, x 105, x 106, x 107, x 108, x 109, x 110, x 111, x 112, x 113, x 114, x 115, x 116, x 117, x 118, x 119, x 120, x 121, x 122, x 123, x 124, x 125, x 126, x 127, x 128, x 129, x 130, x 131, x 132, x 133, x 134, x 135, x 136, x 137, x 138, x 139, x 140, x 141]
set_option maxHeartbeats 2000000 in
theorem statusLine_pc (s : List UInt8) (hl : s.length ≤ 1073741824)
    (hQ1 : ∀ n : Nat, stR s = .ok n → Q (.tup [.agg (rcells (100 * dg s 9 + 10 * dg s 10 + dg s 11) ((s.drop 13).take (n - 2 - 13)) (dg s 7)), .int .i64 n, .agg [.int .i64 0, .int .i64 0]]) H)
    (hQ2 : ∀ (st : Int) (re : List UInt8) (mi : Int) (n : Nat), stR s = .bad n → Q (.tup [.agg (rcells st re mi), .int .i64 0, .agg [.int .i64 n, .int .i64 122]]) H)
    (hQ3 : ∀ (st : Int) (re : List UInt8) (mi : Int), stR s = .part → Q (.tup [.agg (rcells st re mi), .int .i64 0, .agg [.int .i64 s.length, .int .i64 124]]) H) : PC Tryz.prog E 110 [.str s] H Q := by
  refine pc_enterF (fun i => i = H.length + 2 ∨ i = H.length + 3) Tryz.func110 rfl [] [(7, [2, 2, 2, 0, 2]), (14, [2, 2, 2, 0, 2]), (29, [2, 2, 2, 0, 2]), (33, [2, 2, 2, 0, 2])] (by kernel_rfl) (fun E' hS' h0' hF' hB => ?_)
  simp [Tryz.ntmps110, Tryz.results110, List.replicate_succ]
  refine VL_go (slInv1 s H) (fun fr _ => 7 - (ai (aget fr 6)).toNat) ⟨by simp [rcells], 0, by omega, by omega, rfl, fr_intro (by simp)⟩ ?_
  rintro fr H' ⟨rfl, i, hi7, hi, hpre, x, rfl⟩
  by_cases h : i < 7
  · have h7 : (i : Int) < 7 := by omega
    obtain ⟨m, hm⟩ : ∃ m, 13 - i = m + 1 := ⟨12 - i, by omega⟩
    rw [hm] at hpre
    by_cases hl2 : i = s.length
    · have e1 : ((i : Int) == s.length) = true := by rw [beq_iff_eq]; omega
      rw [preR_end s m i (List.getElem?_eq_none (by omega))] at hpre
      simp [h7, e1, rcells, hS']
      exact aPost_same hB (v0 := .tup [.agg (rcells 0 [] 0), .int .i64 0, .agg [.int .i64 s.length, .int .i64 124]]) (by simp [rcells]) (nilV_refl _) (by simp [rcells]) (hQ3 0 [] 0 (stR_part hpre.symm))
    · have hil : i < s.length := by omega
      have e1 : ((i : Int) == s.length) = false := by rw [beq_eq_false_iff_ne]; omega
      obtain ⟨b, hb⟩ : ∃ b, s[i]? = some b := ⟨_, List.getElem?_eq_getElem hil⟩
      have hat := lat_eq hb
      obtain ⟨v, hv⟩ : ∃ v, verT[i]? = some v := ⟨_, List.getElem?_eq_getElem (by simp [verT]; omega)⟩
      have hvl : lat [72, 84, 84, 80, 47, 49, 46] i = some v := lat_eq hv
      have hw : IntKind.i64.wrap ((i : Int) + 1) = i + 1 := wrap_in (by omega) (by omega)
      have hst : stB i b = decide (v = b) := by unfold stB; rw [if_pos h, hv]; simp
      by_cases hvb : v = b
      · subst hvb
        rw [preR_ok hb (by rw [hst]; simp)] at hpre
        simp [h7, e1, hat, hvl, hil, hw, rcells]
        exact Kloop_normal ⟨by simp [rcells], i + 1, by omega, by omega, by rw [show 13 - (i + 1) = m by omega]; exact hpre, fr_intro (by simp)⟩ (by simp; omega)
      · have hne : ((b.toNat : Int) != v.toNat) = true := by
          rw [bne_iff_ne]; intro e; exact hvb (UInt8.toNat_inj.1 (by omega))
        rw [preR_bad hb (by rw [hst]; simp [hvb])] at hpre
        simp [h7, e1, hat, hvl, hil, hne, rcells]
        exact aPost_same hB (v0 := .tup [.agg (rcells 0 [] 0), .int .i64 0, .agg [.int .i64 i, .int .i64 122]]) (by simp [rcells]) (nilV_refl _) (by simp [rcells]) (hQ2 0 [] 0 i (stR_bad hpre.symm))
  · obtain rfl : i = 7 := by omega
    have hbt : ∀ b : UInt8, (b.toNat : Int) < 256 := fun b => by have := b.toNat_lt; omega
    have hr6 : [0, 1, 2, 3, 4, 5] = List.range 6 := rfl
    simp [rcells, hr6]
    refine VL_go (slInv2 s H) (fun fr _ => 6 - (ai (aget fr 36)).toNat) ⟨0, by omega, by omega, hpre, by simp [rcells, stP, miP], fr_intro (by simp)⟩ ?_
    rintro fr H' ⟨k, hk6, hk, hpre2, rfl, x, rfl⟩
    by_cases h6 : k < 6
    · have h6' : (k : Int) < 6 := by omega
      obtain ⟨m, hm⟩ : ∃ m, 6 - k = m + 1 := ⟨5 - k, by omega⟩
      rw [hm] at hpre2
      have hmay := mayT_at k h6
      have hw : IntKind.i64.wrap (7 + (k : Int) + 1) = 7 + (k + 1) := by rw [wrap_in (by omega) (by omega)]; omega
      have hwk : IntKind.i64.wrap ((k : Int) + 1) = k + 1 := wrap_in (by omega) (by omega)
      by_cases hl2 : 7 + k = s.length
      · have e1 : (7 + (k : Int) == s.length) = true := by rw [beq_iff_eq]; omega
        rw [preR_end s m (7 + k) (List.getElem?_eq_none (by omega))] at hpre2
        simp [h6', hmay, e1, rcells, hS']
        exact aPost_same hB (v0 := .tup [.agg (rcells (stP s k) [] (miP s k)), .int .i64 0, .agg [.int .i64 s.length, .int .i64 124]]) (by simp [rcells]) (nilV_refl _) (by simp [rcells]) (hQ3 _ [] _ (stR_part hpre2.symm))
      · have hil : 7 + k < s.length := by omega
        have e1 : (7 + (k : Int) == s.length) = false := by rw [beq_eq_false_iff_ne]; omega
        obtain ⟨b, hb⟩ : ∃ b, s[7 + k]? = some b := ⟨_, List.getElem?_eq_getElem hil⟩
        have hat : lat s (7 + k) = some b := lat_eq hb
        have hge : (0 : Int) ≤ 7 + (k : Int) := by omega
        have hlt : 7 + (k : Int) < s.length := by omega
        have htn : (7 + (k : Int)).toNat = 7 + k := by omega
        have hma := may_at h6 b
        simp [h6', hmay, e1, hge, hlt, htn, hat]
        refine indexByte_pc E' _ _ (mayT.getD k []) b ?_
        cases hsb : stB (7 + k) b with
        | false =>
          rw [hsb] at hma
          have hlt0 : Lib.indexByte (mayT.getD k []) b < 0 := by simpa using hma
          rw [preR_bad hb hsb] at hpre2
          simp only [List.getD_eq_getElem?_getD] at hlt0
          simp [hlt0, rcells]
          exact aPost_same hB (v0 := .tup [.agg (rcells (stP s k) [] (miP s k)), .int .i64 0, .agg [.int .i64 ((7 + k : Nat) : Int), .int .i64 122]]) (by simp [rcells]) (nilV_refl _) (by simp [rcells]) (hQ2 _ [] _ (7 + k) (stR_bad hpre2.symm))
        | true =>
          rw [hsb] at hma
          have hlt0 : ¬ Lib.indexByte (mayT.getD k []) b < 0 := by simpa using hma
          rw [preR_ok hb hsb] at hpre2
          simp only [List.getD_eq_getElem?_getD] at hlt0
          have hpre3 : preR s (6 - (k + 1)) (7 + (k + 1)) = preR s 13 0 := by rw [show 6 - (k + 1) = m by omega]; exact hpre2
          have hdg := dg_at hb
          have hrng : ∀ i, -48 ≤ dg s i ∧ dg s i ≤ 207 := fun i => by
            unfold dg
            have := (s[i]?.getD 0).toNat_lt
            omega
          have fin : ∀ (st mi : Int) (fr : List AV), stP s (k + 1) = st → miP s (k + 1) = mi → (∃ x : Nat → AV, fr = [.str s, x 1, .ptr (some (H.length, 0)), x 3, .ptr (some (H.length + 1, 0)), .ptr (some (H.length + 2, 0)), .int .i64 ((7 + (k + 1) : Nat) : Int), .ptr (some (H.length + 3, 0)), x 8, x 9, x 10, x 11, x 12, x 13, x 14, x 15, x 16, x 17, x 18, x 19, x 20, x 21, x 22, x 23, x 24, x 25, x 26, x 27, x 28, x 29, x 30, x 31, x 32, x 33, .sl true 1 [[AV.str [48, 49]], [.str [32]], [.str [49, 50, 51, 52, 53]], [.str [48, 49, 50, 51, 52, 53, 54, 55, 56, 57]], [.str [48, 49, 50, 51, 52, 53, 54, 55, 56, 57]], [.str [32]]], .int .i64 6, .int .i64 ((k + 1 : Nat) : Int), x 37, x 38, x 39, x 40, x 41, x 42, x 43, x 44, x 45, x 46, x 47, x 48, x 49, x 50, x 51, x 52, x 53, x 54, x 55, x 56, x 57, x 58, x 59, x 60, x 61, x 62, x 63, x 64, x 65, x 66, x 67, x 68, x 69, x 70, x 71, x 72, x 73, x 74, x 75, x 76, x 77, x 78, x 79, x 80, x 81, x 82, x 83, x 84, x 85, x 86, x 87, x 88, x 89, x 90, x 91, x 92, x 93, x 94, x 95, x 96, x 97, x 98, x 99, x 100, x 101, x 102, x 103, x 104, x 105, x 106, x 107, x 108, x 109, x 110, x 111, x 112, x 113, x 114, x 115, x 116, x 117, x 118, x 119, x 120, x 121, x 122, x 123, x 124, x 125, x 126, x 127, x 128, x 129, x 130, x 131, x 132, x 133, x 134, x 135, x 136, x 137, x 138, x 139, x 140, x 141]) →
              slInv2 s H fr (H ++ [rcells 0 [] 0, [.int .i64 0, .int .i64 0], rcells st [] mi, [.int .i64 s.length, .int .i64 124]]) := fun st mi fr h1 h2 h3 => ⟨k + 1, by omega, by omega, hpre3, by rw [h1, h2], h3⟩
          rcases (by omega : k = 0 ∨ k = 1 ∨ k = 2 ∨ k = 3 ∨ k = 4 ∨ k = 5) with rfl | rfl | rfl | rfl | rfl | rfl
          · have hd := may_dig' (.inl hsb)
            have hu := u8_sub48 b.toNat b.toNat_lt hd.1
            have hwc : IntKind.i64.wrap ((b.toNat : Int) - 48) = (b.toNat : Int) - 48 := wrap_in (by omega) (by omega)
            have hat2 : lat s 7 = some b := hat
            simp [hlt0, wlit, hat2, hu, hwc, rcells]
            exact Kloop_normal (fin 0 _ _ rfl hdg (fr_intro (by simp))) (by simp)
          · simp [hlt0, wlit, rcells]
            exact Kloop_normal (fin 0 (dg s 7) _ rfl rfl (fr_intro (by simp))) (by simp)
          · have hd := may_dig' (.inr (.inl hsb))
            have hu := u8_sub48 b.toNat b.toNat_lt hd.1
            have hwc : IntKind.i64.wrap ((b.toNat : Int) - 48) = (b.toNat : Int) - 48 := wrap_in (by omega) (by omega)
            have hat2 : lat s 9 = some b := hat
            have hw0 : IntKind.i64.wrap ((b.toNat : Int) - 48) = (b.toNat : Int) - 48 := wrap_in (by omega) (by omega)
            simp [hlt0, wlit, hat2, hu, hwc, hw0, rcells, stP]
            exact Kloop_normal (fin ((b.toNat : Int) - 48) (dg s 7) _ hdg rfl (fr_intro (by simp))) (by simp)
          · have hd := may_dig' (.inr (.inr (.inl hsb)))
            have hu := u8_sub48 b.toNat b.toNat_lt hd.1
            have hwc : IntKind.i64.wrap ((b.toNat : Int) - 48) = (b.toNat : Int) - 48 := wrap_in (by omega) (by omega)
            have hat2 : lat s 10 = some b := hat
            have h9 := hrng 9
            have hw0 : IntKind.i64.wrap (10 * dg s 9) = 10 * dg s 9 := wrap_in (by omega) (by omega)
            have hw1 : IntKind.i64.wrap (10 * dg s 9 + ((b.toNat : Int) - 48)) = 10 * dg s 9 + ((b.toNat : Int) - 48) := wrap_in (by omega) (by omega)
            simp [hlt0, wlit, hat2, hu, hwc, hw0, hw1, rcells, stP]
            exact Kloop_normal (fin (10 * dg s 9 + ((b.toNat : Int) - 48)) (dg s 7) _ (by rw [← hdg]; rfl) rfl (fr_intro (by simp))) (by simp)
          · have hd := may_dig' (.inr (.inr (.inr hsb)))
            have hu := u8_sub48 b.toNat b.toNat_lt hd.1
            have hwc : IntKind.i64.wrap ((b.toNat : Int) - 48) = (b.toNat : Int) - 48 := wrap_in (by omega) (by omega)
            have hat2 : lat s 11 = some b := hat
            have h9 := hrng 9
            have h10 := hrng 10
            have hw0 : IntKind.i64.wrap (10 * (10 * dg s 9 + dg s 10)) = 10 * (10 * dg s 9 + dg s 10) := wrap_in (by omega) (by omega)
            have hw1 : IntKind.i64.wrap (10 * (10 * dg s 9 + dg s 10) + ((b.toNat : Int) - 48)) = 10 * (10 * dg s 9 + dg s 10) + ((b.toNat : Int) - 48) := wrap_in (by omega) (by omega)
            simp [hlt0, wlit, hat2, hu, hwc, hw0, hw1, rcells, stP]
            exact Kloop_normal (fin (10 * (10 * dg s 9 + dg s 10) + ((b.toNat : Int) - 48)) (dg s 7) _ (by rw [← hdg]; rfl) rfl (fr_intro (by simp))) (by simp)
          · simp [hlt0, wlit, rcells]
            exact Kloop_normal (fin (stP s 5) (dg s 7) _ rfl rfl (fr_intro (by simp))) (by simp)
    · obtain rfl : k = 6 := by omega
      have hst : stR s = reasonR (s.drop 13) 0 13 := stR_ok (by rw [← hpre2]; rfl)
      have hmi : miP s 6 = dg s 7 := rfl
      have hs6 : stP s 6 = 100 * dg s 9 + 10 * dg s 10 + dg s 11 := by show 10 * (10 * dg s 9 + dg s 10) + dg s 11 = _; omega
      simp
      refine VL_go (slInv3 s H) (fun fr _ => s.length - (ai (aget fr 6)).toNat) ⟨13, by omega, by omega, hst.symm, rfl, fr_intro (by simp)⟩ ?_
      rintro fr H' ⟨i, h13, hi, hre, rfl, x, rfl⟩
      by_cases hl3 : i = s.length
      · have e1 : ((i : Int) == s.length) = true := by rw [beq_iff_eq]; omega
        rw [List.drop_of_length_le (by omega), reasonR_nil] at hre
        simp [e1, rcells, hS']
        exact aPost_same hB (v0 := .tup [.agg (rcells (stP s 6) [] (miP s 6)), .int .i64 0, .agg [.int .i64 s.length, .int .i64 124]]) (by simp [rcells]) (nilV_refl _) (by simp [rcells]) (hQ3 _ [] _ hre.symm)
      have hil : i < s.length := by omega
      have e1 : ((i : Int) == s.length) = false := by rw [beq_eq_false_iff_ne]; omega
      obtain ⟨b, hb⟩ : ∃ b, s[i]? = some b := ⟨_, List.getElem?_eq_getElem hil⟩
      have hat := lat_eq hb
      have hd := drop_at s i b hb
      have hw : IntKind.i64.wrap ((i : Int) + 1) = i + 1 := wrap_in (by omega) (by omega)
      have hw2 : IntKind.i64.wrap ((i : Int) + 2) = i + 2 := wrap_in (by omega) (by omega)
      have hwm : IntKind.i64.wrap ((i : Int) - 13) = i - 13 := wrap_in (by omega) (by omega)
      have tn : ((i : Int) + 1).toNat = i + 1 := by omega
      have hile : i ≤ s.length := by omega
      rw [hd] at hre
      by_cases hb13 : b = 13
      · subst hb13
        by_cases hl4 : i + 1 = s.length
        · have e2 : ((i : Int) + 1 == s.length) = true := by rw [beq_iff_eq]; omega
          rw [List.drop_of_length_le (by omega), reasonR_cr1] at hre
          simp [e1, hil, hat, hw, e2, h13, hile, rcells, hS']
          exact aPost_same hB (v0 := .tup [.agg (rcells (stP s 6) ((s.drop 13).take (i - 13)) (miP s 6)), .int .i64 0, .agg [.int .i64 s.length, .int .i64 124]]) (by simp [rcells]) (nilV_refl _) (by simp [rcells]) (hQ3 _ _ _ hre.symm)
        · have hlt : i + 1 < s.length := by omega
          have e2 : ((i : Int) + 1 == s.length) = false := by rw [beq_eq_false_iff_ne]; omega
          have hlt2 : (i : Int) + 1 < s.length := by omega
          have hge2 : (0 : Int) ≤ (i : Int) + 1 := by omega
          obtain ⟨c, hcc⟩ : ∃ c, s[i + 1]? = some c := ⟨_, List.getElem?_eq_getElem hlt⟩
          have hat2 := lat_eq hcc
          rw [drop_at s (i + 1) c hcc, reasonR_cr] at hre
          by_cases hc10 : c = 10
          · subst hc10
            rw [if_pos rfl] at hre
            have hq := hQ1 (i + 2) hre.symm
            rw [show i + 2 - 2 - 13 = i - 13 by omega, ← hs6, ← hmi] at hq
            simp [e1, hil, hat, hw, hw2, e2, h13, hile, tn, hlt2, hge2, hat2, rcells]
            exact aPost_same hB (v0 := .tup [.agg (rcells (stP s 6) ((s.drop 13).take (i - 13)) (miP s 6)), .int .i64 ((i + 2 : Nat) : Int), .agg [.int .i64 0, .int .i64 0]]) (by simp [rcells]) (nilV_refl _) (by simp [rcells]) hq
          · rw [if_neg hc10] at hre
            have hne : ((c.toNat : Int) != 10) = true := by
              rw [bne_iff_ne]; intro e; exact hc10 (UInt8.toNat_inj.1 (by have : (10 : UInt8).toNat = 10 := rfl; omega))
            simp [e1, hil, hat, hw, e2, h13, hile, tn, hlt2, hge2, hat2, hne, rcells]
            exact aPost_same hB (v0 := .tup [.agg (rcells (stP s 6) ((s.drop 13).take (i - 13)) (miP s 6)), .int .i64 0, .agg [.int .i64 ((i + 1 : Nat) : Int), .int .i64 122]]) (by simp [rcells]) (nilV_refl _) (by simp [rcells]) (hQ2 _ _ _ (i + 1) hre.symm)
      · have hb13' : ((b.toNat : Int) == 13) = false := by
          rw [beq_eq_false_iff_ne]; intro e; exact hb13 (UInt8.toNat_inj.1 (by have : (13 : UInt8).toNat = 13 := rfl; omega))
        have hsl : (s.drop i).take (i + 1 - i) = [b] := by rw [hd, show i + 1 - i = 1 by omega]; rfl
        have hle1 : i + 1 ≤ s.length := by omega
        have hsl1 : (s.drop i).take 1 = [b] := by rw [hd]; rfl
        have hge1 : (0 : Int) ≤ (i : Int) + 1 := by omega
        simp [e1, hil, hat, hw, hb13', tn, hle1, hge1, hsl1]
        refine isField_pc E' _ _ [b] (by simp [cap]) ?_
        have hfc : fldB [b] = fcB b := by simp [fldB]
        rw [hfc]
        cases hf : fcB b with
        | false =>
          rw [reasonR_bad _ _ _ _ hb13 (.inr hf)] at hre
          simp [rcells]
          exact aPost_same hB (v0 := .tup [.agg (rcells (stP s 6) [] (miP s 6)), .int .i64 0, .agg [.int .i64 i, .int .i64 122]]) (by simp [rcells]) (nilV_refl _) (by simp [rcells]) (hQ2 _ [] _ i hre.symm)
        | true =>
          by_cases h256 : 256 ≤ i - 13
          · rw [reasonR_bad _ _ _ _ hb13 (.inl h256)] at hre
            have h256' : (256 : Int) ≤ (i : Int) - 13 := by omega
            simp [hwm, h256', rcells]
            exact aPost_same hB (v0 := .tup [.agg (rcells (stP s 6) [] (miP s 6)), .int .i64 0, .agg [.int .i64 i, .int .i64 122]]) (by simp [rcells]) (nilV_refl _) (by simp [rcells]) (hQ2 _ [] _ i hre.symm)
          · rw [reasonR_go _ _ _ _ hb13 (fun e => e.elim h256 (fun e => by rw [hf] at e; cases e))] at hre
            have h256' : ¬ (256 : Int) ≤ (i : Int) - 13 := by omega
            simp [hwm, h256', hw]
            exact Kloop_normal ⟨i + 1, by omega, by omega, by rw [show i + 1 - 13 = i - 13 + 1 by omega]; exact hre, rfl, fr_intro (by simp)⟩ (by simp; omega)
end
end Go.Proofs.YtcdkcaocfioigaaGreatDoor

set_option linter.unusedVariables false
set_option linter.unnecessarySimpa false
set_option linter.unusedSimpArgs false
set_option linter.unusedSectionVars false
set_option maxRecDepth 100000
namespace Go.Proofs.YtcdkcaocfioigaaGreatDoor
open Go Go.RowKit Go.Proofs

theorem lineS_ext (u : List UInt8) : ∀ (l : List UInt8) (back : Bool) (i : Nat), lineS back l i ≠ .part → lineS back (l ++ u) i = lineS back l i
  | [], back, i, h => absurd (lineS_nil back i) h
  | b :: r, true, i, _ => by rw [List.cons_append, lineS_back, lineS_back]
  | b :: r, false, i, h => by
    rw [lineS_go] at h
    rw [List.cons_append, lineS_go, lineS_go]
    by_cases hb : b = 10
    · rw [if_pos hb, if_pos hb]
    · rw [if_neg hb] at h
      rw [if_neg hb, if_neg hb]
      exact lineS_ext u r _ _ h
theorem lineS_rng : ∀ (l : List UInt8) (back : Bool) (i n : Nat), lineS back l i = .ok n → i < n ∧ n ≤ i + l.length ∧ (back = false → i + 2 ≤ n)
  | [], back, i, n, h => by rw [lineS_nil] at h; cases h
  | b :: r, true, i, n, h => by
    rw [lineS_back] at h
    split at h
    · cases h; simp only [List.length_cons]; exact ⟨by omega, by omega, fun e => by cases e⟩
    · cases h
  | b :: r, false, i, n, h => by
    rw [lineS_go] at h
    split at h
    · cases h
    · obtain ⟨h1, h2, _⟩ := lineS_rng r _ _ _ h
      simp only [List.length_cons]
      exact ⟨by omega, by omega, fun _ => by omega⟩
theorem lineR_ext {t : List UInt8} {a : Nat} (u : List UInt8) (ha : a ≤ t.length) (h : lineR t a ≠ .part) : lineR (t ++ u) a = lineR t a := by
  unfold lineR at h ⊢
  rw [List.drop_append_of_le_length ha]
  exact lineS_ext u _ _ _ h
theorem lineR_rng {t : List UInt8} {a n : Nat} (h : lineR t a = .ok n) : a + 2 ≤ n ∧ (a ≤ t.length → n ≤ t.length) := by
  obtain ⟨h1, h2, h3⟩ := lineS_rng _ _ _ _ h
  rw [List.length_drop] at h2
  exact ⟨h3 rfl, fun ha => by omega⟩
theorem preR_ext (s u : List UInt8) : ∀ (n i : Nat), preR s n i ≠ .part → preR (s ++ u) n i = preR s n i
  | 0, i, _ => rfl
  | n + 1, i, h => by
    cases hb : s[i]? with
    | none => exact absurd (preR_end s n i hb) h
    | some b =>
      have hb2 : (s ++ u)[i]? = some b := by rw [List.getElem?_append_left (List.getElem?_eq_some_iff.1 hb).1]; exact hb
      by_cases hs : stB i b = true
      · rw [preR_ok hb hs] at h
        rw [preR_ok hb hs, preR_ok hb2 hs]
        exact preR_ext s u n (i + 1) h
      · rw [Bool.not_eq_true] at hs
        rw [preR_bad hb hs, preR_bad hb2 hs]
theorem preR_len (s : List UInt8) : ∀ (n i j : Nat), preR s n i = .ok j → j = i + n ∧ (i ≤ s.length → j ≤ s.length)
  | 0, i, j, h => by cases h; exact ⟨rfl, fun h => h⟩
  | n + 1, i, j, h => by
    cases hb : s[i]? with
    | none => rw [preR_end s n i hb] at h; cases h
    | some b =>
      have hi := (List.getElem?_eq_some_iff.1 hb).1
      by_cases hs : stB i b = true
      · rw [preR_ok hb hs] at h
        obtain ⟨h1, h2⟩ := preR_len s n (i + 1) j h
        exact ⟨by omega, fun _ => h2 (by omega)⟩
      · rw [Bool.not_eq_true] at hs
        rw [preR_bad hb hs] at h; cases h
theorem reasonR_ext (u : List UInt8) : ∀ (l : List UInt8) (k i : Nat), reasonR l k i ≠ .part → reasonR (l ++ u) k i = reasonR l k i
  | [], k, i, h => absurd (reasonR_nil k i) h
  | b :: r, k, i, h => by
    rw [List.cons_append]
    by_cases hb : b = 13
    · subst hb
      cases r with
      | nil => exact absurd (reasonR_cr1 k i) h
      | cons c r => rw [List.cons_append, reasonR_cr, reasonR_cr]
    · by_cases h2 : 256 ≤ k ∨ fcB b = false
      · rw [reasonR_bad _ _ _ _ hb h2, reasonR_bad _ _ _ _ hb h2]
      · rw [reasonR_go _ _ _ _ hb h2] at h
        rw [reasonR_go _ _ _ _ hb h2, reasonR_go _ _ _ _ hb h2]
        exact reasonR_ext u r _ _ h
theorem reasonR_rng : ∀ (l : List UInt8) (k i n : Nat), reasonR l k i = .ok n → i + 2 ≤ n ∧ n ≤ i + l.length
  | [], k, i, n, h => by rw [reasonR_nil] at h; cases h
  | b :: r, k, i, n, h => by
    by_cases hb : b = 13
    · subst hb
      cases r with
      | nil => rw [reasonR_cr1] at h; cases h
      | cons c r =>
        rw [reasonR_cr] at h
        split at h
        · cases h; simp only [List.length_cons]; omega
        · cases h
    · by_cases h2 : 256 ≤ k ∨ fcB b = false
      · rw [reasonR_bad _ _ _ _ hb h2] at h; cases h
      · rw [reasonR_go _ _ _ _ hb h2] at h
        have := reasonR_rng r _ _ _ h
        simp only [List.length_cons]; omega
theorem stR_pre {s : List UInt8} {n : Nat} (h : stR s = .ok n) : preR s 13 0 = .ok 13 ∧ 13 ≤ s.length ∧ reasonR (s.drop 13) 0 13 = .ok n ∧ 15 ≤ n ∧ n ≤ s.length := by
  unfold stR at h
  cases hp : preR s 13 0 with
  | ok j =>
    obtain ⟨h1, h2⟩ := preR_len s 13 0 j hp
    have h3 := h2 (by omega)
    rw [hp] at h
    simp only at h
    have := reasonR_rng _ _ _ _ h
    rw [List.length_drop] at this
    exact ⟨by rw [h1], by omega, h, by omega, by omega⟩
  | bad j => rw [hp] at h; cases h
  | part => rw [hp] at h; cases h
theorem stR_ext {s : List UInt8} (u : List UInt8) (h : stR s ≠ .part) : stR (s ++ u) = stR s := by
  cases hp : preR s 13 0 with
  | ok j =>
    have hl := preR_len s 13 0 j hp
    have hp2 : preR (s ++ u) 13 0 = .ok j := by rw [preR_ext s u 13 0 (by rw [hp]; simp), hp]
    rw [stR_ok hp] at h
    rw [stR_ok hp, stR_ok hp2, List.drop_append_of_le_length (by omega)]
    exact reasonR_ext u _ _ _ h
  | bad j =>
    have hp2 : preR (s ++ u) 13 0 = .bad j := by rw [preR_ext s u 13 0 (by rw [hp]; simp), hp]
    rw [stR_bad hp, stR_bad hp2]
  | part => exact absurd (stR_part hp) h
/-- One line of a head. -/
def nextR (t : List UInt8) (old : Bool) (a : Nat) (fs : List Fld) : HD ⊕ (Nat × List Fld) := match lineR t a with
  | .part => .inl .part
  | .bad i => .inl (.bad i 122)
  | .ok e => if (t.drop a).take (e - 2 - a) = [] then .inl (if (framingA fs old).2.2 ≠ 0 then .bad a (framingA fs old).2.2 else .ok fs e)
      else if 100 ≤ fs.length then .inl (.bad a 65)
      else if (lineX ((t.drop a).take (e - 2 - a))).2.2 ≠ 0 then .inl (.bad (a + (lineX ((t.drop a).take (e - 2 - a))).2.1) (lineX ((t.drop a).take (e - 2 - a))).2.2)
      else .inr (e, fs ++ [(lineX ((t.drop a).take (e - 2 - a))).1])
theorem fieldsR_next (t : List UInt8) (old : Bool) (n a : Nat) (fs : List Fld) : fieldsR t old (n + 1) a fs = match nextR t old a fs with
    | .inl x => x
    | .inr (e, gs) => fieldsR t old n e gs := by
  rw [fieldsR]
  unfold nextR
  cases lineR t a with
  | part => rfl
  | bad i => rfl
  | ok e =>
    simp only
    split
    · rfl
    · split
      · rfl
      · split <;> rfl
theorem nextR_ext {t : List UInt8} {old : Bool} {a : Nat} {fs : List Fld} (u : List UInt8) (ha : a ≤ t.length) (h : nextR t old a fs ≠ .inl .part) : nextR (t ++ u) old a fs = nextR t old a fs := by
  have hl : lineR t a ≠ .part := fun e => h (by unfold nextR; rw [e])
  have hl2 := lineR_ext u ha hl
  unfold nextR
  rw [hl2]
  cases he : lineR t a with
  | part => rfl
  | bad i => rfl
  | ok e =>
    have hr := (lineR_rng he).2 ha
    have hd : ((t ++ u).drop a).take (e - 2 - a) = (t.drop a).take (e - 2 - a) := by
      rw [List.drop_append_of_le_length ha, List.take_append_of_le_length (by rw [List.length_drop]; omega)]
    simp only [hd]
theorem nextR_go {t : List UInt8} {old : Bool} {a e : Nat} {fs gs : List Fld} (h : nextR t old a fs = .inr (e, gs)) : a + 2 ≤ e ∧ (a ≤ t.length → e ≤ t.length) ∧ lineR t a = .ok e ∧ (t.drop a).take (e - 2 - a) ≠ [] ∧ fs.length < 100 ∧ (lineX ((t.drop a).take (e - 2 - a))).2.2 = 0 ∧ gs = fs ++ [(lineX ((t.drop a).take (e - 2 - a))).1] := by
  unfold nextR at h
  cases he : lineR t a with
  | part => rw [he] at h; cases h
  | bad i => rw [he] at h; cases h
  | ok e' =>
    rw [he] at h
    simp only at h
    split at h
    · cases h
    · split at h
      · cases h
      · split at h
        · cases h
        · rename_i h1 h2 h3
          cases h
          obtain ⟨r1, r2⟩ := lineR_rng he
          exact ⟨r1, r2, rfl, h1, by omega, by simpa using h3, rfl⟩
theorem fieldsR_ext (u : List UInt8) {t : List UInt8} {old : Bool} : ∀ (n m a : Nat) (fs : List Fld), n ≤ m → a ≤ t.length → fieldsR t old n a fs ≠ .part → fieldsR (t ++ u) old m a fs = fieldsR t old n a fs
  | 0, m, a, fs, _, _, h => absurd (by rw [fieldsR]) h
  | n + 1, 0, a, fs, hn, _, _ => absurd hn (by omega)
  | n + 1, m + 1, a, fs, hn, ha, h => by
    rw [fieldsR_next] at h ⊢
    rw [fieldsR_next]
    cases hx : nextR t old a fs with
    | inl x =>
      rw [hx] at h
      rw [nextR_ext u ha (by rw [hx]; intro e; cases e; exact h rfl), hx]
    | inr p =>
      obtain ⟨e, gs⟩ := p
      rw [hx] at h
      rw [nextR_ext u ha (by rw [hx]; simp), hx]
      simp only at h ⊢
      exact fieldsR_ext u n m e gs (by omega) ((nextR_go hx).2.1 ha) h
theorem fieldsR_rng {t : List UInt8} {old : Bool} : ∀ (n a : Nat) (fs gs : List Fld) (e : Nat), a ≤ t.length → fieldsR t old n a fs = .ok gs e → a + 2 ≤ e ∧ e ≤ t.length
  | 0, a, fs, gs, e, _, h => by rw [fieldsR] at h; cases h
  | n + 1, a, fs, gs, e, ha, h => by
    rw [fieldsR_next] at h
    cases hx : nextR t old a fs with
    | inl x =>
      rw [hx] at h
      simp only at h
      subst h
      unfold nextR at hx
      cases he : lineR t a with
      | part => rw [he] at hx; cases hx
      | bad i => rw [he] at hx; cases hx
      | ok e' =>
        obtain ⟨r1, r2⟩ := lineR_rng he
        have r3 := r2 ha
        rw [he] at hx
        simp only at hx
        split at hx
        · split at hx
          · cases hx
          · cases hx; omega
        · split at hx
          · cases hx
          · split at hx <;> cases hx
    | inr p =>
      obtain ⟨e', gs'⟩ := p
      rw [hx] at h
      obtain ⟨r1, r2, _⟩ := nextR_go hx
      have := fieldsR_rng n e' gs' gs e (r2 ha) h
      omega
theorem fieldsR_bad0 {t : List UInt8} {old : Bool} : ∀ (n a : Nat) (fs : List Fld) (i : Int), fieldsR t old n a fs ≠ .bad i 0
  | 0, a, fs, i, h => by rw [fieldsR] at h; cases h
  | n + 1, a, fs, i, h => by
    rw [fieldsR_next] at h
    cases hx : nextR t old a fs with
    | inl x =>
      rw [hx] at h
      simp only at h
      subst h
      unfold nextR at hx
      cases he : lineR t a with
      | part => rw [he] at hx; cases hx
      | bad i => rw [he] at hx; cases hx
      | ok e' =>
        rw [he] at hx
        simp only at hx
        split at hx
        · split at hx
          · rename_i h1
            injection hx with hx
            injection hx with _ hx
            exact h1 hx
          · cases hx
        · split at hx
          · injection hx with hx
            injection hx with _ hx
            exact absurd hx (by decide)
          · split at hx
            · rename_i h1
              injection hx with hx
              injection hx with _ hx
              exact h1 hx
            · cases hx
    | inr p =>
      obtain ⟨e', gs'⟩ := p
      rw [hx] at h
      exact fieldsR_bad0 n e' gs' i h
/-- The head that a text of at most 65536 bytes begins with; none: there is not all of it. -/
def headO (t : List UInt8) : Option (Rep × Int × Int) := match stR t with
  | .part => none
  | .bad i => some (rep0, (i : Int), 122)
  | .ok a => match fieldsR t (decide (dg t 7 = 0)) (t.length + 1) a [] with
    | .part => none
    | .bad n e => some (rep0, n, e)
    | .ok fs e => some (⟨dg t 7, 100 * dg t 9 + 10 * dg t 10 + dg t 11, (t.drop 13).take (a - 2 - 13), fs, [], [], (framingA fs (decide (dg t 7 = 0))).1, (framingA fs (decide (dg t 7 = 0))).2.1, persistA fs (decide (dg t 7 = 0))⟩, (e : Int), 0)
theorem headM_eq (s : List UInt8) : headM s = (headO (s.take 65536)).getD (if 65536 < s.length then (rep0, 65536, 125) else (rep0, (s.length : Int), 124)) := by
  unfold headM headO
  simp only
  cases stR (s.take 65536) with
  | part => rfl
  | bad i => rfl
  | ok a =>
    simp only
    cases fieldsR (s.take 65536) (decide (dg (s.take 65536) 7 = 0)) ((s.take 65536).length + 1) a [] <;> rfl
theorem headO_ext {t : List UInt8} {x : Rep × Int × Int} (u : List UInt8) (h : headO t = some x) : headO (t ++ u) = some x := by
  unfold headO at h ⊢
  have h1 : stR t ≠ .part := fun e => by rw [e] at h; cases h
  rw [stR_ext u h1]
  cases hs : stR t with
  | part => exact absurd hs h1
  | bad i => rw [hs] at h; exact h
  | ok a =>
    rw [hs] at h
    simp only at h ⊢
    obtain ⟨_, h13, _, ha15, ha⟩ := stR_pre hs
    have hdg : ∀ i, i < 13 → dg (t ++ u) i = dg t i := fun i hi => by unfold dg; rw [List.getElem?_append_left (by omega)]
    rw [hdg 7 (by omega), hdg 9 (by omega), hdg 10 (by omega), hdg 11 (by omega)]
    have h2 : fieldsR t (decide (dg t 7 = 0)) (t.length + 1) a [] ≠ .part := fun e => by rw [e] at h; cases h
    rw [fieldsR_ext u (t.length + 1) ((t ++ u).length + 1) a [] (by simp) ha h2]
    have hd : ((t ++ u).drop 13).take (a - 2 - 13) = (t.drop 13).take (a - 2 - 13) := by
      rw [List.drop_append_of_le_length h13, List.take_append_of_le_length (by rw [List.length_drop]; omega)]
    rw [hd]
    exact h
theorem headM_ext {s : List UInt8} (u : List UInt8) (h : (headM s).2.2 ≠ 124) : headM (s ++ u) = headM s := by
  rw [headM_eq] at h
  rw [headM_eq, headM_eq]
  by_cases hl : s.length < 65536
  · have e1 : s.take 65536 = s := List.take_of_length_le (by omega)
    have e2 : (s ++ u).take 65536 = s ++ u.take (65536 - s.length) := by rw [List.take_append, e1]
    rw [e1] at h ⊢
    rw [e2]
    cases hx : headO s with
    | none => rw [hx, if_neg (by omega)] at h; exact absurd rfl h
    | some x => rw [headO_ext _ hx]; rfl
  · have e2 : (s ++ u).take 65536 = s.take 65536 := List.take_append_of_le_length (by omega)
    rw [e2]
    cases hx : headO (s.take 65536) with
    | none =>
      rw [hx] at h
      by_cases h2 : 65536 < s.length
      · rw [if_pos h2, if_pos (by rw [List.length_append]; omega)]
      · rw [if_neg h2] at h; exact absurd rfl h
    | some x => rfl
theorem headM_rng {s : List UInt8} (h : (headM s).2.2 = 0) : ∃ n : Nat, (headM s).2.1 = n ∧ 17 ≤ n ∧ n ≤ s.length ∧ n ≤ 65536 := by
  rw [headM_eq] at h ⊢
  cases hx : headO (s.take 65536) with
  | none =>
    rw [hx] at h
    simp only [Option.getD_none] at h
    split at h <;> simp at h
  | some x =>
    rw [hx] at h
    simp only [Option.getD_some] at h ⊢
    unfold headO at hx
    cases hs : stR (s.take 65536) with
    | part => rw [hs] at hx; cases hx
    | bad i => rw [hs] at hx; cases hx; simp at h
    | ok a =>
      rw [hs] at hx
      simp only at hx
      obtain ⟨_, h13, _, ha15, ha⟩ := stR_pre hs
      cases hf : fieldsR (s.take 65536) (decide (dg (s.take 65536) 7 = 0)) ((s.take 65536).length + 1) a [] with
      | part => rw [hf] at hx; cases hx
      | bad n e =>
        rw [hf] at hx
        cases hx
        simp only at h
        subst h
        exfalso
        exact fieldsR_bad0 _ _ _ _ hf
      | ok fs e =>
        rw [hf] at hx
        cases hx
        obtain ⟨r1, r2⟩ := fieldsR_rng _ _ _ _ _ ha hf
        rw [List.length_take] at r2
        exact ⟨e, rfl, by omega, by omega, by omega⟩
end Go.Proofs.YtcdkcaocfioigaaGreatDoor

set_option linter.unusedVariables false
set_option linter.unnecessarySimpa false
set_option linter.unusedSimpArgs false
set_option linter.unusedSectionVars false
set_option maxRecDepth 100000
namespace Go.Proofs.YtcdkcaocfioigaaGreatDoor
open Go Go.RowKit Go.Proofs

theorem feedD_stopN : ∀ (a : List UInt8) (d : Dec) (s : List UInt8), goD d → ((feedD d a).1.done = true ∨ (feedD d a).1.err ≠ 0) → feedD d (a ++ s) = feedD d a
  | [], d, s, hg, h => by
    rcases h with h | h
    · rw [show (feedD d []).1 = d from rfl, hg.1] at h; cases h
    · exact absurd hg.2 h
  | b :: a, d, s, hg, h => by
    rw [feedD_cons] at h
    rw [List.cons_append, feedD_cons, feedD_cons]
    by_cases hc : (feed1 d b).done = true ∨ (feed1 d b).err ≠ 0
    · rw [if_pos hc, if_pos hc]
    · rw [if_neg hc] at h
      rw [if_neg hc, if_neg hc]
      have hg2 : goD (feed1 d b) := by
        simp only [not_or, Bool.not_eq_true, ne_eq, Decidable.not_not] at hc
        exact hc
      rw [feedD_stopN a (feed1 d b) s hg2 h]
theorem newD_go (m r f : Int) : goD (newD m r f) := ⟨rfl, rfl⟩
theorem decodeD_ext {s : List UInt8} {m r f : Int} (u : List UInt8) (h : (decodeD s m r f).2.2.2 ≠ 105) : decodeD (s ++ u) m r f = decodeD s m r f := by
  unfold decodeD at h ⊢
  by_cases h0 : m < 0 ∨ r < 0 ∨ f < 0
  · rw [if_pos h0, if_pos h0]
  · rw [if_neg h0] at h
    rw [if_neg h0, if_neg h0]
    by_cases h1 : (feedD (newD m r f) s).1.err ≠ 0
    · have e := feedD_stopN s (newD m r f) u (newD_go m r f) (.inr h1)
      rw [e, if_pos h1, if_pos h1]
    · rw [if_neg h1] at h
      by_cases h2 : (feedD (newD m r f) s).1.done = false
      · rw [if_pos h2] at h; exact absurd rfl h
      · have e := feedD_stopN s (newD m r f) u (newD_go m r f) (.inl (by rw [Bool.not_eq_false] at h2; exact h2))
        rw [e, if_neg h1, if_neg h1, if_neg h2, if_neg h2]
theorem decodeD_rng {s : List UInt8} {m r f : Int} (h : (decodeD s m r f).2.2.2 = 0) : ∃ k : Nat, (decodeD s m r f).2.2.1 = k ∧ k ≤ s.length := by
  unfold decodeD at h ⊢
  by_cases h0 : m < 0 ∨ r < 0 ∨ f < 0
  · rw [if_pos h0] at h; simp at h
  · rw [if_neg h0] at h ⊢
    by_cases h1 : (feedD (newD m r f) s).1.err ≠ 0
    · rw [if_pos h1] at h; exact absurd h h1
    · rw [if_neg h1] at h ⊢
      by_cases h2 : (feedD (newD m r f) s).1.done = false
      · rw [if_pos h2] at h; simp at h
      · rw [if_neg h2]
        exact ⟨_, rfl, feedD_le s _⟩
/-- What comes behind a head. -/
def bodyM (r : Rep) (n : Nat) (len : Nat) (rest : List UInt8) (most : Int) (ended : Bool) : Rep × Int × Int :=
    if r.kind = 2 then
      (if (decodeD rest most 65536 100).2.2.2 = 0 then ({ r with body := (decodeD rest most 65536 100).1, trailers := (decodeD rest most 65536 100).2.1 }, n + (decodeD rest most 65536 100).2.2.1, 0)
       else (rep0, n + (decodeD rest most 65536 100).2.2.1, if (decodeD rest most 65536 100).2.2.2 = 105 then 124 else if (decodeD rest most 65536 100).2.2.2 = 102 then 125 else (decodeD rest most 65536 100).2.2.2))
    else if r.kind = 1 then
      (if most < r.length then (rep0, n, 125) else if (rest.length : Int) < r.length then (rep0, len, 124) else ({ r with body := rest.take r.length.toNat }, n + r.length, 0))
    else if most < rest.length then (rep0, n + most, 125) else if ended = false then (rep0, len, 124) else ({ r with body := rest, persist := false }, len, 0)
theorem parseM_neg (m s : List UInt8) {most : Int} (ended : Bool) (h : most < 0) : parseM m s most ended = (rep0, 0, 1) := by unfold parseM; rw [if_pos h]
theorem parseM_bad {m s : List UInt8} {most : Int} (ended : Bool) (h : ¬ most < 0) (h1 : (headM s).2.2 ≠ 0) : parseM m s most ended = (rep0, (headM s).2.1, (headM s).2.2) := by unfold parseM; rw [if_neg h, if_pos h1]
theorem parseM_none {m s : List UInt8} {most : Int} (ended : Bool) (h : ¬ most < 0) (h1 : (headM s).2.2 = 0) (h2 : bodylessB m (headM s).1.status = true) : parseM m s most ended = headM s := by unfold parseM; rw [if_neg h, if_neg (by simpa using h1), if_pos h2]
theorem parseM_body {m s : List UInt8} {most : Int} (ended : Bool) {n : Nat} (h : ¬ most < 0) (h1 : (headM s).2.2 = 0) (h2 : bodylessB m (headM s).1.status = false) (hn : (headM s).2.1 = n) : parseM m s most ended = bodyM (headM s).1 n s.length (s.drop n) most ended := by
  unfold parseM bodyM
  rw [if_neg h, if_neg (by simpa using h1), if_neg (by rw [h2]; simp), hn]
  rfl
theorem bodyM_ext {r : Rep} {n len : Nat} {rest : List UInt8} {most : Int} (u : List UInt8) (len2 : Nat) (h : (bodyM r n len rest most false).2.2 ≠ 124) : bodyM r n len2 (rest ++ u) most false = bodyM r n len rest most false := by
  unfold bodyM at h ⊢
  by_cases h1 : r.kind = 2
  · rw [if_pos h1] at h
    rw [if_pos h1, if_pos h1]
    have hne : (decodeD rest most 65536 100).2.2.2 ≠ 105 := fun e => by
      rw [if_neg (by rw [e]; decide), if_pos e] at h; exact h rfl
    rw [decodeD_ext u hne]
  · rw [if_neg h1] at h
    rw [if_neg h1, if_neg h1]
    by_cases h2 : r.kind = 1
    · rw [if_pos h2] at h
      rw [if_pos h2, if_pos h2]
      by_cases h3 : most < r.length
      · rw [if_pos h3, if_pos h3]
      · rw [if_neg h3] at h
        rw [if_neg h3, if_neg h3]
        by_cases h4 : (rest.length : Int) < r.length
        · rw [if_pos h4] at h; exact absurd rfl h
        · rw [if_neg h4, if_neg (by rw [List.length_append]; omega), List.take_append_of_le_length (by omega)]
    · rw [if_neg h2] at h
      rw [if_neg h2, if_neg h2]
      by_cases h3 : most < rest.length
      · rw [if_pos h3, if_pos (by rw [List.length_append]; omega)]
      · rw [if_neg h3, if_pos rfl] at h; exact absurd rfl h
theorem parseM_ext {m s : List UInt8} {most : Int} (u : List UInt8) (h : (parseM m s most false).2.2 ≠ 124) : parseM m (s ++ u) most false = parseM m s most false := by
  by_cases h0 : most < 0
  · rw [parseM_neg _ _ _ h0, parseM_neg _ _ _ h0]
  by_cases h1 : (headM s).2.2 = 0
  · have e := headM_ext u (s := s) (by rw [h1]; decide)
    cases h2 : bodylessB m (headM s).1.status with
    | true => rw [parseM_none _ h0 h1 h2, parseM_none _ h0 (by rw [e]; exact h1) (by rw [e]; exact h2), e]
    | false =>
      obtain ⟨n, hn, _, hl, _⟩ := headM_rng h1
      rw [parseM_body _ h0 h1 h2 hn] at h
      rw [parseM_body _ h0 h1 h2 hn, parseM_body _ h0 (by rw [e]; exact h1) (by rw [e]; exact h2) (by rw [e]; exact hn), e, List.drop_append_of_le_length hl]
      exact bodyM_ext u _ h
  · rw [parseM_bad _ h0 h1] at h
    have e := headM_ext u h
    rw [parseM_bad _ h0 h1, parseM_bad _ h0 (by rw [e]; exact h1), e]
theorem lenA_rng (l : List Fld) : 0 ≤ (lengthA l).1 := by
  unfold lengthA
  split
  · simp
  · split
    · split
      · simp
      · rename_i h; simp only [not_or] at h; simp only; omega
    · simp
theorem framingA_len (l : List Fld) (old : Bool) : 0 ≤ (framingA l old).2.1 := by
  have := lenA_rng l
  unfold framingA
  (repeat' split) <;> simp_all
theorem headM_len (s : List UInt8) : 0 ≤ (headM s).1.length := by
  rw [headM_eq]
  cases hx : headO (s.take 65536) with
  | none => simp only [Option.getD_none]; split <;> simp [rep0]
  | some x =>
    simp only [Option.getD_some]
    unfold headO at hx
    cases hs : stR (s.take 65536) with
    | part => rw [hs] at hx; cases hx
    | bad i => rw [hs] at hx; cases hx; simp [rep0]
    | ok a =>
      rw [hs] at hx
      simp only at hx
      cases hf : fieldsR (s.take 65536) (decide (dg (s.take 65536) 7 = 0)) ((s.take 65536).length + 1) a [] with
      | part => rw [hf] at hx; cases hx
      | bad n e => rw [hf] at hx; cases hx; simp [rep0]
      | ok fs e => rw [hf] at hx; cases hx; exact framingA_len _ _
theorem parseM_rng {m s : List UInt8} {most : Int} {ended : Bool} (h : (parseM m s most ended).2.2 = 0) : ∃ n : Nat, (parseM m s most ended).2.1 = n ∧ 17 ≤ n ∧ n ≤ s.length := by
  by_cases h0 : most < 0
  · rw [parseM_neg _ _ _ h0] at h; simp at h
  by_cases h1 : (headM s).2.2 = 0
  · obtain ⟨n, hn, h17, hl, _⟩ := headM_rng h1
    cases h2 : bodylessB m (headM s).1.status with
    | true => rw [parseM_none _ h0 h1 h2]; exact ⟨n, hn, h17, hl⟩
    | false =>
      have hlen := headM_len s
      rw [parseM_body _ h0 h1 h2 hn] at h ⊢
      have hdl : (s.drop n).length = s.length - n := List.length_drop
      unfold bodyM at h ⊢
      by_cases k1 : (headM s).1.kind = 2
      · rw [if_pos k1] at h ⊢
        by_cases k2 : (decodeD (s.drop n) most 65536 100).2.2.2 = 0
        · obtain ⟨k, hk, hkl⟩ := decodeD_rng k2
          rw [if_pos k2]
          exact ⟨n + k, by simp only [hk]; omega, by omega, by omega⟩
        · rw [if_neg k2] at h
          simp only at h
          split at h
          · simp at h
          · split at h
            · simp at h
            · exact absurd h k2
      · rw [if_neg k1] at h ⊢
        by_cases k3 : (headM s).1.kind = 1
        · rw [if_pos k3] at h ⊢
          by_cases k4 : most < (headM s).1.length
          · rw [if_pos k4] at h; simp at h
          · rw [if_neg k4] at h ⊢
            by_cases k5 : ((s.drop n).length : Int) < (headM s).1.length
            · rw [if_pos k5] at h; simp at h
            · rw [if_neg k5]
              exact ⟨n + (headM s).1.length.toNat, by simp only; omega, by omega, by omega⟩
        · rw [if_neg k3] at h ⊢
          by_cases k4 : most < ((s.drop n).length : Int)
          · rw [if_pos k4] at h; simp at h
          · rw [if_neg k4] at h ⊢
            cases ended with
            | true => rw [if_neg (by simp)]; exact ⟨s.length, rfl, by omega, by omega⟩
            | false => rw [if_pos rfl] at h; simp at h
  · rw [parseM_bad _ h0 h1] at h; exact absurd h h1

/-! ### A reader -/
structure RM where
  bytes : List UInt8
  err : Int
  over : Bool
  ended : Bool
  most : Int
  asked : List (List UInt8)
  done : List Rep
/-- Does the stream end behind it, by the method and the status? -/
def turnedB (m : List UInt8) (s : Int) : Bool := s == 101 || (m == vConnect && (decide (200 ≤ s) && decide (s ≤ 299)))
/-- One response off the front, and whether it goes on. -/
def oneR (r : RM) : RM × Bool :=
  if r.bytes = [] ∨ r.over = true then (r, false) else match r.asked with
  | [] => ({ r with err := 126 }, false)
  | m :: ms => if (parseM m r.bytes r.most r.ended).2.2 = 124 then (r, false)
    else if (parseM m r.bytes r.most r.ended).2.2 ≠ 0 then ({ r with err := (parseM m r.bytes r.most r.ended).2.2 }, false)
    else if interimB (parseM m r.bytes r.most r.ended).1.status = true then ({ r with bytes := r.bytes.drop (parseM m r.bytes r.most r.ended).2.1.toNat, done := r.done ++ [(parseM m r.bytes r.most r.ended).1] }, true)
    else if ((parseM m r.bytes r.most r.ended).1.persist = false) ∨ turnedB m (parseM m r.bytes r.most r.ended).1.status = true then ({ r with bytes := [], over := true, asked := ms, done := r.done ++ [(parseM m r.bytes r.most r.ended).1] }, true)
    else ({ r with bytes := r.bytes.drop (parseM m r.bytes r.most r.ended).2.1.toNat, asked := ms, done := r.done ++ [(parseM m r.bytes r.most r.ended).1] }, true)
def readR : Nat → RM → RM
  | 0, r => r
  | n + 1, r => if (oneR r).2 = true then readR n (oneR r).1 else (oneR r).1
def readA (r : RM) : RM := readR (r.bytes.length + 1) r
theorem oneR_less {r : RM} (h : (oneR r).2 = true) : (oneR r).1.bytes.length < r.bytes.length := by
  unfold oneR at h ⊢
  by_cases h0 : r.bytes = [] ∨ r.over = true
  · rw [if_pos h0] at h; cases h
  rw [if_neg h0] at h ⊢
  have hb : 0 < r.bytes.length := by
    rcases Nat.eq_zero_or_pos r.bytes.length with h | h
    · exact absurd (.inl (List.length_eq_zero_iff.1 h)) h0
    · exact h
  cases ha : r.asked with
  | nil => rw [ha] at h; cases h
  | cons m ms =>
    rw [ha] at h
    simp only at h ⊢
    by_cases h1 : (parseM m r.bytes r.most r.ended).2.2 = 124
    · rw [if_pos h1] at h; cases h
    rw [if_neg h1] at h ⊢
    by_cases h2 : (parseM m r.bytes r.most r.ended).2.2 = 0
    · rw [if_neg (by simpa using h2)]
      obtain ⟨n, hn, h17, hl⟩ := parseM_rng h2
      split
      · simp only [List.length_drop]; omega
      · split
        · exact hb
        · simp only [List.length_drop]; omega
    · rw [if_pos h2] at h; cases h
theorem readR_fuel : ∀ (n m : Nat) (r : RM), r.bytes.length < n → r.bytes.length < m → readR n r = readR m r
  | 0, m, r, h, _ => absurd h (by omega)
  | n + 1, 0, r, _, h => absurd h (by omega)
  | n + 1, m + 1, r, h1, h2 => by
    rw [readR, readR]
    by_cases h : (oneR r).2 = true
    · rw [if_pos h, if_pos h]
      have := oneR_less h
      exact readR_fuel n m _ (by omega) (by omega)
    · rw [if_neg h, if_neg h]
theorem readA_go {r : RM} (h : (oneR r).2 = true) : readA r = readA (oneR r).1 := by
  unfold readA
  rw [readR, if_pos h]
  have := oneR_less h
  exact readR_fuel _ _ _ (by omega) (by omega)
theorem readA_stop {r : RM} (h : (oneR r).2 = false) : readA r = (oneR r).1 := by
  unfold readA
  rw [readR, if_neg (by rw [h]; simp)]
/-- The bytes are no part of what is told behind an error. -/
def RM.put (r : RM) (u : List UInt8) : RM := { r with bytes := r.bytes ++ u }
theorem oneR_more {r : RM} (u : List UInt8) (hen : r.ended = false) (h : (oneR r).2 = true) : oneR (r.put u) = (if (oneR r).1.over = true then (oneR r).1 else (oneR r).1.put u, true) := by
  unfold oneR at h ⊢
  by_cases h0 : r.bytes = [] ∨ r.over = true
  · rw [if_pos h0] at h; cases h
  rw [if_neg h0] at h ⊢
  have hb : r.bytes ≠ [] := fun e => h0 (.inl e)
  have ho : r.over = false := by cases ho : r.over with
    | true => exact absurd (.inr ho) h0
    | false => rfl
  have h0' : ¬ ((r.put u).bytes = [] ∨ (r.put u).over = true) := by
    simp only [RM.put, List.append_eq_nil_iff, ho]
    exact fun e => e.elim (fun e => hb e.1) (fun e => by cases e)
  rw [if_neg h0']
  cases ha : r.asked with
  | nil => rw [ha] at h; cases h
  | cons m ms =>
    rw [ha] at h
    have ha' : (r.put u).asked = m :: ms := ha
    rw [ha']
    simp only at h ⊢
    have hm : (r.put u).most = r.most := rfl
    have he : (r.put u).ended = r.ended := rfl
    have hbu : (r.put u).bytes = r.bytes ++ u := rfl
    rw [hm, he, hbu]
    rw [hen] at h ⊢
    by_cases h1 : (parseM m r.bytes r.most false).2.2 = 124
    · rw [if_pos h1] at h; cases h
    rw [parseM_ext u h1]
    rw [if_neg h1] at h ⊢
    rw [if_neg h1]
    by_cases h2 : (parseM m r.bytes r.most false).2.2 = 0
    · have h2' : ¬ (parseM m r.bytes r.most false).2.2 ≠ 0 := by simpa using h2
      obtain ⟨n, hn, h17, hl⟩ := parseM_rng h2
      have hd : (r.bytes ++ u).drop (parseM m r.bytes r.most false).2.1.toNat = r.bytes.drop (parseM m r.bytes r.most false).2.1.toNat ++ u := List.drop_append_of_le_length (by omega)
      rw [hd]
      by_cases h3 : interimB (parseM m r.bytes r.most false).1.status = true
      · simp [RM.put, h2, h3, ho]
      · by_cases h4 : (parseM m r.bytes r.most false).1.persist = false ∨ turnedB m (parseM m r.bytes r.most false).1.status = true
        · simp only [if_neg h2', if_neg h3, if_pos h4]; simp [RM.put]
        · simp only [if_neg h2', if_neg h3, if_neg h4, ho]; simp [RM.put, ho]
    · rw [if_pos h2] at h; cases h
theorem oneR_err {r : RM} (u : List UInt8) (hen : r.ended = false) (he0 : r.err = 0) (h : (oneR r).2 = false) (he : (oneR r).1.err ≠ 0) : oneR (r.put u) = ((oneR r).1.put u, false) := by
  unfold oneR at h he ⊢
  by_cases h0 : r.bytes = [] ∨ r.over = true
  · rw [if_pos h0] at he; exact absurd he0 he
  rw [if_neg h0] at h he ⊢
  have hb : r.bytes ≠ [] := fun e => h0 (.inl e)
  have ho : r.over = false := by cases ho : r.over with
    | true => exact absurd (.inr ho) h0
    | false => rfl
  have h0' : ¬ ((r.put u).bytes = [] ∨ (r.put u).over = true) := by
    simp only [RM.put, List.append_eq_nil_iff, ho]
    exact fun e => e.elim (fun e => hb e.1) (fun e => by cases e)
  rw [if_neg h0']
  cases ha : r.asked with
  | nil =>
    have ha' : (r.put u).asked = [] := ha
    rw [ha']; simp only; rfl
  | cons m ms =>
    rw [ha] at h he
    have ha' : (r.put u).asked = m :: ms := ha
    rw [ha']
    simp only at h he ⊢
    have hm : (r.put u).most = r.most := rfl
    have he' : (r.put u).ended = r.ended := rfl
    have hbu : (r.put u).bytes = r.bytes ++ u := rfl
    rw [hm, he', hbu]
    rw [hen] at h he ⊢
    by_cases h1 : (parseM m r.bytes r.most false).2.2 = 124
    · rw [if_pos h1] at he; exact absurd he0 he
    rw [parseM_ext u h1]
    rw [if_neg h1] at h he ⊢
    rw [if_neg h1]
    by_cases h2 : (parseM m r.bytes r.most false).2.2 = 0
    · rw [if_neg (by simpa using h2)] at h
      split at h
      · cases h
      · split at h <;> cases h
    · rw [if_pos h2, if_pos h2]; rfl
theorem oneR_keeps (r : RM) : (oneR r).1.ended = r.ended ∧ (oneR r).1.most = r.most ∧ (r.err = 0 → (oneR r).2 = true → (oneR r).1.err = 0) := by
  unfold oneR
  split
  · exact ⟨rfl, rfl, fun h _ => h⟩
  · cases r.asked with
    | nil => exact ⟨rfl, rfl, fun _ h => by cases h⟩
    | cons m ms =>
      simp only
      split
      · exact ⟨rfl, rfl, fun _ h => by cases h⟩
      · split
        · exact ⟨rfl, rfl, fun _ h => by cases h⟩
        · split
          · exact ⟨rfl, rfl, fun h _ => h⟩
          · split <;> exact ⟨rfl, rfl, fun h _ => h⟩
theorem oneR_over {r : RM} (h : r.over = true) : oneR r = (r, false) := by unfold oneR; rw [if_pos (.inr h)]
/-- A TEXT IN TWO PIECES. -/
theorem readA_cut (u : List UInt8) : ∀ (n : Nat) (r : RM), r.bytes.length < n → r.ended = false → r.err = 0 →
    ((readA r).err ≠ 0 → readA (r.put u) = (readA r).put u) ∧ ((readA r).err = 0 → (readA r).over = true → readA (r.put u) = readA r ∨ r.over = true) ∧
    ((readA r).err = 0 → (readA r).over = false → readA (r.put u) = readA ((readA r).put u))
  | 0, r, h, _, _ => absurd h (by omega)
  | n + 1, r, h, hen, he0 => by
    cases h1 : (oneR r).2 with
    | true =>
      have hm := oneR_more u hen h1
      have hl := oneR_less h1
      obtain ⟨k1, k2, k3⟩ := oneR_keeps r
      have e2 : (oneR (r.put u)).2 = true := by rw [hm]
      rw [readA_go h1, readA_go e2, hm]
      cases ho : (oneR r).1.over with
      | true =>
        rw [if_pos rfl, readA_stop (by rw [oneR_over ho]), oneR_over ho]
        refine ⟨fun h => absurd (k3 he0 h1) h, fun _ _ => .inl rfl, fun _ h => by rw [ho] at h; cases h⟩
      | false =>
        rw [if_neg (by simp)]
        obtain ⟨j1, j2, j3⟩ := readA_cut u n (oneR r).1 (by omega) (by rw [k1]; exact hen) (k3 he0 h1)
        exact ⟨j1, fun a b => (j2 a b).elim .inl (fun c => by rw [ho] at c; cases c), j3⟩
    | false =>
      rw [readA_stop h1]
      refine ⟨fun he => ?_, fun he ho => ?_, fun he ho => ?_⟩
      · have hm := oneR_err u hen he0 h1 he
        rw [readA_stop (by rw [hm]), hm]
      · right
        unfold oneR at h1 ho
        by_cases h0 : r.bytes = [] ∨ r.over = true
        · rw [if_pos h0] at ho; exact ho
        · rw [if_neg h0] at h1 ho
          cases ha : r.asked with
          | nil => rw [ha] at ho; exact ho
          | cons m ms =>
            rw [ha] at h1 ho
            simp only at h1 ho
            split at ho
            · exact ho
            · rename_i g1
              rw [if_neg g1] at h1
              split at ho
              · exact ho
              · rename_i g2
                rw [if_neg g2] at h1
                split at h1
                · cases h1
                · split at h1 <;> cases h1
      · -- nothing came of it: the reader is ms it was
        have e : (oneR r).1 = r := by
          unfold oneR at h1 he ⊢
          by_cases h0 : r.bytes = [] ∨ r.over = true
          · rw [if_pos h0]
          · rw [if_neg h0] at h1 he ⊢
            cases ha : r.asked with
            | nil => rw [ha] at he; exact absurd he (by simp)
            | cons m ms =>
              rw [ha] at h1 he
              simp only at h1 he ⊢
              split at he
              · rename_i g1; rw [if_pos g1]
              · rename_i g1
                rw [if_neg g1] at h1
                split at he
                · rename_i g2; exact absurd he g2
                · rename_i g2
                  rw [if_neg g2] at h1
                  split at h1
                  · cases h1
                  · split at h1 <;> cases h1
        rw [e]
end Go.Proofs.YtcdkcaocfioigaaGreatDoor

set_option linter.unusedVariables false
set_option linter.unnecessarySimpa false
set_option linter.unusedSimpArgs false
set_option linter.unusedSectionVars false
set_option maxRecDepth 100000
namespace Go.Proofs.YtcdkcaocfioigaaGreatDoor
open Go Go.RowKit Go.Proofs

/-- Nils in a struct that comes back ahead of others are seen as empty lists. -/
theorem nilT_rel {w : World} {β : Nat → Nat} {Rd : Nat → Nat → Prop} {N : Nat} {l l' rest : List AV} {u : Value} (hB : Bnd N (.tup (.agg l :: rest))) (h : Rel w β Rd (.tup (.agg l :: rest)) u) (hn : nilL l l') (hf' : ∀ x ∈ l', x.free = true) :
    Rel w β Rd (.tup (.agg l' :: rest)) u ∧ Bnd N (.tup (.agg l' :: rest)) := by
  obtain ⟨hlen, hat⟩ := nilL_at hn
  have hB2 : ∀ x ∈ l, Bnd N x := by
    cases hB with
    | tup _ hB =>
      have := hB (.agg l) (by simp)
      cases this with
      | agg _ h => exact h
  cases h with
  | tup _ vs hl hf hr =>
    have h0 : ∀ u, vs[0]? = some u → Rel w β Rd (.agg l') u ∧ Bnd N (.agg l') := fun u hu => by
      have h0 := hr 0 (.agg l) u rfl hu
      cases h0 with
      | agg _ vs' hl' hf0 hr0 =>
        have key : ∀ (i : Nat) (y : AV) (c : Value), l'[i]? = some y → vs'[i]? = some c → Rel w β Rd y c ∧ Bnd N y := fun i y c hy hc => by
          obtain ⟨x, hx, h1⟩ := hat i y hy
          obtain ⟨r1, r2, _⟩ := nil1_rel h1 (hr0 i x c hx hc) (hB2 x (mem_at hx))
          exact ⟨r1, r2⟩
        refine ⟨.agg _ vs' (by omega) (fun y hy => ⟨hf' y hy, ?_⟩) (fun i y c hy hc => (key i y c hy hc).1), .agg _ fun y hy => ?_⟩
        · obtain ⟨i, hi⟩ := List.getElem?_of_mem hy
          obtain ⟨x, hx, h1⟩ := hat i y hi
          rcases h1 with rfl | ⟨rfl, b, k, rfl⟩
          · exact (hf0 _ (mem_at hx)).2
          · rfl
        · obtain ⟨i, hi⟩ := List.getElem?_of_mem hy
          have hi2 : i < vs'.size := by have := (List.getElem?_eq_some_iff.1 hi).1; omega
          exact (key i y _ hi (Array.getElem?_eq_getElem hi2)).2
    have hv0 : vs[0]? = some vs[0]! := by
      have : 0 < vs.size := by simp at hl; omega
      simp [this]
    refine ⟨.tup _ vs (by simpa using hl) (fun x hx => ?_) (fun j x u hx hu => ?_), .tup _ fun x hx => ?_⟩
    · rcases List.mem_cons.1 hx with rfl | hx
      · rfl
      · exact hf x (List.mem_cons_of_mem _ hx)
    · cases j with
      | zero => simp at hx; subst hx; exact (h0 u hu).1
      | succ j => exact hr (j + 1) x u (by simpa using hx) hu
    · rcases List.mem_cons.1 hx with rfl | hx
      · exact (h0 _ hv0).2
      · cases hB with
        | tup _ hB => exact hB x (List.mem_cons_of_mem _ hx)
theorem PC.nilT {P : Program} {E : Env} {f : FuncId} {args : List AV} {H : Hp} {Q : AV → Hp → Prop} (h : PC P E f args H (fun v H' => ∃ l l' rest, v = .tup (.agg l :: rest) ∧ nilL l l' ∧ (∀ x ∈ l', x.free = true) ∧ Q (.tup (.agg l' :: rest)) H')) : PC P E f args H Q :=
  ⟨h.1, fun w β Rd Ow cargs h1 h2 h3 h4 => (h.2 w β Rd Ow cargs h1 h2 h3 h4).mono fun e w' ⟨u, v, H', β', Rd', Ow', he, hQ, hp⟩ => by
    obtain ⟨l, l', rest, rfl, hn, hf, hQ⟩ := hQ
    obtain ⟨k1, k2⟩ := nilT_rel hp.bnd hp.rel hn hf
    exact ⟨u, _, H', β', Rd', Ow', he, hQ, ⟨k1, k2, fun g hg => (by cases hg), rfl, hp.hr, hp.old, hp.len, hp.keep, hp.frame, hp.os, hp.tape, hp.output, hp.size⟩⟩⟩
/-- A reply's cells. -/
def Rep.avs (r : Rep) : List AV := [.int .i64 r.status, .str r.reason, .sl false 2 (flds r.fields), .str r.body, .int .i64 r.minor, .sl false 2 (flds r.trailers), .int .i64 r.kind, .int .i64 r.length, .bool r.persist]
/-- .. of a variable's own. -/
def rcellsF (st : Int) (re : List UInt8) (fs : List Fld) (mi : Int) (ki le : Int) (pe : Bool) : List AV := [.int .i64 st, .str re, .sl true 2 (flds fs), .str [], .int .i64 mi, .sl true 2 [], .int .i64 ki, .int .i64 le, .bool pe]
theorem lineX_sz {l : List UInt8} (h : (lineX l).2.2 = 0) : (lineX l).1.name.length + (lineX l).1.value.length + 1 ≤ l.length := by
  unfold lineX at h ⊢
  split at h
  · simp at h
  split at h
  · simp at h
  split at h
  · simp at h
  split at h
  · simp at h
  split at h
  · simp at h
  split at h
  · simp at h
  rename_i h1 h2 h3 h4 h5 h6
  rw [if_neg h1, if_neg h2, if_neg h3, if_neg h4, if_neg h5, if_neg h6]
  have := trimB_len (l.drop (run ncol l + 1))
  rw [List.length_drop] at this
  simp only [List.length_take]
  omega
theorem lineX_rng (l : List UInt8) : 0 ≤ (lineX l).2.1 ∧ (lineX l).2.1 ≤ l.length + 8192 := by
  have h1 := run_le ncol l
  have h2 := run_le blankB (l.drop (run ncol l + 1))
  have h3 := run_le fcB (l.drop (run ncol l + 1))
  have h4 := run_le signB l
  rw [List.length_drop] at h2 h3
  unfold lineX
  (repeat' split) <;> simp only <;> omega
theorem fsz_snoc (l : List Fld) (f : Fld) : fsz (l ++ [f]) = fsz l + (f.name.length + f.value.length) := by rw [fsz_app]; simp [fsz]
section
variable (E : Env) (H : Hp) (Q : AV → Hp → Prop)
theorem parseLineX_pc' (hE : SE E) (l : List UInt8) (hl : l.length ≤ cap) (hQ : Q (.tup [.agg [.str (lineX l).1.name, .str (lineX l).1.value], .int .i64 (lineX l).2.1, .int .i64 (lineX l).2.2]) H) :
    PC Tryz.prog E 114 [.str l] H Q := parseLineX_pc E H Q hE l hl hQ
def hdO (mi st : Int) (re : List UInt8) : HD → Option (Rep × Int × Int)
  | .part => none
  | .bad n e => some (rep0, n, e)
  | .ok fs e => some (⟨mi, st, re, fs, [], [], (framingA fs (decide (mi = 0))).1, (framingA fs (decide (mi = 0))).2.1, persistA fs (decide (mi = 0))⟩, (e : Int), 0)
def hdInv (s : List UInt8) (st mi : Int) (re : List UInt8) (F : HD) (H : Hp) (fr : List AV) (H' : Hp) : Prop := ∃ (J : Hp) (a n : Nat) (fs : List Fld), a ≤ s.length ∧ s.length < a + n ∧ fieldsR s (decide (mi = 0)) n a fs = F ∧ fsz fs + fs.length ≤ a ∧
  H' = H ++ ([rcells 0 [] 0, [.int .i64 0, .int .i64 0], rcellsF st re fs mi 0 0 false, [.int .i64 0, .int .i64 0]] ++ J) ∧
  ∃ x : Nat → AV, fr = [.str s, x 1, .ptr (some (H.length, 0)), x 3, .ptr (some (H.length + 1, 0)), .ptr (some (H.length + 2, 0)), .int .i64 a, .ptr (some (H.length + 3, 0)), x 8, x 9, x 10, x 11, x 12, x 13, x 14, x 15, x 16, x 17, x 18, x 19, x 20, x 21, x 22, x 23, x 24, x 25, x 26, x 27, x 28, x 29, x 30, x 31, x 32, x 33, x 34, x 35, x 36, x 37, x 38, x 39, x 40, x 41, x 42, x 43, x 44, x 45, x 46, x 47, x 48, x 49, x 50, x 51, x 52, x 53, x 54, x 55, x 56, x 57, x 58, x 59, x 60, x 61, x 62, x 63, x 64, x 65, x 66, x 67, x 68, x 69, x 70, x 71, x 72, x 73, x 74, x 75, x 76, x 77, x 78, x 79, x 80, x 81, x 82, x 83, x 84, x 85, x 86, x 87, x 88, x 89, x 90, x 91, x 92, x 93, x 94, x 95, x 96, x 97, x 98, x 99, x 100]
set_option maxHeartbeats 2000000 in
theorem rhead_pc (hE : SE E) (s : List UInt8) (hl : s.length ≤ 65536)
    (hQ1 : ∀ (r : Rep) (n : Nat), headO s = some (r, (n : Int), 0) → Q (.tup [.agg r.avs, .int .i64 n, .agg [.int .i64 0, .int .i64 0]]) H)
    (hQ2 : ∀ (r : Rep) (n e : Int), headO s = some (rep0, n, e) → e ≠ 0 → Q (.tup [.agg r.avs, .int .i64 0, .agg [.int .i64 n, .int .i64 e]]) H)
    (hQ3 : ∀ (r : Rep), headO s = none → Q (.tup [.agg r.avs, .int .i64 0, .agg [.int .i64 s.length, .int .i64 124]]) H) : PC Tryz.prog E 83 [.str s] H Q := by
  refine PC.nilT ?_
  have hnil : ∀ (st : Int) (re : List UInt8) (mi : Int), nilL (rcells st re mi) (Rep.avs ⟨mi, st, re, [], [], [], 0, 0, false⟩) := fun st re mi =>
    ⟨.inl rfl, .inl rfl, .inr ⟨rfl, false, 2, rfl⟩, .inl rfl, .inl rfl, .inr ⟨rfl, false, 2, rfl⟩, .inl rfl, .inl rfl, .inl rfl, trivial⟩
  have hfree : ∀ r : Rep, ∀ x ∈ r.avs, x.free = true := fun r => by simp [Rep.avs, AV.free]
  have hrefl : ∀ r : Rep, nilL r.avs r.avs := fun r => nilL_refl _
  refine pc_enterF (fun i => H.length + 2 ≤ i) Tryz.func83 rfl [94] [(3, [2, 2, 2, 0, 2]), (6, [2, 2, 2, 0, 2]), (12, [0, 0, 0, 0, 0, 1])] (by kernel_rfl) (fun E' hS' h0' hF' hB => ?_)
  have hE' : SE E' := ⟨by rw [hF']; exact hE.1, by rw [h0']; exact hE.2⟩
  simp [Tryz.ntmps83, Tryz.results83, List.replicate_succ]
  refine statusLine_pc E' _ _ s (by omega) (fun a0 hst => ?_) (fun st re mi n hst => ?_) (fun st re mi hst => ?_)
  rotate_left
  · have hO : headO s = some (rep0, (n : Int), 122) := by unfold headO; rw [hst]
    simp [rcells, hS']
    exact aPost_same hB (v0 := .tup [.agg (rcells st re mi), .int .i64 0, .agg [.int .i64 n, .int .i64 122]]) (by simp [rcells]) (nilV_refl _) (by simp [rcells]) ⟨_, _, _, rfl, hnil _ _ _, hfree _, hQ2 _ _ _ hO (by decide)⟩
  · have hO : headO s = none := by unfold headO; rw [hst]
    simp [rcells, hS']
    exact aPost_same hB (v0 := .tup [.agg (rcells st re mi), .int .i64 0, .agg [.int .i64 s.length, .int .i64 124]]) (by simp [rcells]) (nilV_refl _) (by simp [rcells]) ⟨_, _, _, rfl, hnil _ _ _, hfree _, hQ3 _ hO⟩
  obtain ⟨_, h13, _, ha15, ha⟩ := stR_pre hst
  obtain ⟨st, hst2⟩ : ∃ st, 100 * dg s 9 + 10 * dg s 10 + dg s 11 = st := ⟨_, rfl⟩
  obtain ⟨re, hre⟩ : ∃ re, (s.drop 13).take (a0 - 2 - 13) = re := ⟨_, rfl⟩
  obtain ⟨mi, hmi⟩ : ∃ mi, dg s 7 = mi := ⟨_, rfl⟩
  obtain ⟨F, hF⟩ : ∃ F, fieldsR s (decide (mi = 0)) (s.length + 1) a0 [] = F := ⟨_, rfl⟩
  have hO : headO s = hdO mi st re F := by
    unfold headO
    rw [hst]
    simp only
    rw [hmi, hF, hst2, hre]
    cases F <;> rfl
  rw [hst2, hre, hmi]
  clear hst2 hre hmi
  simp [rcells, hS']
  refine VL_nilH (H.length + 2) _ 2 2 (by simp; rfl) rfl ?_
  simp
  refine VL_nilH (H.length + 2) _ 5 2 (by simp; rfl) rfl ?_
  simp
  refine VL_go (hdInv s st mi re F H) (fun fr _ => s.length - (ai (aget fr 6)).toNat) ⟨[], a0, s.length + 1, [], ha, by omega, hF, by simp [fsz], by simp [rcells, rcellsF, flds], fr_intro (by simp)⟩ ?_
  rintro fr H' ⟨J, a, n, fs, ha, hn, hF, hfz, rfl, x, rfl⟩
  obtain ⟨m, rfl⟩ : ∃ m, n = m + 1 := ⟨n - 1, by omega⟩
  rw [fieldsR_next] at hF
  simp [rcellsF, rcells]
  refine line_pc E' _ _ s a ha (by omega) (fun i hai hi2 hL => ?_) (fun i hL => ?_) (fun hL => ?_)
  rotate_left
  · have hx : nextR s (decide (mi = 0)) a fs = .inl (.bad i 122) := by unfold nextR; rw [hL]
    rw [hx] at hF
    simp only at hF
    subst hF
    simp [hS']
    exact aPost_same hB (v0 := .tup [.agg (Rep.avs ⟨mi, st, re, fs, [], [], 0, 0, false⟩), .int .i64 0, .agg [.int .i64 i, .int .i64 122]]) (by simp [Rep.avs, flds]) (nilV_refl _) (by simp [Rep.avs, bnd_flds]) ⟨_, _, _, rfl, hrefl _, hfree _, hQ2 _ _ _ hO (by decide)⟩
  · have hx : nextR s (decide (mi = 0)) a fs = .inl .part := by unfold nextR; rw [hL]
    rw [hx] at hF
    simp only at hF
    subst hF
    simp [hS']
    exact aPost_same hB (v0 := .tup [.agg (Rep.avs ⟨mi, st, re, fs, [], [], 0, 0, false⟩), .int .i64 0, .agg [.int .i64 s.length, .int .i64 124]]) (by simp [Rep.avs, flds]) (nilV_refl _) (by simp [Rep.avs, bnd_flds]) ⟨_, _, _, rfl, hrefl _, hfree _, hQ3 _ hO⟩
  obtain ⟨l, hl⟩ : ∃ l, (s.drop a).take (i - a) = l := ⟨_, rfl⟩
  have hll : l.length = i - a := by rw [← hl, List.length_take, List.length_drop]; omega
  rw [hl]
  have hi2' : (s.drop a).take (i + 2 - 2 - a) = l := by rw [show i + 2 - 2 - a = i - a by omega]; exact hl
  have hsz : fsz fs + fs.length ≤ 4194304 := by omega
  by_cases hle : l = []
  · have hx : nextR s (decide (mi = 0)) a fs = .inl (if (framingA fs (decide (mi = 0))).2.2 ≠ 0 then .bad a (framingA fs (decide (mi = 0))).2.2 else .ok fs (i + 2)) := by
      unfold nextR
      rw [hL]
      simp only
      rw [hi2', if_pos hle]
    rw [hx] at hF
    simp only at hF
    subst hF
    have hmb : (mi == 0) = decide (mi = 0) := rfl
    simp [hle]
    refine framing_pc E' _ _ hE' fs (decide (mi = 0)) hsz ?_
    by_cases he : (framingA fs (decide (mi = 0))).2.2 = 0
    · rw [if_neg (by simpa using he)] at hO
      simp [he, hS']
      refine persist_pc E' _ _ hE' fs (decide (mi = 0)) hsz ?_
      have hq := hQ1 _ _ hO
      simp
      exact aPost_same hB (v0 := .tup [.agg (Rep.avs ⟨mi, st, re, fs, [], [], (framingA fs (decide (mi = 0))).1, (framingA fs (decide (mi = 0))).2.1, persistA fs (decide (mi = 0))⟩), .int .i64 ((i + 2 : Nat) : Int), .agg [.int .i64 0, .int .i64 0]]) (by simp [Rep.avs, flds]) (nilV_refl _) (by simp [Rep.avs, bnd_flds]) ⟨_, _, _, rfl, hrefl _, hfree _, hq⟩
    · rw [if_pos he] at hO
      have he2 : ((framingA fs (decide (mi = 0))).2.2 != 0) = true := by simpa using he
      simp [he2, hS']
      exact aPost_same hB (v0 := .tup [.agg (Rep.avs ⟨mi, st, re, fs, [], [], 0, 0, false⟩), .int .i64 0, .agg [.int .i64 a, .int .i64 (framingA fs (decide (mi = 0))).2.2]]) (by simp [Rep.avs, flds]) (nilV_refl _) (by simp [Rep.avs, bnd_flds]) ⟨_, _, _, rfl, hrefl _, hfree _, hQ2 _ _ _ hO he⟩
  · have hle2 : (l == []) = false := by simpa using hle
    by_cases h100 : 100 ≤ fs.length
    · have hx : nextR s (decide (mi = 0)) a fs = .inl (.bad a 65) := by
        unfold nextR
        rw [hL]
        simp only
        rw [hi2', if_neg hle, if_pos h100]
      rw [hx] at hF
      simp only at hF
      subst hF
      have h100' : (100 : Int) ≤ fs.length := by omega
      simp [hle2, h100', hS']
      exact aPost_same hB (v0 := .tup [.agg (Rep.avs ⟨mi, st, re, fs, [], [], 0, 0, false⟩), .int .i64 0, .agg [.int .i64 a, .int .i64 65]]) (by simp [Rep.avs, flds]) (nilV_refl _) (by simp [Rep.avs, bnd_flds]) ⟨_, _, _, rfl, hrefl _, hfree _, hQ2 _ _ _ hO (by decide)⟩
    · have h100' : ¬ (100 : Int) ≤ fs.length := by omega
      simp [hle2, h100']
      refine parseLineX_pc' E' _ _ hE' l (by simp only [cap]; omega) ?_
      by_cases he : (lineX l).2.2 = 0
      · have hx : nextR s (decide (mi = 0)) a fs = .inr (i + 2, fs ++ [(lineX l).1]) := by
          unfold nextR
          rw [hL]
          simp only
          rw [hi2', if_neg hle, if_neg h100, if_neg (by simpa using he)]
        rw [hx] at hF
        simp only at hF
        have hls := lineX_sz he
        have hsn := fsz_snoc fs (lineX l).1
        have hfs : flds fs ++ [[.str (lineX l).1.name, .str (lineX l).1.value]] = flds (fs ++ [(lineX l).1]) := by simp [flds]
        have m1 : fs.length + 1 ≤ maxLen := by unfold maxLen; omega
        have m2 : (fs.length + 1) * 32 ≤ 140737488355328 := by omega
        simp [he, m1, m2, hfs]
        exact Kloop_normal ⟨_, i + 2, m, _, by omega, by omega, hF, by rw [hsn]; simp; omega, by simp [rcellsF, rcells]; rfl, fr_intro (by simp)⟩ (by simp; omega)
      · have hx : nextR s (decide (mi = 0)) a fs = .inl (.bad (a + (lineX l).2.1) (lineX l).2.2) := by
          unfold nextR
          rw [hL]
          simp only
          rw [hi2', if_neg hle, if_neg h100, if_pos he]
        rw [hx] at hF
        simp only at hF
        subst hF
        have he2 : ((lineX l).2.2 != 0) = true := by simpa using he
        have hrg := lineX_rng l
        have hw : IntKind.i64.wrap ((a : Int) + (lineX l).2.1) = a + (lineX l).2.1 := wrap_in (by omega) (by omega)
        simp [he2, hw, hS']
        exact aPost_same hB (v0 := .tup [.agg (Rep.avs ⟨mi, st, re, fs, [], [], 0, 0, false⟩), .int .i64 0, .agg [.int .i64 (a + (lineX l).2.1), .int .i64 (lineX l).2.2]]) (by simp [Rep.avs, flds]) (nilV_refl _) (by simp [Rep.avs, bnd_flds]) ⟨_, _, _, rfl, hrefl _, hfree _, hQ2 _ _ _ hO he⟩
end
end Go.Proofs.YtcdkcaocfioigaaGreatDoor

set_option linter.unusedVariables false
set_option linter.unnecessarySimpa false
set_option linter.unusedSimpArgs false
set_option linter.unusedSectionVars false
set_option maxRecDepth 100000
namespace Go.Proofs.YtcdkcaocfioigaaGreatDoor
open Go Go.RowKit Go.Proofs

theorem lineX_code (l : List UInt8) : (lineX l).2.2 ≠ 124 := by
  unfold lineX
  (repeat' split) <;> simp
theorem lengthA_code (l : List Fld) : (lengthA l).2.2 = 0 ∨ (lengthA l).2.2 = 66 := by
  unfold lengthA
  (repeat' split) <;> simp
theorem framingA_code (l : List Fld) (old : Bool) : (framingA l old).2.2 ≠ 124 := by
  have := lengthA_code l
  unfold framingA
  (repeat' split) <;> simp <;> omega
theorem fieldsR_code {t : List UInt8} {old : Bool} : ∀ (n a : Nat) (fs : List Fld) (i e : Int), fieldsR t old n a fs = .bad i e → e ≠ 124
  | 0, a, fs, i, e, h => by rw [fieldsR] at h; cases h
  | n + 1, a, fs, i, e, h => by
    rw [fieldsR_next] at h
    cases hx : nextR t old a fs with
    | inl x =>
      rw [hx] at h
      simp only at h
      subst h
      unfold nextR at hx
      cases he : lineR t a with
      | part => rw [he] at hx; cases hx
      | bad i => rw [he] at hx; injection hx with hx; injection hx with _ hx; rw [← hx]; decide
      | ok e' =>
        rw [he] at hx
        simp only at hx
        split at hx
        · split at hx
          · injection hx with hx
            injection hx with _ hx
            rw [← hx]; exact framingA_code _ _
          · cases hx
        · split at hx
          · injection hx with hx
            injection hx with _ hx
            rw [← hx]; decide
          · split at hx
            · injection hx with hx
              injection hx with _ hx
              rw [← hx]; exact lineX_code _
            · cases hx
    | inr p =>
      obtain ⟨e', gs'⟩ := p
      rw [hx] at h
      exact fieldsR_code n e' gs' i e h
theorem headO_code {t : List UInt8} {r : Rep} {n e : Int} (h : headO t = some (r, n, e)) : e ≠ 124 := by
  unfold headO at h
  cases hs : stR t with
  | part => rw [hs] at h; cases h
  | bad i => rw [hs] at h; cases h; decide
  | ok a =>
    rw [hs] at h
    simp only at h
    cases hf : fieldsR t (decide (dg t 7 = 0)) (t.length + 1) a [] with
    | part => rw [hf] at h; cases h
    | bad n e => rw [hf] at h; cases h; exact fieldsR_code _ _ _ _ _ hf
    | ok fs e => rw [hf] at h; cases h; decide
theorem decodeD_at (s : List UInt8) (m r f : Int) : -1 ≤ (decodeD s m r f).2.2.1 ∧ (decodeD s m r f).2.2.1 ≤ s.length := by
  have := feedD_le s (newD m r f)
  unfold decodeD
  (repeat' split) <;> simp only <;> omega
/-- The cells of no reply. -/
def rzero : List AV := [.int .i64 0, .str [], .nil, .str [], .int .i64 0, .nil, .int .i64 0, .int .i64 0, .bool false]
theorem rzero_nil : nilL rzero rep0.avs := ⟨.inl rfl, .inl rfl, .inr ⟨rfl, false, 2, rfl⟩, .inl rfl, .inl rfl, .inr ⟨rfl, false, 2, rfl⟩, .inl rfl, .inl rfl, .inl rfl, trivial⟩
theorem avs_free (r : Rep) : ∀ x ∈ r.avs, x.free = true := by simp [Rep.avs, AV.free]
theorem avs_bnd (r : Rep) (N : Nat) : ∀ x ∈ r.avs, Bnd N x := by simp [Rep.avs, bnd_flds]
section
variable (E : Env) (H : Hp) (Q : AV → Hp → Prop)
set_option maxHeartbeats 1000000 in
theorem parseHead_pc (hE : SE E) (s : List UInt8) (hl : s.length ≤ 1000000000) (hQ : Q (.tup [.agg (headM s).1.avs, .int .i64 (headM s).2.1, .int .i64 (headM s).2.2]) H) : PC Tryz.prog E 56 [.str s] H Q := by
  refine PC.nilT ?_
  refine pc_enterF (fun i => i = H.length + 2) Tryz.func56 rfl [] [(5, [0, 0, 2, 0, 2, 2])] (by kernel_rfl) (fun E' hS' h0' hF' hB => ?_)
  have hE' : SE E' := ⟨by rw [hF']; exact hE.1, by rw [h0']; exact hE.2⟩
  have fin : ∀ a : Rep × Int × Int, headM s = a → Q (.tup [.agg a.1.avs, .int .i64 a.2.1, .int .i64 a.2.2]) H := fun a ha => ha ▸ hQ
  have hM := headM_eq s
  by_cases hs : 65536 < s.length
  · have hs' : (65536 : Int) < s.length := by omega
    have hle : 65536 ≤ s.length := by omega
    rw [if_pos hs] at hM
    simp [Tryz.ntmps56, Tryz.results56, List.replicate_succ, hs', hle]
    refine rhead_pc E' _ _ hE' (s.take 65536) (by rw [List.length_take]; omega) (fun r n hO => ?_) (fun r n e hO he => ?_) (fun r hO => ?_)
    · rw [hO] at hM
      simp [Rep.avs]
      exact aPost_same hB (v0 := .tup [.agg r.avs, .int .i64 n, .int .i64 0]) (by simp [Rep.avs]) (nilV_refl _) (by simp [Rep.avs, bnd_flds]) ⟨_, _, _, rfl, nilL_refl _, avs_free _, fin _ hM⟩
    · rw [hO] at hM
      have he1 : (e == 124) = false := by simpa using headO_code hO
      have he2 : (e != 0) = true := by simpa using he
      simp [Rep.avs, he1, he2, hS']
      exact aPost_same hB (v0 := .tup [.agg rzero, .int .i64 n, .int .i64 e]) (by simp [rzero]) (nilV_refl _) (by simp [rzero]) ⟨_, _, _, rfl, rzero_nil, avs_free _, fin _ hM⟩
    · rw [hO] at hM
      simp [Rep.avs, hs', hS']
      exact aPost_same hB (v0 := .tup [.agg rzero, .int .i64 65536, .int .i64 125]) (by simp [rzero]) (nilV_refl _) (by simp [rzero]) ⟨_, _, _, rfl, rzero_nil, avs_free _, fin _ hM⟩
  · have hs' : ¬ (65536 : Int) < s.length := by omega
    rw [if_neg hs, List.take_of_length_le (by omega)] at hM
    have htk : List.take s.length s = s := List.take_of_length_le (Nat.le_refl _)
    simp [Tryz.ntmps56, Tryz.results56, List.replicate_succ, hs', htk]
    refine rhead_pc E' _ _ hE' s (by omega) (fun r n hO => ?_) (fun r n e hO he => ?_) (fun r hO => ?_)
    · rw [hO] at hM
      simp [Rep.avs]
      exact aPost_same hB (v0 := .tup [.agg r.avs, .int .i64 n, .int .i64 0]) (by simp [Rep.avs]) (nilV_refl _) (by simp [Rep.avs, bnd_flds]) ⟨_, _, _, rfl, nilL_refl _, avs_free _, fin _ hM⟩
    · rw [hO] at hM
      have he1 : (e == 124) = false := by simpa using headO_code hO
      have he2 : (e != 0) = true := by simpa using he
      simp [Rep.avs, he1, he2, hS']
      exact aPost_same hB (v0 := .tup [.agg rzero, .int .i64 n, .int .i64 e]) (by simp [rzero]) (nilV_refl _) (by simp [rzero]) ⟨_, _, _, rfl, rzero_nil, avs_free _, fin _ hM⟩
    · rw [hO] at hM
      simp [Rep.avs, hs', hS']
      exact aPost_same hB (v0 := .tup [.agg rzero, .int .i64 s.length, .int .i64 124]) (by simp [rzero]) (nilV_refl _) (by simp [rzero]) ⟨_, _, _, rfl, rzero_nil, avs_free _, fin _ hM⟩
set_option maxHeartbeats 2000000 in
theorem parse_pc (hE : SE E) (m s : List UInt8) (most : Int) (ended : Bool) (hl : s.length ≤ 1000000000) (hm : -9223372036854775808 ≤ most ∧ most ≤ 9223372036854775807)
    (hQ : Q (.tup [.agg (parseM m s most ended).1.avs, .int .i64 (parseM m s most ended).2.1, .int .i64 (parseM m s most ended).2.2]) H) : PC Tryz.prog E 23 [.str m, .str s, .int .i64 most, .bool ended] H Q := by
  refine PC.nilT ?_
  refine pc_enterF (fun i => i = H.length + 1) Tryz.func23 rfl [] [(27, [2, 0, 0, 0, 2, 0, 2])] (by kernel_rfl) (fun E' hS' h0' hF' hB => ?_)
  have hE' : SE E' := ⟨by rw [hF']; exact hE.1, by rw [h0']; exact hE.2⟩
  have fin : ∀ a : Rep × Int × Int, parseM m s most ended = a → Q (.tup [.agg a.1.avs, .int .i64 a.2.1, .int .i64 a.2.2]) H := fun a ha => ha ▸ hQ
  by_cases h0 : most < 0
  · simp [Tryz.ntmps23, Tryz.results23, List.replicate_succ, h0]
    exact aPost_same hB (v0 := .tup [.agg rzero, .int .i64 0, .int .i64 1]) (by simp [rzero]) (nilV_refl _) (by simp [rzero]) ⟨_, _, _, rfl, rzero_nil, avs_free _, fin _ (parseM_neg m s ended h0)⟩
  simp [Tryz.ntmps23, Tryz.results23, List.replicate_succ, h0]
  refine parseHead_pc E' _ _ hE' s hl ?_
  by_cases h1 : (headM s).2.2 = 0
  rotate_left
  · have h1' : ((headM s).2.2 != 0) = true := by simpa using h1
    simp [Rep.avs, h1']
    exact aPost_same hB (v0 := .tup [.agg rzero, .int .i64 (headM s).2.1, .int .i64 (headM s).2.2]) (by simp [rzero]) (nilV_refl _) (by simp [rzero]) ⟨_, _, _, rfl, rzero_nil, avs_free _, fin _ (parseM_bad ended h0 h1)⟩
  simp [Rep.avs, h1]
  refine bodyless_pc E' _ _ m _ ?_
  cases h2 : bodylessB m (headM s).1.status with
  | true =>
    have hP := parseM_none ended h0 h1 h2
    simp
    exact aPost_same hB (v0 := .tup [.agg (headM s).1.avs, .int .i64 (headM s).2.1, .int .i64 0]) (by simp [Rep.avs]) (nilV_refl _) (by simp [Rep.avs, bnd_flds]) ⟨_, _, _, rfl, nilL_refl _, avs_free _, by have := fin _ hP; rw [h1] at this; exact this⟩
  | false =>
    obtain ⟨n, hn, h17, hnl, hn2⟩ := headM_rng h1
    have hP := parseM_body ended h0 h1 h2 hn
    have hlen := headM_len s
    obtain ⟨r, hr⟩ : ∃ r, (headM s).1 = r := ⟨_, rfl⟩
    rw [hr] at hP hlen ⊢
    rw [hn]
    have hgt : n ≤ s.length := hnl
    have hrl : (s.drop n).length = s.length - n := List.length_drop
    have htl : List.take (s.length - n) (s.drop n) = s.drop n := List.take_of_length_le (by omega)
    simp [hgt, htl]
    obtain ⟨rest, hrest⟩ : ∃ rest, s.drop n = rest := ⟨_, rfl⟩
    rw [hrest] at hP hrl ⊢
    have hE2 : n + rest.length = s.length := by omega
    unfold bodyM at hP
    by_cases k2 : r.kind = 2
    · rw [if_pos k2] at hP
      simp [k2]
      refine decode_pc E' _ _ hE' rest most 65536 100 (by omega) (by omega) (by omega) (by omega) ?_
      have hat := decodeD_at rest most 65536 100
      obtain ⟨⟨db, dt, dk, de⟩, hd⟩ : ∃ d, decodeD rest most 65536 100 = d := ⟨_, rfl⟩
      rw [hd] at hP hat ⊢
      simp only at hP hat ⊢
      have hw : IntKind.i64.wrap ((n : Int) + dk) = n + dk := wrap_in (by omega) (by omega)
      by_cases d0 : de = 0
      · rw [if_pos d0] at hP
        simp [d0, hw]
        exact aPost_same hB (v0 := .tup [.agg (Rep.avs { r with body := db, trailers := dt }), .int .i64 (n + dk), .int .i64 0]) (by simp [Rep.avs, k2]) (nilV_refl _) (by simp [Rep.avs, bnd_flds]) ⟨_, _, _, rfl, nilL_refl _, avs_free _, fin _ hP⟩
      · rw [if_neg d0] at hP
        have d0' : (de == 0) = false := by simpa using d0
        by_cases d1 : de = 105
        · rw [if_pos d1] at hP
          simp [d1, hw]
          exact aPost_same hB (v0 := .tup [.agg rzero, .int .i64 (n + dk), .int .i64 124]) (by simp [rzero]) (nilV_refl _) (by simp [rzero]) ⟨_, _, _, rfl, rzero_nil, avs_free _, fin _ hP⟩
        · rw [if_neg d1] at hP
          have d1' : (de == 105) = false := by simpa using d1
          by_cases d2 : de = 102
          · rw [if_pos d2] at hP
            simp [d2, hw]
            exact aPost_same hB (v0 := .tup [.agg rzero, .int .i64 (n + dk), .int .i64 125]) (by simp [rzero]) (nilV_refl _) (by simp [rzero]) ⟨_, _, _, rfl, rzero_nil, avs_free _, fin _ hP⟩
          · rw [if_neg d2] at hP
            have d2' : (de == 102) = false := by simpa using d2
            simp [d0', d1', d2', hw]
            exact aPost_same hB (v0 := .tup [.agg rzero, .int .i64 (n + dk), .int .i64 de]) (by simp [rzero]) (nilV_refl _) (by simp [rzero]) ⟨_, _, _, rfl, rzero_nil, avs_free _, fin _ hP⟩
    · rw [if_neg k2] at hP
      have k2' : (r.kind == 2) = false := by simpa using k2
      by_cases k1 : r.kind = 1
      · rw [if_pos k1] at hP
        simp [k1]
        by_cases c1 : most < r.length
        · rw [if_pos c1] at hP
          simp [c1]
          exact aPost_same hB (v0 := .tup [.agg rzero, .int .i64 n, .int .i64 125]) (by simp [rzero]) (nilV_refl _) (by simp [rzero]) ⟨_, _, _, rfl, rzero_nil, avs_free _, fin _ hP⟩
        · rw [if_neg c1] at hP
          by_cases c2 : (rest.length : Int) < r.length
          · rw [if_pos c2] at hP
            simp [c1, c2]
            exact aPost_same hB (v0 := .tup [.agg rzero, .int .i64 s.length, .int .i64 124]) (by simp [rzero]) (nilV_refl _) (by simp [rzero]) ⟨_, _, _, rfl, rzero_nil, avs_free _, fin _ hP⟩
          · rw [if_neg c2] at hP
            have c3 : r.length.toNat ≤ rest.length := by omega
            have hw : IntKind.i64.wrap ((n : Int) + r.length) = n + r.length := wrap_in (by omega) (by omega)
            simp [c1, c2, c3, hlen, hw, hS']
            exact aPost_same hB (v0 := .tup [.agg (Rep.avs { r with body := rest.take r.length.toNat }), .int .i64 (n + r.length), .int .i64 0]) (by simp [Rep.avs, k1]) (nilV_refl _) (by simp [Rep.avs, bnd_flds]) ⟨_, _, _, rfl, nilL_refl _, avs_free _, fin _ hP⟩
      · rw [if_neg k1] at hP
        have k1' : (r.kind == 1) = false := by simpa using k1
        simp [k1', k2']
        by_cases c1 : most < rest.length
        · rw [if_pos c1] at hP
          have hw : IntKind.i64.wrap ((n : Int) + most) = n + most := wrap_in (by omega) (by omega)
          simp [c1, hw]
          exact aPost_same hB (v0 := .tup [.agg rzero, .int .i64 (n + most), .int .i64 125]) (by simp [rzero]) (nilV_refl _) (by simp [rzero]) ⟨_, _, _, rfl, rzero_nil, avs_free _, fin _ hP⟩
        · rw [if_neg c1] at hP
          cases he : ended with
          | false =>
            rw [if_pos he] at hP
            simp [c1]
            exact aPost_same hB (v0 := .tup [.agg rzero, .int .i64 s.length, .int .i64 124]) (by simp [rzero]) (nilV_refl _) (by simp [rzero]) ⟨_, _, _, rfl, rzero_nil, avs_free _, fin _ hP⟩
          | true =>
            rw [if_neg (by rw [he]; simp)] at hP
            simp [c1]
            exact aPost_same hB (v0 := .tup [.agg (Rep.avs { r with body := rest, persist := false }), .int .i64 s.length, .int .i64 0]) (by simp [Rep.avs]) (nilV_refl _) (by simp [Rep.avs, bnd_flds]) ⟨_, _, _, rfl, nilL_refl _, avs_free _, fin _ hP⟩
end
end Go.Proofs.YtcdkcaocfioigaaGreatDoor

set_option linter.unusedVariables false
set_option linter.unnecessarySimpa false
set_option linter.unusedSimpArgs false
set_option linter.unusedSectionVars false
set_option maxRecDepth 100000
namespace Go.Proofs.YtcdkcaocfioigaaGreatDoor
open Go Go.RowKit Go.Proofs

@[simp] theorem bnd_ints {N : Nat} (l : List Int) : (∀ r ∈ ints l, ∀ x ∈ r, Bnd N x) = True := eq_true fun r hr x hx => by
  obtain ⟨z, _, rfl⟩ := List.mem_map.1 hr
  simp at hx
  subst hx
  exact .int _ _
section
variable (E : Env) (H : Hp) (Q : AV → Hp → Prop)
theorem dprintP_pc (r : Resp) (h : Mann) (hok : okR r h) (hQ : Q (.tup [.str (printP r h).1, .int .i64 (printP r h).2]) H) : PC Tryz.prog E 19 [.agg r.avs, .agg h.avs] H Q := by
  have hhl := headP_le hok
  have hel := enc_le hok
  have hok' := hok
  obtain ⟨o1, o2, o3, o4, o5, o6, ⟨o7, o8⟩, o9⟩ := hok'
  have fin : ∀ a : List UInt8 × Int, printP r h = a → Q (.tup [.str a.1, .int .i64 a.2]) H := fun a ha => ha ▸ hQ
  have hR : r.avs = [.int .i64 r.status, .str r.reason, .sl false 2 (flds r.fields), .str r.body] := rfl
  have hM : h.avs = [.str h.method, .bool h.close, .bool h.old, .bool h.chunked, .sl false 1 (ints h.sizes), .sl false 2 (flds h.trailers)] := rfl
  rw [hR, hM]
  refine pc_enter Tryz.func19 rfl [] [] (by kernel_rfl) (fun hB => ?_)
  simp [Tryz.ntmps19, Tryz.results19, List.replicate_succ]
  rw [← hR, ← hM]
  refine dhead_pc E _ _ r h hok ?_
  have hP : printP r h = if (headP r h).2 ≠ 0 then ([], (headP r h).2) else if 65536 < (headP r h).1.length then ([], 125)
      else if h.chunked = true ∧ (encAns r.body h.sizes h.trailers).2 ≠ 0 then ([], (encAns r.body h.sizes h.trailers).2)
      else if bodylessB h.method r.status = true then ((headP r h).1, 0)
      else ((headP r h).1 ++ (if h.chunked = true then (encAns r.body h.sizes h.trailers).1 else r.body), 0) := by unfold printP; exact Eq.refl _
  generalize headP r h = hd at *
  obtain ⟨hd, he⟩ := hd
  simp only at hP hhl ⊢
  by_cases h0 : he = 0
  rotate_left
  · rw [if_pos h0] at hP
    have h0' : (he != 0) = true := by simpa using h0
    simp [h0']
    exact aPost_same hB (v0 := .tup [.str [], .int .i64 he]) (by simp) (nilV_refl _) (by simp) (fin _ hP)
  rw [if_neg (by simp [h0])] at hP
  by_cases h1 : 65536 < hd.length
  · rw [if_pos h1] at hP
    have h1' : (65536 : Int) < hd.length := by omega
    simp [h0, h1']
    exact aPost_same hB (v0 := .tup [.str [], .int .i64 125]) (by simp) (nilV_refl _) (by simp) (fin _ hP)
  rw [if_neg h1] at hP
  have h1' : ¬ (65536 : Int) < hd.length := by omega
  cases hc : h.chunked with
  | true =>
    simp [h0, h1', hR, hM, hc]
    refine dencode_pc E _ _ r.body h.sizes h.trailers o5 o3 o2 o9 ?_
    generalize encAns r.body h.sizes h.trailers = en at *
    obtain ⟨en, ee⟩ := en
    simp only at hP hel ⊢
    by_cases h2 : ee = 0
    rotate_left
    · rw [if_pos ⟨hc, h2⟩] at hP
      have h2' : (ee != 0) = true := by simpa using h2
      simp [h2']
      exact aPost_same hB (v0 := .tup [.str [], .int .i64 ee]) (by simp) (nilV_refl _) (by simp) (fin _ hP)
    rw [if_neg (fun e => e.2 h2), if_pos hc] at hP
    simp [h2]
    refine dbodyless_pc E _ _ h.method r.status ?_
    cases hb : bodylessB h.method r.status with
    | true =>
      rw [if_pos hb] at hP
      have m1 : hd.length ≤ maxLen := by unfold maxLen; omega
      simp [m1]
      exact aPost_same hB (v0 := .tup [.str hd, .int .i64 0]) (by simp) (nilV_refl _) (by simp) (fin _ hP)
    | false =>
      rw [if_neg (by rw [hb]; simp)] at hP
      have m1 : hd.length + en.length ≤ maxLen := by unfold maxLen; omega
      simp [m1]
      exact aPost_same hB (v0 := .tup [.str (hd ++ en), .int .i64 0]) (by simp) (nilV_refl _) (by simp) (fin _ hP)
  | false =>
    rw [if_neg (fun e => by rw [hc] at e; cases e.1), if_neg (show ¬ h.chunked = true by rw [hc]; simp)] at hP
    simp [h0, h1', hR, hM, hc]
    refine dbodyless_pc E _ _ h.method r.status ?_
    cases hb : bodylessB h.method r.status with
    | true =>
      rw [if_pos hb] at hP
      have m1 : hd.length ≤ maxLen := by unfold maxLen; omega
      simp [m1]
      exact aPost_same hB (v0 := .tup [.str hd, .int .i64 0]) (by simp) (nilV_refl _) (by simp) (fin _ hP)
    | false =>
      rw [if_neg (by rw [hb]; simp)] at hP
      have m1 : hd.length + r.body.length ≤ maxLen := by unfold maxLen; omega
      simp [m1]
      exact aPost_same hB (v0 := .tup [.str (hd ++ r.body), .int .i64 0]) (by simp) (nilV_refl _) (by simp) (fin _ hP)
def plain12Inv (T : List Fld) (H : Hp) (fr : List AV) (H' : Hp) : Prop := ∃ (J : Hp) (i : Nat), H' = H ++ J ∧ i ≤ T.length ∧ ∃ x : Nat → AV, fr = [x 0, x 1, x 2, .sl true 2 (flds (T.take i)), x 4, x 5, .sl false 2 (flds T), .int .i64 T.length, .int .i64 i, x 9, x 10, x 11, x 12, x 13, x 14, x 15, x 16, x 17, x 18, x 19, x 20, x 21]
theorem plain12_pc (T : List Fld) (hl : T.length ≤ 1073741824) (hQ : Q (.sl false 2 (flds T)) H) : PC Tryz.prog E 21 [.sl false 2 (flds T)] H Q := by
  refine pc_enter Tryz.func21 rfl [12] [] (by kernel_rfl) (fun hB => ?_)
  simp [Tryz.ntmps21, Tryz.results21, List.replicate_succ]
  refine VL_nil 3 2 (by rfl) ?_
  simp only [List.set_cons_succ, List.set_cons_zero]
  refine VL_go (plain12Inv T H) (fun fr _ => T.length - (ai (aget fr 8)).toNat) ⟨[], 0, by simp, by omega, fr_intro (by simp [flds])⟩ ?_
  rintro fr H' ⟨J, i, rfl, hi, x, rfl⟩
  by_cases h : i < T.length
  · obtain ⟨u, hu⟩ : ∃ u, T[i]? = some u := ⟨_, List.getElem?_eq_getElem h⟩
    have hat1 := flds_at hu
    have hw : IntKind.i64.wrap ((i : Int) + 1) = i + 1 := wrap_in (by omega) (by omega)
    have htk : T.take (i + 1) = T.take i ++ [u] := by rw [List.take_add_one, hu]; rfl
    obtain ⟨n1, v1⟩ := u
    have m1 : min i T.length + 1 ≤ maxLen := by unfold maxLen; omega
    have m2 : (min i T.length + 1) * 32 ≤ 140737488355328 := by omega
    have hsn := flds_snoc (T.take i) ⟨n1, v1⟩
    rw [← htk] at hsn
    simp only at hat1 hsn
    simp [h, hat1, m1, m2, hsn, hw]
    exact Kloop_normal ⟨_, i + 1, rfl, by omega, fr_intro (by simp)⟩ (by simp; omega)
  · obtain rfl : i = T.length := by omega
    simp
    exact aPost_same hB (v0 := .sl false 2 (flds T)) (by simp) (nilV_refl _) (by simp) hQ
theorem fields12_pc (l : List Fld) (hl : l.length ≤ 1073741824) (hQ : Q (.sl true 2 (flds l)) H) : PC Tryz.prog E 43 [.sl false 2 (flds l)] H Q := by
  have m1 : l.length ≤ maxLen := by unfold maxLen; omega
  have m2 : l.length * 32 ≤ 140737488355328 := by omega
  refine pc_enter Tryz.func43 rfl [3] [] (by kernel_rfl) (fun hB => ?_)
  simp [Tryz.ntmps43, Tryz.results43, List.replicate_succ, m1, m2]
  exact aPost_same0 hB (v0 := .sl true 2 (flds l)) (by simp) (nilV_refl _) (bnd_flds _ _ _) hQ
theorem response_pc (r : Resp) (hl : r.fields.length ≤ 1073741824) (hQ : Q (.agg r.avs) H) : PC Tryz.prog E 16 [.agg r.avs] H Q := by
  have hR : r.avs = [.int .i64 r.status, .str r.reason, .sl false 2 (flds r.fields), .str r.body] := rfl
  rw [hR] at hQ ⊢
  refine pc_enter Tryz.func16 rfl [] [(1, [0, 0, 0, 0, 0, 0, 1])] (by kernel_rfl) (fun hB => ?_)
  simp [Tryz.ntmps16, Tryz.results16, List.replicate_succ]
  refine plain12_pc E _ _ r.fields hl ?_
  simp
  exact aPost_same hB (v0 := .agg r.avs) (by simp [hR]) (nilV_refl _) (by simp [hR, bnd_flds]) hQ
theorem manner_pc (h : Mann) (hl : h.trailers.length ≤ 1073741824) (hz : h.sizes.length ≤ 1073741824) (hQ : Q (.agg h.avs) H) : PC Tryz.prog E 17 [.agg h.avs] H Q := by
  have hM : h.avs = [.str h.method, .bool h.close, .bool h.old, .bool h.chunked, .sl false 1 (ints h.sizes), .sl false 2 (flds h.trailers)] := rfl
  have m1 : h.sizes.length ≤ maxLen := by unfold maxLen; omega
  have m2 : h.sizes.length * 8 ≤ 140737488355328 := by omega
  rw [hM] at hQ ⊢
  refine pc_enter Tryz.func17 rfl [11] [(1, [0, 0, 0, 0, 0, 0, 0, 0, 0, 0, 0, 0, 0, 0, 1])] (by kernel_rfl) (fun hB => ?_)
  simp [Tryz.ntmps17, Tryz.results17, List.replicate_succ, m1, m2]
  refine plain12_pc E _ _ h.trailers hl ?_
  simp
  exact aPost_same hB (v0 := .agg h.avs) (by simp [hM]) (nilV_refl _) (by simp [hM, bnd_flds]) hQ
theorem copied_pc (r : Resp) (h : Mann) (hl : r.fields.length ≤ 1073741824) (hl2 : h.trailers.length ≤ 1073741824) (hz : h.sizes.length ≤ 1073741824) (hQ : Q (.tup [.agg r.avs, .agg h.avs]) H) : PC Tryz.prog E 13 [.agg r.avs, .agg h.avs] H Q := by
  have hR : r.avs = [.int .i64 r.status, .str r.reason, .sl false 2 (flds r.fields), .str r.body] := rfl
  have hM : h.avs = [.str h.method, .bool h.close, .bool h.old, .bool h.chunked, .sl false 1 (ints h.sizes), .sl false 2 (flds h.trailers)] := rfl
  have m1 : h.sizes.length ≤ maxLen := by unfold maxLen; omega
  have m2 : h.sizes.length * 8 ≤ 140737488355328 := by omega
  rw [hR, hM] at hQ ⊢
  refine pc_enterF (fun i => i = H.length ∨ i = H.length + 1) Tryz.func13 rfl [10] [(3, [2, 2, 2, 2])] (by kernel_rfl) (fun E' hS' h0' hF' hB => ?_)
  simp [Tryz.ntmps13, Tryz.results13, List.replicate_succ]
  refine fields12_pc E' _ _ r.fields hl ?_
  simp [m1, m2]
  refine fields12_pc E' _ _ h.trailers hl2 ?_
  simp [hS']
  exact aPost_same hB (v0 := .tup [.agg r.avs, .agg h.avs]) (by simp [hR, hM]) (nilV_refl _) (by simp [hR, hM, bnd_flds]) hQ
theorem right12_pc (r : Resp) (h : Mann) (hok : okR r h) (hQ : Q (.bool ((printP r h).2 == 0)) H) : PC Tryz.prog E 22 [.agg r.avs, .agg h.avs] H Q := by
  obtain ⟨o1, o2, o3, o4, o5, o6, ⟨o7, o8⟩, o9⟩ := id hok
  have hR : r.avs = [.int .i64 r.status, .str r.reason, .sl false 2 (flds r.fields), .str r.body] := rfl
  have hM : h.avs = [.str h.method, .bool h.close, .bool h.old, .bool h.chunked, .sl false 1 (ints h.sizes), .sl false 2 (flds h.trailers)] := rfl
  rw [hR, hM]
  refine pc_enter Tryz.func22 rfl [] [(1, [0, 1])] (by kernel_rfl) (fun hB => ?_)
  simp [Tryz.ntmps22, Tryz.results22, List.replicate_succ]
  rw [← hR]
  refine response_pc E _ _ r (by omega) ?_
  simp
  rw [← hM]
  refine manner_pc E _ _ h (by omega) (by omega) ?_
  simp
  refine dprintP_pc E _ _ r h hok ?_
  simp
  exact aPost_same hB rfl (nilV_refl _) (by simp) hQ
end
end Go.Proofs.YtcdkcaocfioigaaGreatDoor

set_option linter.unusedVariables false
set_option linter.unnecessarySimpa false
set_option linter.unusedSimpArgs false
set_option linter.unusedSectionVars false
set_option maxRecDepth 100000
namespace Go.Proofs.YtcdkcaocfioigaaGreatDoor
open Go Go.RowKit Go.Proofs

/-- Nils in a struct are seen as empty lists. -/
theorem aggNil_rel {w : World} {β : Nat → Nat} {Rd : Nat → Nat → Prop} {N : Nat} {l l' : List AV} {u : Value} (hB : Bnd N (.agg l)) (h : Rel w β Rd (.agg l) u) (hn : nilL l l') (hf' : ∀ x ∈ l', x.free = true) :
    Rel w β Rd (.agg l') u ∧ Bnd N (.agg l') := by
  have h1 : Rel w β Rd (.tup [.agg l]) (.tuple #[u]) := .tup _ _ rfl (fun x hx => by simp at hx; subst hx; rfl) (fun j x v hx hv => by
    match j with
    | 0 => simp at hx hv; subst hx; subst hv; exact h
    | j + 1 => simp at hx)
  obtain ⟨k1, k2⟩ := nilT_rel (.tup _ fun x hx => by simp at hx; subst hx; exact hB) h1 hn hf'
  constructor
  · cases k1 with
    | tup _ _ _ _ hr => exact hr 0 _ u rfl rfl
  · cases k2 with
    | tup _ h => exact h _ (by simp)
theorem PC.agg2 {P : Program} {E : Env} {f : FuncId} {a l l' : List AV} {H : Hp} {Q : AV → Hp → Prop} (hn : nilL l l') (hf : ∀ x ∈ l', x.free = true) (h : PC P E f [.agg a, .agg l'] H Q) : PC P E f [.agg a, .agg l] H Q :=
  ⟨h.1, fun w β Rd Ow cargs h1 h2 h3 h4 => h.2 w β Rd Ow cargs h1 h2 h3 fun t x u hx hu => by
    match t with
    | 0 => exact h4 0 x u hx hu
    | 1 =>
      simp at hx
      subst hx
      obtain ⟨r1, r2, _⟩ := h4 1 (.agg l) u rfl hu
      obtain ⟨k1, k2⟩ := aggNil_rel r2 r1 hn hf
      exact ⟨k1, k2, rfl⟩
    | t + 2 => simp at hx⟩
def awR12 : Resp := ⟨200, [], [⟨[65], [49]⟩], [104, 105]⟩
def awM12 : Mann := ⟨[71, 69, 84], false, false, false, [], []⟩
def awT12 : List UInt8 := [72, 84, 84, 80, 47, 49, 46, 49, 32, 50, 48, 48, 32, 79, 75, 13, 10, 65, 58, 32, 49, 13, 10, 67, 111, 110, 116, 101, 110, 116, 45, 76, 101, 110, 103, 116, 104, 58, 32, 50, 13, 10, 13, 10, 104, 105]
theorem aw_print : printP awR12 awM12 = (awT12, 0) := by decide +kernel
theorem aw_parse : (parseM [71, 69, 84] (awT12 ++ [120]) 2 false).1.body = [104, 105] ∧ (parseM [71, 69, 84] (awT12 ++ [120]) 2 false).2.1 = 46 ∧ (parseM [71, 69, 84] (awT12 ++ [120]) 2 false).2.2 = 0 := by decide +kernel
theorem aw_ok : okR awR12 awM12 := by
  refine ⟨by decide, by decide, by decide, by decide, by decide, by decide, by decide, ?_⟩
  intro z hz
  cases hz
section
variable (E : Env) (H : Hp) (Q : AV → Hp → Prop)
theorem awake12_pc (hE : SM E) (hQ : Q (.bool true) H) : PC Tryz.prog E 12 [] H Q := by
  obtain ⟨p1, p2, p3⟩ := aw_parse
  refine pc_enter Tryz.func12 rfl [] [] (by kernel_rfl) (fun hB => ?_)
  simp [Tryz.ntmps12, Tryz.results12, List.replicate_succ]
  refine PC.agg2 (a := awR12.avs) (l := [.str [71, 69, 84], .bool false, .bool false, .bool false, .nil, .nil]) (l' := awM12.avs) ⟨.inl rfl, .inl rfl, .inl rfl, .inl rfl, .inr ⟨rfl, false, 1, rfl⟩, .inr ⟨rfl, false, 2, rfl⟩, trivial⟩ (by simp [Mann.avs, AV.free]) ?_
  refine mprint_pc E _ _ hE awR12 awM12 aw_ok ?_
  rw [aw_print]
  have m1 : awT12.length + 1 ≤ maxLen := by decide
  have e1 : (awT12 != [72, 84, 84, 80, 47, 49, 46, 49, 32, 50, 48, 48, 32, 79, 75, 13, 10, 65, 58, 32, 49, 13, 10, 67, 111, 110, 116, 101, 110, 116, 45, 76, 101, 110, 103, 116, 104, 58, 32, 50, 13, 10, 13, 10, 104, 105]) = false := by decide
  simp [e1, m1]
  refine parse_pc E _ _ hE.1.1 [71, 69, 84] (awT12 ++ [120]) 2 false (by decide) (by decide) ?_
  rw [p2, p3]
  have e2 : awT12.length = 46 := rfl
  simp [Rep.avs, p1, e2]
  exact aPost_same hB rfl (nilV_refl _) (by simp) hQ
theorem headP_method (r : Resp) (h : Mann) (m : List UInt8) : headP r { h with method := m } = headP r h := by
  unfold headP wrongM moreM
  exact Eq.refl _
/-- What is right with a print. -/
theorem printP_right {r : Resp} {h : Mann} (h0 : (printP r h).2 = 0) : (headP r h).2 = 0 ∧ (headP r h).1.length ≤ 65536 ∧ (h.chunked = true → (encAns r.body h.sizes h.trailers).2 = 0) ∧
    ∀ m, printP r { h with method := m } = (if bodylessB m r.status = true then (headP r h).1 else (headP r h).1 ++ (if h.chunked = true then (encAns r.body h.sizes h.trailers).1 else r.body), 0) := by
  unfold printP at h0
  by_cases g1 : (headP r h).2 ≠ 0
  · rw [if_pos g1] at h0; exact absurd h0 g1
  rw [if_neg g1] at h0
  by_cases g2 : 65536 < (headP r h).1.length
  · rw [if_pos g2] at h0; simp at h0
  rw [if_neg g2] at h0
  by_cases g3 : h.chunked = true ∧ (encAns r.body h.sizes h.trailers).2 ≠ 0
  · rw [if_pos g3] at h0; exact absurd h0 g3.2
  refine ⟨by simpa using g1, by omega, fun hc => Classical.byContradiction fun e => g3 ⟨hc, e⟩, fun m => ?_⟩
  unfold printP
  rw [headP_method]
  simp only
  rw [if_neg g1, if_neg g2, if_neg g3]
  by_cases g4 : bodylessB m r.status = true
  · rw [if_pos g4, if_pos g4]
  · rw [if_neg g4, if_neg g4]
end
end Go.Proofs.YtcdkcaocfioigaaGreatDoor

set_option linter.unusedVariables false
set_option linter.unnecessarySimpa false
set_option linter.unusedSimpArgs false
set_option linter.unusedSectionVars false
set_option maxRecDepth 100000
namespace Go.Proofs.YtcdkcaocfioigaaGreatDoor
open Go Go.RowKit Go.Proofs Go.Deep

section
variable (E : Env) (H : Hp) (Q : AV → Hp → Prop)
end
end Go.Proofs.YtcdkcaocfioigaaGreatDoor

set_option linter.unusedVariables false
set_option linter.unnecessarySimpa false
set_option linter.unusedSimpArgs false
set_option linter.unusedSectionVars false
set_option maxRecDepth 100000
namespace Go.Proofs.YtcdkcaocfioigaaGreatDoor
open Go Go.RowKit Go.Proofs Go.Deep

/-- The three tables. -/
def Tabs (W : World) : Prop := Signs W ∧ Tz W ∧ Lib.TabIs Tryz.prog W "internal/strconv.uint64pow10" .u64 Lib.pow10Tab
theorem tab_lt {W : World} (hT : Lib.TabIs Tryz.prog W "internal/strconv.uint64pow10" .u64 Lib.pow10Tab) : 0 < W.heap.size := by
  have := hT
  unfold Lib.TabIs World.var? at this
  rw [pow10Named] at this
  simp only [Option.bind_some] at this
  by_cases h : 0 < W.heap.size
  · exact h
  · rw [Array.getElem?_eq_none (by omega)] at this; cases this
theorem calls_sm {f : FuncId} {args : List AV} {cargs : Array Value} {W : World} (hT : Tabs W) (hsz : cargs.size = args.length)
    (hargs : ∀ (t : Nat) x u, args[t]? = some x → cargs[t]? = some u → Rel W (fun _ => 0) (old W) x u ∧ Bnd 0 x ∧ x.free = true)
    (h : ∀ (E : Env) (Q : AV → Hp → Prop), SM E → Q (.bool true) [] → PC Tryz.prog E f args [] Q) : Calls Tryz.prog f cargs W fun e w' => e = .returned (.bool true) ∧ Frm (fun _ => False) W w' :=
  calls_of_pcF (fun b => b = 1 ∨ b = 3 ∨ b = 0)
    (fun b hb => hb.elim (law_fix W hT.1 b) (fun h => h.elim (fun h => h ▸ World.block_lt_of_cell? _ _ hT.2.1) (fun h => h ▸ tab_lt hT.2.2))) (old W) (fun _ _ h => h) hsz hargs
    (fun E Q h0 hf hq => h E Q ⟨⟨⟨by rw [hf]; exact .inl rfl, by rw [h0]; exact hT.1⟩, by rw [hf]; exact .inr (.inl rfl), by rw [h0]; exact hT.2.1⟩, ⟨by rw [hf]; exact .inl rfl, by rw [h0]; exact hT.1⟩, by rw [hf]; exact .inr (.inr rfl), by rw [h0]; exact hT.2.2⟩ hq)
/-- A response that is handed in. -/
structure ROk (W : World) (cs : Array Value) (r : Resp) (b : Nat) : Prop where
  rel : Rel W (fun _ => 0) (old W) (.agg r.avs) (.agg cs)
  bnd : Bnd 0 (.agg r.avs)
  st : -9223372036854775808 ≤ r.status ∧ r.status ≤ 9223372036854775807
  bulk : r.reason.length + r.body.length + (fsz r.fields + r.fields.length) ≤ b
structure MOk (W : World) (cs : Array Value) (h : Mann) (b : Nat) : Prop where
  rel : Rel W (fun _ => 0) (old W) (.agg h.avs) (.agg cs)
  bnd : Bnd 0 (.agg h.avs)
  rng : ∀ z ∈ h.sizes, -9223372036854775808 ≤ z ∧ z ≤ 9223372036854775807
  bulk : h.method.length + h.sizes.length + (fsz h.trailers + h.trailers.length) ≤ b
theorem open_resp {H : Type} {enc : TypeId × Value → H} {W : World} {spare : Nat → Bool} {held : Bool} {fuel : Nat} {cs : List Value} {x : DataW H × List MemPlace} (h : DataW.trod enc Tryz.prog W 0 spare held fuel 24 cs = some x) :
    ∃ r : Resp, ROk W ⟨cs⟩ r (Rows.uptoBulk x.1) := by
  obtain ⟨xs, n', _, rfl, hcl, hxl, hf⟩ := DataW.trod_struct Tryz.underlying24 h
  have e0 : Tryz.prog.cellsOf 24 = 4 := by kernel_rfl
  have e1 : Tryz.prog.cellsOf 9 = 1 := by kernel_rfl
  have e2 : Tryz.prog.cellsOf 3 = 1 := by kernel_rfl
  have e3 : Tryz.prog.cellsOf 22 = 1 := by kernel_rfl
  rw [e0] at hcl
  obtain ⟨c0, c1, c2, c3, rfl⟩ : ∃ c0 c1 c2 c3, cs = [c0, c1, c2, c3] := by
    match cs, hcl with
    | [a, b, c, d], _ => exact ⟨a, b, c, d, rfl⟩
  obtain ⟨y0, y1, y2, y3, rfl⟩ : ∃ y0 y1 y2 y3, xs = [y0, y1, y2, y3] := by
    match xs, hxl with
    | [a, b, c, d], _ => exact ⟨a, b, c, d, rfl⟩
  have h0 := hf 0 _ rfl
  have h1 := hf 1 _ rfl
  have h2 := hf 2 _ rfl
  have h3 := hf 3 _ rfl
  simp [e2] at h0
  simp [e1] at h1
  simp [e3] at h2
  simp [e1] at h3
  obtain ⟨st, hs0, hy0, hm0⟩ := DataW.trod_int Tryz.underlying3 h0
  obtain ⟨re, hs1, hy1, hm1⟩ := DataW.trod_string Tryz.underlying9 h1
  obtain ⟨bo2, l2, k2, rows2, q1, q2, _, _, q3, q4, q5, q6⟩ := open_plain (ks := [.str, .str]) 6 Tryz.underlying22 (by kernel_rfl) (by kernel_rfl) (by decide) h2
  obtain ⟨bo, hs3, hy3, hm3⟩ := DataW.trod_string Tryz.underlying9 h3
  obtain ⟨fs, rfl, ht⟩ := flds_of_rows rows2 q5
  simp at hs0 hs1 hs3 q1
  subst hs0; subst hs1; subst hs3; subst q1
  have hw : -9223372036854775808 ≤ st ∧ st ≤ 9223372036854775807 := by simpa [Lit.wf, IntKind.min, IntKind.max, IntKind.signed, IntKind.bits] using hm0
  have hb1 : re.size + 1 ≤ Rows.uptoBulk y1.1 := by rw [hy1]; simp [Rows.uptoBulk, size_toList]
  have hb3 : bo.size + 1 ≤ Rows.uptoBulk y3.1 := by rw [hy3]; simp [Rows.uptoBulk, size_toList]
  simp at q2 q6
  refine ⟨⟨st, re.data.toList, fs, bo.data.toList⟩, .agg _ _ rfl (fun x hx => ?_) (fun j x u hx hu => ?_), .agg _ (fun x hx => ?_), hw, ?_⟩
  · simp [Resp.avs] at hx; rcases hx with rfl | rfl | rfl | rfl <;> exact ⟨rfl, rfl⟩
  · match j with
    | 0 => simp [Resp.avs] at hx hu; subst hx; subst hu; exact .int _ _
    | 1 => simp [Resp.avs] at hx hu; subst hx; subst hu; exact .str _ _ rfl hm1
    | 2 => simp [Resp.avs] at hx hu; subst hx; subst hu; exact q3
    | 3 => simp [Resp.avs] at hx hu; subst hx; subst hu; exact .str _ _ rfl hm3
    | j + 4 => simp [Resp.avs] at hx
  · simp [Resp.avs] at hx
    rcases hx with rfl | rfl | rfl | rfl
    · exact .int _ _
    · exact .str _
    · exact bnd_flds _ _ fs
    · exact .str _
  · simp only [List.map_cons, List.map_nil, Rows.uptoBulk, Rows.uptoBulkAll, size_toList]
    omega
theorem open_mann {H : Type} {enc : TypeId × Value → H} {W : World} {spare : Nat → Bool} {held : Bool} {fuel : Nat} {cs : List Value} {x : DataW H × List MemPlace} (h : DataW.trod enc Tryz.prog W 0 spare held fuel 27 cs = some x) :
    ∃ m : Mann, MOk W ⟨cs⟩ m (Rows.uptoBulk x.1) := by
  obtain ⟨xs, n', _, rfl, hcl, hxl, hf⟩ := DataW.trod_struct Tryz.underlying27 h
  have e0 : Tryz.prog.cellsOf 27 = 6 := by kernel_rfl
  have e1 : Tryz.prog.cellsOf 9 = 1 := by kernel_rfl
  have e2 : Tryz.prog.cellsOf 4 = 1 := by kernel_rfl
  have e3 : Tryz.prog.cellsOf 22 = 1 := by kernel_rfl
  have e4 : Tryz.prog.cellsOf 25 = 1 := by kernel_rfl
  rw [e0] at hcl
  obtain ⟨c0, c1, c2, c3, c4, c5, rfl⟩ : ∃ c0 c1 c2 c3 c4 c5, cs = [c0, c1, c2, c3, c4, c5] := by
    match cs, hcl with
    | [a, b, c, d, e, f], _ => exact ⟨a, b, c, d, e, f, rfl⟩
  obtain ⟨y0, y1, y2, y3, y4, y5, rfl⟩ : ∃ y0 y1 y2 y3 y4 y5, xs = [y0, y1, y2, y3, y4, y5] := by
    match xs, hxl with
    | [a, b, c, d, e, f], _ => exact ⟨a, b, c, d, e, f, rfl⟩
  have h0 := hf 0 _ rfl
  have h1 := hf 1 _ rfl
  have h2 := hf 2 _ rfl
  have h3 := hf 3 _ rfl
  have h4 := hf 4 _ rfl
  have h5 := hf 5 _ rfl
  simp [e1] at h0
  simp [e2] at h1 h2 h3
  simp [e4] at h4
  simp [e3] at h5
  obtain ⟨me, hs0, hy0, hm0⟩ := DataW.trod_string Tryz.underlying9 h0
  obtain ⟨b1, hs1, hy1⟩ := DataW.trod_bool Tryz.underlying4 h1
  obtain ⟨b2, hs2, hy2⟩ := DataW.trod_bool Tryz.underlying4 h2
  obtain ⟨b3, hs3, hy3⟩ := DataW.trod_bool Tryz.underlying4 h3
  obtain ⟨bo4, l4, k4, rows4, g1, g2, _, _, g3, g4, g5, g6⟩ := open_plain (ks := [.int .i64]) 6 Tryz.underlying25 (by kernel_rfl) (by kernel_rfl) (by decide) h4
  obtain ⟨bo5, l5, k5, rows5, q1, q2, _, _, q3, q4, q5, q6⟩ := open_plain (ks := [.str, .str]) 6 Tryz.underlying22 (by kernel_rfl) (by kernel_rfl) (by decide) h5
  obtain ⟨ns, rfl, hn⟩ := kind_int1 g5
  obtain ⟨ts, rfl, ht⟩ := flds_of_rows rows5 q5
  simp at hs0 hs1 hs2 hs3 g1 q1
  subst hs0; subst hs1; subst hs2; subst hs3; subst g1; subst q1
  have hb0 : me.size + 1 ≤ Rows.uptoBulk y0.1 := by rw [hy0]; simp [Rows.uptoBulk, size_toList]
  simp at g2 g6 q2 q6
  refine ⟨⟨me.data.toList, b1, b2, b3, ns, ts⟩, .agg _ _ rfl (fun x hx => ?_) (fun j x u hx hu => ?_), .agg _ (fun x hx => ?_), hn, ?_⟩
  · simp [Mann.avs] at hx; rcases hx with rfl | rfl | rfl | rfl | rfl | rfl <;> exact ⟨rfl, rfl⟩
  · match j with
    | 0 => simp [Mann.avs] at hx hu; subst hx; subst hu; exact .str _ _ rfl hm0
    | 1 => simp [Mann.avs] at hx hu; subst hx; subst hu; exact .bool _
    | 2 => simp [Mann.avs] at hx hu; subst hx; subst hu; exact .bool _
    | 3 => simp [Mann.avs] at hx hu; subst hx; subst hu; exact .bool _
    | 4 => simp [Mann.avs] at hx hu; subst hx; subst hu; exact g3
    | 5 => simp [Mann.avs] at hx hu; subst hx; subst hu; exact q3
    | j + 6 => simp [Mann.avs] at hx
  · simp [Mann.avs] at hx
    rcases hx with rfl | rfl | rfl | rfl | rfl | rfl
    · exact .str _
    · exact .bool _
    · exact .bool _
    · exact .bool _
    · exact .sl _ _ _ (fun r hr y hy => by obtain ⟨z, _, rfl⟩ := List.mem_map.1 hr; simp at hy; subst hy; exact .int _ _)
    · exact bnd_flds _ _ ts
  · simp only [List.map_cons, List.map_nil, Rows.uptoBulk, Rows.uptoBulkAll, size_toList]
    omega
end Go.Proofs.YtcdkcaocfioigaaGreatDoor

set_option linter.unusedVariables false
set_option linter.unnecessarySimpa false
set_option linter.unusedSimpArgs false
set_option linter.unusedSectionVars false
set_option maxRecDepth 100000
namespace Go.Proofs.YtcdkcaocfioigaaGreatDoor
open Go Go.RowKit Go.Proofs Go.Lib

theorem lineS_line (r : List UInt8) : ∀ (l : List UInt8) (i : Nat), (∀ b ∈ l, b ≠ 10 ∧ b ≠ 13) → lineS false (l ++ 13 :: 10 :: r) i = .ok (i + l.length + 2)
  | [], i, _ => by
    rw [List.nil_append, lineS_go, if_neg (by decide)]
    show lineS true (10 :: r) (i + 1) = _
    rw [lineS_back, if_pos rfl]; rfl
  | b :: l, i, h => by
    obtain ⟨h1, h2⟩ := h b (by simp)
    rw [List.cons_append, lineS_go, if_neg h1, decide_eq_false h2, lineS_line r l (i + 1) (fun c hc => h c (List.mem_cons_of_mem _ hc))]
    simp only [List.length_cons]
    congr 1; omega
/-- May a field be printed? -/
def okL (f : Fld) : Prop := nameB f.name = true ∧ valueB f.value = true
theorem okL_iff {f : Fld} : (lineP f).2 = 0 ↔ okL f := by
  unfold lineP okL
  cases h1 : nameB f.name with
  | false => simp
  | true => cases h2 : valueB f.value <;> simp
theorem sign_clean : ∀ n, n < 256 → signB (UInt8.ofNat n) = true → UInt8.ofNat n ≠ 13 ∧ blankB (UInt8.ofNat n) = false := by decide
theorem sign_clean' {b : UInt8} (h : signB b = true) : b ≠ 13 ∧ blankB b = false := by
  have := sign_clean b.toNat b.toNat_lt
  rw [u8_ofNat] at this
  exact this h
theorem fld_ne13 {l : List UInt8} (h : fldB l = true) : ∀ b ∈ l, b ≠ 13 := by
  intro b hb e
  subst e
  have := List.all_eq_true.1 h 13 hb
  exact absurd this (by decide)
theorem valueB_fld {l : List UInt8} (h : valueB l = true) : l.length ≤ 8192 ∧ fldB l = true ∧ trimB l = l := by
  unfold valueB at h
  simp at h
  exact ⟨h.1.1, h.1.2, h.2⟩
theorem lineT_clean {f : Fld} (h : okL f) : ∀ b ∈ lineT f, b ≠ 10 ∧ b ≠ 13 := by
  obtain ⟨h1, h2⟩ := h
  obtain ⟨_, h3, _⟩ := valueB_fld h2
  intro b hb
  unfold lineT at hb
  rcases List.mem_append.1 hb with hb | hb
  · have hs := tok_sign (nameB_tok h1) b hb
    exact ⟨(sign_ne' hs).2, (sign_clean' hs).1⟩
  · rcases List.mem_cons.1 hb with rfl | hb
    · decide
    · split at hb
      · cases hb
      · rcases List.mem_cons.1 hb with rfl | hb
        · decide
        · exact ⟨fld_ne10 h3 b hb, fld_ne13 h3 b hb⟩
theorem name_pos {l : List UInt8} (h : nameB l = true) : ∃ a r, l = a :: r ∧ signB a = true := by
  have ht := nameB_tok h
  cases l with
  | nil => cases ht
  | cons a r => exact ⟨a, r, rfl, tok_sign ht a (by simp)⟩
theorem lineX_lineT {f : Fld} (h : okL f) : lineX (lineT f) = (f, 0, 0) := by
  obtain ⟨hn, hv⟩ := h
  obtain ⟨h2, h3, h4⟩ := valueB_fld hv
  have hr : run ncol (lineT f) = f.name.length := run_stopC ncol f.name 58 _ (fun b hb => (sign_ne' (tok_sign (nameB_tok hn) b hb)).1) (by decide)
  have ht : (lineT f).take f.name.length = f.name := by unfold lineT; rw [List.take_append_of_le_length (Nat.le_refl _), List.take_of_length_le (Nat.le_refl _)]
  have hd : (lineT f).drop (f.name.length + 1) = if f.value = [] then [] else 32 :: f.value := by
    unfold lineT
    rw [List.drop_append, List.drop_of_length_le (by omega)]
    simp
  have hlt : f.name.length < (lineT f).length := by unfold lineT; simp
  have hf : lnb (lineT f) = false := by
    obtain ⟨a, r, e, hs⟩ := name_pos hn
    unfold lineT
    rw [e]
    exact (sign_clean' hs).2
  have htr : trimB (if f.value = [] then [] else 32 :: f.value) = f.value := by
    split
    · rename_i h5; rw [h5] at h4 ⊢; exact h4
    · rw [trim_sp]; exact h4
  have hfl : fldB (if f.value = [] then [] else 32 :: f.value) = true := by
    split
    · rfl
    · unfold fldB at h3 ⊢
      rw [List.all_cons, h3]; decide
  rw [lineX_yes (hf := hf) (by rw [hr]; exact hlt) (by rw [hr, ht]; exact hn) (by rw [hr, hd]; exact hfl) (by rw [hr, hd, htr]; omega), hr, ht, hd, htr]
theorem lineT_ne {f : Fld} : lineT f ≠ [] := by unfold lineT; simp
theorem linesT_cons (f : Fld) (l : List Fld) : linesT (f :: l) = lineT f ++ (13 :: 10 :: linesT l) := by simp [linesT]
theorem fieldsR_lines (old : Bool) (rest : List UInt8) : ∀ (ls : List Fld) (pre : List UInt8) (fs : List Fld) (fuel : Nat), (∀ f ∈ ls, okL f) → fs.length + ls.length ≤ 100 → ls.length < fuel → (framingA (fs ++ ls) old).2.2 = 0 →
    fieldsR (pre ++ (linesT ls ++ (13 :: 10 :: rest))) old fuel pre.length fs = .ok (fs ++ ls) (pre.length + (linesT ls).length + 2)
  | _, _, _, 0, _, _, h, _ => absurd h (by omega)
  | [], pre, fs, n + 1, _, _, _, hf => by
    rw [List.append_nil] at hf
    have hl : lineR (pre ++ (linesT [] ++ (13 :: 10 :: rest))) pre.length = .ok (pre.length + 2) := by
      unfold lineR
      rw [List.drop_left]
      exact lineS_line rest [] pre.length (by simp)
    rw [fieldsR_next]
    unfold nextR
    rw [hl]
    simp only
    rw [if_pos (by simp), if_neg (by rw [hf]; simp)]
    simp [linesT]
  | f :: ls, pre, fs, n + 1, hok, h100, hn, hf => by
    have ho := hok f (by simp)
    simp only [List.length_cons] at h100 hn
    have hl : lineR (pre ++ (linesT (f :: ls) ++ (13 :: 10 :: rest))) pre.length = .ok (pre.length + (lineT f).length + 2) := by
      unfold lineR
      rw [List.drop_left, linesT_cons]
      simp only [List.append_assoc, List.cons_append]
      exact lineS_line _ (lineT f) pre.length (lineT_clean ho)
    have ht : ((pre ++ (linesT (f :: ls) ++ (13 :: 10 :: rest))).drop pre.length).take (pre.length + (lineT f).length + 2 - 2 - pre.length) = lineT f := by
      rw [List.drop_left, linesT_cons, List.append_assoc, List.take_append_of_le_length (by omega), List.take_of_length_le (by omega)]
    have hx : nextR (pre ++ (linesT (f :: ls) ++ (13 :: 10 :: rest))) old pre.length fs = .inr (pre.length + (lineT f).length + 2, fs ++ [f]) := by
      unfold nextR
      rw [hl]
      simp only
      rw [ht, lineX_lineT ho, if_neg lineT_ne, if_neg (by omega), if_neg (by simp)]
    rw [fieldsR_next, hx]
    simp only
    have e : pre ++ (linesT (f :: ls) ++ (13 :: 10 :: rest)) = (pre ++ (lineT f ++ [13, 10])) ++ (linesT ls ++ (13 :: 10 :: rest)) := by rw [linesT_cons]; simp
    have el : pre.length + (lineT f).length + 2 = (pre ++ (lineT f ++ [13, 10])).length := by simp; omega
    rw [e, el, fieldsR_lines old rest ls _ (fs ++ [f]) n (fun g hg => hok g (List.mem_cons_of_mem _ hg)) (by simp; omega) (by omega) (by simpa using hf)]
    rw [linesT_cons]
    simp
    omega
theorem reasonR_line (r : List UInt8) : ∀ (l : List UInt8) (k i : Nat), (∀ b ∈ l, fcB b = true) → k + l.length ≤ 256 → reasonR (l ++ 13 :: 10 :: r) k i = .ok (i + l.length + 2)
  | [], k, i, _, _ => by rw [List.nil_append, reasonR_cr, if_pos rfl]; rfl
  | b :: l, k, i, h, hk => by
    simp only [List.length_cons] at hk
    have hb := h b (by simp)
    have h13 : b ≠ 13 := fun e => by rw [e] at hb; exact absurd hb (by decide)
    rw [List.cons_append, reasonR_go _ _ _ _ h13 (fun e => e.elim (fun e => by omega) (fun e => by rw [hb] at e; cases e)), reasonR_line r l (k + 1) (i + 1) (fun c hc => h c (List.mem_cons_of_mem _ hc)) (by omega)]
    simp only [List.length_cons]
    congr 1; omega
theorem preR_head (a b c : UInt8) (r : List UInt8) (ha : decide (49 ≤ a.toNat ∧ a.toNat ≤ 53) = true) (hb : isDig b = true) (hc : isDig c = true) : preR (verT ++ (49 :: 32 :: a :: b :: c :: 32 :: r)) 13 0 = .ok 13 := by
  unfold verT
  simp only [List.cons_append, List.nil_append]
  rw [preR_ok (b := 72) rfl (by decide), preR_ok (b := 84) rfl (by decide), preR_ok (b := 84) rfl (by decide), preR_ok (b := 80) rfl (by decide), preR_ok (b := 47) rfl (by decide), preR_ok (b := 49) rfl (by decide), preR_ok (b := 46) rfl (by decide),
    preR_ok (b := 49) rfl (by decide), preR_ok (b := 32) rfl (by decide), preR_ok (b := a) rfl (by unfold stB; simpa using ha), preR_ok (b := b) rfl (by unfold stB; simpa using hb), preR_ok (b := c) rfl (by unfold stB; simpa using hc), preR_ok (b := 32) rfl (by decide)]
  rfl
theorem dgB_dig : ∀ k, k < 10 → isDig (dgB k) = true ∧ (dgB k).toNat = 48 + k := by decide
theorem itoa3 {s : Int} (h1 : 100 ≤ s) (h2 : s ≤ 599) : ∃ a b c : Nat, a < 6 ∧ 1 ≤ a ∧ b < 10 ∧ c < 10 ∧ s = 100 * a + 10 * b + c ∧ Go.Lib.itoa s = [dgB a, dgB b, dgB c] := by
  refine ⟨s.toNat / 100, s.toNat / 10 % 10, s.toNat % 10, by omega, by omega, by omega, by omega, by omega, ?_⟩
  unfold Go.Lib.itoa
  rw [if_neg (by omega), dec_three (by omega) (by omega)]
theorem reason_chars (s : Int) : ∀ b ∈ reasonB s, fcB b = true := by
  have key : ∀ (t : List (Int × List UInt8)) (d : List UInt8), (∀ p ∈ t, ∀ b ∈ p.2, fcB b = true) → (∀ b ∈ d, fcB b = true) → ∀ b ∈ ((look t s).getD d), fcB b = true := fun t d h hd => by
    unfold look
    cases hf : t.find? (fun p => p.1 == s) with
    | none => exact hd
    | some p => exact h p (List.mem_of_find?_eq_some hf)
  exact key _ _ (by decide) (key _ _ (by decide) (key _ _ (by decide) (by simp)))
/-- A HEAD THAT IS WRITTEN IS READ. -/
theorem headO_print {st : Int} {re : List UInt8} {ls : List Fld} (h1 : 100 ≤ st) (h2 : st ≤ 599) (hre : ∀ b ∈ re, fcB b = true) (hrl : re.length ≤ 256) (hok : ∀ f ∈ ls, okL f) (hl : ls.length ≤ 100) (hf : (framingA ls false).2.2 = 0) :
    headO (verT ++ ([49, 32] ++ (Go.Lib.itoa st ++ ([32] ++ (re ++ ([13, 10] ++ (linesT ls ++ [13, 10]))))))) =
      some (⟨1, st, re, ls, [], [], (framingA ls false).1, (framingA ls false).2.1, persistA ls false⟩, ((verT ++ ([49, 32] ++ (Go.Lib.itoa st ++ ([32] ++ (re ++ ([13, 10] ++ (linesT ls ++ [13, 10]))))))).length : Int), 0) := by
  obtain ⟨a, b, c, ha6, ha1, hb, hc, hs, hi⟩ := itoa3 h1 h2
  rw [hi]
  obtain ⟨da, na⟩ := dgB_dig a (by omega)
  obtain ⟨db, nb⟩ := dgB_dig b hb
  obtain ⟨dc, nc⟩ := dgB_dig c hc
  obtain ⟨t, ht⟩ : ∃ t, verT ++ ([49, 32] ++ ([dgB a, dgB b, dgB c] ++ ([32] ++ (re ++ ([13, 10] ++ (linesT ls ++ [13, 10])))))) = t := ⟨_, rfl⟩
  have hpre : preR t 13 0 = .ok 13 := by
    rw [← ht]
    exact preR_head _ _ _ _ (by rw [na]; simp; omega) db dc
  have hdrop : t.drop 13 = re ++ 13 :: 10 :: (linesT ls ++ [13, 10]) := by rw [← ht]; rfl
  have hst : stR t = .ok (15 + re.length) := by
    rw [stR_ok hpre, hdrop, reasonR_line _ _ _ _ hre (by omega)]
    congr 1; omega
  have g7 : dg t 7 = 1 := by rw [← ht]; rfl
  have g9 : dg t 9 = a := by
    have : t[9]? = some (dgB a) := by rw [← ht]; rfl
    unfold dg; rw [this, Option.getD_some, na]; omega
  have g10 : dg t 10 = b := by
    have : t[10]? = some (dgB b) := by rw [← ht]; rfl
    unfold dg; rw [this, Option.getD_some, nb]; omega
  have g11 : dg t 11 = c := by
    have : t[11]? = some (dgB c) := by rw [← ht]; rfl
    unfold dg; rw [this, Option.getD_some, nc]; omega
  obtain ⟨pre, hp⟩ : ∃ pre, verT ++ ([49, 32] ++ ([dgB a, dgB b, dgB c] ++ ([32] ++ (re ++ [13, 10])))) = pre := ⟨_, rfl⟩
  have hpl : pre.length = 15 + re.length := by rw [← hp]; simp [verT]; omega
  have htp : t = pre ++ (linesT ls ++ (13 :: 10 :: [])) := by rw [← ht, ← hp]; simp
  have hll : ls.length ≤ (linesT ls).length := by
    have : ∀ l : List Fld, l.length ≤ (linesT l).length := fun l => by
      induction l with
      | nil => simp
      | cons f l ih => rw [linesT_cons]; simp; omega
    exact this ls
  have htl : t.length = pre.length + (linesT ls).length + 2 := by rw [htp]; simp; omega
  have hfr : fieldsR t false (t.length + 1) (15 + re.length) [] = .ok ls t.length := by
    rw [htl, htp, ← hpl]
    have := fieldsR_lines false [] ls pre [] (pre.length + (linesT ls).length + 2 + 1) hok (by simpa using hl) (by omega) (by simpa using hf)
    rw [this]; simp
  have hre2 : (t.drop 13).take (15 + re.length - 2 - 13) = re := by
    rw [hdrop, List.take_append_of_le_length (by omega), List.take_of_length_le (by omega)]
  rw [ht]
  unfold headO
  rw [hst]
  simp only
  rw [g7, g9, g10, g11, show decide ((1 : Int) = 0) = false from rfl, hfr]
  simp only
  rw [hre2, hs]
/-! ### What fields say, that a response is written with -/
theorem allB_app (a b : List Fld) (n : List UInt8) : allB (a ++ b) n = allB a n ++ allB b n := by simp [allB]
theorem allB_none {l : List Fld} {n : List UInt8} (h : ∀ f ∈ l, lowEq f.name n = false) : allB l n = [] := by
  unfold allB
  rw [List.filter_eq_nil_iff.2 (fun f hf => by rw [h f hf]; simp)]; rfl
theorem cut_token : ∀ (s acc : List UInt8), (∀ b ∈ s, b ≠ 44 ∧ b ≠ 34) → cut acc s = some [acc ++ s]
  | [], acc, _ => by rw [cut_nil, List.append_nil]
  | c :: r, acc, h => by
    obtain ⟨h1, h2⟩ := h c (by simp)
    rw [cut_plain _ _ _ h1 h2, cut_token r (acc ++ [c]) (fun b hb => h b (List.mem_cons_of_mem _ hb))]
    simp
theorem listB_token {s : List UInt8} (h : ∀ b ∈ s, b ≠ 44 ∧ b ≠ 34) (h2 : trimB s = s) (h3 : s ≠ []) : listB s = some [s] := by
  unfold listB
  rw [cut_token s [] h, List.nil_append]
  show some (keepB [s]) = _
  unfold keepB
  cases s with
  | nil => exact absurd rfl h3
  | cons a r => simp [h2]
theorem trim_digs {s : List UInt8} (h : ∀ b ∈ s, blankB b = false) : trimB s = s := by
  unfold trimB Lib.trimS Lib.trimRightS Lib.trimLeftS
  have key : ∀ l : List UInt8, (∀ b ∈ l, blankB b = false) → l.dropWhile (fun x => ([32, 9] : List UInt8).contains x) = l := fun l hl => by
    cases l with
    | nil => rfl
    | cons a l =>
      rw [List.dropWhile_cons, if_neg]
      have := hl a (by simp)
      unfold blankB at this
      simpa using this
  rw [key s.reverse (fun b hb => h b (List.mem_reverse.1 hb)), List.reverse_reverse, key s h]
theorem dec_chars (u : Nat) : ∀ b ∈ decDigits u, isDig b = true := by
  induction u using Nat.strongRecOn with
  | _ u ih =>
    by_cases h : u < 10
    · rw [dec_small h]
      intro b hb
      simp at hb
      subst hb
      exact (dgB_dig u h).1
    · rw [dec_big h]
      intro b hb
      rcases List.mem_append.1 hb with hb | hb
      · exact ih (u / 10) (by omega) b hb
      · simp at hb
        subst hb
        exact (dgB_dig _ (Nat.mod_lt _ (by omega))).1
theorem dig_clean : ∀ n, n < 256 → isDig (UInt8.ofNat n) = true → UInt8.ofNat n ≠ 44 ∧ UInt8.ofNat n ≠ 34 ∧ blankB (UInt8.ofNat n) = false := by decide
theorem dig_clean' {b : UInt8} (h : isDig b = true) : b ≠ 44 ∧ b ≠ 34 ∧ blankB b = false := by
  have := dig_clean b.toNat b.toNat_lt
  rw [u8_ofNat] at this
  exact this h
theorem dec_ne (u : Nat) : decDigits u ≠ [] := by
  obtain ⟨c, r, h, _⟩ := dec_head u
  rw [h]; simp
theorem list_dec (u : Nat) : listB (decDigits u) = some [decDigits u] :=
  listB_token (fun b hb => ⟨(dig_clean' (dec_chars u b hb)).1, (dig_clean' (dec_chars u b hb)).2.1⟩) (trim_digs fun b hb => (dig_clean' (dec_chars u b hb)).2.2) (dec_ne u)
theorem decA_dec (u : Nat) (h : u ≤ 1099511627776) : decA (decDigits u) = u := by
  have := numAns_back u 0 1099511627776 (by omega)
  rw [List.replicate_zero, List.nil_append, if_neg (by omega)] at this
  unfold decA
  rw [this]; rfl
theorem lengthA_none {l : List Fld} (h : allB l nCL = []) : lengthA l = (0, false, 0) := by unfold lengthA; rw [if_pos h]
theorem lengthA_one {l : List Fld} {u : Nat} (h : allB l nCL = [decDigits u]) (hu : u ≤ 1099511627776) : lengthA l = ((u : Int), true, 0) := by
  unfold lengthA
  rw [if_neg (by rw [h]; simp), h]
  have : listsB [decDigits u] = some [decDigits u] := by
    unfold listsB
    rw [list_dec]; rfl
  rw [this]
  simp only
  rw [decA_dec u hu, if_neg]
  simp
theorem codingsA_none {l : List Fld} (h : allB l nTE = []) : codingsA l = ([], false, 0) := by unfold codingsA; rw [if_pos h]
theorem toksA_one {l : List Fld} {n v : List UInt8} (h : allB l n = [v]) (h1 : tokB v = true) (h2 : ∀ b ∈ v, b ≠ 44 ∧ b ≠ 34) (h3 : trimB v = v) (h4 : low v = v) (h5 : v ≠ []) : toksA l n = ([v], 0) := by
  have hv := listB_token h2 h3 h5
  unfold toksA
  have : listsB [v] = some [v] := by
    unfold listsB
    rw [hv]; rfl
  rw [h, this]
  simp only
  rw [if_pos (by simpa using h1)]
  simp [h4]
theorem toksA_none {l : List Fld} {n : List UInt8} (h : allB l n = []) : toksA l n = ([], 0) := by
  unfold toksA
  rw [h]; rfl
theorem codingsA_one {l : List Fld} (h : allB l nTE = [vChunked]) : codingsA l = ([vChunked], true, 0) := by
  have := toksA_one h (by decide) (by decide) (by decide) (by decide) (by decide)
  unfold codingsA
  rw [if_neg (by rw [h]; simp), this]; rfl
theorem persistA_none {l : List Fld} (h : allB l nCO = []) : persistA l false = true := by
  unfold persistA
  rw [toksA_none h]; rfl
theorem persistA_close {l : List Fld} (h : allB l nCO = [vClose]) : persistA l false = false := by
  have := toksA_one h (by decide) (by decide) (by decide) (by decide) (by decide)
  unfold persistA
  rw [this]; decide
theorem persistA_keep {l : List Fld} (h : allB l nCO = [vKeep]) : persistA l false = true := by
  have := toksA_one h (by decide) (by decide) (by decide) (by decide) (by decide)
  unfold persistA
  rw [this]; decide
section
variable {r : Resp} {h : Mann}
/-- What is right with a response and a manner. -/
structure RightM (r : Resp) (h : Mann) : Prop where
  st : 100 ≤ r.status ∧ r.status ≤ 599
  re : r.reason.length ≤ 256 ∧ fldB r.reason = true
  cl : ∀ f ∈ r.fields, lowEq f.name nCL = false
  te : ∀ f ∈ r.fields, lowEq f.name nTE = false
  co : r.status ≠ 101 → ∀ f ∈ r.fields, lowEq f.name nCO = false
  nv : neverS r.status = true → r.body = [] ∧ h.chunked = false
  ch : h.chunked = true → h.old = false
  pl : h.chunked = false → h.sizes = [] ∧ h.trailers = []
theorem rightM (hw : wrongM r h = 0) : RightM r h := by
  unfold wrongM at hw
  by_cases h1 : r.status < 100 ∨ 599 < r.status
  · rw [if_pos h1] at hw; simp at hw
  rw [if_neg h1] at hw
  by_cases h2 : 256 < r.reason.length ∨ fldB r.reason = false
  · rw [if_pos h2] at hw; simp at hw
  rw [if_neg h2] at hw
  by_cases h3 : (r.fields.any (framedB r.status)) = true
  · rw [if_pos h3] at hw; simp at hw
  rw [if_neg h3] at hw
  split at hw
  · simp at hw
  rename_i h4
  rw [Bool.not_eq_true, List.any_eq_false] at h3
  have hfr : ∀ f ∈ r.fields, lowEq f.name nCL = false ∧ lowEq f.name nTE = false ∧ (r.status ≠ 101 → lowEq f.name nCO = false) := fun f hf => by
    have := h3 f hf
    unfold framedB at this
    cases e1 : lowEq f.name nCL
    · cases e2 : lowEq f.name nTE
      · refine ⟨rfl, rfl, fun hn => ?_⟩
        cases e3 : lowEq f.name nCO
        · rfl
        · rw [e1, e2, e3] at this; simp [hn] at this
      · rw [e1, e2] at this; simp at this
    · rw [e1] at this; simp at this
  simp only [Bool.or_eq_true, Bool.and_eq_true, decide_eq_true_eq, Bool.not_eq_true'] at h4
  refine ⟨by omega, ⟨by omega, ?_⟩, fun f hf => (hfr f hf).1, fun f hf => (hfr f hf).2.1, fun hn f hf => (hfr f hf).2.2 hn, fun hn => ?_, fun hc => ?_, fun hc => ?_⟩
  · cases e : fldB r.reason
    · exact absurd (.inr e) h2
    · rfl
  · constructor
    · refine Classical.byContradiction fun e => h4 (.inl ⟨hn, .inl e⟩)
    · cases e : h.chunked
      · rfl
      · exact absurd (.inl ⟨hn, .inr e⟩) h4
  · cases e : h.old
    · rfl
    · exact absurd (.inr (.inl ⟨hc, e⟩)) h4
  · constructor
    · exact Classical.byContradiction fun e => h4 (.inr (.inr ⟨hc, .inl e⟩))
    · exact Classical.byContradiction fun e => h4 (.inr (.inr ⟨hc, .inr e⟩))
theorem itoa_nonneg' (u : Nat) : Go.Lib.itoa (u : Int) = decDigits u := by unfold Go.Lib.itoa; rw [if_neg (by omega)]; simp
theorem lowEq_names : lowEq nTE nCL = false ∧ lowEq nCO nCL = false ∧ lowEq nCL nTE = false ∧ lowEq nCO nTE = false ∧ lowEq nCL nCO = false ∧ lowEq nTE nCO = false ∧ lowEq nCL nCL = true ∧ lowEq nTE nTE = true ∧ lowEq nCO nCO = true := by decide
theorem allB_single (n v m : List UInt8) : allB [⟨n, v⟩] m = if lowEq n m = true then [v] else [] := by
  unfold allB
  rw [List.filter_cons]
  split <;> simp
theorem moreY_cases (r : Resp) (h : Mann) : (moreY r h = [⟨nCO, vClose⟩] ∧ h.close = true ∧ 199 < r.status) ∨ (moreY r h = [⟨nCO, vKeep⟩] ∧ h.close = false ∧ 199 < r.status) ∨ (moreY r h = [] ∧ (199 < r.status → h.close = false)) := by
  by_cases h1 : 199 < r.status
  · cases hc : h.close with
    | true => exact .inl ⟨moreY_c h1 hc, rfl, h1⟩
    | false =>
      cases ho : h.old with
      | true => exact .inr (.inl ⟨moreY_o h1 hc ho, rfl, h1⟩)
      | false => exact .inr (.inr ⟨moreY_n hc ho, fun _ => rfl⟩)
  · exact .inr (.inr ⟨moreY_s h1, fun e => absurd e h1⟩)
theorem moreY_all (r : Resp) (h : Mann) : allB (moreY r h) nCL = [] ∧ allB (moreY r h) nTE = [] := by
  obtain ⟨_, n2, _, n4, _⟩ := lowEq_names
  rcases moreY_cases r h with ⟨e, _⟩ | ⟨e, _⟩ | ⟨e, _⟩ <;> rw [e]
  · rw [allB_single, allB_single, n2, n4]; exact ⟨rfl, rfl⟩
  · rw [allB_single, allB_single, n2, n4]; exact ⟨rfl, rfl⟩
  · exact ⟨rfl, rfl⟩
/-- How the fields frame the body, as they are read. -/
theorem more_framing (hR : RightM r h) (hb : r.body.length ≤ 1099511627776) : framingA (moreM r h) false = (if h.chunked = true then 2 else if neverS r.status = true then 0 else 1, if h.chunked = false ∧ neverS r.status = false then (r.body.length : Int) else 0, 0) := by
  obtain ⟨n1, n2, n3, n4, n5, n6, n7, n8, n9⟩ := lowEq_names
  obtain ⟨y1, y2⟩ := moreY_all r h
  rw [moreM_eq]
  cases hc : h.chunked with
  | true =>
    have eX := moreX_c (r := r) hc
    have c1 : allB (r.fields ++ (moreX r h ++ moreY r h)) nCL = [] := by rw [allB_app, allB_app, allB_none hR.cl, eX, allB_single, n1, y1]; rfl
    have c2 : allB (r.fields ++ (moreX r h ++ moreY r h)) nTE = [vChunked] := by rw [allB_app, allB_app, allB_none hR.te, eX, allB_single, n8, y2]; rfl
    rw [framing_of (codingsA_one c2) (lengthA_none c1)]
    simp
  | false =>
    cases hn : neverS r.status with
    | true =>
      have eX := moreX_n hc hn
      have c1 : allB (r.fields ++ (moreX r h ++ moreY r h)) nCL = [] := by rw [allB_app, allB_app, allB_none hR.cl, eX, y1]; rfl
      have c2 : allB (r.fields ++ (moreX r h ++ moreY r h)) nTE = [] := by rw [allB_app, allB_app, allB_none hR.te, eX, y2]; rfl
      rw [framing_of (codingsA_none c2) (lengthA_none c1)]
      simp
    | false =>
      have eX := moreX_l hc hn
      have c1 : allB (r.fields ++ (moreX r h ++ moreY r h)) nCL = [decDigits r.body.length] := by rw [allB_app, allB_app, allB_none hR.cl, eX, allB_single, n7, y1, itoa_nonneg']; rfl
      have c2 : allB (r.fields ++ (moreX r h ++ moreY r h)) nTE = [] := by rw [allB_app, allB_app, allB_none hR.te, eX, allB_single, n3, y2]; rfl
      rw [framing_of (codingsA_none c2) (lengthA_one c1 hb)]
      simp
theorem more_persist (hR : RightM r h) (hs : 199 < r.status) : persistA (moreM r h) false = !h.close := by
  obtain ⟨n1, n2, n3, n4, n5, n6, n7, n8, n9⟩ := lowEq_names
  have hx : allB (moreX r h) nCO = [] := by
    cases hc : h.chunked with
    | true => rw [moreX_c hc, allB_single, n6]; rfl
    | false =>
      cases hn : neverS r.status with
      | true => rw [moreX_n hc hn]; rfl
      | false => rw [moreX_l hc hn, allB_single, n5]; rfl
  have h0 := hR.co (by omega)
  rw [moreM_eq]
  rcases moreY_cases r h with ⟨e, e2, _⟩ | ⟨e, e2, _⟩ | ⟨e, e2⟩
  · rw [e2, persistA_close]; rfl
    rw [allB_app, allB_app, allB_none h0, hx, e, allB_single, n9]; rfl
  · rw [e2, persistA_keep]; rfl
    rw [allB_app, allB_app, allB_none h0, hx, e, allB_single, n9]; rfl
  · rw [e2 hs, persistA_none]; rfl
    rw [allB_app, allB_app, allB_none h0, hx, e]; rfl
end
end Go.Proofs.YtcdkcaocfioigaaGreatDoor

set_option linter.unusedVariables false
set_option linter.unnecessarySimpa false
set_option linter.unusedSimpArgs false
set_option linter.unusedSectionVars false
set_option maxRecDepth 100000
namespace Go.Proofs.YtcdkcaocfioigaaGreatDoor
open Go Go.RowKit Go.Proofs

theorem printF_ok {l : List Fld} (h : (printF l).2 = 0) : (printF l).1 = linesT l ∧ l.length ≤ 100 ∧ ∀ f ∈ l, okL f := by
  unfold printF at h ⊢
  by_cases h1 : 100 < l.length
  · rw [if_pos h1] at h; simp at h
  rw [if_neg h1] at h ⊢
  cases hf : l.find? (fun f => decide ((lineP f).2 ≠ 0)) with
  | some f =>
    rw [hf] at h
    have := List.find?_some hf
    simp only [decide_eq_true_eq] at this
    exact absurd h this
  | none =>
    rw [List.find?_eq_none] at hf
    exact ⟨rfl, by omega, fun f hm => okL_iff.1 (by have := hf f hm; simpa using this)⟩
/-- The reply that a head that is written says. -/
def repP (r : Resp) (h : Mann) : Rep := ⟨1, r.status, if r.reason = [] then reasonB r.status else r.reason, moreM r h, [], [], (framingA (moreM r h) false).1, (framingA (moreM r h) false).2.1, persistA (moreM r h) false⟩
theorem head_read {r : Resp} {h : Mann} (h0 : (headP r h).2 = 0) (h1 : (headP r h).1.length ≤ 65536) (hb : r.body.length ≤ 1099511627776) (u : List UInt8) : RightM r h ∧ headM ((headP r h).1 ++ u) = (repP r h, ((headP r h).1.length : Int), 0) := by
  by_cases hw : wrongM r h = 0
  rotate_left
  · unfold headP at h0; rw [if_pos hw] at h0; exact absurd h0 hw
  by_cases hp : (printF (moreM r h)).2 = 0
  rotate_left
  · rw [headP_bad hw hp] at h0; exact absurd h0 hp
  have hR := rightM hw
  obtain ⟨p1, p2, p3⟩ := printF_ok hp
  have hA := headP_ok hw hp
  rw [p1] at hA
  have hfr := more_framing hR hb
  have hre : (∀ b ∈ (if r.reason = [] then reasonB r.status else r.reason), fcB b = true) ∧ (if r.reason = [] then reasonB r.status else r.reason).length ≤ 256 := by
    split
    · exact ⟨reason_chars _, by have := reason_len r.status; omega⟩
    · exact ⟨fun b hb => List.all_eq_true.1 hR.re.2 b hb, hR.re.1⟩
  have hO := headO_print (ls := moreM r h) hR.st.1 hR.st.2 hre.1 hre.2 p3 p2 (by rw [hfr])
  have hd : (headP r h).1 = verT ++ ([49, 32] ++ (Go.Lib.itoa r.status ++ ([32] ++ ((if r.reason = [] then reasonB r.status else r.reason) ++ ([13, 10] ++ (linesT (moreM r h) ++ [13, 10])))))) := by rw [hA]
  rw [← hd] at hO
  have hM : headM (headP r h).1 = (repP r h, ((headP r h).1.length : Int), 0) := by
    rw [headM_eq, List.take_of_length_le h1, hO]; rfl
  exact ⟨hR, by rw [headM_ext u (by rw [hM]; show (0 : Int) ≠ 124; decide), hM]⟩
theorem bodyless_never {m : List UInt8} {s : Int} (h : bodylessB m s = false) : neverS s = false := by
  unfold bodylessB at h
  rw [Bool.or_eq_false_iff, Bool.or_eq_false_iff] at h
  exact h.1.1
theorem never_200 {s : Int} (h : neverS s = false) (h1 : 100 ≤ s) : 199 < s := by
  refine Classical.byContradiction fun hn => ?_
  unfold neverS at h
  rw [decide_eq_true h1, decide_eq_true (show s ≤ 199 by omega)] at h
  cases h
section
variable (E : Env) (H : Hp) (Q : AV → Hp → Prop)
end
end Go.Proofs.YtcdkcaocfioigaaGreatDoor

set_option linter.unusedVariables false
set_option linter.unnecessarySimpa false
set_option linter.unusedSimpArgs false
set_option linter.unusedSectionVars false
set_option maxRecDepth 100000
namespace Go.Proofs.YtcdkcaocfioigaaGreatDoor
open Go Go.RowKit Go.Proofs

/-! ### Two boxes, one behind the other -/
@[irreducible] def put2 (H : Hp) (c : Nat) (a b : List AV) : Hp := (H.set c a).set (c + 1) b
@[simp] theorem put2_len (H : Hp) (c : Nat) (a b : List AV) : (put2 H c a b).length = H.length := by unfold put2; simp
section
variable {H : Hp} {c : Nat} (h : c + 1 < H.length)
include h
theorem p2a (a b : List AV) : (put2 H c a b)[c]? = some a := by
  unfold put2; rw [List.getElem?_set_ne (by omega), List.getElem?_set_self (by omega)]
theorem p2b (a b : List AV) : (put2 H c a b)[c + 1]? = some b := by
  unfold put2; rw [List.getElem?_set_self (by simpa using h)]
theorem p2aJ (a b : List AV) (J : Hp) : (put2 H c a b ++ J)[c]? = some a := by rw [List.getElem?_append_left (by simp; omega), p2a h]
theorem p2bJ (a b : List AV) (J : Hp) : (put2 H c a b ++ J)[c + 1]? = some b := by rw [List.getElem?_append_left (by simp; omega), p2b h]
theorem p2sa (a b x : List AV) : (put2 H c a b).set c x = put2 H c x b := by
  unfold put2; rw [List.set_comm _ _ (show c + 1 ≠ c by omega), List.set_set]
theorem p2sb (a b x : List AV) : (put2 H c a b).set (c + 1) x = put2 H c a x := by
  unfold put2; rw [List.set_set]
theorem p2saJ (a b x : List AV) (J : Hp) : (put2 H c a b ++ J).set c x = put2 H c x b ++ J := by rw [List.set_append_left _ _ (by simp; omega), p2sa h]
theorem p2sbJ (a b x : List AV) (J : Hp) : (put2 H c a b ++ J).set (c + 1) x = put2 H c a x ++ J := by rw [List.set_append_left _ _ (by simp; omega), p2sb h]
end
theorem put2_bnd {H : Hp} {c n : Nat} {a b a' b' : List AV} (hc : c + 1 < H.length) (hB : BndH n (put2 H c a b)) (ha : ∀ x ∈ a', Bnd n x) (hb : ∀ x ∈ b', Bnd n x) : BndH n (put2 H c a' b') := by
  intro l hl x hx
  obtain ⟨j, hj⟩ := List.getElem?_of_mem hl
  by_cases h1 : j = c
  · subst h1; rw [p2a hc] at hj; cases hj; exact ha x hx
  · by_cases h2 : j = c + 1
    · subst h2; rw [p2b hc] at hj; cases hj; exact hb x hx
    · have : (put2 H c a b)[j]? = some l := by
        unfold put2 at hj ⊢
        rw [List.getElem?_set_ne (Ne.symm h2), List.getElem?_set_ne (Ne.symm h1)] at hj ⊢
        exact hj
      exact hB l (List.mem_of_getElem? this) x hx
theorem aPost_put2 {P : Program} {rs : List ResultVar} {Q : AV → Hp → Prop} {fr : List AV} {H J : Hp} {v0 v : AV} {c : Nat} {a b a' b' : List AV} (hc : c + 1 < H.length) (hB : BndH (put2 H c a b).length (put2 H c a b)) (h1 : ares P fr (put2 H c a' b' ++ J) rs = some v0) (h2 : nilV v0 v)
    (ha : ∀ x ∈ a', Bnd H.length x) (hb : ∀ x ∈ b', Bnd H.length x) (h5 : Bnd H.length v) (h6 : Q v (put2 H c a' b')) : aPost P rs H.length Q .ret fr (put2 H c a' b' ++ J) :=
  aPost_end h1 h2 (by simp) (by rw [put2_len] at hB ⊢; exact put2_bnd hc hB ha hb) (by simpa using h5) h6
theorem aPost_put20 {P : Program} {rs : List ResultVar} {Q : AV → Hp → Prop} {fr : List AV} {H : Hp} {v0 v : AV} {c : Nat} {a b a' b' : List AV} (hc : c + 1 < H.length) (hB : BndH (put2 H c a b).length (put2 H c a b)) (h1 : ares P fr (put2 H c a' b') rs = some v0) (h2 : nilV v0 v)
    (ha : ∀ x ∈ a', Bnd H.length x) (hb : ∀ x ∈ b', Bnd H.length x) (h5 : Bnd H.length v) (h6 : Q v (put2 H c a' b')) : aPost P rs H.length Q .ret fr (put2 H c a' b') := by
  have := aPost_put2 (J := []) (P := P) (rs := rs) (Q := Q) (fr := fr) hc hB (by rw [List.append_nil]; exact h1) h2 ha hb h5 h6
  rwa [List.append_nil] at this
theorem aPost_put2K {P : Program} {rs : List ResultVar} {Q : AV → Hp → Prop} {fr : List AV} {H : Hp} {c : Nat} {a b a' b' : List AV} (hc : c + 1 < H.length) (hB : BndH (put2 H c a b).length (put2 H c a b)) (v : AV) (h1 : ares P fr (put2 H c a' b') rs = some v)
    (ha : ∀ x ∈ a', Bnd H.length x) (hb : ∀ x ∈ b', Bnd H.length x) (h5 : Bnd H.length v) (h6 : Q v (put2 H c a' b')) : aPost P rs H.length Q .ret fr (put2 H c a' b') := aPost_put20 hc hB h1 (nilV_refl _) ha hb h5 h6

/-! ### A reader's boxes -/
def repsA (l : List Rep) : List (List AV) := l.map Rep.avs
@[simp] theorem repsA_length (l : List Rep) : (repsA l).length = l.length := by simp [repsA]
theorem repsA_snoc (l : List Rep) (r : Rep) : repsA l ++ [r.avs] = repsA (l ++ [r]) := by simp [repsA]
theorem bnd_reps {N : Nat} (o k) (l : List Rep) : Bnd N (.sl o k (repsA l)) := .sl _ _ _ fun r hr x hx => by
  obtain ⟨y, _, rfl⟩ := List.mem_map.1 hr
  exact avs_bnd y N x hx
@[simp] theorem bnd_reps' {N : Nat} (l : List Rep) : (∀ r ∈ repsA l, ∀ x ∈ r, Bnd N x) = True := eq_true fun r hr x hx => by
  obtain ⟨y, _, rfl⟩ := List.mem_map.1 hr
  exact avs_bnd y N x hx
def smB (r : RM) : List AV := [.str r.bytes, .int .i64 r.err, .bool r.over, .bool r.ended]
def rmB (c : Nat) (r : RM) : List AV := [.ptr (some (c, 0)), .int .i64 r.most, .sl true 1 (strs r.asked), .sl true 9 (repsA r.done)]
theorem smB_bnd (r : RM) (N : Nat) : ∀ x ∈ smB r, Bnd N x := by simp [smB]
theorem rmB_bnd (r : RM) {c N : Nat} (h : c < N) : ∀ x ∈ rmB c r, Bnd N x := by
  intro x hx
  simp [rmB] at hx
  rcases hx with rfl | rfl | rfl | rfl
  · exact .ptr _ _ h
  · exact .int _ _
  · exact bnd_strs _ _ _
  · exact bnd_reps _ _ _
theorem fieldsR_len {t : List UInt8} {old : Bool} : ∀ (n a : Nat) (fs gs : List Fld) (e : Nat), fs.length ≤ 100 → fieldsR t old n a fs = .ok gs e → gs.length ≤ 100
  | 0, a, fs, gs, e, _, h => by rw [fieldsR] at h; cases h
  | n + 1, a, fs, gs, e, hl, h => by
    rw [fieldsR_next] at h
    cases hx : nextR t old a fs with
    | inl x =>
      rw [hx] at h
      simp only at h
      subst h
      unfold nextR at hx
      cases he : lineR t a with
      | part => rw [he] at hx; cases hx
      | bad i => rw [he] at hx; cases hx
      | ok e' =>
        rw [he] at hx
        simp only at hx
        split at hx
        · split at hx
          · cases hx
          · cases hx; exact hl
        · split at hx
          · cases hx
          · split at hx <;> cases hx
    | inr p =>
      obtain ⟨e', gs'⟩ := p
      rw [hx] at h
      obtain ⟨_, _, _, _, h5, _, h7⟩ := nextR_go hx
      exact fieldsR_len n e' gs' gs e (by rw [h7]; simp; omega) h
theorem headM_fields (s : List UInt8) : (headM s).1.fields.length ≤ 100 ∧ (headM s).1.trailers = [] := by
  rw [headM_eq]
  cases hx : headO (s.take 65536) with
  | none => simp only [Option.getD_none]; split <;> exact ⟨Nat.zero_le _, rfl⟩
  | some x =>
    simp only [Option.getD_some]
    unfold headO at hx
    cases hs : stR (s.take 65536) with
    | part => rw [hs] at hx; cases hx
    | bad i => rw [hs] at hx; cases hx; exact ⟨Nat.zero_le _, rfl⟩
    | ok a =>
      rw [hs] at hx
      simp only at hx
      cases hf : fieldsR (s.take 65536) (decide (dg (s.take 65536) 7 = 0)) ((s.take 65536).length + 1) a [] with
      | part => rw [hf] at hx; cases hx
      | bad n e => rw [hf] at hx; cases hx; exact ⟨Nat.zero_le _, rfl⟩
      | ok fs e => rw [hf] at hx; cases hx; exact ⟨fieldsR_len _ _ _ _ _ (by simp) hf, rfl⟩
theorem parseM_lens {m s : List UInt8} {most : Int} {ended : Bool} (hs : s.length ≤ 1000000000) (hm : most ≤ 9223372036854775807) : (parseM m s most ended).1.fields.length ≤ 1073741824 ∧ (parseM m s most ended).1.trailers.length ≤ 1073741824 := by
  obtain ⟨f1, f2⟩ := headM_fields s
  by_cases h0 : most < 0
  · rw [parseM_neg _ _ _ h0]; exact ⟨Nat.zero_le _, Nat.zero_le _⟩
  by_cases h1 : (headM s).2.2 = 0
  · cases h2 : bodylessB m (headM s).1.status with
    | true => rw [parseM_none _ h0 h1 h2, f2]; exact ⟨by omega, Nat.zero_le _⟩
    | false =>
      obtain ⟨n, hn, _⟩ := headM_rng h1
      rw [parseM_body _ h0 h1 h2 hn]
      have hdl := decodeD_len (s.drop n) most 65536 100 (by rw [List.length_drop]; omega) hm (by decide) (by decide)
      have f2' : (headM s).1.trailers.length ≤ 1073741824 := by rw [f2]; exact Nat.zero_le _
      unfold bodyM
      (repeat' split) <;> first | exact ⟨Nat.zero_le _, Nat.zero_le _⟩ | exact ⟨by simp only; omega, hdl⟩ | exact ⟨by simp only; omega, f2'⟩
  · rw [parseM_bad _ h0 h1]; exact ⟨Nat.zero_le _, Nat.zero_le _⟩
/-- A reader's sizes. -/
def okM (r : RM) : Prop := r.bytes.length + r.done.length ≤ 100000000 ∧ r.asked.length ≤ 64 ∧ (0 ≤ r.most ∧ r.most ≤ 9223372036854775807) ∧ ∀ x ∈ r.done, x.fields.length ≤ 1073741824 ∧ x.trailers.length ≤ 1073741824
def newM (most : Int) : RM := ⟨[], 0, false, false, most, [], []⟩
theorem oneR_none {r : RM} (h : r.bytes = [] ∨ r.over = true) : oneR r = (r, false) := by unfold oneR; rw [if_pos h]
theorem oneR_ask {r : RM} (h : ¬ (r.bytes = [] ∨ r.over = true)) (ha : r.asked = []) : oneR r = ({ r with err := 126 }, false) := by unfold oneR; rw [if_neg h, ha]
theorem oneR_cons {r : RM} {m : List UInt8} {ms : List (List UInt8)} {p : Rep × Int × Int} (h : ¬ (r.bytes = [] ∨ r.over = true)) (ha : r.asked = m :: ms) (hp : parseM m r.bytes r.most r.ended = p) : oneR r =
    if p.2.2 = 124 then (r, false) else if p.2.2 ≠ 0 then ({ r with err := p.2.2 }, false)
    else if interimB p.1.status = true then ({ r with bytes := r.bytes.drop p.2.1.toNat, done := r.done ++ [p.1] }, true)
    else if p.1.persist = false ∨ turnedB m p.1.status = true then ({ r with bytes := [], over := true, asked := ms, done := r.done ++ [p.1] }, true)
    else ({ r with bytes := r.bytes.drop p.2.1.toNat, asked := ms, done := r.done ++ [p.1] }, true) := by
  unfold oneR
  rw [if_neg h, ha]
  simp only
  rw [hp]
theorem oneR_ok {r : RM} (h : okM r) : okM (oneR r).1 := by
  obtain ⟨h1, h2, h3, h4⟩ := id h
  by_cases h0 : r.bytes = [] ∨ r.over = true
  · rw [oneR_none h0]; exact h
  cases ha : r.asked with
  | nil => rw [oneR_ask h0 ha]; exact h
  | cons m ms =>
    have hb : 0 < r.bytes.length := by
      rcases Nat.eq_zero_or_pos r.bytes.length with h | h
      · exact absurd (.inl (List.length_eq_zero_iff.1 h)) h0
      · exact h
    obtain ⟨p, hp⟩ : ∃ p, parseM m r.bytes r.most r.ended = p := ⟨_, rfl⟩
    rw [oneR_cons h0 ha hp]
    have h2' := h2
    rw [ha] at h2'
    simp only [List.length_cons] at h2'
    by_cases g1 : p.2.2 = 124
    · rw [if_pos g1]; exact h
    rw [if_neg g1]
    by_cases g2 : p.2.2 = 0
    · rw [if_neg (by simpa using g2)]
      obtain ⟨n, hn, h17, hl⟩ := parseM_rng (by rw [hp]; exact g2 : (parseM m r.bytes r.most r.ended).2.2 = 0)
      rw [hp] at hn
      have h5 : ∀ x ∈ r.done ++ [p.1], x.fields.length ≤ 1073741824 ∧ x.trailers.length ≤ 1073741824 := fun x hx => by
        rcases List.mem_append.1 hx with hx | hx
        · exact h4 x hx
        · simp at hx
          subst hx
          rw [← hp]
          exact parseM_lens (by omega) h3.2
      split
      · refine ⟨?_, h2, h3, h5⟩
        simp only [List.length_drop, List.length_append, List.length_cons, List.length_nil]; omega
      · split
        · refine ⟨?_, by simp only; omega, h3, h5⟩
          simp only [List.length_nil, List.length_append, List.length_cons]; omega
        · refine ⟨?_, by simp only; omega, h3, h5⟩
          simp only [List.length_drop, List.length_append, List.length_cons, List.length_nil]; omega
    · rw [if_pos g2]; exact h
section
variable (E : Env) (H : Hp) (Q : AV → Hp → Prop)
theorem rnew_pc (most : Int) (hQ1 : 0 ≤ most → Q (.tup [.ptr (some (H.length + 1, 0)), .int .i64 0]) (H ++ [smB (newM most), rmB H.length (newM most)])) (hQ2 : most < 0 → Q (.tup [.ptr none, .int .i64 1]) H) : PC Tryz.prog E 32 [.int .i64 most] H Q := by
  refine pc_enter Tryz.func32 rfl [] [] (by kernel_rfl) (fun hB => ?_)
  by_cases h : most < 0
  · simp [Tryz.ntmps32, Tryz.results32, List.replicate_succ, h]
    exact aPost_same0 hB rfl (nilV_refl _) (by simp) (hQ2 h)
  · simp [Tryz.ntmps32, Tryz.results32, List.replicate_succ, h]
    have hQ := hQ1 (by omega)
    have hbn : BndH (H.length + 2) (H ++ [smB (newM most), rmB H.length (newM most)]) := fun l hl x hx => by
      rcases List.mem_append.1 hl with h' | h'
      · exact (hB l h' x hx).mono (by omega)
      · simp at h'
        rcases h' with rfl | rfl
        · exact smB_bnd _ _ x hx
        · exact rmB_bnd _ (by omega) x hx
    exact ⟨.tup [.ptr (some (H.length + 1, 0)), .int .i64 0], _, H ++ [smB (newM most), rmB H.length (newM most)], H ++ [smB (newM most), rmB H.length (newM most)], [], rfl, nilV_refl _,
      nilH_app H ⟨⟨.inl rfl, .inl rfl, .inl rfl, .inl rfl, trivial⟩, ⟨.inl rfl, .inl rfl, .inr ⟨rfl, true, 1, rfl⟩, .inr ⟨rfl, true, 9, rfl⟩, trivial⟩, trivial⟩,
      (List.append_nil _).symm, by simp, by simpa using hbn, by simp, hQ⟩
variable (c : Nat) (r : RM) (hc : c + 1 < H.length)
include hc
theorem rask_pc (hok : okM r) (m : List UInt8) (hQ1 : 64 ≤ r.asked.length → Q (.int .i64 65) (put2 H c (smB r) (rmB c r))) (hQ2 : r.asked.length < 64 → Q (.int .i64 0) (put2 H c (smB r) (rmB c { r with asked := r.asked ++ [m] }))) :
    PC Tryz.prog E 33 [.ptr (some (c + 1, 0)), .str m] (put2 H c (smB r) (rmB c r)) Q := by
  obtain ⟨h1, h2, h3, _⟩ := hok
  have m1 : r.asked.length + 1 ≤ maxLen := by unfold maxLen; omega
  have m2 : (r.asked.length + 1) * 16 ≤ 140737488355328 := by omega
  refine pc_enter Tryz.func33 rfl [17] [] (by kernel_rfl) (fun hB => ?_)
  by_cases h : 64 ≤ r.asked.length
  · have h' : (64 : Int) ≤ r.asked.length := by omega
    simp [Tryz.ntmps33, Tryz.results33, List.replicate_succ, p2a hc, p2b hc, p2sa hc, p2sb hc, smB, rmB, h']
    exact aPost_put2K hc hB (.int .i64 65) rfl (smB_bnd r _) (rmB_bnd r (by omega)) (by simp) (hQ1 h)
  · have h' : ¬ (64 : Int) ≤ r.asked.length := by omega
    have hsn := strs_snoc r.asked m
    simp [Tryz.ntmps33, Tryz.results33, List.replicate_succ, p2a hc, p2b hc, p2sa hc, p2sb hc, smB, rmB, h', m1, m2, hsn]
    exact aPost_put2K hc hB (.int .i64 0) rfl (smB_bnd r _) (rmB_bnd { r with asked := r.asked ++ [m] } (by omega)) (by simp) (hQ2 (by omega))
theorem serr_pc (hQ : Q (.int .i64 r.err) (put2 H c (smB r) (rmB c r))) : PC Tryz.prog E 63 [.ptr (some (c, 0))] (put2 H c (smB r) (rmB c r)) Q := by
  refine pc_enter Tryz.func63 rfl [] [] (by kernel_rfl) (fun hB => ?_)
  simp [Tryz.ntmps63, Tryz.results63, List.replicate_succ, p2a hc, p2b hc, smB]
  exact aPost_put2K hc hB (.int .i64 r.err) rfl (smB_bnd r _) (rmB_bnd r (by omega)) (by simp) hQ
theorem rerr_pc (hQ : Q (.int .i64 r.err) (put2 H c (smB r) (rmB c r))) : PC Tryz.prog E 36 [.ptr (some (c + 1, 0))] (put2 H c (smB r) (rmB c r)) Q := by
  refine pc_enter Tryz.func36 rfl [] [] (by kernel_rfl) (fun hB => ?_)
  simp [Tryz.ntmps36, Tryz.results36, List.replicate_succ, p2a hc, p2b hc, rmB]
  refine serr_pc E H _ c r hc ?_
  simp
  exact aPost_put2K hc hB (.int .i64 r.err) rfl (smB_bnd r _) (rmB_bnd r (by omega)) (by simp) hQ
end
end Go.Proofs.YtcdkcaocfioigaaGreatDoor

