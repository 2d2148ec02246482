/- The document's walk through a text of chunks. -/
import Derived.Test.YtimhofphmgehgaaDoorChW
set_option linter.unusedVariables false
set_option linter.unnecessarySimpa false
set_option linter.unusedSimpArgs false
set_option linter.unusedSectionVars false
set_option maxRecDepth 100000
namespace Go.Proofs.YtimhofphmgehgaaDoor
open Go Go.RowKit Go.Proofs

section
variable (E : Env) (H : Hp) (Q : AV → Hp → Prop)
def wkInv (m r f : Int) (s : List UInt8) (H : Hp) (fr : List AV) (H' : Hp) : Prop :=
  ∃ (a : Nat) (B : List UInt8), H' = H ++ [[.int .i64 0, .int .i64 0, .bool false, .str [], .nil], [.int .i64 0, .int .i64 0, .bool false, .str B, .nil]] ∧ a ≤ s.length ∧ B.length ≤ a ∧ Fw m r f s (szD m r f B a) a ∧
    ∃ x : Nat → AV, fr = [.str s, .int .i64 m, .int .i64 r, .int .i64 f, x 4, x 5, x 6, x 7, .ptr (some (H.length, 0)), .ptr (some (H.length + 1, 0)), .int .i64 a, x 11, x 12, x 13, x 14, x 15, x 16, x 17, x 18, x 19, x 20, x 21, x 22, x 23, x 24, x 25, x 26, x 27, x 28, x 29, x 30, x 31, x 32, x 33, x 34, x 35, x 36, x 37, x 38, x 39, x 40, x 41, x 42, x 43, x 44, x 45, x 46, x 47, x 48, x 49, x 50, x 51, x 52, x 53, x 54, x 55, x 56, x 57, x 58, x 59, x 60, x 61, x 62, x 63, x 64, x 65, x 66, x 67, x 68, x 69, x 70, x 71, x 72, x 73, x 74, x 75, x 76, x 77, x 78, x 79, x 80, x 81, x 82, x 83, x 84, x 85, x 86, x 87, x 88, x 89, x 90, x 91, x 92, x 93, x 94, x 95, x 96, x 97, x 98, x 99, x 100, x 101, x 102, x 103, x 104, x 105, x 106, x 107, x 108, x 109, x 110, x 111, x 112, x 113, x 114, x 115, x 116, x 117, x 118, x 119, x 120, x 121, x 122, x 123, x 124, x 125, x 126, x 127, x 128, x 129]
def wkInv2 (m r f : Int) (s : List UInt8) (a0 : Nat) (B : List UInt8) (H : Hp) (fr : List AV) (H' : Hp) : Prop :=
  ∃ (i a : Nat), H' = H ++ [[.int .i64 0, .int .i64 0, .bool false, .str [], .nil], [.int .i64 0, .int .i64 0, .bool false, .str B, .nil]] ∧ i ≤ 2 ∧ a = a0 + i ∧ a ≤ s.length ∧ B.length ≤ a ∧ Fw m r f s (phD m r f i B a) a ∧
    ∃ x : Nat → AV, fr = [.str s, .int .i64 m, .int .i64 r, .int .i64 f, x 4, x 5, x 6, x 7, .ptr (some (H.length, 0)), .ptr (some (H.length + 1, 0)), .int .i64 a, x 11, x 12, x 13, x 14, x 15, x 16, x 17, x 18, x 19, x 20, x 21, x 22, x 23, x 24, x 25, x 26, x 27, x 28, x 29, x 30, x 31, x 32, x 33, x 34, x 35, x 36, x 37, x 38, x 39, x 40, x 41, x 42, x 43, x 44, x 45, x 46, x 47, x 48, x 49, x 50, x 51, x 52, x 53, x 54, x 55, x 56, x 57, x 58, x 59, x 60, x 61, x 62, x 63, x 64, x 65, x 66, x 67, x 68, x 69, x 70, x 71, x 72, x 73, x 74, x 75, x 76, x 77, x 78, x 79, x 80, x 81, x 82, x 83, x 84, x 85, x 86, x 87, x 88, x 89, x 90, x 91, x 92, x 93, x 94, x 95, x 96, x 97, x 98, x 99, x 100, x 101, x 102, x 103, x 104, x 105, .sl true 1 (bts [13, 10]), .int .i64 2, .int .i64 i, x 109, x 110, x 111, x 112, x 113, x 114, x 115, x 116, x 117, x 118, x 119, x 120, x 121, x 122, x 123, x 124, x 125, x 126, x 127, x 128, x 129]
set_option maxHeartbeats 4000000 in
theorem walk_pc' (m f : Int) (r : Nat) (s : List UInt8) (hs : s.length ≤ 1000000000) (hm : 0 ≤ m ∧ m ≤ 9223372036854775807)
    (hQ1 : ∀ t e dn B T z, Ends m r f s t e dn B T → (z = .sl false 2 (flds T) ∨ T = [] ∧ z = .nil) → Q (wkA t e dn B z) H) :
    PC Tryd.prog E 54 [.str s, .int .i64 m, .int .i64 r, .int .i64 f] H Q := by
  refine pc_enter Tryd.func54 rfl [] [] (by kernel_rfl) (fun hB => ?_)
  have fin : ∀ (fr : List AV) (J : Hp) (c : List AV) (t : Nat) e dn B T z, Ends m r f s t e dn B T → (z = .sl false 2 (flds T) ∨ T = [] ∧ z = .nil) → aget fr 8 = .ptr (some (H.length, 0)) → aPost Tryd.prog [ResultVar.cell 8 98] H.length Q .ret fr (H ++ [.int .i64 t, .int .i64 e, .bool dn, .str B, z] :: J) := fun fr J c t e dn B T z he hz h8 => by
    have hz1 : z.dis = z ∧ z.free = true ∧ ∀ N, Bnd N z := by
      rcases hz with rfl | ⟨_, rfl⟩
      · exact ⟨rfl, rfl, fun N => bnd_tz T⟩
      · exact ⟨rfl, rfl, fun N => .nil⟩
    refine aPost_same (J := [.int .i64 t, .int .i64 e, .bool dn, .str B, z] :: J) hB (v0 := wkA t e dn B z) ?_ (nilV_refl _) (by simp [wkA, hz1.2.2]) (hQ1 t e dn B T z he hz)
    simp [h8, wkA, hz1.1, hz1.2.1]
  have finN : ∀ (fr : List AV) (J : Hp) (t : Nat) e dn B, Ends m r f s t e dn B [] → aget fr 8 = .ptr (some (H.length, 0)) → aPost Tryd.prog [ResultVar.cell 8 98] H.length Q .ret fr (H ++ [.int .i64 t, .int .i64 e, .bool dn, .str B, .nil] :: J) := fun fr J t e dn B he h8 => fin fr J [] t e dn B [] .nil he (.inr ⟨rfl, rfl⟩) h8
  simp [Tryd.ntmps54, Tryd.results54, List.replicate_succ]
  refine VL_go (wkInv m r f s H) (fun fr _ => s.length - (ai (aget fr 10)).toNat) ⟨0, [], by simp, by omega, by simp, fw_new, fr_intro (by simp)⟩ ?_
  rintro fr H' ⟨a, B, rfl, hal, hBl, hfw, x, rfl⟩
  obtain ⟨n, hn⟩ : ∃ n, run not10 (s.drop a) = n := ⟨_, rfl⟩
  have hnl := run_le not10 (s.drop a)
  rw [hn, List.length_drop] at hnl
  simp
  refine ending_pc E _ _ s a 256 hs hal (by decide) ?_
  by_cases hj : a + n < s.length ∧ n < 256
  · have hea : endAns s a 256 = ((a + n : Nat) : Int) := by unfold endAns; rw [hn, if_pos hj]
    rw [hea]
    obtain ⟨hj, h256⟩ := hj
    obtain ⟨j, hjj⟩ : ∃ j, j = a + n := ⟨_, rfl⟩
    rw [← hjj]
    have hend := endL_snoc s a n (by omega)
    by_cases hz : n = 0
    · rw [if_pos (.inl hz)] at hend
      have h1 := sz_none hfw hj hn h256 hend
      rw [← hjj] at h1
      have e0 : ((j : Int) == a) = true := by simp; omega
      simp [e0]
      refine failed_pc E _ _ 0 0 false B .nil rfl rfl .nil j 100 (by omega) ?_
      simp [wkA, -Int.natCast_add]
      exact finN _ _ _ _ _ _ h1 rfl
    · obtain ⟨j1, hj1⟩ : ∃ j1, j = j1 + 1 := ⟨j - 1, by omega⟩
      have hw3 : IntKind.i64.wrap ((j : Int) - 1) = (j1 : Int) := by rw [wrap_in (by omega) (by omega)]; omega
      have e0 : ((j : Int) == a) = false := by simp; omega
      obtain ⟨c, hc⟩ : ∃ c, s[j1]? = some c := ⟨_, List.getElem?_eq_getElem (by omega)⟩
      have hat := lat_eq hc
      have hj1l : j1 < s.length := by omega
      by_cases h13 : c = 13
      · subst h13
        rw [show a + n - 1 = j1 by omega, if_neg (by rw [hc]; simp; exact hz), show n - 1 = j1 - a by omega] at hend
        obtain ⟨ln, hln⟩ : ∃ ln, (s.drop a).take (j1 - a) = ln := ⟨_, rfl⟩
        have hlnl : ln.length ≤ s.length := by rw [← hln, List.length_take, List.length_drop]; omega
        rw [hln] at hend
        have haj : a ≤ j1 := by omega
        have hjl : j1 ≤ s.length := by omega
        simp [e0, hw3, hat, hj1l, hln, haj, hjl]
        refine dsize_pc E _ _ ln (by simp only [cap]; omega) ?_
        by_cases he : (sizeAns ln).2.2 = 0
        · obtain ⟨N, hN⟩ : ∃ N, (sizeAns ln).1 = N := ⟨_, rfl⟩
          have hrng := sizeAns_rng ln he
          rw [hN] at hrng
          have hw5 : IntKind.i64.wrap (m - (B.length : Int)) = m - B.length := wrap_in (by omega) (by omega)
          by_cases hmu : m - B.length < N
          · have h1 := sz_much hfw hj hn h256 hend he (by rw [hN]; exact hmu)
            rw [← hjj] at h1
            simp [he, hN, hw5, hmu]
            refine failed_pc E _ _ 0 0 false B .nil rfl rfl .nil j 102 (by omega) ?_
            simp [wkA, -Int.natCast_add]
            exact finN _ _ _ _ _ _ h1 rfl
          · have hw4 : IntKind.i64.wrap ((j : Int) + 1) = ((j + 1 : Nat) : Int) := by rw [wrap_in (by omega) (by omega)]; omega
            by_cases hN0 : N = 0
            · have h1 := sz_trail hfw hj hn h256 hend he (by rw [hN]; exact hmu) (by rw [hN]; exact hN0)
              rw [← hjj] at h1
              subst hN0
              simp [he, hN, hw5, hmu, hw4, -Int.natCast_add]
              refine trail_pc E _ _ m f r s (j + 1) B hs (by omega) h1 (fun t e dn T hE => ?_)
              simp [wkA, -Int.natCast_add]
              exact fin _ _ [] _ _ _ _ _ _ hE (.inl rfl) rfl
            · have h1 := sz_data hfw hj hn h256 hend he (by rw [hN]; exact hmu) (by rw [hN]; exact hN0)
              rw [← hjj, hN] at h1
              obtain ⟨k, rfl⟩ : ∃ k : Nat, N = k := ⟨N.toNat, by omega⟩
              have hN2 : ((k : Int) == 0) = false := by simpa using hN0
              obtain ⟨a1, ha1⟩ : ∃ a1, a1 = j + 1 := ⟨_, rfl⟩
              rw [← ha1] at h1 hw4
              have hw6 : IntKind.i64.wrap ((s.length : Int) - a1) = ((s.length - a1 : Nat) : Int) := by rw [wrap_in (by omega) (by omega)]; omega
              have hle1 : a1 ≤ s.length := by omega
              by_cases hlt : s.length - a1 < k
              · have h2 := da_open h1 hle1 (by omega)
                have hlt' : ((s.length - a1 : Nat) : Int) < k := by omega
                have m3 : B.length + (s.length - a1) ≤ maxLen := by unfold maxLen; omega
                simp [he, hN, hw5, hmu, hw4, hN2, hw6, hlt', hle1, m3, -Int.natCast_add]
                exact finN _ _ _ _ _ _ h2 rfl
              · have hlt' : ¬ ((s.length - a1 : Nat) : Int) < k := by omega
                have h2 := da_full h1 (by omega) (by omega)
                obtain ⟨a2, ha2⟩ : ∃ a2, a2 = a1 + k := ⟨_, rfl⟩
                obtain ⟨B2, hB2⟩ : ∃ B2, B ++ (s.drop a1).take k = B2 := ⟨_, rfl⟩
                have hB2l : B2.length ≤ a2 := by rw [← hB2, List.length_append, List.length_take]; omega
                rw [← ha2, hB2] at h2
                have hw7 : IntKind.i64.wrap ((a1 : Int) + k) = a2 := by rw [wrap_in (by omega) (by omega)]; omega
                have hle2 : a1 ≤ a2 := by omega
                have hle3 : a2 ≤ s.length := by omega
                have hsl : (s.drop a1).take (a2 - a1) = (s.drop a1).take k := by rw [show a2 - a1 = k by omega]
                have m4 : B.length + min k (s.length - a1) ≤ maxLen := by unfold maxLen; omega
                simp [he, hN, hw5, hmu, hw4, hN2, hw6, hlt', hle1, hw7, hle2, hle3, hsl, hB2, m4, (by decide : ([0, 1] : List Nat) = List.range 2), -Int.natCast_add]
                refine VL_go (wkInv2 m r f s a2 B2 H) (fun fr _ => 2 - (ai (aget fr 108)).toNat) ⟨0, a2, rfl, by omega, by omega, hle3, hB2l, h2, fr_intro (by simp [bts])⟩ ?_
                rintro fr H' ⟨i, b, rfl, hi, hb, hbl, hBb, hph, y, rfl⟩
                by_cases hi2 : i < 2
                · have hi' : (i : Int) < 2 := by omega
                  have hw8 : IntKind.i64.wrap ((i : Int) + 1) = i + 1 := wrap_in (by omega) (by omega)
                  have hw9 : IntKind.i64.wrap ((b : Int) + 1) = ((b + 1 : Nat) : Int) := by rw [wrap_in (by omega) (by omega)]; omega
                  obtain ⟨q, hq⟩ : ∃ q : UInt8, q = if i = 0 then 13 else 10 := ⟨_, rfl⟩
                  have hrow : lat (bts [13, 10]) i = some [.int .u8 (q.toNat : Int)] := by
                    rcases (by omega : i = 0 ∨ i = 1) with rfl | rfl
                    · simp at hq; subst hq; rfl
                    · simp at hq; subst hq; rfl
                  by_cases hbe : b = s.length
                  · have h3 := ph_open hph hbe
                    have e1 : ((b : Int) == s.length) = true := by simp; omega
                    rw [← hbe] at h3
                    simp [hi', hrow, e1]
                    exact finN _ _ _ _ _ _ h3 rfl
                  · have e1 : ((b : Int) == s.length) = false := by simp; omega
                    obtain ⟨u, hu⟩ : ∃ u, s[b]? = some u := ⟨_, List.getElem?_eq_getElem (by omega)⟩
                    have hatu := lat_eq hu
                    have hbs : b < s.length := by omega
                    by_cases huq : u = q
                    · have h3 := ph_go hi2 hph (by rw [hu, huq, hq])
                      subst huq
                      simp [hi', hrow, e1, hatu, hbs, hw8, hw9, -Int.natCast_add]
                      exact Kloop_normal ⟨i + 1, b + 1, rfl, by omega, by omega, by omega, by omega, h3, fr_intro (by simp)⟩ (by simp; omega)
                    · have h3 := ph_bad hi2 hph hu (by rw [← hq]; exact huq)
                      have e2 : ((u.toNat : Int) == (q.toNat : Int)) = false := by
                        rw [beq_eq_false_iff_ne]
                        intro hh
                        exact huq (UInt8.toNat_inj.1 (by omega))
                      simp [hi', hrow, e1, hatu, hbs, e2, bne]
                      refine failed_pc E _ _ 0 0 false B2 .nil rfl rfl .nil b 100 (by omega) ?_
                      simp [wkA, -Int.natCast_add]
                      exact finN _ _ _ _ _ _ h3 rfl
                · obtain rfl : i = 2 := by omega
                  rw [ph_two] at hph
                  simp
                  exact Kloop_normal ⟨b, B2, rfl, by omega, hBb, hph, fr_intro (by simp)⟩ (by simp; omega)
        · have h1 := sz_bad hfw hj hn h256 hend he
          rw [← hjj] at h1
          have he2 : ((sizeAns ln).2.2 != 0) = true := by simpa using he
          simp [he2]
          refine failed_pc E _ _ 0 0 false B .nil rfl rfl .nil j (sizeAns ln).2.2 (by omega) ?_
          simp [wkA, -Int.natCast_add]
          exact finN _ _ _ _ _ _ h1 rfl
      · rw [show a + n - 1 = j1 by omega, if_pos (.inr (by rw [hc]; simpa using h13))] at hend
        have h1 := sz_none hfw hj hn h256 hend
        rw [← hjj] at h1
        have t1 : ((c.toNat : Int) == 13) = false := byte_ne c 13 (by omega) h13
        simp [e0, hw3, hat, hj1l, t1, bne]
        refine failed_pc E _ _ 0 0 false B .nil rfl rfl .nil j 100 (by omega) ?_
        simp [wkA, -Int.natCast_add]
        exact finN _ _ _ _ _ _ h1 rfl
  · have hea : endAns s a 256 = -1 := by unfold endAns; rw [hn, if_neg hj]
    rw [hea]
    simp
    refine open_pc E _ _ 0 0 false B .nil rfl rfl .nil s a 255 100 hs hal (fun hlt => ?_) (fun hge => ?_)
    · have h1 := sz_over hfw (by omega) (by omega)
      simp [wkA, -Int.natCast_add]
      exact finN _ _ _ _ _ _ h1 rfl
    · have h1 := sz_open hfw hal (by omega) (by omega)
      simp [wkA, -Int.natCast_add]
      exact finN _ _ _ _ _ _ h1 rfl
theorem walk_pc (m f : Int) (r : Nat) (s : List UInt8) (hs : s.length ≤ 1000000000) (hm : 0 ≤ m ∧ m ≤ 9223372036854775807)
    (hQ : ∀ t e dn B T, Ends m r f s t e dn B T → Q (wkA t e dn B (.sl false 2 (flds T))) H) :
    PC Tryd.prog E 54 [.str s, .int .i64 m, .int .i64 r, .int .i64 f] H Q := by
  refine PC.nilD (walk_pc' E H _ m f r s hs hm (fun t e dn B T z hE hz => ?_))
  refine ⟨wkA t e dn B (.sl false 2 (flds T)), ?_, hQ t e dn B T hE⟩
  rcases hz with rfl | ⟨rfl, rfl⟩
  · exact .same _
  · exact NilD_agg (by simp [flds])
end
end Go.Proofs.YtimhofphmgehgaaDoor
