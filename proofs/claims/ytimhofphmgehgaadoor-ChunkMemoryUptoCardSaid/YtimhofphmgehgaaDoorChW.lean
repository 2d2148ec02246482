/- The document's walk through a text of chunks: the trailer section. -/
import Derived.Test.YtimhofphmgehgaaDoorChV
set_option linter.unusedVariables false
set_option linter.unnecessarySimpa false
set_option linter.unusedSimpArgs false
set_option linter.unusedSectionVars false
set_option maxRecDepth 100000
namespace Go.Proofs.YtimhofphmgehgaaDoor
open Go Go.RowKit Go.Proofs

section
variable (E : Env) (H : Hp) (Q : AV → Hp → Prop)
def trInv (m r f : Int) (s : List UInt8) (fm : Nat) (B : List UInt8) (H : Hp) (fr : List AV) (H' : Hp) : Prop :=
  ∃ (J : Hp) (a : Nat) (T : List Fld), H' = H ++ [.int .i64 0, .int .i64 0, .bool false, .str B, .sl true 2 (flds T)] :: [.int .i64 0, .int .i64 0, .bool false, .str [], .nil] :: J ∧ fm ≤ a ∧ a ≤ s.length ∧ ((a - fm : Nat) : Int) ≤ r ∧ T.length ≤ a - fm ∧ Fw m r f s (trD m r f B T (a - fm) a) a ∧
    ∃ x : Nat → AV, fr = [x 0, .str s, .int .i64 fm, .int .i64 r, .int .i64 f, .ptr (some (H.length, 0)), x 6, x 7, x 8, x 9, .ptr (some (H.length + 1, 0)), .int .i64 a, x 12, x 13, x 14, x 15, x 16, x 17, x 18, x 19, x 20, x 21, x 22, x 23, x 24, x 25, x 26, x 27, x 28, x 29, x 30, x 31, x 32, x 33, x 34, x 35, x 36, x 37, x 38, x 39, x 40, x 41, x 42, x 43, x 44, x 45, x 46, x 47, x 48, x 49, x 50, x 51, x 52, x 53, x 54, x 55, x 56, x 57, x 58, x 59, x 60, x 61, x 62, x 63, x 64, x 65, x 66, x 67, x 68, x 69, x 70, x 71, x 72, x 73, x 74, x 75, x 76, x 77, x 78, x 79, x 80, x 81, x 82, x 83, x 84, x 85, x 86, x 87, x 88, x 89, x 90, x 91, x 92, x 93, x 94]
theorem bnd_tz {N : Nat} (T : List Fld) : Bnd N (.sl false 2 (flds T)) := bnd_flds _ _ T
set_option maxHeartbeats 2000000 in
theorem trail_pc (m f : Int) (r : Nat) (s : List UInt8) (fm : Nat) (B : List UInt8) (hs : s.length ≤ 1000000000) (hfm : fm ≤ s.length) (h0 : Fw m r f s (trD m r f B [] 0 fm) fm)
    (hQ : ∀ t e dn T, Ends m r f s t e dn B T → Q (wkA t e dn B (.sl false 2 (flds T))) H) :
    PC Tryd.prog E 84 [wkA 0 0 false B .nil, .str s, .int .i64 fm, .int .i64 r, .int .i64 f] H Q := by
  refine pc_enter Tryd.func84 rfl [88] [] (by kernel_rfl) (fun hB => ?_)
  have fin : ∀ (fr : List AV) (J : Hp) (c : List AV) (t : Nat) e dn T, Ends m r f s t e dn B T → aget fr 10 = .ptr (some (H.length + 1, 0)) → aPost Tryd.prog [ResultVar.cell 10 98] H.length Q .ret fr (H ++ c :: [.int .i64 t, .int .i64 e, .bool dn, .str B, .sl false 2 (flds T)] :: J) := fun fr J c t e dn T he h10 => by
    refine aPost_same (J := c :: [.int .i64 t, .int .i64 e, .bool dn, .str B, .sl false 2 (flds T)] :: J) hB (v0 := wkA t e dn B (.sl false 2 (flds T))) ?_ (nilV_refl _) (by simp [wkA, bnd_tz]) (hQ t e dn T he)
    simp [h10, wkA]
  simp [Tryd.ntmps84, Tryd.results84, List.replicate_succ, wkA]
  refine VL_nilH H.length _ 4 2 (by simp; rfl) (by rfl) ?_
  simp only [List.set_cons_succ, List.set_cons_zero]
  refine VL_go (trInv m r f s fm B H) (fun fr _ => s.length - (ai (aget fr 11)).toNat) ⟨[], fm, [], by simp [flds], by omega, hfm, by omega, by simp, by rw [Nat.sub_self]; exact h0, fr_intro (by simp)⟩ ?_
  rintro fr H' ⟨J, a, T, rfl, ha, hal, har, hT, hfw, x, rfl⟩
  obtain ⟨n, hn⟩ : ∃ n, run not10 (s.drop a) = n := ⟨_, rfl⟩
  have hnl := run_le not10 (s.drop a)
  rw [hn, List.length_drop] at hnl
  simp
  refine ending_pc E _ _ s a s.length hs hal hs ?_
  by_cases hj : a + n < s.length
  · have hea : endAns s a s.length = ((a + n : Nat) : Int) := by unfold endAns; rw [hn, if_pos ⟨hj, by omega⟩]
    rw [hea]
    obtain ⟨j, hjj⟩ : ∃ j, j = a + n := ⟨_, rfl⟩
    rw [← hjj]
    have hw1 : IntKind.i64.wrap ((j : Int) - fm) = ((j - fm : Nat) : Int) := by rw [wrap_in (by omega) (by omega)]; omega
    by_cases hroom : r ≤ j - fm
    · have hr' : (r : Int) ≤ ((j - fm : Nat) : Int) := by omega
      simp [hw1, hr']
      refine open_pc E _ _ 0 0 false B (.sl false 2 (flds T)) rfl rfl (bnd_tz T) s fm r 104 hs hfm (fun hlt => ?_) (fun hge => by omega)
      have h1 := tr_over (k := r - (a - fm)) hfw (by omega) (by omega) (by omega)
      rw [show a + (r - (a - fm)) + 1 = fm + r + 1 by omega] at h1
      simp [wkA, -Int.natCast_add]
      exact fin _ _ _ _ _ _ _ h1 rfl
    · have hr' : ¬ (r : Int) ≤ ((j - fm : Nat) : Int) := by omega
      have hsec : (((a - fm) + n : Nat) : Int) < r := by omega
      have hend := endL_snoc s a n (by omega)
      by_cases hz : n = 0
      · have hja : j = a := by omega
        rw [if_pos (.inl hz)] at hend
        have h1 := tr_none hfw hj hn hsec hend
        rw [← hjj] at h1
        have e0 : ((j : Int) == a) = true := by simp; omega
        simp [hw1, hr', e0]
        refine failed_pc E _ _ 0 0 false B (.sl false 2 (flds T)) rfl rfl (bnd_tz T) j 101 (by omega) ?_
        simp [wkA, -Int.natCast_add]
        exact fin _ _ _ _ _ _ _ h1 rfl
      · obtain ⟨j1, hj1⟩ : ∃ j1, j = j1 + 1 := ⟨j - 1, by omega⟩
        have hw3 : IntKind.i64.wrap ((j : Int) - 1) = (j1 : Int) := by rw [wrap_in (by omega) (by omega)]; omega
        have e0 : ((j : Int) == a) = false := by simp; omega
        obtain ⟨c, hc⟩ : ∃ c, s[j1]? = some c := ⟨_, List.getElem?_eq_getElem (by omega)⟩
        have hat := lat_eq hc
        have hj1l : j1 < s.length := by omega
        by_cases h13 : c = 13
        · subst h13
          rw [show a + n - 1 = j1 by omega, if_neg (by rw [hc]; simp; exact hz), show n - 1 = j1 - a by omega] at hend
          obtain ⟨ln, hln⟩ : ∃ ln, (s.drop a).take (j1 - a) = ln := ⟨_, rfl⟩
          have hlnl : ln.length ≤ s.length := by rw [← hln, List.length_take, List.length_drop]; omega
          rw [hln] at hend
          have haj : a ≤ j1 := by omega
          have hjl : j1 ≤ s.length := by omega
          by_cases hle : ln = []
          · subst hle
            have h1 := tr_done hfw hj hn hsec hend
            have hw4 : IntKind.i64.wrap ((j : Int) + 1) = ((a + n + 1 : Nat) : Int) := by rw [wrap_in (by omega) (by omega)]; omega
            simp [hw1, hr', e0, hw3, hat, hj1l, hln, haj, hjl, hw4, -Int.natCast_add]
            exact fin _ _ _ _ _ _ _ h1 rfl
          · have hle2 : (ln == []) = false := beq_eq_false_iff_ne.2 hle
            by_cases hf : f ≤ T.length
            · have h1 := tr_many hfw hj hn hsec hend hle hf
              rw [← hjj] at h1
              simp [hw1, hr', e0, hw3, hat, hj1l, hln, haj, hjl, hle2, hf]
              refine failed_pc E _ _ 0 0 false B (.sl false 2 (flds T)) rfl rfl (bnd_tz T) j 104 (by omega) ?_
              simp [wkA, -Int.natCast_add]
              exact fin _ _ _ _ _ _ _ h1 rfl
            · simp [hw1, hr', e0, hw3, hat, hj1l, hln, haj, hjl, hle2, hf]
              refine dline_pc E _ _ ln (by simp only [cap]; omega) (fun g hg => ?_) (fun hno pl e he => ?_)
              · have hgn : g.name.length ≤ cap := by
                  unfold lineF at hg
                  split at hg
                  · cases hg
                    simp only [List.length_take, cap]; omega
                  · cases hg
                simp
                refine ref_may_pc E _ _ g.name hgn ?_
                cases hmt : mayB g.name with
                | true =>
                  have h1 := tr_go hfw hj hn hsec hend hle hf hg hmt
                  have hw4 : IntKind.i64.wrap ((j : Int) + 1) = ((j + 1 : Nat) : Int) := by rw [wrap_in (by omega) (by omega)]; omega
                  have m3 : T.length + 1 ≤ maxLen := by unfold maxLen; omega
                  have m4 : (T.length + 1) * 32 ≤ 140737488355328 := by omega
                  simp [m3, m4, flds_snoc, hw4, -Int.natCast_add]
                  refine Kloop_normal ⟨_, j + 1, T ++ [g], by simp; rfl, by omega, by omega, by omega, by simp; omega, ?_, fr_intro (by simp)⟩ (by simp; omega)
                  rw [show a - fm + n + 1 = j + 1 - fm by omega, show a + n + 1 = j + 1 by omega] at h1
                  exact h1
                | false =>
                  have h1 := tr_bad hfw hj hn hsec hend hle hf (.inr ⟨g, hg, hmt⟩)
                  rw [← hjj] at h1
                  simp
                  refine failed_pc E _ _ 0 0 false B (.sl false 2 (flds T)) rfl rfl (bnd_tz T) j 101 (by omega) ?_
                  simp [wkA, -Int.natCast_add]
                  exact fin _ _ _ _ _ _ _ h1 rfl
              · have h1 := tr_bad hfw hj hn hsec hend hle hf (.inl hno)
                rw [← hjj] at h1
                have he2 : (e != 0) = true := by simpa using he
                simp [he2]
                refine failed_pc E _ _ 0 0 false B (.sl false 2 (flds T)) rfl rfl (bnd_tz T) j 101 (by omega) ?_
                simp [wkA, -Int.natCast_add]
                exact fin _ _ _ _ _ _ _ h1 rfl
        · rw [show a + n - 1 = j1 by omega, if_pos (.inr (by rw [hc]; simpa using h13))] at hend
          have h1 := tr_none hfw hj hn hsec hend
          rw [← hjj] at h1
          have t1 : ((c.toNat : Int) == 13) = false := byte_ne c 13 (by omega) h13
          simp [hw1, hr', e0, hw3, hat, hj1l, t1, bne]
          refine failed_pc E _ _ 0 0 false B (.sl false 2 (flds T)) rfl rfl (bnd_tz T) j 101 (by omega) ?_
          simp [wkA, -Int.natCast_add]
          exact fin _ _ _ _ _ _ _ h1 rfl
  · have hea : endAns s a s.length = -1 := by unfold endAns; rw [hn, if_neg (by omega)]
    rw [hea]
    simp
    refine open_pc E _ _ 0 0 false B (.sl false 2 (flds T)) rfl rfl (bnd_tz T) s fm r 104 hs hfm (fun hlt => ?_) (fun hge => ?_)
    · have h1 := tr_over (k := r - (a - fm)) hfw (by omega) (by omega) (by omega)
      rw [show a + (r - (a - fm)) + 1 = fm + r + 1 by omega] at h1
      simp [wkA, -Int.natCast_add]
      exact fin _ _ _ _ _ _ _ h1 rfl
    · have h1 := tr_open hfw hal (by omega) (by omega)
      simp [wkA, -Int.natCast_add]
      exact fin _ _ _ _ _ _ _ h1 rfl
end
end Go.Proofs.YtimhofphmgehgaaDoor
