/- The document's parameters and size lines; ChunkSizes. -/
import Derived.Test.YtimhofphmgehgaaDoorChP
set_option linter.unusedVariables false
set_option linter.unnecessarySimpa false
set_option linter.unusedSimpArgs false
set_option linter.unusedSectionVars false
set_option maxRecDepth 100000
namespace Go.Proofs.YtimhofphmgehgaaDoor
open Go Go.RowKit Go.Proofs

section
variable (E : Env) (H : Hp) (Q : AV → Hp → Prop)
def dParsInv (l : List UInt8) (H : Hp) (fr : List AV) (H' : Hp) : Prop := ∃ (J : Hp) (e : Nat) (out : List Par), H' = H ++ J ∧ e ≤ l.length ∧ out.length ≤ e ∧ parsIs l out e ∧ ∃ x : Nat → AV, fr = [.str l, x 1, x 2, x 3, x 4, .sl true 3 (prs out), .int .i64 e, x 7, x 8, x 9, x 10, x 11, x 12, x 13, x 14, x 15, x 16, x 17, x 18, x 19, x 20, x 21, x 22, x 23, x 24, x 25, x 26, x 27, x 28, x 29, x 30, x 31, x 32, x 33, x 34, x 35, x 36, x 37, x 38, x 39, x 40, x 41, x 42, x 43, x 44, x 45, x 46, x 47, x 48, x 49, x 50, x 51, x 52, x 53, x 54, x 55, x 56, x 57, x 58, x 59, x 60, x 61, x 62, x 63, x 64, x 65, x 66, x 67, x 68, x 69, x 70, x 71, x 72, x 73, x 74, x 75, x 76, x 77, x 78, x 79, x 80, x 81, x 82, x 83, x 84, x 85, x 86, x 87, x 88, x 89, x 90, x 91, x 92]
set_option maxHeartbeats 2000000 in
theorem dparams_pc (l : List UInt8) (hl : l.length ≤ 8388608) (hQ : Q (.tup [.sl false 3 (prs (parAns l).1), .int .i64 (parAns l).2.1, .bool (decide ((parAns l).2.2 = 0))]) H) : PC Tryd.prog E 46 [.str l] H Q := by
  refine pc_enter Tryd.func46 rfl [89] [] (by kernel_rfl) (fun hB => ?_)
  simp [Tryd.ntmps46, Tryd.results46, List.replicate_succ]
  refine VL_nil 5 3 (by rfl) ?_
  simp only [List.set_cons_succ, List.set_cons_zero]
  refine VL_go (dParsInv l H) (fun fr _ => l.length - (ai (aget fr 6)).toNat) ⟨[], 0, [], by simp, by omega, by simp, parsIs_start l, fr_intro (by simp [prs])⟩ ?_
  rintro fr H' ⟨J, e, out, rfl, he, hout, hp, x, rfl⟩
  have hcap : l.length ≤ cap := by simp only [cap]; omega
  have hm : out.length + 1 ≤ maxLen ∧ (out.length + 1) * 40 ≤ 140737488355328 := by unfold maxLen; omega
  have bad : ∀ (fr : List AV) (J' : Hp), parAns l = ([], 0, 15) → aget fr 2 = .nil → aget fr 3 = .int .i64 0 → aget fr 4 = .bool false → aPost Tryd.prog [ResultVar.tmp 2, ResultVar.tmp 3, ResultVar.tmp 4] H.length Q .ret fr (H ++ J') := fun fr J' h0 h2 h3 h4 => by
    rw [h0] at hQ
    exact aPost_same hB (v0 := .tup [.nil, .int .i64 0, .bool false]) (by simp [h2, h3, h4]) (nilV_tup3 3 _ _ rfl rfl) (by simp) hQ
  simp
  refine past_pc E _ _ l e hcap he ?_
  obtain ⟨b, hb⟩ : ∃ n, run blankB (l.drop e) = n := ⟨_, rfl⟩
  have hbl := run_le blankB (l.drop e)
  rw [List.length_drop] at hbl
  rw [hb] at hbl ⊢
  obtain ⟨a, ha⟩ : ∃ a, a = e + b := ⟨_, rfl⟩
  rw [← ha]
  have hcase : l[a]? = some 59 ∨ l[a]? ≠ some 59 := by
    by_cases h : l[a]? = some 59
    · exact .inl h
    · exact .inr h
  rcases hcase with h59 | h59
  · have halt := (List.getElem?_eq_some_iff.1 h59).1
    have t1' : ¬ l.length ≤ a := by omega
    have hat := lat_eq h59
    obtain ⟨a1, ha1⟩ : ∃ a1, a1 = a + 1 := ⟨_, rfl⟩
    have hw2 : IntKind.i64.wrap ((a : Int) + 1) = (a1 : Int) := by rw [wrap_in (by omega) (by omega)]; omega
    simp [t1', hat, hw2]
    refine past_pc E _ _ l a1 hcap (by omega) ?_
    obtain ⟨m, hmm⟩ : ∃ n, run blankB (l.drop a1) = n := ⟨_, rfl⟩
    have hml := run_le blankB (l.drop a1)
    rw [List.length_drop] at hml
    rw [hmm] at hml ⊢
    obtain ⟨a2, ha2⟩ : ∃ a2, a2 = a1 + m := ⟨_, rfl⟩
    rw [← ha2]
    simp
    refine sign_pc E _ _ l a2 hcap (by omega) ?_
    obtain ⟨n, hn⟩ : ∃ n, run signB (l.drop a2) = n := ⟨_, rfl⟩
    have hnl := run_le signB (l.drop a2)
    rw [List.length_drop] at hnl
    rw [hn] at hnl ⊢
    obtain ⟨a3, ha3⟩ : ∃ a3, a3 = a2 + n := ⟨_, rfl⟩
    have hw4 : IntKind.i64.wrap ((a2 : Int) + n) = (a3 : Int) := by rw [wrap_in (by omega) (by omega)]; omega
    have x0 : l[e + b]? = some 59 := by rw [← ha]; exact h59
    have x1 : run blankB (l.drop (e + b + 1)) = m := by rw [← ha, ← ha1]; exact hmm
    have x2 : run signB (l.drop (e + b + 1 + m)) = n := by rw [← ha, ← ha1, ← ha2]; exact hn
    have ee : e + b + 1 + m + n = a3 := by omega
    by_cases hz : n = 0
    · have hsk := parsIs_skip hp hb x0 x1 x2 hz
      rw [show e + b + 1 = a1 by omega] at hsk
      simp [hz]
      exact Kloop_normal ⟨J, a1, out, rfl, by omega, by omega, hsk, fr_intro (by simp)⟩ (by simp; omega)
    · have t0 : ((n : Int) == 0) = false := by simp; omega
      have hnm : (l.drop a2).take (a3 - a2) = (l.drop a2).take n := by rw [show a3 - a2 = n by omega]
      have hle1 : a2 ≤ a3 := by omega
      have hle2 : a3 ≤ l.length := by omega
      by_cases h61 : l[a3]? = some 61
      · have h3 := (List.getElem?_eq_some_iff.1 h61).1
        have hat2 := lat_eq h61
        obtain ⟨a4, ha4⟩ : ∃ a4, a4 = a3 + 1 := ⟨_, rfl⟩
        have hw5 : IntKind.i64.wrap ((a3 : Int) + 1) = (a4 : Int) := by rw [wrap_in (by omega) (by omega)]; omega
        have ha4l : a4 ≤ l.length := by omega
        have hdl : (l.drop a4).length ≤ cap := by rw [List.length_drop]; simp only [cap]; omega
        simp [t0, hw4, hle1, hle2, hnm, h3, hat2, hw5, ha4l]
        refine sign_pc E _ _ (l.drop a4) 0 hdl (by omega) ?_
        rw [List.drop_zero]
        obtain ⟨k0, hk0⟩ : ∃ n, run signB (l.drop a4) = n := ⟨_, rfl⟩
        have hkl := run_le signB (l.drop a4)
        rw [List.length_drop] at hkl
        rw [hk0] at hkl ⊢
        by_cases hk : k0 = 0
        · have hpv : pval signB (l.drop a4) = unquote (l.drop a4) := by unfold pval; rw [hk0, if_neg (by omega)]
          have hnb : unquote (l.drop a4) = none → parAns l = ([], 0, 15) := fun hv => parsIs_bad hp hb x0 x1 x2 hz (by rw [ee]; exact h61) (by rw [ee, ← ha4, hpv]; exact hv)
          have hc3 : l.drop a4 = [] ∨ (∃ c, (l.drop a4)[0]? = some c ∧ c ≠ 34) ∨ (l.drop a4)[0]? = some 34 := by
            cases hd : l.drop a4 with
            | nil => exact .inl rfl
            | cons c r =>
              by_cases hc : c = 34
              · exact .inr (.inr (by rw [hc]; rfl))
              · exact .inr (.inl ⟨c, rfl, hc⟩)
          rcases hc3 with hd | ⟨c, hc, hcn⟩ | hc
          · have hbad := hnb (by rw [hd]; rfl)
            have hlen0 : l.length = a4 := by have := congrArg List.length hd; rw [List.length_drop] at this; simp at this; omega
            simp [hk, hd]
            exact bad _ _ hbad rfl rfl rfl
          · have hbad := hnb (by
              rw [show l.drop a4 = c :: (l.drop a4).drop 1 from drop_at _ 0 c hc, unquote, if_neg hcn])
            have hcl := (List.getElem?_eq_some_iff.1 hc).1
            have hne : (l.drop a4 == []) = false := by rw [beq_eq_false_iff_ne]; intro e; rw [e] at hcl; simp at hcl
            have hat0 : lat (l.drop a4) 0 = some c := lat_eq hc
            have t34 : ((c.toNat : Int) == 34) = false := byte_ne c 34 (by decide) hcn
            simp [hk, hne, hat0, t34, bne]
            exact bad _ _ hbad rfl rfl rfl
          · have hcl := (List.getElem?_eq_some_iff.1 hc).1
            have hne : (l.drop a4 == []) = false := by rw [beq_eq_false_iff_ne]; intro e; rw [e] at hcl; simp at hcl
            have hat0 : lat (l.drop a4) 0 = some 34 := lat_eq hc
            simp [hk, hne, hat0]
            refine quoted_pc E _ _ (l.drop a4) (by rw [List.length_drop]; omega) hc ?_
            cases hv : unquote (l.drop a4) with
            | none =>
              have hva : unqAns (l.drop a4) = ([], 0, 13) := by unfold unqAns; rw [hv]
              have hbad := hnb hv
              simp [hva]
              exact bad _ _ hbad rfl rfl rfl
            | some q =>
              obtain ⟨y, k⟩ := q
              have hva : unqAns (l.drop a4) = (y, (k : Int), 0) := by unfold unqAns; rw [hv]
              have hk2 := unquote_le hv
              rw [List.length_drop] at hk2
              have hvv := parsIs_value hp hb x0 x1 x2 hz (by rw [ee]; exact h61) (x := y) (k := k) (by rw [ee, ← ha4, hpv]; exact hv)
              have hk0' : ((k : Int) == 0) = false := by simp; omega
              obtain ⟨a6, ha6⟩ : ∃ a6, a6 = a3 + 1 + k := ⟨_, rfl⟩
              have hw7 : IntKind.i64.wrap (1 + (k : Int)) = ((1 + k : Nat) : Int) := by rw [wrap_in (by omega) (by omega)]; omega
              have hw8 : IntKind.i64.wrap ((a3 : Int) + ((1 + k : Nat) : Int)) = (a6 : Int) := by rw [wrap_in (by omega) (by omega)]; omega
              rw [show e + b + 1 + m = a2 by omega, show a2 + n + 1 + k = a6 by omega] at hvv
              simp [hva, hk0']
              refine said_pc E _ _ (l.drop a4) y k (by rw [List.length_drop]; omega) hc hv ?_
              simp [hw7, hw8, hm, -Int.natCast_add]
              exact Kloop_normal ⟨J ++ [[.str ((l.drop a2).take n), .str y, .bool true]], a6, _, by simp, by omega, by simp; omega, hvv, fr_intro (by simp [prs, parRow])⟩ (by simp; omega)
        · have tk : (0 : Int) < (k0 : Int) := by omega
          have tk' : 0 < k0 := by omega
          have hpv : pval signB (l.drop a4) = some ((l.drop a4).take k0, k0) := by unfold pval; rw [hk0, if_pos (by omega)]
          have hvv := parsIs_value hp hb x0 x1 x2 hz (by rw [ee]; exact h61) (x := (l.drop a4).take k0) (k := k0) (by rw [ee, ← ha4]; exact hpv)
          obtain ⟨a5, ha5⟩ : ∃ a5, a5 = a3 + 1 + k0 := ⟨_, rfl⟩
          have hw7 : IntKind.i64.wrap (1 + (k0 : Int)) = ((1 + k0 : Nat) : Int) := by rw [wrap_in (by omega) (by omega)]; omega
          have hw8 : IntKind.i64.wrap ((a3 : Int) + ((1 + k0 : Nat) : Int)) = (a5 : Int) := by rw [wrap_in (by omega) (by omega)]; omega
          have hkd : k0 ≤ l.length - a4 := by omega
          rw [show e + b + 1 + m = a2 by omega, show a2 + n + 1 + k0 = a5 by omega] at hvv
          simp [tk', hkd, hw7, hw8, hm, -Int.natCast_add]
          exact Kloop_normal ⟨J ++ [[.str ((l.drop a2).take n), .str ((l.drop a4).take k0), .bool true]], a5, _, by simp, by omega, by simp; omega, hvv, fr_intro (by simp [prs, parRow])⟩ (by simp; omega)
      · have hpl := parsIs_plain hp hb x0 x1 x2 hz (by rw [ee]; exact h61)
        rw [show e + b + 1 + m = a2 by omega, show a2 + n = a3 by omega] at hpl
        have hcase : a3 = l.length ∨ (a3 < l.length ∧ ∃ c, l[a3]? = some c ∧ c.toNat ≠ 61) := by
          by_cases h : a3 < l.length
          · obtain ⟨c, hc⟩ : ∃ b, l[a3]? = some b := ⟨_, List.getElem?_eq_getElem h⟩
            exact .inr ⟨h, c, hc, fun hh => h61 (by rw [hc, UInt8.toNat_inj.1 (show c.toNat = (61 : UInt8).toNat from hh)])⟩
          · exact .inl (by omega)
        rcases hcase with hE3 | ⟨h, c, hc, hcn⟩
        · have hnl3 : ¬ a3 < l.length := by omega
          simp [t0, hw4, hle1, hle2, hnm, hnl3, hm]
          exact Kloop_normal ⟨J ++ [[.str ((l.drop a2).take n), .str [], .bool false]], a3, _, by simp, by omega, by simp; omega, hpl, fr_intro (by simp [prs, parRow])⟩ (by simp; omega)
        · have t2 : ((c.toNat : Int) == 61) = false := by simp; omega
          have hat2 := lat_eq hc
          simp [t0, hw4, hle1, hle2, hnm, h, hat2, t2, hm]
          exact Kloop_normal ⟨J ++ [[.str ((l.drop a2).take n), .str [], .bool false]], a3, _, by simp, by omega, by simp; omega, hpl, fr_intro (by simp [prs, parRow])⟩ (by simp; omega)
  · have hans := parsIs_end hp hb (by rw [← ha]; exact h59)
    rw [hans] at hQ
    have hcase : a = l.length ∨ (a < l.length ∧ ∃ c, l[a]? = some c ∧ c.toNat ≠ 59) := by
      by_cases h : a < l.length
      · obtain ⟨c, hc⟩ : ∃ b, l[a]? = some b := ⟨_, List.getElem?_eq_getElem h⟩
        exact .inr ⟨h, c, hc, fun hh => h59 (by rw [hc, UInt8.toNat_inj.1 (show c.toNat = (59 : UInt8).toNat from hh)])⟩
      · exact .inl (by omega)
    rcases hcase with rfl | ⟨h, c, hc, hcn⟩
    · simp
      exact aPost_same hB rfl (nilV_refl _) (by simp) hQ
    · have t1 : ¬ l.length ≤ a := by omega
      have t2 : ((c.toNat : Int) != 59) = true := by simp; omega
      have hat := lat_eq hc
      simp [t1, hat, t2]
      exact aPost_same hB rfl (nilV_refl _) (by simp) hQ
end
end Go.Proofs.YtimhofphmgehgaaDoor
