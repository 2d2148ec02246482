/- OctetParams and OctetPrints answer true. -/
import Derived.Test.YtjphdipbajfojaaDoorOctM
set_option linter.unusedVariables false
set_option linter.unusedSimpArgs false
set_option linter.unusedSectionVars false
set_option maxRecDepth 100000
namespace Go.Proofs.YtjphdipbajfojaaDoor
open Go Go.RowKit

section
variable (E : Env) (H : Hp) (Q : AV → Hp → Prop)
def refRunInv (p : UInt8 → Bool) (l : List UInt8) (a : Nat) (H : Hp) (fr : List AV) (H' : Hp) : Prop := H' = H ∧ ∃ n : Nat, a + n ≤ l.length ∧ ((l.drop a).take n).all p = true ∧ ∃ x : Nat → AV, fr = [.str l, .int .i64 a, x 2, x 3, x 4, .int .i64 n, x 6, x 7, x 8, x 9, x 10, x 11, x 12, x 13, x 14, x 15, x 16, x 17, x 18, x 19, x 20, x 21, x 22]
theorem ref_blanks_pc (l : List UInt8) (a : Nat) (hl : l.length ≤ cap) (ha : a ≤ l.length) (hQ : Q (.int .i64 (run blankB (l.drop a) : Nat)) H) : PC Tryd.prog E 59 [.str l, .int .i64 a] H Q := by
  simp only [cap] at hl
  refine pc_enter Tryd.func59 rfl [] [] (by kernel_rfl) (fun hB => ?_)
  have fin : ∀ n : Nat, run blankB (l.drop a) = n → Q (.int .i64 n) H := fun n hn => hn ▸ hQ
  simp [Tryd.ntmps59, Tryd.results59, List.replicate_succ]
  refine VL_go (refRunInv blankB l a H) (fun fr _ => l.length - (ai (aget fr 5)).toNat) ⟨rfl, 0, by omega, rfl, fr_intro (by simp)⟩ ?_
  rintro fr H' ⟨rfl, n, hn, hall, x, rfl⟩
  obtain ⟨i, hi⟩ : ∃ i, i = a + n := ⟨_, rfl⟩
  have hw0 : IntKind.i64.wrap ((a : Int) + n) = (i : Int) := by rw [wrap_in (by omega) (by omega)]; omega
  have hw : IntKind.i64.wrap ((n : Int) + 1) = n + 1 := wrap_in (by omega) (by omega)
  by_cases h : i < l.length
  · obtain ⟨b, hb⟩ : ∃ b, l[i]? = some b := ⟨_, List.getElem?_eq_getElem h⟩
    have hb2 : (l.drop a)[n]? = some b := by rw [List.getElem?_drop, ← hi]; exact hb
    have hat := lat_eq hb
    simp [hw0, h, hat]
    refine ref_blank_pc E _ _ b ?_
    cases hf : blankB b
    · simp [hf]
      refine aPost_same0 hB rfl (nilV_refl _) (by simp) (fin n (run_step blankB _ n hall (by rw [List.length_drop]; omega) (fun c hc => ?_)))
      rw [hb2] at hc; cases hc; exact hf
    · simp [hf, hw]
      exact Kloop_normal ⟨rfl, n + 1, by omega, by rw [all_step blankB (l.drop a) n b hb2, hall, hf]; rfl, fr_intro (by simp)⟩ (by simp; omega)
  · simp [hw0, h]
    refine aPost_same0 hB rfl (nilV_refl _) (by simp) (fin n (run_step blankB _ n hall (by rw [List.length_drop]; omega) (fun c hc => ?_)))
    rw [List.getElem?_drop] at hc
    have := (List.getElem?_eq_some_iff.1 hc).1
    omega
theorem ref_signs_pc (l : List UInt8) (a : Nat) (hl : l.length ≤ cap) (ha : a ≤ l.length) (hQ : Q (.int .i64 (run signB (l.drop a) : Nat)) H) : PC Tryd.prog E 60 [.str l, .int .i64 a] H Q := by
  simp only [cap] at hl
  refine pc_enter Tryd.func60 rfl [] [] (by kernel_rfl) (fun hB => ?_)
  have fin : ∀ n : Nat, run signB (l.drop a) = n → Q (.int .i64 n) H := fun n hn => hn ▸ hQ
  simp [Tryd.ntmps60, Tryd.results60, List.replicate_succ]
  refine VL_go (refRunInv signB l a H) (fun fr _ => l.length - (ai (aget fr 5)).toNat) ⟨rfl, 0, by omega, rfl, fr_intro (by simp)⟩ ?_
  rintro fr H' ⟨rfl, n, hn, hall, x, rfl⟩
  obtain ⟨i, hi⟩ : ∃ i, i = a + n := ⟨_, rfl⟩
  have hw0 : IntKind.i64.wrap ((a : Int) + n) = (i : Int) := by rw [wrap_in (by omega) (by omega)]; omega
  have hw : IntKind.i64.wrap ((n : Int) + 1) = n + 1 := wrap_in (by omega) (by omega)
  by_cases h : i < l.length
  · obtain ⟨b, hb⟩ : ∃ b, l[i]? = some b := ⟨_, List.getElem?_eq_getElem h⟩
    have hb2 : (l.drop a)[n]? = some b := by rw [List.getElem?_drop, ← hi]; exact hb
    have hat := lat_eq hb
    simp [hw0, h, hat]
    refine ref_sign_pc E _ _ b ?_
    cases hf : signB b
    · simp [hf]
      refine aPost_same0 hB rfl (nilV_refl _) (by simp) (fin n (run_step signB _ n hall (by rw [List.length_drop]; omega) (fun c hc => ?_)))
      rw [hb2] at hc; cases hc; exact hf
    · simp [hf, hw]
      exact Kloop_normal ⟨rfl, n + 1, by omega, by rw [all_step signB (l.drop a) n b hb2, hall, hf]; rfl, fr_intro (by simp)⟩ (by simp; omega)
  · simp [hw0, h]
    refine aPost_same0 hB rfl (nilV_refl _) (by simp) (fin n (run_step signB _ n hall (by rw [List.length_drop]; omega) (fun c hc => ?_)))
    rw [List.getElem?_drop] at hc
    have := (List.getElem?_eq_some_iff.1 hc).1
    omega

def refParsInv (l : List UInt8) (H : Hp) (fr : List AV) (H' : Hp) : Prop := ∃ (J : Hp) (e : Nat) (out : List Par), H' = H ++ J ∧ e ≤ l.length ∧ out.length ≤ e ∧ parsIs l out e ∧ ∃ x : Nat → AV, fr = [.str l, x 1, x 2, x 3, x 4, .sl true 3 (prs out), .int .i64 e, x 7, x 8, x 9, x 10, x 11, x 12, x 13, x 14, x 15, x 16, x 17, x 18, x 19, x 20, x 21, x 22, x 23, x 24, x 25, x 26, x 27, x 28, x 29, x 30, x 31, x 32, x 33, x 34, x 35, x 36, x 37, x 38, x 39, x 40, x 41, x 42, x 43, x 44, x 45, x 46, x 47, x 48, x 49, x 50, x 51, x 52, x 53, x 54, x 55, x 56, x 57, x 58, x 59, x 60, x 61, x 62, x 63, x 64, x 65, x 66, x 67, x 68, x 69, x 70, x 71, x 72, x 73, x 74, x 75, x 76, x 77, x 78, x 79, x 80, x 81, x 82, x 83, x 84, x 85, x 86, x 87, x 88, x 89, x 90, x 91, x 92, x 93, x 94, x 95, x 96, x 97, x 98, x 99]
set_option maxHeartbeats 2000000 in
theorem ref_params_pc (l : List UInt8) (hl : l.length ≤ 8388608) (hQ : Q (.tup [.sl false 3 (prs (parAns l).1), .int .i64 (parAns l).2.1, .int .i64 (parAns l).2.2]) H) : PC Tryd.prog E 29 [.str l] H Q := by
  refine pc_enter Tryd.func29 rfl [95] [] (by kernel_rfl) (fun hB => ?_)
  simp [Tryd.ntmps29, Tryd.results29, List.replicate_succ]
  refine VL_go (refParsInv l H) (fun fr _ => l.length - (ai (aget fr 6)).toNat) ⟨[], 0, [], by simp, by omega, by simp, parsIs_start l, fr_intro (by simp [prs])⟩ ?_
  rintro fr H' ⟨J, e, out, rfl, he, hout, hp, x, rfl⟩
  have hcap : l.length ≤ cap := by simp only [cap]; omega
  have hm : out.length + 1 ≤ maxLen ∧ (out.length + 1) * 40 ≤ 140737488355328 := by unfold maxLen; omega
  simp
  refine ref_blanks_pc E _ _ l e hcap he ?_
  obtain ⟨b, hb⟩ : ∃ n, run blankB (l.drop e) = n := ⟨_, rfl⟩
  have hbl := run_le blankB (l.drop e)
  rw [List.length_drop] at hbl
  rw [hb] at hbl ⊢
  obtain ⟨a, ha⟩ : ∃ a, a = e + b := ⟨_, rfl⟩
  have hw1 : IntKind.i64.wrap ((e : Int) + b) = (a : Int) := by rw [wrap_in (by omega) (by omega)]; omega
  have hcase : l[a]? = some 59 ∨ l[a]? ≠ some 59 := by
    by_cases h : l[a]? = some 59
    · exact .inl h
    · exact .inr h
  rcases hcase with h59 | h59
  · have halt := (List.getElem?_eq_some_iff.1 h59).1
    have t1 : ¬ (l.length : Int) ≤ (a : Int) := by omega
    have t1' : ¬ l.length ≤ a := by omega
    have hat := lat_eq h59
    obtain ⟨a1, ha1⟩ : ∃ a1, a1 = a + 1 := ⟨_, rfl⟩
    have hw2 : IntKind.i64.wrap ((a : Int) + 1) = (a1 : Int) := by rw [wrap_in (by omega) (by omega)]; omega
    simp [hw1, t1', hat, hw2]
    refine ref_blanks_pc E _ _ l a1 hcap (by omega) ?_
    obtain ⟨m, hmm⟩ : ∃ n, run blankB (l.drop a1) = n := ⟨_, rfl⟩
    have hml := run_le blankB (l.drop a1)
    rw [List.length_drop] at hml
    rw [hmm] at hml ⊢
    obtain ⟨a2, ha2⟩ : ∃ a2, a2 = a1 + m := ⟨_, rfl⟩
    have hw3 : IntKind.i64.wrap ((a1 : Int) + m) = (a2 : Int) := by rw [wrap_in (by omega) (by omega)]; omega
    simp [hw3]
    refine ref_signs_pc E _ _ l a2 hcap (by omega) ?_
    obtain ⟨n, hn⟩ : ∃ n, run signB (l.drop a2) = n := ⟨_, rfl⟩
    have hnl := run_le signB (l.drop a2)
    rw [List.length_drop] at hnl
    rw [hn] at hnl ⊢
    obtain ⟨a3, ha3⟩ : ∃ a3, a3 = a2 + n := ⟨_, rfl⟩
    have hw4 : IntKind.i64.wrap ((a2 : Int) + n) = (a3 : Int) := by rw [wrap_in (by omega) (by omega)]; omega
    have x0 : l[e + b]? = some 59 := by rw [← ha]; exact h59
    have x1 : run blankB (l.drop (e + b + 1)) = m := by rw [← ha, ← ha1]; exact hmm
    have x2 : run signB (l.drop (e + b + 1 + m)) = n := by rw [← ha, ← ha1, ← ha2]; exact hn
    have ee : e + b + 1 + m + n = a3 := by omega
    by_cases hz : n = 0
    · have hsk := parsIs_skip hp hb x0 x1 x2 hz
      rw [show e + b + 1 = a1 by omega] at hsk
      have t2 : ((n : Int) == 0) = true := by simp [hz]
      simp [hz]
      exact Kloop_normal ⟨J, a1, out, rfl, by omega, by omega, hsk, fr_intro (by simp)⟩ (by simp; omega)
    · have t0 : ((n : Int) == 0) = false := by simp; omega
      have hnm : (l.drop a2).take (a3 - a2) = (l.drop a2).take n := by rw [show a3 - a2 = n by omega]
      have hle1 : a2 ≤ a3 := by omega
      have hle2 : a3 ≤ l.length := by omega
      by_cases h61 : l[a3]? = some 61
      · have h3 := (List.getElem?_eq_some_iff.1 h61).1
        have hat2 := lat_eq h61
        obtain ⟨a4, ha4⟩ : ∃ a4, a4 = a3 + 1 := ⟨_, rfl⟩
        have hw5 : IntKind.i64.wrap ((a3 : Int) + 1) = (a4 : Int) := by rw [wrap_in (by omega) (by omega)]; omega
        have hd : (l.drop a4).take (l.length - a4) = l.drop a4 := List.take_of_length_le (by rw [List.length_drop]; omega)
        have ha4l : a4 ≤ l.length := by omega
        simp [t0, hw4, hle1, hle2, hnm, h3, hat2, hw5]
        refine ref_signs_pc E _ _ l a4 hcap ha4l ?_
        obtain ⟨k0, hk0⟩ : ∃ n, run signB (l.drop a4) = n := ⟨_, rfl⟩
        have hkl := run_le signB (l.drop a4)
        rw [List.length_drop] at hkl
        rw [hk0] at hkl ⊢
        obtain ⟨a5, ha5⟩ : ∃ a5, a5 = a4 + k0 := ⟨_, rfl⟩
        have hw6 : IntKind.i64.wrap ((a4 : Int) + k0) = (a5 : Int) := by rw [wrap_in (by omega) (by omega)]; omega
        have hle5 : a4 ≤ a5 := by omega
        have hle6 : a5 ≤ l.length := by omega
        have hnm5 : (l.drop a4).take (a5 - a4) = (l.drop a4).take k0 := by rw [show a5 - a4 = k0 by omega]
        by_cases hk : k0 = 0
        · have tk : ((k0 : Int) == 0) = true := by simp [hk]
          have hpv : pval signB (l.drop a4) = unquote (l.drop a4) := by unfold pval; rw [hk0, if_neg (by omega)]
          simp [hw6, hle5, hle6, hnm5, tk, ha4l, hd]
          refine ref_unquote_pc E _ _ (l.drop a4) (by rw [List.length_drop]; omega) ?_
          cases hv : unquote (l.drop a4) with
          | none =>
            have hva : unqAns (l.drop a4) = ([], 0, 13) := by unfold unqAns; rw [hv]
            have hbad := parsIs_bad hp hb x0 x1 x2 hz (by rw [ee]; exact h61) (by rw [ee, ← ha4, hpv]; exact hv)
            rw [hbad] at hQ
            simp [hva]
            exact aPost_same hB rfl (nilV_refl _) (by simp) hQ
          | some q =>
            obtain ⟨y, k⟩ := q
            have hva : unqAns (l.drop a4) = (y, (k : Int), 0) := by unfold unqAns; rw [hv]
            have hk2 := unquote_le hv
            rw [List.length_drop] at hk2
            have hvv := parsIs_value hp hb x0 x1 x2 hz (by rw [ee]; exact h61) (x := y) (k := k) (by rw [ee, ← ha4, hpv]; exact hv)
            obtain ⟨a6, ha6⟩ : ∃ a6, a6 = a3 + 1 + k := ⟨_, rfl⟩
            have hw7 : IntKind.i64.wrap ((a4 : Int) + k) = (a6 : Int) := by rw [wrap_in (by omega) (by omega)]; omega
            rw [show e + b + 1 + m = a2 by omega, show a2 + n + 1 + k = a6 by omega] at hvv
            simp [hva, hw7, hm]
            exact Kloop_normal ⟨J ++ [[.str ((l.drop a2).take n), .str y, .bool true]], a6, _, by simp, by omega, by simp; omega, hvv, fr_intro (by simp [prs, parRow])⟩ (by simp; omega)
        · have tk : ((k0 : Int) == 0) = false := by simp; omega
          have hpv : pval signB (l.drop a4) = some ((l.drop a4).take k0, k0) := by unfold pval; rw [hk0, if_pos (by omega)]
          have hvv := parsIs_value hp hb x0 x1 x2 hz (by rw [ee]; exact h61) (x := (l.drop a4).take k0) (k := k0) (by rw [ee, ← ha4]; exact hpv)
          rw [show e + b + 1 + m = a2 by omega, show a2 + n + 1 + k0 = a5 by omega] at hvv
          simp [hw6, hle5, hle6, hnm5, tk, hm]
          exact Kloop_normal ⟨J ++ [[.str ((l.drop a2).take n), .str ((l.drop a4).take k0), .bool true]], a5, _, by simp, by omega, by simp; omega, hvv, fr_intro (by simp [prs, parRow])⟩ (by simp; omega)
      · have hpl := parsIs_plain hp hb x0 x1 x2 hz (by rw [ee]; exact h61)
        rw [show e + b + 1 + m = a2 by omega, show a2 + n = a3 by omega] at hpl
        have hcase : a3 = l.length ∨ (a3 < l.length ∧ ∃ c, l[a3]? = some c ∧ c.toNat ≠ 61) := by
          by_cases h : a3 < l.length
          · obtain ⟨c, hc⟩ : ∃ b, l[a3]? = some b := ⟨_, List.getElem?_eq_getElem h⟩
            exact .inr ⟨h, c, hc, fun hh => h61 (by rw [hc, UInt8.toNat_inj.1 (show c.toNat = (61 : UInt8).toNat from hh)])⟩
          · exact .inl (by omega)
        rcases hcase with hE3 | ⟨h, c, hc, hcn⟩
        · have hnl3 : ¬ a3 < l.length := by omega
          simp [t0, hw4, hle1, hle2, hnm, hnl3, hm]
          exact Kloop_normal ⟨J ++ [[.str ((l.drop a2).take n), .str [], .bool false]], a3, _, by simp, by omega, by simp; omega, hpl, fr_intro (by simp [prs, parRow])⟩ (by simp; omega)
        · have t2 : ((c.toNat : Int) == 61) = false := by simp; omega
          have hat2 := lat_eq hc
          simp [t0, hw4, hle1, hle2, hnm, h, hat2, t2, hm]
          exact Kloop_normal ⟨J ++ [[.str ((l.drop a2).take n), .str [], .bool false]], a3, _, by simp, by omega, by simp; omega, hpl, fr_intro (by simp [prs, parRow])⟩ (by simp; omega)
  · have hans := parsIs_end hp hb (by rw [← ha]; exact h59)
    rw [hans] at hQ
    have hcase : a = l.length ∨ (a < l.length ∧ ∃ c, l[a]? = some c ∧ c.toNat ≠ 59) := by
      by_cases h : a < l.length
      · obtain ⟨c, hc⟩ : ∃ b, l[a]? = some b := ⟨_, List.getElem?_eq_getElem h⟩
        exact .inr ⟨h, c, hc, fun hh => h59 (by rw [hc, UInt8.toNat_inj.1 (show c.toNat = (59 : UInt8).toNat from hh)])⟩
      · exact .inl (by omega)
    rcases hcase with rfl | ⟨h, c, hc, hcn⟩
    · simp [hw1]
      exact aPost_same hB rfl (nilV_refl _) (by simp) hQ
    · have t1 : ¬ l.length ≤ a := by omega
      have t2 : ((c.toNat : Int) != 59) = true := by simp; omega
      have hat := lat_eq hc
      simp [hw1, t1, hat, t2]
      exact aPost_same hB rfl (nilV_refl _) (by simp) hQ

def alikeInv (a b : List Par) (H : Hp) (fr : List AV) (H' : Hp) : Prop := H' = H ∧ ∃ i : Nat, i ≤ a.length ∧ a.take i = b.take i ∧ ∃ x : Nat → AV, fr = [.sl false 3 (prs a), .sl false 3 (prs b), x 2, x 3, x 4, .int .i64 i, x 6, x 7, x 8, x 9, x 10, x 11, x 12, x 13, x 14, x 15, x 16, x 17, x 18, x 19, x 20, x 21, x 22, x 23, x 24, x 25, x 26, x 27, x 28, x 29, x 30, x 31, x 32, x 33, x 34, x 35, x 36, x 37, x 38, x 39, x 40, x 41, x 42, x 43, x 44, x 45, x 46, x 47, x 48, x 49, x 50, x 51, x 52, x 53]
theorem alike_pc (a b : List Par) (ha : a.length ≤ cap) (hQ : Q (.bool (decide (a = b))) H) : PC Tryd.prog E 30 [.sl false 3 (prs a), .sl false 3 (prs b)] H Q := by
  simp only [cap] at ha
  refine pc_enter Tryd.func30 rfl [] [] (by kernel_rfl) (fun hB => ?_)
  have fin : ∀ c : Bool, decide (a = b) = c → Q (.bool c) H := fun c hc => hc ▸ hQ
  by_cases hl : a.length = b.length
  · have t1 : ((a.length : Int) != (b.length : Int)) = false := by simp; omega
    simp [Tryd.ntmps30, Tryd.results30, List.replicate_succ, t1]
    refine VL_go (alikeInv a b H) (fun fr _ => a.length - (ai (aget fr 5)).toNat) ⟨rfl, 0, by omega, rfl, fr_intro (by simp)⟩ ?_
    rintro fr H' ⟨rfl, i, hi, hab, x, rfl⟩
    by_cases h : i < a.length
    · obtain ⟨u, hu⟩ : ∃ u, a[i]? = some u := ⟨_, List.getElem?_eq_getElem h⟩
      obtain ⟨v, hv⟩ : ∃ u, b[i]? = some u := ⟨_, List.getElem?_eq_getElem (by omega)⟩
      have hat1 := prs_at hu
      have hat2 := prs_at hv
      have hw : IntKind.i64.wrap ((i : Int) + 1) = i + 1 := wrap_in (by omega) (by omega)
      obtain ⟨n1, v1, h1⟩ := u
      obtain ⟨n2, v2, h2⟩ := v
      simp only at hat1 hat2
      by_cases hn : n1 = n2
      · have s1 : (n1 != n2) = false := by simp [hn]
        by_cases hvv : v1 = v2
        · have s2 : (v1 != v2) = false := by simp [hvv]
          by_cases hh : h1 = h2
          · have s3 : (h1 != h2) = false := by simp [hh]
            simp [h, hat1, hat2, s1, s2, s3, hw]
            refine Kloop_normal ⟨rfl, i + 1, by omega, ?_, fr_intro (by simp)⟩ (by simp; omega)
            rw [List.take_add_one, List.take_add_one, hab, hu, hv, hn, hvv, hh]
          · have s3 : (h1 != h2) = true := by simpa using hh
            simp [h, hat1, hat2, s1, s2, s3]
            refine aPost_same0 hB rfl (nilV_refl _) (by simp) (fin false (decide_eq_false fun e => hh ?_))
            rw [e, hv] at hu; cases hu; rfl
        · have s2 : (v1 != v2) = true := by simpa using hvv
          simp [h, hat1, hat2, s1, s2]
          refine aPost_same0 hB rfl (nilV_refl _) (by simp) (fin false (decide_eq_false fun e => hvv ?_))
          rw [e, hv] at hu; cases hu; rfl
      · have s1 : (n1 != n2) = true := by simpa using hn
        simp [h, hat1, hat2, s1]
        refine aPost_same0 hB rfl (nilV_refl _) (by simp) (fin false (decide_eq_false fun e => hn ?_))
        rw [e, hv] at hu; cases hu; rfl
    · simp [h]
      refine aPost_same0 hB rfl (nilV_refl _) (by simp) (fin true (decide_eq_true ?_))
      rw [List.take_of_length_le (by omega), List.take_of_length_le (by omega)] at hab
      exact hab
  · have t1 : ((a.length : Int) != (b.length : Int)) = true := by simp; omega
    simp [Tryd.ntmps30, Tryd.results30, List.replicate_succ, t1]
    exact aPost_same0 hB rfl (nilV_refl _) (by simp) (fin false (decide_eq_false fun e => hl (by rw [e])))

def givenInv (l : List Par) (H : Hp) (fr : List AV) (H' : Hp) : Prop := H' = H ∧ ∃ i : Nat, i ≤ l.length ∧ ∃ x : Nat → AV, fr = [.sl false 3 (prs l), x 1, x 2, .sl true 3 (prs (l.take i)), .int .i64 i, x 5, x 6, x 7, x 8, x 9, x 10, x 11, x 12, x 13, x 14, x 15, x 16, x 17, x 18, x 19, x 20, x 21, x 22, x 23, x 24, x 25, x 26, x 27, x 28, x 29, x 30, x 31]
theorem given_pc (l : List Par) (hl : l.length ≤ 8388608) (hQ : Q (.sl false 3 (prs l)) H) : PC Tryd.prog E 33 [.sl false 3 (prs l)] H Q := by
  refine pc_enter Tryd.func33 rfl [12] [] (by kernel_rfl) (fun hB => ?_)
  simp [Tryd.ntmps33, Tryd.results33, List.replicate_succ]
  refine VL_go (givenInv l H) (fun fr _ => l.length - (ai (aget fr 4)).toNat) ⟨rfl, 0, by omega, fr_intro (by simp [prs])⟩ ?_
  rintro fr H' ⟨rfl, i, hi, x, rfl⟩
  by_cases h : i < l.length
  · obtain ⟨u, hu⟩ : ∃ u, l[i]? = some u := ⟨_, List.getElem?_eq_getElem h⟩
    have hat := prs_at hu
    have hw : IntKind.i64.wrap ((i : Int) + 1) = i + 1 := wrap_in (by omega) (by omega)
    obtain ⟨out, hout⟩ : ∃ out, l.take i = out := ⟨_, rfl⟩
    have hol : out.length ≤ 8388608 := by rw [← hout, List.length_take]; omega
    have hm : out.length + 1 ≤ maxLen ∧ (out.length + 1) * 40 ≤ 140737488355328 := by unfold maxLen; omega
    have hst : l.take (i + 1) = out ++ [u] := by rw [List.take_add_one, hu, hout]; rfl
    rw [hout]
    simp [h, hat, hm, hw]
    exact Kloop_normal ⟨rfl, i + 1, by omega, fr_intro (by rw [hst]; simp [prs, parRow])⟩ (by simp; omega)
  · have ha : l.take i = l := List.take_of_length_le (by omega)
    rw [ha]
    simp [h]
    exact aPost_same0 hB rfl (nilV_refl _) (by simp) hQ
theorem params_pc_len {s : List UInt8} {l : List Par} {k : Nat} : ∀ (n : Nat) (s : List UInt8) (l : List Par) (k : Nat), s.length ≤ n → pars signB s = some (l, k) → l.length ≤ s.length := by
  intro n
  induction n with
  | zero =>
    intro s l k hn h
    have : s = [] := List.length_eq_zero_iff.1 (by omega)
    subst this
    rw [pars_end signB [] (by simp)] at h
    cases h; simp
  | succ n ih =>
    intro s l k hn h
    by_cases h0 : s[run blankB s]? = some 59
    · have hlt := (List.getElem?_eq_some_iff.1 h0).1
      obtain ⟨m, hm⟩ : ∃ m, run blankB (s.drop (run blankB s + 1)) = m := ⟨_, rfl⟩
      obtain ⟨j, hj⟩ : ∃ j, run signB (s.drop (run blankB s + 1 + m)) = j := ⟨_, rfl⟩
      have hjl := run_le signB (s.drop (run blankB s + 1 + m))
      rw [hj, List.length_drop] at hjl
      by_cases hz : j = 0
      · rw [pars_skip signB s _ m j rfl h0 hm hj hz] at h
        cases hp : pars signB (s.drop (run blankB s + 1)) with
        | none => rw [hp] at h; cases h
        | some p =>
          rw [hp] at h; simp at h
          obtain ⟨rfl, _⟩ := h
          have := ih _ p.1 p.2 (by rw [List.length_drop]; omega) hp
          rw [List.length_drop] at this; omega
      · by_cases h1 : s[run blankB s + 1 + m + j]? = some 61
        · have h1l := (List.getElem?_eq_some_iff.1 h1).1
          cases hv : pval signB (s.drop (run blankB s + 1 + m + j + 1)) with
          | none => rw [pars_bad signB s _ m j rfl h0 hm hj hz h1 hv] at h; cases h
          | some q =>
            rw [pars_value signB s _ m j rfl h0 hm hj hz h1 (x := q.1) (k := q.2) hv] at h
            cases hp : pars signB (s.drop (run blankB s + 1 + m + j + 1 + q.2)) with
            | none => rw [hp] at h; cases h
            | some p =>
              rw [hp] at h; simp at h
              obtain ⟨rfl, _⟩ := h
              have := ih _ p.1 p.2 (by rw [List.length_drop]; omega) hp
              rw [List.length_drop] at this; simp; omega
        · rw [pars_plain signB s _ m j rfl h0 hm hj hz h1] at h
          cases hp : pars signB (s.drop (run blankB s + 1 + m + j)) with
          | none => rw [hp] at h; cases h
          | some p =>
            rw [hp] at h; simp at h
            obtain ⟨rfl, _⟩ := h
            have := ih _ p.1 p.2 (by rw [List.length_drop]; omega) hp
            rw [List.length_drop] at this; simp; omega
    · rw [pars_end signB s h0] at h
      cases h; simp
theorem parAns_len (l : List UInt8) : (parAns l).1.length ≤ l.length := by
  unfold parAns
  cases h : pars signB l with
  | none => simp
  | some p => exact params_pc_len (s := l) (l := p.1) (k := p.2) _ l p.1 p.2 (Nat.le_refl _) h
theorem paramsL_pc (hE : SE E) (l : List UInt8) (hl : l.length ≤ 1048576) (hQ : Q (.bool true) H) : PC Tryd.prog E 7 [.str l] H Q := by
  have hpl := parAns_len l
  refine pc_enter Tryd.func7 rfl [] [] (by kernel_rfl) (fun hB => ?_)
  simp [Tryd.ntmps7, Tryd.results7, List.replicate_succ]
  refine params_pc E _ _ hE l (by omega) ?_
  simp
  refine ref_params_pc E _ _ l (by omega) ?_
  simp
  refine awake_pc E _ _ hE ?_
  simp
  refine alike_pc E _ _ _ _ (by simp only [cap]; omega) ?_
  simp
  exact aPost_same0 hB rfl (nilV_refl _) (by simp) hQ
end
theorem params_true (W : World) (s : ByteArray) (hs : s.size ≤ 1048576) (hS : Signs W) : Calls Tryd.prog 7 #[.string s] W fun e w' => e = .returned (.bool true) ∧ Frm (fun _ => False) W w' := by
  refine calls_of_pcF (args := [.str s.data.toList]) (fun b => b = 0) (law_fix W hS) (old W) (fun _ _ h => h) rfl (fun t x u hx hu => ?_) (fun E Q e1 e2 h => paramsL_pc E [] Q ⟨by rw [e2], by rw [e1]; exact hS⟩ _ (by rw [size_toList]; exact hs) h)
  match t with
  | 0 => simp at hx hu; subst hx; subst hu; exact ⟨rel_string _ (by unfold maxLen; omega), .str _, rfl⟩
  | t + 1 => simp at hx
end Go.Proofs.YtjphdipbajfojaaDoor
