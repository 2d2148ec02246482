/- The document's parameters. -/
import Derived.Test.YtimhofphmgehgaaDoorChO
set_option linter.unusedVariables false
set_option linter.unnecessarySimpa false
set_option linter.unusedSimpArgs false
set_option linter.unusedSectionVars false
set_option maxRecDepth 100000
namespace Go.Proofs.YtimhofphmgehgaaDoor
open Go Go.RowKit Go.Proofs

section
variable (E : Env) (H : Hp) (Q : AV → Hp → Prop)
def pastInv (l : List UInt8) (a : Nat) (H : Hp) (fr : List AV) (H' : Hp) : Prop := H' = H ∧ ∃ n : Nat, a + n ≤ l.length ∧ ((l.drop a).take n).all blankB = true ∧ ∃ x : Nat → AV, fr = [.str l, .int .i64 (a + n : Nat), x 2, x 3, x 4, x 5, x 6, x 7, x 8, x 9, x 10, x 11, x 12, x 13, x 14, x 15, x 16, x 17]
theorem past_pc (l : List UInt8) (a : Nat) (hl : l.length ≤ cap) (ha : a ≤ l.length) (hQ : Q (.int .i64 (a + run blankB (l.drop a) : Nat)) H) : PC Tryd.prog E 74 [.str l, .int .i64 a] H Q := by
  simp only [cap] at hl
  refine pc_enter Tryd.func74 rfl [] [] (by kernel_rfl) (fun hB => ?_)
  have fin : ∀ n : Nat, run blankB (l.drop a) = n → Q (.int .i64 (a + n : Nat)) H := fun n hn => hn ▸ hQ
  simp [Tryd.ntmps74, Tryd.results74, List.replicate_succ]
  refine VL_go (pastInv l a H) (fun fr _ => l.length - (ai (aget fr 1)).toNat) ⟨rfl, 0, by omega, rfl, fr_intro (by simp)⟩ ?_
  rintro fr H' ⟨rfl, n, hn, hall, x, rfl⟩
  obtain ⟨i, hi⟩ : ∃ i, i = a + n := ⟨_, rfl⟩
  rw [← hi] at hn ⊢
  have hw : IntKind.i64.wrap ((i : Int) + 1) = i + 1 := wrap_in (by omega) (by omega)
  by_cases h : i < l.length
  · obtain ⟨b, hb⟩ : ∃ b, l[i]? = some b := ⟨_, List.getElem?_eq_getElem h⟩
    have hb2 : (l.drop a)[n]? = some b := by rw [List.getElem?_drop, ← hi]; exact hb
    have hat := lat_eq hb
    simp [h, hat]
    refine ref_blank_pc E _ _ b ?_
    cases hf : blankB b
    · simp [hf]
      have := fin n (run_step blankB _ n hall (by rw [List.length_drop]; omega) (fun c hc => by rw [hb2] at hc; cases hc; exact hf))
      rw [← hi] at this
      exact aPost_same0 hB rfl (nilV_refl _) (by simp) this
    · simp [hf, hw]
      exact Kloop_normal ⟨rfl, n + 1, by omega, by rw [all_step blankB (l.drop a) n b hb2, hall, hf]; rfl, fr_intro (by simp; omega)⟩ (by simp; omega)
  · simp [h]
    have := fin n (run_step blankB _ n hall (by rw [List.length_drop]; omega) (fun c hc => by rw [List.getElem?_drop] at hc; have := (List.getElem?_eq_some_iff.1 hc).1; omega))
    rw [← hi] at this
    exact aPost_same0 hB rfl (nilV_refl _) (by simp) this
def ref6RunInv (p : UInt8 → Bool) (l : List UInt8) (a : Nat) (H : Hp) (fr : List AV) (H' : Hp) : Prop := H' = H ∧ ∃ n : Nat, a + n ≤ l.length ∧ ((l.drop a).take n).all p = true ∧ ∃ x : Nat → AV, fr = [.str l, .int .i64 a, x 2, x 3, x 4, .int .i64 n, x 6, x 7, x 8, x 9, x 10, x 11, x 12, x 13, x 14, x 15, x 16, x 17, x 18, x 19, x 20, x 21, x 22]
theorem sign_pc (l : List UInt8) (a : Nat) (hl : l.length ≤ cap) (ha : a ≤ l.length) (hQ : Q (.int .i64 (run signB (l.drop a) : Nat)) H) : PC Tryd.prog E 75 [.str l, .int .i64 a] H Q := by
  simp only [cap] at hl
  refine pc_enter Tryd.func75 rfl [] [] (by kernel_rfl) (fun hB => ?_)
  have fin : ∀ n : Nat, run signB (l.drop a) = n → Q (.int .i64 n) H := fun n hn => hn ▸ hQ
  simp [Tryd.ntmps75, Tryd.results75, List.replicate_succ]
  refine VL_go (ref6RunInv signB l a H) (fun fr _ => l.length - (ai (aget fr 5)).toNat) ⟨rfl, 0, by omega, rfl, fr_intro (by simp)⟩ ?_
  rintro fr H' ⟨rfl, n, hn, hall, x, rfl⟩
  obtain ⟨i, hi⟩ : ∃ i, i = a + n := ⟨_, rfl⟩
  have hw0 : IntKind.i64.wrap ((a : Int) + n) = (i : Int) := by rw [wrap_in (by omega) (by omega)]; omega
  have hw : IntKind.i64.wrap ((n : Int) + 1) = n + 1 := wrap_in (by omega) (by omega)
  by_cases h : i < l.length
  · obtain ⟨b, hb⟩ : ∃ b, l[i]? = some b := ⟨_, List.getElem?_eq_getElem h⟩
    have hb2 : (l.drop a)[n]? = some b := by rw [List.getElem?_drop, ← hi]; exact hb
    have hat := lat_eq hb
    simp [hw0, h, hat]
    refine ref_sign_pc E _ _ b ?_
    cases hf : signB b
    · simp [hf]
      refine aPost_same0 hB rfl (nilV_refl _) (by simp) (fin n (run_step signB _ n hall (by rw [List.length_drop]; omega) (fun c hc => ?_)))
      rw [hb2] at hc; cases hc; exact hf
    · simp [hf, hw]
      exact Kloop_normal ⟨rfl, n + 1, by omega, by rw [all_step signB (l.drop a) n b hb2, hall, hf]; rfl, fr_intro (by simp)⟩ (by simp; omega)
  · simp [hw0, h]
    refine aPost_same0 hB rfl (nilV_refl _) (by simp) (fin n (run_step signB _ n hall (by rw [List.length_drop]; omega) (fun c hc => ?_)))
    rw [List.getElem?_drop] at hc
    have := (List.getElem?_eq_some_iff.1 hc).1
    omega
theorem inside_pc (b : UInt8) (hQ : Q (.bool (fcB b)) H) : PC Tryd.prog E 106 [.int .u8 (b.toNat : Int)] H Q := by
  refine pc_enter Tryd.func106 rfl [] [] (by kernel_rfl) (fun hB => ?_)
  have fin : ∀ c : Bool, fcB b = c → Q (.bool c) H := fun c hc => hc ▸ hQ
  have hb := b.toNat_lt
  have hi := fcB_iff b
  by_cases h9 : b.toNat = 9
  · have t1 : ((b.toNat : Int) == 9) = true := by simp; omega
    simp [Tryd.ntmps106, Tryd.results106, List.replicate_succ, t1]
    exact aPost_same0 hB rfl (nilV_refl _) (by simp) (fin _ (by rw [hi]; simp [h9]))
  · have t1 : ((b.toNat : Int) == 9) = false := by simp; omega
    by_cases h32 : 32 ≤ b.toNat
    · have t2 : (32 : Int) ≤ b.toNat := by omega
      by_cases h127 : b.toNat = 127
      · have t3 : ((b.toNat : Int) != 127) = false := by simp; omega
        simp [Tryd.ntmps106, Tryd.results106, List.replicate_succ, t1, t2, t3]
        exact aPost_same0 hB rfl (nilV_refl _) (by simp) (fin _ (by rw [hi]; simp [h127]))
      · have t3 : ((b.toNat : Int) != 127) = true := by simp; omega
        simp [Tryd.ntmps106, Tryd.results106, List.replicate_succ, t1, t2, t3]
        exact aPost_same0 hB rfl (nilV_refl _) (by simp) (fin _ (by rw [hi]; simp [h127, h32]))
    · have t2 : ¬ (32 : Int) ≤ b.toNat := by omega
      simp [Tryd.ntmps106, Tryd.results106, List.replicate_succ, t1, t2]
      exact aPost_same0 hB rfl (nilV_refl _) (by simp) (fin _ (by rw [hi]; simp [h9, h32]))
def quInv (l : List UInt8) (H : Hp) (fr : List AV) (H' : Hp) : Prop := H' = H ∧ ∃ (k : Nat) (acc : List UInt8), 1 ≤ k ∧ k ≤ l.length ∧ unqIs l acc k ∧ ∃ x : Nat → AV, fr = [.str l, x 1, x 2, .int .i64 k, x 4, x 5, x 6, x 7, x 8, x 9, x 10, x 11, x 12, x 13, x 14, x 15, x 16, x 17, x 18, x 19, x 20, x 21, x 22, x 23, x 24, x 25, x 26, x 27, x 28, x 29, x 30]
theorem quoted_pc (l : List UInt8) (hl : l.length ≤ 35184372088832) (H0 : l[0]? = some 34) (hQ : Q (.int .i64 (unqAns l).2.1) H) : PC Tryd.prog E 76 [.str l] H Q := by
  refine pc_enter Tryd.func76 rfl [] [] (by kernel_rfl) (fun hB => ?_)
  have bad : unqAns l = ([], 0, 13) → Q (.int .i64 0) H := fun h => by rw [h] at hQ; exact hQ
  have hl0 := (List.getElem?_eq_some_iff.1 H0).1
  simp [Tryd.ntmps76, Tryd.results76, List.replicate_succ]
  refine VL_go (quInv l H) (fun fr _ => l.length - (ai (aget fr 3)).toNat) ⟨rfl, 1, [], by omega, hl0, unqIs_start l, fr_intro (by simp)⟩ ?_
  rintro fr H' ⟨rfl, k, acc, hk1, hk, hu, x, rfl⟩
  have hw : IntKind.i64.wrap ((k : Int) + 1) = k + 1 := wrap_in (by omega) (by omega)
  by_cases h : k < l.length
  · obtain ⟨b, hb⟩ : ∃ b, l[k]? = some b := ⟨_, List.getElem?_eq_getElem h⟩
    have hat := lat_eq hb
    by_cases b34 : b.toNat = 34
    · have hx34 : b = 34 := UInt8.toNat_inj.1 b34
      have t1 : ((b.toNat : Int) == 34) = true := by simp; omega
      have ha := unqIs_close hu hk1 (by rw [hb, hx34]) H0
      rw [ha] at hQ
      simp [h, hat, t1, hw]
      exact aPost_same0 hB rfl (nilV_refl _) (by simp) hQ
    · have t1 : ((b.toNat : Int) == 34) = false := by simp; omega
      by_cases b92 : b.toNat = 92
      · have hx92 : b = 92 := UInt8.toNat_inj.1 b92
        have t2 : ((b.toNat : Int) == 92) = true := by simp; omega
        have hb' : l[k]? = some 92 := by rw [hb, hx92]
        by_cases h2 : k + 1 < l.length
        · obtain ⟨d, hd⟩ : ∃ d, l[k + 1]? = some d := ⟨_, List.getElem?_eq_getElem h2⟩
          have hat2 : lat l (k + 1) = some d := lat_eq hd
          have htn : ((k : Int) + 1).toNat = k + 1 := by omega
          have hge : (((k : Int) + 1) == (l.length : Int)) = false := by rw [beq_eq_false_iff_ne]; omega
          have h0k : (0 : Int) ≤ (k : Int) + 1 := by omega
          have hw2 : IntKind.i64.wrap ((k : Int) + 1 + 1) = k + 2 := wrap_in (by omega) (by omega)
          simp [h, hat, t1, t2, hw, hge, hat2, h0k, htn]
          refine inside_pc E _ _ d ?_
          cases hf : fcB d
          · simp [hf]
            exact aPost_same0 hB rfl (nilV_refl _) (by simp) (bad (unqIs_bad hu (unq_none_esc hb' hd hf) H0))
          · simp [hf, hw2]
            exact Kloop_normal ⟨rfl, k + 2, acc ++ [d], by omega, by omega, unqIs_esc hu hk1 hb' hd hf, fr_intro (by simp)⟩ (by simp; omega)
        · have hge : (((k : Int) + 1) == (l.length : Int)) = true := by rw [beq_iff_eq]; omega
          simp [h, hat, t1, t2, hw, hge]
          exact aPost_same0 hB rfl (nilV_refl _) (by simp) (bad (unqIs_bad hu (unq_none_last hb' (by omega)) H0))
      · have t2 : ((b.toNat : Int) == 92) = false := by simp; omega
        have ne1 : b ≠ 34 := by rintro rfl; exact b34 rfl
        have ne2 : b ≠ 92 := by rintro rfl; exact b92 rfl
        simp [h, hat, t1, t2]
        refine inside_pc E _ _ b ?_
        cases hf : fcB b
        · simp [hf]
          exact aPost_same0 hB rfl (nilV_refl _) (by simp) (bad (unqIs_bad hu (unq_none_plain hb ne1 ne2 hf) H0))
        · simp [hf, hat, hw]
          exact Kloop_normal ⟨rfl, k + 1, acc ++ [b], by omega, by omega, unqIs_plain hu hk1 hb ne1 ne2 hf, fr_intro (by simp)⟩ (by simp; omega)
  · simp [h]
    exact aPost_same0 hB rfl (nilV_refl _) (by simp) (bad (unqIs_bad hu (unq_none_end (by omega)) H0))
/-- Where 'said' stands. -/
theorem said_facts {l acc x : List UInt8} {k n : Nat} (hu : unqIs l acc k) (hk : 1 ≤ k) (h0 : l[0]? = some 34) (hun : unquote l = some (x, n)) : ∃ y m, unq (l.drop k) = some (y, m) ∧ x = acc ++ y ∧ m + k = n ∧ y.length + 1 ≤ m := by
  unfold unqIs at hu
  rw [show l = 34 :: l.drop 1 from drop_at l 0 34 h0, unquote, if_pos rfl] at hun
  rw [hu] at hun
  cases hq : unq (l.drop k) with
  | none => rw [hq] at hun; cases hun
  | some p =>
    rw [hq] at hun
    simp at hun
    obtain ⟨rfl, rfl⟩ := hun
    have := unq_le _ (l.drop k) p.1 p.2 (Nat.le_refl _) hq
    exact ⟨p.1, p.2, rfl, rfl, by omega, this.2.2⟩
def saInv (l : List UInt8) (n : Nat) (H : Hp) (fr : List AV) (H' : Hp) : Prop := H' = H ∧ ∃ (k : Nat) (acc : List UInt8) (z : AV), 1 ≤ k ∧ k + 1 ≤ n ∧ acc.length ≤ k ∧ unqIs l acc k ∧ (z = .sl true 1 (bts acc)) ∧ ∃ x : Nat → AV, fr = [.str l, .int .i64 n, x 2, x 3, x 4, z, .int .i64 k, x 7, x 8, x 9, x 10, x 11, x 12, x 13, x 14, x 15, x 16, x 17, x 18, x 19, x 20, x 21, x 22, x 23, x 24, x 25, x 26]
theorem said_pc (l x : List UInt8) (n : Nat) (hl : l.length ≤ 35184372088832) (H0 : l[0]? = some 34) (hun : unquote l = some (x, n)) (hQ : Q (.str x) H) : PC Tryd.prog E 77 [.str l, .int .i64 n] H Q := by
  refine pc_enter Tryd.func77 rfl [19] [] (by kernel_rfl) (fun hB => ?_)
  have hle := unquote_le hun
  have hw1 : IntKind.i64.wrap ((n : Int) - 1) = n - 1 := wrap_in (by omega) (by omega)
  simp [Tryd.ntmps77, Tryd.results77, List.replicate_succ]
  refine VL_nil 5 1 (by rfl) ?_
  simp only [List.set_cons_succ, List.set_cons_zero]
  refine VL_go (saInv l n H) (fun fr _ => n - (ai (aget fr 6)).toNat) ⟨rfl, 1, [], _, by omega, by omega, by simp, unqIs_start l, rfl, fr_intro (by simp [bts])⟩ ?_
  rintro fr H' ⟨rfl, k, acc, z, hk1, hk, hacc, hu, rfl, y, rfl⟩
  obtain ⟨r, m, hr, hx, hmk, hrm⟩ := said_facts hu hk1 H0 hun
  have hm1 : acc.length + 1 ≤ maxLen ∧ acc.length + 1 ≤ 140737488355328 := by unfold maxLen; omega
  have hw : IntKind.i64.wrap ((k : Int) + 1) = k + 1 := wrap_in (by omega) (by omega)
  by_cases h : k + 1 < n
  · have h' : (k : Int) < (n : Int) - 1 := by omega
    have hkl : k < l.length := by omega
    obtain ⟨b, hb⟩ : ∃ b, l[k]? = some b := ⟨_, List.getElem?_eq_getElem hkl⟩
    have hat := lat_eq hb
    have hd := drop_at l k b hb
    rw [hd] at hr
    have b34 : b ≠ 34 := by
      rintro rfl
      rw [show unq (34 :: l.drop (k + 1)) = some ([], 1) by unfold unq; rw [if_pos rfl]] at hr
      cases hr; omega
    by_cases b92 : b = 92
    · subst b92
      have t2 : (((92 : UInt8).toNat : Int) == 92) = true := rfl
      have h2 : k + 1 < l.length := by omega
      obtain ⟨d, hdd⟩ : ∃ d, l[k + 1]? = some d := ⟨_, List.getElem?_eq_getElem h2⟩
      have hat2 : lat l (k + 1) = some d := lat_eq hdd
      have htn : ((k : Int) + 1).toNat = k + 1 := by omega
      have h0k : (0 : Int) ≤ (k : Int) + 1 := by omega
      have hw2 : IntKind.i64.wrap ((k : Int) + 1 + 1) = k + 2 := wrap_in (by omega) (by omega)
      have hf : fcB d = true := by
        rw [drop_at l (k + 1) d hdd, unq_esc1] at hr
        cases hc : fcB d
        · rw [hc] at hr; simp at hr
        · rfl
      have hu2 := unqIs_esc hu hk1 hb hdd hf
      obtain ⟨r2, m2, _, _, hmk2, hrm2⟩ := said_facts hu2 (by omega) H0 hun
      have hsn : bts acc ++ [[AV.int .u8 (d.toNat : Int)]] = bts (acc ++ [d]) := bts_snoc acc d
      have hat' : lat l k = some 92 := hat
      simp [hw1, h', hat', hw, hat2, h0k, htn, hm1, hsn, hw2]
      exact Kloop_normal ⟨rfl, k + 2, acc ++ [d], _, by omega, by omega, by simp; omega, hu2, rfl, fr_intro (by simp)⟩ (by simp; omega)
    · have t2 : ((b.toNat : Int) == 92) = false := byte_ne b 92 (by decide) b92
      have hf : fcB b = true := by
        rw [unq_plain _ _ b34 b92] at hr
        cases hc : fcB b
        · rw [hc] at hr; simp at hr
        · rfl
      have hu2 := unqIs_plain hu hk1 hb b34 b92 hf
      obtain ⟨r2, m2, _, _, hmk2, hrm2⟩ := said_facts hu2 (by omega) H0 hun
      simp [hw1, h', hat, t2, hw, hm1, bts_snoc]
      exact Kloop_normal ⟨rfl, k + 1, acc ++ [b], _, by omega, by omega, by simp; omega, hu2, rfl, fr_intro (by simp)⟩ (by simp; omega)
  · have hn : n = k + 1 := by omega
    have hr0 : r = [] := List.length_eq_zero_iff.1 (by omega)
    have h' : ¬ (k : Int) < (n : Int) - 1 := by omega
    have hxa : x = acc := by rw [hx, hr0, List.append_nil]
    have hml : acc.length ≤ maxLen := by unfold maxLen; omega
    rw [hxa] at hQ
    simp [hw1, h', hml]
    exact aPost_same0 hB rfl (nilV_refl _) (by simp) hQ
end
end Go.Proofs.YtimhofphmgehgaaDoor
