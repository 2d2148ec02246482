/- The chunk layer: parameters and sizes as text, the program's and the document's. -/
import Derived.Test.YtimhofphmgehgaaDoorCjA
set_option linter.unusedVariables false
set_option linter.unnecessarySimpa false
set_option linter.unusedSimpArgs false
set_option linter.unusedSectionVars false
set_option maxRecDepth 100000
namespace Go.Proofs.YtimhofphmgehgaaDoor
open Go Go.RowKit Go.Proofs

/-- What parameters weigh. -/
def psz : List Par → Nat
  | [] => 0
  | p :: l => p.name.length + p.value.length + psz l
theorem psz_take (l : List Par) (i : Nat) : psz (l.take i) ≤ psz l := by
  induction l generalizing i with
  | nil => simp
  | cons p l ih =>
    cases i with
    | zero => simp [psz]
    | succ i => have := ih i; simp [psz]; omega
theorem psz_mem {l : List Par} {i : Nat} {p : Par} (h : l[i]? = some p) : p.name.length + p.value.length ≤ psz l := by
  induction l generalizing i with
  | nil => simp at h
  | cons q l ih =>
    cases i with
    | zero => simp at h; subst h; simp [psz]
    | succ i => have := ih (i := i) (by simpa using h); simp [psz]; omega
theorem prtV_le (v : List UInt8) : (prtV signB v).length ≤ 2 * v.length + 2 := by
  unfold prtV
  have := quoted_le v
  split <;> omega
theorem prt_le (l : List Par) : (prt signB l).length ≤ 2 * psz l + 5 * l.length := by
  induction l with
  | nil => simp [prt, psz]
  | cons p l ih =>
    have e : prt signB (p :: l) = prt1 signB p ++ prt signB l := by simp [prt]
    have := prtV_le p.value
    rw [e, List.length_append]
    have h1 : (prt1 signB p).length ≤ p.name.length + 2 * p.value.length + 5 := by
      unfold prt1
      split <;> simp <;> omega
    simp [psz]; omega
theorem prt_step (l : List Par) (i : Nat) (p : Par) (h : l[i]? = some p) : prt signB (l.take (i + 1)) = prt signB (l.take i) ++ prt1 signB p := by
  rw [List.take_add_one, h]
  simp [prt]
def prtAns (l : List Par) : List UInt8 × Int := if l.all (okPar signB) = true then (prt signB l, 0) else ([], 15)
theorem tokP_tokB (l : List UInt8) : tokP signB l = tokB l := rfl
section
variable (E : Env) (H : Hp) (Q : AV → Hp → Prop)
def printInv (l : List Par) (H : Hp) (fr : List AV) (H' : Hp) : Prop := ∃ (J : Hp) (i : Nat), H' = H ++ J ∧ i ≤ l.length ∧ (l.take i).all (okPar signB) = true ∧ ∃ x : Nat → AV, fr = [x 0, x 1, x 2, x 3, .str (prt signB (l.take i)), x 5, x 6, x 7, .sl false 3 (prs l), .int .i64 l.length, .int .i64 i, x 11, x 12, x 13, x 14, x 15, x 16, x 17, x 18, x 19, x 20, x 21, x 22, x 23, x 24, x 25, x 26, x 27, x 28, x 29, x 30, x 31, x 32, x 33, x 34, x 35, x 36, x 37, x 38, x 39, x 40, x 41, x 42, x 43, x 44, x 45, x 46, x 47, x 48, x 49, x 50, x 51, x 52, x 53, x 54, x 55, x 56, x 57]
set_option maxHeartbeats 2000000 in
theorem print_pc (hE : SE E) (l : List Par) (hl : psz l + l.length ≤ 1048577) (hQ : Q (.tup [.str (prtAns l).1, .int .i64 (prtAns l).2]) H) : PC Tryd.prog E 58 [.sl false 3 (prs l)] H Q := by
  refine pc_enter Tryd.func58 rfl [] [] (by kernel_rfl) (fun hB => ?_)
  simp [Tryd.ntmps58, Tryd.results58, List.replicate_succ]
  refine VL_go (printInv l H) (fun fr _ => l.length - (ai (aget fr 10)).toNat) ⟨[], 0, by simp, by omega, by simp, fr_intro (by simp [prt])⟩ ?_
  rintro fr H' ⟨J, i, rfl, hi, hall, x, rfl⟩
  obtain ⟨out, hout⟩ : ∃ out, prt signB (l.take i) = out := ⟨_, rfl⟩
  have hol : out.length ≤ 7 * 1048577 := by
    rw [← hout]
    have h1 := prt_le (l.take i)
    have h2 := psz_take l i
    rw [List.length_take] at h1
    omega
  rw [hout]
  by_cases h : i < l.length
  · obtain ⟨p, hp⟩ : ∃ u, l[i]? = some u := ⟨_, List.getElem?_eq_getElem h⟩
    have hat := prs_at hp
    have hw : IntKind.i64.wrap ((i : Int) + 1) = i + 1 := wrap_in (by omega) (by omega)
    have hpw := psz_mem hp
    have hst := prt_step l i p hp
    rw [hout] at hst
    have hstep := all_step (okPar signB) l i p hp
    have hstop := all_stop (okPar signB) l i p hp
    obtain ⟨nm, vl, hs⟩ := p
    simp only at hat hpw hst hstep hstop
    have bad : okPar signB ⟨nm, vl, hs⟩ = false → Q (.tup [.str [], .int .i64 15]) H := fun hb => by
      have : prtAns l = ([], 15) := by unfold prtAns; rw [if_neg (by rw [hstop hb]; simp)]
      rw [this] at hQ; exact hQ
    have ncap : nm.length ≤ cap := by simp only [cap]; omega
    have vcap : vl.length ≤ cap := by simp only [cap]; omega
    simp [h, hat]
    refine isToken_pc E _ _ hE nm ncap ?_
    cases htk : tokB nm
    · simp
      exact aPost_same hB rfl (nilV_refl _) (by simp) (bad (by simp [okPar, tokP_tokB, htk]))
    · simp
      refine isField_pc E _ _ vl vcap ?_
      cases hfd : fldB vl
      · simp
        exact aPost_same hB rfl (nilV_refl _) (by simp) (bad (by simp [okPar, tokP_tokB, htk, hfd]))
      · have hm1 : nm.length + 2 ≤ maxLen ∧ 2 + nm.length ≤ maxLen ∧ nm.length + 1 + 1 ≤ maxLen ∧ out.length + (nm.length + 1 + 1) ≤ maxLen ∧ out.length + (nm.length + 2) ≤ maxLen := by unfold maxLen; omega
        cases hs with
        | false =>
          by_cases hv : vl = []
          · subst hv
            have hok : okPar signB ⟨nm, [], false⟩ = true := by simp [okPar, tokP_tokB, htk]; rfl
            have hst2 : prt signB (l.take (i + 1)) = out ++ 59 :: 32 :: nm := by rw [hst]; simp [prt1]
            simp [hm1, hw]
            exact Kloop_normal ⟨_, i + 1, by simp; rfl, by omega, by rw [hstep, hall, hok]; rfl, fr_intro (by rw [hst2]; simp)⟩ (by simp; omega)
          · have hne : (vl != []) = true := by simpa using hv
            simp [hne]
            exact aPost_same hB rfl (nilV_refl _) (by simp) (bad (by simp [okPar, hv]))
        | true =>
          have hok : okPar signB ⟨nm, vl, true⟩ = true := by simp [okPar, tokP_tokB, htk, hfd]
          have hst2 : prt signB (l.take (i + 1)) = out ++ 59 :: 32 :: (nm ++ 61 :: prtV signB vl) := by rw [hst]; simp [prt1]
          simp [hm1]
          refine isToken_pc E _ _ hE vl vcap ?_
          cases htv : tokB vl
          · have hpv : prtV signB vl = quoted vl := by unfold prtV; rw [tokP_tokB, htv]; simp
            have hqa : quoteAns vl = (quoted vl, 0) := by rw [quoteAns, if_pos hfd]
            have hql := quoted_le vl
            rw [hpv] at hst2
            have hm2 : (quoted vl).length + 1 ≤ maxLen ∧ 1 + (quoted vl).length ≤ maxLen ∧ out.length + (nm.length + 1 + 1) + ((quoted vl).length + 1) ≤ maxLen ∧ out.length + (nm.length + 1 + 1 + ((quoted vl).length + 1)) ≤ maxLen := by unfold maxLen; omega
            simp
            refine quote_pc E _ _ vl (by omega) ?_
            simp [hqa, hm2, hw]
            exact Kloop_normal ⟨_, i + 1, by simp; rfl, by omega, by rw [hstep, hall, hok]; rfl, fr_intro (by rw [hst2]; simp)⟩ (by simp; omega)
          · have hpv : prtV signB vl = vl := by unfold prtV; rw [tokP_tokB, htv]; simp
            rw [hpv] at hst2
            have hm2 : vl.length + 1 ≤ maxLen ∧ 1 + vl.length ≤ maxLen ∧ out.length + (nm.length + 1 + 1) + (vl.length + 1) ≤ maxLen ∧ out.length + (nm.length + 1 + 1 + (vl.length + 1)) ≤ maxLen := by unfold maxLen; omega
            simp [hm2, hw]
            exact Kloop_normal ⟨_, i + 1, by simp; rfl, by omega, by rw [hstep, hall, hok]; rfl, fr_intro (by rw [hst2]; simp)⟩ (by simp; omega)
  · have ha : l.take i = l := List.take_of_length_le (by omega)
    rw [ha] at hall hout
    have : prtAns l = (out, 0) := by unfold prtAns; rw [if_pos hall, hout]
    rw [this] at hQ
    simp [h]
    exact aPost_same hB rfl (nilV_refl _) (by simp) hQ
theorem bts_cons (b : UInt8) (l : List UInt8) : bts (b :: l) = [.int .u8 (b.toNat : Int)] :: bts l := rfl
end
section
variable (E : Env) (H : Hp) (Q : AV → Hp → Prop)
def dinInv (l : List UInt8) (H : Hp) (fr : List AV) (H' : Hp) : Prop := H' = H ∧ ∃ i : Nat, i ≤ l.length ∧ fldB (l.take i) = true ∧ ∃ x : Nat → AV, fr = [.str l, x 1, x 2, .int .i64 i, x 4, x 5, x 6, x 7, x 8, x 9, x 10, x 11, x 12, x 13, x 14]
theorem dinside_pc (l : List UInt8) (hl : l.length ≤ cap) (hQ : Q (.bool (fldB l)) H) : PC Tryd.prog E 91 [.str l] H Q := by
  simp only [cap] at hl
  refine pc_enter Tryd.func91 rfl [] [] (by kernel_rfl) (fun hB => ?_)
  have fin : ∀ c : Bool, fldB l = c → Q (.bool c) H := fun c hc => hc ▸ hQ
  simp [Tryd.ntmps91, Tryd.results91, List.replicate_succ]
  refine VL_go (dinInv l H) (fun fr _ => l.length - (ai (aget fr 3)).toNat) ⟨rfl, 0, by omega, rfl, fr_intro (by simp)⟩ ?_
  rintro fr H' ⟨rfl, i, hi, hall, x, rfl⟩
  by_cases h : i < l.length
  · obtain ⟨b, hb⟩ : ∃ b, l[i]? = some b := ⟨_, List.getElem?_eq_getElem h⟩
    have hat := lat_eq hb
    have hw : IntKind.i64.wrap ((i : Int) + 1) = i + 1 := wrap_in (by omega) (by omega)
    simp [h, hat]
    refine inside_pc E _ _ b ?_
    cases hf : fcB b
    · simp [hf]
      exact aPost_same0 hB rfl (nilV_refl _) (by simp) (fin _ (all_bad fcB l i b hb hf))
    · simp [hf, hw]
      refine Kloop_normal ⟨rfl, i + 1, by omega, ?_, fr_intro (by simp)⟩ (by simp; omega)
      unfold fldB at hall ⊢
      rw [all_take fcB l i b hb, hall, hf]; rfl
  · simp [h]
    have : l.take i = l := List.take_of_length_le (by omega)
    rw [this] at hall
    exact aPost_same0 hB rfl (nilV_refl _) (by simp) (fin _ hall)
def dquInv (l : List UInt8) (H : Hp) (fr : List AV) (H' : Hp) : Prop := H' = H ∧ ∃ i : Nat, i ≤ l.length ∧ ∃ x : Nat → AV, fr = [.str l, x 1, x 2, .str (34 :: esc (l.take i)), .int .i64 i, x 5, x 6, x 7, x 8, x 9, x 10, x 11, x 12, x 13, x 14, x 15, x 16, x 17, x 18, x 19, x 20, x 21, x 22, x 23, x 24, x 25, x 26, x 27, x 28, x 29, x 30, x 31]
theorem dquote_pc (l : List UInt8) (hl : l.length ≤ 35184372088832) (hQ : Q (.str (quoted l)) H) : PC Tryd.prog E 92 [.str l] H Q := by
  refine pc_enter Tryd.func92 rfl [] [] (by kernel_rfl) (fun hB => ?_)
  simp [Tryd.ntmps92, Tryd.results92, List.replicate_succ]
  refine VL_go (dquInv l H) (fun fr _ => l.length - (ai (aget fr 4)).toNat) ⟨rfl, 0, by omega, fr_intro (by simp [esc])⟩ ?_
  rintro fr H' ⟨rfl, i, hi, x, rfl⟩
  obtain ⟨out, hout⟩ : ∃ out, 34 :: esc (l.take i) = out := ⟨_, rfl⟩
  have hlen : out.length ≤ 2 * i + 1 := by
    rw [← hout]
    have := esc_le (l.take i)
    rw [List.length_take] at this
    simp; omega
  rw [hout]
  have hm1 : out.length + 1 ≤ maxLen := by unfold maxLen; omega
  have hm2 : out.length + 1 + 1 ≤ maxLen := by unfold maxLen; omega
  have hm3 : out.length + 2 ≤ maxLen := by unfold maxLen; omega
  by_cases h : i < l.length
  · obtain ⟨b, hb⟩ : ∃ b, l[i]? = some b := ⟨_, List.getElem?_eq_getElem h⟩
    have hat := lat_eq hb
    have hst := esc_step l i b hb
    have hw : IntKind.i64.wrap ((i : Int) + 1) = i + 1 := wrap_in (by omega) (by omega)
    have hbn := b.toNat_lt
    have p1 : (0 : Int) ≤ (i : Int) + 1 := by omega
    have p2 : i + 1 ≤ l.length := h
    have htk : (l.drop i).take 1 = [b] := by rw [List.drop_eq_getElem_cons h]; simp [(List.getElem?_eq_some_iff.1 hb).2]
    by_cases h34 : b.toNat = 34 ∨ b.toNat = 92
    · have he : escB b = [92, b] := by
        rw [escB, if_pos (h34.imp (fun h => UInt8.toNat_inj.1 h) (fun h => UInt8.toNat_inj.1 h))]
      rw [he] at hst
      have hor : ∃ c : Bool, ((b.toNat : Int) == 34) = c ∧ (c = false → ((b.toNat : Int) == 92) = true) := ⟨_, rfl, fun h => by simp at h ⊢; omega⟩
      obtain ⟨c, hc1, hc2⟩ := hor
      have fin : 34 :: esc (l.take (i + 1)) = out ++ [92, b] := by rw [hst, ← hout]; simp
      cases c
      · have hc2 := hc2 rfl
        simp [h, hat, hc1, hc2, hw, hm1, hm2, hm3, p1, p2, htk]
        exact Kloop_normal ⟨rfl, i + 1, by omega, fr_intro (by rw [fin]; simp)⟩ (by simp; omega)
      · simp [h, hat, hc1, hw, hm1, hm2, hm3, p1, p2, htk]
        exact Kloop_normal ⟨rfl, i + 1, by omega, fr_intro (by rw [fin]; simp)⟩ (by simp; omega)
    · have he : escB b = [b] := by
        rw [escB, if_neg]
        rintro (rfl | rfl)
        · exact h34 (.inl rfl)
        · exact h34 (.inr rfl)
      rw [he] at hst
      have fin : 34 :: esc (l.take (i + 1)) = out ++ [b] := by rw [hst, ← hout]; simp
      have n1 : ((b.toNat : Int) == 34) = false := by simp; omega
      have n2 : ((b.toNat : Int) == 92) = false := by simp; omega
      simp [h, hat, n1, n2, hw, hm1, p1, p2, htk]
      exact Kloop_normal ⟨rfl, i + 1, by omega, fr_intro (by rw [fin]; simp)⟩ (by simp; omega)
  · have hq : quoted l = out ++ [34] := by rw [← hout, List.take_of_length_le (by omega)]; simp [quoted]
    rw [hq] at hQ
    simp [h, hm1]
    exact aPost_same0 hB rfl (nilV_refl _) (by simp) hQ
def prtOk (l : List Par) : List UInt8 × Bool := if l.all (okPar signB) = true then (prt signB l, true) else ([], false)
def dprInv (l : List Par) (H : Hp) (fr : List AV) (H' : Hp) : Prop := ∃ (J : Hp) (i : Nat), H' = H ++ J ∧ i ≤ l.length ∧ (l.take i).all (okPar signB) = true ∧ ∃ x : Nat → AV, fr = [x 0, x 1, x 2, x 3, .str (prt signB (l.take i)), x 5, x 6, .sl false 3 (prs l), .int .i64 l.length, .int .i64 i, x 10, x 11, x 12, x 13, x 14, x 15, x 16, x 17, x 18, x 19, x 20, x 21, x 22, x 23, x 24, x 25, x 26, x 27, x 28, x 29, x 30, x 31, x 32, x 33, x 34, x 35, x 36, x 37, x 38, x 39, x 40, x 41, x 42, x 43, x 44, x 45, x 46, x 47, x 48, x 49, x 50, x 51, x 52, x 53, x 54, x 55, x 56, x 57, x 58, x 59, x 60, x 61, x 62, x 63, x 64, x 65]
set_option maxHeartbeats 4000000 in
theorem dprint_pc (l : List Par) (hl : psz l + l.length ≤ 1048577) (hQ : Q (.tup [.str (prtOk l).1, .bool (prtOk l).2]) H) : PC Tryd.prog E 60 [.sl false 3 (prs l)] H Q := by
  refine pc_enter Tryd.func60 rfl [] [] (by kernel_rfl) (fun hB => ?_)
  simp [Tryd.ntmps60, Tryd.results60, List.replicate_succ]
  refine VL_go (dprInv l H) (fun fr _ => l.length - (ai (aget fr 9)).toNat) ⟨[], 0, by simp, by omega, by simp, fr_intro (by simp [prt])⟩ ?_
  rintro fr H' ⟨J, i, rfl, hi, hall, x, rfl⟩
  obtain ⟨out, hout⟩ : ∃ out, prt signB (l.take i) = out := ⟨_, rfl⟩
  have hol : out.length ≤ 7 * 1048577 := by
    rw [← hout]
    have h1 := prt_le (l.take i)
    have h2 := psz_take l i
    rw [List.length_take] at h1
    omega
  rw [hout]
  by_cases h : i < l.length
  · obtain ⟨p, hp⟩ : ∃ u, l[i]? = some u := ⟨_, List.getElem?_eq_getElem h⟩
    have hat := prs_at hp
    have hw : IntKind.i64.wrap ((i : Int) + 1) = i + 1 := wrap_in (by omega) (by omega)
    have hpw := psz_mem hp
    have hst := prt_step l i p hp
    rw [hout] at hst
    have hstep := all_step (okPar signB) l i p hp
    have hstop := all_stop (okPar signB) l i p hp
    obtain ⟨nm, vl, hs⟩ := p
    simp only at hat hpw hst hstep hstop
    have bad : okPar signB ⟨nm, vl, hs⟩ = false → Q (.tup [.str [], .bool false]) H := fun hb => by
      have : prtOk l = ([], false) := by unfold prtOk; rw [if_neg (by rw [hstop hb]; simp)]
      rw [this] at hQ; exact hQ
    have ncap : nm.length ≤ cap := by simp only [cap]; omega
    have vcap : vl.length ≤ cap := by simp only [cap]; omega
    simp [h, hat]
    refine ref_token_pc E _ _ nm ncap ?_
    cases htk : tokB nm
    · simp
      exact aPost_same hB rfl (nilV_refl _) (by simp) (bad (by simp [okPar, tokP_tokB, htk]))
    · simp
      refine dinside_pc E _ _ vl vcap ?_
      cases hfd : fldB vl
      · simp
        exact aPost_same hB rfl (nilV_refl _) (by simp) (bad (by simp [okPar, tokP_tokB, htk, hfd]))
      · have hm1 : nm.length + 2 ≤ maxLen ∧ 2 + nm.length ≤ maxLen ∧ nm.length + 1 + 1 ≤ maxLen ∧ out.length + (nm.length + 1 + 1) ≤ maxLen ∧ out.length + (nm.length + 2) ≤ maxLen := by unfold maxLen; omega
        cases hs with
        | false =>
          by_cases hv : vl = []
          · subst hv
            have hok : okPar signB ⟨nm, [], false⟩ = true := by simp [okPar, tokP_tokB, htk]; rfl
            have hst2 : prt signB (l.take (i + 1)) = out ++ 59 :: 32 :: nm := by rw [hst]; simp [prt1]
            simp [hm1, hw]
            exact Kloop_normal ⟨_, i + 1, by simp; rfl, by omega, by rw [hstep, hall, hok]; rfl, fr_intro (by rw [hst2]; simp)⟩ (by simp; omega)
          · have hne : (vl != []) = true := by simpa using hv
            simp [hne]
            exact aPost_same hB rfl (nilV_refl _) (by simp) (bad (by simp [okPar, hv]))
        | true =>
          have hok : okPar signB ⟨nm, vl, true⟩ = true := by simp [okPar, tokP_tokB, htk, hfd]
          have hst2 : prt signB (l.take (i + 1)) = out ++ 59 :: 32 :: (nm ++ 61 :: prtV signB vl) := by rw [hst]; simp [prt1]
          simp [hm1]
          refine ref_token_pc E _ _ vl vcap ?_
          cases htv : tokB vl
          · have hpv : prtV signB vl = quoted vl := by unfold prtV; rw [tokP_tokB, htv]; simp
            have hql := quoted_le vl
            rw [hpv] at hst2
            have hm2 : (quoted vl).length + 1 ≤ maxLen ∧ 1 + (quoted vl).length ≤ maxLen ∧ out.length + (nm.length + 1 + 1) + ((quoted vl).length + 1) ≤ maxLen ∧ out.length + (nm.length + 1 + 1 + ((quoted vl).length + 1)) ≤ maxLen := by unfold maxLen; omega
            simp
            refine ref_token_pc E _ _ vl vcap ?_
            simp [htv]
            refine dquote_pc E _ _ vl (by omega) ?_
            simp [hm2, hw]
            exact Kloop_normal ⟨_, i + 1, by simp; rfl, by omega, by rw [hstep, hall, hok]; rfl, fr_intro (by rw [hst2]; simp)⟩ (by simp; omega)
          · have hpv : prtV signB vl = vl := by unfold prtV; rw [tokP_tokB, htv]; simp
            rw [hpv] at hst2
            have hm2 : vl.length + 1 ≤ maxLen ∧ 1 + vl.length ≤ maxLen ∧ out.length + (nm.length + 1 + 1) + (vl.length + 1) ≤ maxLen ∧ out.length + (nm.length + 1 + 1 + (vl.length + 1)) ≤ maxLen := by unfold maxLen; omega
            simp [hm2]
            refine ref_token_pc E _ _ vl vcap ?_
            simp [htv, hw]
            exact Kloop_normal ⟨_, i + 1, by simp; rfl, by omega, by rw [hstep, hall, hok]; rfl, fr_intro (by rw [hst2]; simp)⟩ (by simp; omega)
  · have ha : l.take i = l := List.take_of_length_le (by omega)
    rw [ha] at hall hout
    have : prtOk l = (out, true) := by unfold prtOk; rw [if_pos hall, hout]
    rw [this] at hQ
    simp [h]
    exact aPost_same hB rfl (nilV_refl _) (by simp) hQ
end
end Go.Proofs.YtimhofphmgehgaaDoor
