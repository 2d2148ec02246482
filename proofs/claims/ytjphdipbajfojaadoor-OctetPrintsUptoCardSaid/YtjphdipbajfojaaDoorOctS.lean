/- OctetPrints answers true. -/
import Derived.Test.YtjphdipbajfojaaDoorOctR
set_option linter.unusedVariables false
set_option linter.unusedSimpArgs false
set_option linter.unusedSectionVars false
set_option maxRecDepth 100000
namespace Go.Proofs.YtjphdipbajfojaaDoor
open Go Go.RowKit

/-- What parameters weigh. -/
def psz : List Par → Nat
  | [] => 0
  | p :: l => p.name.length + p.value.length + psz l
theorem psz_take (l : List Par) (i : Nat) : psz (l.take i) ≤ psz l := by
  induction l generalizing i with
  | nil => simp
  | cons p l ih =>
    cases i with
    | zero => simp [psz]
    | succ i => have := ih i; simp [psz]; omega
theorem psz_mem {l : List Par} {i : Nat} {p : Par} (h : l[i]? = some p) : p.name.length + p.value.length ≤ psz l := by
  induction l generalizing i with
  | nil => simp at h
  | cons q l ih =>
    cases i with
    | zero => simp at h; subst h; simp [psz]
    | succ i => have := ih (i := i) (by simpa using h); simp [psz]; omega
theorem prtV_le (v : List UInt8) : (prtV signB v).length ≤ 2 * v.length + 2 := by
  unfold prtV
  have := quoted_le v
  split <;> omega
theorem prt_le (l : List Par) : (prt signB l).length ≤ 2 * psz l + 5 * l.length := by
  induction l with
  | nil => simp [prt, psz]
  | cons p l ih =>
    have e : prt signB (p :: l) = prt1 signB p ++ prt signB l := by simp [prt]
    have := prtV_le p.value
    rw [e, List.length_append]
    have h1 : (prt1 signB p).length ≤ p.name.length + 2 * p.value.length + 5 := by
      unfold prt1
      split <;> simp <;> omega
    simp [psz]; omega
theorem prt_step (l : List Par) (i : Nat) (p : Par) (h : l[i]? = some p) : prt signB (l.take (i + 1)) = prt signB (l.take i) ++ prt1 signB p := by
  rw [List.take_add_one, h]
  simp [prt]
def prtAns (l : List Par) : List UInt8 × Int := if l.all (okPar signB) = true then (prt signB l, 0) else ([], 15)
theorem tokP_tokB (l : List UInt8) : tokP signB l = tokB l := rfl

section
variable (E : Env) (H : Hp) (Q : AV → Hp → Prop)
def printInv (l : List Par) (H : Hp) (fr : List AV) (H' : Hp) : Prop := ∃ (J : Hp) (i : Nat), H' = H ++ J ∧ i ≤ l.length ∧ (l.take i).all (okPar signB) = true ∧ ∃ x : Nat → AV, fr = [x 0, x 1, x 2, x 3, .str (prt signB (l.take i)), x 5, x 6, x 7, .sl false 3 (prs l), .int .i64 l.length, .int .i64 i, x 11, x 12, x 13, x 14, x 15, x 16, x 17, x 18, x 19, x 20, x 21, x 22, x 23, x 24, x 25, x 26, x 27, x 28, x 29, x 30, x 31, x 32, x 33, x 34, x 35, x 36, x 37, x 38, x 39, x 40, x 41, x 42, x 43, x 44, x 45, x 46, x 47, x 48, x 49, x 50, x 51, x 52, x 53, x 54, x 55, x 56, x 57]
set_option maxHeartbeats 2000000 in
theorem print_pc (hE : SE E) (l : List Par) (hl : psz l + l.length ≤ 1048576) (hQ : Q (.tup [.str (prtAns l).1, .int .i64 (prtAns l).2]) H) : PC Tryd.prog E 31 [.sl false 3 (prs l)] H Q := by
  refine pc_enter Tryd.func31 rfl [] [] (by kernel_rfl) (fun hB => ?_)
  simp [Tryd.ntmps31, Tryd.results31, List.replicate_succ]
  refine VL_go (printInv l H) (fun fr _ => l.length - (ai (aget fr 10)).toNat) ⟨[], 0, by simp, by omega, by simp, fr_intro (by simp [prt])⟩ ?_
  rintro fr H' ⟨J, i, rfl, hi, hall, x, rfl⟩
  obtain ⟨out, hout⟩ : ∃ out, prt signB (l.take i) = out := ⟨_, rfl⟩
  have hol : out.length ≤ 7 * 1048576 := by
    rw [← hout]
    have h1 := prt_le (l.take i)
    have h2 := psz_take l i
    rw [List.length_take] at h1
    omega
  rw [hout]
  by_cases h : i < l.length
  · obtain ⟨p, hp⟩ : ∃ u, l[i]? = some u := ⟨_, List.getElem?_eq_getElem h⟩
    have hat := prs_at hp
    have hw : IntKind.i64.wrap ((i : Int) + 1) = i + 1 := wrap_in (by omega) (by omega)
    have hpw := psz_mem hp
    have hst := prt_step l i p hp
    rw [hout] at hst
    have hstep := all_step (okPar signB) l i p hp
    have hstop := all_stop (okPar signB) l i p hp
    obtain ⟨nm, vl, hs⟩ := p
    simp only at hat hpw hst hstep hstop
    have bad : okPar signB ⟨nm, vl, hs⟩ = false → Q (.tup [.str [], .int .i64 15]) H := fun hb => by
      have : prtAns l = ([], 15) := by unfold prtAns; rw [if_neg (by rw [hstop hb]; simp)]
      rw [this] at hQ; exact hQ
    have ncap : nm.length ≤ cap := by simp only [cap]; omega
    have vcap : vl.length ≤ cap := by simp only [cap]; omega
    simp [h, hat]
    refine isToken_pc E _ _ hE nm ncap ?_
    cases htk : tokB nm
    · simp
      exact aPost_same hB rfl (nilV_refl _) (by simp) (bad (by simp [okPar, tokP_tokB, htk]))
    · simp
      refine isField_pc E _ _ vl vcap ?_
      cases hfd : fldB vl
      · simp
        exact aPost_same hB rfl (nilV_refl _) (by simp) (bad (by simp [okPar, tokP_tokB, htk, hfd]))
      · have hm1 : nm.length + 2 ≤ maxLen ∧ 2 + nm.length ≤ maxLen ∧ nm.length + 1 + 1 ≤ maxLen ∧ out.length + (nm.length + 1 + 1) ≤ maxLen ∧ out.length + (nm.length + 2) ≤ maxLen := by unfold maxLen; omega
        cases hs with
        | false =>
          by_cases hv : vl = []
          · subst hv
            have hok : okPar signB ⟨nm, [], false⟩ = true := by simp [okPar, tokP_tokB, htk]; rfl
            have hst2 : prt signB (l.take (i + 1)) = out ++ 59 :: 32 :: nm := by rw [hst]; simp [prt1]
            simp [hm1, hw]
            exact Kloop_normal ⟨_, i + 1, by simp; rfl, by omega, by rw [hstep, hall, hok]; rfl, fr_intro (by rw [hst2]; simp)⟩ (by simp; omega)
          · have hne : (vl != []) = true := by simpa using hv
            simp [hne]
            exact aPost_same hB rfl (nilV_refl _) (by simp) (bad (by simp [okPar, hv]))
        | true =>
          have hok : okPar signB ⟨nm, vl, true⟩ = true := by simp [okPar, tokP_tokB, htk, hfd]
          have hst2 : prt signB (l.take (i + 1)) = out ++ 59 :: 32 :: (nm ++ 61 :: prtV signB vl) := by rw [hst]; simp [prt1]
          simp [hm1]
          refine isToken_pc E _ _ hE vl vcap ?_
          cases htv : tokB vl
          · have hpv : prtV signB vl = quoted vl := by unfold prtV; rw [tokP_tokB, htv]; simp
            have hqa : quoteAns vl = (quoted vl, 0) := by rw [quoteAns, if_pos hfd]
            have hql := quoted_le vl
            rw [hpv] at hst2
            have hm2 : (quoted vl).length + 1 ≤ maxLen ∧ 1 + (quoted vl).length ≤ maxLen ∧ out.length + (nm.length + 1 + 1) + ((quoted vl).length + 1) ≤ maxLen ∧ out.length + (nm.length + 1 + 1 + ((quoted vl).length + 1)) ≤ maxLen := by unfold maxLen; omega
            simp
            refine quote_pc E _ _ vl (by omega) ?_
            simp [hqa, hm2, hw]
            exact Kloop_normal ⟨_, i + 1, by simp; rfl, by omega, by rw [hstep, hall, hok]; rfl, fr_intro (by rw [hst2]; simp)⟩ (by simp; omega)
          · have hpv : prtV signB vl = vl := by unfold prtV; rw [tokP_tokB, htv]; simp
            rw [hpv] at hst2
            have hm2 : vl.length + 1 ≤ maxLen ∧ 1 + vl.length ≤ maxLen ∧ out.length + (nm.length + 1 + 1) + (vl.length + 1) ≤ maxLen ∧ out.length + (nm.length + 1 + 1 + (vl.length + 1)) ≤ maxLen := by unfold maxLen; omega
            simp [hm2, hw]
            exact Kloop_normal ⟨_, i + 1, by simp; rfl, by omega, by rw [hstep, hall, hok]; rfl, fr_intro (by rw [hst2]; simp)⟩ (by simp; omega)
  · have ha : l.take i = l := List.take_of_length_le (by omega)
    rw [ha] at hall hout
    have : prtAns l = (out, 0) := by unfold prtAns; rw [if_pos hall, hout]
    rw [this] at hQ
    simp [h]
    exact aPost_same hB rfl (nilV_refl _) (by simp) hQ

def refPrintInv (l : List Par) (H : Hp) (fr : List AV) (H' : Hp) : Prop := ∃ (J : Hp) (i : Nat), H' = H ++ J ∧ i ≤ l.length ∧ (l.take i).all (okPar signB) = true ∧ ∃ x : Nat → AV, fr = [.sl false 3 (prs l), x 1, x 2, x 3, .sl true 1 (bts (prt signB (l.take i))), .int .i64 i, x 6, x 7, x 8, x 9, x 10, x 11, x 12, x 13, x 14, x 15, x 16, x 17, x 18, x 19, x 20, x 21, x 22, x 23, x 24, x 25, x 26, x 27, x 28, x 29, x 30, x 31, x 32, x 33, x 34, x 35, x 36, x 37, x 38, x 39, x 40, x 41, x 42, x 43, x 44, x 45, x 46, x 47, x 48, x 49, x 50, x 51, x 52, x 53, x 54, x 55, x 56, x 57, x 58, x 59, x 60, x 61]
theorem bts_cons (b : UInt8) (l : List UInt8) : bts (b :: l) = [.int .u8 (b.toNat : Int)] :: bts l := rfl
set_option maxHeartbeats 2000000 in
theorem ref_print_pc (l : List Par) (hl : psz l + l.length ≤ 1048576) (hQ : Q (.tup [.str (prtAns l).1, .int .i64 (prtAns l).2]) H) : PC Tryd.prog E 32 [.sl false 3 (prs l)] H Q := by
  refine pc_enter Tryd.func32 rfl [39, 56] [] (by kernel_rfl) (fun hB => ?_)
  simp [Tryd.ntmps32, Tryd.results32, List.replicate_succ]
  refine VL_go (refPrintInv l H) (fun fr _ => l.length - (ai (aget fr 5)).toNat) ⟨[], 0, by simp, by omega, by simp, fr_intro (by simp [prt, bts])⟩ ?_
  rintro fr H' ⟨J, i, rfl, hi, hall, x, rfl⟩
  obtain ⟨out, hout⟩ : ∃ out, prt signB (l.take i) = out := ⟨_, rfl⟩
  have hol : out.length ≤ 7 * 1048576 := by
    rw [← hout]
    have h1 := prt_le (l.take i)
    have h2 := psz_take l i
    rw [List.length_take] at h1
    omega
  rw [hout]
  by_cases h : i < l.length
  · obtain ⟨p, hp⟩ : ∃ u, l[i]? = some u := ⟨_, List.getElem?_eq_getElem h⟩
    have hat := prs_at hp
    have hw : IntKind.i64.wrap ((i : Int) + 1) = i + 1 := wrap_in (by omega) (by omega)
    have hpw := psz_mem hp
    have hst := prt_step l i p hp
    rw [hout] at hst
    have hstep := all_step (okPar signB) l i p hp
    have hstop := all_stop (okPar signB) l i p hp
    obtain ⟨nm, vl, hs⟩ := p
    simp only at hat hpw hst hstep hstop
    have bad : okPar signB ⟨nm, vl, hs⟩ = false → Q (.tup [.str [], .int .i64 15]) H := fun hb => by
      have : prtAns l = ([], 15) := by unfold prtAns; rw [if_neg (by rw [hstop hb]; simp)]
      rw [this] at hQ; exact hQ
    have ncap : nm.length ≤ cap := by simp only [cap]; omega
    have vcap : vl.length ≤ cap := by simp only [cap]; omega
    simp [h, hat]
    refine ref_token_pc E _ _ nm ncap ?_
    cases htk : tokB nm
    · simp
      exact aPost_same hB rfl (nilV_refl _) (by simp) (bad (by simp [okPar, tokP_tokB, htk]))
    · simp
      refine ref_field_pc E _ _ vl vcap ?_
      cases hfd : fldB vl
      · simp
        exact aPost_same hB rfl (nilV_refl _) (by simp) (bad (by simp [okPar, tokP_tokB, htk, hfd]))
      · have big : ∀ n, n ≤ 16777216 → n ≤ maxLen ∧ n ≤ 140737488355328 := fun n hn => by unfold maxLen; omega
        have hm1 := big (nm.length + 1 + 1) (by omega)
        have hm1' := big (out.length + (nm.length + 1 + 1)) (by omega)
        have hm1'' := big (out.length + (nm.length + 2)) (by omega)
        have hm0 := big (2 + nm.length) (by omega)
        have hm0' := big (nm.length + 2) (by omega)
        cases hs with
        | false =>
          by_cases hv : vl = []
          · subst hv
            have hok : okPar signB ⟨nm, [], false⟩ = true := by simp [okPar, tokP_tokB, htk]; rfl
            have hst2 : prt signB (l.take (i + 1)) = out ++ 59 :: 32 :: nm := by rw [hst]; simp [prt1]
            simp [hm1, hm1', hm1'', hm0, hm0', hw]
            exact Kloop_normal ⟨_, i + 1, by simp; rfl, by omega, by rw [hstep, hall, hok]; rfl, fr_intro (by rw [hst2]; simp [bts])⟩ (by simp; omega)
          · have hne : (vl != []) = true := by simpa using hv
            simp [hne]
            exact aPost_same hB rfl (nilV_refl _) (by simp) (bad (by simp [okPar, hv]))
        | true =>
          have hok : okPar signB ⟨nm, vl, true⟩ = true := by simp [okPar, tokP_tokB, htk, hfd]
          have hst2 : prt signB (l.take (i + 1)) = out ++ 59 :: 32 :: (nm ++ 61 :: prtV signB vl) := by rw [hst]; simp [prt1]
          simp [hm1, hm1', hm1'', hm0, hm0']
          refine ref_token_pc E _ _ vl vcap ?_
          cases htv : tokB vl
          · have hpv : prtV signB vl = quoted vl := by unfold prtV; rw [tokP_tokB, htv]; simp
            have hqa : quoteAns vl = (quoted vl, 0) := by rw [quoteAns, if_pos hfd]
            have hql := quoted_le vl
            rw [hpv] at hst2
            have k1 := big ((quoted vl).length + 1) (by omega)
            have k2 := big (1 + (quoted vl).length) (by omega)
            have k3 := big (out.length + (nm.length + 1 + 1) + ((quoted vl).length + 1)) (by omega)
            have k4 := big (out.length + (nm.length + 1 + 1 + ((quoted vl).length + 1))) (by omega)
            simp
            refine ref_quote_pc E _ _ vl (by omega) ?_
            simp [hqa, k1, k2, k3, k4, hw]
            exact Kloop_normal ⟨_, i + 1, by simp; rfl, by omega, by rw [hstep, hall, hok]; rfl, fr_intro (by rw [hst2]; simp [bts])⟩ (by simp; omega)
          · have hpv : prtV signB vl = vl := by unfold prtV; rw [tokP_tokB, htv]; simp
            rw [hpv] at hst2
            have k1 := big (vl.length + 1) (by omega)
            have k2 := big (1 + vl.length) (by omega)
            have k3 := big (out.length + (nm.length + 1 + 1) + (vl.length + 1)) (by omega)
            have k4 := big (out.length + (nm.length + 1 + 1 + (vl.length + 1))) (by omega)
            simp [k1, k2, k3, k4, hw]
            exact Kloop_normal ⟨_, i + 1, by simp; rfl, by omega, by rw [hstep, hall, hok]; rfl, fr_intro (by rw [hst2]; simp [bts])⟩ (by simp; omega)
  · have ha : l.take i = l := List.take_of_length_le (by omega)
    rw [ha] at hall hout
    have : prtAns l = (out, 0) := by unfold prtAns; rw [if_pos hall, hout]
    rw [this] at hQ
    simp [h]
    exact aPost_same hB rfl (nilV_refl _) (by simp) hQ
theorem sg_blank : ∀ n, n < 256 → signB (UInt8.ofNat n) = true → blankB (UInt8.ofNat n) = false := by decide
theorem prints_pc (hE : SE E) (l : List Par) (hl : psz l + l.length ≤ 1048576) (hQ : Q (.bool true) H) : PC Tryd.prog E 8 [.sl false 3 (prs l)] H Q := by
  have hm : l.length ≤ maxLen ∧ l.length * 40 ≤ 140737488355328 := by unfold maxLen; omega
  refine pc_enter Tryd.func8 rfl [11] [] (by kernel_rfl) (fun hB => ?_)
  simp [Tryd.ntmps8, Tryd.results8, List.replicate_succ, hm]
  refine print_pc E _ _ hE l (by omega) ?_
  simp
  refine given_pc E _ _ l (by omega) ?_
  simp
  refine ref_print_pc E _ _ l (by omega) ?_
  simp
  refine awake_pc E _ _ hE ?_
  simp
  refine given_pc E _ _ l (by omega) ?_
  simp
  refine alike_pc E _ _ l l (by simp only [cap]; omega) ?_
  cases hok : l.all (okPar signB) with
  | false =>
    have ha : prtAns l = ([], 15) := by unfold prtAns; rw [hok]; rfl
    simp [ha]
    exact aPost_same0 hB rfl (nilV_refl _) (by simp) hQ
  | true =>
    have ha : prtAns l = (prt signB l, 0) := by unfold prtAns; rw [hok]; rfl
    have hback := pars_prt signB (by decide) (by decide) (by decide) (fun c hc => by have := sg_blank c.toNat c.toNat_lt; rw [u8_ofNat] at this; exact this hc) l (fun p hp => List.all_eq_true.1 hok p hp)
    have hpa : parAns (prt signB l) = (l, ((prt signB l).length : Int), 0) := by unfold parAns; rw [hback]
    have hple := prt_le l
    simp [ha]
    refine params_pc E _ _ hE (prt signB l) (by omega) ?_
    simp [hpa]
    refine given_pc E _ _ l (by omega) ?_
    simp
    refine alike_pc E _ _ l l (by simp only [cap]; omega) ?_
    simp
    exact aPost_same0 hB rfl (nilV_refl _) (by simp) hQ
end
theorem kindS {x : AV} (h : KindOf .str x) : ∃ z, x = .str z := by
  cases x <;> simp [KindOf] at h
  exact ⟨_, rfl⟩
theorem kindB {x : AV} (h : KindOf .bool x) : ∃ z, x = .bool z := by
  cases x <;> simp [KindOf] at h
  exact ⟨_, rfl⟩
theorem pars_of_rows : ∀ (rows : List (List AV)), (∀ r ∈ rows, r.length = 3 ∧ ∀ (j : Nat) k y, [CK.str, .str, .bool][j]? = some k → r[j]? = some y → KindOf k y) → ∃ ls, rows = prs ls ∧ psz ls ≤ wtA rows.flatten
  | [], _ => ⟨[], rfl, by simp [psz]⟩
  | r :: rows, h => by
    obtain ⟨ls, rfl, hw⟩ := pars_of_rows rows (fun q hq => h q (List.mem_cons_of_mem _ hq))
    obtain ⟨h1, h2⟩ := h r (List.mem_cons_self ..)
    match r, h1 with
    | [a, b, c], _ =>
      have ha := h2 0 _ _ rfl rfl
      have hb := h2 1 _ _ rfl rfl
      have hc := h2 2 _ _ rfl rfl
      obtain ⟨x, rfl⟩ := kindS ha
      obtain ⟨y, rfl⟩ := kindS hb
      obtain ⟨z, rfl⟩ := kindB hc
      refine ⟨⟨x, y, z⟩ :: ls, rfl, ?_⟩
      rw [List.flatten_cons, wtA_app]
      simp [psz, wtA] at hw ⊢
      omega
theorem prints_true (W : World) (bo : Option Addr) (len cap : Nat) (rows : List (List AV)) (hr : Rel W (fun _ => 0) (old W) (.sl false 3 rows) (.slice bo len cap)) (hn : Bnd 0 (.sl false 3 rows))
    (hk : ∀ r ∈ rows, r.length = 3 ∧ ∀ (j : Nat) k y, [CK.str, .str, .bool][j]? = some k → r[j]? = some y → KindOf k y) (e : rows.length = len) (hb : wtA rows.flatten + len ≤ 1048576) (hS : Signs W) :
    Calls Tryd.prog 8 #[.slice bo len cap] W fun e w' => e = .returned (.bool true) ∧ Frm (fun _ => False) W w' := by
  obtain ⟨ls, rfl, hw⟩ := pars_of_rows rows hk
  refine calls_of_pcF (args := [.sl false 3 (prs ls)]) (fun b => b = 0) (law_fix W hS) (old W) (fun _ _ h => h) rfl (fun t x u hx hu => ?_) (fun E Q e1 e2 h => prints_pc E [] Q ⟨by rw [e2], by rw [e1]; exact hS⟩ ls (by simp at e; omega) h)
  match t with
  | 0 => simp at hx hu; subst hx; subst hu; exact ⟨hr, hn, rfl⟩
  | t + 1 => simp at hx
end Go.Proofs.YtjphdipbajfojaaDoor
