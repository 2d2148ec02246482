/- World: Ready. -/
import Derived.Test.YtgnjdfnjohgnlaaWld9
set_option linter.unusedVariables false
set_option linter.unusedSimpArgs false
set_option linter.unusedSectionVars false
set_option maxRecDepth 100000
namespace Go.Proofs.Ytgnjdfnjohgnlaa
open Go Go.RowKit

def rdyRow (i : Int) (a r w b : Bool) : List AV := [.int .i64 i, .bool a, .bool r, .bool w, .bool b]
/-- What the poller tells of a connection. -/
def rdy (i : Nat) (m : Cn) : List (List AV) := if m.acc = false ∨ m.cls = true then [] else
  let b := m.rst
  let r := !b && m.ri && decide (0 < m.rg)
  let w := !b && m.wi && decide (0 < m.wg)
  if b || r || w then [rdyRow i false r w b] else []
def rdyTo (ms : List Cn) : Nat → List (List AV)
  | 0 => []
  | i + 1 => rdyTo ms i ++ (match ms[i]? with | some m => rdy i m | none => [])
def mReady (ms : List Cn) : List (List AV) := (if 0 < mCount ms ms.length then [rdyRow (-1) true false false false] else []) ++ rdyTo ms ms.length
theorem rdy_len (i : Nat) (m : Cn) : (rdy i m).length ≤ 1 := by
  unfold rdy
  split
  · simp
  · dsimp only; split <;> simp
theorem rdyTo_len (ms : List Cn) : ∀ i, (rdyTo ms i).length ≤ i
  | 0 => by simp [rdyTo]
  | i + 1 => by
    have := rdyTo_len ms i
    rw [rdyTo, List.length_append]
    cases ms[i]? with
    | none => simp; omega
    | some m => have := rdy_len i m; simp only; omega
theorem rdy_bnd (N : Nat) (i : Nat) (m : Cn) : ∀ r ∈ rdy i m, ∀ x ∈ r, Bnd N x := by
  unfold rdy
  split
  · simp
  · dsimp only
    split <;> simp [rdyRow]
theorem rdyTo_bnd (N : Nat) (ms : List Cn) : ∀ i, ∀ r ∈ rdyTo ms i, ∀ x ∈ r, Bnd N x
  | 0 => by simp [rdyTo]
  | i + 1 => by
    intro r hr x hx
    rw [rdyTo] at hr
    rcases List.mem_append.1 hr with h | h
    · exact rdyTo_bnd N ms i r h x hx
    · split at h
      · exact rdy_bnd N i _ r h x hx
      · cases h
def rdyInv (w : Nat) (cs : List Nat) (ms : List Cn) (R0 : List (List AV)) (H : Hp) (fr : List AV) (H' : Hp) : Prop := ∃ J, H' = H ++ J ∧ ∃ i : Nat, i ≤ cs.length ∧ ∃ rows, rows = R0 ++ rdyTo ms i ∧ ∃ x : Nat → AV, fr = [.ptr (some (w, 0)), x 1, x 2, .sl true 5 rows, x 4, x 5, x 6, x 7, x 8, x 9, x 10, x 11, x 12, x 13, x 14, x 15, x 16, x 17, x 18, .sl false 1 (ptrs cs), .int .i64 cs.length, .int .i64 i, x 22, x 23, x 24, x 25, x 26, x 27, x 28, x 29, x 30, x 31, x 32, x 33, x 34, x 35, x 36, x 37, x 38, x 39, x 40, x 41, x 42, x 43, x 44, x 45, x 46, x 47, x 48, x 49, x 50, x 51, x 52, x 53, x 54, x 55, x 56, x 57, x 58, x 59, x 60, x 61, x 62, x 63, x 64, x 65, x 66, x 67, x 68, x 69, x 70, x 71, x 72, x 73, x 74, x 75, x 76, x 77, x 78, x 79, x 80, x 81]
section
variable (E : Env) (H : Hp) (w : Option Nat) (cs : List Nat) (ms : List Cn) (Q : AV → Hp → Prop) (hw : WO H w cs ms) (hl : ms.length ≤ 4096)
include hw hl
set_option maxHeartbeats 8000000 in
theorem ready_pc (hQ : Q (.sl false 5 (mReady ms)) H) : PC Try.prog E 23 [wpt w] H Q := by
  cases w with
  | none =>
    refine pc_enter Try.func23 rfl [12, 76] [] (by kernel_rfl) (fun hB => ?_)
    simp [Try.ntmps23, Try.results23, List.replicate_succ, wpt]
    have e : mReady ms = [] := by rw [hw.2]; rfl
    rw [e] at hQ
    exact aPost_same0 hB rfl (nilV_nil false 5) (by simp) hQ
  | some w =>
    have hbx := hw.box
    have hlen := hw.len
    refine pc_enter Try.func23 rfl [12, 76] [] (by kernel_rfl) (fun hB => ?_)
    simp [Try.ntmps23, Try.results23, List.replicate_succ, wpt]
    refine waiting_pc E H (some w) cs ms _ hw hl ?_
    have hm1 : 1 ≤ maxLen := by unfold maxLen; omega
    obtain ⟨R0, hR0, hR1, hR2⟩ : ∃ R0, mReady ms = R0 ++ rdyTo ms ms.length ∧ R0.length ≤ 1 ∧ ∀ r ∈ R0, ∀ x ∈ r, Bnd H.length x := ⟨_, rfl, by split <;> simp, by split <;> simp [rdyRow]⟩
    by_cases hc : 0 < mCount ms ms.length
    · have e0 : R0 = [rdyRow (-1) true false false false] := by
        have : mReady ms = [rdyRow (-1) true false false false] ++ rdyTo ms ms.length := by unfold mReady; rw [if_pos hc]
        rw [hR0] at this; exact List.append_cancel_right this
      simp [hc, hbx, ptrs_len, hm1]
      refine VL_go (rdyInv w cs ms R0 H) (fun fr _ => cs.length - (ai (aget fr 21)).toNat) ⟨[], by simp, 0, by omega, _, rfl, fr_intro (by simp [e0, rdyTo, rdyRow])⟩ ?_
      clear e0
      rintro fr H' ⟨J, rfl, i, hi, rows, hrows, x, rfl⟩
      by_cases h : i < cs.length
      · obtain ⟨c, hcc⟩ : ∃ c, cs[i]? = some c := ⟨_, List.getElem?_eq_getElem h⟩
        obtain ⟨m, hm⟩ : ∃ m, ms[i]? = some m := ⟨_, List.getElem?_eq_getElem (by omega)⟩
        have hat := ptrs_at hcc
        have hw2 : IntKind.i64.wrap ((i : Int) + 1) = i + 1 := wrap_in (by omega) (by omega)
        have hcm := hw.conn i c m hcc hm
        have hlt := at_lt hcm
        have hstep : rdyTo ms (i + 1) = rdyTo ms i ++ rdy i m := by rw [rdyTo, hm]
        have hrl : rows.length ≤ i + 1 := by rw [hrows, List.length_append]; have := rdyTo_len ms i; omega
        have hm2 : rows.length + 1 ≤ maxLen := by unfold maxLen; omega
        have hm3 : (rows.length + 1) * 16 ≤ 140737488355328 := by omega
        unfold Cn.av at hcm
        cases ha : m.acc
        · rw [ha] at hcm
          have hr : rdy i m = [] := by simp [rdy, ha]
          simp [h, hat, hs0 hlt, hcm, hw2]
          refine Kloop_normal ?_ ?_
          rotate_left
          · simp; omega
          exact ⟨J, rfl, i + 1, by omega, rows, by rw [hstep, hr, List.append_nil]; exact hrows, fr_intro (by simp)⟩
        · cases hcl : m.cls
          · cases hrs : m.rst
            · have key : ∀ (r wr : Bool), r = (m.ri && decide (0 < m.rg)) → wr = (m.wi && decide (0 < m.wg)) → rdy i m = if r || wr then [rdyRow i false r wr false] else [] := by
                rintro r wr rfl rfl
                unfold rdy
                rw [if_neg (by simp [ha, hcl]), hrs]
                simp
              cases hri : m.ri <;> cases hwi : m.wi <;> by_cases hg : 0 < m.rg <;> by_cases hg2 : 0 < m.wg <;> rw [ha, hcl, hrs, hri, hwi] at hcm <;> rw [hri, hwi] at key <;>
                (have hr := key _ _ rfl rfl
                 simp [hg, hg2] at hr
                 simp [h, hat, hs0 hlt, hcm, hw2, hm2, hm3, hg, hg2]
                 refine Kloop_normal ?_ ?_
                 rotate_left
                 · simp; omega
                 exact ⟨_, rfl, i + 1, by omega, rows ++ rdy i m, by rw [hstep, ← List.append_assoc, ← hrows], fr_intro (by simp [hr, rdyRow])⟩)
            · rw [ha, hcl, hrs] at hcm
              have hr : rdy i m = [rdyRow i false false false true] := by simp [rdy, ha, hcl, hrs]
              simp [h, hat, hs0 hlt, hcm, hw2, hm2, hm3]
              refine Kloop_normal ?_ ?_
              rotate_left
              · simp; omega
              exact ⟨_, rfl, i + 1, by omega, rows ++ rdy i m, by rw [hstep, ← List.append_assoc, ← hrows], fr_intro (by simp [hr, rdyRow])⟩
          · rw [ha, hcl] at hcm
            have hr : rdy i m = [] := by simp [rdy, hcl]
            simp [h, hat, hs0 hlt, hcm, hw2]
            refine Kloop_normal ?_ ?_
            rotate_left
            · simp; omega
            exact ⟨J, rfl, i + 1, by omega, rows, by rw [hstep, hr, List.append_nil]; exact hrows, fr_intro (by simp)⟩
      · simp [h]
        have : i = ms.length := by omega
        subst this
        rw [hR0, ← hrows] at hQ
        refine aPost_same hB rfl (nilV_refl _) ?_ hQ
        rw [hrows]
        refine .sl _ _ _ ?_
        intro r hr y hy
        rcases List.mem_append.1 hr with hr | hr
        · exact hR2 r hr y hy
        · exact rdyTo_bnd _ ms _ r hr y hy
    · have e0 : R0 = [] := by
        have : mReady ms = [] ++ rdyTo ms ms.length := by unfold mReady; rw [if_neg hc]
        rw [hR0] at this; exact List.append_cancel_right this
      simp [hc, hbx, ptrs_len]
      refine VL_nil 3 5 (by rfl) ?_
      simp only [List.set_cons_succ, List.set_cons_zero]
      refine VL_go (rdyInv w cs ms R0 H) (fun fr _ => cs.length - (ai (aget fr 21)).toNat) ⟨[], by simp, 0, by omega, _, rfl, fr_intro (by simp [e0, rdyTo, rdyRow])⟩ ?_
      clear e0
      rintro fr H' ⟨J, rfl, i, hi, rows, hrows, x, rfl⟩
      by_cases h : i < cs.length
      · obtain ⟨c, hcc⟩ : ∃ c, cs[i]? = some c := ⟨_, List.getElem?_eq_getElem h⟩
        obtain ⟨m, hm⟩ : ∃ m, ms[i]? = some m := ⟨_, List.getElem?_eq_getElem (by omega)⟩
        have hat := ptrs_at hcc
        have hw2 : IntKind.i64.wrap ((i : Int) + 1) = i + 1 := wrap_in (by omega) (by omega)
        have hcm := hw.conn i c m hcc hm
        have hlt := at_lt hcm
        have hstep : rdyTo ms (i + 1) = rdyTo ms i ++ rdy i m := by rw [rdyTo, hm]
        have hrl : rows.length ≤ i + 1 := by rw [hrows, List.length_append]; have := rdyTo_len ms i; omega
        have hm2 : rows.length + 1 ≤ maxLen := by unfold maxLen; omega
        have hm3 : (rows.length + 1) * 16 ≤ 140737488355328 := by omega
        unfold Cn.av at hcm
        cases ha : m.acc
        · rw [ha] at hcm
          have hr : rdy i m = [] := by simp [rdy, ha]
          simp [h, hat, hs0 hlt, hcm, hw2]
          refine Kloop_normal ?_ ?_
          rotate_left
          · simp; omega
          exact ⟨J, rfl, i + 1, by omega, rows, by rw [hstep, hr, List.append_nil]; exact hrows, fr_intro (by simp)⟩
        · cases hcl : m.cls
          · cases hrs : m.rst
            · have key : ∀ (r wr : Bool), r = (m.ri && decide (0 < m.rg)) → wr = (m.wi && decide (0 < m.wg)) → rdy i m = if r || wr then [rdyRow i false r wr false] else [] := by
                rintro r wr rfl rfl
                unfold rdy
                rw [if_neg (by simp [ha, hcl]), hrs]
                simp
              cases hri : m.ri <;> cases hwi : m.wi <;> by_cases hg : 0 < m.rg <;> by_cases hg2 : 0 < m.wg <;> rw [ha, hcl, hrs, hri, hwi] at hcm <;> rw [hri, hwi] at key <;>
                (have hr := key _ _ rfl rfl
                 simp [hg, hg2] at hr
                 simp [h, hat, hs0 hlt, hcm, hw2, hm2, hm3, hg, hg2]
                 refine Kloop_normal ?_ ?_
                 rotate_left
                 · simp; omega
                 exact ⟨_, rfl, i + 1, by omega, rows ++ rdy i m, by rw [hstep, ← List.append_assoc, ← hrows], fr_intro (by simp [hr, rdyRow])⟩)
            · rw [ha, hcl, hrs] at hcm
              have hr : rdy i m = [rdyRow i false false false true] := by simp [rdy, ha, hcl, hrs]
              simp [h, hat, hs0 hlt, hcm, hw2, hm2, hm3]
              refine Kloop_normal ?_ ?_
              rotate_left
              · simp; omega
              exact ⟨_, rfl, i + 1, by omega, rows ++ rdy i m, by rw [hstep, ← List.append_assoc, ← hrows], fr_intro (by simp [hr, rdyRow])⟩
          · rw [ha, hcl] at hcm
            have hr : rdy i m = [] := by simp [rdy, hcl]
            simp [h, hat, hs0 hlt, hcm, hw2]
            refine Kloop_normal ?_ ?_
            rotate_left
            · simp; omega
            exact ⟨J, rfl, i + 1, by omega, rows, by rw [hstep, hr, List.append_nil]; exact hrows, fr_intro (by simp)⟩
      · simp [h]
        have : i = ms.length := by omega
        subst this
        rw [hR0, ← hrows] at hQ
        refine aPost_same hB rfl (nilV_refl _) ?_ hQ
        rw [hrows]
        refine .sl _ _ _ ?_
        intro r hr y hy
        rcases List.mem_append.1 hr with hr | hr
        · exact hR2 r hr y hy
        · exact rdyTo_bnd _ ms _ r hr y hy
end
end Go.Proofs.Ytgnjdfnjohgnlaa
