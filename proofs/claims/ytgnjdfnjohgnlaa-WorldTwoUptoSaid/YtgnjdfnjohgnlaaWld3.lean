/- World: the calls about one connection. -/
import Derived.Test.YtgnjdfnjohgnlaaWld2
set_option linter.unusedVariables false
set_option linter.unusedSimpArgs false
set_option linter.unusedSectionVars false
set_option maxRecDepth 100000
namespace Go.Proofs.Ytgnjdfnjohgnlaa
open Go Go.RowKit

theorem bts_drop (l : List UInt8) (k : Nat) : (bts l).drop k = bts (l.drop k) := by simp [bts]
theorem bts_take (l : List UInt8) (k : Nat) : (bts l).take k = bts (l.take k) := by simp [bts]
theorem set_same {H : Hp} {c : Nat} {l : List AV} (h : H[c]? = some l) : H.set c l = H := by
  refine List.ext_getElem? fun j => ?_
  by_cases hj : j = c
  · subst hj; rw [List.getElem?_set_self (List.getElem?_eq_some_iff.1 h).1, h]
  · rw [List.getElem?_set_ne (Ne.symm hj)]
theorem mLive_nat {ms : List Cn} {i : Nat} {m : Cn} (h : ms[i]? = some m) (ha : m.acc = true) (hc : m.cls = false) (hr : m.rst = false) : mLive ms i = 0 := by
  unfold mLive
  rw [mServed_nat h, ha, hc]
  simp [h, hr]

/-- What a connection that is live answers. -/
def cRead (m : Cn) (k : Int) : Cn × List UInt8 × Bool × Int :=
  if k < 1 then (m, [], false, 1) else if m.rg = 0 then (m, [], false, 244) else
    let n : Int := min k m.rg
    if m.rd < m.del.length then
      let s := (m.del.drop m.rd).take n.toNat
      ({ m with rg := 0, rd := m.rd + s.length }, s, false, 0)
    else if m.ended then ({ m with rg := 0 }, [], true, 0) else ({ m with rg := 0 }, [], false, 244)
def cWrite (m : Cn) (s : List UInt8) : Cn × Nat × Int :=
  if m.wg = 0 ∨ s = [] then (m, 0, 244) else
    let t := s.take m.wg.toNat
    ({ m with wg := 0, tak := m.tak ++ t }, t.length, 0)
def Cn.ok (m : Cn) : Prop := m.rd ≤ m.del.length ∧ 0 ≤ m.rg ∧ 0 ≤ m.wg ∧ m.del.length ≤ 140737488355328 ∧ m.tak.length ≤ 140737488355328

section
variable (E : Env) (H : Hp) (w : Option Nat) (cs : List Nat) (ms : List Cn) (Q : AV → Hp → Prop) (n : Int) (hw : WO H w cs ms) (hl : ms.length ≤ 4096)
include hw hl
theorem interest_pc (r i' : Bool) (h0 : mLive ms n ≠ 0 → Q (.int .i64 (mLive ms n)) H)
    (h1 : ∀ (i c : Nat) m, n = i → cs[i]? = some c → ms[i]? = some m → H[c]? = some m.av → mLive ms n = 0 → Q (.int .i64 0) (H.set c { m with ri := r, wi := i' }.av)) :
    PC Try.prog E 16 [wpt w, .int .i64 n, .bool r, .bool i'] H Q := by
  refine pc_enter Try.func16 rfl [] [] (by kernel_rfl) (fun hB => ?_)
  simp [Try.ntmps16, Try.results16, List.replicate_succ]
  refine live_pc E H w cs ms _ n hw hl (fun hn => ?_) (fun i c m hi hc hm hcm ha hcl hr => ?_)
  · have hb : (mLive ms n == 0) = false := by simp [hn]
    simp [hb]
    exact aPost_same0 hB rfl (nilV_refl _) (by simp) (h0 hn)
  · subst hi
    have hlt := at_lt hcm
    have := h1 i c m rfl hc hm hcm (mLive_nat hm ha hcl hr)
    unfold Cn.av at hcm
    simp [hcm, hs0 hlt, hs1 hlt, hs2 hlt, hs3 hlt, hs4 hlt, hs5 hlt]
    exact aPost_set0 hB rfl (nilV_refl _) (by simp) (by simp) this
theorem close_pc (h0 : mServed ms n ≠ 0 → Q (.int .i64 (mServed ms n)) H)
    (h1 : ∀ (i c : Nat) m, n = i → cs[i]? = some c → ms[i]? = some m → H[c]? = some m.av → mServed ms n = 0 → Q (.int .i64 0) (H.set c { m with cls := true, ri := false, wi := false, rg := 0, wg := 0 }.av)) :
    PC Try.prog E 20 [wpt w, .int .i64 n] H Q := by
  refine pc_enter Try.func20 rfl [] [] (by kernel_rfl) (fun hB => ?_)
  simp [Try.ntmps20, Try.results20, List.replicate_succ]
  refine served_pc E H w cs ms _ n hw hl (fun hn => ?_) (fun i c m hi hc hm hcm ha hcl => ?_)
  · have hb : (mServed ms n == 0) = false := by simp [hn]
    simp [hb]
    exact aPost_same0 hB rfl (nilV_refl _) (by simp) (h0 hn)
  · subst hi
    have hlt := at_lt hcm
    have := h1 i c m rfl hc hm hcm (by rw [mServed_nat hm, ha, hcl]; rfl)
    unfold Cn.av at hcm
    simp [hcm, hs0 hlt, hs1 hlt, hs2 hlt, hs3 hlt, hs4 hlt, hs5 hlt]
    exact aPost_set0 hB rfl (nilV_refl _) (by simp) (by simp) this
theorem delivered_pc (h0 : ¬ (0 ≤ n ∧ n < ms.length) → Q (.str []) H) (h1 : ∀ (i : Nat) m, n = i → ms[i]? = some m → Q (.str m.del) H) :
    PC Try.prog E 21 [wpt w, .int .i64 n] H Q := by
  refine pc_enter Try.func21 rfl [] [] (by kernel_rfl) (fun hB => ?_)
  simp [Try.ntmps21, Try.results21, List.replicate_succ]
  refine at_pc E H w cs ms _ n hw hl (fun hn => ?_) (fun i c m hi hc hm hcm => ?_)
  · simp
    exact aPost_same0 hB rfl (nilV_refl _) (by simp) (h0 hn)
  · unfold Cn.av at hcm
    simp [hcm]
    exact aPost_same0 hB rfl (nilV_refl _) (by simp) (h1 i m hi hm)
theorem taken_pc (h0 : ¬ (0 ≤ n ∧ n < ms.length) → Q (.str []) H) (h1 : ∀ (i : Nat) m, n = i → ms[i]? = some m → Q (.str m.tak) H) :
    PC Try.prog E 22 [wpt w, .int .i64 n] H Q := by
  refine pc_enter Try.func22 rfl [] [] (by kernel_rfl) (fun hB => ?_)
  simp [Try.ntmps22, Try.results22, List.replicate_succ]
  refine at_pc E H w cs ms _ n hw hl (fun hn => ?_) (fun i c m hi hc hm hcm => ?_)
  · simp
    exact aPost_same0 hB rfl (nilV_refl _) (by simp) (h0 hn)
  · unfold Cn.av at hcm
    simp [hcm]
    exact aPost_same0 hB rfl (nilV_refl _) (by simp) (h1 i m hi hm)
omit hl hw in
theorem granted_pc (c p : Nat) (l : List AV) (g : Int) (hc : H[c]? = some l) (hp : l[p + 2]? = some (.int .i64 g)) (hlb : BndH H.length H → ∀ x ∈ l, Bnd H.length x) (hQ : Q (.int .i64 g) (H.set c (l.set (p + 2) (.int .i64 0)))) : PC Try.prog E 31 [.ptr (some (c, p))] H Q := by
  refine pc_enter Try.func31 rfl [] [] (by kernel_rfl) (fun hB => ?_)
  have hlt := at_lt hc
  have hpl : p + 2 < l.length := (List.getElem?_eq_some_iff.1 hp).1
  have e : setR l (p + 2) [.int .i64 0] = l.set (p + 2) (.int .i64 0) := by
    rw [List.set_eq_take_append_cons_drop, if_pos hpl]; simp [setR]
  simp [Try.ntmps31, Try.results31, List.replicate_succ, hc, hp, hs0 hlt, hs1 hlt, hs2 hlt, hs3 hlt, hs4 hlt, hs5 hlt, -setR, e, (by omega : p + 2 + 1 ≤ l.length)]
  refine aPost_set0 hB rfl (nilV_refl _) (fun x hx => ?_) (by simp) hQ
  rcases List.mem_or_eq_of_mem_set hx with h | h
  · exact hlb hB x h
  · rw [h]; simp
end
end Go.Proofs.Ytgnjdfnjohgnlaa
