/- World: a world's cells, and what only looks at it. -/
import Derived.Test.YtgnjdfnjohgnlaaWld
set_option linter.unusedVariables false
set_option linter.unusedSimpArgs false
set_option linter.unusedSectionVars false
set_option maxRecDepth 100000
namespace Go.Proofs.Ytgnjdfnjohgnlaa
open Go Go.RowKit

def ptrs (cs : List Nat) : List (List AV) := cs.map fun c => [.ptr (some (c, 0))]
theorem ptrs_len (cs : List Nat) : (ptrs cs).length = cs.length := by simp [ptrs]
theorem ptrs_at {cs : List Nat} {i c : Nat} (h : cs[i]? = some c) : lat (ptrs cs) i = some [.ptr (some (c, 0))] := by simp [lat, ptrs, h]
structure WAt (H : Hp) (w : Nat) (cs : List Nat) (ms : List Cn) : Prop where
  box : H[w]? = some [.sl true 1 (ptrs cs)]
  len : cs.length = ms.length
  conn : ∀ (i c : Nat) (m : Cn), cs[i]? = some c → ms[i]? = some m → H[c]? = some m.av
  nd : (w :: cs).Nodup
/-- A world, or none. -/
def WO (H : Hp) (w : Option Nat) (cs : List Nat) (ms : List Cn) : Prop := match w with
  | some w => WAt H w cs ms
  | none => cs = [] ∧ ms = []
def wpt (w : Option Nat) : AV := .ptr (w.map fun w => (w, 0))
theorem WO.len {H : Hp} {w : Option Nat} {cs : List Nat} {ms : List Cn} (h : WO H w cs ms) : cs.length = ms.length := by
  cases w with
  | none => rw [h.1, h.2]; rfl
  | some w => exact WAt.len h

section
variable (E : Env) (H : Hp) (w : Option Nat) (cs : List Nat) (ms : List Cn) (Q : AV → Hp → Prop)
theorem at_pc (n : Int) (hw : WO H w cs ms) (hl : ms.length ≤ 4096) (h0 : ¬ (0 ≤ n ∧ n < ms.length) → Q (.ptr none) H) (h1 : ∀ (i c : Nat) m, n = i → cs[i]? = some c → ms[i]? = some m → H[c]? = some m.av → Q (.ptr (some (c, 0))) H) :
    PC Try.prog E 27 [wpt w, .int .i64 n] H Q := by
  cases w with
  | none =>
    refine pc_enter Try.func27 rfl [] [] (by kernel_rfl) (fun hB => ?_)
    simp [Try.ntmps27, Try.results27, List.replicate_succ, wpt]
    refine aPost_same0 hB rfl (nilV_refl _) (by simp) (h0 ?_)
    rw [hw.2]; simp
  | some w =>
    have hbx := hw.box
    have hlen := hw.len
    by_cases hn : n < 0
    · refine pc_enter Try.func27 rfl [] [] (by kernel_rfl) (fun hB => ?_)
      simp [Try.ntmps27, Try.results27, List.replicate_succ, wpt, hn]
      exact aPost_same0 hB rfl (nilV_refl _) (by simp) (h0 (by omega))
    · obtain ⟨i, rfl⟩ : ∃ i : Nat, n = i := ⟨n.toNat, by omega⟩
      by_cases hi : i < cs.length
      · obtain ⟨c, hc⟩ : ∃ c, cs[i]? = some c := ⟨_, List.getElem?_eq_getElem hi⟩
        obtain ⟨m, hm⟩ : ∃ m, ms[i]? = some m := ⟨_, List.getElem?_eq_getElem (by omega)⟩
        have hat := ptrs_at hc
        have hcm := hw.conn i c m hc hm
        have hcl := at_lt hcm
        refine pc_enter Try.func27 rfl [] [] (by kernel_rfl) (fun hB => ?_)
        have hle : ¬ cs.length ≤ i := by omega
        simp [Try.ntmps27, Try.results27, List.replicate_succ, wpt, hbx, ptrs_len, hat, hle]
        exact aPost_same0 hB rfl (nilV_refl _) (by simp [hcl]) (h1 i c m rfl hc hm hcm)
      · refine pc_enter Try.func27 rfl [] [] (by kernel_rfl) (fun hB => ?_)
        simp [Try.ntmps27, Try.results27, List.replicate_succ, wpt, hbx, ptrs_len, (by omega : cs.length ≤ i)]
        exact aPost_same0 hB rfl (nilV_refl _) (by simp) (h0 (by omega))

/-- What is wrong with a connection that the server names. -/
def mServed (ms : List Cn) (n : Int) : Int := if 0 ≤ n ∧ n < ms.length then match ms[n.toNat]? with
  | some m => if m.acc = false then 240 else if m.cls then 242 else 0
  | none => 240 else 240
def mLive (ms : List Cn) (n : Int) : Int := if mServed ms n = 0 then match ms[n.toNat]? with
  | some m => if m.rst then 243 else 0
  | none => 240 else mServed ms n
theorem mServed_nat {ms : List Cn} {i : Nat} {m : Cn} (h : ms[i]? = some m) : mServed ms i = if m.acc = false then 240 else if m.cls then 242 else 0 := by
  have := (List.getElem?_eq_some_iff.1 h).1
  unfold mServed
  rw [if_pos (by omega), Int.toNat_natCast, h]
theorem served_pc (n : Int) (hw : WO H w cs ms) (hl : ms.length ≤ 4096) (h0 : mServed ms n ≠ 0 → Q (.tup [.ptr none, .int .i64 (mServed ms n)]) H)
    (h1 : ∀ (i c : Nat) m, n = i → cs[i]? = some c → ms[i]? = some m → H[c]? = some m.av → m.acc = true → m.cls = false → Q (.tup [.ptr (some (c, 0)), .int .i64 0]) H) :
    PC Try.prog E 32 [wpt w, .int .i64 n] H Q := by
  refine pc_enter Try.func32 rfl [] [] (by kernel_rfl) (fun hB => ?_)
  simp [Try.ntmps32, Try.results32, List.replicate_succ]
  refine at_pc E H w cs ms _ n hw hl (fun hn => ?_) (fun i c m hi hc hm hcm => ?_)
  · simp
    have e : mServed ms n = 240 := by unfold mServed; rw [if_neg hn]
    have := h0 (by rw [e]; decide)
    rw [e] at this
    exact aPost_same0 hB rfl (nilV_refl _) (by simp) this
  · subst hi
    have e := mServed_nat hm
    have hcm' := hcm
    unfold Cn.av at hcm
    cases ha : m.acc
    · rw [ha] at hcm e
      rw [if_pos rfl] at e
      simp [hcm]
      have := h0 (by rw [e]; decide)
      rw [e] at this
      exact aPost_same0 hB rfl (nilV_refl _) (by simp) this
    · cases hcl : m.cls
      · rw [ha, hcl] at hcm
        simp [hcm]
        exact aPost_same0 hB rfl (nilV_refl _) (by simp [at_lt hcm]) (h1 i c m rfl hc hm hcm' ha hcl)
      · rw [ha, hcl] at hcm e
        simp [hcm]
        have := h0 (by rw [e]; decide)
        rw [e] at this
        exact aPost_same0 hB rfl (nilV_refl _) (by simp) this
theorem live_pc (n : Int) (hw : WO H w cs ms) (hl : ms.length ≤ 4096) (h0 : mLive ms n ≠ 0 → Q (.tup [.ptr none, .int .i64 (mLive ms n)]) H)
    (h1 : ∀ (i c : Nat) m, n = i → cs[i]? = some c → ms[i]? = some m → H[c]? = some m.av → m.acc = true → m.cls = false → m.rst = false → Q (.tup [.ptr (some (c, 0)), .int .i64 0]) H) :
    PC Try.prog E 30 [wpt w, .int .i64 n] H Q := by
  refine pc_enter Try.func30 rfl [] [] (by kernel_rfl) (fun hB => ?_)
  simp [Try.ntmps30, Try.results30, List.replicate_succ]
  refine served_pc E H w cs ms _ n hw hl (fun hn => ?_) (fun i c m hi hc hm hcm ha hcl => ?_)
  · have e : mLive ms n = mServed ms n := by unfold mLive; rw [if_neg hn]
    rw [e] at h0
    have hb : (mServed ms n == 0) = false := by simp [hn]
    simp [hb]
    exact aPost_same0 hB rfl (nilV_refl _) (by simp) (h0 hn)
  · subst hi
    have e := mServed_nat hm
    rw [ha, hcl] at e
    have e2 : mLive ms i = if m.rst then 243 else 0 := by
      unfold mLive
      rw [if_pos (by rw [e]; rfl)]
      simp [hm]
    have hcm' := hcm
    unfold Cn.av at hcm
    cases hr : m.rst
    · rw [ha, hcl, hr] at hcm
      simp [hcm]
      exact aPost_same0 hB rfl (nilV_refl _) (by simp [at_lt hcm]) (h1 i c m rfl hc hm hcm' ha hcl hr)
    · rw [ha, hcl, hr] at hcm
      rw [hr] at e2
      simp [hcm]
      have := h0 (by rw [e2]; decide)
      rw [e2] at this
      exact aPost_same0 hB rfl (nilV_refl _) (by simp) this
end
end Go.Proofs.Ytgnjdfnjohgnlaa
