/- World: New, Line, Do. -/
import Derived.Test.YtgnjdfnjohgnlaaWld5
set_option linter.unusedVariables false
set_option linter.unusedSimpArgs false
set_option linter.unusedSectionVars false
set_option maxRecDepth 100000
namespace Go.Proofs.Ytgnjdfnjohgnlaa
open Go Go.RowKit

def Cn.new : Cn := { del := [], rd := 0, rg := 0, tak := [], wg := 0, acc := false, ended := false, rst := false, cls := false, ri := false, wi := false }
def Cn.line (m : Cn) : List AV := [.bool m.acc, .bool m.ended, .bool m.rst, .bool m.cls, .bool m.ri, .bool m.wi, .int .i64 m.del.length, .int .i64 m.rd, .int .i64 m.tak.length, .int .i64 m.rg, .int .i64 m.wg]
theorem new_pc (E : Env) (H : Hp) (Q : AV → Hp → Prop) (hQ : Q (.ptr (some (H.length, 0))) (H ++ [[.sl true 1 []]])) : PC Try.prog E 10 [] H Q := by
  refine pc_enter Try.func10 rfl [] [] (by kernel_rfl) (fun hB => ?_)
  simp [Try.ntmps10, Try.results10, List.replicate_succ]
  refine ⟨.ptr (some (H.length, 0)), .ptr (some (H.length, 0)), H ++ [[.sl true 1 []]], H ++ [[.sl true 1 []]], [], rfl, nilV_refl _, nilH_app H ⟨⟨.inr ⟨rfl, _, _, rfl⟩, trivial⟩, trivial⟩, by simp, by simp, ?_, by simp, hQ⟩
  intro l hl x hx
  rcases List.mem_append.1 hl with h | h
  · exact (hB l h x hx).mono (by simp)
  · simp at h; subst h; simp at hx; subst hx; simp
section
variable (E : Env) (H : Hp) (w : Option Nat) (cs : List Nat) (ms : List Cn) (Q : AV → Hp → Prop) (n : Int) (hw : WO H w cs ms) (hl : ms.length ≤ 4096)
include hw hl
theorem line_pc (h0 : ¬ (0 ≤ n ∧ n < ms.length) → Q (.tup [.agg Cn.new.line, .int .i64 240]) H) (h1 : ∀ (i : Nat) m, n = i → ms[i]? = some m → Q (.tup [.agg m.line, .int .i64 0]) H) :
    PC Try.prog E 17 [wpt w, .int .i64 n] H Q := by
  refine pc_enter Try.func17 rfl [] [] (by kernel_rfl) (fun hB => ?_)
  simp [Try.ntmps17, Try.results17, List.replicate_succ]
  have hW : ∀ J, WO (H ++ J) w cs ms := fun J => by
    cases w with
    | none => exact hw
    | some w => exact ⟨by rw [hs0 (at_lt hw.box)]; exact hw.box, hw.len, fun i c m hc hm => by rw [hs0 (at_lt (hw.conn i c m hc hm))]; exact hw.conn i c m hc hm, hw.nd⟩
  refine at_pc E _ w cs ms _ n (hW _) hl (fun hn => ?_) (fun i c m hi hc hm hcm => ?_)
  · simp
    exact aPost_same (v0 := .tup [.agg Cn.new.line, .int .i64 240]) hB (by simp [Cn.line, Cn.new]) (nilV_refl _) (by simp [Cn.line]) (h0 hn)
  · unfold Cn.av at hcm
    simp [hcm]
    exact aPost_same (v0 := .tup [.agg m.line, .int .i64 0]) hB (by simp [Cn.line]) (nilV_refl _) (by simp [Cn.line]) (h1 i m hi hm)

/-- An event that is not a connection's coming, at one connection. -/
def cEvent (m : Cn) (k i : Int) (d : List UInt8) : Option Cn :=
  if m.rst ∨ m.cls then none
  else if k = 2 then (if m.ended then none else some { m with del := m.del ++ d })
  else if k = 3 then (if m.ended then none else some { m with ended := true })
  else if k = 4 then some { m with rst := true }
  else if k = 5 then (if i < 1 then none else some { m with rg := i })
  else if k = 6 then (if i < 1 then none else some { m with wg := i })
  else none
theorem acts_pc (k : Int) (hk : 2 ≤ k ∧ k ≤ 6) (hQ : Q (.fn (if k = 2 then 42 else if k = 3 then 43 else if k = 4 then 44 else if k = 5 then 45 else 46) []) H) :
    PC Try.prog E 28 [.int .i64 k] H Q := by
  refine pc_enter Try.func28 rfl [] [] (by kernel_rfl) (fun hB => ?_)
  have hc : k = 2 ∨ k = 3 ∨ k = 4 ∨ k = 5 ∨ k = 6 := by omega
  rcases hc with rfl | rfl | rfl | rfl | rfl
  · simp [Try.ntmps28, Try.results28, List.replicate_succ]
    exact aPost_same0 hB rfl (nilV_refl _) (by simp) hQ
  · simp [Try.ntmps28, Try.results28, List.replicate_succ]
    exact aPost_same0 hB rfl (nilV_refl _) (by simp) hQ
  · simp [Try.ntmps28, Try.results28, List.replicate_succ]
    exact aPost_same0 hB rfl (nilV_refl _) (by simp) hQ
  · simp [Try.ntmps28, Try.results28, List.replicate_succ]
    exact aPost_same0 hB rfl (nilV_refl _) (by simp) hQ
  · simp [Try.ntmps28, Try.results28, List.replicate_succ]
    exact aPost_same0 hB rfl (nilV_refl _) (by simp) hQ
end
end Go.Proofs.Ytgnjdfnjohgnlaa
