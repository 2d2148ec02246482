/- ChunkFeeds and ChunkTwo answer true: out of the abstract machine. -/
import Derived.Test.YtimhofphmgehgaaDoorCiA
set_option linter.unusedVariables false
set_option linter.unnecessarySimpa false
set_option linter.unusedSimpArgs false
set_option linter.unusedSectionVars false
set_option maxRecDepth 100000
namespace Go.Proofs.YtimhofphmgehgaaDoor
open Go Go.RowKit Go.Proofs

def coK : List CK := [.int .i64, .str]
theorem co_of_row {r : List AV} (hl : r.length = 2) (hk : ∀ (j : Nat) k y, coK[j]? = some k → r[j]? = some y → KindOf k y) : ∃ o : COp, r = o.av ∧ o.wf ∧ o.s.length = wtA r := by
  match r, hl with
  | [a0, a1], _ =>
    obtain ⟨z0, rfl, w0⟩ := kind_i64 (hk 0 _ _ rfl rfl)
    obtain ⟨z1, rfl⟩ := kind_str (hk 1 _ _ rfl rfl)
    exact ⟨⟨z0, z1⟩, rfl, w0, by simp [wtA]⟩
theorem cops_of_rows : ∀ (rows : List (List AV)), (∀ r ∈ rows, r.length = 2 ∧ ∀ (j : Nat) k y, coK[j]? = some k → r[j]? = some y → KindOf k y) → ∃ sc : List COp, rows = cops sc ∧ (∀ o ∈ sc, o.wf) ∧ txs sc = wtA rows.flatten
  | [], _ => ⟨[], rfl, (fun o ho => by cases ho), rfl⟩
  | r :: rows, h => by
    obtain ⟨sc, rfl, hs, ht⟩ := cops_of_rows rows (fun q hq => h q (List.mem_cons_of_mem _ hq))
    obtain ⟨h1, h2⟩ := h r (List.mem_cons_self ..)
    obtain ⟨o, rfl, w, e⟩ := co_of_row h1 h2
    refine ⟨o :: sc, rfl, fun o' ho' => ?_, ?_⟩
    · rcases List.mem_cons.1 ho' with rfl | ho'
      · exact w
      · exact hs o' ho'
    · rw [List.flatten_cons, wtA_app, txs, e, ht]
theorem cfeeds_true (W : World) (cs : Array Value) (ks : List AV) (op : Opened W [.int .i64, .int .i64, .int .i64] cs.toList ks) (bo : Option Addr) (len cap : Nat) (rows : List (List AV)) (hr : Rel W (fun _ => 0) (old W) (.sl false 2 rows) (.slice bo len cap)) (hn : Bnd 0 (.sl false 2 rows))
    (hk : ∀ r ∈ rows, r.length = 2 ∧ ∀ (j : Nat) k y, coK[j]? = some k → r[j]? = some y → KindOf k y) (e : rows.length = len) (hb : wtA rows.flatten + len ≤ 1048576) (hS : Signs W) :
    Calls Tryd.prog 6 #[.agg cs, .slice bo len cap] W fun e w' => e = .returned (.bool true) ∧ Frm (fun _ => False) W w' := by
  obtain ⟨m, r, f, rfl, w0, w1, w2, hrl⟩ := rel_limits op
  obtain ⟨sc, rfl, hs, ht⟩ := cops_of_rows rows hk
  refine calls_signs (args := [.agg [.int .i64 m, .int .i64 r, .int .i64 f], .sl false 2 (cops sc)]) hS rfl (fun t x u hx hu => ?_) (fun E Q hE h => lfeeds_pc E [] Q hE m r f w0.2 w1.2 w2.2 sc (by simp at e; omega) hs (by omega) h)
  match t with
  | 0 => simp at hx hu; subst hx; subst hu; exact hrl
  | 1 => simp at hx hu; subst hx; subst hu; exact ⟨hr, hn, rfl⟩
  | t + 2 => simp at hx
theorem ctwo_true (W : World) (cs : Array Value) (ks : List AV) (op : Opened W [.int .i64, .int .i64, .int .i64] cs.toList ks) (cs2 : Array Value) (ks2 : List AV) (op2 : Opened W [.int .i64, .int .i64, .int .i64] cs2.toList ks2) (bo : Option Addr) (len cap : Nat) (rows : List (List AV)) (hr : Rel W (fun _ => 0) (old W) (.sl false 2 rows) (.slice bo len cap)) (hn : Bnd 0 (.sl false 2 rows))
    (hk : ∀ r ∈ rows, r.length = 2 ∧ ∀ (j : Nat) k y, coK[j]? = some k → r[j]? = some y → KindOf k y) (e : rows.length = len) (hb : wtA rows.flatten + len ≤ 1048576) (hS : Signs W) :
    Calls Tryd.prog 7 #[.agg cs, .agg cs2, .slice bo len cap] W fun e w' => e = .returned (.bool true) ∧ Frm (fun _ => False) W w' := by
  obtain ⟨m, r, f, rfl, w0, w1, w2, hrl⟩ := rel_limits op
  obtain ⟨m2, r2, f2, rfl, x0, x1, x2, hrl2⟩ := rel_limits op2
  obtain ⟨sc, rfl, hs, ht⟩ := cops_of_rows rows hk
  refine calls_signs (args := [.agg [.int .i64 m, .int .i64 r, .int .i64 f], .agg [.int .i64 m2, .int .i64 r2, .int .i64 f2], .sl false 2 (cops sc)]) hS rfl (fun t x u hx hu => ?_) (fun E Q hE h => ltwo_pc E [] Q hE (m, r, f) (m2, r2, f2) ⟨w0.2, w1.2, w2.2⟩ ⟨x0.2, x1.2, x2.2⟩ sc (by simp at e; omega) hs (by omega) h)
  match t with
  | 0 => simp at hx hu; subst hx; subst hu; exact hrl
  | 1 => simp at hx hu; subst hx; subst hu; exact hrl2
  | 2 => simp at hx hu; subst hx; subst hu; exact ⟨hr, hn, rfl⟩
  | t + 3 => simp at hx
end Go.Proofs.YtimhofphmgehgaaDoor
