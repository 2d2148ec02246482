/- RingExact and RingTwo answer true: out of the abstract machine. -/
import Derived.Test.YtgofogcfolhonaaRingH
import Derived.Shelf.Vars
set_option linter.unusedVariables false
set_option linter.unusedSimpArgs false
set_option linter.unusedSectionVars false
set_option maxRecDepth 100000
namespace Go.Proofs.Ytgofogcfolhonaa
open Go Go.RowKit

def rgK : List CK := [.int .i64, .int .i64, .int .i64, .u8s]
theorem kind_i64 {x : AV} (h : KindOf (.int .i64) x) : ∃ z, x = .int .i64 z ∧ -9223372036854775808 ≤ z ∧ z ≤ 9223372036854775807 := by
  cases x <;> simp [KindOf] at h
  obtain ⟨rfl, h⟩ := h
  refine ⟨_, rfl, ?_⟩
  simpa [Lit.wf, IntKind.min, IntKind.max, IntKind.signed, IntKind.bits] using h
theorem kind_u8s {x : AV} (h : KindOf .u8s x) : ∃ l, x = .sl false 1 (bts l) := by
  match x, h with
  | .sl false 1 rows, h =>
    obtain ⟨l, rfl⟩ := h
    exact ⟨l, rfl⟩
theorem rg_of_row {r : List AV} (hl : r.length = 4) (hk : ∀ (j : Nat) k y, rgK[j]? = some k → r[j]? = some y → KindOf k y) : ∃ o : RgOp, r = o.av ∧ o.wf ∧ o.p.length = wtA r := by
  match r, hl with
  | [a0, a1, a2, a3], _ =>
    obtain ⟨z0, rfl, w0⟩ := kind_i64 (hk 0 _ _ rfl rfl)
    obtain ⟨z1, rfl, w1⟩ := kind_i64 (hk 1 _ _ rfl rfl)
    obtain ⟨z2, rfl, w2⟩ := kind_i64 (hk 2 _ _ rfl rfl)
    obtain ⟨z3, rfl⟩ := kind_u8s (hk 3 _ _ rfl rfl)
    exact ⟨⟨z0, z1, z2, z3⟩, rfl, ⟨w0, w1, w2⟩, by simp [wtA]⟩
theorem rops_of_rows : ∀ (rows : List (List AV)), (∀ r ∈ rows, r.length = 4 ∧ ∀ (j : Nat) k y, rgK[j]? = some k → r[j]? = some y → KindOf k y) → wtA rows.flatten ≤ 1048576 → ∃ sc : List RgOp, rows = rops sc ∧ ∀ o ∈ sc, o.ok
  | [], _, _ => ⟨[], rfl, fun o ho => by cases ho⟩
  | r :: rows, h, hw => by
    rw [List.flatten_cons, wtA_app] at hw
    obtain ⟨sc, rfl, hs⟩ := rops_of_rows rows (fun q hq => h q (List.mem_cons_of_mem _ hq)) (by omega)
    obtain ⟨h1, h2⟩ := h r (List.mem_cons_self ..)
    obtain ⟨o, rfl, w, e⟩ := rg_of_row h1 h2
    refine ⟨o :: sc, rfl, fun o' ho' => ?_⟩
    rcases List.mem_cons.1 ho' with rfl | ho'
    · exact ⟨w, by omega⟩
    · exact hs o' ho'
/-- The cell of the greatest length that the machine's own search knows. -/
def MaxLenAt (W : World) : Prop := ∃ m, W.cell? ⟨0, 0, none⟩ = some (.int .i64 m)
theorem maxLen_of_shape {W : World} (h : W.ShapedOpen Try.prog) : MaxLenAt W :=
  cell_of_shapedOpen_int (zero := #[.int .i64 0]) (t := 3) h (of_decide_eq_true (by kernel_rfl)) (by kernel_rfl) rfl (by kernel_rfl) (by kernel_rfl) Try.underlying3
theorem calls_ring {f : FuncId} {args : List AV} {cargs : Array Value} {W : World} (hm : MaxLenAt W) (hsz : cargs.size = args.length)
    (hargs : ∀ (t : Nat) x u, args[t]? = some x → cargs[t]? = some u → Rel W (fun _ => 0) (old W) x u ∧ Bnd 0 x ∧ x.free = true)
    (h : ∀ (E : Env) (Q : AV → Hp → Prop), ME E → Q (.bool true) [] → PC Try.prog E f args [] Q) : Calls Try.prog f cargs W fun e w' => e = .returned (.bool true) ∧ Frm (fun _ => False) W w' := by
  obtain ⟨m, hm⟩ := hm
  refine calls_of_pcF (fun b => b = 0) (fun b hb => ?_) (old W) (fun _ _ h => h) hsz hargs (fun E Q h0 hf hq => h E Q ⟨by rw [hf], m, by rw [h0]; exact hm⟩ hq)
  subst hb
  exact World.block_lt_of_cell? _ _ hm
theorem rexact_true (W : World) (c : Int) (bo : Option Addr) (len cap : Nat) (rows : List (List AV)) (hr : Rel W (fun _ => 0) (old W) (.sl false 4 rows) (.slice bo len cap)) (hn : Bnd 0 (.sl false 4 rows))
    (hk : ∀ r ∈ rows, r.length = 4 ∧ ∀ (j : Nat) k y, rgK[j]? = some k → r[j]? = some y → KindOf k y) (e : rows.length = len) (hb : wtA rows.flatten + len ≤ 1048576) (hm : MaxLenAt W) :
    Calls Try.prog 12 #[.int .i64 c, .slice bo len cap] W fun e w' => e = .returned (.bool true) ∧ Frm (fun _ => False) W w' := by
  obtain ⟨sc, rfl, hs⟩ := rops_of_rows rows hk (by omega)
  refine calls_ring (args := [.int .i64 c, .sl false 4 (rops sc)]) hm rfl (fun t x u hx hu => ?_) (fun E Q hM h => rexact_pc E [] Q hM c sc (by simp at e; omega) hs h)
  match t with
  | 0 => simp at hx hu; subst hx; subst hu; exact ⟨.int _ _, .int _ _, rfl⟩
  | 1 => simp at hx hu; subst hx; subst hu; exact ⟨hr, hn, rfl⟩
  | t + 2 => simp at hx
theorem rtwo_true (W : World) (c d : Int) (bo : Option Addr) (len cap : Nat) (rows : List (List AV)) (hr : Rel W (fun _ => 0) (old W) (.sl false 4 rows) (.slice bo len cap)) (hn : Bnd 0 (.sl false 4 rows))
    (hk : ∀ r ∈ rows, r.length = 4 ∧ ∀ (j : Nat) k y, rgK[j]? = some k → r[j]? = some y → KindOf k y) (e : rows.length = len) (hb : wtA rows.flatten + len ≤ 1048576) (hm : MaxLenAt W) :
    Calls Try.prog 13 #[.int .i64 c, .int .i64 d, .slice bo len cap] W fun e w' => e = .returned (.bool true) ∧ Frm (fun _ => False) W w' := by
  obtain ⟨sc, rfl, hs⟩ := rops_of_rows rows hk (by omega)
  refine calls_ring (args := [.int .i64 c, .int .i64 d, .sl false 4 (rops sc)]) hm rfl (fun t x u hx hu => ?_) (fun E Q hM h => rtwo_pc E [] Q hM c d sc (by simp at e; omega) hs h)
  match t with
  | 0 => simp at hx hu; subst hx; subst hu; exact ⟨.int _ _, .int _ _, rfl⟩
  | 1 => simp at hx hu; subst hx; subst hu; exact ⟨.int _ _, .int _ _, rfl⟩
  | 2 => simp at hx hu; subst hx; subst hu; exact ⟨hr, hn, rfl⟩
  | t + 3 => simp at hx
end Go.Proofs.Ytgofogcfolhonaa
