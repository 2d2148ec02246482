/- THE ABSTRACT MACHINE: contracts out of walks that were made concretely. For every program. -/
import Derived.Test.YtimhofphmgehgaaDoorAdapt
set_option linter.unusedVariables false
set_option linter.unusedSimpArgs false
namespace Go.Proofs.YtimhofphmgehgaaDoor
open Go Go.RowKit

/-- What a call leaves that makes new blocks alone and holds nothing. -/
theorem post_freshP {E : Env} {w w' : World} {β : Nat → Nat} {Rd : Nat → Nat → Prop} {Ow : Nat → Option Hold} {H : Hp} (hHR : HR E w β Rd Ow H) (hf : Frm (fun _ => False) w w') (N : Nat → Nat → Prop) (hN : ∀ g o, N g o → w.heap.size ≤ g ∧ g < w'.heap.size) {v : AV} {c : Value}
    (hrel : Rel w' β (fun g o => Rd g o ∨ N g o) v c) (hb : Bnd H.length v) (hfree : v.free = true) : Post E w β Rd Ow H w' β (fun g o => Rd g o ∨ N g o) Ow H v c := by
  have h3 : S3 E w (fun _ => False) Rd w β Rd Ow [] H #[] := ⟨hHR, ⟨rfl, fun t x u hx => by simp at hx⟩, ⟨fun _ h => h.elim, fun _ h => h.elim, fun _ h => h.elim, fun _ _ h => h.elim, fun _ _ h => h.elim, rfl, rfl, rfl, Nat.le_refl _, fun g o h => ⟨h, rfl⟩⟩, fun x hx => by cases hx⟩
  have h4 : S3 E w (fun _ => False) Rd w' β (fun g o => Rd g o ∨ N g o) Ow [] H #[] := h3.move
    (fun g o hg => ⟨.inl hg, World.cell?_of_block (a := ⟨g, o, none⟩) (hf.block g (hHR.rds g o hg) (fun h => h))⟩)
    (fun b hb' => ⟨hf.block b hb' (fun h => h), fun o ho => ho.resolve_right (fun e => by have := (hN _ _ e).1; omega)⟩)
    (fun g o ho => by
      rcases ho with h1 | h1
      · exact Nat.lt_of_lt_of_le (hHR.rds g o h1) hf.size
      · exact (hN _ _ h1).2) hf.size hf.os hf.tape hf.output
  refine ⟨hrel, hb, fun g hg => ?_, ?_, h4.hr, fun _ _ => rfl, Nat.le_refl _, fun g o hg => ⟨.inl hg, World.cell?_of_block (a := ⟨g, o, none⟩) (hf.block g (hHR.rds g o hg) (fun h => h))⟩,
    fun b hb' hbox how => ⟨hf.block b hb' (fun h => h), how, hbox, fun o ho => ho.resolve_right (fun e => by have := (hN _ _ e).1; omega)⟩, hf.os, hf.tape, hf.output, hf.size⟩
  · rw [own0_free hfree] at hg; cases hg
  · cases v <;> simp_all [AV.dis, AV.free]

/-- A function that was walked concretely: it answers a value that stands for v, and nothing old turns. -/
theorem pc_of_calls {P : Program} {E : Env} {f : FuncId} {args : List AV} {H : Hp} {Q : AV → Hp → Prop} {v : AV} (hB : hasB P f = true) (G : World → Prop) (hE : ∀ w : World, (∀ b, E.Fix b → w.heap[b]? = E.w0.heap[b]?) → G w)
    (h : ∀ (w : World) (β : Nat → Nat) (Rd : Nat → Nat → Prop) (cargs : Array Value), G w → cargs.size = args.length → (∀ (t : Nat) x u, args[t]? = some x → cargs[t]? = some u → Rel w β Rd x u) →
      Calls P f cargs w fun e w' => ∃ c, e = .returned c ∧ Frm (fun _ => False) w w' ∧ Rel w' β (fun g o => Rd g o ∨ False) v c)
    (hb : Bnd H.length v) (hf : v.free = true) (hQ : Q v H) : PC P E f args H Q := by
  refine ⟨hB, fun w β Rd Ow cargs hHR hOw hsz hargs => ?_⟩
  refine (h w β Rd cargs (hE w fun b hb => (hHR.fix b hb).1) hsz (fun t x u hx hu => (hargs t x u hx hu).1)).mono ?_
  rintro e w' ⟨c, rfl, hF, hr⟩
  exact ⟨c, v, H, β, _, Ow, rfl, hQ, post_freshP hHR hF (fun _ _ => False) (fun _ _ h => h.elim) hr hb hf⟩
/-- A LAW, where some blocks are fixed. -/
theorem calls_of_pcF {P : Program} {f : FuncId} {args : List AV} {cargs : Array Value} {W : World} (Fix : Nat → Prop) (hFix : ∀ b, Fix b → b < W.heap.size) (Rd : Nat → Nat → Prop) (hrd : ∀ g o, Rd g o → g < W.heap.size) (hsz : cargs.size = args.length)
    (hargs : ∀ (t : Nat) x u, args[t]? = some x → cargs[t]? = some u → Rel W (fun _ => 0) Rd x u ∧ Bnd 0 x ∧ x.free = true)
    (h : ∀ (E : Env) (Q : AV → Hp → Prop), E.w0 = W → E.Fix = Fix → Q (.bool true) [] → PC P E f args [] Q) : Calls P f cargs W fun e w' => e = .returned (.bool true) ∧ Frm (fun _ => False) W w' := by
  have hp := h ⟨W, Fix, fun _ => True⟩ (fun v H' => v = .bool true) rfl rfl rfl
  refine (hp.2 W (fun _ => 0) Rd (fun _ => none) cargs ⟨fun i l hl => by simp at hl, fun i j hi => by simp at hi, fun i hi => by simp at hi, fun g h hg => (by cases hg), hrd, fun l hl => by simp at hl, fun b hb => ⟨rfl, rfl, fun i hi => by simp at hi, hFix b hb⟩⟩ (fun g h hg => by cases hg) hsz hargs).mono ?_
  rintro e w' ⟨c, v, H', β', Rd', Ow', rfl, rfl, hP⟩
  refine ⟨by rw [rel_bool hP.rel], ?_⟩
  exact ⟨hP.os, hP.tape, hP.output, hP.size, fun b hb _ => (hP.frame b hb (fun i hi => by simp at hi) rfl).1⟩
end Go.Proofs.YtimhofphmgehgaaDoor
