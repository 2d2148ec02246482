/- THE ABSTRACT MACHINE: out of it. For every program. -/
import Derived.Test.YtimhofphmgehgaaDoorAm15
set_option linter.unusedVariables false
set_option linter.unusedSimpArgs false
namespace Go.Proofs.YtimhofphmgehgaaDoor
open Go Go.RowKit

/-- What a call leaves is closed. -/
theorem PC.bnd {P : Program} {E : Env} {f : FuncId} {args : List AV} {H : Hp} {Q : AV → Hp → Prop} (h : PC P E f args H (fun v H' => BndH H'.length H' → Bnd H'.length v → Q v H')) : PC P E f args H Q :=
  ⟨h.1, fun w β Rd Ow cargs h1 h2 h3 h4 => (h.2 w β Rd Ow cargs h1 h2 h3 h4).mono fun e w' ⟨c, v, H', β', Rd', Ow', he, hQ, hp⟩ => ⟨c, v, H', β', Rd', Ow', he, hQ hp.hr.bnd hp.bnd, hp⟩⟩

/-- A LAW: it returns true, and nothing that was there has turned. -/
theorem calls_of_pc {P : Program} {f : FuncId} {args : List AV} {cargs : Array Value} {W : World} (Rd : Nat → Nat → Prop) (hrd : ∀ g o, Rd g o → g < W.heap.size) (hsz : cargs.size = args.length)
    (hargs : ∀ (t : Nat) x u, args[t]? = some x → cargs[t]? = some u → Rel W (fun _ => 0) Rd x u ∧ Bnd 0 x ∧ x.free = true)
    (h : ∀ (E : Env) (Q : AV → Hp → Prop), Q (.bool true) [] → PC P E f args [] Q) : Calls P f cargs W fun e w' => e = .returned (.bool true) ∧ Frm (fun _ => False) W w' := by
  have hp := h ⟨W, fun _ => False, fun _ => True⟩ (fun v H' => v = .bool true) rfl
  refine (hp.2 W (fun _ => 0) Rd (fun _ => none) cargs ⟨fun i l hl => by simp at hl, fun i j hi => by simp at hi, fun i hi => by simp at hi, fun g h hg => (by cases hg), hrd, fun l hl => by simp at hl, fun b hb => hb.elim⟩ (fun g h hg => by cases hg) hsz hargs).mono ?_
  rintro e w' ⟨c, v, H', β', Rd', Ow', rfl, rfl, hP⟩
  refine ⟨by rw [rel_bool hP.rel], ?_⟩
  exact ⟨hP.os, hP.tape, hP.output, hP.size, fun b hb _ => (hP.frame b hb (fun i hi => by simp at hi) rfl).1⟩

/-- What was there. -/
def old (W : World) : Nat → Nat → Prop := fun g _ => g < W.heap.size
theorem old_cell {W : World} {g o : Nat} {u : Value} (h : W.cell? ⟨g, o, none⟩ = some u) : old W g o := by
  unfold old
  by_cases hg : g < W.heap.size
  · exact hg
  · have : W.heap[g]? = none := Array.getElem?_eq_none (by omega)
    simp [World.cell?, this] at h
theorem rel_string {W : World} (s : ByteArray) (h : s.size ≤ maxLen) : Rel W (fun _ => 0) (old W) (.str s.data.toList) (.string s) := .str s _ rfl h
theorem rel_rows {W : World} (k : Nat) (rows : List (List AV)) (bo : Option Addr) (len cap : Nat) (hk : ∀ r ∈ rows, r.length = k) (hk0 : 0 < k) (hl : rows.length = len) (h1 : len ≤ cap) (h2 : cap ≤ maxLen)
    (hc : ∀ i r, rows[i]? = some r → ∃ g o, bo = some ⟨g, o, none⟩ ∧ ∀ (j : Nat) x, r[j]? = some x → x.free = true ∧ x.one = true ∧ ∃ u, W.cell? ⟨g, o + i * k + j, none⟩ = some u ∧ Rel W (fun _ => 0) (old W) x u) :
    Rel W (fun _ => 0) (old W) (.sl false k rows) (.slice bo len cap) := by
  subst hl
  have hflat := flat_len hk
  have hat : ∀ t, t < rows.length * k → ∃ g o u x, bo = some ⟨g, o, none⟩ ∧ W.cell? ⟨g, o + t, none⟩ = some u ∧ rows.flatten[t]? = some x ∧ x.free = true ∧ x.one = true ∧ Rel W (fun _ => 0) (old W) x u := fun t ht => by
    have hi : t / k < rows.length := Nat.div_lt_of_lt_mul (by rw [Nat.mul_comm]; exact ht)
    have hj : t % k < k := Nat.mod_lt _ hk0
    obtain ⟨g, o, hb, hx⟩ := hc (t / k) rows[t / k] (List.getElem?_eq_getElem hi)
    have hrl := hk rows[t / k] (List.getElem_mem _)
    obtain ⟨f1, f2, u, hu, hr⟩ := hx (t % k) (rows[t / k])[t % k] (List.getElem?_eq_getElem (by omega))
    have e : t / k * k + t % k = t := by rw [Nat.mul_comm]; exact Nat.div_add_mod t k
    refine ⟨g, o, u, _, hb, ?_, ?_, f1, f2, hr⟩
    · rw [show o + t = o + t / k * k + t % k by omega]; exact hu
    · have := flat_row hk (List.getElem?_eq_getElem hi) (t % k) hj
      rw [e] at this
      rw [this]; exact List.getElem?_eq_getElem (by omega)
  obtain ⟨xs, hxl, hxs⟩ : ∃ xs : List Value, xs.length = rows.length * k ∧ ∀ t u, xs[t]? = some u → ∃ g o x, bo = some ⟨g, o, none⟩ ∧ W.cell? ⟨g, o + t, none⟩ = some u ∧ rows.flatten[t]? = some x ∧ x.free = true ∧ x.one = true ∧ Rel W (fun _ => 0) (old W) x u := by
    have : ∀ n, n ≤ rows.length * k → ∃ xs : List Value, xs.length = n ∧ ∀ t u, xs[t]? = some u → ∃ g o x, bo = some ⟨g, o, none⟩ ∧ W.cell? ⟨g, o + t, none⟩ = some u ∧ rows.flatten[t]? = some x ∧ x.free = true ∧ x.one = true ∧ Rel W (fun _ => 0) (old W) x u := by
      intro n
      induction n with
      | zero => exact fun _ => ⟨[], rfl, fun t u h => by simp at h⟩
      | succ n ih =>
        intro hn
        obtain ⟨xs, h1, h2⟩ := ih (by omega)
        obtain ⟨g, o, u, x, h3⟩ := hat n (by omega)
        refine ⟨xs ++ [u], by simp [h1], fun t v hv => ?_⟩
        by_cases ht : t < xs.length
        · exact h2 t v (by rwa [List.getElem?_append_left ht] at hv)
        · have := (List.getElem?_eq_some_iff.1 hv).1
          simp at this
          obtain rfl : t = n := by omega
          rw [List.getElem?_append_right (by omega), h1] at hv
          simp at hv; subst hv
          exact ⟨g, o, x, h3⟩
    exact this _ (Nat.le_refl _)
  refine .sl false k rows _ xs hk ⟨hxl, bo, cap, rfl, h1, h2, fun hp => ?_⟩ (fun g o n c hv j hj => ?_) (fun h => by cases h) (fun r hr x hx => ?_) (fun j x u hx hu => ?_)
  · have hp' : 0 < rows.length * k := Nat.mul_pos hp hk0
    obtain ⟨g, o, _, _, hb, _⟩ := hat 0 hp'
    refine ⟨g, o, hb, fun j hj => ?_⟩
    obtain ⟨g', o', x, hb', hcell, _⟩ := hxs j xs[j] (List.getElem?_eq_getElem (by omega))
    rw [hb] at hb'; cases hb'
    rw [hcell, List.getElem?_eq_getElem]
  · obtain ⟨g', o', u, x, hb, hcell, _⟩ := hat j hj
    cases hv
    cases hb
    exact old_cell hcell
  · obtain ⟨i, hi⟩ := List.getElem?_of_mem hr
    obtain ⟨j, hj⟩ := List.getElem?_of_mem hx
    obtain ⟨g, o, _, h⟩ := hc i r hi
    exact ⟨(h j x hj).1, (h j x hj).2.1⟩
  · obtain ⟨g, o, x', _, _, hx', _, _, hr⟩ := hxs j u hu
    rw [hx] at hx'; cases hx'
    exact hr
theorem rel_ints {W : World} (l : List Int) (bo : Option Addr) (len cap : Nat) (hl : l.length = len) (h1 : len ≤ cap) (h2 : cap ≤ maxLen) (hc : ∀ i x, l[i]? = some x → ∃ g o, bo = some ⟨g, o, none⟩ ∧ W.cell? ⟨g, o + i, none⟩ = some (.int .i64 x)) :
    Rel W (fun _ => 0) (old W) (.sl false 1 (l.map fun z => [.int .i64 z])) (.slice bo len cap) := by
  refine rel_rows 1 _ bo len cap (fun r hr => by obtain ⟨z, _, rfl⟩ := List.mem_map.1 hr; rfl) (by omega) (by simpa using hl) h1 h2 (fun i r hr => ?_)
  rw [List.getElem?_map] at hr
  cases hz : l[i]? with
  | none => rw [hz] at hr; cases hr
  | some z =>
    rw [hz] at hr
    simp at hr; subst hr
    obtain ⟨g, o, hb, hcell⟩ := hc i z hz
    refine ⟨g, o, hb, fun j x hx => ?_⟩
    cases j with
    | zero => simp at hx; subst hx; exact ⟨rfl, rfl, _, by rw [Nat.mul_one]; exact hcell, .int _ _⟩
    | succ j => simp at hx
end Go.Proofs.YtimhofphmgehgaaDoor
