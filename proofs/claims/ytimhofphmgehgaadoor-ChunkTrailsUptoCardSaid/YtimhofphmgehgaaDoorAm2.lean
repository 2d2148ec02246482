/- THE ABSTRACT MACHINE's STATE, and how it goes on: a slot is written, a row is new, a box is new or written, a row is grown. For every program. -/
import Derived.Test.YtimhofphmgehgaaDoorAm
set_option linter.unusedVariables false
set_option linter.unusedSimpArgs false
namespace Go.Proofs.YtimhofphmgehgaaDoor
open Go Go.RowKit

/-- THE STATE: boxes, frame, what is left alone. -/
structure S3 (E : Env) (W : World) (F : Nat → Prop) (Rd0 : Nat → Nat → Prop) (w : World) (β : Nat → Nat) (Rd : Nat → Nat → Prop) (Ow : Nat → Option Hold) (fr : List AV) (H : Hp) (tmps : Array Value) : Prop where
  hr : HR E w β Rd Ow H
  ff : FR w β Rd Ow H.length fr tmps
  fo : FO W F Rd0 w β Rd Ow H.length
  ne : ∀ x ∈ fr, x.dis.free = true

def upd (Ow : Nat → Option Hold) (g : Nat) (h : Option Hold) : Nat → Option Hold := fun b => if b = g then h else Ow b
theorem upd_same (Ow : Nat → Option Hold) (g : Nat) (h : Option Hold) : upd Ow g h g = h := by simp [upd]
theorem upd_other {Ow : Nat → Option Hold} {g b : Nat} {h : Option Hold} (hb : b ≠ g) : upd Ow g h b = Ow b := by simp [upd, hb]

def aput (fr : List AV) (d : Option Tmp) (v : AV) : List AV := match d with
  | some t => fr.set t v
  | none => fr

section
variable {E : Env} {W : World} {F : Nat → Prop} {Rd0 : Nat → Nat → Prop} {w w' : World} {β β' : Nat → Nat} {Rd Rd' : Nat → Nat → Prop} {Ow Ow' : Nat → Option Hold} {fr : List AV} {H : Hp} {tmps : Array Value}

/-- A SLOT IS WRITTEN. -/
theorem S3.put (h : S3 E W F Rd0 w β Rd Ow fr H tmps) (d : Nat) {v : AV} {c : Value} (hv : Rel w β Rd v c) (hb : Bnd H.length v) (hn : v.dis.free = true) (ho : ∀ g, own0 v c = some g → Ow g = some (.slot d)) :
    S3 E W F Rd0 w β Rd Ow (fr.set d v) H (tmps.setIfInBounds d c) := by
  refine ⟨h.hr, ⟨by simp [h.ff.len], fun t x u hx hu => ?_⟩, h.fo, fun x hx => ?_⟩
  · by_cases ht : d = t
    · subst ht
      have hl : d < fr.length := by have := (List.getElem?_eq_some_iff.1 hx).1; simpa using this
      have hl2 : d < tmps.size := h.ff.len ▸ hl
      rw [List.getElem?_set_self hl] at hx
      rw [Array.getElem?_setIfInBounds_self_of_lt hl2] at hu
      cases hx; cases hu
      exact ⟨hv, hb, ho⟩
    · rw [List.getElem?_set_ne ht] at hx
      rw [Array.getElem?_setIfInBounds_ne ht] at hu
      exact h.ff.rel t x u hx hu
  · rcases List.mem_or_eq_of_mem_set hx with h1 | h1
    · exact h.ne x h1
    · rw [h1]; exact hn

theorem S3.aput (h : S3 E W F Rd0 w β Rd Ow fr H tmps) (d : Option Tmp) {a : Act} (ha : a.tmps = tmps) {v : AV} {c : Value} (hv : Rel w β Rd v c) (hb : Bnd H.length v) (hn : v.dis.free = true) (ho : ∀ g, own0 v c = some g → ∀ t, d = some t → Ow g = some (.slot t)) :
    S3 E W F Rd0 w β Rd Ow (aput fr d v) H (a.put d c).tmps := by
  subst ha
  cases d with
  | none => exact h
  | some t => exact h.put t hv hb hn (fun g hg => ho g hg t rfl)

/-- A HOLDER LETS GO (its value is only read on). -/
theorem S3.letgo (h : S3 E W F Rd0 w β Rd Ow fr H tmps) (s : Nat) {v : AV} (hv : fr[s]? = some v) : S3 E W F Rd0 w β Rd Ow (fr.set s v.dis) H tmps := by
  refine ⟨h.hr, ⟨by simp [h.ff.len], fun t x u hx hu => ?_⟩, h.fo, fun x hx => ?_⟩
  · by_cases ht : s = t
    · subst ht
      have hl : s < fr.length := (List.getElem?_eq_some_iff.1 hv).1
      rw [List.getElem?_set_self hl] at hx
      cases hx
      obtain ⟨h1, h2, h3⟩ := h.ff.rel s v u hv hu
      refine ⟨h1.dis, h2.dis, fun g hg => ?_⟩
      rw [own0_free (h.ne v (mem_at hv))] at hg; cases hg
    · rw [List.getElem?_set_ne ht] at hx
      exact h.ff.rel t x u hx hu
  · rcases List.mem_or_eq_of_mem_set hx with h1 | h1
    · exact h.ne x h1
    · rw [h1]
      have := h.ne v (mem_at hv)
      cases v <;> simp_all [AV.dis, AV.free]

/-- A ROW GETS ANOTHER HOLDER, where nobody claims it. -/
theorem S3.relabel (h : S3 E W F Rd0 w β Rd Ow fr H tmps) {g : Nat} {k : Hold} (hg : Ow g = some k) (k' : Option Hold)
    (hs : ∀ (t : Nat) x u, fr[t]? = some x → tmps[t]? = some u → own0 x u ≠ some g)
    (hc : ∀ (i j : Nat) l x u T cs, H[i]? = some l → l[j]? = some x → w.heap[β i]? = some (.cells cs T (0, 0)) → cs[j]? = some u → own0 x u ≠ some g) :
    S3 E W F Rd0 w β Rd (upd Ow g k') fr H tmps := by
  have hlt : g < w.heap.size := h.hr.ows g k hg
  refine ⟨⟨fun i l hl => ?_, h.hr.inj, fun i hi => ⟨?_, (h.hr.sep i hi).2⟩, fun b k2 hb => ?_, h.hr.rds, h.hr.bnd, fun b hb => ?_⟩, ⟨h.ff.len, fun t x u hx hu => ?_⟩, ⟨h.fo.lt, h.fo.same, fun b hb => ?_, h.fo.box, h.fo.rd, h.fo.os, h.fo.tape, h.fo.output, h.fo.size, h.fo.keep⟩, h.ne⟩
  · obtain ⟨T, cs, h1, h2, h3⟩ := h.hr.box i l hl
    refine ⟨T, cs, h1, h2, fun j x u hx hu => ?_⟩
    obtain ⟨r1, r2, r3⟩ := h3 j x u hx hu
    refine ⟨r1, r2, fun b hb => ?_⟩
    rw [upd_other (fun e => hc i j l x u T cs hl hx h1 hu (by rw [hb, e]))]
    exact r3 b hb
  · have := (h.hr.sep i hi).1
    rw [upd_other (fun e => by rw [e, hg] at this; cases this)]
    exact this
  · by_cases hbg : b = g
    · rw [hbg]; exact hlt
    · rw [upd_other hbg] at hb; exact h.hr.ows b k2 hb
  · obtain ⟨f1, f2, f3, f4⟩ := h.hr.fix b hb
    refine ⟨f1, ?_, f3, f4⟩
    rw [upd_other (fun e => by rw [e, hg] at f2; cases f2)]; exact f2
  · obtain ⟨r1, r2, r3⟩ := h.ff.rel t x u hx hu
    refine ⟨r1, r2, fun b hb => ?_⟩
    rw [upd_other (fun e => hs t x u hx hu (by rw [hb, e]))]
    exact r3 b hb
  · have := h.fo.own b hb
    rw [upd_other (fun e => by rw [e, hg] at this; cases this)]; exact this

/-- A ROW THAT NOBODY HOLDS YET gets a holder. -/
theorem S3.claim (h : S3 E W F Rd0 w β Rd Ow fr H tmps) {g : Nat} (hg : Ow g = none) (k' : Hold) (hlt : g < w.heap.size) (hbox : ∀ i, i < H.length → β i ≠ g) (hF : ¬ F g) (hE : ¬ E.Fix g) :
    S3 E W F Rd0 w β Rd (upd Ow g (some k')) fr H tmps := by
  refine ⟨⟨fun i l hl => ?_, h.hr.inj, fun i hi => ⟨?_, (h.hr.sep i hi).2⟩, fun b k2 hb => ?_, h.hr.rds, h.hr.bnd, fun b hb => ?_⟩, ⟨h.ff.len, fun t x u hx hu => ?_⟩, ⟨h.fo.lt, h.fo.same, fun b hb => ?_, h.fo.box, h.fo.rd, h.fo.os, h.fo.tape, h.fo.output, h.fo.size, h.fo.keep⟩, h.ne⟩
  · obtain ⟨T, cs, h1, h2, h3⟩ := h.hr.box i l hl
    refine ⟨T, cs, h1, h2, fun j x u hx hu => ?_⟩
    obtain ⟨r1, r2, r3⟩ := h3 j x u hx hu
    refine ⟨r1, r2, fun b hb => ?_⟩
    have := r3 b hb
    rw [upd_other (fun e => by rw [e, hg] at this; cases this)]
    exact this
  · rw [upd_other (hbox i hi)]; exact (h.hr.sep i hi).1
  · by_cases hbg : b = g
    · rw [hbg]; exact hlt
    · rw [upd_other hbg] at hb; exact h.hr.ows b k2 hb
  · obtain ⟨f1, f2, f3, f4⟩ := h.hr.fix b hb
    have hne : b ≠ g := fun e => hE (e ▸ hb)
    exact ⟨f1, by rw [upd_other hne]; exact f2, f3, f4⟩
  · obtain ⟨r1, r2, r3⟩ := h.ff.rel t x u hx hu
    refine ⟨r1, r2, fun b hb => ?_⟩
    have := r3 b hb
    rw [upd_other (fun e => by rw [e, hg] at this; cases this)]
    exact this
  · have hne : b ≠ g := fun e => hF (e ▸ hb)
    rw [upd_other hne]; exact h.fo.own b hb

/-- THE WORLD GOES ON where nothing turns that is held, but for the rows G that nobody claims. -/
theorem S3.moveG (h : S3 E W F Rd0 w β Rd Ow fr H tmps) (G : Nat → Prop) (hG : ∀ b, G b → ∃ k, Ow b = some k)
    (hgs : ∀ (t : Nat) x u g, fr[t]? = some x → tmps[t]? = some u → own0 x u = some g → ¬ G g)
    (hgc : ∀ (i j : Nat) l x u T cs g, H[i]? = some l → l[j]? = some x → w.heap[β i]? = some (.cells cs T (0, 0)) → cs[j]? = some u → own0 x u = some g → ¬ G g)
    (hR : ∀ g o, Rd g o → Rd' g o ∧ w'.cell? ⟨g, o, none⟩ = w.cell? ⟨g, o, none⟩)
    (hO : ∀ b, b < w.heap.size → ¬ G b → w'.heap[b]? = w.heap[b]? ∧ ∀ o, Rd' b o → Rd b o)
    (hr : ∀ g o, Rd' g o → g < w'.heap.size) (hs : w.heap.size ≤ w'.heap.size)
    (hos : w'.os = w.os) (htape : w'.tape = w.tape) (hout : w'.output = w.output) : S3 E W F Rd0 w' β Rd' Ow fr H tmps := by
  have hno : ∀ b, Ow b = none → ¬ G b := fun b hb hg => by obtain ⟨k, hk⟩ := hG b hg; rw [hb] at hk; cases hk
  refine ⟨⟨fun i l hl => ?_, h.hr.inj, fun i hi => ⟨(h.hr.sep i hi).1, fun o ho => ?_⟩, fun g k hg => Nat.lt_of_lt_of_le (h.hr.ows g k hg) hs, hr, h.hr.bnd, fun b hb => ?_⟩, ⟨h.ff.len, fun t x u hx hu => ?_⟩,
    ⟨h.fo.lt, fun b hb => ?_, h.fo.own, h.fo.box, fun b o hb ho => ?_, hos.trans h.fo.os, htape.trans h.fo.tape, hout.trans h.fo.output, Nat.le_trans h.fo.size hs, fun g o ho => ?_⟩, h.ne⟩
  · obtain ⟨T, cs, h1, h2, h3⟩ := h.hr.box i l hl
    have hi : i < H.length := (List.getElem?_eq_some_iff.1 hl).1
    refine ⟨T, cs, (hO _ (blk_lt0 h1) (hno _ (h.hr.sep i hi).1)).1.trans h1, h2, fun j x u hx hu => ?_⟩
    obtain ⟨r1, r2, r3⟩ := h3 j x u hx hu
    exact ⟨r1.move (h.hr.bnd l (mem_at hl) x (mem_at hx)) hR (fun g hg => hO g (h.hr.ows g _ (r3 g hg)) (hgc i j l x u T cs g hl hx h1 hu hg)) hs (fun _ _ => rfl), r2, r3⟩
  · obtain ⟨l, hl⟩ : ∃ l, H[i]? = some l := ⟨_, List.getElem?_eq_getElem hi⟩
    obtain ⟨T, cs, h1, _⟩ := h.hr.box i l hl
    exact (h.hr.sep i hi).2 o ((hO _ (blk_lt0 h1) (hno _ (h.hr.sep i hi).1)).2 o ho)
  · obtain ⟨f1, f2, f3, f4⟩ := h.hr.fix b hb
    exact ⟨(hO b f4 (hno b f2)).1.trans f1, f2, f3, Nat.lt_of_lt_of_le f4 hs⟩
  · obtain ⟨r1, r2, r3⟩ := h.ff.rel t x u hx hu
    exact ⟨r1.move r2 hR (fun g hg => hO g (h.hr.ows g _ (r3 g hg)) (hgs t x u g hx hu hg)) hs (fun _ _ => rfl), r2, r3⟩
  · exact (hO b (Nat.lt_of_lt_of_le (h.fo.lt b hb) h.fo.size) (hno b (h.fo.own b hb))).1.trans (h.fo.same b hb)
  · exact h.fo.rd b o hb ((hO b (Nat.lt_of_lt_of_le (h.fo.lt b hb) h.fo.size) (hno b (h.fo.own b hb))).2 o ho)
  · obtain ⟨k1, k2⟩ := h.fo.keep g o ho
    exact ⟨(hR g o k1).1, (hR g o k1).2.trans k2⟩
where
  blk_lt0 {w : World} {b T : Nat} {c : Array Value} {fr : Nat × Nat} (h : w.heap[b]? = some (.cells c T fr)) : b < w.heap.size := by
    rcases Nat.lt_or_ge b w.heap.size with h' | h'
    · exact h'
    · rw [Array.getElem?_eq_none h'] at h; cases h

/-- THE WORLD GOES ON where nothing that is held turns. -/
theorem S3.move (h : S3 E W F Rd0 w β Rd Ow fr H tmps)
    (hR : ∀ g o, Rd g o → Rd' g o ∧ w'.cell? ⟨g, o, none⟩ = w.cell? ⟨g, o, none⟩)
    (hO : ∀ b, b < w.heap.size → w'.heap[b]? = w.heap[b]? ∧ ∀ o, Rd' b o → Rd b o)
    (hr : ∀ g o, Rd' g o → g < w'.heap.size) (hs : w.heap.size ≤ w'.heap.size)
    (hos : w'.os = w.os) (htape : w'.tape = w.tape) (hout : w'.output = w.output) : S3 E W F Rd0 w' β Rd' Ow fr H tmps :=
  h.moveG (fun _ => False) (fun _ h => h.elim) (fun _ _ _ _ _ _ _ h => h) (fun _ _ _ _ _ _ _ _ _ _ _ _ _ h => h) hR (fun b hb _ => hO b hb) hr hs hos htape hout

theorem S3.drew (h : S3 E W F Rd0 w β Rd Ow fr H tmps) : S3 E W F Rd0 w.drew β Rd Ow fr H tmps :=
  h.move (fun _ _ h => ⟨h, rfl⟩) (fun _ _ => ⟨rfl, fun _ h => h⟩) h.hr.rds (Nat.le_refl _) rfl rfl rfl

/-- A ROW IS NEW; its cells may be read from now on. -/
theorem S3.fresh (h : S3 E W F Rd0 w β Rd Ow fr H tmps) (hf : Frm (fun _ => False) w w') (n : Nat) (hn : 0 < n → w.heap.size < w'.heap.size) :
    S3 E W F Rd0 w' β (fun g o => Rd g o ∨ (g = w.heap.size ∧ o < n)) Ow fr H tmps :=
  h.move (fun g o hg => ⟨.inl hg, World.cell?_of_block (a := ⟨g, o, none⟩) (hf.block g (h.hr.rds g o hg) (fun h => h))⟩)
    (fun b hb => ⟨hf.block b hb (fun h => h), fun o ho => ho.resolve_right (fun e => by omega)⟩)
    (fun g o ho => by rcases ho with h1 | ⟨h1, h2⟩
                      · exact Nat.lt_of_lt_of_le (h.hr.rds g o h1) hf.size
                      · rw [h1]; exact hn (by omega)) hf.size hf.os hf.tape hf.output
end
end Go.Proofs.YtimhofphmgehgaaDoor
