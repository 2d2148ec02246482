/- THE ABSTRACT MACHINE's STATE: a row is grown by append. For every program. -/
import Derived.Test.YtimhofphmgehgaaDoorAm3
set_option linter.unusedVariables false
set_option linter.unusedSimpArgs false
namespace Go.Proofs.YtimhofphmgehgaaDoor
open Go Go.RowKit

section
variable {P : Program}
/-- What an append reads of a slice. -/
theorem src_rsl {w : World} {v : Value} {k n : Nat} {xs : List Value} (h : RSl w k v n xs) (h1 : ∀ u ∈ xs, u.oneCell' = true) {tx e' : TypeId} (hk : P.underlying tx = some (.slice e')) : Src P k tx v n xs w := by
  obtain ⟨hl, ao, cap, rfl, _, _, hc⟩ := h
  rcases Nat.eq_zero_or_pos n with rfl | hp
  · obtain rfl : xs = [] := List.eq_nil_of_length_eq_zero (by simpa using hl)
    cases ao with
    | none => exact Src.ofNil w hk cap
    | some a => exact Src.ofSlice w hk a 0 cap [] (by simp) (fun j u hj => by simp at hj) (by simp)
  · obtain ⟨g, o, rfl, hc2⟩ := hc hp
    refine Src.ofSlice w hk ⟨g, o, none⟩ n cap _ hl (fun j u hj => ?_) h1
    have hj' := (List.getElem?_eq_some_iff.1 hj).1
    rw [Addr.add_mid, hc2 j (by omega), hj]
end

theorem flat_len {l : List (List AV)} {k : Nat} (h : ∀ r ∈ l, r.length = k) : l.flatten.length = l.length * k := by
  induction l with
  | nil => simp
  | cons r l ih =>
    rw [List.flatten_cons, List.length_append, h r (by simp), ih (fun r hr => h r (by simp [hr])), List.length_cons, Nat.add_mul]; omega

section
variable {E : Env} {W : World} {F : Nat → Prop} {Rd0 : Nat → Nat → Prop} {w w' : World} {β β' : Nat → Nat} {Rd Rd' : Nat → Nat → Prop} {Ow Ow' : Nat → Option Hold} {fr : List AV} {H : Hp} {tmps : Array Value}

/-- The cells of a readable slice are cells of one cell. -/
theorem Rel.slOne {own : Bool} {k : Nat} {rows : List (List AV)} {xs : List Value} (hk : ∀ r ∈ rows, r.length = k) (hl : xs.length = rows.length * k) (hf : ∀ r ∈ rows, ∀ x ∈ r, x.free = true ∧ x.one = true)
    (hr : ∀ (j : Nat) (x : AV) (u : Value), rows.flatten[j]? = some x → xs[j]? = some u → Rel w β Rd x u) : ∀ u ∈ xs, u.oneCell' = true := by
  intro u hu
  obtain ⟨j, hj⟩ := List.getElem?_of_mem hu
  have hj' : j < rows.flatten.length := by have := (List.getElem?_eq_some_iff.1 hj).1; rw [flat_len hk]; omega
  obtain ⟨r, h1, h2⟩ := flat_mem (List.getElem?_eq_getElem hj')
  exact (hr j _ u (List.getElem?_eq_getElem hj') hj).oneCell (hf r h1 _ h2).2

/-- Elements behind a step. -/
theorem rows_move {N k : Nat} {rows : List (List AV)} {xs : List Value} (hB : ∀ r ∈ rows, ∀ x ∈ r, Bnd N x) (hf : ∀ r ∈ rows, ∀ x ∈ r, x.free = true ∧ x.one = true)
    (hr : ∀ (j : Nat) (x : AV) (u : Value), rows.flatten[j]? = some x → xs[j]? = some u → Rel w β Rd x u)
    (hR : ∀ g o, Rd g o → Rd' g o ∧ w'.cell? ⟨g, o, none⟩ = w.cell? ⟨g, o, none⟩) (hs : w.heap.size ≤ w'.heap.size) :
    ∀ (j : Nat) (x : AV) (u : Value), rows.flatten[j]? = some x → xs[j]? = some u → Rel w' β Rd' x u := by
  intro j x u hx hu
  obtain ⟨r, h1, h2⟩ := flat_mem hx
  exact (hr j x u hx hu).move (hB r h1 x h2) hR (fun g hg => by rw [own0_free (hf r h1 x h2).1] at hg; cases hg) hs (fun _ _ => rfl)

theorem S3.Rd_lt (h : S3 E W F Rd0 w β Rd Ow fr H tmps) : ∀ g o, Rd g o → g < w.heap.size := h.hr.rds

/-- A FRESH ROW gets its holder: what S3.fresh leaves, and the new block claimed. -/
theorem S3.freshRow (h : S3 E W F Rd0 w β Rd Ow fr H tmps) (hf : Frm (fun _ => False) w w') (hlt : w.heap.size < w'.heap.size) (n : Nat) (d : Option Tmp) :
    ∃ Ow', S3 E W F Rd0 w' β (fun g o => Rd g o ∨ (g = w.heap.size ∧ o < n)) Ow' fr H tmps ∧ ∀ t, d = some t → Ow' w.heap.size = some (.slot t) := by
  have h1 := h.fresh hf n (fun _ => hlt)
  cases d with
  | none => exact ⟨Ow, h1, fun t h => by cases h⟩
  | some t =>
    have hnone : Ow w.heap.size = none := by
      cases hk : Ow w.heap.size with
      | none => rfl
      | some k => have := h.hr.ows _ _ hk; omega
    refine ⟨_, h1.claim hnone (.slot t) hlt (fun i hi e => ?_) (fun hF => ?_) (fun hE => ?_), fun t' ht' => by cases ht'; exact upd_same _ _ _⟩
    · obtain ⟨T, cs, g1, _⟩ := h.hr.box i _ (List.getElem?_eq_getElem hi)
      have := blk_lt1 g1; omega
    · have := h.fo.lt _ hF; have := h.fo.size; omega
    · have := (h.hr.fix _ hE).2.2.2; omega

/-- append. x: what is grown, in slot s (or nil). -/
theorem S3.grow {P : Program} (h : S3 E W F Rd0 w β Rd Ow fr H tmps) {k : Nat} {rows : List (List AV)} {v : Value} (s : Nat) (hx : fr[s]? = some (.sl true k rows)) (hv : tmps[s]? = some v) (d : Option Tmp)
    (t tx ty e : TypeId) (i : TypeInfo) (z : Value) (bytes : Nat) (ht : P.underlying t = some (.slice e)) (hi : P.info? e = some i) (hz : i.zero = some z) (hsize : i.size = k) (hby : i.bytes = bytes) (hzs : z.cells.size = k)
    (y : Value) (rows' : List (List AV)) (news : List Value) (hs : Src P k tx y rows'.length news w) (hk' : ∀ r ∈ rows', r.length = k) (hf' : ∀ r ∈ rows', ∀ x ∈ r, x.free = true ∧ x.one = true) (hB' : ∀ r ∈ rows', ∀ x ∈ r, Bnd H.length x)
    (hr' : ∀ (j : Nat) (x : AV) (u : Value), rows'.flatten[j]? = some x → news[j]? = some u → Rel w β Rd x u)
    (h63 : rows.length + rows'.length ≤ maxLen) (hbytes : (rows.length + rows'.length) * bytes ≤ 140737488355328) :
    ∃ v' w' Rd' Ow', (Builtin.append_ #[t, tx] ty #[v, y]).run P w = .ok v' w' ∧ S3 E W F Rd0 w' β Rd' Ow' (fr.set s (.sl false k rows)) H tmps ∧ Rel w' β Rd' (.sl true k (rows ++ rows')) v' ∧ Bnd H.length (.sl true k (rows ++ rows')) ∧
      ∀ g, own0 (.sl true k (rows ++ rows')) v' = some g → ∀ t, d = some t → Ow' g = some (.slot t) := by
  obtain ⟨hrel, hbnd, hown⟩ := h.ff.rel s _ v hx hv
  have hlg := h.letgo s hx
  have hfrs : (fr.set s (AV.sl true k rows).dis) = fr.set s (.sl false k rows) := rfl
  rw [hfrs] at hlg
  cases hrel with
  | sl _ _ _ _ xs hk hxr hd ho hf hr =>
    cases hbnd with
    | sl _ _ _ hB =>
      obtain ⟨ho1, ho2⟩ := ho rfl
      obtain ⟨v', w', hrun, hos, hcase⟩ := run_append_am ho1 t tx ty e i z bytes ht hi hz hsize hby hzs y rows'.length news hs h63 hbytes
      have hlx : xs.length = rows.length * k := ho1.1
      have hln : news.length = rows'.length * k := hs.newsLen
      have hkk : ∀ r ∈ rows ++ rows', r.length = k := fun r hr => by rcases List.mem_append.1 hr with h | h; exact hk r h; exact hk' r h
      have hff : ∀ r ∈ rows ++ rows', ∀ x ∈ r, x.free = true ∧ x.one = true := fun r hr => by rcases List.mem_append.1 hr with h | h; exact hf r h; exact hf' r h
      have hBB : Bnd H.length (.sl true k (rows ++ rows')) := .sl _ _ _ (fun r hr => by rcases List.mem_append.1 hr with h | h; exact hB r h; exact hB' r h)
      have hlen2 : (rows ++ rows').length = rows.length + rows'.length := List.length_append
      have hrr : ∀ {w' : World} {Rd' : Nat → Nat → Prop}, (∀ g o, Rd g o → Rd' g o ∧ w'.cell? ⟨g, o, none⟩ = w.cell? ⟨g, o, none⟩) → w.heap.size ≤ w'.heap.size →
          ∀ (j : Nat) (x : AV) (u : Value), (rows ++ rows').flatten[j]? = some x → (xs ++ news)[j]? = some u → Rel w' β Rd' x u := fun hR hsz j x u hx hu => by
        rw [List.flatten_append] at hx
        have hfl := flat_len hk
        by_cases hj : j < rows.length * k
        · rw [List.getElem?_append_left (by omega)] at hx hu
          exact rows_move (k := k) hB hf hr hR hsz j x u hx hu
        · rw [List.getElem?_append_right (by omega)] at hx hu
          rw [hfl] at hx
          rw [hlx] at hu
          exact rows_move (k := k) hB' hf' hr' hR hsz _ x u hx hu
      rcases hcase with ⟨rfl, rfl, rfl⟩ | ⟨g, o, cap, rfl, rfl, hcap, rfl⟩ | ⟨cap, rfl, hfrm, hlt⟩
      · -- nothing was appended
        have hk0 : rows'.length * k = 0 := by simpa using hln.symm
        have hR : ∀ g o, Rd g o → Rd g o ∧ w'.cell? ⟨g, o, none⟩ = w'.cell? ⟨g, o, none⟩ := fun _ _ h => ⟨h, rfl⟩
        have hrel' : Rel w' β Rd (.sl true k (rows ++ rows')) v' := by
          refine .sl true k _ v' (xs ++ []) hkk (by rw [hlen2]; exact hos.toR) (fun g o n c hv j hj => ?_) (fun _ => ⟨by rw [hlen2]; exact hos, fun g o n c hv j h1 h2 => ?_⟩) hff (hrr hR (Nat.le_refl _))
          · exact hd g o n c hv j (by rw [hlen2, Nat.add_mul] at hj; omega)
          · exact ho2 g o n c hv j (by rw [hlen2, Nat.add_mul] at h1; omega) h2
        cases d with
        | none => exact ⟨v', w', Rd, Ow, hrun, hlg, hrel', hBB, fun g hg t ht => by cases ht⟩
        | some dd =>
          by_cases hg : ∃ g, own0 (.sl true k rows) v' = some g
          · obtain ⟨g, hg⟩ := hg
            have hOg := hown g hg
            refine ⟨v', w', Rd, _, hrun, hlg.relabel hOg (some (.slot dd)) (fun t x u hx2 hu2 he => ?_) (fun i j l x u T cs hl hx2 hc hu2 he => ?_), hrel', hBB, fun g' hg' t ht => ?_⟩
            · have := (hlg.ff.rel t x u hx2 hu2).2.2 g he
              rw [hOg] at this
              cases this
              rw [List.getElem?_set_self (List.getElem?_eq_some_iff.1 hx).1] at hx2
              cases hx2
              simp [own0] at he
            · obtain ⟨T', cs', c1, c2, c3⟩ := hlg.hr.box i l hl
              rw [hc] at c1; cases c1
              have := (c3 j x u hx2 hu2).2.2 g he
              rw [hOg] at this; cases this
            · cases ht
              have : g' = g := by have e1 : own0 (.sl true k rows) v' = own0 (.sl true k (rows ++ rows')) v' := rfl; rw [e1] at hg; rw [hg] at hg'; cases hg'; rfl
              rw [this]; exact upd_same _ _ _
          · exact ⟨v', w', Rd, Ow, hrun, hlg, hrel', hBB, fun g' hg' t ht => absurd ⟨g', hg'⟩ hg⟩
      · -- in place
        have hg0 : own0 (.sl true k rows) (.slice (some ⟨g, o, none⟩) rows.length cap) = some g := rfl
        have hOg := hown g hg0
        have hglt : g < w.heap.size := h.hr.ows g _ hOg
        have hsz : (w.setCells g (o + rows.length * k) news).heap.size = w.heap.size := heap_size_setCells _ _ _ _
        have hmul : (rows.length + rows'.length) * k ≤ cap * k := Nat.mul_le_mul_right _ hcap
        have hsp := ho2 g o _ _ rfl
        rw [Nat.add_mul] at hmul
        have hR : ∀ g' o', Rd g' o' → (Rd g' o' ∨ (g' = g ∧ ∃ j, rows.length * k ≤ j ∧ j < (rows.length + rows'.length) * k ∧ o' = o + j)) ∧ (w.setCells g (o + rows.length * k) news).cell? ⟨g', o', none⟩ = w.cell? ⟨g', o', none⟩ := fun g' o' hg' => by
          refine ⟨.inl hg', World.cell?_setCells_out g news _ w _ (fun e _ => ?_)⟩
          show o' < o + rows.length * k ∨ o + rows.length * k + news.length ≤ o'
          by_cases hin : o' < o + rows.length * k ∨ o + rows.length * k + news.length ≤ o'
          · exact hin
          · exfalso
            have e' : g' = g := e
            subst e'
            refine hsp (o' - o) (by omega) (by omega) ?_
            rw [show o + (o' - o) = o' by omega]
            exact hg'
        have hmv := hlg.moveG (w' := w.setCells g (o + rows.length * k) news) (Rd' := fun g' o' => Rd g' o' ∨ (g' = g ∧ ∃ j, rows.length * k ≤ j ∧ j < (rows.length + rows'.length) * k ∧ o' = o + j)) (fun b => b = g)
          (fun b hb => ⟨_, hb ▸ hOg⟩)
          (fun t x u g' hx2 hu2 he hgg => by
            subst hgg
            have := (hlg.ff.rel t x u hx2 hu2).2.2 _ he
            rw [hOg] at this
            cases this
            rw [List.getElem?_set_self (List.getElem?_eq_some_iff.1 hx).1] at hx2
            cases hx2
            simp [own0] at he)
          (fun i j l x u T cs g' hl hx2 hc hu2 he hgg => by
            subst hgg
            obtain ⟨T', cs', c1, c2, c3⟩ := hlg.hr.box i l hl
            rw [hc] at c1; cases c1
            have := (c3 j x u hx2 hu2).2.2 _ he
            rw [hOg] at this; cases this)
          hR (fun b hb hne => ⟨World.heap_setCells_other _ _ _ _ hb hne, fun o ho => ho.resolve_right (fun e => hne e.1)⟩)
          (fun g' o' ho' => by rw [hsz]; rcases ho' with h1 | h1; exact h.hr.rds _ _ h1; rw [h1.1]; exact hglt) (by rw [hsz]; exact Nat.le_refl _) (World.os_setCells _ _ _ _) (tape_setCells _ _ _ _) (World.output_setCells _ _ _ _)
        have hrel' : Rel (w.setCells g (o + rows.length * k) news) β (fun g' o' => Rd g' o' ∨ (g' = g ∧ ∃ j, rows.length * k ≤ j ∧ j < (rows.length + rows'.length) * k ∧ o' = o + j)) (.sl true k (rows ++ rows')) (.slice (some ⟨g, o, none⟩) (rows.length + rows'.length) cap) := by
          refine .sl true k _ _ (xs ++ news) hkk (by rw [hlen2]; exact hos.toR) (fun g' o' n c hv j hj => ?_) (fun _ => ⟨by rw [hlen2]; exact hos, fun g' o' n c hv j h1 h2 h3 => ?_⟩) hff (hrr hR (by rw [hsz]; exact Nat.le_refl _))
          · cases hv
            rw [hlen2] at hj
            by_cases hjj : j < rows.length * k
            · exact .inl (hd g o _ cap rfl j hjj)
            · exact .inr ⟨rfl, j, by omega, hj, rfl⟩
          · cases hv
            rw [hlen2] at h1
            rcases h3 with h3 | ⟨_, j', e1, e2, e3⟩
            · exact hsp j (by rw [Nat.add_mul] at h1; omega) h2 h3
            · omega
        cases d with
        | none => exact ⟨_, _, _, Ow, hrun, hmv, hrel', hBB, fun g hg t ht => by cases ht⟩
        | some dd =>
          refine ⟨_, _, _, _, hrun, hmv.relabel hOg (some (.slot dd)) (fun t x u hx2 hu2 he => ?_) (fun i j l x u T cs hl hx2 hc hu2 he => ?_), hrel', hBB, fun g' hg' t ht => ?_⟩
          · have := (hmv.ff.rel t x u hx2 hu2).2.2 g he
            rw [hOg] at this
            cases this
            rw [List.getElem?_set_self (List.getElem?_eq_some_iff.1 hx).1] at hx2
            cases hx2
            simp [own0] at he
          · obtain ⟨T', cs', c1, c2, c3⟩ := hmv.hr.box i l hl
            rw [hc] at c1; cases c1
            have := (c3 j x u hx2 hu2).2.2 g he
            rw [hOg] at this; cases this
          · cases ht
            have : g = g' := by simpa [own0, Value.ownBlock] using hg'
            subst this
            exact upd_same _ _ _
      · -- a new row
        obtain ⟨Ow', hfr, hOw⟩ := hlg.freshRow hfrm hlt ((rows.length + rows'.length) * k) d
        have hR : ∀ g' o', Rd g' o' → (Rd g' o' ∨ (g' = w.heap.size ∧ o' < (rows.length + rows'.length) * k)) ∧ w'.cell? ⟨g', o', none⟩ = w.cell? ⟨g', o', none⟩ := fun g' o' hg' =>
          ⟨.inl hg', World.cell?_of_block (a := ⟨g', o', none⟩) (hfrm.block g' (h.hr.rds g' o' hg') (fun h => h))⟩
        refine ⟨_, w', _, Ow', hrun, hfr, ?_, hBB, fun g' hg' t ht => ?_⟩
        · refine .sl true k _ _ (xs ++ news) hkk (by rw [hlen2]; exact hos.toR) (fun g' o' n c hv j hj => ?_) (fun _ => ⟨by rw [hlen2]; exact hos, fun g' o' n c hv j h1 h2 h3 => ?_⟩) hff (hrr hR hfrm.size)
          · cases hv
            rw [hlen2] at hj
            exact .inr ⟨rfl, by omega⟩
          · cases hv
            rw [hlen2] at h1
            rcases h3 with h3 | ⟨_, e1⟩
            · have := h.hr.rds _ _ h3; omega
            · omega
        · have : w.heap.size = g' := by simpa [own0, Value.ownBlock] using hg'
          rw [← this]; exact hOw t ht
end
end Go.Proofs.YtimhofphmgehgaaDoor
