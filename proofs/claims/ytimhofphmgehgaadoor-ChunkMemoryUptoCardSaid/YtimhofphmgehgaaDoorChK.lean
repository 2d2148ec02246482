/- slices.Clone of fields. -/
import Derived.Test.YtimhofphmgehgaaDoorChJ
import Derived.Lib.SliceRun
set_option linter.unusedVariables false
set_option linter.unnecessarySimpa false
set_option linter.unusedSimpArgs false
set_option linter.unusedSectionVars false
set_option maxRecDepth 100000
namespace Go.Proofs.YtimhofphmgehgaaDoor
open Go Go.RowKit Go.Proofs

theorem Tryd.info75 : (Tryd.prog.info? 75).map (fun i => (i.zero, i.size, i.bytes)) = some (some (.agg #[.string ⟨#[]⟩, .string ⟨#[]⟩]), 2, 32) := by kernel_rfl
theorem rsl_alloc {w : World} {k n : Nat} {v : Value} {xs : List Value} (h : RSl w k v n xs) (o : Obj) : RSl (w.alloc o) k v n xs := by
  obtain ⟨h1, ao, cap, rfl, h2, h3, h4⟩ := h
  refine ⟨h1, ao, cap, rfl, h2, h3, fun hn => ?_⟩
  obtain ⟨g, o', rfl, h5⟩ := h4 hn
  refine ⟨g, o', rfl, fun j hj => ?_⟩
  have h0 := h5 j hj
  have hx : xs[j]? = some (xs[j]'(by omega)) := List.getElem?_eq_getElem _
  rw [hx] at h0 ⊢
  exact Lib.cell?_alloc_some _ h0
set_option maxHeartbeats 1000000 in
theorem clone_ok {w : World} {ao : Option Addr} {n c : Nat} {xs : List Value} (h : RSl w 2 (.slice ao n c) n xs) (h1 : ∀ u ∈ xs, u.oneCell' = true) (hn : n ≤ 1073741824) :
    Calls Tryd.prog 57 #[.slice ao n c] w fun e w' => ∃ bo m d, e = .returned (.slice bo m d) ∧ ((bo = none ∧ m = 0 ∧ d = 0 ∧ n = 0 ∧ w' = w) ∨ (m = n ∧ OSl w' 2 (.slice bo n d) n xs ∧ (∀ g', (Value.slice bo n d).ownBlock = some g' → w.heap.size ≤ g') ∧ Frm (fun _ => False) w w')) := by
  obtain ⟨i0, hi, hz0, hz1, hz2⟩ := info_parts Tryd.info75
  have q22 : ∀ (w : World) (a : Option Addr) (n c n' c' : Nat), (binOp .eql 34 (.slice a n c) (.slice none n' c')).run Tryd.prog w = .ok (.bool a.isNone) w := fun w a n c n' c' => Lib.run_eql_slice_nil w _ _ a n c n' c' Tryd.underlying34
  have HR := Lib.hid h
  have H1 := Lib.hid h1
  clear h h1
  go_enter Tryd.func57, Tryd.ntmps57
  cases ao with
  | none =>
    go_wp2
    go_ret
    refine ⟨none, 0, 0, rfl, .inl ⟨rfl, rfl, rfl, ?_, rfl⟩⟩
    obtain ⟨_, _, _, he, _, _, hc⟩ := HR.out
    cases he
    rcases Nat.eq_zero_or_pos n with h | h
    · exact h
    · obtain ⟨_, _, h, _⟩ := hc h; cases h
  | some a =>
    have hE : OSl (w.alloc (.cells #[] 75)) 2 (.slice (some ⟨w.heap.size, 0, none⟩) 0 0) 0 [] := OSl.new w #[] 75 2 0 0 [] rfl (Nat.le_refl _) (Nat.zero_le _) rfl (fun j hj => by simp at hj)
    have HE := Lib.hid hE
    clear hE
    go_wp2_with (at_builtin; refine wpList_append_osl _ rfl (.tmp 5) (.tmp 6) 34 34 rfl 75 i0 (.agg #[.string ⟨#[]⟩, .string ⟨#[]⟩]) 2 32 Tryd.underlying34 hi hz0 hz1 hz2 rfl _ 0 [] rfl HE.out (.slice (some a) n c) n xs rfl (src_rsl (P := Tryd.prog) (rsl_alloc HR.out _) H1.out Tryd.underlying34) (by unfold maxLen; omega) (by omega) ?_)
    intro ao4 c4 w4 hs hf hv
    have HN4 := Lib.hid (fresh_app (w := w) (v' := .slice ao4 n c4) (H := w.heap.size + 1) (Frm.alloc _ w _) (fun g hg => by simp [Value.ownBlock] at hg; omega) hf (by simpa using hv) (by omega))
    have hs' := hs
    try simp only [List.nil_append, Nat.zero_add] at hs'
    have HO4 := Lib.hid hs'
    clear hs' hs hf hv
    go_wp2
    go_ret
    exact ⟨ao4, n, c4, by simp, .inr ⟨rfl, HO4.out, HN4.out.1, HN4.out.2⟩⟩
theorem flds_str {l : List Fld} {j : Nat} {x : AV} (h : (flds l).flatten[j]? = some x) : ∃ s, x = .str s := by
  obtain ⟨r, hr, hx⟩ := List.mem_flatten.1 (List.mem_of_getElem? h)
  obtain ⟨f, _, rfl⟩ := List.mem_map.1 hr
  simp at hx
  rcases hx with rfl | rfl <;> exact ⟨_, rfl⟩
theorem clone_pc (E : Env) (H : Hp) (Q : AV → Hp → Prop) (own : Bool) (l : List Fld) (hl : l.length ≤ 1073741824) (hf : own = false) (hQ : Q (.sl false 2 (flds l)) H) : PC Tryd.prog E 57 [.sl own 2 (flds l)] H Q := by
  refine ⟨by kernel_rfl, fun w β Rd Ow cargs hHR hOw hsz hargs => ?_⟩
  obtain ⟨u, rfl, hu⟩ := args1 hsz (fun t x u hx hu => (hargs t x u hx hu).1)
  obtain ⟨xs, hk, hx, hd, hfr, hr⟩ := rel_sl hu
  obtain ⟨hxl, ao, c, rfl, h2, h3, h4⟩ := id hx
  rw [flds_length] at hx hxl h2 h4
  have hone : ∀ u ∈ xs, u.oneCell' = true := Rel.slOne (own := own) hk (by rw [flds_length]; exact hxl) hfr hr
  rw [flds_length]
  refine (clone_ok (ao := ao) (c := c) hx hone hl).mono ?_
  rintro e w' ⟨bo, m, d, rfl, ⟨rfl, rfl, rfl, hn0, rfl⟩ | ⟨rfl, ho, hnew, hF⟩⟩
  · have : l = [] := List.length_eq_zero_iff.1 hn0
    subst this
    have hrel : Rel w' β (fun g o => Rd g o ∨ False) (.sl false 2 (flds [])) (.slice none 0 0) :=
      .sl false 2 _ _ [] (fun r hr => by simp [flds] at hr) ⟨by simp [flds], none, 0, rfl, Nat.le_refl _, Nat.zero_le _, fun h => by simp [flds] at h⟩ (fun g o n c hv j hj => by cases hv) (fun h => by cases h) (fun r hr => by simp [flds] at hr) (fun j x u hx => by simp [flds] at hx)
    exact ⟨_, _, H, β, _, Ow, rfl, hQ, post_freshP hHR (Frm.refl _ _) (fun _ _ => False) (fun _ _ h => h.elim) hrel (by simp [flds]) rfl⟩
  · have hrel : Rel w' β (fun g o => Rd g o ∨ (Value.slice bo l.length d).ownBlock = some g) (.sl false 2 (flds l)) (.slice bo l.length d) := by
      refine .sl false 2 _ _ xs hk (by rw [flds_length]; exact ho.toR) (fun g o n c hv j hj => .inr (by rw [hv]; rfl)) (fun h => by cases h) hfr (fun j x u hx' hu' => ?_)
      obtain ⟨t, rfl⟩ := flds_str hx'
      obtain ⟨b, rfl, hb1, hb2⟩ := rel_str (hr j _ u hx' hu')
      exact .str _ _ hb1 hb2
    exact ⟨_, _, H, β, _, Ow, rfl, hQ, post_freshP hHR hF (fun g _ => (Value.slice bo l.length d).ownBlock = some g) (fun g o h => ⟨hnew g h, ho.lt g h⟩) hrel (bnd_flds _ _ _) rfl⟩
end Go.Proofs.YtimhofphmgehgaaDoor
