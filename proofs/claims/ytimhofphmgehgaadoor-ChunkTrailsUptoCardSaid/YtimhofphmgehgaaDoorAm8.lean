/- THE ABSTRACT MACHINE: each step is the program's. For every program. -/
import Derived.Test.YtimhofphmgehgaaDoorAm7
set_option linter.unusedVariables false
set_option linter.unusedSimpArgs false
namespace Go.Proofs.YtimhofphmgehgaaDoor
open Go Go.RowKit

section
variable {P : Program} {E : Env} {W : World} {F : Nat → Prop} {Rd0 : Nat → Nat → Prop} {w w' : World} {β β' : Nat → Nat} {Rd Rd' : Nat → Nat → Prop} {Ow Ow' : Nat → Option Hold} {fr fr' : List AV} {H H' : Hp} {tmps : Array Value} {N : Nat}

/-- What a step leaves. -/
def StepOk (P : Program) (E : Env) (W : World) (F : Nat → Prop) (Rd0 : Nat → Nat → Prop) (β : Nat → Nat) (n : Nat) (a : Act) (o : Oper) (w : World) (v : AV) (fr' : List AV) (H' : Hp) : Prop :=
  ∃ (r : Next) (c : Value) (w' : World) (β' : Nat → Nat) (Rd' : Nat → Nat → Prop) (Ow' : Nat → Option Hold), (execOp a.eval o).run P w = .ok r w' ∧ (r = .value c ∨ (r = .skip ∧ c = undef)) ∧
    S3 E W F Rd0 w' β' Rd' Ow' (aput fr' o.dst v) H' (a.put o.dst c).tmps ∧ (∀ i, i < n → β' i = β i) ∧ n ≤ H'.length

theorem dis_free_idem {x : AV} (h : x.dis.free = true) : x.dis.dis.free = true := dis_free_of_free h
theorem Got.nofree {v : AV} {c : Value} (g : Got w β Rd N v c) : v.dis.free = true := dis_free_of_free g.free

theorem got_fin {a : Act} {o : Oper} (h : S3 E W F Rd0 w β Rd Ow fr H a.tmps) {v : AV} {c : Value} (hr : (execOp a.eval o).run P w = .ok (.value c) w) (g : Got w β Rd H.length v c) : StepOk P E W F Rd0 β H.length a o w v fr H :=
  ⟨_, c, w, β, Rd, Ow, hr, .inl rfl, h.aput o.dst rfl g.rel g.bnd g.nofree (fun g' hg => by rw [own0_free g.free] at hg; cases hg), fun _ _ => rfl, Nat.le_refl _⟩

theorem noOwn (h : S3 E W F Rd0 w β Rd Ow fr H tmps) : ∀ k, Ow w.heap.size ≠ some k := fun k hk => by have := h.hr.ows _ _ hk; omega

/-- A SLICE IS NEW, in a row of its own. -/
theorem S3.freshSl {a : Act} (h : S3 E W F Rd0 w β Rd Ow fr H a.tmps) (hf : Frm (fun _ => False) w w') (hlt : w.heap.size < w'.heap.size) (d : Option Tmp) {k cap : Nat} {rows : List (List AV)} {xs : List Value}
    (hos : OSl w' k (.slice (some ⟨w.heap.size, 0, none⟩) rows.length cap) rows.length xs) (hk : ∀ r ∈ rows, r.length = k) (hff : ∀ r ∈ rows, ∀ x ∈ r, x.free = true ∧ x.one = true) (hB : ∀ r ∈ rows, ∀ x ∈ r, Bnd H.length x)
    (hr : ∀ (j : Nat) (x : AV) (u : Value), rows.flatten[j]? = some x → xs[j]? = some u → Rel w β Rd x u) :
    ∃ Rd' Ow', S3 E W F Rd0 w' β Rd' Ow' (Go.Proofs.YtimhofphmgehgaaDoor.aput fr d (.sl true k rows)) H (a.put d (.slice (some ⟨w.heap.size, 0, none⟩) rows.length cap)).tmps := by
  obtain ⟨Ow', hfr, hOw⟩ := h.freshRow hf hlt (rows.length * k) d
  have hR : ∀ g' o', Rd g' o' → (Rd g' o' ∨ (g' = w.heap.size ∧ o' < rows.length * k)) ∧ w'.cell? ⟨g', o', none⟩ = w.cell? ⟨g', o', none⟩ := fun g' o' hg' =>
    ⟨.inl hg', World.cell?_of_block (a := ⟨g', o', none⟩) (hf.block g' (h.hr.rds g' o' hg') (fun h => h))⟩
  refine ⟨_, Ow', hfr.aput d rfl (.sl true k rows _ xs hk hos.toR (fun g' o' n c hv j hj => ?_) (fun _ => ⟨hos, fun g' o' n c hv j h1 h2 h3 => ?_⟩) hff (rows_move (k := k) hB hff hr hR hf.size)) (.sl _ _ _ hB) rfl (fun g hg t ht => ?_)⟩
  · cases hv
    exact .inr ⟨rfl, by omega⟩
  · cases hv
    rcases h3 with h3 | ⟨_, e1⟩
    · have := h.hr.rds _ _ h3; omega
    · omega
  · have : w.heap.size = g := by simpa [own0, Value.ownBlock] using hg
    rw [← this]; exact hOw t ht

/-- append ONTO nil. -/
theorem S3.growNil {a : Act} (h : S3 E W F Rd0 w β Rd Ow fr H a.tmps) {k : Nat} (hk0 : 0 < k) (d : Option Tmp)
    (t tx ty e : TypeId) (i : TypeInfo) (z : Value) (bytes : Nat) (ht : P.underlying t = some (.slice e)) (hi : P.info? e = some i) (hz : i.zero = some z) (hsize : i.size = k) (hby : i.bytes = bytes) (hzs : z.cells.size = k)
    (y : Value) (rows' : List (List AV)) (news : List Value) (hs : Src P k tx y rows'.length news w) (hk' : ∀ r ∈ rows', r.length = k) (hf' : ∀ r ∈ rows', ∀ x ∈ r, x.free = true ∧ x.one = true) (hB' : ∀ r ∈ rows', ∀ x ∈ r, Bnd H.length x)
    (hr' : ∀ (j : Nat) (x : AV) (u : Value), rows'.flatten[j]? = some x → news[j]? = some u → Rel w β Rd x u)
    (h63 : rows'.length ≤ maxLen) (hbytes : rows'.length * bytes ≤ 140737488355328) :
    ∃ v' w' Rd' Ow', (Builtin.append_ #[t, tx] ty #[.slice none 0 0, y]).run P w = .ok v' w' ∧ S3 E W F Rd0 w' β Rd' Ow' (Go.Proofs.YtimhofphmgehgaaDoor.aput fr d (.sl true k rows')) H (a.put d v').tmps := by
  obtain ⟨v', w', hrun, hos, hcase⟩ := run_append_am (OSl.nil w k) t tx ty e i z bytes ht hi hz hsize hby hzs y rows'.length news hs (by rw [Nat.zero_add]; exact h63) (by rw [Nat.zero_add]; exact hbytes)
  rw [Nat.zero_add, List.nil_append] at hos
  have hln : news.length = rows'.length * k := hs.newsLen
  rcases hcase with ⟨rfl, rfl, rfl⟩ | ⟨g, o, cap, he, _⟩ | ⟨cap, hv, hfrm, hlt⟩
  · have hz0 : rows'.length = 0 := by
      have : rows'.length * k = 0 := by simpa using hln.symm
      rcases Nat.mul_eq_zero.1 this with h | h <;> omega
    have : rows' = [] := List.eq_nil_of_length_eq_zero hz0
    subst this
    refine ⟨_, w', Rd, Ow, hrun, h.aput d rfl (.sl true k [] _ [] (by simp) (OSl.nil w' k).toR (fun g o n c hv => by cases hv) (fun _ => ⟨OSl.nil w' k, fun g o n c hv => by cases hv⟩) (by simp) (fun j x u hx => by simp at hx)) (.sl _ _ _ (by simp)) rfl (fun g hg => by cases hg)⟩
  · cases he
  · rw [Nat.zero_add] at hv
    subst hv
    obtain ⟨Rd', Ow', hfin⟩ := h.freshSl hfrm hlt d hos hk' hf' hB' hr'
    exact ⟨_, w', Rd', Ow', hrun, hfin⟩

/-! ### Literals -/
theorem afill_ok {pl : List (Nat × Nat)} {a : Act} (hS : S3 E W F Rd0 w β Rd Ow fr H a.tmps) : ∀ (ps : List (Nat × Operand)) (cs : List AV) (cells : Array Value) (l : List AV), afill pl cs (ps.map fun p => (p.1, aeval fr p.2)) = some l →
    cells.size = cs.length → (∀ x ∈ cs, x.free = true ∧ x.one = true) → (∀ x ∈ cs, Bnd H.length x) → (∀ (j : Nat) (x : AV) (u : Value), cs[j]? = some x → cells[j]? = some u → Rel w β Rd x u) →
    ∃ cells', Instr.fill (pl.toArray[·]?) cells (ps.map fun p => (p.1, a.eval p.2)) = some cells' ∧ cells'.size = l.length ∧ (∀ x ∈ l, x.free = true ∧ x.one = true) ∧ (∀ x ∈ l, Bnd H.length x) ∧ ∀ (j : Nat) (x : AV) (u : Value), l[j]? = some x → cells'[j]? = some u → Rel w β Rd x u
  | [], cs, cells, l, h, h1, h2, h3, h4 => by cases h; exact ⟨cells, rfl, h1, h2, h3, h4⟩
  | (i, x) :: ps, cs, cells, l, h, h1, h2, h3, h4 => by
    rw [List.map_cons, afill] at h
    split at h
    · rename_i o n l' hp hc
      split at h
      · rename_i hcond
        obtain ⟨hl, hle, hfree⟩ := hcond
        obtain ⟨r1, r2, r3⟩ := hS.eval rfl x
        obtain ⟨e1, e2, e3⟩ := acells_ok hc r1.dis r2.dis (dis_free_idem r3)
        have hfs := Great.foldl_set o (a.eval x).cells.toList 0 cells
        have hfree' := List.all_eq_true.1 hfree
        have hcl : (a.eval x).cells.toList.length = l'.length := by simpa using e1
        have hsz : (((a.eval x).cells.toList.zipIdx 0).foldl (fun cs (x : Value × Nat) => cs.setIfInBounds (o + x.2) x.1) cells).size = cells.size := hfs.1
        obtain ⟨cells', f1, f2⟩ := afill_ok hS ps (setR cs o l') (((a.eval x).cells.toList.zipIdx 0).foldl (fun cs (x : Value × Nat) => cs.setIfInBounds (o + x.2) x.1) cells) l h
          (by rw [hsz, setR_length _ _ _ (by omega), h1])
          (fun y hy => by
            rcases setR_mem hy with hy | hy
            · exact h2 y hy
            · obtain ⟨j, hj⟩ := List.getElem?_of_mem hy
              have hj' : j < (a.eval x).cells.toList.length := by have := (List.getElem?_eq_some_iff.1 hj).1; omega
              exact ⟨hfree' y hy, (e3 j y _ hj (List.getElem?_eq_getElem hj')).2.1⟩)
          (fun y hy => by
            rcases setR_mem hy with hy | hy
            · exact h3 y hy
            · obtain ⟨j, hj⟩ := List.getElem?_of_mem hy
              have hj' : j < (a.eval x).cells.toList.length := by have := (List.getElem?_eq_some_iff.1 hj).1; omega
              exact (e3 j y _ hj (List.getElem?_eq_getElem hj')).2.2.1)
          (fun j y u hy hu => by
            rw [setR_at _ _ _ (by omega)] at hy
            rw [hfs.2 j] at hu
            split at hy
            · rename_i hj
              rw [if_pos (by omega)] at hu
              exact (e3 (j - o) y u hy (by rw [Nat.add_zero] at hu; exact hu)).1
            · rename_i hj
              rw [if_neg (by omega)] at hu
              exact h4 j y u hy hu)
        refine ⟨cells', ?_, f2⟩
        rw [List.map_cons, Instr.fill]
        have hp' : pl.toArray[i]? = some (o, n) := by simpa using hp
        simp only [hp']
        rw [if_neg (by
          simp only [Bool.or_eq_true, decide_eq_true_eq, not_or]
          refine ⟨by simp [e1, hl], ?_⟩
          rw [e1]; omega)]
        have hz : (a.eval x).cells.zipIdx.foldl (fun cs (x : Value × Nat) => cs.setIfInBounds (o + x.2) x.1) cells = ((a.eval x).cells.toList.zipIdx 0).foldl (fun cs (x : Value × Nat) => cs.setIfInBounds (o + x.2) x.1) cells := by
          rw [← Array.foldl_toList]; simp
        have := f1
        rw [← hz] at this
        exact this
      · cases h
    · cases h

theorem tzc_spec {t : TypeId} {l : List AV} (h : tzc P t = some l) : ∃ i z, P.info? t = some i ∧ i.zero = some z ∧ z.cells.toList.all (·.oneCell') = true ∧ l = z.cells.toList.map cval0 := by
  unfold tzc at h
  split at h
  · rename_i i hi
    split at h
    · rename_i z hz
      split at h
      · rename_i h1
        cases h
        exact ⟨i, z, hi, hz, h1, rfl⟩
      · cases h
    · cases h
  · cases h

theorem fill_mono {f g : Nat → Option (Nat × Nat)} (h : ∀ i p, f i = some p → g i = some p) : ∀ (ps : List (Nat × Value)) (cs r : Array Value), Instr.fill f cs ps = some r → Instr.fill g cs ps = some r
  | [], cs, r, hr => hr
  | (i, v) :: ps, cs, r, hr => by
    rw [Instr.fill] at hr ⊢
    cases hf : f i with
    | none => simp [hf] at hr
    | some p =>
      rw [hf] at hr
      rw [h i p hf]
      obtain ⟨o, n⟩ := p
      simp only at hr ⊢
      split at hr
      · cases hr
      · rename_i hc
        rw [if_neg hc]
        exact fill_mono h ps _ r hr
theorem abuild_ok {a : Act} (hS : S3 E W F Rd0 w β Rd Ow fr H a.tmps) {t : TypeId} {parts : Array (Nat × Operand)} {v : AV} (h : abuild P t (parts.toList.map fun p => (p.1, aeval fr p.2)) = some v) :
    ∃ c, (Instr.build t (parts.map fun (i, x) => (i, a.eval x))).run P w = .ok c w ∧ Got w β Rd H.length v c := by
  unfold abuild at h
  split at h
  · rename_i z pl hz hp
    cases hf : afill pl z (parts.toList.map fun p => (p.1, aeval fr p.2)) with
    | none => simp [hf] at h
    | some l =>
      simp [hf] at h
      subst h
      obtain ⟨i, zv, hi, hzv, hone, rfl⟩ := tzc_spec hz
      obtain ⟨z1, z2, z3⟩ := cval0_list (w := w) (β := β) (Rd := Rd) (N := H.length) _ hone
      obtain ⟨cells', f1, f2, f3, f4, f5⟩ := afill_ok hS parts.toList _ zv.cells l hf (by simp) z1 z3 (fun j x u hx hu => z2 j x u hx (by simpa using hu))
      refine ⟨.agg cells', run_build w t _ cells' ?_, .agg _ _ f2 f3 f5, .agg _ f4, rfl⟩
      unfold tplaces at hp
      unfold Program.built
      cases hu : P.underlying t with
      | none => simp [hu] at hp
      | some d =>
        cases d <;> simp [hu] at hp
        case array m e =>
          obtain ⟨ie, hie, rfl⟩ := hp
          simp only [hi, hzv, hie]
          rw [Array.toList_map]
          refine fill_mono (fun i p hp => ?_) _ _ _ f1
          simp only [List.getElem?_toArray, List.getElem?_map, Option.map_eq_some_iff] at hp
          obtain ⟨q, hq, rfl⟩ := hp
          have hlt : i < m := by have := (List.getElem?_eq_some_iff.1 hq).1; simpa using this
          rw [List.getElem?_range hlt] at hq
          cases hq
          rfl
        case struct fields =>
        have hfun : (fun x : Nat => pl.toArray[x]?) = fun x => pl[x]? := funext fun x => by simp
        simp [hi, hzv, hp]
        rw [← hfun]; exact f1
  · cases h

theorem arows_ok {k : Nat} {a : Act} (hS : S3 E W F Rd0 w β Rd Ow fr H a.tmps) : ∀ (ps : List (Nat × Operand)) (rows : List (List AV)), arows k (ps.map fun p => aeval fr p.2) = some rows →
    rows.length = ps.length ∧ (∀ r ∈ rows, r.length = k) ∧ (∀ r ∈ rows, ∀ x ∈ r, x.free = true ∧ x.one = true) ∧ (∀ r ∈ rows, ∀ x ∈ r, Bnd H.length x) ∧ (∀ v ∈ ps.map fun p => a.eval p.2, v.cells.size = k) ∧
      ∀ (j : Nat) (x : AV) (u : Value), rows.flatten[j]? = some x → ((ps.map fun p => a.eval p.2).flatMap fun v => v.cells.toList)[j]? = some u → Rel w β Rd x u
  | [], rows, h => by cases h; simp
  | (i, x) :: ps, rows, h => by
    rw [List.map_cons, arows] at h
    split at h
    · rename_i l m hc hm
      split at h
      · rename_i hcond
        obtain ⟨hl, hfree⟩ := hcond
        cases h
        obtain ⟨r1, r2, r3⟩ := hS.eval rfl x
        obtain ⟨e1, e2, e3⟩ := acells_ok hc r1.dis r2.dis (dis_free_idem r3)
        have hfree' := List.all_eq_true.1 hfree
        obtain ⟨i1, i2, i3, i4, i5, i6⟩ := arows_ok hS ps m hm
        have hcl : (a.eval x).cells.toList.length = l.length := by simpa using e1
        have hel : ∀ y ∈ l, (y.free = true ∧ y.one = true) ∧ Bnd H.length y := fun y hy => by
          obtain ⟨j, hj⟩ := List.getElem?_of_mem hy
          have hj' : j < (a.eval x).cells.toList.length := by have := (List.getElem?_eq_some_iff.1 hj).1; omega
          have := e3 j y _ hj (List.getElem?_eq_getElem hj')
          exact ⟨⟨hfree' y hy, this.2.1⟩, this.2.2.1⟩
        refine ⟨by simp [i1], fun r hr => ?_, fun r hr y hy => ?_, fun r hr y hy => ?_, fun v hv => ?_, fun j y u hy hu => ?_⟩
        · rcases List.mem_cons.1 hr with rfl | hr; exact hl; exact i2 r hr
        · rcases List.mem_cons.1 hr with rfl | hr; exact (hel y hy).1; exact i3 r hr y hy
        · rcases List.mem_cons.1 hr with rfl | hr; exact (hel y hy).2; exact i4 r hr y hy
        · rw [List.map_cons] at hv
          rcases List.mem_cons.1 hv with rfl | hv
          · rw [e1, hl]
          · exact i5 v hv
        · rw [List.flatten_cons] at hy
          rw [List.map_cons, List.flatMap_cons] at hu
          dsimp only at hu
          by_cases hj : j < l.length
          · rw [List.getElem?_append_left hj] at hy
            rw [List.getElem?_append_left (by omega)] at hu
            exact (e3 j y u hy hu).1
          · rw [List.getElem?_append_right (by omega)] at hy hu
            rw [hcl] at hu
            exact i6 _ y u hy hu
      · cases h
    · cases h

theorem parts_zip {α β : Type} : ∀ (ps : List (Nat × α)) (f : α → β) (s : Nat), ps.map (·.1) = List.range' s ps.length → (ps.map fun p => (p.1, f p.2)) = (((ps.map fun p => f p.2).zipIdx s).map fun x => (x.2, x.1))
  | [], f, s, h => rfl
  | (i, x) :: ps, f, s, h => by
    rw [List.map_cons, List.length_cons, List.range'_succ] at h
    have h1 := (List.cons.inj h).1
    have h2 := (List.cons.inj h).2
    simp only at h1
    subst h1
    rw [List.map_cons, List.map_cons, List.zipIdx_cons, List.map_cons, parts_zip ps f (i + 1) h2]

theorem run_lit0 {t e : TypeId} (hu : P.underlying t = some (.slice e)) {k : Nat} (hs : tsz P e = some k) (w : World) : (Instr.buildSlice t 0 #[]).run P w = .ok (.slice (some ⟨w.heap.size, 0, none⟩) 0 0) (w.alloc (.cells #[] e)) := by
  have := run_sizeOf (P := P) hs w
  have e0 : ∀ f : Nat → Value, (Array.range 0).map f = #[] := fun f => by simp [Array.range]
  simp [Instr.buildSlice, run_underlying hu, this, newRow, Instr.fill, e0]

theorem alit_ok {a : Act} {o : Oper} (hS : S3 E W F Rd0 w β Rd Ow fr H a.tmps) {t : TypeId} {n : Nat} {parts : Array (Nat × Operand)} {v : AV} (ho : o.op = .buildSlice t n parts) (h : alit P t n (parts.toList.map fun p => (p.1, aeval fr p.2)) = some v) : StepOk P E W F Rd0 β H.length a o w v fr H := by
  unfold alit at h
  split at h
  · rename_i e he
    have hu := tsl_spec he
    split at h
    · rename_i z k hz hk
      split at h
      · rename_i hcond
        obtain ⟨hzk, hk0, hsm, hparts⟩ := hcond
        rw [List.map_map] at hparts
        cases hrw : arows k ((parts.toList.map fun p => (p.1, aeval fr p.2)).map (·.2)) with
        | none => rw [hrw] at h; cases h
        | some rows =>
          simp only [hrw, Option.map_some, Option.some.injEq] at h
          subst h
          rw [List.map_map] at hrw
          obtain ⟨i1, i2, i3, i4, i5, i6⟩ := arows_ok hS parts.toList rows hrw
          obtain ⟨ie, zv, hie, hzv, hone, rfl⟩ := tzc_spec hz
          obtain ⟨ie', hie', hsz⟩ := tsz_spec hk
          rw [hie] at hie'; cases hie'
          have hlen : parts.toList.length = n := by
            have := congrArg List.length hparts
            simpa using this
          have hzc : zv.cells.size = k := by simpa using hzk
          have hrun : (Instr.buildSlice t n (parts.map fun (i, x) => (i, a.eval x))).run P w = .ok (.slice (some ⟨w.heap.size, 0, none⟩) n n) (w.alloc (.cells ((parts.toList.map fun p => a.eval p.2).flatMap fun v => v.cells.toList).toArray e)) := by
            rcases Nat.eq_zero_or_pos n with hn | hn
            · subst hn
              have : parts = #[] := by
                have := List.eq_nil_of_length_eq_zero hlen
                simpa using this
              subst this
              have e1 : ((#[] : Array (Nat × Operand)).map fun (x : Nat × Operand) => (x.1, a.eval x.2)) = #[] := by simp
              refine (congrArg (fun y => (Instr.buildSlice t 0 y).run P w) e1).trans ?_
              exact run_lit0 hu hk w
            · refine run_buildSlice w t e n _ _ ie zv hu hie hzv (by rw [hsz]; omega) (by rw [hsz]; exact Nat.ne_of_gt (Nat.mul_pos hn hk0)) ?_
              rw [hsz]
              have hpz := parts_zip parts.toList a.eval 0 (by rw [hlen, ← List.range_eq_range']; exact hparts)
              have hpl : (parts.map fun (i, x) => (i, a.eval x)).toList = (((parts.toList.map fun p => a.eval p.2).zipIdx 0).map fun x => (x.2, x.1)) := by
                rw [← hpz]; simp
              rw [hpl]
              exact Great.fill_whole hk0 _ _ i5 (by simp [hlen])
          have hlr : rows.length = n := by rw [i1, hlen]
          have hfl : ((parts.toList.map fun p => a.eval p.2).flatMap fun v => v.cells.toList).length = n * k := by
            have : ∀ l : List Value, (∀ v ∈ l, v.cells.size = k) → (l.flatMap fun v => v.cells.toList).length = l.length * k := by
              intro l
              induction l with
              | nil => simp
              | cons v l ih =>
                intro hh
                rw [List.flatMap_cons, List.length_append, ih (fun v hv => hh v (by simp [hv])), List.length_cons, Nat.add_mul]
                have := hh v (by simp)
                simp; omega
            rw [this _ i5]; simp [hlen]
          have hos : OSl (w.alloc (.cells ((parts.toList.map fun p => a.eval p.2).flatMap fun v => v.cells.toList).toArray e)) k (.slice (some ⟨w.heap.size, 0, none⟩) rows.length n) rows.length ((parts.toList.map fun p => a.eval p.2).flatMap fun v => v.cells.toList) := by
            rw [hlr]
            refine OSl.new w _ e k n n _ hfl (Nat.le_refl _) ?_ (by simp [hfl]) (fun j hj => by simp)
            have : n ≤ n * k := Nat.le_mul_of_pos_right _ hk0
            unfold maxLen; omega
          obtain ⟨Rd', Ow', hfin⟩ := hS.freshSl (Frm.alloc _ w _) (by simp) o.dst hos i2 i3 i4 i6
          refine ⟨_, _, _, β, Rd', Ow', by simp only [execOp, ho, Sem.run_bind]; rw [hrun]; rfl, .inl rfl, ?_, fun _ _ => rfl, Nat.le_refl _⟩
          rw [hlr] at hfin
          exact hfin
      · cases h
    · cases h
  · cases h
end
end Go.Proofs.YtimhofphmgehgaaDoor
