/- THE ABSTRACT MACHINE: every step is the program's. For every program. -/
import Derived.Test.YtimhofphmgehgaaDoorAm8
set_option linter.unusedVariables false
set_option linter.unusedSimpArgs false
namespace Go.Proofs.YtimhofphmgehgaaDoor
open Go Go.RowKit

section
variable {P : Program} {E : Env} {W : World} {F : Nat → Prop} {Rd0 : Nat → Nat → Prop} {w w' : World} {β β' : Nat → Nat} {Rd Rd' : Nat → Nat → Prop} {Ow Ow' : Nat → Option Hold} {fr fr' : List AV} {H H' : Hp} {tmps : Array Value} {N : Nat}

theorem rel_ptr {i p : Nat} {v : Value} (h : Rel w β Rd (.ptr (some (i, p))) v) : v = .pointer (some ⟨β i, p, none⟩) := by cases h; rfl
theorem rel_nil {v : Value} (h : Rel w β Rd .nil v) : v = .slice none 0 0 := by cases h; rfl
theorem rel_elt {l : List AV} {v : Value} (h : Rel w β Rd (.elt l) v) : ∃ (g o : Nat) (us : List Value), v = .pointer (some ⟨g, o, none⟩) ∧ us.length = l.length ∧ (∀ j, j < us.length → Rd g (o + j) ∧ w.cell? ⟨g, o + j, none⟩ = us[j]?) ∧ (∀ x ∈ l, x.free = true ∧ x.one = true) ∧
    ∀ (j : Nat) (x : AV) (u : Value), l[j]? = some x → us[j]? = some u → Rel w β Rd x u := by
  cases h with
  | elt _ g o us hl hc hf hr => exact ⟨g, o, us, rfl, hl, hc, hf, hr⟩
theorem bnd_cells {l : List AV} (h : ∀ x ∈ l, Bnd N x) (p n : Nat) : ∀ x ∈ (l.drop p).take n, Bnd N x := fun x hx => h x (List.mem_of_mem_drop (List.mem_of_mem_take hx))

theorem newBox_ok {a : Act} {o : Oper} (h : S3 E W F Rd0 w β Rd Ow fr H a.tmps) (l : List AV) (cs : Array Value) (T : TypeId) (hl : cs.size = l.length)
    (hc : ∀ (j : Nat) x u, l[j]? = some x → cs[j]? = some u → Rel w β Rd x u ∧ x.one = true ∧ Bnd H.length x ∧ ∀ g, own0 x u = some g → Ow g = some (.cell H.length j))
    (hr : (execOp a.eval o).run P w = .ok (.value (.pointer (some ⟨w.heap.size, 0, none⟩))) (w.alloc (.cells cs T))) : StepOk P E W F Rd0 β H.length a o w (.ptr (some (H.length, 0))) fr (H ++ [l]) := by
  have h1 := h.newBox l cs T hl hc (noOwn h)
  refine ⟨_, _, _, _, _, _, hr, .inl rfl, h1.aput o.dst rfl ?_ (.ptr _ _ (by simp)) rfl (fun g hg => by cases hg), fun i hi => bup_old hi, by simp⟩
  have := Rel.ptr (w := w.alloc (.cells cs T)) (β := bup β H.length w.heap.size) (Rd := Rd) H.length 0
  rw [bup_new] at this
  exact this

theorem aload_ok {B : List Tmp} {a : Act} {o : Oper} (hS : S3 E W F Rd0 w β Rd Ow fr H a.tmps) {t : TypeId} {x : Operand} (ho : o.op = .load t x) {v : AV} (h : aload P B o.dst t fr H (aeval fr x) = some (v, fr', H')) : StepOk P E W F Rd0 β H.length a o w v fr' H' := by
  obtain ⟨hx1, hx2, hx3⟩ := hS.eval rfl x
  have hexec : execOp a.eval o = (do pure (.value (← Instr.loadAt t (a.eval x)))) := by simp only [execOp, ho]
  have single : ∀ (b p : Nat) (c : Value), trow P t = some false → w.cell? ⟨b, p, none⟩ = some c → a.eval x = .pointer (some ⟨b, p, none⟩) → (execOp a.eval o).run P w = .ok (.value c) w := fun b p c ht hc he => by
    rw [hexec, he]
    simp [Instr.loadAt, Instr.sureAddr, loadVar, run_isAgg ht, hc]
  have multi : ∀ (b p : Nat) (cs : List Value), trow P t = some true → tsz P t = some cs.length → w.rangeAt b p cs → a.eval x = .pointer (some ⟨b, p, none⟩) → (execOp a.eval o).run P w = .ok (.value (.agg cs.toArray)) w := fun b p cs ht hs hc he => by
    rw [hexec, he]
    obtain ⟨d, hd1, hd2⟩ := trow_spec ht
    simp [run_loadAt_mid w b p t cs d hc hd1 hd2 hs]
  unfold aload at h
  split at h
  · rename_i i p heq
    rw [heq] at hx1 hx2
    have he : a.eval x = .pointer (some ⟨β i, p, none⟩) := rel_ptr hx1
    split at h
    · rename_i l hl hrow
      obtain ⟨T, cs, h1, h2, h3⟩ := hS.hr.box i l hl
      split at h
      · rename_i n hn
        split at h
        · rename_i hcond
          obtain ⟨hle, hfr⟩ := hcond
          cases h
          have hlen : ((cs.toList.drop p).take n).length = n := by rw [List.length_take, List.length_drop]; simp; omega
          refine got_fin hS (multi (β i) p ((cs.toList.drop p).take n) hrow (by rw [hlen]; exact hn) (fun j u hu => ?_) he) ⟨.agg _ _ (by simp; omega) (fun y hy => ?_) (fun j y u hy hu => ?_), .agg _ (fun y hy => ?_), rfl⟩
          · have hj : j < n := by have := (List.getElem?_eq_some_iff.1 hu).1; omega
            rw [List.getElem?_take_of_lt hj, List.getElem?_drop] at hu
            rw [cell_blk h1]; simpa using hu
          · obtain ⟨z, hz, rfl⟩ := List.mem_map.1 hy
            refine ⟨List.all_eq_true.1 hfr z hz, ?_⟩
            obtain ⟨j, hj⟩ := List.getElem?_of_mem (List.mem_of_mem_drop (List.mem_of_mem_take hz))
            have hj' : j < cs.size := by have := (List.getElem?_eq_some_iff.1 hj).1; omega
            have := (h3 j z _ hj (Array.getElem?_eq_getElem hj')).2.1
            cases z <;> simp_all [AV.dis, AV.one]
          · rw [List.getElem?_map] at hy
            cases hz : ((l.drop p).take n)[j]? with
            | none => rw [hz] at hy; cases hy
            | some z =>
              rw [hz] at hy
              simp at hy
              subst hy
              have hj : j < n := by have := (List.getElem?_eq_some_iff.1 hz).1; rw [List.length_take] at this; omega
              rw [List.getElem?_take_of_lt hj, List.getElem?_drop] at hz
              have hu' : cs[p + j]? = some u := by
                simp only [List.getElem?_toArray] at hu
                rw [List.getElem?_take_of_lt hj, List.getElem?_drop] at hu
                simpa using hu
              exact (h3 _ z u hz hu').1.dis
          · obtain ⟨z, hz, rfl⟩ := List.mem_map.1 hy
            exact (hS.hr.bnd l (mem_at hl) z (List.mem_of_mem_drop (List.mem_of_mem_take hz))).dis
        · cases h
      · cases h
    · rename_i l hl hrow
      obtain ⟨T, cs, h1, h2, h3⟩ := hS.hr.box i l hl
      split at h
      · rename_i y hy
        have hp : p < cs.size := by have := (List.getElem?_eq_some_iff.1 hy).1; omega
        have hc : cs[p]? = some cs[p] := Array.getElem?_eq_getElem hp
        obtain ⟨r1, r2, r3⟩ := h3 p y _ hy hc
        have hrun := single (β i) p cs[p] hrow ((cell_blk h1 p).trans hc) he
        split at h
        · rename_i hd
          split at h
          · cases h
            obtain ⟨Ow', hT, hO⟩ := hS.takeCell hl hy h1 hc hd (o.dst.map .slot)
            refine ⟨_, _, w, β, Rd, Ow', hrun, .inl rfl, hT.aput o.dst rfl r1 (by simpa using hS.hr.bnd l (mem_at hl) _ (mem_at hy)) hd (fun g hg t ht => by rw [hO g hg, ht]; rfl), fun _ _ => rfl, by simp⟩
          · cases h
            exact got_fin hS hrun ⟨r1.dis, (hS.hr.bnd l (mem_at hl) _ (mem_at hy)).dis, hd⟩
        · cases h
      · cases h
    · cases h
  · rename_i l heq
    rw [heq] at hx1 hx2
    obtain ⟨g, q, us, hxe, hl, hc, hf, hr⟩ := rel_elt hx1
    cases hx2 with
    | elt _ hB =>
      split at h
      · rename_i hrow
        split at h
        · rename_i hs
          cases h
          refine got_fin hS (multi g q us hrow (by rw [hl]; exact hs) (fun j u hu => ?_) hxe) ⟨.agg _ _ (by simpa using hl) hf (fun j y u hy hu => hr j y u hy (by simpa using hu)), .agg _ hB, rfl⟩
          rw [(hc j (List.getElem?_eq_some_iff.1 hu).1).2]; exact hu
        · cases h
      · rename_i hrow
        split at h
        · rename_i y
          cases h
          have h0 := (hc 0 (by rw [hl]; simp)).2
          have hu : us[0]? = some (us[0]'(by rw [hl]; simp)) := List.getElem?_eq_getElem _
          rw [hu, Nat.add_zero] at h0
          exact got_fin hS (single g q _ hrow h0 hxe) ⟨hr 0 v _ rfl hu, hB v (by simp), (hf v (by simp)).1⟩
        · cases h
      · cases h
  · cases h

theorem run_storeAt_any {b p : Nat} {t : TypeId} {c : Value} (ht : w.there b p c.cells.size) (hi : tsz P t = some c.cells.size) (h1 : ∀ u ∈ c.cells.toList, u.oneCell' = true) :
    (Instr.storeAt t (.pointer (some ⟨b, p, none⟩)) c).run P w = .ok () (w.setCells b p c.cells.toList) := by
  have := run_storeCells_cells (P := P) b p c.cells.toList 0 w (fun j hj => by simpa using (ht j (by simpa using hj)).1) (fun j hj => by simpa using (ht j (by simpa using hj)).2) h1
  simp only [Nat.add_zero] at this
  have hs := run_sizeOf (P := P) hi
  simp [Instr.storeAt, Instr.sureAddr, storeVar, hs, this]

theorem astore_ok {a : Act} {o : Oper} (hS : S3 E W F Rd0 w β Rd Ow fr H a.tmps) {t : TypeId} {x y : Operand} (ho : o.op = .store t x y) {v : AV} (h : astore P t y fr H (aeval fr x) = some (v, fr', H')) : StepOk P E W F Rd0 β H.length a o w v fr' H' := by
  obtain ⟨hx1, hx2, hx3⟩ := hS.eval rfl x
  obtain ⟨hy1, hy2, hy3⟩ := hS.eval rfl y
  unfold astore at h
  split at h
  · rename_i i p heq
    rw [heq] at hx1 hx2
    have he : a.eval x = .pointer (some ⟨β i, p, none⟩) := rel_ptr hx1
    split at h
    · rename_i l cs hl hcs
      split at h
      · rename_i hcond
        obtain ⟨hsz, hle⟩ := hcond
        cases h
        obtain ⟨Ow', hT, hO⟩ := hS.take rfl y (some (.cell i p))
        obtain ⟨e1, e2, e3⟩ := acells_ok hcs hy1 hy2 hy3
        obtain ⟨T, bs, h1, h2, h3⟩ := hS.hr.box i l hl
        have hst := hT.store i l hl p cs (a.eval y).cells.toList (by simpa using e1) hle (fun j z u hz hu => by
          obtain ⟨q1, q2, q3, q4⟩ := e3 j z u hz hu
          refine ⟨q1, q2, q3, fun g hg => ?_⟩
          obtain ⟨q5, rfl⟩ := q4 g hg
          exact hO g q5)
        refine ⟨.skip, undef, _, β, Rd, Ow', ?_, .inr ⟨rfl, rfl⟩, hst.aput o.dst rfl (.raw _) (.raw _) rfl (fun g hg => by cases hg), fun _ _ => rfl, by simp⟩
        simp only [execOp, ho, he, Sem.run_bind]
        rw [run_storeAt_any (fun j hj => ⟨by rw [cell_blk h1, Array.getElem?_eq_getElem (by omega)]; rfl, free_blk h1 _⟩) (by rw [e1]; exact hsz) e2]
        rfl
      · cases h
    · cases h
  · cases h

theorem asrc_ok {t : TypeId} {k : Nat} {x : AV} {c : Value} {rows : List (List AV)} (h : asrc P t k x = some rows) (hx : Rel w β Rd x c) (hB : Bnd N x) : ∃ news, Src P k t c rows.length news w ∧ (∀ r ∈ rows, r.length = k) ∧ (∀ r ∈ rows, ∀ x ∈ r, x.free = true ∧ x.one = true) ∧
    (∀ r ∈ rows, ∀ x ∈ r, Bnd N x) ∧ ∀ (j : Nat) (x : AV) (u : Value), rows.flatten[j]? = some x → news[j]? = some u → Rel w β Rd x u := by
  unfold asrc at h
  split at h
  · split at h
    · rename_i hc
      obtain ⟨rfl, ht⟩ := hc
      cases h
      obtain ⟨e, he⟩ := Option.isSome_iff_exists.1 ht
      obtain ⟨xs, h1, h2, h3, h4, h5⟩ := rel_sl hx
      refine ⟨xs, src_rsl h2 (Rel.slOne (own := true) h1 h2.1 h4 h5) (tsl_spec he), h1, h4, ?_, h5⟩
      cases hB with
      | sl _ _ _ hB => exact hB
    · cases h
  · split at h
    · rename_i ht
      cases h
      obtain ⟨e, he⟩ := Option.isSome_iff_exists.1 ht
      have hc : c = .slice none 0 0 := by cases hx; rfl
      subst hc
      exact ⟨[], src_rsl (OSl.nil w k).toR (by simp) (tsl_spec he), by simp, by simp, by simp, by simp⟩
    · cases h
  · rename_i l
    split at h
    · rename_i hc
      obtain ⟨rfl, ht⟩ := hc
      cases h
      obtain ⟨s, rfl, rfl, hs⟩ := rel_str hx
      refine ⟨u8s s.data.toList, ?_, fun r hr => ?_, fun r hr x hx => ?_, fun r hr x hx => ?_, fun j x u hx hu => ?_⟩
      · have := Src.ofString (P := P) w (tstr_spec ht) s
        rw [bts_len, size_toList]
        have e : u8s s.data.toList = byteCells s := by simp [u8s, byteCells]
        rw [e]; exact this
      · obtain ⟨b, _, rfl⟩ := List.mem_map.1 hr; rfl
      · obtain ⟨b, _, rfl⟩ := List.mem_map.1 hr
        simp at hx; subst hx; exact ⟨rfl, rfl⟩
      · obtain ⟨b, _, rfl⟩ := List.mem_map.1 hr
        simp at hx; subst hx; exact .int _ _
      · rw [bts_flat] at hx
        rw [u8s_at] at hu
        cases hb : s.data.toList[j]? with
        | none => rw [hb] at hx; cases hx
        | some b => rw [hb] at hx hu; cases hx; cases hu; exact .int _ _
    · cases h
  · cases h

theorem aappend_ok {a : Act} {o : Oper} (hS : S3 E W F Rd0 w β Rd Ow fr H a.tmps) {t t' : TypeId} {x y : Operand} (ho : o.op = .call { callee := .builtin .append, args := #[x, y], argTypes := #[t, t'] }) {v : AV} (h : aappend P t t' x y fr H = some (v, fr', H')) : StepOk P E W F Rd0 β H.length a o w v fr' H' := by
  obtain ⟨hx1, hx2, hx3⟩ := hS.eval rfl x
  obtain ⟨hy1, hy2, hy3⟩ := hS.eval rfl y
  unfold aappend at h
  split at h
  · rename_i e he
    have ht := tsl_spec he
    split at h
    · rename_i k b z hk hb hz
      split at h
      · rename_i rows rows' hbase hsrc
        split at h
        · rename_i hcond
          obtain ⟨⟨hzk, hk0⟩, h63, hby⟩ := hcond
          cases h
          obtain ⟨i, zv, hi, hzv, hone, hzl⟩ := tzc_spec hz
          obtain ⟨i2, hi2, hsz⟩ := tsz_spec hk
          rw [hi] at hi2; cases hi2
          have hbb : i.bytes = b := by simpa [tby, hi] using hb
          have hzc : zv.cells.size = k := by rw [← hzk, hzl]; simp
          obtain ⟨news, s1, s2, s3, s4, s5⟩ := asrc_ok hsrc hy1 hy2
          have hexec : ∀ {v' : Value} {w' : World}, (Builtin.append_ #[t, t'] o.type #[a.eval x, a.eval y]).run P w = .ok v' w' → (execOp a.eval o).run P w = .ok (.value v') w' := fun h => by
            simp [execOp, ho, resolve, invoke, builtin, h]
          unfold abase at hbase
          split at hbase
          · rename_i k' rows0 heq
            split at hbase
            · rename_i hkk
              subst hkk
              cases hbase
              cases x with
              | tmp s =>
                have hlt : s < fr.length := by
                  by_cases hlt : s < fr.length
                  · exact hlt
                  · have : aeval fr (.tmp s) = .raw undef := by simp [aeval, List.getD, List.getElem?_eq_none (Nat.le_of_not_lt hlt)]
                    rw [this] at heq; cases heq
                have hfs : fr[s]? = some (.sl true k' rows) := by
                  have : aeval fr (.tmp s) = fr[s] := by simp [aeval, List.getD, List.getElem?_eq_getElem hlt]
                  rw [List.getElem?_eq_getElem hlt, ← this, heq]
                have hlt2 : s < a.tmps.size := hS.ff.len ▸ hlt
                have hts : a.tmps[s]? = some (a.eval (.tmp s)) := by
                  rw [Array.getElem?_eq_getElem hlt2]; simp [Act.eval, Array.getD, hlt2]
                obtain ⟨v', w', Rd', Ow', hrun, g1, g2, g3, g4⟩ := hS.grow s hfs hts o.dst t t' o.type e i zv b ht hi hzv hsz hbb hzc (a.eval y) rows' news s1 s2 s3 s4 s5 h63 hby
                have hfd : fdis fr (.tmp s) = fr.set s (.sl false k' rows) := by
                  show fr.set s (fr.getD s (.raw undef)).dis = _
                  rw [show fr.getD s (.raw undef) = .sl true k' rows by simp [List.getD, hfs]]; rfl
                rw [hfd]
                exact ⟨_, _, w', β, Rd', Ow', hexec hrun, .inl rfl, g1.aput o.dst rfl g2 g3 rfl g4, fun _ _ => rfl, Nat.le_refl _⟩
              | const c =>
                have := (cval_got (w := w) (β := β) (Rd := Rd) (N := 0) c).free
                have hc : cval c = .sl true k' rows := heq
                rw [hc] at this; cases this
              | global g => cases heq
              | func f => cases heq
            · cases hbase
          · rename_i heq
            cases hbase
            rw [heq] at hx1
            have hxe : a.eval x = .slice none 0 0 := rel_nil hx1
            have hfd : S3 E W F Rd0 w β Rd Ow (fdis fr x) H a.tmps := by
              have : fdis fr x = fr := by
                cases x with
                | tmp s =>
                  show fr.set s (fr.getD s (.raw undef)).dis = fr
                  have : fr.getD s (.raw undef) = .nil := heq
                  rw [this]
                  by_cases hlt : s < fr.length
                  · have hg : fr[s] = .nil := by simpa [List.getD, List.getElem?_eq_getElem hlt] using this
                    show fr.set s .nil = fr
                    rw [← hg]; exact List.set_getElem_self hlt
                  · exact List.set_eq_of_length_le (Nat.le_of_not_lt hlt)
                | _ => rfl
              rw [this]; exact hS
            obtain ⟨v', w', Rd', Ow', hrun, hfin⟩ := hfd.growNil hk0 o.dst t t' o.type e i zv b ht hi hzv hsz hbb hzc (a.eval y) rows' news s1 s2 s3 s4 s5 (by simpa using h63) (by simpa using hby)
            rw [← hxe] at hrun
            exact ⟨_, _, w', β, Rd', Ow', hexec hrun, .inl rfl, by simpa using hfin, fun _ _ => rfl, Nat.le_refl _⟩
          · cases hbase
        · cases h
      · cases h
    · cases h
  · cases h
end
end Go.Proofs.YtimhofphmgehgaaDoor
