/- THE ABSTRACT MACHINE: 'aop' is the program's step. For every program. -/
import Derived.Test.YtimhofphmgehgaaDoorAm9
set_option linter.unusedVariables false
set_option linter.unusedSimpArgs false
namespace Go.Proofs.YtimhofphmgehgaaDoor
open Go Go.RowKit

section
variable {P : Program} {E : Env} {W : World} {F : Nat → Prop} {Rd0 : Nat → Nat → Prop} {w w' : World} {β β' : Nat → Nat} {Rd Rd' : Nat → Nat → Prop} {Ow Ow' : Nat → Option Hold} {fr fr' : List AV} {H H' : Hp} {tmps : Array Value} {N : Nat}

theorem rel_fn {f : FuncId} {l : List AV} {v : Value} (h : Rel w β Rd (.fn f l) v) : ∃ vs, v = .func (.func f) #[] vs ∧ Rel w β Rd (.fn f l) (.func (.func f) #[] vs) := by
  cases h with
  | fn _ _ vs hl hf hr => exact ⟨vs, rfl, .fn f l vs hl hf hr⟩
theorem brel_map (hS : S3 E W F Rd0 w β Rd Ow fr H tmps) {a : Act} (ha : a.tmps = tmps) (x : Option Operand) : BRel w β Rd (x.map (aeval fr)) (x.map a.eval) := by
  cases x with
  | none => trivial
  | some x => exact (hS.eval ha x).1

theorem amake_ok {a : Act} {o : Oper} (hS : S3 E W F Rd0 w β Rd Ow fr H a.tmps) {t : TypeId} {l c : Operand} (ho : o.op = .makeSlice t l c) {v : AV} (h : amake P t (aeval fr l) (aeval fr c) = some v) : StepOk P E W F Rd0 β H.length a o w v fr H := by
  obtain ⟨hl1, _, _⟩ := hS.eval rfl l
  obtain ⟨hc1, _, _⟩ := hS.eval rfl c
  unfold amake at h
  split at h
  · rename_i e kl li kc ci he hle hce
    rw [hle] at hl1
    rw [hce] at hc1
    have e1 := rel_int hl1
    have e2 := rel_int hc1
    split at h
    · rename_i z k b hz hk hb
      split at h
      · rename_i hcond
        obtain ⟨hzk, hk0, h0, hlc, hby, h63⟩ := hcond
        cases h
        obtain ⟨i, zv, hi, hzv, hone, rfl⟩ := tzc_spec hz
        obtain ⟨i2, hi2, hsz⟩ := tsz_spec hk
        rw [hi] at hi2; cases hi2
        have hbb : i.bytes = b := by simpa [tby, hi] using hb
        have hzc : zv.cells.size = k := by simpa using hzk
        obtain ⟨z1, z2, z3⟩ := cval0_list (w := w) (β := β) (Rd := Rd) (N := H.length) _ hone
        have hrun := run_make (P := P) w t e i zv (tsl_spec he) hi hzv kl kc li ci h0 hlc (by rw [hbb]; omega) h63
        rw [hsz] at hrun
        have hmod : ∀ n j, j < n * k → (madeCells zv.cells (n * k))[j]? = zv.cells[j % k]? := fun n j hj => by
          have hj2 : j % k < zv.cells.size := by rw [hzc]; exact Nat.mod_lt _ hk0
          simp only [madeCells]
          rw [Array.getElem?_map, Array.getElem?_eq_getElem (by simpa using hj)]
          simp [hzc, Array.getElem?_eq_getElem hj2, hj2]
          exact getElem!_pos zv.cells (j % k) hj2
        have hln : (List.replicate li.toNat (zv.cells.toList.map cval0)).length = li.toNat := List.length_replicate
        have hmem : ∀ r ∈ List.replicate li.toNat (zv.cells.toList.map cval0), r = zv.cells.toList.map cval0 := fun r hr => (List.mem_replicate.1 hr).2
        have hkr : ∀ r ∈ List.replicate li.toNat (zv.cells.toList.map cval0), r.length = k := fun r hr => by rw [hmem r hr]; exact hzk
        have hmul : li.toNat * k ≤ ci.toNat * k := Nat.mul_le_mul_right _ (by omega)
        have hxs : ∀ j, j < li.toNat * k → (((madeCells zv.cells (ci.toNat * k)).toList.take (li.toNat * k)))[j]? = zv.cells[j % k]? := fun j hj => by
          rw [List.getElem?_take_of_lt hj, Array.getElem?_toList, hmod _ _ (by omega)]
        have hos : OSl (w.alloc (.cells (madeCells zv.cells (ci.toNat * k)) e)) k (.slice (some ⟨w.heap.size, 0, none⟩) (List.replicate li.toNat (zv.cells.toList.map cval0)).length ci.toNat) (List.replicate li.toNat (zv.cells.toList.map cval0)).length ((madeCells zv.cells (ci.toNat * k)).toList.take (li.toNat * k)) := by
          rw [hln]
          refine OSl.new w _ e k _ _ _ (by rw [List.length_take, Array.length_toList, size_madeCells]; omega) (by omega) (by simp only [maxLen]; omega) (by rw [size_madeCells]) (fun j hj => ?_)
          rw [List.getElem?_take_of_lt hj, Array.getElem?_toList]
        obtain ⟨Rd', Ow', hfin⟩ := hS.freshSl (Frm.alloc _ w _) (by simp) o.dst hos hkr (fun r hr => by rw [hmem r hr]; exact z1) (fun r hr => by rw [hmem r hr]; exact z3) (fun j x u hx hu => by
          have hj : j < li.toNat * k := by
            have := (List.getElem?_eq_some_iff.1 hx).1
            rwa [flat_len hkr, hln] at this
          rw [hxs j hj] at hu
          have hjm : j % k < k := Nat.mod_lt _ hk0
          have hdiv : j / k < li.toNat := Nat.div_lt_of_lt_mul (by rw [Nat.mul_comm]; exact hj)
          have hrow : (List.replicate li.toNat (zv.cells.toList.map cval0))[j / k]? = some (zv.cells.toList.map cval0) := by rw [List.getElem?_replicate, if_pos hdiv]
          have := flat_row hkr hrow (j % k) hjm
          rw [Nat.mul_comm, Nat.div_add_mod] at this
          rw [this] at hx
          exact z2 _ x u hx (by simpa using hu))
        refine ⟨_, _, _, β, Rd', Ow', ?_, .inl rfl, hfin, fun _ _ => rfl, Nat.le_refl _⟩
        simp only [execOp, ho, Sem.run_bind]
        rw [e1, e2, hrun, hln]
        rfl
      · cases h
    · cases h
  · cases h

theorem aconvB_ok {a : Act} {o : Oper} (hS : S3 E W F Rd0 w β Rd Ow fr H a.tmps) {s d : TypeId} {x : Operand} (ho : o.op = .convert s d x) {v : AV} (h : aconvB P s d (aeval fr x) = some v) : StepOk P E W F Rd0 β H.length a o w v fr H := by
  obtain ⟨hx1, _, _⟩ := hS.eval rfl x
  unfold aconvB at h
  split at h
  · rename_i l heq
    rw [heq] at hx1
    obtain ⟨sb, hse, rfl, hsz⟩ := rel_str hx1
    split at h
    · rename_i hc
      simp only [Bool.and_eq_true] at hc
      cases h
      obtain ⟨e, hd, he⟩ := tbytes_spec hc.2
      obtain ⟨cap, w', hrun, hos, hf, hlt⟩ := run_bytes_osl (P := P) w s d e sb (tstr_spec hc.1) hd he hsz
      have hos' : OSl w' 1 (.slice (some ⟨w.heap.size, 0, none⟩) (bts sb.data.toList).length cap) (bts sb.data.toList).length (u8s sb.data.toList) := by rw [bts_len, size_toList]; exact hos
      obtain ⟨Rd', Ow', hfin⟩ := hS.freshSl hf (by omega) o.dst hos' (fun r hr => by obtain ⟨b, _, rfl⟩ := List.mem_map.1 hr; rfl)
        (fun r hr x hx => by obtain ⟨b, _, rfl⟩ := List.mem_map.1 hr; simp at hx; subst hx; exact ⟨rfl, rfl⟩) (fun r hr x hx => by obtain ⟨b, _, rfl⟩ := List.mem_map.1 hr; simp at hx; subst hx; exact .int _ _)
        (fun j x u hx hu => by
          rw [bts_flat] at hx
          rw [u8s_at] at hu
          cases hb : sb.data.toList[j]? with
          | none => rw [hb] at hx; cases hx
          | some b => rw [hb] at hx hu; cases hx; cases hu; exact .int _ _)
      refine ⟨_, _, w', β, Rd', Ow', ?_, .inl rfl, hfin, fun _ _ => rfl, Nat.le_refl _⟩
      simp only [execOp, ho, Sem.run_bind]
      rw [hse, hrun, bts_len, size_toList]
      rfl
    · cases h
  · cases h

theorem opt_map {α β : Type} {x : Option α} {f : α → β} {y : β} (h : x.map f = some y) : ∃ z, x = some z ∧ f z = y := by
  cases x with
  | none => cases h
  | some z => exact ⟨z, rfl, by simpa using h⟩

theorem aop_ok {B : List Tmp} {a : Act} {o : Oper} (hS : S3 E W F Rd0 w β Rd Ow fr H a.tmps) {v : AV} (h : aop P B fr H o = some (v, fr', H')) : StepOk P E W F Rd0 β H.length a o w v fr' H' := by
  unfold aop at h
  split at h
  · -- assign
    rename_i x ho
    cases h
    obtain ⟨r1, r2, r3⟩ := hS.eval rfl x
    obtain ⟨Ow', hT, hO⟩ := hS.take rfl x (o.dst.map .slot)
    exact ⟨_, _, w, β, Rd, Ow', by simp only [execOp, ho]; rfl, .inl rfl, hT.aput o.dst rfl r1 r2 r3 (fun g hg t ht => by rw [hO g hg, ht]; rfl), fun _ _ => rfl, Nat.le_refl _⟩
  · -- move
    rename_i x ho
    obtain ⟨r1, r2, r3⟩ := hS.eval rfl x
    split at h
    · cases h
      obtain ⟨Ow', hT, hO⟩ := hS.take rfl x (o.dst.map .slot)
      exact ⟨_, _, w, β, Rd, Ow', by simp only [execOp, ho]; rfl, .inl rfl, hT.aput o.dst rfl r1 r2 r3 (fun g hg t ht => by rw [hO g hg, ht]; rfl), fun _ _ => rfl, Nat.le_refl _⟩
    · cases h
      exact got_fin hS (by simp only [execOp, ho]; rfl) ⟨r1.dis, r2.dis, r3⟩
  · -- pick
    rename_i c x y ho
    split at h
    · rename_i t heq
      cases h
      obtain ⟨c1, _, _⟩ := hS.eval rfl c
      rw [heq] at c1
      have hc := rel_bool c1
      obtain ⟨x1, x2, x3⟩ := hS.eval rfl x
      obtain ⟨y1, y2, y3⟩ := hS.eval rfl y
      refine got_fin hS (c := if t then a.eval x else a.eval y) (by simp [execOp, ho, hc, asBool]) ?_
      cases t
      · exact ⟨y1.dis, y2.dis, y3⟩
      · exact ⟨x1.dis, x2.dis, x3⟩
    · cases h
  · -- alloc
    rename_i t ho
    obtain ⟨l, hl, he⟩ := opt_map h
    cases he
    obtain ⟨i, z, hi, hz, hone, rfl⟩ := tzc_spec hl
    obtain ⟨z1, z2, z3⟩ := cval0_list (w := w) (β := β) (Rd := Rd) (N := H.length) _ hone
    refine newBox_ok hS _ z.cells t (by simp) (fun j x u hx hu => ?_) (by simp [execOp, ho, Instr.alloc, zeroValue, typeInfo, hi, hz, newVar, newRow])
    exact ⟨z2 j x u hx (by simpa using hu), (z1 x (mem_at hx)).2, z3 x (mem_at hx), fun g hg => by rw [own0_free (z1 x (mem_at hx)).1] at hg; cases hg⟩
  · -- box
    rename_i t x ho
    obtain ⟨l, hl, he⟩ := opt_map h
    cases he
    obtain ⟨r1, r2, r3⟩ := hS.eval rfl x
    obtain ⟨Ow', hT, hO⟩ := hS.take rfl x (some (.cell H.length 0))
    obtain ⟨e1, e2, e3⟩ := acells_ok hl r1 r2 r3
    refine newBox_ok hT _ (a.eval x).cells t e1 (fun j y u hy hu => ?_) (by simp [execOp, ho, Instr.box, newVar, newRow])
    obtain ⟨q1, q2, q3, q4⟩ := e3 j y u hy (by simpa using hu)
    refine ⟨q1, q2, q3, fun g hg => ?_⟩
    obtain ⟨q5, rfl⟩ := q4 g hg
    exact hO g q5
  · -- build
    rename_i t parts ho
    obtain ⟨l, hl, he⟩ := opt_map h
    cases he
    obtain ⟨c, hr, hg⟩ := abuild_ok hS hl
    exact got_fin hS (by simp only [execOp, ho, Sem.run_bind]; rw [hr]; rfl) hg
  · -- buildSlice
    rename_i t n parts ho
    obtain ⟨l, hl, he⟩ := opt_map h
    cases he
    exact alit_ok hS ho hl
  · rename_i t x ho
    exact aload_ok hS ho h
  · rename_i t x y ho
    exact astore_ok hS ho h
  · -- nilCheck
    rename_i x ho
    obtain ⟨l, hl, he⟩ := opt_map h
    cases he
    obtain ⟨r1, r2, r3⟩ := hS.eval rfl x
    unfold anil at hl
    split at hl <;> cases hl
    · rename_i p heq
      rw [heq] at r1 r2
      obtain ⟨i, q⟩ := p
      exact got_fin hS (c := .pointer (some ⟨β i, q, none⟩)) (by simp [execOp, ho, rel_ptr r1]) ⟨.ptr i q, r2, rfl⟩
    · rename_i l heq
      rw [heq] at r1 r2
      obtain ⟨g, q, us, hxe, hl, hc, hf, hr⟩ := rel_elt r1
      exact got_fin hS (c := .pointer (some ⟨g, q, none⟩)) (by simp [execOp, ho, hxe]) ⟨.elt l g q us hl hc hf hr, r2, rfl⟩
    · rename_i f l heq
      rw [heq] at r1 r2
      obtain ⟨vs, hxe, hg⟩ := rel_fn r1
      exact got_fin hS (c := .func (.func f) #[] vs) (by simp [execOp, ho, hxe]) ⟨hg, r2, rfl⟩
  · -- binOp
    rename_i op t x y t' ho
    obtain ⟨l, hl, he⟩ := opt_map h
    cases he
    obtain ⟨x1, _, _⟩ := hS.eval rfl x
    obtain ⟨y1, _, _⟩ := hS.eval rfl y
    obtain ⟨c, h1, h2⟩ := abin_ok (P := P) hl x1 y1 x y
    refine got_fin hS (c := c) ?_ h2
    simp only [execOp, ho]
    rw [Sem.run_bind, h1]
    rfl
  · -- unOp
    rename_i op t x ho
    obtain ⟨l, hl, he⟩ := opt_map h
    cases he
    obtain ⟨x1, _, _⟩ := hS.eval rfl x
    obtain ⟨c, h1, h2⟩ := aun_ok (P := P) (N := H.length) hl x1
    exact got_fin hS (by simp only [execOp, ho, Sem.run_bind]; rw [h1]; rfl) h2
  · -- convert
    rename_i s d x ho
    obtain ⟨l, hl, he⟩ := opt_map h
    cases he
    cases hb : aconvB P s d (aeval fr x) with
    | some v' =>
      rw [hb] at hl
      cases hl
      exact aconvB_ok hS ho hb
    | none =>
      rw [hb] at hl
      obtain ⟨x1, _, _⟩ := hS.eval rfl x
      obtain ⟨c, h1, h2⟩ := aconv_ok (P := P) (N := H.length) hl x1
      exact got_fin hS (by simp only [execOp, ho, Sem.run_bind]; rw [h1]; rfl) h2
  · -- makeSlice
    rename_i t l c ho
    obtain ⟨l', hl, he⟩ := opt_map h
    cases he
    exact amake_ok hS ho hl
  · -- slice
    rename_i t x lo hi mx ho
    obtain ⟨l, hl, he⟩ := opt_map h
    cases he
    obtain ⟨x1, x2, _⟩ := hS.eval rfl x
    obtain ⟨c, h1, h2⟩ := aslice_ok (P := P) hl x1 x2 (brel_map hS rfl lo) (brel_map hS rfl hi) (brel_map hS rfl mx)
    exact got_fin hS (by simp only [execOp, ho, Sem.run_bind]; rw [h1]; rfl) h2
  · -- fieldAddr
    rename_i t x f ho
    obtain ⟨l, hl, he⟩ := opt_map h
    cases he
    obtain ⟨x1, x2, _⟩ := hS.eval rfl x
    obtain ⟨c, h1, h2⟩ := afaddr_ok (P := P) hl x1 x2
    exact got_fin hS (by simp only [execOp, ho, Sem.run_bind]; rw [h1]; rfl) h2
  · -- field
    rename_i t x f ho
    obtain ⟨l, hl, he⟩ := opt_map h
    cases he
    obtain ⟨x1, x2, _⟩ := hS.eval rfl x
    obtain ⟨c, h1, h2⟩ := afield_ok (P := P) hl x1 x2
    exact got_fin hS (by simp only [execOp, ho, Sem.run_bind]; rw [h1]; rfl) h2
  · -- indexAddr
    rename_i t x i ho
    obtain ⟨l, hl, he⟩ := opt_map h
    cases he
    obtain ⟨x1, x2, _⟩ := hS.eval rfl x
    obtain ⟨i1, _, _⟩ := hS.eval rfl i
    obtain ⟨c, h1, h2⟩ := aixaddr_ok (P := P) hl x1 x2 i1
    exact got_fin hS (by simp only [execOp, ho, Sem.run_bind]; rw [h1]; rfl) h2
  · -- index
    rename_i t x i ho
    obtain ⟨l, hl, he⟩ := opt_map h
    cases he
    obtain ⟨x1, x2, _⟩ := hS.eval rfl x
    obtain ⟨i1, _, _⟩ := hS.eval rfl i
    obtain ⟨c, h1, h2⟩ := aix_ok (P := P) (N := H.length) hl x1 x2 i1
    exact got_fin hS (by simp only [execOp, ho, Sem.run_bind]; rw [h1]; rfl) h2
  · -- extract
    rename_i x i ho
    obtain ⟨l, hl, he⟩ := opt_map h
    cases he
    obtain ⟨x1, x2, _⟩ := hS.eval rfl x
    obtain ⟨c, h1, h2⟩ := aextract_ok (P := P) hl x1 x2
    exact got_fin hS (by simp only [execOp, ho, Sem.run_bind]; rw [h1]; rfl) h2
  · -- builtin
    rename_i c ho
    split at h
    · rename_i b hb
      unfold abuiltin at h
      obtain ⟨callee, args, argTypes⟩ := c
      simp only at hb h
      subst hb
      split at h
      · rename_i b' xs' ts' x t hxs hts
        have hxs : args = #[x] := by simpa using congrArg List.toArray hxs
        have hts : argTypes = #[t] := by simpa using congrArg List.toArray hts
        subst hxs; subst hts
        obtain ⟨l, hl, he⟩ := opt_map h
        cases he
        obtain ⟨x1, _, _⟩ := hS.eval rfl x
        obtain ⟨c, h1, h2⟩ := alen_ok (P := P) (ty := o.type) (N := H.length) hl x1
        exact got_fin hS (by simp [execOp, ho, resolve, invoke, builtin, h1]) h2
      · rename_i b' xs' ts' x y t t' hxs hts
        have hxs : args = #[x, y] := by simpa using congrArg List.toArray hxs
        have hts : argTypes = #[t, t'] := by simpa using congrArg List.toArray hts
        subst hxs; subst hts
        exact aappend_ok hS ho h
      · rename_i b' xs' ts' x y hxs
        have hxs : args = #[x, y] := by simpa using congrArg List.toArray hxs
        subst hxs
        split at h
        · rename_i k i k' j hx hy
          cases h
          obtain ⟨x1, _, _⟩ := hS.eval rfl x
          obtain ⟨y1, _, _⟩ := hS.eval rfl y
          rw [hx] at x1
          rw [hy] at y1
          exact got_fin hS (by simp [execOp, ho, resolve, invoke, builtin, rel_int x1, rel_int y1, run_min_int2]) Got.int
        · cases h
      · rename_i b' xs' ts' x y hxs
        have hxs : args = #[x, y] := by simpa using congrArg List.toArray hxs
        subst hxs
        split at h
        · rename_i k i k' j hx hy
          cases h
          obtain ⟨x1, _, _⟩ := hS.eval rfl x
          obtain ⟨y1, _, _⟩ := hS.eval rfl y
          rw [hx] at x1
          rw [hy] at y1
          exact got_fin hS (by simp [execOp, ho, resolve, invoke, builtin, rel_int x1, rel_int y1, run_max_int2]) Got.int
        · cases h
      · cases h
    · cases h
  · cases h
end
end Go.Proofs.YtimhofphmgehgaaDoor
