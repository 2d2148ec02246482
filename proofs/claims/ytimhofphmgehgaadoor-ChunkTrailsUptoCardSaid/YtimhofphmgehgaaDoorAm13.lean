/- THE ABSTRACT MACHINE: how a function is entered and left. For every program. -/
import Derived.Test.YtimhofphmgehgaaDoorAm12
set_option linter.unusedVariables false
set_option linter.unusedSimpArgs false
namespace Go.Proofs.YtimhofphmgehgaaDoor
open Go Go.RowKit

/-- What a result variable holds. -/
def ares1 (P : Program) (fr : List AV) (H : Hp) : ResultVar → Option AV
  | .tmp t => some (fr.getD t (.raw undef))
  | .cell a t => match fr.getD a (.raw undef) with
    | .ptr p => match aload P [] none t fr H (.ptr p) with
      | some (v, _) => some v
      | none => none
    | _ => none
def aresL (P : Program) (fr : List AV) (H : Hp) : List ResultVar → Option (List AV)
  | [] => some []
  | r :: l => match ares1 P fr H r, aresL P fr H l with
    | some v, some m => some (v :: m)
    | _, _ => none
def ares (P : Program) (fr : List AV) (H : Hp) (rs : List ResultVar) : Option AV := match rs with
  | [.tmp t] => some (fr.getD t (.raw undef))
  | rs => match aresL P fr H rs with
    | some [v] => some v.dis
    | some l => some (.tup (l.map AV.dis))
    | none => none
/-- A result that is nil may be seen as a slice of no rows. -/
def nilV (v0 v : AV) : Prop := nil1 v0 v ∨ ∃ l m, v0 = .tup l ∧ v = .tup m ∧ nilL l m ∧ ∀ x ∈ m, x.free = true
def BndH (m : Nat) (H : Hp) : Prop := ∀ l ∈ H, ∀ x ∈ l, Bnd m x
/-- Where a function ends. -/
def aPost (P : Program) (rs : List ResultVar) (n : Nat) (Q : AV → Hp → Prop) : Exit → List AV → Hp → Prop
  | .normal, fr, H | .ret, fr, H => ∃ v0 v H1 H' J, ares P fr H rs = some v0 ∧ nilV v0 v ∧ nilH H H1 ∧ H1 = H' ++ J ∧ n ≤ H'.length ∧ BndH H'.length H' ∧ Bnd H'.length v ∧ Q v H'
  | _, _, _ => False
/-- May the function be walked so? -/
def okB (P : Program) (B : List Tmp) (ND : List (Nat × List Nat)) (fn : Func) : Bool := !(fn.name == "runtime.NumGoroutine") && P.follows .mixedOrders && (match fn.body with
  | some c => regsB B ND c
  | none => false)

section
variable {P : Program} {E : Env} {W : World} {F : Nat → Prop} {Rd0 : Nat → Nat → Prop} {w w' : World} {β β0 β' : Nat → Nat} {Rd Rd' : Nat → Nat → Prop} {Ow Ow' : Nat → Option Hold} {fr fr' : List AV} {H H' : Hp} {tmps : Array Value} {N n : Nat}

/-- A result variable. -/
theorem ares1_ok {a : Act} (hS : S3 E W F Rd0 w β Rd Ow fr H a.tmps) {r : ResultVar} {v : AV} (h : ares1 P fr H r = some v) : ∃ c, (match r with
    | .tmp t => pure (a.tmps.getD t undef)
    | .cell x t => do loadVar t (← asAddr (a.tmps.getD x undef)) : Sem Value).run P w = .ok c w ∧ Rel w β Rd v c ∧ v.dis.free = true := by
  unfold ares1 at h
  split at h
  · rename_i t
    cases h
    obtain ⟨r1, r2, r3⟩ := hS.eval rfl (.tmp t)
    exact ⟨_, rfl, r1, r3⟩
  · rename_i x t
    split at h
    · rename_i p heq
      have hx : Rel w β Rd (.ptr p) (a.tmps.getD x undef) := by have := (hS.eval rfl (.tmp x)).1; rw [show aeval fr (.tmp x) = .ptr p from heq] at this; exact this
      split at h
      · rename_i v' rest hl
        cases h
        obtain ⟨fr2, H2⟩ := rest
        have hl' : aload P [] none t fr H (aeval fr (.tmp x)) = some (v, fr2, H2) := by rw [show aeval fr (.tmp x) = .ptr p from heq]; exact hl
        have key := aload_val hS hl'
        obtain ⟨c, h1, h2, h3⟩ := key
        refine ⟨c, ?_, h2, h3⟩
        cases p with
        | none => simp [aload] at hl
        | some q =>
          obtain ⟨i, o⟩ := q
          have he := rel_ptr hx
          have h1' : (Instr.loadAt t (a.tmps.getD x undef)).run P w = .ok c w := h1
          rw [he] at h1' ⊢
          simpa [Instr.loadAt, Instr.sureAddr, asAddr] using h1'
      · cases h
    · cases h
where
  aload_val {a : Act} (hS : S3 E W F Rd0 w β Rd Ow fr H a.tmps) {t : TypeId} {x : Operand} {v : AV} {fr' : List AV} {H' : Hp} (h : aload P [] none t fr H (aeval fr x) = some (v, fr', H')) : ∃ c, (Instr.loadAt t (a.eval x)).run P w = .ok c w ∧ Rel w β Rd v c ∧ v.dis.free = true := by
    obtain ⟨hx1, hx2, hx3⟩ := hS.eval rfl x
    have single : ∀ (b p : Nat) (c : Value), trow P t = some false → w.cell? ⟨b, p, none⟩ = some c → a.eval x = .pointer (some ⟨b, p, none⟩) → (Instr.loadAt t (a.eval x)).run P w = .ok c w := fun b p c ht hc he => by
      rw [he]
      simp [Instr.loadAt, Instr.sureAddr, loadVar, run_isAgg ht, hc]
    unfold aload at h
    split at h
    · rename_i i p heq
      rw [heq] at hx1 hx2
      have he : a.eval x = .pointer (some ⟨β i, p, none⟩) := rel_ptr hx1
      split at h
      · rename_i l hl hrow
        obtain ⟨T, cs, h1, h2, h3⟩ := hS.hr.box i l hl
        split at h
        · rename_i n hn
          split at h
          · rename_i hcond
            obtain ⟨hle, hfr⟩ := hcond
            cases h
            have hlen : ((cs.toList.drop p).take n).length = n := by rw [List.length_take, List.length_drop]; simp; omega
            obtain ⟨d, hd1, hd2⟩ := trow_spec hrow
            have hrg : w.rangeAt (β i) p ((cs.toList.drop p).take n) := fun j u hu => by
              have hj : j < n := by have := (List.getElem?_eq_some_iff.1 hu).1; omega
              rw [List.getElem?_take_of_lt hj, List.getElem?_drop] at hu
              rw [cell_blk h1]; simpa using hu
            refine ⟨_, by rw [he]; exact run_loadAt_mid w (β i) p t ((cs.toList.drop p).take n) d hrg hd1 hd2 (by rw [hlen]; exact hn), .agg _ _ (by simp; omega) (fun y hy => ?_) (fun j y u hy hu => ?_), rfl⟩
            · obtain ⟨z, hz, rfl⟩ := List.mem_map.1 hy
              refine ⟨List.all_eq_true.1 hfr z hz, ?_⟩
              obtain ⟨j, hj⟩ := List.getElem?_of_mem (List.mem_of_mem_drop (List.mem_of_mem_take hz))
              have hj' : j < cs.size := by have := (List.getElem?_eq_some_iff.1 hj).1; omega
              have := (h3 j z _ hj (Array.getElem?_eq_getElem hj')).2.1
              cases z <;> simp_all [AV.dis, AV.one]
            · rw [List.getElem?_map] at hy
              cases hz : ((l.drop p).take n)[j]? with
              | none => rw [hz] at hy; cases hy
              | some z =>
                rw [hz] at hy
                simp at hy
                subst hy
                have hj : j < n := by have := (List.getElem?_eq_some_iff.1 hz).1; rw [List.length_take] at this; omega
                rw [List.getElem?_take_of_lt hj, List.getElem?_drop] at hz
                have hu' : cs[p + j]? = some u := by
                  simp only [List.getElem?_toArray] at hu
                  rw [List.getElem?_take_of_lt hj, List.getElem?_drop] at hu
                  simpa using hu
                exact (h3 _ z u hz hu').1.dis
          · cases h
        · cases h
      · rename_i l hl hrow
        obtain ⟨T, cs, h1, h2, h3⟩ := hS.hr.box i l hl
        split at h
        · rename_i y hy
          have hp : p < cs.size := by have := (List.getElem?_eq_some_iff.1 hy).1; omega
          have hc : cs[p]? = some cs[p] := Array.getElem?_eq_getElem hp
          obtain ⟨r1, r2, r3⟩ := h3 p y _ hy hc
          have hrun := single (β i) p cs[p] hrow ((cell_blk h1 p).trans hc) he
          split at h
          · rename_i hd
            simp [inB] at h
            obtain ⟨rfl, _⟩ := h
            exact ⟨_, hrun, r1.dis, dis_free_idem hd⟩
          · cases h
        · cases h
      · cases h
    · rename_i l heq
      rw [heq] at hx1 hx2
      obtain ⟨g, q, us, hxe, hl, hc, hf, hr⟩ := rel_elt hx1
      split at h
      · rename_i hrow
        split at h
        · rename_i hs
          cases h
          obtain ⟨d, hd1, hd2⟩ := trow_spec hrow
          have hrg : w.rangeAt g q us := fun j u hu => by rw [(hc j (List.getElem?_eq_some_iff.1 hu).1).2]; exact hu
          exact ⟨_, by rw [hxe]; exact run_loadAt_mid w g q t us d hrg hd1 hd2 (by rw [hl]; exact hs), .agg _ _ (by simpa using hl) hf (fun j y u hy hu => hr j y u hy (by simpa using hu)), rfl⟩
        · cases h
      · rename_i hrow
        split at h
        · rename_i y
          cases h
          have h0 := (hc 0 (by rw [hl]; simp)).2
          have hu : us[0]? = some (us[0]'(by rw [hl]; simp)) := List.getElem?_eq_getElem _
          rw [hu, Nat.add_zero] at h0
          exact ⟨_, single g q _ hrow h0 hxe, hr 0 v _ rfl hu, dis_free_of_free (hf v (by simp)).1⟩
        · cases h
      · cases h
    · cases h

theorem aresL_ok {a : Act} (hS : S3 E W F Rd0 w β Rd Ow fr H a.tmps) : ∀ (rs : List ResultVar) (l : List AV), aresL P fr H rs = some l → ∃ cs : List Value, (rs.mapM fun r => (match r with
    | .tmp t => pure (a.tmps.getD t undef)
    | .cell x t => do loadVar t (← asAddr (a.tmps.getD x undef)) : Sem Value)).run P w = .ok cs w ∧ cs.length = l.length ∧ (∀ x ∈ l, x.dis.free = true) ∧ ∀ (j : Nat) x u, l[j]? = some x → cs[j]? = some u → Rel w β Rd x u
  | [], l, h => by cases h; exact ⟨[], rfl, rfl, by simp, by simp⟩
  | r :: rs, l, h => by
    rw [aresL] at h
    split at h
    · rename_i v m h1 h2
      cases h
      obtain ⟨c, hc, hr, hd⟩ := ares1_ok hS h1
      obtain ⟨cs, i1, i2, i3, i4⟩ := aresL_ok hS rs m h2
      refine ⟨c :: cs, ?_, by simp [i2], fun x hx => ?_, fun j x u hx hu => ?_⟩
      · rw [List.mapM_cons, Sem.run_bind, hc]
        simp only [Result.andThen_ok]
        rw [Sem.run_bind, i1]
        rfl
      · rcases List.mem_cons.1 hx with rfl | hx; exact hd; exact i3 x hx
      · cases j with
        | zero => simp at hx hu; subst hx; subst hu; exact hr
        | succ j => exact i4 j x u (by simpa using hx) (by simpa using hu)
    · cases h

theorem ares_ok {a : Act} (hS : S3 E W F Rd0 w β Rd Ow fr H a.tmps) {fn : Func} {v : AV} (h : ares P fr H fn.results.toList = some v) : ∃ c Ow' fr', (results fn a.tmps).run P w = .ok c w ∧ S3 E W F Rd0 w β Rd Ow' fr' H a.tmps ∧ Rel w β Rd v c ∧ v.dis.free = true ∧ ∀ g, own0 v c = some g → Ow' g = some (.slot 0) := by
  have hres : (results fn a.tmps) = (do
      let vs ← fn.results.mapM fun
        | .tmp t => pure (a.tmps.getD t undef)
        | .cell x t => do loadVar t (← asAddr (a.tmps.getD x undef))
      pure (if h : vs.size = 1 then vs[0] else .tuple vs)) := rfl
  unfold ares at h
  split at h
  · rename_i t hrs
    cases h
    have hr : fn.results = #[.tmp t] := by simpa using congrArg List.toArray hrs
    obtain ⟨r1, r2, r3⟩ := hS.eval rfl (.tmp t)
    obtain ⟨Ow', hT, hO⟩ := hS.take rfl (.tmp t) (some (.slot 0))
    refine ⟨_, Ow', _, ?_, hT, r1, r3, hO⟩
    rw [hres, hr]
    simp [Act.eval]
  · rename_i hne
    split at h
    · rename_i x hl
      cases h
      obtain ⟨cs, i1, i2, i3, i4⟩ := aresL_ok hS fn.results.toList [x] hl
      match cs, i2 with
      | [c], _ =>
        refine ⟨c, Ow, fr, ?_, hS, (i4 0 x c rfl rfl).dis, dis_free_idem (i3 x (by simp)), fun g hg => by rw [own0_free (i3 x (by simp))] at hg; cases hg⟩
        rw [hres]
        rw [Sem.run_bind, Array.mapM_eq_mapM_toList, Sem.run_map, i1]
        simp
    · rename_i l hne2 hl
      cases h
      obtain ⟨cs, i1, i2, i3, i4⟩ := aresL_ok hS fn.results.toList l hl
      refine ⟨.tuple cs.toArray, Ow, fr, ?_, hS, .tup _ _ (by simp [i2]) (fun y hy => ?_) (fun j y u hy hu => ?_), rfl, fun g hg => by cases hg⟩
      · rw [hres]
        rw [Sem.run_bind, Array.mapM_eq_mapM_toList, Sem.run_map, i1]
        have hsz : ¬ cs.length = 1 := by
          rw [i2]
          intro h1
          match l, h1 with
          | [x], _ => exact hne2 x rfl
        simp [hsz]
      · obtain ⟨x, hx, rfl⟩ := List.mem_map.1 hy
        exact i3 x hx
      · rw [List.getElem?_map] at hy
        cases hx : l[j]? with
        | none => rw [hx] at hy; cases hy
        | some x =>
          rw [hx] at hy
          cases hy
          exact (i4 j x u hx (by simpa using hu)).dis
    · cases h

theorem nilV_ok {v0 v : AV} {c : Value} (h : nilV v0 v) (hr : Rel w β Rd v0 c) (hd : v0.dis.free = true) : Rel w β Rd v c ∧ v.dis.free = true ∧ ∀ g, own0 v c = some g → own0 v0 c = some g := by
  rcases h with h | ⟨l, m, rfl, rfl, hn, hf⟩
  · rcases h with rfl | ⟨rfl, b, k, rfl⟩
    · exact ⟨hr, hd, fun _ h => h⟩
    · obtain ⟨q1, _, q3, _, q5⟩ := nil1_rel (N := 0) (.inr ⟨rfl, b, k, rfl⟩ : nil1 .nil (.sl b k [])) hr .nil
      exact ⟨q1, q5 hd, q3⟩
  · obtain ⟨e1, a1⟩ := nilL_at hn
    cases hr with
    | tup _ vs hl hf0 hr =>
      refine ⟨.tup m vs (by omega) hf (fun j x u hx hu => ?_), rfl, fun g hg => by cases hg⟩
      obtain ⟨x0, hx0, hnx⟩ := a1 j x hx
      have := hr j x0 u hx0 hu
      rcases hnx with rfl | ⟨rfl, b, k, rfl⟩
      · exact this
      · exact (nil1_rel (N := 0) (.inr ⟨rfl, b, k, rfl⟩ : nil1 .nil (.sl b k [])) this .nil).1

/-- ARGUMENTS that are nil may be seen as slices of no rows. -/
theorem PC.args {f : FuncId} {args args' : List AV} {Q : AV → Hp → Prop} (h : PC P E f args' H Q) (hn : nilL args args') (hf : ∀ x ∈ args', x.free = true) : PC P E f args H Q := by
  obtain ⟨e1, a1⟩ := nilL_at hn
  refine ⟨h.1, fun w β Rd Ow cargs h1 h2 h3 h4 => h.2 w β Rd Ow cargs h1 h2 (by omega) (fun t x u hx hu => ?_)⟩
  obtain ⟨x0, hx0, hnx⟩ := a1 t x hx
  obtain ⟨r1, r2, r3⟩ := h4 t x0 u hx0 hu
  obtain ⟨q1, q2, _⟩ := nil1_rel hnx r1 r2
  exact ⟨q1, q2, hf x (mem_at hx)⟩

/-- A FUNCTION, ENTERED. -/
theorem pc_enter {f : FuncId} {fn : Func} {c : Code} (hf : P.funcs[f]? = some fn) (hb : fn.body = some c) (B : List Tmp) (ND : List (Nat × List Nat)) (hok : okB P B ND fn = true) {args : List AV} {Q : AV → Hp → Prop}
    (h : BndH H.length H → vc P E B ND c (aPost P fn.results.toList H.length Q) (args ++ List.replicate (fn.ntmps - args.length) (.raw undef)) H) : PC P E f args H Q := by
  unfold okB at hok
  rw [hb] at hok
  simp only [Bool.and_eq_true, Bool.not_eq_true'] at hok
  obtain ⟨⟨hname, hm⟩, hreg⟩ := hok
  refine ⟨by simp [hasB, hf, hb, hname], fun w β Rd Ow cargs hr hcell hsz hargs => ?_⟩
  refine calls_of_wp hf hb ?_
  have hS : S3 E w (fun b => b < w.heap.size ∧ (∀ i, i < H.length → β i ≠ b) ∧ Ow b = none) Rd w β Rd Ow (args ++ List.replicate (fn.ntmps - args.length) (.raw undef)) H (cargs ++ Array.replicate (fn.ntmps - cargs.size) undef) := by
    refine ⟨hr, ⟨by simp [hsz], fun t x u hx hu => ?_⟩, ⟨fun b hb => hb.1, fun _ _ => rfl, fun b hb => hb.2.2, fun b i hb hi => hb.2.1 i hi, fun _ _ _ h => h, rfl, rfl, rfl, Nat.le_refl _, fun _ _ h => ⟨h, rfl⟩⟩, fun x hx => ?_⟩
    · by_cases ht : t < args.length
      · rw [List.getElem?_append_left ht] at hx
        rw [Array.getElem?_append_left (by omega)] at hu
        obtain ⟨r1, r2, r3⟩ := hargs t x u hx hu
        exact ⟨r1, r2, fun g hg => by rw [own0_free r3] at hg; cases hg⟩
      · rw [List.getElem?_append_right (by omega), List.getElem?_replicate] at hx
        rw [Array.getElem?_append_right (by omega), Array.getElem?_replicate] at hu
        split at hx
        · cases hx
          split at hu
          · cases hu; exact ⟨.raw _, .raw _, fun g hg => by cases hg⟩
          · cases hu
        · cases hx
    · rcases List.mem_append.1 hx with h1 | h1
      · obtain ⟨j, hj⟩ := List.getElem?_of_mem h1
        have hj' : j < cargs.size := by have := (List.getElem?_eq_some_iff.1 hj).1; omega
        exact dis_free_of_free (hargs j x _ hj (Array.getElem?_eq_getElem hj')).2.2
      · rw [(List.mem_replicate.1 h1).2]; rfl
  refine vc_ok (n := H.length) (β0 := β) hm c _ _ _ H _ w hreg ⟨rfl, Nat.le_refl _, β, Rd, Ow, hS, fun _ _ => rfl⟩ (h hr.bnd) (fun e fr H1 a w' hs hk => ?_)
  have fin : ∀ v0 v H2 H' J, a.defers = [] → ares P fr H1 fn.results.toList = some v0 → nilV v0 v → nilH H1 H2 → H2 = H' ++ J → H.length ≤ H'.length → BndH H'.length H' → Bnd H'.length v → Q v H' →
      a.defers = [] ∧ ∃ c, (results fn a.tmps).run P w' = .ok c w' ∧ ∃ c' v H' β' Rd' Ow', Ending.returned c = .returned c' ∧ Q v H' ∧ Post E w β Rd Ow H w' β' Rd' Ow' H' v c' := by
    intro v0 v H2 H' J hd hres hnv hnH hH hlen hbH hbv hq
    obtain ⟨_, _, β', Rd', Ow', hS', hβ⟩ := hs
    obtain ⟨c, Ow2, fr2, hrun, hS2, hrel0, hne0, hown0⟩ := ares_ok hS' hres
    have hS2 := hS2.nilTo (nilL_refl _) hnH
    obtain ⟨hrel, hne, hown1⟩ := nilV_ok hnv hrel0 hne0
    have hown : ∀ g, own0 v c = some g → Ow2 g = some (.slot 0) := fun g hg => hown0 g (hown1 g hg)
    have hsub : ∀ i l, H'[i]? = some l → H2[i]? = some l := fun i l hl => by rw [hH, List.getElem?_append_left (List.getElem?_eq_some_iff.1 hl).1]; exact hl
    have hle : H'.length ≤ H2.length := by rw [hH]; simp
    refine ⟨hd, c, hrun, c, v, H', β', Rd', Ow2, rfl, hq, ⟨hrel, hbv, hown, hne, ⟨fun i l hl => hS2.hr.box i l (hsub i l hl), fun i j hi hj => hS2.hr.inj i j (by omega) (by omega), fun i hi => hS2.hr.sep i (by omega), hS2.hr.ows, hS2.hr.rds, hbH, fun b hb => ?_⟩,
      hβ, hlen, fun g o hg => hS2.fo.keep g o hg, fun b hb h1 h2 => ?_, hS2.fo.os, hS2.fo.tape, hS2.fo.output, hS2.fo.size⟩⟩
    · obtain ⟨f1, f2, f3, f4⟩ := hS2.hr.fix b hb
      exact ⟨f1, f2, fun i hi => f3 i (by omega), f4⟩
    · have hF : b < w.heap.size ∧ (∀ i, i < H.length → β i ≠ b) ∧ Ow b = none := ⟨hb, h1, h2⟩
      exact ⟨hS2.fo.same b hF, hS2.fo.own b hF, fun i hi => hS2.fo.box b i hF (by omega), fun o ho => hS2.fo.rd b o hF ho⟩
  obtain ⟨hd, _⟩ := hs
  cases e with
  | normal =>
    obtain ⟨v0, v, H2, H', J, h1, h2, h2', h3, h4, h5, h6, h7⟩ := hk
    exact fin v0 v H2 H' J hd h1 h2 h2' h3 h4 h5 h6 h7
  | ret =>
    obtain ⟨v0, v, H2, H', J, h1, h2, h2', h3, h4, h5, h6, h7⟩ := hk
    exact fin v0 v H2 H' J hd h1 h2 h2' h3 h4 h5 h6 h7
  | _ => exact hk.elim
theorem HR.env {E' : Env} (h0 : E'.w0 = E.w0) (hF : E'.Fix = E.Fix) {w : World} {β : Nat → Nat} {Rd : Nat → Nat → Prop} {Ow : Nat → Option Hold} {H : Hp} (h : HR E w β Rd Ow H) : HR E' w β Rd Ow H :=
  ⟨h.box, h.inj, h.sep, h.ows, h.rds, h.bnd, fun b hb => by rw [h0]; exact h.fix b (by rw [← hF]; exact hb)⟩
theorem PC.env {E' : Env} (h0 : E'.w0 = E.w0) (hF : E'.Fix = E.Fix) {f : FuncId} {args : List AV} {H : Hp} {Q : AV → Hp → Prop} (h : PC P E' f args H Q) : PC P E f args H Q :=
  ⟨h.1, fun w β Rd Ow cargs h1 h2 h3 h4 => (h.2 w β Rd Ow cargs (h1.env h0 hF) h2 h3 h4).mono fun e w' ⟨c, v, H', β', Rd', Ow', he, hQ, hp⟩ =>
    ⟨c, v, H', β', Rd', Ow', he, hQ, ⟨hp.rel, hp.bnd, hp.own, hp.ne, hp.hr.env h0.symm hF.symm, hp.old, hp.len, hp.keep, hp.frame, hp.os, hp.tape, hp.output, hp.size⟩⟩⟩
/-- .. whose flagged loads read boxes of S alone. -/
theorem pc_enterL (S : Nat → Prop) {f : FuncId} {fn : Func} {c : Code} (hf : P.funcs[f]? = some fn) (hb : fn.body = some c) (B : List Tmp) (ND : List (Nat × List Nat)) (hok : okB P B ND fn = true) {args : List AV} {H : Hp} {Q : AV → Hp → Prop}
    (h : ∀ E' : Env, E'.S = S → BndH H.length H → vc P E' B ND c (aPost P fn.results.toList H.length Q) (args ++ List.replicate (fn.ntmps - args.length) (.raw undef)) H) : PC P E f args H Q :=
  PC.env (E := E) (E' := { E with S := S }) rfl rfl (pc_enter hf hb B ND hok (h _ rfl))
end
end Go.Proofs.YtimhofphmgehgaaDoor
