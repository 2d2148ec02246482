/- THE ABSTRACT MACHINE: calls, regions, code; what a function answers. For every program. -/
import Derived.Test.YtimhofphmgehgaaDoorAm10
import Derived.Test.YtimhofphmgehgaaDoorText3
set_option linter.unusedVariables false
set_option linter.unusedSimpArgs false
namespace Go.Proofs.YtimhofphmgehgaaDoor
open Go Go.RowKit

/-- What a call leaves. -/
structure Post (E : Env) (w : World) (β : Nat → Nat) (Rd : Nat → Nat → Prop) (Ow : Nat → Option Hold) (H : Hp) (w' : World) (β' : Nat → Nat) (Rd' : Nat → Nat → Prop) (Ow' : Nat → Option Hold) (H' : Hp) (v : AV) (c : Value) : Prop where
  rel : Rel w' β' Rd' v c
  bnd : Bnd H'.length v
  own : ∀ g, own0 v c = some g → Ow' g = some (.slot 0)
  ne : v.dis.free = true
  hr : HR E w' β' Rd' Ow' H'
  old : ∀ i, i < H.length → β' i = β i
  len : H.length ≤ H'.length
  keep : ∀ g o, Rd g o → Rd' g o ∧ w'.cell? ⟨g, o, none⟩ = w.cell? ⟨g, o, none⟩
  frame : ∀ b, b < w.heap.size → (∀ i, i < H.length → β i ≠ b) → Ow b = none → w'.heap[b]? = w.heap[b]? ∧ Ow' b = none ∧ (∀ i, i < H'.length → β' i ≠ b) ∧ ∀ o, Rd' b o → Rd b o
  os : w'.os = w.os
  tape : w'.tape = w.tape
  output : w'.output = w.output
  size : w.heap.size ≤ w'.heap.size

def hasB (P : Program) (f : FuncId) : Bool := match P.funcs[f]? with
  | some fn => fn.body.isSome && !(fn.name == "runtime.NumGoroutine")
  | none => false
/-- A FUNCTION's ANSWER: called on the arguments where the boxes are H, it returns a value v and leaves boxes H' with Q v H'. -/
def PC (P : Program) (E : Env) (f : FuncId) (args : List AV) (H : Hp) (Q : AV → Hp → Prop) : Prop :=
  hasB P f = true ∧ ∀ (w : World) (β : Nat → Nat) (Rd : Nat → Nat → Prop) (Ow : Nat → Option Hold) (cargs : Array Value), HR E w β Rd Ow H → (∀ g h, Ow g = some h → ∃ i j, h = .cell i j) → cargs.size = args.length →
    (∀ (t : Nat) x u, args[t]? = some x → cargs[t]? = some u → Rel w β Rd x u ∧ Bnd H.length x ∧ x.free = true) →
    Calls P f cargs w fun e w' => ∃ c v H' β' Rd' Ow', e = .returned c ∧ Q v H' ∧ Post E w β Rd Ow H w' β' Rd' Ow' H' v c

theorem PC.mono {P : Program} {E : Env} {f : FuncId} {args : List AV} {H : Hp} {Q Q' : AV → Hp → Prop} (h : PC P E f args H Q) (hq : ∀ v H', Q v H' → Q' v H') : PC P E f args H Q' :=
  ⟨h.1, fun w β Rd Ow cargs h1 h2 h3 h4 => (h.2 w β Rd Ow cargs h1 h2 h3 h4).mono fun e w' ⟨c, v, H', β', Rd', Ow', he, hQ, hP⟩ => ⟨c, v, H', β', Rd', Ow', he, hq v H' hQ, hP⟩⟩

def cells (o : Option Hold) : Option Hold := match o with
  | some (.cell i j) => some (.cell i j)
  | _ => none
def merge (d : Option Tmp) (a b : Option Hold) : Option Hold := match a with
  | some (.slot t) => some (.slot t)
  | _ => match b with
    | some (.slot _) => d.map .slot
    | x => x

/-- The state, with the boxes that were there at the start where they were. -/
def St (E : Env) (W : World) (F : Nat → Prop) (Rd0 : Nat → Nat → Prop) (β0 : Nat → Nat) (n : Nat) (fr : List AV) (H : Hp) (a : Act) (w : World) : Prop :=
  a.defers = [] ∧ n ≤ H.length ∧ ∃ β Rd Ow, S3 E W F Rd0 w β Rd Ow fr H a.tmps ∧ ∀ i, i < n → β i = β0 i

section
variable {P : Program} {E : Env} {W : World} {F : Nat → Prop} {Rd0 : Nat → Nat → Prop} {w w' : World} {β β0 β' : Nat → Nat} {Rd Rd' : Nat → Nat → Prop} {Ow Ow' : Nat → Option Hold} {fr fr' : List AV} {H H' : Hp} {tmps : Array Value} {N n : Nat}

theorem hr_cells (h : HR E w β Rd Ow H) : HR E w β Rd (fun g => cells (Ow g)) H :=
  ⟨fun i l hl => let ⟨T, cs, h1, h2, h3⟩ := h.box i l hl; ⟨T, cs, h1, h2, fun j x u hx hu => let ⟨r1, r2, r3⟩ := h3 j x u hx hu; ⟨r1, r2, fun g hg => by show cells (Ow g) = _; rw [r3 g hg]; rfl⟩⟩, h.inj,
    fun i hi => ⟨by show cells (Ow (β i)) = _; rw [(h.sep i hi).1]; rfl, (h.sep i hi).2⟩, fun g k hg => by
      cases hk : Ow g with
      | none => simp [hk, cells] at hg
      | some k' => exact h.ows g k' hk, h.rds, h.bnd, fun b hb => let ⟨f1, f2, f3, f4⟩ := h.fix b hb; ⟨f1, by show cells (Ow b) = _; rw [f2]; rfl, f3, f4⟩⟩

theorem cells_cell : ∀ g h, cells (Ow g) = some h → ∃ i j, h = .cell i j := fun g h hg => by
  unfold cells at hg
  split at hg
  · cases hg; exact ⟨_, _, rfl⟩
  · cases hg

/-- BEHIND A CALL. -/
theorem call_post {a : Act} (hS : S3 E W F Rd0 w β Rd Ow fr H a.tmps) {v : AV} {c : Value} (hp : Post E w β Rd (fun g => cells (Ow g)) H w' β' Rd' Ow' H' v c) (d : Option Tmp) :
    S3 E W F Rd0 w' β' Rd' (fun g => merge d (Ow g) (Ow' g)) (aput fr d v) H' (a.put d c).tmps := by
  have hslot : ∀ g t, Ow g = some (.slot t) → w'.heap[g]? = w.heap[g]? ∧ Ow' g = none ∧ (∀ i, i < H'.length → β' i ≠ g) ∧ ∀ o, Rd' g o → Rd g o := fun g t hg => by
    refine hp.frame g (hS.hr.ows g _ hg) (fun i hi e => ?_) (by show cells (Ow g) = none; rw [hg]; rfl)
    have := (hS.hr.sep i hi).1
    rw [e, hg] at this; cases this
  have hnone : ∀ g, Ow g = none → merge d (Ow g) (Ow' g) = match Ow' g with | some (.slot _) => d.map .slot | x => x := fun g hg => by rw [hg]; rfl
  have hF : ∀ b, F b → w'.heap[b]? = w.heap[b]? ∧ Ow' b = none ∧ (∀ i, i < H'.length → β' i ≠ b) ∧ ∀ o, Rd' b o → Rd b o := fun b hb =>
    hp.frame b (Nat.lt_of_lt_of_le (hS.fo.lt b hb) hS.fo.size) (fun i hi => hS.fo.box b i hb hi) (by show cells (Ow b) = none; rw [hS.fo.own b hb]; rfl)
  have h1 : S3 E W F Rd0 w' β' Rd' (fun g => merge d (Ow g) (Ow' g)) fr H' a.tmps := by
    refine ⟨⟨fun i l hl => ?_, hp.hr.inj, fun i hi => ⟨?_, (hp.hr.sep i hi).2⟩, fun g k hg => ?_, hp.hr.rds, hp.hr.bnd, fun b hb => ?_⟩, ⟨hS.ff.len, fun t x u hx hu => ?_⟩,
      ⟨hS.fo.lt, fun b hb => (hF b hb).1.trans (hS.fo.same b hb), fun b hb => ?_, fun b i hb hi => (hF b hb).2.2.1 i hi, fun b o hb ho => hS.fo.rd b o hb ((hF b hb).2.2.2 o ho), hp.os.trans hS.fo.os, hp.tape.trans hS.fo.tape, hp.output.trans hS.fo.output, Nat.le_trans hS.fo.size hp.size, fun g o ho => ?_⟩, hS.ne⟩
    · obtain ⟨T, cs, e1, e2, e3⟩ := hp.hr.box i l hl
      refine ⟨T, cs, e1, e2, fun j x u hx hu => ?_⟩
      obtain ⟨r1, r2, r3⟩ := e3 j x u hx hu
      refine ⟨r1, r2, fun g hg => ?_⟩
      have hg' := r3 g hg
      show merge d (Ow g) (Ow' g) = _
      cases hk : Ow g with
      | none => rw [hg']; rfl
      | some k => cases k with
        | slot t => have := (hslot g t hk).2.1; rw [this] at hg'; cases hg'
        | cell i' j' => rw [hg']; rfl
    · show merge d (Ow (β' i)) (Ow' (β' i)) = none
      have h0 := (hp.hr.sep i hi).1
      cases hk : Ow (β' i) with
      | none => rw [h0]; rfl
      | some k => cases k with
        | slot t => exact absurd rfl ((hslot _ t hk).2.2.1 i hi)
        | cell i' j' => rw [h0]; rfl
    · cases hk : Ow g with
      | some k' => exact Nat.lt_of_lt_of_le (hS.hr.ows g _ hk) hp.size
      | none =>
        cases hk' : Ow' g with
        | some k' => exact hp.hr.ows g _ hk'
        | none => simp only [hk, hk', merge] at hg; cases hg
    · obtain ⟨f1, f2, f3, f4⟩ := hp.hr.fix b hb
      refine ⟨f1, ?_, f3, f4⟩
      show merge d (Ow b) (Ow' b) = none
      rw [f2, (hS.hr.fix b hb).2.1]; rfl
    · obtain ⟨r1, r2, r3⟩ := hS.ff.rel t x u hx hu
      refine ⟨r1.move r2 hp.keep (fun g hg => ⟨(hslot g t (r3 g hg)).1, (hslot g t (r3 g hg)).2.2.2⟩) hp.size hp.old, r2.mono hp.len, fun g hg => ?_⟩
      show merge d (Ow g) (Ow' g) = _
      rw [r3 g hg]; rfl
    · show merge d (Ow b) (Ow' b) = none
      rw [hS.fo.own b hb, (hF b hb).2.1]; rfl
    · obtain ⟨k1, k2⟩ := hS.fo.keep g o ho
      exact ⟨(hp.keep g o k1).1, (hp.keep g o k1).2.trans k2⟩
  refine h1.aput d rfl hp.rel hp.bnd hp.ne (fun g hg t ht => ?_)
  have hg' := hp.own g hg
  show merge d (Ow g) (Ow' g) = _
  cases hk : Ow g with
  | none => rw [hg', ht]; rfl
  | some k => cases k with
    | slot t' => have := (hslot g t' hk).2.1; rw [this] at hg'; cases hg'
    | cell i' j' => rw [hg', ht]; rfl
end

/-! ### Regions -/
def yieldA (all : Array Oper) (fr : List AV) (j : Nat) : Option (Option Bool) := match (all[j]?).bind (·.dst) with
  | none => some none
  | some d => match fr[d]? with
    | none => some none
    | some (.bool b) => some (some b)
    | some (.raw (.tuple _)) => some none
    | _ => none
def wantedA (all : Array Oper) (fr : List AV) (o : Oper) : Option Bool := match o.guard with
  | none => some true
  | some (j, want) => (yieldA all fr j).map (· == some want)
def acall (fr : List AV) (o : Oper) : Option (FuncId × List AV) := match o.op with
  | .call c => match c.callee with
    | .value x => match aeval fr x with
      | .fn f caps => some (f, (c.args.toList.map fun y => (aeval fr y).dis) ++ caps)
      | _ => none
    | _ => none
  | _ => none
/-- Forms that are simplified at their head alone. -/
def bindA (x : Option (AV × List AV × Hp)) (k : AV → List AV → Hp → Prop) : Prop := match x with
  | some (v, fr, H) => k v fr H
  | none => False
def VWant (b : Option Bool) (p q : Prop) : Prop := match b with
  | some true => p
  | some false => q
  | none => False
def VCall (x : Option (FuncId × List AV)) (k : FuncId → List AV → Prop) (q : Prop) : Prop := match x with
  | some (f, args) => k f args
  | none => q
@[congr] theorem bindA_congr {x y : Option (AV × List AV × Hp)} {k : AV → List AV → Hp → Prop} (h : x = y) : bindA x k = bindA y k := by rw [h]
@[congr] theorem VWant_congr {x y : Option Bool} {p q : Prop} (h : x = y) : VWant x p q = VWant y p q := by rw [h]
@[congr] theorem VCall_congr {x y : Option (FuncId × List AV)} {k : FuncId → List AV → Prop} {q : Prop} (h : x = y) : VCall x k q = VCall y k q := by rw [h]
theorem bindA_some (v : AV) (fr : List AV) (H : Hp) (k : AV → List AV → Hp → Prop) : bindA (some (v, fr, H)) k = k v fr H := rfl
theorem VWant_true (p q : Prop) : VWant (some true) p q = p := rfl
theorem VWant_false (p q : Prop) : VWant (some false) p q = q := rfl
theorem VWant_split {b : Bool} {p q : Prop} (h1 : b = true → p) (h2 : b = false → q) : VWant (some b) p q := by
  cases b
  · exact h2 rfl
  · exact h1 rfl
theorem VCall_some (f : FuncId) (args : List AV) (k : FuncId → List AV → Prop) (q : Prop) : VCall (some (f, args)) k q = k f args := rfl
theorem VCall_none (k : FuncId → List AV → Prop) (q : Prop) : VCall none k q = q := rfl
@[congr] theorem PC_congr {P : Program} {E : Env} {f : FuncId} {args args' : List AV} {H H' : Hp} {Q : AV → Hp → Prop} (h1 : args = args') (h2 : H = H') : PC P E f args H Q = PC P E f args' H' Q := by rw [h1, h2]
/-- H' keeps the boxes of H as they are. -/
def preH (H H' : Hp) : Prop := ∃ J, H' = H ++ J
/-- .. where that is asked: 1: all of them; 2: those of S. -/
def KP (p : Nat) (S : Nat → Prop) (H H' : Hp) : Prop := match p with
  | 0 => True
  | 1 => preH H H'
  | _ => H.length ≤ H'.length ∧ ∀ i, S i → i < H.length → H'[i]? = H[i]?
def LA (S : Nat → Prop) (ρ : Operand → AV) (o : Oper) : Prop := match o.op with
  | .load _ y => (match ρ y with
    | .ptr (some (i, _)) => S i
    | _ => True)
  | _ => True
def SA (S : Nat → Prop) (ρ : Operand → AV) (o : Oper) : Prop := match o.op with
  | .store _ y _ => (match ρ y with
    | .ptr (some (i, _)) => ¬ S i
    | _ => True)
  | _ => True
/-- A load that is flagged reads a box of S, a store that is flagged writes none of them. -/
def LP (p : Nat) (S : Nat → Prop) (fr : List AV) (o : Oper) : Prop := match p with
  | 2 => LA S (aeval fr) o ∧ SA S (aeval fr) o
  | _ => True
/-- One operation. p: a call that must leave the boxes as they are. -/
def vop (P : Program) (E : Env) (B : List Tmp) (all : Array Oper) (p : Nat) (o : Oper) (K : List AV → Hp → Prop) (fr : List AV) (H : Hp) : Prop :=
  VWant (wantedA all fr o)
      (VCall (acall fr o) (fun f args => PC P E f args H fun v H' => KP p E.S H H' ∧ K (aput fr o.dst v) H')
        (LP p E.S fr o ∧ bindA (aop P B fr H o) fun v fr' H' => K (aput fr' o.dst v) H'))
      (K (aput fr o.dst (.raw undef)) H)
def vcl (P : Program) (E : Env) (B : List Tmp) (all : Array Oper) (K : List AV → Hp → Prop) : List Nat → List Oper → List AV → Hp → Prop
  | _, [], fr, H => K fr H
  | pu, o :: rest, fr, H => vop P E B all (pu.headD 0) o (vcl P E B all K pu.tail rest) fr H
@[congr] theorem vcl_congr {P : Program} {E : Env} {B : List Tmp} {all : Array Oper} {K : List AV → Hp → Prop} {pu : List Nat} {l : List Oper} {fr fr' : List AV} {H H' : Hp} (h1 : fr = fr') (h2 : H = H') : vcl P E B all K pu l fr H = vcl P E B all K pu l fr' H' := by rw [h1, h2]

section
variable {P : Program} {E : Env} {W : World} {F : Nat → Prop} {Rd0 : Nat → Nat → Prop} {w w' : World} {β β0 β' : Nat → Nat} {Rd Rd' : Nat → Nat → Prop} {Ow Ow' : Nat → Option Hold} {fr fr' : List AV} {H H' : Hp} {tmps : Array Value} {N n : Nat}

theorem wanted_ok {all : Array Oper} {o : Oper} {b : Bool} (hS : S3 E W F Rd0 w β Rd Ow fr H tmps) (h : wantedA all fr o = some b) : Region.wanted o (yielded all tmps) = b := by
  unfold wantedA at h
  unfold Region.wanted
  split at h
  · rename_i hg
    cases h
    simp [hg]
  · rename_i j want hg
    simp only [hg]
    cases hy : yieldA all fr j with
    | none => rw [hy] at h; cases h
    | some y =>
      rw [hy] at h
      have hyy : yielded all tmps j = y := by
        unfold yieldA at hy
        unfold yielded
        split at hy
        · rename_i hd
          cases hy
          rw [hd]; rfl
        · rename_i d hd
          rw [hd]
          show (match tmps[d]? with | some (.bool b) => some b | _ => none) = y
          split at hy
          · rename_i hn
            cases hy
            have : tmps[d]? = none := by
              rw [List.getElem?_eq_none_iff] at hn
              rw [Array.getElem?_eq_none_iff, ← hS.ff.len]; exact hn
            rw [this]
          · rename_i b' hb
            cases hy
            have hlt : d < tmps.size := by rw [← hS.ff.len]; exact (List.getElem?_eq_some_iff.1 hb).1
            have hu : tmps[d]? = some tmps[d] := Array.getElem?_eq_getElem hlt
            have := rel_bool (hS.ff.rel d _ _ hb hu).1
            rw [hu, this]
          · rename_i vs hb
            cases hy
            have hlt : d < tmps.size := by rw [← hS.ff.len]; exact (List.getElem?_eq_some_iff.1 hb).1
            have hu : tmps[d]? = some tmps[d] := Array.getElem?_eq_getElem hlt
            have h1 := (hS.ff.rel d _ _ hb hu).1
            have : tmps[d] = .tuple vs := by generalize tmps[d] = z at h1; cases h1; rfl
            rw [hu, this]
          · cases hy
      rw [hyy]
      simpa using h

/-- ONE OPERATION is what the program does. -/
theorem vop_ok {B : List Tmp} {all : Array Oper} {p : Nat} {o : Oper} {K : List AV → Hp → Prop} {KC : Act → World → Prop} {Q : Exit → Act → World → Prop} {a : Act} (hs : St E W F Rd0 β0 n fr H a w) (hv : vop P E B all p o K fr H)
    (hKK : ∀ fr H a w, St E W F Rd0 β0 n fr H a w → K fr H → KC a w) : if Region.wanted o (yielded all a.tmps) then o.wp P a w KC Q else KC (a.put o.dst undef) w := by
  obtain ⟨hd, hn, β, Rd, Ow, hS, hβ⟩ := hs
  unfold vop at hv
  unfold VWant at hv
  split at hv
  · rename_i hw
    rw [if_pos (wanted_ok hS hw)]
    unfold VCall at hv
    split at hv
    · rename_i f args hc
      -- a call
      unfold acall at hc
      split at hc
      · rename_i cc ho
        obtain ⟨callee, cargs, ats⟩ := cc
        simp only at hc
        split at hc
        · rename_i x
          split at hc
          · rename_i f' caps hf
            cases hc
            have hfe := (hS.eval rfl x).1
            rw [hf] at hfe
            obtain ⟨vs, hxe, hg⟩ := rel_fn hfe
            cases hg with
            | fn _ _ _ hl hff hrr =>
              have hbd := (hS.eval rfl x).2.1
              rw [hf] at hbd
              obtain ⟨hB, hpc⟩ := hv
              have hrun : (execOp a.eval o).run P w = .ok (.enter f ((cargs.map a.eval) ++ vs)) w := by
                unfold hasB at hB
                split at hB
                · rename_i fn hfn
                  simp only [Bool.and_eq_true, Bool.not_eq_true'] at hB
                  obtain ⟨hb1, hb2⟩ := hB
                  have hb3 : fn.body.isNone = false := by cases hq : fn.body <;> simp_all
                  simp [execOp, ho, resolve, Deferred.ofValue, invoke, hxe, callFunc, hfn, hb2, hb3]
                  split
                  · rename_i he; rw [he] at hb2; simp at hb2
                  · split
                    · rename_i he; rw [he] at hb3; simp at hb3
                    · rfl
                · cases hB
              unfold Oper.wp
              rw [hrun]
              simp only [Oper.upon]
              have hargs : ∀ (t : Nat) x u, ((cargs.toList.map fun y => (aeval fr y).dis) ++ caps)[t]? = some x → (cargs.map a.eval ++ vs)[t]? = some u → Rel w β Rd x u ∧ Bnd H.length x ∧ x.free = true := by
                intro t x u hx hu
                by_cases ht : t < cargs.size
                · rw [List.getElem?_append_left (by simpa using ht)] at hx
                  rw [Array.getElem?_append_left (by simpa using ht)] at hu
                  have hy : cargs[t]? = some cargs[t] := Array.getElem?_eq_getElem ht
                  rw [List.getElem?_map, Array.getElem?_toList, hy] at hx
                  rw [Array.getElem?_map, hy] at hu
                  cases hx; cases hu
                  obtain ⟨r1, r2, r3⟩ := hS.eval rfl cargs[t]
                  exact ⟨r1.dis, r2.dis, r3⟩
                · rw [List.getElem?_append_right (by simpa using Nat.le_of_not_lt ht)] at hx
                  rw [Array.getElem?_append_right (by simpa using Nat.le_of_not_lt ht)] at hu
                  simp only [List.length_map, Array.length_toList, Array.size_map] at hx hu
                  cases hbd with
                  | fn _ _ hbd => exact ⟨hrr _ x u hx hu, hbd x (mem_at hx), hff x (mem_at hx)⟩
              refine (hpc w β Rd (fun g => cells (Ow g)) _ (hr_cells hS.hr) cells_cell (by simp [hl]) hargs).mono ?_
              rintro e w' ⟨c, v, H', β', Rd', Ow', rfl, hQ, hp⟩
              refine hKK _ _ _ _ ⟨?_, Nat.le_trans hn hp.len, β', Rd', _, call_post hS hp o.dst, fun i hi => (hp.old i (by omega)).trans (hβ i hi)⟩ hQ.2
              cases o.dst <;> exact hd
          · cases hc
        · cases hc
      · cases hc
    · replace hv := hv.2
      unfold bindA at hv
      split at hv
      · rename_i v fr' H' ha
        obtain ⟨r, c, w', β', Rd', Ow', hrun, hr, hS', hβ', hlen⟩ := aop_ok hS ha
        have hfin : St E W F Rd0 β0 n (aput fr' o.dst v) H' (a.put o.dst c) w' := ⟨by cases o.dst <;> exact hd, Nat.le_trans hn hlen, β', Rd', Ow', hS', fun i hi => (hβ' i (by omega)).trans (hβ i hi)⟩
        unfold Oper.wp
        rw [hrun]
        rcases hr with rfl | ⟨rfl, rfl⟩
        · exact hKK _ _ _ _ hfin hv
        · exact hKK _ _ _ _ hfin hv
      · exact hv.elim
  · rename_i hw
    rw [if_neg (by rw [wanted_ok hS hw]; simp)]
    refine hKK _ _ _ _ ⟨by cases o.dst <;> exact hd, hn, β, Rd, Ow, hS.aput o.dst rfl (.raw _) (.raw _) rfl (fun g hg => by cases hg), hβ⟩ hv
  · exact hv.elim

theorem wpList_vcl {B : List Tmp} {all : Array Oper} {K : List AV → Hp → Prop} {KC : Exit → Act → World → Prop} (hK : ∀ fr H a w, St E W F Rd0 β0 n fr H a w → K fr H → KC .normal a w) :
    ∀ (l : List Oper) (pu : List Nat) (fr : List AV) (H : Hp) (a : Act) (w : World), St E W F Rd0 β0 n fr H a w → vcl P E B all K pu l fr H → wpList P all KC l a w
  | [], pu, fr, H, a, w, hs, hv => hK fr H a w hs (by rw [vcl] at hv; exact hv)
  | o :: rest, pu, fr, H, a, w, hs, hv => by
    rw [vcl] at hv
    exact wpList_step fun KK hKK => vop_ok hs hv fun fr H a w hs' hk => hKK _ _ (wpList_vcl hK rest _ fr H a w hs' hk)
end
end Go.Proofs.YtimhofphmgehgaaDoor
