/- THE ABSTRACT MACHINE: the operations, one step each, and that the step is the program's. For every program. -/
import Derived.Test.YtimhofphmgehgaaDoorAm6
import Derived.Great.FillDense
import Derived.Laws.Small
set_option linter.unusedVariables false
set_option linter.unusedSimpArgs false
namespace Go.Proofs.YtimhofphmgehgaaDoor
open Go Go.RowKit

def cval0 : Value → AV
  | .int k n => .int k n
  | .bool b => .bool b
  | .string s => if s.size ≤ maxLen then .str s.data.toList else .raw (.string s)
  | .pointer none => .ptr none
  | .slice none 0 0 => .nil
  | v => .raw v
def cval : Value → AV
  | .agg cs => if cs.toList.all (·.oneCell') then .agg (cs.toList.map cval0) else .raw (.agg cs)
  | v => cval0 v
def aeval (fr : List AV) : Operand → AV
  | .tmp t => fr.getD t (.raw undef)
  | .const v => cval v
  | .global g => .raw (.pointer (some ⟨g, 0, none⟩))
  | .func f => .fn f []
def fdis (fr : List AV) : Operand → List AV
  | .tmp t => fr.set t (fr.getD t (.raw undef)).dis
  | _ => fr
def acells : AV → Option (List AV)
  | .agg l => some l
  | .tup _ => none
  | .raw v => if v.oneCell' then some [.raw v] else none
  | v => some [v]
/-- The cells of a type's zero value. -/
def tzc (P : Program) (t : TypeId) : Option (List AV) := match P.info? t with
  | some i => match i.zero with
    | some z => if z.cells.toList.all (·.oneCell') then some (z.cells.toList.map cval0) else none
    | none => none
  | none => none
def tby (P : Program) (t : TypeId) : Option Nat := (P.info? t).map (·.bytes)
def tplaces (P : Program) (t : TypeId) : Option (List (Nat × Nat)) := match P.underlying t with
  | some (.struct fields) => fields.toList.mapM (fun f => (P.info? f.type).map fun i => (f.offset, i.size))
  | some (.array n e) => (P.info? e).map fun i => (List.range n).map fun j => (j * i.size, i.size)
  | _ => none
def afill (pl : List (Nat × Nat)) : List AV → List (Nat × AV) → Option (List AV)
  | cs, [] => some cs
  | cs, (i, v) :: r => match pl[i]?, acells v.dis with
    | some (o, n), some l => if l.length = n ∧ o + n ≤ cs.length ∧ l.all (·.free) then afill pl (setR cs o l) r else none
    | _, _ => none
def abuild (P : Program) (t : TypeId) (parts : List (Nat × AV)) : Option AV := match tzc P t, tplaces P t with
  | some z, some pl => (afill pl z parts).map .agg
  | _, _ => none
/-- Rows out of the elements of a literal. -/
def arows (k : Nat) : List AV → Option (List (List AV))
  | [] => some []
  | v :: r => match acells v.dis, arows k r with
    | some l, some m => if l.length = k ∧ l.all (·.free) then some (l :: m) else none
    | _, _ => none
def inB (B : List Tmp) : Option Tmp → Bool
  | some t => B.contains t
  | none => false
def aload (P : Program) (B : List Tmp) (d : Option Tmp) (t : TypeId) (fr : List AV) (H : Hp) : AV → Option (AV × List AV × Hp)
  | .ptr (some (i, p)) => match H[i]?, trow P t with
    | some l, some true => match tsz P t with
      | some n => if p + n ≤ l.length ∧ ((l.drop p).take n).all (·.dis.free) then some (.agg (((l.drop p).take n).map AV.dis), fr, H) else none
      | none => none
    | some l, some false => match l[p]? with
      | some v => if v.dis.free then (if inB B d then some (v, fr, H.set i (l.set p v.dis)) else some (v.dis, fr, H)) else none
      | none => none
    | _, _ => none
  | .elt l => match trow P t with
    | some true => if tsz P t = some l.length then some (.agg l, fr, H) else none
    | some false => match l with
      | [v] => some (v, fr, H)
      | _ => none
    | none => none
  | _ => none
def astore (P : Program) (t : TypeId) (y : Operand) (fr : List AV) (H : Hp) : AV → Option (AV × List AV × Hp)
  | .ptr (some (i, p)) => match H[i]?, acells (aeval fr y) with
    | some l, some cs => if tsz P t = some cs.length ∧ p + cs.length ≤ l.length then some (.raw undef, fdis fr y, H.set i (setR l p cs)) else none
    | _, _ => none
  | _ => none
def abase (k : Nat) : AV → Option (List (List AV))
  | .sl true k' rows => if k' = k then some rows else none
  | .nil => some []
  | _ => none
def asrc (P : Program) (t : TypeId) (k : Nat) : AV → Option (List (List AV))
  | .sl _ k' rows => if k' = k ∧ (tsl P t).isSome then some rows else none
  | .nil => if (tsl P t).isSome then some [] else none
  | .str l => if k = 1 ∧ tstr P t then some (bts l) else none
  | _ => none
def aappend (P : Program) (t t' : TypeId) (x y : Operand) (fr : List AV) (H : Hp) : Option (AV × List AV × Hp) := match tsl P t with
  | some e => match tsz P e, tby P e, tzc P e with
    | some k, some b, some z => match abase k (aeval fr x), asrc P t' k (aeval fr y) with
      | some rows, some rows' => if (z.length = k ∧ 0 < k) ∧ rows.length + rows'.length ≤ maxLen ∧ (rows.length + rows'.length) * b ≤ 140737488355328 then some (.sl true k (rows ++ rows'), fdis fr x, H) else none
      | _, _ => none
    | _, _, _ => none
  | none => none
def abuiltin (P : Program) (b : Builtin) (xs : List Operand) (ts : List TypeId) (fr : List AV) (H : Hp) : Option (AV × List AV × Hp) := match b, xs, ts with
  | .len, [x], [t] => (alen P t (aeval fr x)).map fun v => (v, fr, H)
  | .append, [x, y], [t, t'] => aappend P t t' x y fr H
  | .min, [x, y], _ => match aeval fr x, aeval fr y with
    | .int k a, .int _ b => some (.int k (if b < a then b else a), fr, H)
    | _, _ => none
  | .max, [x, y], _ => match aeval fr x, aeval fr y with
    | .int k a, .int _ b => some (.int k (if b > a then b else a), fr, H)
    | _, _ => none
  | _, _, _ => none
def amake (P : Program) (t : TypeId) (l c : AV) : Option AV := match tsl P t, l, c with
  | some e, .int _ l, .int _ c => match tzc P e, tsz P e, tby P e with
    | some z, some k, some b => if z.length = k ∧ 0 < k ∧ 0 ≤ l ∧ l ≤ c ∧ (b : Int) * c ≤ 140737488355328 ∧ c ≤ 9223372036854775807 then some (.sl true k (List.replicate l.toNat z)) else none
    | _, _, _ => none
  | _, _, _ => none
def aconvB (P : Program) (s d : TypeId) (x : AV) : Option AV := match x with
  | .str l => if tstr P s && tbytes P d then some (.sl true 1 (bts l)) else none
  | _ => none
def alit (P : Program) (t : TypeId) (n : Nat) (parts : List (Nat × AV)) : Option AV := match tsl P t with
  | some e => match tzc P e, tsz P e with
    | some z, some k => if z.length = k ∧ 0 < k ∧ n * k ≤ 16777216 ∧ parts.map (·.1) = List.range n then (arows k (parts.map (·.2))).map (.sl true k) else none
    | _, _ => none
  | none => none

/-- ONE OPERATION. B: the slots whose value takes its row along when it is read (what 'append' is handed). -/
def aop (P : Program) (B : List Tmp) (fr : List AV) (H : Hp) (o : Oper) : Option (AV × List AV × Hp) := match o.op with
  | .assign x => some (aeval fr x, fdis fr x, H)
  | .move x => if inB B o.dst then some (aeval fr x, fdis fr x, H) else some ((aeval fr x).dis, fr, H)
  | .pick c a b => match aeval fr c with
    | .bool t => some ((if t then aeval fr a else aeval fr b).dis, fr, H)
    | _ => none
  | .alloc t => (tzc P t).map fun l => (.ptr (some (H.length, 0)), fr, H ++ [l])
  | .box t x => (acells (aeval fr x)).map fun l => (.ptr (some (H.length, 0)), fdis fr x, H ++ [l])
  | .build t parts => (abuild P t (parts.toList.map fun p => (p.1, aeval fr p.2))).map fun v => (v, fr, H)
  | .buildSlice t n parts => (alit P t n (parts.toList.map fun p => (p.1, aeval fr p.2))).map fun v => (v, fr, H)
  | .load t x => aload P B o.dst t fr H (aeval fr x)
  | .store t x y => astore P t y fr H (aeval fr x)
  | .nilCheck x => (anil (aeval fr x)).map fun v => (v, fr, H)
  | .binOp op t x y _ => (abin P op t (aeval fr x) (aeval fr y)).map fun v => (v, fr, H)
  | .unOp op _ x => (aun op (aeval fr x)).map fun v => (v, fr, H)
  | .convert s d x => ((aconvB P s d (aeval fr x)).or (aconv P s d (aeval fr x))).map fun v => (v, fr, H)
  | .makeSlice t l c => (amake P t (aeval fr l) (aeval fr c)).map fun v => (v, fr, H)
  | .slice t x lo hi mx => (aslice P t (aeval fr x) (lo.map (aeval fr)) (hi.map (aeval fr)) (mx.map (aeval fr))).map fun v => (v, fr, H)
  | .fieldAddr t x f => (afaddr P t (aeval fr x) f).map fun v => (v, fr, H)
  | .field t x f => (afield P t (aeval fr x) f).map fun v => (v, fr, H)
  | .indexAddr t x i => (aixaddr P t (aeval fr x) (aeval fr i)).map fun v => (v, fr, H)
  | .index t x i => (aix P t (aeval fr x) (aeval fr i)).map fun v => (v, fr, H)
  | .extract x i => (aextract (aeval fr x) i).map fun v => (v, fr, H)
  | .call c => match c.callee with
    | .builtin b => abuiltin P b c.args.toList c.argTypes.toList fr H
    | _ => none
  | _ => none

section
variable {P : Program} {E : Env} {W : World} {F : Nat → Prop} {Rd0 : Nat → Nat → Prop} {w w' : World} {β β' : Nat → Nat} {Rd Rd' : Nat → Nat → Prop} {Ow Ow' : Nat → Option Hold} {fr : List AV} {H : Hp} {tmps : Array Value} {N : Nat}

theorem cval0_got (v : Value) : Got w β Rd N (cval0 v) v := by
  unfold cval0
  split
  · exact Got.int
  · exact Got.bool
  · split
    · rename_i h; exact got_str rfl h
    · exact ⟨.raw _, .raw _, rfl⟩
  · exact ⟨.ptr0, .ptr0, rfl⟩
  · exact ⟨.nil, .nil, rfl⟩
  · exact ⟨.raw _, .raw _, rfl⟩
theorem cval0_one (v : Value) (h : v.oneCell' = true) : (cval0 v).one = true := by
  unfold cval0
  split <;> try rfl
  · split
    · rfl
    · exact h
  · exact h
theorem cval0_list (l : List Value) (h : l.all (·.oneCell') = true) : (∀ x ∈ l.map cval0, x.free = true ∧ x.one = true) ∧ (∀ (j : Nat) (x : AV) (u : Value), (l.map cval0)[j]? = some x → l[j]? = some u → Rel w β Rd x u) ∧ ∀ x ∈ l.map cval0, Bnd N x := by
  have h' := List.all_eq_true.1 h
  refine ⟨fun x hx => ?_, fun j x u hx hu => ?_, fun x hx => ?_⟩
  · obtain ⟨v, hv, rfl⟩ := List.mem_map.1 hx
    exact ⟨(cval0_got (w := w) (β := β) (Rd := Rd) (N := N) v).free, cval0_one v (h' v hv)⟩
  · rw [List.getElem?_map, hu] at hx
    cases hx
    exact (cval0_got (N := N) u).rel
  · obtain ⟨v, hv, rfl⟩ := List.mem_map.1 hx
    exact (cval0_got (w := w) (β := β) (Rd := Rd) v).bnd
theorem cval_got (v : Value) : Got w β Rd N (cval v) v := by
  unfold cval
  split
  · rename_i cs
    split
    · rename_i h
      obtain ⟨h1, h2, h3⟩ := cval0_list (w := w) (β := β) (Rd := Rd) (N := N) cs.toList h
      exact ⟨.agg _ _ (by simp) h1 (fun j x u hx hu => h2 j x u hx (by simpa using hu)), .agg _ h3, rfl⟩
    · exact ⟨.raw _, .raw _, rfl⟩
  · exact cval0_got v

/-- What an operand stands for. -/
theorem S3.eval (h : S3 E W F Rd0 w β Rd Ow fr H tmps) {a : Act} (ha : a.tmps = tmps) (x : Operand) : Rel w β Rd (aeval fr x) (a.eval x) ∧ Bnd H.length (aeval fr x) ∧ (aeval fr x).dis.free = true := by
  cases x with
  | tmp t =>
    show Rel w β Rd (fr.getD t (.raw undef)) (a.tmps.getD t undef) ∧ _
    rw [ha]
    by_cases ht : t < fr.length
    · have h1 : fr[t]? = some fr[t] := List.getElem?_eq_getElem ht
      have ht2 : t < tmps.size := h.ff.len ▸ ht
      have h2 : tmps[t]? = some tmps[t] := Array.getElem?_eq_getElem ht2
      obtain ⟨r1, r2, _⟩ := h.ff.rel t _ _ h1 h2
      have e1 : aeval fr (.tmp t) = fr[t] := by simp [aeval, List.getD, h1]
      have e2 : fr.getD t (.raw undef) = fr[t] := e1
      rw [e1, e2, show tmps.getD t undef = tmps[t] by simp [Array.getD, ht2]]
      exact ⟨r1, r2, h.ne _ (mem_at h1)⟩
    · have e1 : aeval fr (.tmp t) = .raw undef := by simp [aeval, List.getD, List.getElem?_eq_none (Nat.le_of_not_lt ht)]
      have e2 : fr.getD t (.raw undef) = .raw undef := e1
      have ht2 : ¬ t < tmps.size := h.ff.len ▸ ht
      rw [e1, e2, show tmps.getD t undef = undef by simp [Array.getD, ht2]]
      exact ⟨.raw _, .raw _, rfl⟩
  | const v =>
    have := cval_got (w := w) (β := β) (Rd := Rd) (N := H.length) v
    refine ⟨this.rel, this.bnd, ?_⟩
    have hf := this.free
    show (cval v).dis.free = true
    cases hc : cval v <;> rw [hc] at hf <;> simp_all [AV.dis, AV.free]
  | global g => exact ⟨.raw _, .raw _, rfl⟩
  | func f => exact ⟨.fn f [] #[] rfl (by simp) (by simp), .fn f [] (by simp), rfl⟩

theorem dis_free_of_free {x : AV} (h : x.free = true) : x.dis.free = true := by cases x <;> simp_all [AV.dis, AV.free]
theorem own0_dis {x : AV} (h : x.dis.free = true) (v : Value) : own0 x.dis v = none := own0_free h v
theorem dis_of_free {x : AV} (h : x.free = true) : x.dis = x := by
  cases x with
  | sl own k r => cases own <;> simp_all [AV.dis, AV.free]
  | _ => rfl

/-- AN OPERAND IS TAKEN, its row with it. -/
theorem S3.take (h : S3 E W F Rd0 w β Rd Ow fr H tmps) {a : Act} (ha : a.tmps = tmps) (x : Operand) (k' : Option Hold) :
    ∃ Ow', S3 E W F Rd0 w β Rd Ow' (fdis fr x) H tmps ∧ ∀ g, own0 (aeval fr x) (a.eval x) = some g → Ow' g = k' := by
  have hfree : ∀ v : AV, v.free = true → ∀ g c, own0 v c = some g → False := fun v hv g c hg => by rw [own0_free hv] at hg; cases hg
  cases x with
  | tmp t =>
    by_cases ht : t < fr.length
    · have h1 : fr[t]? = some fr[t] := List.getElem?_eq_getElem ht
      have ht2 : t < tmps.size := h.ff.len ▸ ht
      have h2 : tmps[t]? = some tmps[t] := Array.getElem?_eq_getElem ht2
      have e1 : fr.getD t (.raw undef) = fr[t] := by simp [List.getD, h1]
      have e2 : a.eval (.tmp t) = tmps[t] := by show a.tmps.getD t undef = _; rw [ha]; simp [Array.getD, ht2]
      have hlg := h.letgo t h1
      have ef : fdis fr (.tmp t) = fr.set t (fr[t]).dis := by show fr.set t (fr.getD t (.raw undef)).dis = _; rw [e1]
      have ee : aeval fr (.tmp t) = fr[t] := e1
      rw [ef, ee, e2]
      obtain ⟨r1, r2, r3⟩ := h.ff.rel t _ _ h1 h2
      by_cases hg : ∃ g, own0 fr[t] tmps[t] = some g
      · obtain ⟨g, hg⟩ := hg
        have hOg := r3 g hg
        refine ⟨_, hlg.relabel hOg k' (fun s x u hx hu he => ?_) (fun i j l x u T cs hl hx hc hu he => ?_), fun g' hg' => ?_⟩
        · have := (hlg.ff.rel s x u hx hu).2.2 g he
          rw [hOg] at this
          cases this
          rw [List.getElem?_set_self ht] at hx
          cases hx
          rw [own0_dis (h.ne _ (mem_at h1))] at he; cases he
        · obtain ⟨T', cs', c1, c2, c3⟩ := hlg.hr.box i l hl
          rw [hc] at c1; cases c1
          have := (c3 j x u hx hu).2.2 g he
          rw [hOg] at this; cases this
        · rw [hg] at hg'; cases hg'
          exact upd_same _ _ _
      · exact ⟨Ow, hlg, fun g' hg' => absurd ⟨g', hg'⟩ hg⟩
    · refine ⟨Ow, ?_, fun g hg => ?_⟩
      · have : fdis fr (.tmp t) = fr := List.set_eq_of_length_le (Nat.le_of_not_lt ht)
        rw [this]; exact h
      · have e1 : aeval fr (.tmp t) = .raw undef := by simp [aeval, List.getD, List.getElem?_eq_none (Nat.le_of_not_lt ht)]
        rw [e1] at hg; cases hg
  | const v => exact ⟨Ow, h, fun g hg => (hfree _ (cval_got (w := w) (β := β) (Rd := Rd) (N := 0) v).free g _ hg).elim⟩
  | global g => exact ⟨Ow, h, fun g hg => by cases hg⟩
  | func f => exact ⟨Ow, h, fun g hg => by cases hg⟩

/-- A BOX's CELL LETS GO, and its row gets another holder. -/
theorem S3.takeCell (h : S3 E W F Rd0 w β Rd Ow fr H tmps) {i p : Nat} {l : List AV} {v : AV} {T : TypeId} {cs : Array Value} {c : Value} (hl : H[i]? = some l) (hv : l[p]? = some v) (hb : w.heap[β i]? = some (.cells cs T (0, 0))) (hc : cs[p]? = some c) (hd : v.dis.free = true) (k' : Option Hold) :
    ∃ Ow', S3 E W F Rd0 w β Rd Ow' fr (H.set i (l.set p v.dis)) tmps ∧ ∀ g, own0 v c = some g → Ow' g = k' := by
  have hi : i < H.length := (List.getElem?_eq_some_iff.1 hl).1
  have hp : p < l.length := (List.getElem?_eq_some_iff.1 hv).1
  have hlen : (H.set i (l.set p v.dis)).length = H.length := by simp
  have h1 : S3 E W F Rd0 w β Rd Ow fr (H.set i (l.set p v.dis)) tmps := by
    refine ⟨⟨fun i' l' hl' => ?_, by rw [hlen]; exact h.hr.inj, by rw [hlen]; exact h.hr.sep, h.hr.ows, h.hr.rds, fun l' hl' x hx => ?_, by rw [hlen]; exact h.hr.fix⟩, by rw [hlen]; exact h.ff, by rw [hlen]; exact h.fo, h.ne⟩
    · by_cases hii : i = i'
      · subst hii
        rw [List.getElem?_set_self hi] at hl'
        cases hl'
        obtain ⟨T', cs', c1, c2, c3⟩ := h.hr.box i l hl
        refine ⟨T', cs', c1, by simpa using c2, fun j x u hx hu => ?_⟩
        by_cases hj : p = j
        · subst hj
          rw [List.getElem?_set_self hp] at hx
          cases hx
          obtain ⟨r1, r2, r3⟩ := c3 p v u hv hu
          refine ⟨r1.dis, by cases v <;> simp_all [AV.dis, AV.one], fun g hg => ?_⟩
          rw [own0_free hd] at hg; cases hg
        · rw [List.getElem?_set_ne hj] at hx
          exact c3 j x u hx hu
      · rw [List.getElem?_set_ne hii] at hl'
        exact h.hr.box i' l' hl'
    · rw [hlen]
      rcases List.mem_or_eq_of_mem_set hl' with h2 | h2
      · exact h.hr.bnd l' h2 x hx
      · subst h2
        rcases List.mem_or_eq_of_mem_set hx with h3 | h3
        · exact h.hr.bnd l (mem_at hl) x h3
        · rw [h3]; exact (h.hr.bnd l (mem_at hl) v (mem_at hv)).dis
  by_cases hg : ∃ g, own0 v c = some g
  · obtain ⟨g, hg⟩ := hg
    obtain ⟨T', cs', c1, c2, c3⟩ := h.hr.box i l hl
    rw [hb] at c1; cases c1
    have hOg := (c3 p v c hv hc).2.2 g hg
    refine ⟨_, h1.relabel hOg k' (fun s x u hx hu he => ?_) (fun i' j l' x u T'' cs'' hl' hx hc' hu he => ?_), fun g' hg' => ?_⟩
    · have := (h1.ff.rel s x u hx hu).2.2 g he
      rw [hOg] at this; cases this
    · obtain ⟨T3, cs3, d1, d2, d3⟩ := h1.hr.box i' l' hl'
      rw [hc'] at d1; cases d1
      have := (d3 j x u hx hu).2.2 g he
      rw [hOg] at this
      cases this
      rw [List.getElem?_set_self hi] at hl'
      cases hl'
      rw [List.getElem?_set_self hp] at hx
      cases hx
      rw [own0_free hd] at he; cases he
    · rw [hg] at hg'; cases hg'
      exact upd_same _ _ _
  · exact ⟨Ow, h1, fun g' hg' => absurd ⟨g', hg'⟩ hg⟩

/-- The cells of a value. -/
theorem acells_ok {x : AV} {l : List AV} {c : Value} (h : acells x = some l) (hx : Rel w β Rd x c) (hB : Bnd N x) (hd : x.dis.free = true) : c.cells.size = l.length ∧ (∀ u ∈ c.cells.toList, u.oneCell' = true) ∧
    ∀ (j : Nat) y u, l[j]? = some y → c.cells.toList[j]? = some u → Rel w β Rd y u ∧ y.one = true ∧ Bnd N y ∧ (∀ g, own0 y u = some g → own0 x c = some g ∧ j = 0) := by
  have single : ∀ x : AV, x.one = true → l = [x] → Rel w β Rd x c → Bnd N x → c.cells.size = l.length ∧ (∀ u ∈ c.cells.toList, u.oneCell' = true) ∧
      ∀ (j : Nat) y u, l[j]? = some y → c.cells.toList[j]? = some u → Rel w β Rd y u ∧ y.one = true ∧ Bnd N y ∧ (∀ g, own0 y u = some g → own0 x c = some g ∧ j = 0) := by
    intro x h1 hl hx hB
    have hone := hx.oneCell h1
    have hcs : c.cells = #[c] := by cases c <;> first | rfl | simp [Value.oneCell'] at hone
    rw [hl, hcs]
    refine ⟨rfl, fun u hu => by simp at hu; rw [hu]; exact hone, fun j y u hy hu => ?_⟩
    cases j with
    | zero => simp at hy hu; subst hy; subst hu; exact ⟨hx, h1, hB, fun g hg => ⟨hg, rfl⟩⟩
    | succ j => simp at hy
  cases x with
  | agg l' =>
    cases h
    cases hx with
    | agg _ vs hl hf hr =>
      cases hB with
      | agg _ hB =>
        refine ⟨hl, fun u hu => ?_, fun j y u hy hu => ?_⟩
        · obtain ⟨j, hj⟩ := List.getElem?_of_mem hu
          have hj' : j < l.length := by have := (List.getElem?_eq_some_iff.1 hj).1; simp [Value.cells] at this; omega
          have hy : l[j]? = some l[j] := List.getElem?_eq_getElem hj'
          exact (hr j _ u hy (by simpa [Value.cells] using hj)).oneCell (hf _ (mem_at hy)).2
        · refine ⟨hr j y u hy (by simpa [Value.cells] using hu), (hf y (mem_at hy)).2, hB y (mem_at hy), fun g hg => ?_⟩
          rw [own0_free (hf y (mem_at hy)).1] at hg; cases hg
  | tup l' => cases h
  | raw v =>
    simp only [acells] at h
    split at h
    · rename_i h1
      cases h
      exact single _ h1 rfl hx hB
    · cases h
  | _ => cases h; exact single _ rfl rfl hx hB
end
end Go.Proofs.YtimhofphmgehgaaDoor
