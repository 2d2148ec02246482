/- Which operations look at no memory and at no tape; which only read; which lay one block. -/
import Derived.Test.YtimhofphmgehgaaDoorReg2
set_option linter.unusedVariables false
set_option linter.unusedSimpArgs false
namespace Go.Proofs.YtimhofphmgehgaaDoor
open Go

section
variable {P : Program}

def Halts (P : Program) {α : Type} (m : Sem α) : Prop := ∀ w, ∃ h w', m.run P w = .halt h w'
theorem Halts.left {α β : Type} {m : Sem α} {f : α → Sem β} (h : Halts P m) : Halts P (m >>= f) := fun w => by
  obtain ⟨x, w', e⟩ := h w
  exact ⟨x, w', by rw [Sem.run_bind, e]; rfl⟩
theorem Halts.right {α β : Type} {m : Sem α} {f : α → Sem β} (h : ∀ v, Halts P (f v)) : Halts P (m >>= f) := fun w => by
  rw [Sem.run_bind]
  cases e : m.run P w with
  | ok v w' => exact h v w'
  | halt x w' => exact ⟨x, w', rfl⟩
theorem Halts.calm {α : Type} {m : Sem α} (h : Halts P m) : Calm P m := .inr h
theorem calm_pure {α : Type} (v : α) : Calm P (pure v : Sem α) := .inl ⟨v, fun _ => rfl⟩
theorem halts_stuck {α : Type} (s : String) : Halts P (stuck s : Sem α) := fun w => ⟨_, _, rfl⟩
theorem halts_unsupported {α : Type} (s : Unsupported) : Halts P (unsupported s : Sem α) := fun w => ⟨_, _, rfl⟩
theorem halts_panic {α : Type} (v : Value) : Halts P (goPanic v : Sem α) := fun w => ⟨_, _, rfl⟩
theorem calm_program : Calm P program := .inl ⟨P, fun _ => rfl⟩
theorem calm_bind {α β : Type} {m : Sem α} {f : α → Sem β} (hm : Calm P m) (hf : ∀ v, Calm P (f v)) : Calm P (m >>= f) := by
  rcases hm with ⟨v, hv⟩ | hh
  · rcases hf v with ⟨u, hu⟩ | h2
    · exact .inl ⟨u, fun w => by rw [Sem.run_bind, hv w]; exact hu w⟩
    · exact .inr fun w => by rw [Sem.run_bind, hv w]; exact h2 w
  · exact .inr (Halts.left hh)
theorem calmV {m : Sem Value} (h : Calm P m) : CalmV P (do pure (.value (← m)) : Sem Next) := by
  rcases h with ⟨v, hv⟩ | hh
  · exact .inl ⟨v, fun w => by rw [Sem.run_bind, hv w]; rfl⟩
  · exact .inr (Halts.left hh)

theorem calm_underlying (t : TypeId) : Calm P (underlying t) := by
  unfold underlying
  refine calm_bind calm_program fun p => ?_
  split
  · exact calm_pure _
  · exact (halts_stuck _).calm
theorem calm_typeInfo (t : TypeId) : Calm P (typeInfo t) := by
  unfold typeInfo
  refine calm_bind calm_program fun p => ?_
  split
  · exact calm_pure _
  · exact (halts_stuck _).calm
theorem calm_sizeOf (t : TypeId) : Calm P (sizeOf t) := calm_bind (calm_typeInfo t) fun _ => calm_pure _
theorem calm_isAgg (t : TypeId) : Calm P (isAgg t) := by
  unfold isAgg
  refine calm_bind (calm_underlying t) fun p => ?_
  split <;> exact calm_pure _
theorem calm_zeroValue (t : TypeId) : Calm P (zeroValue t) := by
  unfold zeroValue
  refine calm_bind (calm_typeInfo t) fun p => ?_
  split
  · exact calm_pure _
  · exact (halts_unsupported _).calm
theorem halts_runtimePanic {α : Type} (e : RuntimeError) : Halts P (runtimePanic e : Sem α) := by
  unfold runtimePanic
  refine Halts.right fun p => ?_
  cases e with
  | typeAssertion i c a m => exact Halts.right fun _ => Halts.right fun _ => halts_panic _
  | panicNil => exact Halts.right fun _ => Halts.right fun _ => halts_panic _
  | _ => exact halts_panic _
theorem halts_boundsPanic {α : Type} (k : IntKind) (x y : Int) (c : BoundsCode) : Halts P (boundsPanic k x y c : Sem α) := by
  unfold boundsPanic
  dsimp only
  split <;> exact Halts.right fun _ => halts_runtimePanic _
theorem calm_asIntOf (v : Value) : Calm P (asIntOf v) := by
  unfold asIntOf
  split
  · exact calm_pure _
  · exact (halts_unsupported _).calm
  · exact (halts_stuck _).calm
theorem calm_asBool (v : Value) : Calm P (asBool v) := by
  unfold asBool
  split
  · exact calm_pure _
  · exact (halts_stuck _).calm
theorem calm_asAgg (v : Value) : Calm P (asAgg v) := by
  unfold asAgg
  split
  · exact calm_pure _
  · exact (halts_stuck _).calm
theorem calm_asAddr (v : Value) : Calm P (asAddr v) := by
  unfold asAddr
  split
  · exact calm_pure _
  · exact (halts_runtimePanic _).calm
  · exact (halts_stuck _).calm
theorem calm_sureAddr (v : Value) : Calm P (Instr.sureAddr v) := by
  unfold Instr.sureAddr
  split
  · exact calm_pure _
  · exact (halts_stuck _).calm
theorem calm_part (t : TypeId) (cs : Array Value) (off : Nat) : Calm P (part t cs off) := by
  unfold part
  refine calm_bind (calm_isAgg t) fun b => ?_
  split
  · exact calm_bind (calm_sizeOf t) fun _ => calm_pure _
  · split
    · exact calm_pure _
    · exact (halts_stuck _).calm
theorem calm_field (t : TypeId) (x : Value) (f : Nat) : Calm P (Instr.field t x f) := by
  unfold Instr.field
  refine calm_bind (calm_underlying t) fun d => ?_
  split
  · split
    · exact calm_bind (calm_asAgg x) fun _ => calm_part _ _ _
    · exact (halts_stuck _).calm
  · exact (halts_stuck _).calm
theorem calm_extract (x : Value) (i : Nat) : Calm P (Instr.extract x i) := by
  unfold Instr.extract
  split
  · split
    · exact calm_pure _
    · exact (halts_stuck _).calm
  · exact (halts_stuck _).calm
theorem calm_index (t : TypeId) (x i : Value) : Calm P (Instr.index t x i) := by
  unfold Instr.index
  refine calm_bind (calm_asIntOf i) fun k => ?_
  refine calm_bind (calm_underlying t) fun d => ?_
  split
  · split
    · exact calm_bind (calm_sizeOf _) fun _ => calm_part _ _ _
    · exact (halts_boundsPanic _ _ _ _).calm
  · split
    · exact calm_pure _
    · exact (halts_boundsPanic _ _ _ _).calm
  · exact (halts_stuck _).calm
theorem calm_sliceBound (x : Value) (y : Nat) (c : BoundsCode) : Calm P (Instr.sliceBound x y c) := by
  unfold Instr.sliceBound
  refine calm_bind (calm_asIntOf x) fun k => ?_
  dsimp only
  split
  · exact calm_pure _
  · exact (halts_boundsPanic _ _ _ _).calm
theorem calm_sliceBounds (b : Bool) (l c : Nat) (lo hi mx : Option Value) : Calm P (Instr.sliceBounds b l c lo hi mx) := by
  unfold Instr.sliceBounds
  dsimp only
  have hl : ∀ h m : Nat, Calm P (match lo with
        | some v => do
          let l ← Instr.sliceBound v h (if mx.isSome = true then BoundsCode.slice3C else BoundsCode.sliceB)
          pure (l, h, m)
        | none => do
          let l ← pure 0
          pure (l, h, m)) := fun h m => by
    split
    · exact calm_bind (calm_sliceBound _ _ _) fun _ => calm_pure _
    · exact calm_bind (calm_pure _) fun _ => calm_pure _
  split <;> refine calm_bind (by first | exact calm_sliceBound _ _ _ | exact calm_pure _) fun m => ?_
  all_goals
    split <;> first
      | exact calm_bind (calm_sliceBound _ _ _) fun _ => hl _ _
      | exact calm_bind (calm_pure _) fun _ => hl _ _
      | exact ((halts_stuck _).left).calm
theorem calm_sliceAt (t : TypeId) (x : Value) (lo hi mx : Option Value) : Calm P (Instr.sliceAt t x lo hi mx) := by
  unfold Instr.sliceAt
  refine calm_bind (calm_underlying t) fun d => ?_
  split
  · refine calm_bind (calm_sureAddr _) fun a => calm_bind (calm_sliceBounds _ _ _ _ _ _) fun r => calm_bind (calm_sizeOf _) fun s => calm_pure _
  · unfold Instr.slice
    refine calm_bind (calm_underlying t) fun d => ?_
    split
    · split
      · exact (halts_stuck _).left.calm
      · refine calm_bind (calm_sliceBounds _ _ _ _ _ _) fun r => ?_
        obtain ⟨l, h, m⟩ := r
        exact calm_pure _
    · exact calm_bind (calm_sliceBounds _ _ _ _ _ _) fun r => calm_bind (calm_sizeOf _) fun s => calm_pure _
    · refine calm_bind (calm_asAddr _) fun a => calm_bind (calm_underlying _) fun d => ?_
      split
      · exact calm_bind (calm_sliceBounds _ _ _ _ _ _) fun r => calm_bind (calm_sizeOf _) fun s => calm_pure _
      · exact (halts_stuck _).calm
    · exact (halts_stuck _).calm
def fieldB (P : Program) (s : TypeId) (f : Nat) : Bool := match P.underlying s with
  | some (.struct fs) => match fs[f]? with
    | some fl => match P.info? fl.type with
      | some i => i.size != 0
      | none => false
    | none => false
  | _ => false
theorem run_underlying' {t : TypeId} {d : TypeDesc} (h : P.underlying t = some d) (w : World) : (underlying t).run P w = .ok d w := run_underlying h w
theorem calm_fieldAt (t : TypeId) (x : Value) (f : Nat) (hb : fieldB P t f = true) : Calm P (Instr.fieldAt t x f) := by
  unfold fieldB at hb
  split at hb
  · rename_i fs hu
    split at hb
    · rename_i fl hf
      split at hb
      · rename_i i hi
        have hne : i.size ≠ 0 := by simpa using hb
        rcases calm_sureAddr (P := P) x with ⟨a, ha⟩ | hh
        · refine .inl ⟨.pointer (some (a.add fl.offset)), fun w => ?_⟩
          have hs : (sizeOf fl.type).run P w = .ok i.size w := by simp [sizeOf, typeInfo, hi]
          simp only [Instr.fieldAt, Sem.run_bind, run_underlying' hu, Result.andThen_ok, hf, ha w, fieldPlace, hs, hne, if_false]
          rfl
        · refine .inr fun w => ?_
          obtain ⟨y, w', hy⟩ := hh w
          exact ⟨y, w', by simp only [Instr.fieldAt, Sem.run_bind, run_underlying' hu, Result.andThen_ok, hf, hy]; rfl⟩
      · cases hb
    · cases hb
  · cases hb
theorem calm_indexAt (t : TypeId) (x i : Value) : Calm P (Instr.indexAt t x i) := by
  have tail : ∀ (k : IntKind) (i : Int) (base : Option Addr) (len : Nat) (elem : TypeId) (tiny : Bool), Calm P (match base with
    | some a =>
      if 0 ≤ i ∧ i < len then (do pure (.pointer (some (a.add (i.toNat * (← sizeOf elem))))) : Sem Value)
      else if tiny then unsupported (.noEntry "op/indexAddr.an index out of range at an array of length 0 or 1 (ledger 616)")
      else boundsPanic k i len .index
    | none => boundsPanic k i 0 .index) := fun k i base len elem tiny => by
    split
    · split
      · exact calm_bind (calm_sizeOf _) fun _ => calm_pure _
      · split
        · exact (halts_unsupported _).calm
        · exact (halts_boundsPanic _ _ _ _).calm
    · exact (halts_boundsPanic _ _ _ _).calm
  unfold Instr.indexAt
  refine calm_bind (calm_asIntOf i) fun k => ?_
  refine calm_bind (calm_underlying t) fun d => ?_
  dsimp only
  split
  · refine calm_bind (calm_sureAddr _) fun a => calm_bind (calm_pure _) fun r => ?_
    refine calm_bind (calm_underlying t) fun d => ?_
    exact tail _ _ _ _ _ _
  · refine calm_bind (calm_pure _) fun r => calm_bind (calm_underlying t) fun d => ?_
    exact tail _ _ _ _ _ _
  · exact (Halts.left (halts_stuck _)).calm
theorem calm_intArith (op : BinOp) (k : IntKind) (x y : Int) : Calm P (Op.intArith op k x y) := by
  unfold Op.intArith
  split <;> first | exact calm_pure _ | exact (halts_stuck _).calm
theorem calm_intBits (op : BinOp) (k : IntKind) (x y : Int) : Calm P (Op.intBits op k x y) := by
  unfold Op.intBits
  split <;> first | exact calm_pure _ | exact (halts_stuck _).calm
theorem calm_intCmp (op : BinOp) (x y : Int) : Calm P (Op.intCmp op x y) := by
  unfold Op.intCmp
  split <;> first | exact calm_pure _ | exact (halts_stuck _).calm
theorem calm_intDiv (op : BinOp) (k : IntKind) (x y : Int) : Calm P (Op.intDiv op k x y) := by
  unfold Op.intDiv
  repeat' split
  all_goals first | exact calm_pure _ | exact (halts_stuck _).calm | exact (halts_runtimePanic _).calm
theorem calm_shift (op : BinOp) (k : IntKind) (x : Int) (j : IntKind) (y : Int) : Calm P (Op.shift op k x j y) := by
  unfold Op.shift
  dsimp only
  repeat' split
  all_goals first | exact calm_pure _ | exact (halts_stuck _).calm | exact (halts_runtimePanic _).calm
theorem calm_stringOp (op : BinOp) (x y : ByteArray) : Calm P (Op.stringOp op x y) := by
  unfold Op.stringOp
  dsimp only
  repeat' split
  all_goals first | exact calm_pure _ | exact (halts_stuck _).calm | exact (halts_unsupported _).calm
theorem calm_unary (op : UnOp) (x : Value) : Calm P (Op.unary op x) := by
  unfold Op.unary
  split <;> first | exact calm_pure _ | exact calm_intArith _ _ _ _ | exact calm_intBits _ _ _ _ | exact (halts_unsupported _).calm | exact (halts_stuck _).calm
end
end Go.Proofs.YtimhofphmgehgaaDoor
