/- Which operations look at no memory and at no tape (second part): the operators, the builtins that only compute; loads; what lays a block. -/
import Derived.Test.YtimhofphmgehgaaDoorCalm
set_option linter.unusedVariables false
set_option linter.unusedSimpArgs false
namespace Go.Proofs.YtimhofphmgehgaaDoor
open Go

section
variable {P : Program}

/-- Operands that are compared or reckoned with without a look at memory. -/
def plainPair (op : BinOp) (a b : Value) : Bool :=
  match a, b with
  | .int .., .int .. => true
  | .string _, .string _ => true
  | .tuple _, _ => true
  | _, .tuple _ => true
  | .bool _, .bool _ | .pointer none, .pointer _ | .pointer _, .pointer none | .nilIface, .nilIface | .iface .., .nilIface | .nilIface, .iface .. | .slice none _ _, .slice .. | .slice .., .slice none _ _
  | .map none, .map _ | .map _, .map none | .nilFunc, .nilFunc | .nilFunc, .func .. | .func .., .nilFunc => (match op with | .eql | .neq => true | _ => false)
  | _, _ => false


theorem calm_eqPtr1 (d : Nat) (t : TypeId) (b : Option Addr) : Calm P (Op.equalIn d t (.pointer none) (.pointer b)) := by
  cases d with
  | zero => exact (halts_unsupported _).calm
  | succ d =>
    unfold Op.equalIn
    refine calm_bind (calm_underlying t) fun u => ?_
    split <;> simp_all only [Value.pointer.injEq, Value.slice.injEq, Value.map.injEq, Value.bool.injEq, Value.func.injEq, Value.iface.injEq, Value.tuple.injEq, reduceCtorEq, false_and, and_false, and_true, true_and]
    all_goals first | exact calm_pure _ | exact (halts_stuck _).calm | exact (halts_unsupported _).calm | skip
    all_goals first | (rename_i h1 h2; subst h1; subst h2; unfold samePointer; split <;> simp_all only [reduceCtorEq] <;> exact calm_pure _) | (rename_i h1 h2; subst h1; unfold samePointer; split <;> simp_all only [reduceCtorEq] <;> exact calm_pure _) | trace_state
theorem calm_eqPtr2 (d : Nat) (t : TypeId) (b : Option Addr) : Calm P (Op.equalIn d t (.pointer b) (.pointer none)) := by
  cases d with
  | zero => exact (halts_unsupported _).calm
  | succ d =>
    unfold Op.equalIn
    refine calm_bind (calm_underlying t) fun u => ?_
    split <;> simp_all only [Value.pointer.injEq, Value.slice.injEq, Value.map.injEq, Value.bool.injEq, Value.func.injEq, Value.iface.injEq, Value.tuple.injEq, reduceCtorEq, false_and, and_false, and_true, true_and]
    all_goals first | exact calm_pure _ | exact (halts_stuck _).calm | exact (halts_unsupported _).calm | skip
    all_goals first | (rename_i h1 h2; subst h1; subst h2; unfold samePointer; split <;> simp_all only [reduceCtorEq] <;> exact calm_pure _) | (rename_i h1 h2; subst h1; unfold samePointer; split <;> simp_all only [reduceCtorEq] <;> exact calm_pure _) | trace_state
theorem calm_eqIface0 (d : Nat) (t : TypeId)  : Calm P (Op.equalIn d t .nilIface .nilIface) := by
  cases d with
  | zero => exact (halts_unsupported _).calm
  | succ d =>
    unfold Op.equalIn
    refine calm_bind (calm_underlying t) fun u => ?_
    split <;> simp_all only [Value.pointer.injEq, Value.slice.injEq, Value.map.injEq, Value.bool.injEq, Value.func.injEq, Value.iface.injEq, Value.tuple.injEq, reduceCtorEq, false_and, and_false, and_true, true_and]
    all_goals first | exact calm_pure _ | exact (halts_stuck _).calm | exact (halts_unsupported _).calm | skip
    all_goals first | (rename_i h1 h2; subst h1; subst h2; unfold samePointer; split <;> simp_all only [reduceCtorEq] <;> exact calm_pure _) | (rename_i h1 h2; subst h1; unfold samePointer; split <;> simp_all only [reduceCtorEq] <;> exact calm_pure _) | trace_state
theorem calm_eqIface1 (d : Nat) (t : TypeId) (u : TypeId) (v : Value) : Calm P (Op.equalIn d t (.iface u v) .nilIface) := by
  cases d with
  | zero => exact (halts_unsupported _).calm
  | succ d =>
    unfold Op.equalIn
    refine calm_bind (calm_underlying t) fun u => ?_
    split <;> simp_all only [Value.pointer.injEq, Value.slice.injEq, Value.map.injEq, Value.bool.injEq, Value.func.injEq, Value.iface.injEq, Value.tuple.injEq, reduceCtorEq, false_and, and_false, and_true, true_and]
    all_goals first | exact calm_pure _ | exact (halts_stuck _).calm | exact (halts_unsupported _).calm | skip
    all_goals first | (rename_i h1 h2; subst h1; subst h2; unfold samePointer; split <;> simp_all only [reduceCtorEq] <;> exact calm_pure _) | (rename_i h1 h2; subst h1; unfold samePointer; split <;> simp_all only [reduceCtorEq] <;> exact calm_pure _) | trace_state
theorem calm_eqIface2 (d : Nat) (t : TypeId) (u : TypeId) (v : Value) : Calm P (Op.equalIn d t .nilIface (.iface u v)) := by
  cases d with
  | zero => exact (halts_unsupported _).calm
  | succ d =>
    unfold Op.equalIn
    refine calm_bind (calm_underlying t) fun u => ?_
    split <;> simp_all only [Value.pointer.injEq, Value.slice.injEq, Value.map.injEq, Value.bool.injEq, Value.func.injEq, Value.iface.injEq, Value.tuple.injEq, reduceCtorEq, false_and, and_false, and_true, true_and]
    all_goals first | exact calm_pure _ | exact (halts_stuck _).calm | exact (halts_unsupported _).calm | skip
    all_goals first | (rename_i h1 h2; subst h1; subst h2; unfold samePointer; split <;> simp_all only [reduceCtorEq] <;> exact calm_pure _) | (rename_i h1 h2; subst h1; unfold samePointer; split <;> simp_all only [reduceCtorEq] <;> exact calm_pure _) | trace_state
theorem calm_eqSl1 (d : Nat) (t : TypeId) (n c : Nat) (b : Option Addr) (m k : Nat) : Calm P (Op.equalIn d t (.slice none n c) (.slice b m k)) := by
  cases d with
  | zero => exact (halts_unsupported _).calm
  | succ d =>
    unfold Op.equalIn
    refine calm_bind (calm_underlying t) fun u => ?_
    split <;> simp_all only [Value.pointer.injEq, Value.slice.injEq, Value.map.injEq, Value.bool.injEq, Value.func.injEq, Value.iface.injEq, Value.tuple.injEq, reduceCtorEq, false_and, and_false, and_true, true_and]
    all_goals first | exact calm_pure _ | exact (halts_stuck _).calm | exact (halts_unsupported _).calm | skip
    all_goals first | (rename_i h1 h2; subst h1; subst h2; unfold samePointer; split <;> simp_all only [reduceCtorEq] <;> exact calm_pure _) | (rename_i h1 h2; subst h1; unfold samePointer; split <;> simp_all only [reduceCtorEq] <;> exact calm_pure _) | trace_state
theorem calm_eqSl2 (d : Nat) (t : TypeId) (n c : Nat) (b : Option Addr) (m k : Nat) : Calm P (Op.equalIn d t (.slice b m k) (.slice none n c)) := by
  cases d with
  | zero => exact (halts_unsupported _).calm
  | succ d =>
    unfold Op.equalIn
    refine calm_bind (calm_underlying t) fun u => ?_
    split <;> simp_all only [Value.pointer.injEq, Value.slice.injEq, Value.map.injEq, Value.bool.injEq, Value.func.injEq, Value.iface.injEq, Value.tuple.injEq, reduceCtorEq, false_and, and_false, and_true, true_and]
    all_goals first | exact calm_pure _ | exact (halts_stuck _).calm | exact (halts_unsupported _).calm | skip
    all_goals first | (rename_i h1 h2; subst h1; subst h2; unfold samePointer; split <;> simp_all only [reduceCtorEq] <;> exact calm_pure _) | (rename_i h1 h2; subst h1; unfold samePointer; split <;> simp_all only [reduceCtorEq] <;> exact calm_pure _) | trace_state
theorem calm_eqMap1 (d : Nat) (t : TypeId) (b : Option Nat) : Calm P (Op.equalIn d t (.map none) (.map b)) := by
  cases d with
  | zero => exact (halts_unsupported _).calm
  | succ d =>
    unfold Op.equalIn
    refine calm_bind (calm_underlying t) fun u => ?_
    split <;> simp_all only [Value.pointer.injEq, Value.slice.injEq, Value.map.injEq, Value.bool.injEq, Value.func.injEq, Value.iface.injEq, Value.tuple.injEq, reduceCtorEq, false_and, and_false, and_true, true_and]
    all_goals first | exact calm_pure _ | exact (halts_stuck _).calm | exact (halts_unsupported _).calm | skip
    all_goals first | (rename_i h1 h2; subst h1; subst h2; unfold samePointer; split <;> simp_all only [reduceCtorEq] <;> exact calm_pure _) | (rename_i h1 h2; subst h1; unfold samePointer; split <;> simp_all only [reduceCtorEq] <;> exact calm_pure _) | trace_state
theorem calm_eqMap2 (d : Nat) (t : TypeId) (b : Option Nat) : Calm P (Op.equalIn d t (.map b) (.map none)) := by
  cases d with
  | zero => exact (halts_unsupported _).calm
  | succ d =>
    unfold Op.equalIn
    refine calm_bind (calm_underlying t) fun u => ?_
    split <;> simp_all only [Value.pointer.injEq, Value.slice.injEq, Value.map.injEq, Value.bool.injEq, Value.func.injEq, Value.iface.injEq, Value.tuple.injEq, reduceCtorEq, false_and, and_false, and_true, true_and]
    all_goals first | exact calm_pure _ | exact (halts_stuck _).calm | exact (halts_unsupported _).calm | skip
    all_goals first | (rename_i h1 h2; subst h1; subst h2; unfold samePointer; split <;> simp_all only [reduceCtorEq] <;> exact calm_pure _) | (rename_i h1 h2; subst h1; unfold samePointer; split <;> simp_all only [reduceCtorEq] <;> exact calm_pure _) | trace_state
theorem calm_eqFunc0 (d : Nat) (t : TypeId)  : Calm P (Op.equalIn d t .nilFunc .nilFunc) := by
  cases d with
  | zero => exact (halts_unsupported _).calm
  | succ d =>
    unfold Op.equalIn
    refine calm_bind (calm_underlying t) fun u => ?_
    split <;> simp_all only [Value.pointer.injEq, Value.slice.injEq, Value.map.injEq, Value.bool.injEq, Value.func.injEq, Value.iface.injEq, Value.tuple.injEq, reduceCtorEq, false_and, and_false, and_true, true_and]
    all_goals first | exact calm_pure _ | exact (halts_stuck _).calm | exact (halts_unsupported _).calm | skip
    all_goals first | (rename_i h1 h2; subst h1; subst h2; unfold samePointer; split <;> simp_all only [reduceCtorEq] <;> exact calm_pure _) | (rename_i h1 h2; subst h1; unfold samePointer; split <;> simp_all only [reduceCtorEq] <;> exact calm_pure _) | trace_state
theorem calm_eqFunc1 (d : Nat) (t : TypeId) (f : Fn) (x y : Array Value) : Calm P (Op.equalIn d t .nilFunc (.func f x y)) := by
  cases d with
  | zero => exact (halts_unsupported _).calm
  | succ d =>
    unfold Op.equalIn
    refine calm_bind (calm_underlying t) fun u => ?_
    split <;> simp_all only [Value.pointer.injEq, Value.slice.injEq, Value.map.injEq, Value.bool.injEq, Value.func.injEq, Value.iface.injEq, Value.tuple.injEq, reduceCtorEq, false_and, and_false, and_true, true_and]
    all_goals first | exact calm_pure _ | exact (halts_stuck _).calm | exact (halts_unsupported _).calm | skip
    all_goals first | (rename_i h1 h2; subst h1; subst h2; unfold samePointer; split <;> simp_all only [reduceCtorEq] <;> exact calm_pure _) | (rename_i h1 h2; subst h1; unfold samePointer; split <;> simp_all only [reduceCtorEq] <;> exact calm_pure _) | trace_state
theorem calm_eqFunc2 (d : Nat) (t : TypeId) (f : Fn) (x y : Array Value) : Calm P (Op.equalIn d t (.func f x y) .nilFunc) := by
  cases d with
  | zero => exact (halts_unsupported _).calm
  | succ d =>
    unfold Op.equalIn
    refine calm_bind (calm_underlying t) fun u => ?_
    split <;> simp_all only [Value.pointer.injEq, Value.slice.injEq, Value.map.injEq, Value.bool.injEq, Value.func.injEq, Value.iface.injEq, Value.tuple.injEq, reduceCtorEq, false_and, and_false, and_true, true_and]
    all_goals first | exact calm_pure _ | exact (halts_stuck _).calm | exact (halts_unsupported _).calm | skip
    all_goals first | (rename_i h1 h2; subst h1; subst h2; unfold samePointer; split <;> simp_all only [reduceCtorEq] <;> exact calm_pure _) | (rename_i h1 h2; subst h1; unfold samePointer; split <;> simp_all only [reduceCtorEq] <;> exact calm_pure _) | trace_state
theorem calm_eqBool (d : Nat) (t : TypeId) (x y : Bool) : Calm P (Op.equalIn d t (.bool x) (.bool y)) := by
  cases d with
  | zero => exact (halts_unsupported _).calm
  | succ d =>
    unfold Op.equalIn
    refine calm_bind (calm_underlying t) fun u => ?_
    split <;> simp_all only [Value.pointer.injEq, Value.slice.injEq, Value.map.injEq, Value.bool.injEq, Value.func.injEq, Value.iface.injEq, Value.tuple.injEq, reduceCtorEq, false_and, and_false, and_true, true_and]
    all_goals first | exact calm_pure _ | exact (halts_stuck _).calm | exact (halts_unsupported _).calm | skip
    all_goals first | (rename_i h1 h2; subst h1; subst h2; unfold samePointer; split <;> simp_all only [reduceCtorEq] <;> exact calm_pure _) | (rename_i h1 h2; subst h1; unfold samePointer; split <;> simp_all only [reduceCtorEq] <;> exact calm_pure _) | trace_state
theorem calm_eqTup1 (d : Nat) (t : TypeId) (x : Array Value) (y : Value) : Calm P (Op.equalIn d t (.tuple x) y) := by
  cases d with
  | zero => exact (halts_unsupported _).calm
  | succ d =>
    unfold Op.equalIn
    refine calm_bind (calm_underlying t) fun u => ?_
    split <;> simp_all only [Value.pointer.injEq, Value.slice.injEq, Value.map.injEq, Value.bool.injEq, Value.func.injEq, Value.iface.injEq, Value.tuple.injEq, reduceCtorEq, false_and, and_false, and_true, true_and]
    all_goals first | exact calm_pure _ | exact (halts_stuck _).calm | exact (halts_unsupported _).calm | skip
    all_goals first | (rename_i h1 h2; subst h1; subst h2; unfold samePointer; split <;> simp_all only [reduceCtorEq] <;> exact calm_pure _) | (rename_i h1 h2; subst h1; unfold samePointer; split <;> simp_all only [reduceCtorEq] <;> exact calm_pure _) | trace_state
theorem calm_eqTup2 (d : Nat) (t : TypeId) (x : Array Value) (y : Value) : Calm P (Op.equalIn d t y (.tuple x)) := by
  cases d with
  | zero => exact (halts_unsupported _).calm
  | succ d =>
    unfold Op.equalIn
    refine calm_bind (calm_underlying t) fun u => ?_
    split <;> simp_all only [Value.pointer.injEq, Value.slice.injEq, Value.map.injEq, Value.bool.injEq, Value.func.injEq, Value.iface.injEq, Value.tuple.injEq, reduceCtorEq, false_and, and_false, and_true, true_and]
    all_goals first | exact calm_pure _ | exact (halts_stuck _).calm | exact (halts_unsupported _).calm | skip
    all_goals first | (rename_i h1 h2; subst h1; subst h2; unfold samePointer; split <;> simp_all only [reduceCtorEq] <;> exact calm_pure _) | (rename_i h1 h2; subst h1; unfold samePointer; split <;> simp_all only [reduceCtorEq] <;> exact calm_pure _) | trace_state
end
end Go.Proofs.YtimhofphmgehgaaDoor
