/- Which operations look at no memory and at no tape (third part): the operations themselves, sorted. -/
import Derived.Test.YtimhofphmgehgaaDoorCalm2
set_option linter.unusedVariables false
set_option linter.unusedSimpArgs false
namespace Go.Proofs.YtimhofphmgehgaaDoor
open Go

section
variable {P : Program}

theorem calm_eqGuardIn_nil (d : Nat) (t : TypeId) : Calm P (Op.eqGuardIn d t .nilIface .nilIface) := by
  cases d with
  | zero => exact (halts_unsupported _).calm
  | succ d =>
    unfold Op.eqGuardIn
    refine calm_bind (calm_underlying t) fun u => ?_
    split <;> simp_all only [reduceCtorEq]
    all_goals exact calm_pure _

theorem calm_eqGuard (op : BinOp) (t : TypeId) (x y : Operand) (a b : Value) (h : ∀ xs ys, a = .agg xs → b = .agg ys → False) : Calm P (eqGuard op t x y a b) := by
  have core : Calm P (match a, b with
    | .nilIface, .nilIface =>
      if (x matches .const _) || (y matches .const _) then (pure () : Sem Unit) else do
      if ← Op.eqGuardIn Op.maxDepth t a b then unsupported (.noEntry "binop/eql: two nil values of an interface type with methods, neither of them the literal nil")
    | .agg _, .agg _ => do
      if !(← program).eqGuardType (← program).depth t then return
      if ← Op.eqGuardIn Op.maxDepth t a b then unsupported (.noEntry "binop/eql: two nil values of an interface type with methods, in a part of a struct or an array")
    | _, _ => pure ()) := by
    split
    · have k : ∀ c : Bool, Calm P (if c = true then (pure () : Sem Unit) else do
          if ← Op.eqGuardIn Op.maxDepth t .nilIface .nilIface then unsupported (.noEntry "binop/eql: two nil values of an interface type with methods, neither of them the literal nil")) := fun c => by
        split
        · exact calm_pure _
        · refine calm_bind (calm_eqGuardIn_nil _ _) fun r => ?_
          split
          · exact (halts_unsupported _).calm
          · exact calm_pure _
      exact k _
    · exact (h _ _ rfl rfl).elim
    · exact calm_pure _
  cases op <;> first | exact core | exact calm_pure _
theorem calm_eqlB {t : TypeId} {a b : Value} (h : Calm P (Op.equal t a b)) : Calm P (do pure (.bool (← Op.equal t a b)) : Sem Value) := calm_bind h fun _ => calm_pure _
theorem calm_neqB {t : TypeId} {a b : Value} (h : Calm P (Op.equal t a b)) : Calm P (do pure (.bool (!(← Op.equal t a b))) : Sem Value) := calm_bind h fun _ => calm_pure _

theorem calm_binInt (op : BinOp) (t : TypeId) (k : IntKind) (x : Int) (j : IntKind) (y : Int) : Calm P (binOp op t (.int k x) (.int j y)) := by
  cases op <;> simp only [binOp] <;> first
    | exact calm_shift _ _ _ _ _
    | (split <;> first | exact (halts_stuck _).calm | exact calm_intArith _ _ _ _ | exact calm_intDiv _ _ _ _ | exact calm_intBits _ _ _ _ | exact calm_intCmp _ _ _)
theorem calm_binStr (op : BinOp) (t : TypeId) (x y : ByteArray) : Calm P (binOp op t (.string x) (.string y)) := by
  cases op <;> simp only [binOp] <;> exact calm_stringOp _ _ _
theorem calm_binTup1 (op : BinOp) (t : TypeId) (x : Array Value) (y : Value) : Calm P (binOp op t (.tuple x) y) := by
  cases op <;> cases y <;> simp only [binOp] <;> first
    | exact (halts_stuck _).calm
    | exact (halts_unsupported _).calm
    | exact calm_eqlB (calm_eqTup1 _ _ _ _)
    | exact calm_neqB (calm_eqTup1 _ _ _ _)
theorem calm_binTup2 (op : BinOp) (t : TypeId) (x : Array Value) (y : Value) : Calm P (binOp op t y (.tuple x)) := by
  cases op <;> cases y <;> simp only [binOp] <;> first
    | exact (halts_stuck _).calm
    | exact (halts_unsupported _).calm
    | exact calm_eqlB (calm_eqTup2 _ _ _ _)
    | exact calm_neqB (calm_eqTup2 _ _ _ _)
    | (rename_i z; cases z <;> simp only [] <;> first | exact (halts_stuck _).calm | exact (halts_unsupported _).calm)

theorem calm_binOp (op : BinOp) (t : TypeId) (a b : Value) (h : plainPair op a b = true) : Calm P (binOp op t a b) := by
  unfold plainPair at h
  split at h
  · exact calm_binInt _ _ _ _ _ _
  · exact calm_binStr _ _ _ _
  · exact calm_binTup1 _ _ _ _
  · exact calm_binTup2 _ _ _ _
  · cases op <;> simp only [Bool.false_eq_true] at h <;> simp only [binOp] <;> first | exact calm_eqlB (calm_eqBool _ _ _ _) | exact calm_neqB (calm_eqBool _ _ _ _)
  · cases op <;> simp only [Bool.false_eq_true] at h <;> simp only [binOp] <;> first | exact calm_eqlB (calm_eqPtr1 _ _ _) | exact calm_neqB (calm_eqPtr1 _ _ _)
  · cases op <;> simp only [Bool.false_eq_true] at h <;> simp only [binOp] <;> first | exact calm_eqlB (calm_eqPtr2 _ _ _) | exact calm_neqB (calm_eqPtr2 _ _ _)
  · cases op <;> simp only [Bool.false_eq_true] at h <;> simp only [binOp] <;> first | exact calm_eqlB (calm_eqIface0 _ _) | exact calm_neqB (calm_eqIface0 _ _)
  · cases op <;> simp only [Bool.false_eq_true] at h <;> simp only [binOp] <;> first | exact calm_eqlB (calm_eqIface1 _ _ _ _) | exact calm_neqB (calm_eqIface1 _ _ _ _)
  · cases op <;> simp only [Bool.false_eq_true] at h <;> simp only [binOp] <;> first | exact calm_eqlB (calm_eqIface2 _ _ _ _) | exact calm_neqB (calm_eqIface2 _ _ _ _)
  · cases op <;> simp only [Bool.false_eq_true] at h <;> simp only [binOp] <;> first | exact calm_eqlB (calm_eqSl1 _ _ _ _ _ _ _) | exact calm_neqB (calm_eqSl1 _ _ _ _ _ _ _)
  · cases op <;> simp only [Bool.false_eq_true] at h <;> simp only [binOp] <;> first | exact calm_eqlB (calm_eqSl2 _ _ _ _ _ _ _) | exact calm_neqB (calm_eqSl2 _ _ _ _ _ _ _)
  · cases op <;> simp only [Bool.false_eq_true] at h <;> simp only [binOp] <;> first | exact calm_eqlB (calm_eqMap1 _ _ _) | exact calm_neqB (calm_eqMap1 _ _ _)
  · cases op <;> simp only [Bool.false_eq_true] at h <;> simp only [binOp] <;> first | exact calm_eqlB (calm_eqMap2 _ _ _) | exact calm_neqB (calm_eqMap2 _ _ _)
  · cases op <;> simp only [Bool.false_eq_true] at h <;> simp only [binOp] <;> first | exact calm_eqlB (calm_eqFunc0 _ _) | exact calm_neqB (calm_eqFunc0 _ _)
  · cases op <;> simp only [Bool.false_eq_true] at h <;> simp only [binOp] <;> first | exact calm_eqlB (calm_eqFunc1 _ _ _ _ _) | exact calm_neqB (calm_eqFunc1 _ _ _ _ _)
  · cases op <;> simp only [Bool.false_eq_true] at h <;> simp only [binOp] <;> first | exact calm_eqlB (calm_eqFunc2 _ _ _ _ _) | exact calm_neqB (calm_eqFunc2 _ _ _ _ _)
  · cases h

theorem plain_noAgg {op : BinOp} {a b : Value} (h : plainPair op a b = true) : ∀ xs ys, a = .agg xs → b = .agg ys → False := by
  rintro xs ys rfl rfl
  simp [plainPair] at h

def lenB (v : Value) : Bool := match v with
  | .slice .. | .string _ | .tuple _ => true
  | _ => false
theorem calm_len (ts : Array TypeId) (t : TypeId) (args : Array Value) (h : (args[0]?).all lenB = true) : Calm P (Builtin.len_ ts t args) := by
  unfold Builtin.len_
  split
  · rename_i pr tt xx heq
    have hx : lenB xx = true := by
      have e : args[0]? = some xx := (Prod.mk.inj heq).2
      simpa [e] using h
    refine calm_bind (calm_underlying _) fun d => ?_
    split <;> first
      | exact calm_pure _
      | exact (halts_stuck _).calm
      | (refine calm_bind (calm_underlying _) fun d => ?_; split <;> first | exact calm_pure _ | exact (halts_stuck _).calm)
      | (exfalso; simp [lenB] at hx)
  · exact (halts_stuck _).calm
theorem calm_cap (ts : Array TypeId) (t : TypeId) (args : Array Value) (h : (args[0]?).all lenB = true) : Calm P (Builtin.cap_ ts t args) := by
  unfold Builtin.cap_
  split
  · rename_i pr tt xx heq
    have hx : lenB xx = true := by
      have e : args[0]? = some xx := (Prod.mk.inj heq).2
      simpa [e] using h
    refine calm_bind (calm_underlying _) fun d => ?_
    split <;> first
      | exact calm_pure _
      | exact (halts_stuck _).calm
      | (refine calm_bind (calm_underlying _) fun d => ?_; split <;> first | exact calm_pure _ | exact (halts_stuck _).calm)
      | (exfalso; simp [lenB] at hx)
  · exact (halts_stuck _).calm
def intB (v : Value) : Bool := match v with
  | .int .. | .tuple _ => true
  | _ => false
theorem calm_foldM (f : Value → Value → Sem Value) (hf : ∀ x y, intB x = true → intB y = true → Calm P (f x y) ∧ ∀ v w w', (f x y).run P w = .ok v w' → intB v = true) : ∀ (l : List Value) (x : Value), intB x = true → l.all intB = true → Calm P (l.foldlM f x)
  | [], x, _, _ => calm_pure _
  | y :: l, x, hx, hl => by
    rw [List.foldlM_cons]
    simp only [List.all_cons, Bool.and_eq_true] at hl
    obtain ⟨h1, h2⟩ := hf x y hx hl.1
    rcases h1 with ⟨v, hv⟩ | hh
    · rcases calm_foldM f hf l v (h2 v default default (hv default)) hl.2 with ⟨u, hu⟩ | h3
      · exact .inl ⟨u, fun w => by rw [Sem.run_bind, hv w]; exact hu w⟩
      · exact .inr fun w => by rw [Sem.run_bind, hv w]; exact h3 w
    · exact .inr (Halts.left hh)
theorem calm_min (ts : Array TypeId) (t : TypeId) (args : Array Value) (h : args.toList.all intB = true) : Calm P (Builtin.min_ ts t args) := by
  unfold Builtin.min_
  split
  · exact (halts_stuck _).calm
  · rename_i x rest heq
    rw [heq] at h
    simp only [List.all_cons, Bool.and_eq_true] at h
    refine calm_foldM _ (fun x y hx hy => ?_) rest x h.1 h.2
    cases x <;> simp [intB] at hx <;> cases y <;> simp [intB] at hy
    · exact ⟨calm_pure _, fun v w w' hr => by
        have : _ = v := (by simpa [Builtin.min2] using hr : _ ∧ _).1
        rw [← this]; rfl⟩
    · exact ⟨(halts_stuck _).calm, fun v w w' hr => by cases hr⟩
    · exact ⟨(halts_stuck _).calm, fun v w w' hr => by cases hr⟩
    · exact ⟨(halts_stuck _).calm, fun v w w' hr => by cases hr⟩
theorem calm_max (ts : Array TypeId) (t : TypeId) (args : Array Value) (h : args.toList.all intB = true) : Calm P (Builtin.max_ ts t args) := by
  unfold Builtin.max_
  split
  · exact (halts_stuck _).calm
  · rename_i x rest heq
    rw [heq] at h
    simp only [List.all_cons, Bool.and_eq_true] at h
    refine calm_foldM _ (fun x y hx hy => ?_) rest x h.1 h.2
    cases x <;> simp [intB] at hx <;> cases y <;> simp [intB] at hy
    · exact ⟨calm_pure _, fun v w w' hr => by
        have : _ = v := (by simpa [Builtin.max2] using hr : _ ∧ _).1
        rw [← this]; rfl⟩
    · exact ⟨(halts_stuck _).calm, fun v w w' hr => by cases hr⟩
    · exact ⟨(halts_stuck _).calm, fun v w w' hr => by cases hr⟩
    · exact ⟨(halts_stuck _).calm, fun v w w' hr => by cases hr⟩
end
end Go.Proofs.YtimhofphmgehgaaDoor
