/- A region that draws its order is walked in the order of the text: the two theorems that the walks use, 'region_text' and 'region_held'. For every program. -/
import Derived.Test.YtimhofphmgehgaaDoorText
set_option linter.unusedVariables false
set_option linter.unusedSimpArgs false
namespace Go.Proofs.YtimhofphmgehgaaDoor
open Go

section
variable {P : Program} {ops : Array Oper}

theorem run_newRow (e : TypeId) (c : Array Value) (w : World) : (newRow e c).run P w = .ok ⟨w.heap.size, 0, none⟩ (w.alloc (.cells c e)) := by
  unfold newRow newObj
  rfl
theorem lays_of {m : Sem Value} (h : (∃ (f : Nat → Value) (o : Obj), ∀ w, m.run P w = .ok (f w.heap.size) (w.alloc o)) ∨ Halts P m) : Lays P (do pure (.value (← m)) : Sem Next) := by
  rcases h with ⟨f, o, h⟩ | h
  · exact .inl ⟨f, o, fun w => by rw [Sem.run_bind, h w]; rfl⟩
  · exact .inr (Halts.left h)
theorem lays_newVar (t : TypeId) (v : Value) : (∃ (f : Nat → Value) (o : Obj), ∀ w, (do pure (.pointer (some (← newVar t v))) : Sem Value).run P w = .ok (f w.heap.size) (w.alloc o)) :=
  ⟨fun n => .pointer (some ⟨n, 0, none⟩), .cells v.cells t, fun w => by rw [Sem.run_bind]; unfold newVar; rw [run_newRow]; rfl⟩
def sliceOf (e : TypeId) (n : Nat) (c : Option (Array Value)) : Sem Value := match c with
  | some cells => do pure (.slice (some (← newRow e cells)) n n)
  | _ => stuck "buildSlice: a part of the wrong size"
theorem kM_lays {o : Oper} (h : kM o = true) (ρ : Operand → Value) : Lays P (execOp ρ o) := by
  unfold kM at h
  unfold execOp
  split at h
  · rename_i z t heq
    simp only [heq]
    apply lays_of
    unfold Instr.alloc
    rcases calm_zeroValue (P := P) t with ⟨v, hv⟩ | hh
    · obtain ⟨f, o, hf⟩ := lays_newVar (P := P) t v
      exact .inl ⟨f, o, fun w => by rw [Sem.run_bind, hv w]; exact hf w⟩
    · exact .inr (Halts.left hh)
  · rename_i z t x heq
    simp only [heq]
    exact lays_of (.inl (lays_newVar t _))
  · rename_i z t n ps heq
    simp only [heq]
    apply lays_of
    unfold Instr.buildSlice
    rcases calm_underlying (P := P) t with ⟨d, hd⟩ | hh
    · have tail : ∀ (e : TypeId) (c : Option (Array Value)), ((∃ (f : Nat → Value) (o : Obj), ∀ w : World, (sliceOf e n c).run P w = Result.ok (f w.heap.size) (w.alloc o)) ∨ Halts P (sliceOf e n c)) := fun e c => by
        cases c with
        | some cells => exact .inl ⟨fun k => .slice (some ⟨k, 0, none⟩) n n, .cells cells e, fun w => by unfold sliceOf; rw [Sem.run_bind, run_newRow]; rfl⟩
        | none => exact .inr (halts_stuck _)
      have go : ∀ {α : Type} {m : Sem α} {f : α → Sem Value}, Calm P m → (∀ v, ((∃ (g : Nat → Value) (o : Obj), ∀ w, (f v).run P w = .ok (g w.heap.size) (w.alloc o)) ∨ Halts P (f v))) → ((∃ (g : Nat → Value) (o : Obj), ∀ w, (m >>= f).run P w = .ok (g w.heap.size) (w.alloc o)) ∨ Halts P (m >>= f)) := by
        intro α m f hm hf
        rcases hm with ⟨v, hv⟩ | hh
        · rcases hf v with ⟨g, o, h⟩ | h
          · exact .inl ⟨g, o, fun w => by rw [Sem.run_bind, hv w]; exact h w⟩
          · exact .inr fun w => by rw [Sem.run_bind, hv w]; exact h w
        · exact .inr (Halts.left hh)
      refine go (calm_underlying t) fun d => ?_
      split
      · refine go (calm_sizeOf _) fun sz => ?_
        dsimp only
        split
        · exact .inr (Halts.left (halts_unsupported _))
        · split
          · exact go (calm_pure _) fun z => tail _ _
          · exact go (calm_zeroValue _) fun z => go (calm_pure _) fun z => tail _ _
      · exact .inr (halts_stuck _)
    · exact .inr (Halts.left hh)
  · cases h

/-! The two theorems. -/
def tmpOps (o : Oper) : List Tmp := o.op.operands.toList.filterMap fun | .tmp t => some t | _ => none
def unordB (M : List Nat) (i j : Nat) : Bool := if i < j then !(M.getD j 0).testBit i else if j < i then !(M.getD i 0).testBit j else false
def swB (P : Program) (ops : Array Oper) (mode : Bool) (oi oj : Oper) : Bool :=
  oi.apart ops oj && (kA P oi || kA P oj || kD P oi || kD P oj || (kL oi && kL oj) || (kL oi && kM oj) || (mode && (kL oi || kL oj)))
/-- THE TEST: 'need': the operations whose operands must be seen to be plain. -/
def regB (P : Program) (mode : Bool) (need : List Nat) (l : List Oper) : Bool :=
  let ops := l.toArray
  let M := (Region.before ops).toList
  Region.noSelect ops && backB ops && closeB M ops &&
  ((List.range l.length).all fun j => match ops[j]? with
    | some oj => ((List.range j).all fun i => (M.getD j 0).testBit i || match ops[i]? with
      | some oi => swB P ops mode oi oj && (kA P oi || kA P oj || (if kD P oi then need.contains i else if kD P oj then need.contains j else true))
      | none => false)
    | none => false) &&
  ((List.range l.length).all fun i => match ops[i]? with
    | some oi => (!(need.contains i || (mode && kL oi)) || (List.range l.length).all fun j => decide (j < i) || (match (ops[j]?).bind (·.dst) with | some d => !(tmpOps oi).contains d | none => true)) &&
        (!mode || !kD P oi || need.contains i)
    | none => false)
/-- .. that they are. -/
def finB (need : List Nat) (l : List Oper) (a : Act) : Bool := need.all fun i => match l[i]? with
  | some o => condB o a.eval
  | none => true
def inS (S : Nat → Prop) (o : Oper) (a : Act) : Prop := match o.op with
  | .load _ x => (match a.eval x with | .pointer (some ad) => S ad.block | _ => True)
  | _ => True
def finS (S : Nat → Prop) : List Oper → Act → Prop
  | [], _ => True
  | o :: l, a => inS S o a ∧ finS S l a
theorem finS_get {S : Nat → Prop} {a : Act} {l : List Oper} : finS S l a → ∀ (i : Nat) (o : Oper), l[i]? = some o → inS S o a := by
  induction l with
  | nil => intro _ i o e; cases e
  | cons x l ih =>
    intro h i o e
    cases i with
    | zero =>
      have : x = o := Option.some.inj e
      subst this
      exact h.1
    | succ i => exact ih h.2 i o e

/-- The conditions ahead of each operation. -/
def condC (mode : Bool) (S : Nat → Prop) (need : List Nat) (l : List Oper) (i : Nat) (a : Act) : Prop := match l[i]? with
  | some o => (i ∈ need → condB o a.eval = true) ∧ (mode = true → inS S o a)
  | none => True

theorem condB_congr {o : Oper} {ρ ρ' : Operand → Value} (h : ∀ x ∈ o.op.operands, ρ' x = ρ x) : condB o ρ' = condB o ρ := by
  unfold condB
  split <;> rename_i heq <;> simp only [heq, Op.operands, Call.operands] at h
  · rw [h _ (by simp), h _ (by simp)]
  · rw [h _ (by simp)]
  · rw [h _ (by simp)]
  all_goals first
    | rfl
    | (rename_i args ts
       have e : args.map ρ' = args.map ρ := Array.map_congr_left fun x hx => h x (by simp [hx])
       rw [e])
theorem inS_congr {S : Nat → Prop} {o : Oper} {a a' : Act} (h : ∀ x ∈ o.op.operands, a'.eval x = a.eval x) : inS S o a' ↔ inS S o a := by
  unfold inS
  split
  · rename_i heq
    simp only [heq, Op.operands] at h
    rw [h _ (by simp)]
  · exact Iff.rfl

/-- The text's order without the conditions; behind each effect what holds of the world. -/
def UOrd (P : Program) (ops : Array Oper) (Inv : World → Prop) (E : Nat → Bool) : List Nat → (Act → World → Prop) → Act → World → Prop
  | [], K, a, w => K a w
  | i :: l, K, a, w => wpOp P ops QF i (fun a' w' => (E i = true → Inv w') ∧ UOrd P ops Inv E l K a' w') a w
variable {Inv : World → Prop} {E : Nat → Bool} {C : Nat → Act → Prop}

theorem UOrd.mono {l : List Nat} {K K' : Act → World → Prop} (hk : ∀ a w, K a w → K' a w) : ∀ {a : Act} {w : World}, (∀ i ∈ l, ∃ o, ops[i]? = some o) → UOrd P ops Inv E l K a w → UOrd P ops Inv E l K' a w := by
  induction l with
  | nil => exact fun _ h => hk _ _ h
  | cons i l ih =>
    intro a w hl h
    obtain ⟨o, ho⟩ := hl i (List.mem_cons_self ..)
    exact op_mono ho h fun a' w' _ h' => ⟨h'.1, ih (fun j hj => hl j (List.mem_cons_of_mem _ hj)) h'.2⟩
theorem UOrd.append {l m : List Nat} {K : Act → World → Prop} : ∀ {a : Act} {w : World}, (∀ i ∈ l, ∃ o, ops[i]? = some o) → UOrd P ops Inv E l (UOrd P ops Inv E m K) a w → UOrd P ops Inv E (l ++ m) K a w := by
  induction l with
  | nil => exact fun _ h => h
  | cons i l ih =>
    intro a w hl h
    obtain ⟨o, ho⟩ := hl i (List.mem_cons_self ..)
    exact op_mono ho h fun a' w' _ h' => ⟨h'.1, ih (fun j hj => hl j (List.mem_cons_of_mem _ hj)) h'.2⟩
theorem upd_tmps {o : Oper} {a a' : Act} (h : Upd o a a') {t : Tmp} (ht : o.dst ≠ some t) : a'.tmps.getD t undef = a.tmps.getD t undef := by
  obtain ⟨v, ds, rfl⟩ := h
  cases hd : o.dst with
  | none => rfl
  | some d =>
    have hne : d ≠ t := fun e => ht (by rw [hd, e])
    simp [Act.put, Array.getElem?_setIfInBounds_ne hne]
theorem UOrd.out {l : List Nat} {K : Act → World → Prop} : ∀ {a : Act} {w : World}, (∀ i ∈ l, ∃ o, ops[i]? = some o) → UOrd P ops Inv E l K a w →
    ∃ a' w', K a' w' ∧ ∀ t, (∀ i ∈ l, ∀ o, ops[i]? = some o → o.dst ≠ some t) → a'.tmps.getD t undef = a.tmps.getD t undef := by
  induction l with
  | nil => exact fun _ h => ⟨_, _, h, fun _ _ => rfl⟩
  | cons i l ih =>
    intro a w hl h
    obtain ⟨o, ho⟩ := hl i (List.mem_cons_self ..)
    obtain ⟨a1, w1, hu, h1⟩ := op_out ho h
    obtain ⟨a', w', hK, ht⟩ := ih (fun j hj => hl j (List.mem_cons_of_mem _ hj)) h1.2
    refine ⟨a', w', hK, fun t hn => ?_⟩
    rw [ht t fun j hj => hn j (List.mem_cons_of_mem _ hj)]
    exact upd_tmps hu (hn i (List.mem_cons_self ..) o ho)
theorem wpOp_strict {i : Nat} {K : Act → World → Prop} {Q : Exit → Act → World → Prop} {a : Act} {w : World} (hp : ∀ c a w, ¬ Q (.panic c) a w) (hl : ∀ a w, ¬ Q .outgrown a w) (h : wpOp P ops Q i K a w) : wpOp P ops QF i K a w := by
  unfold wpOp at *
  split
  · rename_i ho; simp only [ho] at h; exact h
  · rename_i o ho
    simp only [ho] at h
    split
    · rename_i hw
      simp only [hw, if_true] at h
      have h := h.resolve_right (fun ⟨_, a, w, h⟩ => hl a w h)
      refine .inl ?_
      unfold Oper.wp at *
      generalize (execOp a.eval o).run P w = r at *
      cases r with
      | ok n w' =>
        cases n <;> simp only [Oper.upon] at h ⊢ <;>
          first
            | exact h
            | exact Calls.mono h (fun e w'' he => by cases e <;> first | exact he | exact (hp _ _ _ he).elim | exact (Exists.elim he fun a h => Exists.elim h fun w h => hl a w h).elim)
            | exact Rows.mono h (fun _ _ he => he)
      | halt x w' => cases x <;> simp only [Oper.upon] at h ⊢ <;> exact (hp _ _ _ h).elim
    · rename_i hw; simp only [hw] at h; exact h

/-- What a walk of a part of the text leaves. -/
def KX (X : Act → World → Prop) : Exit → Act → World → Prop
  | .normal, a, w => X a w
  | _, _, _ => False
theorem UOrd.of_ops {X : Act → World → Prop} : ∀ (m k : Nat) {a : Act} {w : World}, k + m ≤ ops.size → ((∀ w, Inv w) ∨ (∀ a w, X a w → Inv w)) → ((∀ w, Inv w) ∨ (∀ i, k ≤ i → i + 1 < k + m → E i = false)) →
    wpOps P ops (KX X) (List.range' k m) a w → UOrd P ops Inv E (List.range' k m) X a w
  | 0, k, a, w, _, _, _, h => h
  | m + 1, k, a, w, hs, hX, hE, h => by
    rw [List.range'_succ] at h ⊢
    rw [wpOps_cons] at h
    have h1 := wpOp_strict (Q := KX X) (fun _ _ _ h => h) (fun _ _ h => h) h
    have hk : ops[k]? = some ops[k] := Array.getElem?_eq_getElem (by omega)
    refine op_mono hk h1 fun a' w' _ h2 => ⟨fun he => ?_, UOrd.of_ops m (k + 1) (by omega) hX (hE.imp id fun h i h1 h2 => h i (by omega) (by omega)) h2⟩
    rcases hE with hE | hE
    · exact hE w'
    · rcases Nat.eq_zero_or_pos m with rfl | hm
      · rcases hX with hX | hX
        · exact hX w'
        · exact hX a' w' h2
      · rw [hE k (Nat.le_refl _) (by omega)] at he; cases he

theorem TOrd.of_U {F : Act → Prop} {K : Act → World → Prop}
    (hC : ∀ k o a a', ops[k]? = some o → (∀ x ∈ o.op.operands, a'.eval x = a.eval x) → (C k a' ↔ C k a))
    (hF : ∀ k a, k < ops.size → F a → C k a)
    (hstay : ∀ i j oi oj, ops[i]? = some oi → ops[j]? = some oj → i ≤ j → (∀ a, C i a) ∨ ∀ d, oj.dst = some d → d ∉ tmpOps oi)
    (hI : ∀ i o (a : Act) (w : World) (K : Act → World → Prop), ops[i]? = some o → E i = false → C i a → Inv w → wpOp P ops QF i K a w → wpOp P ops QF i (fun a' w' => Inv w' ∧ K a' w') a w) :
    ∀ (m k : Nat) {a : Act} {w : World}, k + m = ops.size → Inv w → UOrd P ops Inv E (List.range' k m) (fun a w => F a ∧ K a w) a w → TOrd P ops Inv C (List.range' k m) K a w
  | 0, k, a, w, _, hi, h => ⟨hi, h.2⟩
  | m + 1, k, a, w, hs, hi, h => by
    have hk : ops[k]? = some ops[k] := Array.getElem?_eq_getElem (by omega)
    have hex : ∀ i ∈ List.range' k (m + 1), ∃ o, ops[i]? = some o := fun i hi => by
      have := List.mem_range'_1.1 hi
      exact ⟨_, Array.getElem?_eq_getElem (by omega)⟩
    have hCk : C k a := by
      obtain ⟨a', w', hK, ht⟩ := UOrd.out hex h
      have hc := hF k a' (by omega) hK.1
      refine (Classical.em (∀ a, C k a)).elim (fun h => h a) fun hn => ?_
      refine (hC k _ a a' hk fun x hx => ?_).1 hc
      cases x with
      | tmp t =>
        refine ht t fun i hi o ho hd => ?_
        rcases hstay k i _ o hk ho (List.mem_range'_1.1 hi).1 with h | h
        · exact hn h
        · exact h t hd (List.mem_filterMap.2 ⟨.tmp t, by simpa using hx, rfl⟩)
      | _ => rfl
    rw [List.range'_succ] at h ⊢
    refine ⟨hi, hCk, ?_⟩
    have step : ∀ a' w', Inv w' → UOrd P ops Inv E (List.range' (k + 1) m) (fun a w => F a ∧ K a w) a' w' → TOrd P ops Inv C (List.range' (k + 1) m) K a' w' := fun a' w' hi h => TOrd.of_U hC hF hstay hI m (k + 1) (by omega) hi h
    cases hE : E k
    · exact op_mono hk (hI k _ a w _ hk hE hCk hi h) fun a' w' _ h' => step a' w' h'.1 h'.2.2
    · exact op_mono hk h fun a' w' _ h' => step a' w' (h'.1 hE) h'.2
end
end Go.Proofs.YtimhofphmgehgaaDoor
