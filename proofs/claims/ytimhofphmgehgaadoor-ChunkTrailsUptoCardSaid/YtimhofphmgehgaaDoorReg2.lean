/- A region that draws its order, walked in the order of the text (second part: the test that the kernel runs, and the two theorems that the walks use). -/
import Derived.Test.YtimhofphmgehgaaDoorReg
set_option linter.unusedVariables false
set_option linter.unusedSimpArgs false
namespace Go.Proofs.YtimhofphmgehgaaDoor
open Go

section
variable {P : Program} {ops : Array Oper} {Inv : World → Prop} {C : Nat → Act → Prop}

theorem TOrd.mono {l : List Nat} {K K' : Act → World → Prop} (hk : ∀ a w, Inv w → K a w → K' a w) : ∀ {a : Act} {w : World}, (∀ i ∈ l, ∃ o, ops[i]? = some o) → TOrd P ops Inv C l K a w → TOrd P ops Inv C l K' a w := by
  induction l with
  | nil => exact fun _ h => ⟨h.1, hk _ _ h.1 h.2⟩
  | cons i l ih =>
    intro a w hl h
    obtain ⟨o, ho⟩ := hl i (List.mem_cons_self ..)
    exact ⟨h.1, h.2.1, op_mono ho h.2.2 fun a' w' _ h' => ih (fun j hj => hl j (List.mem_cons_of_mem _ hj)) h'⟩

theorem TOrd.append {l m : List Nat} {K : Act → World → Prop} : ∀ {a : Act} {w : World}, (∀ i ∈ l, ∃ o, ops[i]? = some o) → (TOrd P ops Inv C (l ++ m) K a w ↔ TOrd P ops Inv C l (TOrd P ops Inv C m K) a w) := by
  induction l with
  | nil => exact fun _ => ⟨fun h => ⟨h.inv, h⟩, fun h => h.2⟩
  | cons i l ih =>
    intro a w hl
    obtain ⟨o, ho⟩ := hl i (List.mem_cons_self ..)
    have hl' : ∀ i ∈ l, ∃ o, ops[i]? = some o := fun j hj => hl j (List.mem_cons_of_mem _ hj)
    exact ⟨fun h => ⟨h.1, h.2.1, op_mono ho h.2.2 fun a' w' _ h' => (ih hl').1 h'⟩, fun h => ⟨h.1, h.2.1, op_mono ho h.2.2 fun a' w' _ h' => (ih hl').2 h'⟩⟩

/-- The one that is taken moves to the front. -/
theorem TOrd.front {j : Nat} {oj : Oper} {m : List Nat} {K : Act → World → Prop} (hj : ops[j]? = some oj)
    (hsel : ∀ (i : Nat) (o : Oper) cs b, ops[i]? = some o → o.op ≠ .select cs b)
    (hC : ∀ k o a a', ops[k]? = some o → (∀ x ∈ o.op.operands, a'.eval x = a.eval x) → (C k a' ↔ C k a)) :
    ∀ (l : List Nat) {a : Act} {w : World}, (∀ i ∈ l, ∃ oi, ops[i]? = some oi ∧ oi.apart ops oj = true ∧ Swaps P ops Inv C i j oi oj) →
      TOrd P ops Inv C (l ++ j :: m) K a w → TOrd P ops Inv C (j :: (l ++ m)) K a w := by
  intro l
  induction l with
  | nil => exact fun _ h => h
  | cons i l ih =>
    intro a w hl h
    obtain ⟨oi, hi, hap, hs⟩ := hl i (List.mem_cons_self ..)
    refine TOrd.swap hi hj hap (fun cs b => hsel i oi cs b hi) (fun cs b => hsel j oj cs b hj) hC hs ?_
    exact ⟨h.1, h.2.1, op_mono hi h.2.2 fun a' w' _ h' => ih (fun k hk => hl k (List.mem_cons_of_mem _ hk)) h'⟩

theorem wpOp_weak {i : Nat} {K K' : Act → World → Prop} {Q : Exit → Act → World → Prop} {a : Act} {w : World} (hk : ∀ a w, K a w → K' a w) (h : wpOp P ops QF i K a w) : wpOp P ops Q i K' a w := by
  unfold wpOp at *
  split
  · rename_i ho; simp only [ho] at h; exact hk _ _ h
  · rename_i o ho
    simp only [ho] at h
    split
    · rename_i hw
      simp only [hw, if_true] at h
      refine .inl ?_
      have h := h.resolve_right (fun h' => letsOut_QF h'.2)
      unfold Oper.wp at *
      generalize (execOp a.eval o).run P w = r at *
      cases r with
      | ok n w' =>
        cases n <;> simp only [Oper.upon] at h ⊢ <;>
          first
            | exact hk _ _ h
            | exact Calls.mono h (fun e w'' he => by cases e <;> first | exact hk _ _ he | exact (he : False).elim | exact (letsOut_QF he).elim)
            | exact Rows.mono h (fun _ _ he => hk _ _ he)
      | halt x w' => exact (upon_halt h).elim
    · rename_i hw; simp only [hw] at h; exact hk _ _ h

/-- What is still to come, in the text's order. -/
def toCome (n : Nat) (listed : Array Bool) : List Nat := (List.range n).filter fun i => !listed.getD i true
theorem mem_toCome {n i : Nat} {listed : Array Bool} : i ∈ toCome n listed ↔ i < n ∧ listed.getD i true = false := by
  simp [toCome]

/-- Every edge leads back. -/
def backB (ops : Array Oper) : Bool := (List.range ops.size).all fun j => match ops[j]? with
  | some o => o.after.toList.all fun e => !Region.binds .any e || decide (e.on < j)
  | none => true
/-- What the table M says of i's forerunners leads along edges. -/
def closeB (M : List Nat) (ops : Array Oper) : Bool := (List.range ops.size).all fun j => match ops[j]? with
  | some o => (List.range j).all fun k => !(M.getD j 0).testBit k || o.after.toList.any fun e => Region.binds .any e && (e.on == k || (decide (k < e.on) && (M.getD e.on 0).testBit k))
  | none => true

def Closed (ops : Array Oper) (listed : Array Bool) : Prop := ∀ j o, ops[j]? = some o → listed.getD j false = true → ∀ e ∈ o.after, Region.binds .any e = true → listed.getD e.on false = true

theorem back_spec (h : backB ops = true) {j : Nat} {o : Oper} (ho : ops[j]? = some o) {e : Edge} (he : e ∈ o.after) (hb : Region.binds .any e = true) : e.on < j := by
  have hlt : j < ops.size := (Array.getElem?_eq_some_iff.1 ho).1
  have := List.all_eq_true.1 h j (List.mem_range.2 hlt)
  simp only [ho] at this
  have := List.all_eq_true.1 this e (by simpa using he)
  simpa [hb] using this

theorem fore_listed {M : List Nat} (hb : backB ops = true) (hc : closeB M ops = true) {listed : Array Bool} (hcl : Closed ops listed) : ∀ (j : Nat) (o : Oper), ops[j]? = some o → (∀ e ∈ o.after, Region.binds .any e = true → listed.getD e.on false = true) →
    ∀ k, k < j → (M.getD j 0).testBit k = true → listed.getD k false = true := by
  intro j
  induction j using Nat.strongRecOn with
  | _ j ih =>
    intro o ho hall k hk hbit
    have hlt : j < ops.size := (Array.getElem?_eq_some_iff.1 ho).1
    have h1 := List.all_eq_true.1 hc j (List.mem_range.2 hlt)
    simp only [ho] at h1
    have h2 := List.all_eq_true.1 h1 k (List.mem_range.2 hk)
    simp only [hbit, Bool.not_true, Bool.false_or, List.any_eq_true, Bool.and_eq_true, Bool.or_eq_true, beq_iff_eq, decide_eq_true_eq] at h2
    obtain ⟨e, he, hbe, h3⟩ := h2
    have he' : e ∈ o.after := by simpa using he
    have hlist := hall e he' hbe
    rcases h3 with rfl | ⟨hke, h3⟩
    · exact hlist
    · have hej := back_spec hb ho he' hbe
      obtain ⟨oe, hoe⟩ : ∃ oe, ops[e.on]? = some oe := ⟨_, Array.getElem?_eq_getElem (by omega)⟩
      exact ih e.on hej oe hoe (hcl e.on oe hoe hlist) k hke h3

theorem range_split {n j : Nat} {p : Nat → Bool} (hj : j < n) (hp : p j = true) : ∃ l m, (List.range n).filter p = l ++ j :: m ∧ (∀ i ∈ l, i < j ∧ p i = true) ∧ (List.range n).filter (fun i => p i && decide (i ≠ j)) = l ++ m := by
  obtain ⟨d, rfl⟩ : ∃ d, n = j + (d + 1) := ⟨n - j - 1, by omega⟩
  rw [List.range_add, List.filter_append, List.filter_append]
  have e1 : (List.range (d + 1)).map (j + ·) = j :: (List.range d).map (j + 1 + ·) := by
    rw [List.range_succ_eq_map, List.map_cons, List.map_map]
    simp only [Nat.add_zero, List.cons.injEq, true_and]
    apply List.map_congr_left
    intro a _
    simp only [Function.comp]
    omega
  rw [e1, List.filter_cons_of_pos hp, List.filter_cons_of_neg (by simp)]
  refine ⟨(List.range j).filter p, _, rfl, fun i hi => ?_, ?_⟩
  · rw [List.mem_filter, List.mem_range] at hi; exact hi
  · congr 1
    · apply List.filter_congr
      intro x hx
      have := List.mem_range.1 hx
      simp [show x ≠ j by omega]
    · apply List.filter_congr
      intro x hx
      obtain ⟨y, _, rfl⟩ := List.mem_map.1 hx
      simp [show j + 1 + y ≠ j by omega]

theorem any_of_text {M : List Nat} {Q : Exit → Act → World → Prop} (hb : backB ops = true) (hc : closeB M ops = true)
    (hsel : ∀ (i : Nat) (o : Oper) cs b, ops[i]? = some o → o.op ≠ .select cs b)
    (hC : ∀ k o a a', ops[k]? = some o → (∀ x ∈ o.op.operands, a'.eval x = a.eval x) → (C k a' ↔ C k a))
    (hsw : ∀ (i j : Nat) (oi oj : Oper), i < j → ops[i]? = some oi → ops[j]? = some oj → (M.getD j 0).testBit i = false → oi.apart ops oj = true ∧ Swaps P ops Inv C i j oi oj) :
    ∀ (fuel : Nat) (listed : Array Bool) (a : Act) (w : World), listed.size = ops.size → Closed ops listed → (toCome ops.size listed).length = fuel →
      TOrd P ops Inv C (toCome ops.size listed) (Q .normal) a w → wpAny P .any ops Q fuel listed a w := by
  intro fuel
  induction fuel with
  | zero =>
    intro listed a w hs hcl hf h
    have h0 := List.eq_nil_of_length_eq_zero hf
    rw [h0] at h
    refine ⟨?_, h.2⟩
    rcases hr : Region.ready .any ops listed with _ | ⟨x, r⟩
    · rfl
    · exfalso
      have hx : x ∈ Region.ready .any ops listed := by rw [hr]; exact List.mem_cons_self ..
      rw [mem_ready] at hx
      obtain ⟨h1, o, ho, _⟩ := hx
      have : x ∈ toCome ops.size listed := mem_toCome.2 ⟨(Array.getElem?_eq_some_iff.1 ho).1, h1⟩
      rw [h0] at this
      cases this
  | succ fuel ih =>
    intro listed a w hs hcl hf h
    have getf : ∀ j, j < ops.size → listed.getD j false = listed.getD j true := fun j hj => by
      simp [Array.getD, hs, hj]
    refine ⟨fun hr => ?_, fun j hj => ?_⟩
    · exfalso
      rcases hl : toCome ops.size listed with _ | ⟨x, r⟩
      · rw [hl] at hf; cases hf
      · have hx : x ∈ toCome ops.size listed := by rw [hl]; exact List.mem_cons_self ..
        obtain ⟨h1, h2⟩ := mem_toCome.1 hx
        have : x ∈ Region.ready .any ops listed := by
          rw [mem_ready]
          refine ⟨h2, _, Array.getElem?_eq_getElem h1, fun e he hbe => ?_⟩
          have hex := back_spec hb (Array.getElem?_eq_getElem h1) he hbe
          cases hle : listed.getD e.on false
          · exfalso
            have hle' : listed.getD e.on true = false := by rw [← getf _ (by omega)]; exact hle
            have hm : e.on ∈ toCome ops.size listed := mem_toCome.2 ⟨by omega, hle'⟩
            have hsorted : (toCome ops.size listed).Pairwise (· < ·) := List.Pairwise.sublist List.filter_sublist List.pairwise_lt_range
            rw [hl] at hm hsorted
            rcases List.mem_cons.1 hm with h' | h'
            · omega
            · have := (List.pairwise_cons.1 hsorted).1 _ h'
              omega
          · rfl
        rw [hr] at this
        cases this
    · have hj' := hj
      rw [mem_ready] at hj'
      obtain ⟨h1, o, ho, hall⟩ := hj'
      have hlt : j < ops.size := (Array.getElem?_eq_some_iff.1 ho).1
      obtain ⟨l, m, e1, e2, e3⟩ := range_split (p := fun i => !listed.getD i true) hlt (by simp only [h1]; rfl)
      have e1' : toCome ops.size listed = l ++ j :: m := e1
      rw [e1'] at h
      have hset : toCome ops.size (listed.setIfInBounds j true) = l ++ m := by
        rw [← e3]
        unfold toCome
        apply List.filter_congr
        intro x hx
        by_cases hxj : x = j
        · subst hxj
          simp [Array.getD, hs, hlt]
        · rw [getD_set_ne true (Ne.symm hxj)]
          simp [hxj]
      have h2 := TOrd.front (Inv := Inv) (C := C) ho hsel hC l (fun i hi => by
        obtain ⟨hij, hil⟩ := e2 i hi
        have hio : ops[i]? = some ops[i] := Array.getElem?_eq_getElem (by omega)
        refine ⟨_, hio, hsw i j _ o hij hio ho ?_⟩
        cases hbit : (M.getD j 0).testBit i
        · rfl
        · exfalso
          have := fore_listed hb hc hcl j o ho hall i hij hbit
          rw [getf i (by omega)] at this
          rw [this] at hil
          exact absurd hil (by simp)) h
      refine wpOp_weak (fun a' w' h' => ?_) h2.2.2
      refine ih _ a' w' (by simpa using hs) ?_ ?_ (by rw [hset]; exact h')
      · intro k ok hok hk e he hbe
        by_cases hkj : k = j
        · subst hkj
          obtain rfl : ok = o := by rw [ho] at hok; simpa using hok.symm
          exact getD_set_true (hall e he hbe)
        · rw [getD_set_ne false (Ne.symm hkj)] at hk
          exact getD_set_true (hcl k ok hok hk e he hbe)
      · rw [hset]
        rw [e1'] at hf
        simp only [List.length_append, List.length_cons] at hf ⊢
        omega
end
end Go.Proofs.YtimhofphmgehgaaDoor
