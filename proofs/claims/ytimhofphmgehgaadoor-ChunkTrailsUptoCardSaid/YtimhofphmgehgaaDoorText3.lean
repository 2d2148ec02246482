/- 'region_text': a region that draws its order is walked in the order of the text, where the kernel's test finds nothing unordered that could see one another. 'region_held': the same with loads beside calls and other writes, where the blocks S that are loaded stay as they were behind each of these. For every program. -/
import Derived.Test.YtimhofphmgehgaaDoorText2
set_option linter.unusedVariables false
set_option linter.unusedSimpArgs false
namespace Go.Proofs.YtimhofphmgehgaaDoor
open Go

section
variable {P : Program}

structure RegOk (P : Program) (mode : Bool) (need : List Nat) (l : List Oper) : Prop where
  sel : ∀ (i : Nat) (o : Oper) cs b, l.toArray[i]? = some o → o.op ≠ .select cs b
  back : backB l.toArray = true
  close : closeB (Region.before l.toArray).toList l.toArray = true
  pairs : ∀ (i j : Nat) (oi oj : Oper), i < j → l.toArray[i]? = some oi → l.toArray[j]? = some oj → ((Region.before l.toArray).toList.getD j 0).testBit i = false →
    swB P l.toArray mode oi oj = true ∧ (kA P oi || kA P oj || (if kD P oi then need.contains i else if kD P oj then need.contains j else true)) = true
  stay : ∀ (i j : Nat) (oi oj : Oper), l.toArray[i]? = some oi → l.toArray[j]? = some oj → i ≤ j → (need.contains i || (mode && kL oi)) = true → ∀ d, oj.dst = some d → d ∉ tmpOps oi
  held : mode = true → ∀ (i : Nat) (oi : Oper), l.toArray[i]? = some oi → kD P oi = true → need.contains i = true

theorem regB_ok {mode : Bool} {need : List Nat} {l : List Oper} (h : regB P mode need l = true) : RegOk P mode need l := by
  unfold regB at h
  simp only [Bool.and_eq_true, List.all_eq_true, List.mem_range] at h
  obtain ⟨⟨⟨⟨h1, h2⟩, h3⟩, h4⟩, h5⟩ := h
  refine ⟨Region.noSelect_spec h1, h2, h3, fun i j oi oj hij hi hj hb => ?_, fun i j oi oj hi hj hij hn d hd => ?_, fun hm i oi hi hk => ?_⟩
  · have hjl : j < l.length := by have := (Array.getElem?_eq_some_iff.1 hj).1; simpa using this
    have := h4 j hjl
    rw [hj] at this
    simp only [List.all_eq_true, List.mem_range] at this
    have := this i hij
    rw [hb, hi] at this
    simpa only [Bool.false_or, Bool.and_eq_true] using this
  · have hil : i < l.length := by have := (Array.getElem?_eq_some_iff.1 hi).1; simpa using this
    have hjl : j < l.length := by have := (Array.getElem?_eq_some_iff.1 hj).1; simpa using this
    have := h5 i hil
    rw [hi] at this
    simp only [Bool.and_eq_true] at this
    have := this.1
    rw [hn] at this
    simp only [Bool.not_true, Bool.false_or, List.all_eq_true, List.mem_range] at this
    have := this j hjl
    rw [hj] at this
    simp only [Option.bind_some, hd, Bool.or_eq_true, decide_eq_true_eq, Bool.not_eq_true'] at this
    rcases this with h | h
    · omega
    · simpa using h
  · have hil : i < l.length := by have := (Array.getElem?_eq_some_iff.1 hi).1; simpa using this
    have := h5 i hil
    rw [hi] at this
    simp only [Bool.and_eq_true] at this
    have := this.2
    rw [hm, hk] at this
    simpa using this

theorem condC_congr {mode : Bool} {S : Nat → Prop} {need : List Nat} {l : List Oper} : ∀ (k : Nat) (o : Oper) (a a' : Act), l.toArray[k]? = some o → (∀ x ∈ o.op.operands, a'.eval x = a.eval x) → (condC mode S need l k a' ↔ condC mode S need l k a) := by
  intro k o a a' hk hx
  have hk' : l[k]? = some o := by simpa using hk
  unfold condC
  rw [hk']
  dsimp only
  rw [condB_congr hx, inS_congr hx]

theorem text_core {mode : Bool} {need : List Nat} {l : List Oper} {S : Nat → Prop} {w0 : World} (hr : RegOk P mode need l) (hS : ∀ b, S b → ∃ c t f, w0.heap[b]? = some (.cells c t f))
    {id : Nat} {Q : Exit → Act → World → Prop} {a : Act} {w : World} (hm : P.follows .mixedOrders = true)
    (h : TOrd P l.toArray (fun w => ∀ b, S b → w.heap[b]? = w0.heap[b]?) (condC mode S need l) (List.range' 0 l.length) (Q .normal) a w.drew) : (Code.region id l.toArray true).wp P Q a w := by
  refine wp_region_any hm ?_
  have hrep : ∀ i, i < l.length → (Array.replicate l.toArray.size false).getD i true = false := fun i hi => by simp [Array.getD, hi]
  have hto : toCome l.toArray.size (Array.replicate l.toArray.size false) = List.range' 0 l.length := by
    unfold toCome
    rw [List.filter_eq_self.2 (fun i hi => by rw [hrep i (by simpa using hi)]; rfl), List.range_eq_range']
    simp
  refine any_of_text (M := (Region.before l.toArray).toList) hr.back hr.close hr.sel condC_congr ?_ _ _ _ _ (by simp) ?_ ?_ ?_ (Inv := fun w => ∀ b, S b → w.heap[b]? = w0.heap[b]?) (C := condC mode S need l)
  · intro i j oi oj hij hi hj hb
    obtain ⟨h1, h2⟩ := hr.pairs i j oi oj hij hi hj hb
    have hi' : l[i]? = some oi := by simpa using hi
    have hj' : l[j]? = some oj := by simpa using hj
    unfold swB at h1
    simp only [Bool.and_eq_true] at h1
    refine ⟨h1.1, ?_⟩
    have cond : ∀ {k : Nat} {o : Oper} {a : Act}, l[k]? = some o → condC mode S need l k a → need.contains k = true → condB o a.eval = true := fun hk hc hn => by
      unfold condC at hc
      rw [hk] at hc
      exact hc.1 (by simpa using hn)
    have stable : ∀ {k : Nat} {o : Oper}, mode = true → l[k]? = some o → kL o = true → ∀ (a : Act) w w' v, condC mode S need l k a → (∀ b, S b → w.heap[b]? = w0.heap[b]?) → (∀ b, S b → w'.heap[b]? = w0.heap[b]?) → (execOp a.eval o).run P w = .ok (.value v) w → (execOp a.eval o).run P w' = .ok (.value v) w' := by
      intro k o hmode hk hl a w w' v hc hw hw' hrun
      obtain ⟨t, x, ho⟩ := kL_spec hl
      refine kL_like ho (fun ad had => ?_) hrun
      unfold condC at hc
      rw [hk] at hc
      have := hc.2 hmode
      unfold inS at this
      rw [ho] at this
      simp only [had] at this
      obtain ⟨c, t, f, e⟩ := hS _ this
      exact like_of_row ((hw _ this).trans e) ((hw' _ this).trans e)
    by_cases a1 : kA P oi = true
    · exact .calm1 fun a _ => kA_calm a1 _
    by_cases a2 : kA P oj = true
    · exact .calm2 fun a _ => kA_calm a2 _
    by_cases d1 : kD P oi = true
    · have hn : need.contains i = true := by simpa [a1, a2, d1] using h2
      exact .calm1 fun a hc => kD_calm d1 _ (cond hi' hc hn)
    by_cases d2 : kD P oj = true
    · have hn : need.contains j = true := by simpa [a1, a2, d1, d2] using h2
      exact .calm2 fun a hc => kD_calm d2 _ (cond hj' hc hn)
    have h3 := h1.2
    simp only [a1, a2, d1, d2, Bool.false_or, Bool.or_eq_true, Bool.and_eq_true] at h3
    rcases h3 with (h3 | h3) | h3
    · exact .reads (fun a => kL_reads h3.1 _) (fun a => kL_reads h3.2 _)
    · obtain ⟨t, x, ho⟩ := kL_spec h3.1
      exact .lays (fun a => kL_reads h3.1 _) (fun a => kM_lays h3.2 _) (fun a w o v hrun => kL_like ho (fun ad _ => like_alloc ad w o) hrun)
    · rcases h3.2 with h4 | h4
      · exact .held1 (fun a => kL_reads h4 _) (stable h3.1 hi' h4)
      · exact .held2 (fun a => kL_reads h4 _) (stable h3.1 hj' h4)
  · intro j o _ hl
    exfalso
    have : (Array.replicate l.toArray.size false).getD j false = false := by
      simp only [Array.getD]
      split <;> simp
    rw [this] at hl
    cases hl
  · rw [hto]; simp
  · rw [hto]; exact h

theorem finB_get {need : List Nat} {l : List Oper} {a : Act} (h : finB need l a = true) {i : Nat} {o : Oper} (hi : l[i]? = some o) (hn : i ∈ need) : condB o a.eval = true := by
  have := List.all_eq_true.1 h i hn
  rwa [hi] at this

theorem wpList_ops {l : List Oper} {Q : Exit → Act → World → Prop} (c : List Oper) : ∀ (k : Nat), (∀ j, j < c.length → l.toArray[k + j]? = c[j]?) → ∀ {a : Act} {w : World}, wpList P l.toArray Q c a w → wpOps P l.toArray Q (List.range' k c.length) a w := by
  induction c with
  | nil => exact fun k _ a w h => h
  | cons o c ih =>
    intro k hk a w h
    rw [List.length_cons, List.range'_succ, wpOps_cons]
    have h0 : l.toArray[k]? = some o := hk 0 (by simp)
    unfold wpOp
    simp only [h0]
    unfold wpList at h
    have ih' : ∀ (a : Act) (w : World), wpList P l.toArray Q c a w → wpOps P l.toArray Q (List.range' (k + 1) c.length) a w := fun a w h => ih (k + 1) (fun j hj => by have := hk (j + 1) (by simp; omega); rw [Nat.add_assoc, Nat.add_comm 1 j]; simpa using this) h
    split at h
    · rename_i hw
      rw [if_pos hw]
      exact h.imp (Oper.wp_mono ih') id
    · rename_i hw
      rw [if_neg hw]
      exact ih' _ _ h

theorem ops_of_list {l : List Oper} {Q : Exit → Act → World → Prop} {k m : Nat} {a : Act} {w : World} (hkm : k + m ≤ l.length) (h : wpList P l.toArray Q ((l.drop k).take m) a w) : wpOps P l.toArray Q (List.range' k m) a w := by
  have hl : ((l.drop k).take m).length = m := by simp; omega
  have := wpList_ops ((l.drop k).take m) k (fun j hj => by
    rw [hl] at hj
    simp only [List.getElem?_toArray]
    rw [List.getElem?_take_of_lt hj, List.getElem?_drop]) h
  rwa [hl] at this

theorem stay_of {mode : Bool} {need : List Nat} {l : List Oper} {S : Nat → Prop} (hr : RegOk P mode need l) (hSF : mode = false ∨ True) (i j : Nat) (oi oj : Oper) (hi : l.toArray[i]? = some oi) (hj : l.toArray[j]? = some oj) (hij : i ≤ j) :
    (∀ a, condC mode S need l i a) ∨ ∀ d, oj.dst = some d → d ∉ tmpOps oi := by
  have hi' : l[i]? = some oi := by simpa using hi
  cases hn : (need.contains i || (mode && kL oi))
  · left
    intro a
    unfold condC
    rw [hi']
    simp only [Bool.or_eq_false_iff, Bool.and_eq_false_iff] at hn
    refine ⟨fun h => ?_, fun hm => ?_⟩
    · have : need.contains i = true := by simpa using h
      rw [hn.1] at this; cases this
    · rcases hn.2 with h | h
      · rw [hm] at h; cases h
      · unfold inS
        split
        · rename_i t x h2
          simp [kL, h2] at h
        · trivial
  · exact .inr (hr.stay i j oi oj hi hj hij hn)

/-- A REGION THAT DRAWS ITS ORDER, IN THE ORDER OF THE TEXT. 'need': the operations whose operands must be seen to be plain (most often none). -/
theorem region_text {id : Nat} {Q : Exit → Act → World → Prop} {a : Act} {w : World} {l : List Oper} (need : List Nat) (hm : P.follows .mixedOrders = true) (hB : regB P false need l = true)
    (h : ∀ K : Exit → Act → World → Prop, (∀ a' w', finB need l a' = true ∧ Q .normal a' w' → K .normal a' w') → wpList P l.toArray K l a w.drew) : (Code.region id l.toArray true).wp P Q a w := by
  have hr := regB_ok hB
  refine text_core (S := fun _ => False) (w0 := w) hr (fun _ h => h.elim) hm ?_
  have h1 := h (KX fun a w => finB need l a = true ∧ Q .normal a w) (fun a' w' h => h)
  have h2 := ops_of_list (l := l) (k := 0) (m := l.length) (by omega) (by simpa using h1)
  have h3 := UOrd.of_ops (Inv := fun w' => ∀ b, (fun _ : Nat => False) b → w'.heap[b]? = w.heap[b]?) (E := fun _ => false) l.length 0 (by simp) (.inl fun _ _ h => h.elim) (.inl fun _ _ h => h.elim) h2
  refine TOrd.of_U (F := fun a => finB need l a = true) condC_congr (fun k a _ hf => ?_) (fun i j oi oj hi hj hij => stay_of hr (.inr trivial) i j oi oj hi hj hij) (fun i o a w K hi _ _ _ h => op_mono hi h fun a' w' _ h => ⟨fun _ h => h.elim, h⟩) l.length 0 (by simp) (fun _ h => h.elim) h3
  unfold condC
  split
  · rename_i o ho
    exact ⟨fun hn => finB_get hf ho hn, fun h => by cases h⟩
  · trivial

theorem region_text0 {id : Nat} {Q : Exit → Act → World → Prop} {a : Act} {w : World} {l : List Oper} (hm : P.follows .mixedOrders = true) (hB : regB P false [] l = true)
    (h : ∀ K : Exit → Act → World → Prop, (∀ a' w', Q .normal a' w' → K .normal a' w') → wpList P l.toArray K l a w.drew) : (Code.region id l.toArray true).wp P Q a w :=
  region_text [] hm hB fun K hK => h K fun a' w' hq => hK a' w' ⟨rfl, hq⟩

/-- An effect: whatever is neither calm nor a load nor the laying of a block. -/
def kE (P : Program) (l : List Oper) (i : Nat) : Bool := match l[i]? with
  | some o => !(kA P o || kD P o || kL o || kM o)
  | none => false
/-- The effects stand at the ends of the parts. -/
def partsB (P : Program) (l : List Oper) : List Nat → Nat → Bool
  | [], k => decide (k ≤ l.length) && (List.range l.length).all fun i => decide (i < k) || !kE P l i
  | m :: ms, k => (List.range l.length).all (fun i => decide (i < k) || decide (k + m ≤ i + 1) || !kE P l i) && partsB P l ms (k + m)

/-- The text in parts, each up to an effect; behind each the blocks S are as they were. -/
def Segs (P : Program) (l : List Oper) (S : Nat → Prop) (w0 : World) (Q : Exit → Act → World → Prop) (need : List Nat) : List Nat → Nat → Act → World → Prop
  | [], k, a, w => ∀ K : Exit → Act → World → Prop, (∀ a' w', (finB need l a' = true ∧ finS S l a' ∧ Q .normal a' w') → K .normal a' w') → wpList P l.toArray K (l.drop k) a w
  | m :: ms, k, a, w => ∀ K : Exit → Act → World → Prop, (∀ a' w', ((∀ b, S b → w'.heap[b]? = w0.heap[b]?) ∧ Segs P l S w0 Q need ms (k + m) a' w') → K .normal a' w') → wpList P l.toArray K ((l.drop k).take m) a w

theorem partsB_le {l : List Oper} : ∀ {ms : List Nat} {k : Nat}, partsB P l ms k = true → k ≤ l.length
  | [], k, h => by simp only [partsB, Bool.and_eq_true, decide_eq_true_eq] at h; exact h.1
  | m :: ms, k, h => by simp only [partsB, Bool.and_eq_true] at h; have := partsB_le h.2; omega

theorem segs_U {l : List Oper} {S : Nat → Prop} {w0 : World} {Q : Exit → Act → World → Prop} {need : List Nat} : ∀ (ms : List Nat) (k : Nat) {a : Act} {w : World}, partsB P l ms k = true → Segs P l S w0 Q need ms k a w →
    UOrd P l.toArray (fun w => ∀ b, S b → w.heap[b]? = w0.heap[b]?) (kE P l) (List.range' k (l.length - k)) (fun a w => (finB need l a = true ∧ finS S l a) ∧ Q .normal a w) a w
  | [], k, a, w, hp, h => by
    have hk := partsB_le hp
    simp only [partsB, Bool.and_eq_true, List.all_eq_true, List.mem_range, Bool.or_eq_true, decide_eq_true_eq, Bool.not_eq_true'] at hp
    have h1 := h (KX fun a w => (finB need l a = true ∧ finS S l a) ∧ Q .normal a w) (fun a' w' h => ⟨⟨h.1, h.2.1⟩, h.2.2⟩)
    have h2 := ops_of_list (l := l) (k := k) (m := l.length - k) (by omega) (by rw [List.take_of_length_le (by simp)]; exact h1)
    have hE : ∀ i, k ≤ i → kE P l i = false := fun i hi => by
      rcases Nat.lt_or_ge i l.length with h | h
      · rcases hp.2 i h with h' | h'
        · omega
        · exact h'
      · unfold kE; rw [List.getElem?_eq_none h]
    clear h1 h
    have gen : ∀ (m k : Nat) (a : Act) (w : World) (X : Act → World → Prop), k + m ≤ l.length → (∀ i, k ≤ i → kE P l i = false) → wpOps P l.toArray (KX X) (List.range' k m) a w → UOrd P l.toArray (fun w => ∀ b, S b → w.heap[b]? = w0.heap[b]?) (kE P l) (List.range' k m) X a w := by
      intro m
      induction m with
      | zero => intro k a w X _ _ h; exact h
      | succ m ih =>
        intro k a w X hs hE h
        have hks : k < l.toArray.size := by simp; omega
        rw [List.range'_succ] at h ⊢
        rw [wpOps_cons] at h
        have h1 := wpOp_strict (Q := KX X) (fun _ _ _ h => h) (fun _ _ h => h) h
        have hk : l.toArray[k]? = some l.toArray[k] := Array.getElem?_eq_getElem hks
        exact op_mono hk h1 fun a' w' _ h2 => And.intro (fun he => by rw [hE k (Nat.le_refl _)] at he; cases he) (ih (k + 1) a' w' X (by omega) (fun i hi => hE i (by omega)) h2)
    exact gen _ _ _ _ _ (by omega) hE h2
  | m :: ms, k, a, w, hp, h => by
    have hp' := hp
    simp only [partsB, Bool.and_eq_true, List.all_eq_true, List.mem_range, Bool.or_eq_true, decide_eq_true_eq, Bool.not_eq_true'] at hp
    have hkm := partsB_le hp.2
    have h1 := h (KX fun a' w' => (∀ b, S b → w'.heap[b]? = w0.heap[b]?) ∧ Segs P l S w0 Q need ms (k + m) a' w') (fun a' w' h => h)
    have h2 := ops_of_list (l := l) (k := k) (m := m) (by omega) h1
    have h3 := UOrd.of_ops (Inv := fun w => ∀ b, S b → w.heap[b]? = w0.heap[b]?) (E := kE P l) m k (by simp; omega) (.inr fun a w h => h.1) (.inr fun i hi hm => by
      rcases hp.1 i (by omega) with (h' | h') | h'
      · omega
      · omega
      · exact h') h2
    have h4 := UOrd.mono (fun a' w' h => segs_U ms (k + m) hp.2 h.2) (fun i hi => by
      have := List.mem_range'_1.1 hi
      exact ⟨_, Array.getElem?_eq_getElem (by simp; omega)⟩) h3
    have h5 := UOrd.append (fun i hi => by
      have := List.mem_range'_1.1 hi
      exact ⟨_, Array.getElem?_eq_getElem (by simp; omega)⟩) h4
    rw [show l.length - k = m + (l.length - (k + m)) by omega, ← List.range'_append_1]
    exact h5

/-- .. WITH LOADS BESIDE CALLS AND OTHER WRITES: 'S': the blocks that are loaded; 'ms': how many operations each part has. -/
theorem region_held (S : Nat → Prop) (need ms : List Nat) {id : Nat} {Q : Exit → Act → World → Prop} {a : Act} {w : World} {l : List Oper} (hm : P.follows .mixedOrders = true) (hB : (regB P true need l && partsB P l ms 0) = true)
    (hS : ∀ b, S b → ∃ c t f, w.heap[b]? = some (.cells c t f)) (h : Segs P l S w Q need ms 0 a w.drew) : (Code.region id l.toArray true).wp P Q a w := by
  rw [Bool.and_eq_true] at hB
  have hr := regB_ok hB.1
  refine text_core (S := S) (w0 := w) hr hS hm ?_
  have h3 := segs_U ms 0 hB.2 h
  rw [Nat.sub_zero] at h3
  refine TOrd.of_U (F := fun a => finB need l a = true ∧ finS S l a) condC_congr (fun k a _ hf => ?_) (fun i j oi oj hi hj hij => stay_of hr (.inr trivial) i j oi oj hi hj hij) (fun i o a w1 K hi hE hc hinv h => ?_) l.length 0 (by simp) (fun _ _ => rfl) h3
  · unfold condC
    split
    · rename_i o ho
      exact ⟨fun hn => finB_get hf.1 ho hn, fun _ => finS_get hf.2 k o ho⟩
    · trivial
  · have hi' : l[i]? = some o := by simpa using hi
    unfold kE at hE
    rw [hi'] at hE
    simp only [Bool.not_eq_false', Bool.or_eq_true] at hE
    rcases hE with ((hE | hE) | hE) | hE
    · obtain ⟨v, hy, h1⟩ := calm_yields hi (kA_calm hE _) h
      exact hy.wpOp hi ⟨hinv, h1⟩
    · have hn := hr.held rfl i o hi hE
      unfold condC at hc
      rw [hi'] at hc
      obtain ⟨v, hy, h1⟩ := calm_yields hi (kD_calm hE _ (hc.1 (by simpa using hn))) h
      exact hy.wpOp hi ⟨hinv, h1⟩
    · obtain ⟨v, hv, h1⟩ := read_out hi (kL_reads hE _) h
      exact read_in hi hv ⟨hinv, h1⟩
    · rw [wpOp_some hi] at h ⊢
      split
      · rename_i hw
        rw [if_pos hw] at h
        unfold Oper.wp at h ⊢
        rcases kM_lays (P := P) hE a.eval with ⟨f, ob, hrun⟩ | hh
        · rw [hrun w1] at h ⊢
          simp only [Oper.upon] at h ⊢
          refine ⟨fun b hb => ?_, h⟩
          obtain ⟨c, t, fz, e⟩ := hS b hb
          have e1 := (hinv b hb).trans e
          rw [heap_alloc_old w1 ob (lt_of_block e1), hinv b hb]
        · obtain ⟨x, w', hr⟩ := hh w1
          rw [hr] at h
          exact (upon_halt h).elim
      · rename_i hw
        rw [if_neg hw] at h
        exact ⟨hinv, h⟩
end
end Go.Proofs.YtimhofphmgehgaaDoor
