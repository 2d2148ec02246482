/- A region that draws its order may be walked in the order of the text: for every program, where a test that the kernel runs finds no two unordered operations that could see one another. -/
import Derived.Deep.RegionWith
import Derived.Deep.Quiet
import Derived.WalkKit
import Derived.KernelRfl
set_option linter.unusedVariables false
set_option linter.unusedSimpArgs false
namespace Go.Proofs.YtimhofphmgehgaaDoor
open Go

section
variable {P : Program} {ops : Array Oper}

def QF : Exit → Act → World → Prop := fun _ _ _ => False
def Upd (o : Oper) (a a' : Act) : Prop := ∃ v ds, a' = ({ a with defers := ds } : Act).put o.dst v
theorem letsOut_QF : ¬ LetsOut QF := fun ⟨_, _, h⟩ => h

theorem upon_mono {o : Oper} {a : Act} {K K' : Act → World → Prop} {r : Result Next} (h : o.upon P a K QF r) (hk : ∀ a' w', Upd o a a' → K a' w' → K' a' w') : o.upon P a K' QF r := by
  cases r with
  | ok n w' =>
    cases n <;> simp only [Oper.upon] at h ⊢
    case value v => exact hk _ _ ⟨v, a.defers, rfl⟩ h
    case skip => exact hk _ _ ⟨undef, a.defers, rfl⟩ h
    case defer d => exact hk _ _ ⟨undef, d :: a.defers, rfl⟩ h
    case enter f args =>
      refine Calls.mono h fun e w'' he => ?_
      cases e with
      | returned v => exact hk _ _ ⟨v, a.defers, rfl⟩ he
      | panicked c => exact he
      | outgrown => exact he
    case row row args => exact Rows.mono h fun v w'' he => hk _ _ ⟨v, a.defers, rfl⟩ he
  | halt x w' => cases x <;> simp only [Oper.upon] at h ⊢ <;> exact h

theorem upon_out {o : Oper} {a : Act} {K : Act → World → Prop} {r : Result Next} (h : o.upon P a K QF r) : ∃ a' w', Upd o a a' ∧ K a' w' := by
  cases r with
  | ok n w' =>
    cases n <;> simp only [Oper.upon] at h
    case value v => exact ⟨_, _, ⟨v, a.defers, rfl⟩, h⟩
    case skip => exact ⟨_, _, ⟨undef, a.defers, rfl⟩, h⟩
    case defer d => exact ⟨_, _, ⟨undef, d :: a.defers, rfl⟩, h⟩
    case enter f args =>
      obtain ⟨e, w'', fr, hR, _⟩ := h []
      cases e with
      | returned v => exact ⟨_, _, ⟨v, a.defers, rfl⟩, hR⟩
      | panicked c => exact (hR : False).elim
      | outgrown => exact (letsOut_QF hR).elim
    case row row args =>
      obtain ⟨v, w'', hR, _⟩ := h default []
      exact ⟨_, _, ⟨v, a.defers, rfl⟩, hR⟩
  | halt x w' => cases x <;> simp only [Oper.upon] at h <;> exact (h : False).elim

theorem upon_put {o : Oper} {a : Act} {d : Option Tmp} {v : Value} {K : Act → World → Prop} {r : Result Next} (hne : ∀ e, d = some e → o.dst ≠ some e) :
    o.upon P (a.put d v) K QF r ↔ o.upon P a (fun a' w' => K (a'.put d v) w') QF r := by
  cases r with
  | ok n w' =>
    cases n <;> simp only [Oper.upon]
    case value u => rw [Act.put_comm a v u hne]
    case skip => rw [Act.put_comm a v undef hne]
    case defer dd => rw [Act.put_defers, Act.put_comm _ v undef hne]
    case enter f args =>
      constructor
      · refine fun h => Calls.mono h fun e w'' he => ?_
        cases e with
        | returned u => exact (congrArg (fun x => K x w'') (Act.put_comm a v u hne)).mp he
        | panicked c => exact he
        | outgrown => exact he
      · refine fun h => Calls.mono h fun e w'' he => ?_
        cases e with
        | returned u => exact (congrArg (fun x => K x w'') (Act.put_comm a v u hne)).mpr he
        | panicked c => exact he
        | outgrown => exact he
    case row row args =>
      constructor
      · exact fun h => Rows.mono h fun u w'' he => by rw [Act.put_comm a v u hne] at he; exact he
      · exact fun h => Rows.mono h fun u w'' he => by rw [Act.put_comm a v u hne]; exact he
  | halt x w' => cases x <;> simp only [Oper.upon, QF]

theorem wpOp_some {i : Nat} {o : Oper} {K : Act → World → Prop} {a : Act} {w : World} (hi : ops[i]? = some o) :
    wpOp P ops QF i K a w ↔ (if Region.wanted o (yielded ops a.tmps) then o.wp P a w K QF else K (a.put o.dst undef) w) := by
  unfold wpOp
  simp only [hi]
  split
  · exact ⟨fun h => h.resolve_right (fun h' => letsOut_QF h'.2), Or.inl⟩
  · exact Iff.rfl

theorem op_mono {i : Nat} {o : Oper} {K K' : Act → World → Prop} {a : Act} {w : World} (hi : ops[i]? = some o) (h : wpOp P ops QF i K a w) (hk : ∀ a' w', Upd o a a' → K a' w' → K' a' w') : wpOp P ops QF i K' a w := by
  rw [wpOp_some hi] at *
  split
  · rename_i hw; rw [if_pos hw] at h; exact upon_mono h hk
  · rename_i hw; rw [if_neg hw] at h; exact hk _ _ ⟨undef, a.defers, rfl⟩ h
theorem op_out {i : Nat} {o : Oper} {K : Act → World → Prop} {a : Act} {w : World} (hi : ops[i]? = some o) (h : wpOp P ops QF i K a w) : ∃ a' w', Upd o a a' ∧ K a' w' := by
  rw [wpOp_some hi] at h
  split at h
  · exact upon_out h
  · exact ⟨_, _, ⟨undef, a.defers, rfl⟩, h⟩
theorem op_put {j : Nat} {oi oj : Oper} {v : Value} {K : Act → World → Prop} {a : Act} {w : World} (hj : ops[j]? = some oj) (hap : oi.apart ops oj = true) (hsj : ∀ cs b, oj.op ≠ .select cs b) :
    wpOp P ops QF j K (a.put oi.dst v) w ↔ wpOp P ops QF j (fun a' w' => K (a'.put oi.dst v) w') a w := by
  obtain ⟨h1, h2, h3⟩ := Oper.apart_spec hap
  rw [wpOp_some hj, wpOp_some hj, wanted_put oj a oi.dst v h1]
  split
  · unfold Oper.wp
    rw [execOp_put oj hsj a oi.dst v h1]
    exact upon_put h2
  · rw [Act.put_comm a v undef h2]

/-- An operation that looks at no tape and at no memory. -/
def Calm (P : Program) {α : Type} (m : Sem α) : Prop := (∃ v, ∀ w, m.run P w = .ok v w) ∨ (∀ w, ∃ h w', m.run P w = .halt h w')
def CalmV (P : Program) (m : Sem Next) : Prop := (∃ v, ∀ w, m.run P w = .ok (.value v) w) ∨ (∀ w, ∃ h w', m.run P w = .halt h w')
/-- An operation that leaves the world alone. -/
def Reads (P : Program) (m : Sem Next) : Prop := ∀ w, (∃ v, m.run P w = .ok (.value v) w) ∨ (∃ h w', m.run P w = .halt h w')
/-- An operation that lays one new block. -/
def Lays (P : Program) (m : Sem Next) : Prop := (∃ (f : Nat → Value) (o : Obj), ∀ w, m.run P w = .ok (.value (f w.heap.size)) (w.alloc o)) ∨ (∀ w, ∃ h w', m.run P w = .halt h w')

theorem upon_halt {o : Oper} {a : Act} {K : Act → World → Prop} {h : Halt} {w' : World} : ¬ o.upon P a K QF (.halt h w') := by
  cases h <;> simp only [Oper.upon, QF] <;> exact fun h => h

theorem calm_yields {i : Nat} {o : Oper} {K : Act → World → Prop} {a : Act} {w : World} (hi : ops[i]? = some o) (hc : CalmV P (execOp a.eval o)) (h : wpOp P ops QF i K a w) : ∃ v, Yields P ops o v a ∧ K (a.put o.dst v) w := by
  rw [wpOp_some hi] at h
  split at h
  · rename_i hw
    rcases hc with ⟨v, hv⟩ | hh
    · refine ⟨v, .inl ⟨hw, hv⟩, ?_⟩
      simpa only [Oper.wp, hv w, Oper.upon] using h
    · obtain ⟨x, w', hr⟩ := hh w
      unfold Oper.wp at h
      rw [hr] at h
      exact (upon_halt h).elim
  · rename_i hw
    exact ⟨undef, .inr ⟨by simpa using hw, rfl⟩, h⟩
theorem yields_app {i : Nat} {o : Oper} {v : Value} {K : Act → World → Prop} {a : Act} {w : World} (hi : ops[i]? = some o) (hy : Yields P ops o v a) (h : wpOp P ops QF i K a w) : K (a.put o.dst v) w := by
  rw [wpOp_some hi] at h
  rcases hy with ⟨hw, hv⟩ | ⟨hw, rfl⟩
  · rw [if_pos hw] at h; simpa only [Oper.wp, hv w, Oper.upon] using h
  · rw [if_neg (by simp [hw])] at h; exact h

theorem upd_eval {oi oj : Oper} {a a' : Act} (hu : Upd oj a a') (hap : oi.apart ops oj = true) (hsi : ∀ cs b, oi.op ≠ .select cs b) :
    execOp a'.eval oi = execOp a.eval oi ∧ Region.wanted oi (yielded ops a'.tmps) = Region.wanted oi (yielded ops a.tmps) ∧ ∀ x ∈ oi.op.operands, a'.eval x = a.eval x := by
  obtain ⟨h1, h2, h3⟩ := Oper.apart_spec hap
  obtain ⟨v, ds, rfl⟩ := hu
  refine ⟨(execOp_put oi hsi { a with defers := ds } oj.dst v h3).trans rfl, (wanted_put oi { a with defers := ds } oj.dst v h3).trans rfl, fun x hx => ?_⟩
  refine (Act.eval_put fun d hd hxd => h3 d hd ?_).trans rfl
  subst hxd
  exact List.mem_append_left _ (List.mem_filterMap.2 ⟨.tmp d, by simpa using hx, rfl⟩)

theorem apart_comm {x y : Oper} (h : x.apart ops y = true) : y.apart ops x = true := by
  obtain ⟨h1, h2, h3⟩ := Oper.apart_spec h
  unfold Oper.apart
  rw [Bool.and_eq_true]
  constructor
  · cases hy : y.dst with
    | none => rfl
    | some d =>
      have a1 := h3 d hy
      have a2 : x.dst ≠ some d := fun e => h2 d e hy
      simp [a1, a2]
  · cases hx : x.dst with
    | none => rfl
    | some d => simpa using h1 d hx

/-- What a reading operation yields in the world w. -/
def ReadAt (P : Program) (ops : Array Oper) (o : Oper) (v : Value) (a : Act) (w : World) : Prop :=
  (Region.wanted o (yielded ops a.tmps) = true ∧ (execOp a.eval o).run P w = .ok (.value v) w) ∨ (Region.wanted o (yielded ops a.tmps) = false ∧ v = undef)
theorem read_out {i : Nat} {o : Oper} {K : Act → World → Prop} {a : Act} {w : World} (hi : ops[i]? = some o) (hc : Reads P (execOp a.eval o)) (h : wpOp P ops QF i K a w) : ∃ v, ReadAt P ops o v a w ∧ K (a.put o.dst v) w := by
  rw [wpOp_some hi] at h
  split at h
  · rename_i hw
    rcases hc w with ⟨v, hv⟩ | ⟨x, w', hr⟩
    · refine ⟨v, .inl ⟨hw, hv⟩, ?_⟩
      simpa only [Oper.wp, hv, Oper.upon] using h
    · unfold Oper.wp at h
      rw [hr] at h
      exact (upon_halt h).elim
  · rename_i hw
    exact ⟨undef, .inr ⟨by simpa using hw, rfl⟩, h⟩
theorem read_in {i : Nat} {o : Oper} {v : Value} {K : Act → World → Prop} {a : Act} {w : World} (hi : ops[i]? = some o) (hr : ReadAt P ops o v a w) (h : K (a.put o.dst v) w) : wpOp P ops QF i K a w := by
  rw [wpOp_some hi]
  rcases hr with ⟨hw, hv⟩ | ⟨hw, rfl⟩
  · rw [if_pos hw]; simpa only [Oper.wp, hv, Oper.upon] using h
  · rw [if_neg (by simp [hw])]; exact h
theorem read_one {o : Oper} {v u : Value} {a : Act} {w : World} (h : ReadAt P ops o v a w) (k : ReadAt P ops o u a w) : v = u := by
  rcases h with ⟨h1, h2⟩ | ⟨h1, rfl⟩ <;> rcases k with ⟨k1, k2⟩ | ⟨k1, rfl⟩
  · rw [h2] at k2; simpa using k2
  · rw [h1] at k1; cases k1
  · rw [h1] at k1; cases k1
  · rfl
theorem read_upd {oi oj : Oper} {v : Value} {a a' : Act} {w : World} (hu : Upd oj a a') (hap : oi.apart ops oj = true) (hsi : ∀ cs b, oi.op ≠ .select cs b) : ReadAt P ops oi v a' w ↔ ReadAt P ops oi v a w := by
  obtain ⟨e1, e2, _⟩ := upd_eval hu hap hsi
  unfold ReadAt
  rw [e1, e2]

/-- The text's order, with what holds of every world on the way (Inv) and ahead of each operation (C). -/
def TOrd (P : Program) (ops : Array Oper) (Inv : World → Prop) (C : Nat → Act → Prop) : List Nat → (Act → World → Prop) → Act → World → Prop
  | [], K, a, w => Inv w ∧ K a w
  | i :: l, K, a, w => Inv w ∧ C i a ∧ wpOp P ops QF i (TOrd P ops Inv C l K) a w

variable {Inv : World → Prop} {C : Nat → Act → Prop}
theorem TOrd.inv {l : List Nat} {K : Act → World → Prop} {a : Act} {w : World} (h : TOrd P ops Inv C l K a w) : Inv w := by
  cases l <;> exact h.1

/-- What lets two operations change places. -/
inductive Swaps (P : Program) (ops : Array Oper) (Inv : World → Prop) (C : Nat → Act → Prop) (i j : Nat) (oi oj : Oper) : Prop
  | calm1 (h : ∀ a, C i a → CalmV P (execOp a.eval oi))
  | calm2 (h : ∀ a, C j a → CalmV P (execOp a.eval oj))
  | reads (h : ∀ a : Act, Reads P (execOp a.eval oi)) (k : ∀ a : Act, Reads P (execOp a.eval oj))
  | lays (h : ∀ a : Act, Reads P (execOp a.eval oi)) (k : ∀ a : Act, Lays P (execOp a.eval oj))
      (s : ∀ (a : Act) w o v, (execOp a.eval oi).run P w = .ok (.value v) w → (execOp a.eval oi).run P (w.alloc o) = .ok (.value v) (w.alloc o))
  | held1 (h : ∀ a : Act, Reads P (execOp a.eval oi)) (s : ∀ a w w' v, C i a → Inv w → Inv w' → (execOp a.eval oi).run P w = .ok (.value v) w → (execOp a.eval oi).run P w' = .ok (.value v) w')
  | held2 (h : ∀ a : Act, Reads P (execOp a.eval oj)) (s : ∀ a w w' v, C j a → Inv w → Inv w' → (execOp a.eval oj).run P w = .ok (.value v) w → (execOp a.eval oj).run P w' = .ok (.value v) w')

theorem TOrd.swap {i j : Nat} {oi oj : Oper} {l : List Nat} {K : Act → World → Prop} {a : Act} {w : World} (hi : ops[i]? = some oi) (hj : ops[j]? = some oj) (hap : oi.apart ops oj = true)
    (hsi : ∀ cs b, oi.op ≠ .select cs b) (hsj : ∀ cs b, oj.op ≠ .select cs b)
    (hC : ∀ k o a a', ops[k]? = some o → (∀ x ∈ o.op.operands, a'.eval x = a.eval x) → (C k a' ↔ C k a))
    (hs : Swaps P ops Inv C i j oi oj) (h : TOrd P ops Inv C (i :: j :: l) K a w) : TOrd P ops Inv C (j :: i :: l) K a w := by
  have hpa := apart_comm hap
  obtain ⟨hI, hCi, h⟩ := h
  have hXI : ∀ a' w', TOrd P ops Inv C l K a' w' → Inv w' := fun _ _ h => h.inv
  have hCj : C j a := by
    obtain ⟨a', w', hu, h'⟩ := op_out hi h
    exact (hC j oj a a' hj (upd_eval hu hpa hsj).2.2).1 h'.2.1
  refine ⟨hI, hCj, ?_⟩
  cases hs with
  | calm1 hc =>
    obtain ⟨v, hy, h1⟩ := calm_yields hi (hc a hCi) h
    have h2 := (op_put hj hap hsj).1 h1.2.2
    refine op_mono hj h2 fun a' w' hu hX => ?_
    obtain ⟨e1, e2, e3⟩ := upd_eval hu hap hsi
    exact ⟨hXI _ _ hX, (hC i oi a a' hi e3).2 hCi, (hy.of_same e1 e2).wpOp hi hX⟩
  | calm2 hc =>
    obtain ⟨a1, w1, hu1, h1⟩ := op_out hi h
    obtain ⟨v, hy1, _⟩ := calm_yields hj (hc a1 h1.2.1) h1.2.2
    obtain ⟨e1, e2, e3⟩ := upd_eval hu1 hpa hsj
    have hy : Yields P ops oj v a := hy1.of_same e1.symm e2.symm
    have h2 : wpOp P ops QF i (fun a' w' => TOrd P ops Inv C l K (a'.put oj.dst v) w') a w := op_mono hi h fun a' w' hu hX => by
      obtain ⟨f1, f2, _⟩ := upd_eval hu hpa hsj
      exact yields_app hj (hy.of_same f1 f2) hX.2.2
    have h3 := (op_put hi hpa hsi).2 h2
    refine hy.wpOp hj ⟨hI, ?_, h3⟩
    exact (hC i oi a _ hi (upd_eval ⟨v, a.defers, rfl⟩ hap hsi).2.2).2 hCi
  | reads hr hr' =>
    obtain ⟨v, hv, h1⟩ := read_out hi (hr a) h
    obtain ⟨u, hu, h2⟩ := read_out hj (hr' _) h1.2.2
    have hu' : ReadAt P ops oj u a w := (read_upd ⟨v, a.defers, rfl⟩ hpa hsj).1 hu
    refine read_in hj hu' ⟨hI, (hC i oi a _ hi (upd_eval ⟨u, a.defers, rfl⟩ hap hsi).2.2).2 hCi, ?_⟩
    refine read_in hi ((read_upd ⟨u, a.defers, rfl⟩ hap hsi).2 hv) ?_
    rw [Act.put_comm a u v (Oper.apart_spec hpa).2.1]
    exact h2
  | lays hr hl hst =>
    obtain ⟨v, hv, h1⟩ := read_out hi (hr a) h
    have h2 := (op_put hj hap hsj).1 h1.2.2
    have key : ∀ a' w', Upd oj a a' → ReadAt P ops oi v a' w' → TOrd P ops Inv C l K (a'.put oi.dst v) w' → Inv w' ∧ C i a' ∧ wpOp P ops QF i (TOrd P ops Inv C l K) a' w' := fun a' w' hu hre hX =>
      ⟨hXI _ _ hX, (hC i oi a a' hi (upd_eval hu hap hsi).2.2).2 hCi, read_in hi hre hX⟩
    rw [wpOp_some hj] at h2 ⊢
    split
    · rename_i hw
      rw [if_pos hw] at h2
      unfold Oper.wp at h2 ⊢
      rcases hl a with ⟨f, o, hrun⟩ | hh
      · rw [hrun w] at h2 ⊢
        simp only [Oper.upon] at h2 ⊢
        refine key _ _ ⟨_, a.defers, rfl⟩ ((read_upd ⟨_, a.defers, rfl⟩ hap hsi).2 ?_) h2
        rcases hv with ⟨v1, v2⟩ | hv
        · exact .inl ⟨v1, hst a w o v v2⟩
        · exact .inr hv
      · obtain ⟨x, w', hr⟩ := hh w
        rw [hr] at h2
        exact (upon_halt h2).elim
    · rename_i hw
      rw [if_neg hw] at h2
      exact key _ _ ⟨undef, a.defers, rfl⟩ ((read_upd ⟨_, a.defers, rfl⟩ hap hsi).2 hv) h2
  | held1 hr hst =>
    obtain ⟨v, hv, h1⟩ := read_out hi (hr a) h
    have h2 := (op_put hj hap hsj).1 h1.2.2
    refine op_mono hj h2 fun a' w' hu hX => ⟨hXI _ _ hX, (hC i oi a a' hi (upd_eval hu hap hsi).2.2).2 hCi, read_in hi ((read_upd hu hap hsi).2 ?_) hX⟩
    rcases hv with ⟨v1, v2⟩ | hv
    · exact .inl ⟨v1, hst a w w' v hCi hI (hXI _ _ hX) v2⟩
    · exact .inr hv
  | held2 hr hst =>
    have back : ∀ {u : Value} {w' : World}, Inv w' → ReadAt P ops oj u a w' → ReadAt P ops oj u a w := fun hI' hu => by
      rcases hu with ⟨v1, v2⟩ | hu
      · exact .inl ⟨v1, hst a _ w _ hCj hI' hI v2⟩
      · exact .inr hu
    obtain ⟨a1, w1, hu1, h1⟩ := op_out hi h
    obtain ⟨v, hv1, _⟩ := read_out hj (hr a1) h1.2.2
    have hv : ReadAt P ops oj v a w := back h1.1 ((read_upd hu1 hpa hsj).1 hv1)
    have h2 : wpOp P ops QF i (fun a' w' => TOrd P ops Inv C l K (a'.put oj.dst v) w') a w := op_mono hi h fun a' w' hu hX => by
      obtain ⟨u, hu2, hX2⟩ := read_out hj (hr a') hX.2.2
      have : u = v := read_one (back hX.1 ((read_upd hu hpa hsj).1 hu2)) hv
      subst this
      exact hX2
    have h3 := (op_put hi hpa hsi).2 h2
    exact read_in hj hv ⟨hI, (hC i oi a _ hi (upd_eval ⟨v, a.defers, rfl⟩ hap hsi).2.2).2 hCi, h3⟩
end
end Go.Proofs.YtimhofphmgehgaaDoor
