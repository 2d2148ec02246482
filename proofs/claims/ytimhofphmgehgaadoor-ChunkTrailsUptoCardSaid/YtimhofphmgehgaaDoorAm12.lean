/- THE ABSTRACT MACHINE: code, and how a function is entered and left. For every program. -/
import Derived.Test.YtimhofphmgehgaaDoorAmr2
import Derived.Scope
set_option linter.unusedVariables false
set_option linter.unusedSimpArgs false
namespace Go.Proofs.YtimhofphmgehgaaDoor
open Go Go.RowKit

/-- What is asked of a region: the calls that must leave the boxes as they are. -/
def ndOf (ND : List (Nat × List Nat)) (id : Nat) : List Nat := match ND with
  | [] => []
  | (i, l) :: r => if i = id then l else ndOf r id
def regsB (B : List Tmp) (ND : List (Nat × List Nat)) : Code → Bool
  | .region id ops draw => !draw || regA B (ndOf ND id) ops
  | .seq a b => regsB B ND a && regsB B ND b
  | .cond _ a b => regsB B ND a && regsB B ND b
  | .block _ a => regsB B ND a
  | .loop a => regsB B ND a
  | .scope a => regsB B ND a
  | _ => true

/-- A nil slice may be seen as a slice of no rows. -/
def nil1 (x y : AV) : Prop := y = x ∨ (x = .nil ∧ ∃ b k, y = .sl b k [])
def nilL : List AV → List AV → Prop
  | [], [] => True
  | x :: l, y :: m => nil1 x y ∧ nilL l m
  | _, _ => False
def nilH : Hp → Hp → Prop
  | [], [] => True
  | x :: l, y :: m => nilL x y ∧ nilH l m
  | _, _ => False

def VCond (x : AV) (p q : Prop) : Prop := match x with
  | .bool b => (b = true → p) ∧ (b = false → q)
  | _ => False
@[congr] theorem VCond_congr {x y : AV} {p q : Prop} (h : x = y) : VCond x p q = VCond y p q := by rw [h]
theorem VCond_true (p q : Prop) : VCond (.bool true) p q = p := by simp [VCond]
theorem VCond_false (p q : Prop) : VCond (.bool false) p q = q := by simp [VCond]
theorem VCond_split {b : Bool} {p q : Prop} (h1 : b = true → p) (h2 : b = false → q) : VCond (.bool b) p q := ⟨h1, h2⟩
/-- A round of a loop, and how it goes on. -/
def VLoop (vcb : (Exit → List AV → Hp → Prop) → List AV → Hp → Prop) (K : Exit → List AV → Hp → Prop) (fr : List AV) (H : Hp) : Prop :=
  ∃ (I : List AV → Hp → Prop) (μ : List AV → Hp → Nat) (fr1 : List AV) (H1 : Hp), nilL fr fr1 ∧ nilH H H1 ∧ I fr1 H1 ∧ ∀ fr H, I fr H → vcb (fun e fr' H' => match e with
    | .normal => I fr' H' ∧ μ fr' H' < μ fr H
    | e => K e fr' H') fr H
@[congr] theorem VLoop_congr {vcb : (Exit → List AV → Hp → Prop) → List AV → Hp → Prop} {K : Exit → List AV → Hp → Prop} {fr fr' : List AV} {H H' : Hp} (h1 : fr = fr') (h2 : H = H') : VLoop vcb K fr H = VLoop vcb K fr' H' := by rw [h1, h2]

/-- CODE. -/
def vc (P : Program) (E : Env) (B : List Tmp) (ND : List (Nat × List Nat)) : Code → (Exit → List AV → Hp → Prop) → List AV → Hp → Prop
  | .skip, K, fr, H => K .normal fr H
  | .region id ops draw, K, fr, H => vcl P E B ops (K .normal) (ndOf ND id) ops.toList fr H
  | .seq a b, K, fr, H => vc P E B ND a (fun e fr H => match e with
    | .normal => vc P E B ND b K fr H
    | e => K e fr H) fr H
  | .cond c x y, K, fr, H => VCond (aeval fr c) (vc P E B ND x K fr H) (vc P E B ND y K fr H)
  | .block id c, K, fr, H => vc P E B ND c (fun e fr H => match e with
    | .exit id' => if id' = id then K .normal fr H else K (.exit id') fr H
    | e => K e fr H) fr H
  | .loop c, K, fr, H => VLoop (fun K fr H => vc P E B ND c K fr H) K fr H
  | .scope c, K, fr, H => vc P E B ND c (fun e fr H => match e with
    | .goto _ => False
    | e => K e fr H) fr H
  | .label _, K, fr, H => K .normal fr H
  | .exit id, K, fr, H => K (.exit id) fr H
  | .ret, K, fr, H => K .ret fr H
  | _, _, _, _ => False

section
variable {P : Program} {E : Env} {W : World} {F : Nat → Prop} {Rd0 : Nat → Nat → Prop} {w w' : World} {β β0 β' : Nat → Nat} {Rd Rd' : Nat → Nat → Prop} {Ow Ow' : Nat → Option Hold} {fr fr' : List AV} {H H' : Hp} {tmps : Array Value} {N n : Nat}

@[congr] theorem vc_congr {B : List Tmp} {ND : List (Nat × List Nat)} {c : Code} {K : Exit → List AV → Hp → Prop} {fr fr' : List AV} {H H' : Hp} (h1 : fr = fr') (h2 : H = H') : vc P E B ND c K fr H = vc P E B ND c K fr' H' := by rw [h1, h2]
theorem least {p : Nat → Prop} (h : ∃ k, p k) : ∃ k, p k ∧ ∀ j, p j → k ≤ j := by
  obtain ⟨k, hk⟩ := h
  induction k using Nat.strongRecOn with
  | _ k ih =>
    by_cases hj : ∃ j, j < k ∧ p j
    · obtain ⟨j, h1, h2⟩ := hj
      exact ih j h1 h2
    · exact ⟨k, hk, fun j h2 => Nat.le_of_not_lt fun h1 => hj ⟨j, h1, h2⟩⟩

theorem nil1_rel {x y : AV} {v : Value} (h : nil1 x y) (hr : Rel w β Rd x v) (hB : Bnd N x) : Rel w β Rd y v ∧ Bnd N y ∧ (∀ g, own0 y v = some g → own0 x v = some g) ∧ (x.one = true → y.one = true) ∧ (x.dis.free = true → y.dis.free = true) := by
  rcases h with rfl | ⟨rfl, b, k, rfl⟩
  · exact ⟨hr, hB, fun _ h => h, fun h => h, fun h => h⟩
  · obtain rfl := rel_nil hr
    refine ⟨.sl b k [] _ [] (by simp) (OSl.nil w k).toR (fun g o n c hv => by cases hv) (fun _ => ⟨OSl.nil w k, fun g o n c hv => by cases hv⟩) (by simp) (fun j x u hx => by simp at hx), .sl _ _ _ (by simp), fun g hg => ?_, fun _ => rfl, fun _ => rfl⟩
    cases b <;> cases hg
theorem nilL_at : ∀ {l m : List AV}, nilL l m → l.length = m.length ∧ ∀ (i : Nat) y, m[i]? = some y → ∃ x, l[i]? = some x ∧ nil1 x y
  | [], [], _ => ⟨rfl, fun i y hy => by simp at hy⟩
  | x :: l, y :: m, h => by
    obtain ⟨h1, h2⟩ := nilL_at h.2
    refine ⟨by simp [h1], fun i z hz => ?_⟩
    cases i with
    | zero => simp at hz; subst hz; exact ⟨x, rfl, h.1⟩
    | succ i => exact h2 i z (by simpa using hz)
  | [], _ :: _, h => h.elim
  | _ :: _, [], h => h.elim
theorem nilH_at : ∀ {l m : Hp}, nilH l m → l.length = m.length ∧ ∀ (i : Nat) y, m[i]? = some y → ∃ x, l[i]? = some x ∧ nilL x y
  | [], [], _ => ⟨rfl, fun i y hy => by simp at hy⟩
  | x :: l, y :: m, h => by
    obtain ⟨h1, h2⟩ := nilH_at h.2
    refine ⟨by simp [h1], fun i z hz => ?_⟩
    cases i with
    | zero => simp at hz; subst hz; exact ⟨x, rfl, h.1⟩
    | succ i => exact h2 i z (by simpa using hz)
  | [], _ :: _, h => h.elim
  | _ :: _, [], h => h.elim
theorem S3.nilTo {fr1 : List AV} {H1 : Hp} (h : S3 E W F Rd0 w β Rd Ow fr H tmps) (hf : nilL fr fr1) (hH : nilH H H1) : S3 E W F Rd0 w β Rd Ow fr1 H1 tmps := by
  obtain ⟨e1, a1⟩ := nilL_at hf
  obtain ⟨e2, a2⟩ := nilH_at hH
  refine ⟨⟨fun i l hl => ?_, by rw [← e2]; exact h.hr.inj, by rw [← e2]; exact h.hr.sep, h.hr.ows, h.hr.rds, fun l hl x hx => ?_, by rw [← e2]; exact h.hr.fix⟩, ⟨by rw [← e1]; exact h.ff.len, fun t x u hx hu => ?_⟩, by rw [← e2]; exact h.fo, fun x hx => ?_⟩
  · obtain ⟨l0, hl0, hn⟩ := a2 i l hl
    obtain ⟨T, cs, c1, c2, c3⟩ := h.hr.box i l0 hl0
    obtain ⟨e3, a3⟩ := nilL_at hn
    refine ⟨T, cs, c1, by rw [c2, e3], fun j x u hx hu => ?_⟩
    obtain ⟨x0, hx0, hnx⟩ := a3 j x hx
    obtain ⟨r1, r2, r3⟩ := c3 j x0 u hx0 hu
    obtain ⟨q1, q2, q3, q4, q5⟩ := nil1_rel hnx r1 (h.hr.bnd l0 (mem_at hl0) x0 (mem_at hx0))
    exact ⟨q1, q4 r2, fun g hg => r3 g (q3 g hg)⟩
  · obtain ⟨i, hi⟩ := List.getElem?_of_mem hl
    obtain ⟨l0, hl0, hn⟩ := a2 i l hi
    obtain ⟨j, hj⟩ := List.getElem?_of_mem hx
    obtain ⟨x0, hx0, hnx⟩ := (nilL_at hn).2 j x hj
    rw [← e2]
    have := h.hr.bnd l0 (mem_at hl0) x0 (mem_at hx0)
    rcases hnx with rfl | ⟨rfl, b, k, rfl⟩
    · exact this
    · exact .sl _ _ _ (by simp)
  · obtain ⟨x0, hx0, hnx⟩ := a1 t x hx
    obtain ⟨r1, r2, r3⟩ := h.ff.rel t x0 u hx0 hu
    obtain ⟨q1, q2, q3, q4, q5⟩ := nil1_rel hnx r1 r2
    exact ⟨q1, by rw [← e2]; exact q2, fun g hg => r3 g (q3 g hg)⟩
  · obtain ⟨i, hi⟩ := List.getElem?_of_mem hx
    obtain ⟨x0, hx0, hnx⟩ := a1 i x hi
    have := h.ne x0 (mem_at hx0)
    rcases hnx with rfl | ⟨rfl, b, k, rfl⟩
    · exact this
    · rfl
theorem St.nilTo {a : Act} {fr1 : List AV} {H1 : Hp} (h : St E W F Rd0 β0 n fr H a w) (hf : nilL fr fr1) (hH : nilH H H1) : St E W F Rd0 β0 n fr1 H1 a w := by
  obtain ⟨h1, h2, β, Rd, Ow, hS, hβ⟩ := h
  exact ⟨h1, by rw [← (nilH_at hH).1]; exact h2, β, Rd, Ow, hS.nilTo hf hH, hβ⟩
theorem nilL_refl : ∀ l, nilL l l
  | [] => trivial
  | x :: l => ⟨.inl rfl, nilL_refl l⟩
theorem nilH_refl : ∀ l, nilH l l
  | [] => trivial
  | x :: l => ⟨nilL_refl x, nilH_refl l⟩

theorem St.drew {a : Act} (h : St E W F Rd0 β0 n fr H a w) : St E W F Rd0 β0 n fr H a w.drew := by
  obtain ⟨h1, h2, β, Rd, Ow, hS, hβ⟩ := h
  exact ⟨h1, h2, β, Rd, Ow, hS.drew, hβ⟩

open Classical in
theorem vc_ok {B : List Tmp} {ND : List (Nat × List Nat)} (hm : P.follows .mixedOrders = true) : ∀ (c : Code) (K : Exit → List AV → Hp → Prop) (KC : Exit → Act → World → Prop) (fr : List AV) (H : Hp) (a : Act) (w : World), regsB B ND c = true → St E W F Rd0 β0 n fr H a w → vc P E B ND c K fr H →
    (∀ e fr H a w, St E W F Rd0 β0 n fr H a w → K e fr H → KC e a w) → c.wp P KC a w := by
  intro c
  induction c with
  | skip => intro K KC fr H a w _ hs h hK; exact wp_skip (hK _ _ _ _ _ hs h)
  | region id ops draw =>
    intro K KC fr H a w hreg hs h hK
    rw [vc] at h
    cases draw with
    | false => exact wp_region_list (wpList_vcl (n := n) (fun fr' H' a' w' hs' hk => hK _ _ _ _ _ hs' hk) ops.toList _ fr H a w hs h)
    | true => exact region_abs hm (by simpa [regsB] using hreg) hs h (fun fr' H' a' w' hs' hk => hK _ _ _ _ _ hs' hk)
  | seq x y ih1 ih2 =>
    intro K KC fr H a w hreg hs h hK
    rw [vc] at h
    simp only [regsB, Bool.and_eq_true] at hreg
    refine wp_seq (ih1 _ _ fr H a w hreg.1 hs h (fun e fr' H' a' w' hs' hk => ?_))
    cases e with
    | normal => exact ih2 _ _ fr' H' a' w' hreg.2 hs' hk hK
    | _ => exact hK _ _ _ _ _ hs' hk
  | cond c x y ih1 ih2 =>
    intro K KC fr H a w hreg hs h hK
    rw [vc] at h
    simp only [regsB, Bool.and_eq_true] at hreg
    unfold VCond at h
    split at h
    · rename_i b hb
      have hs' := hs
      obtain ⟨_, _, β, Rd, Ow, hS, _⟩ := hs'
      have hc := (hS.eval rfl c).1
      rw [hb] at hc
      refine wp_cond (rel_bool hc) ?_
      cases b with
      | true => exact ih1 _ _ fr H a w hreg.1 hs (h.1 rfl) hK
      | false => exact ih2 _ _ fr H a w hreg.2 hs (h.2 rfl) hK
    · exact h.elim
  | block id c ih =>
    intro K KC fr H a w hreg hs h hK
    rw [vc] at h
    refine wp_block (ih _ _ fr H a w hreg hs h (fun e fr' H' a' w' hs' hk => ?_))
    cases e with
    | exit id' =>
      simp only [Exit.inBlock]
      split
      · rename_i he
        simp only [he, if_true] at hk
        exact hK _ _ _ _ _ hs' hk
      · rename_i he
        simp only [he, if_false] at hk
        exact hK _ _ _ _ _ hs' hk
    | _ => exact hK _ _ _ _ _ hs' hk
  | loop c ih =>
    intro K KC fr H a w hreg hs h hK
    rw [vc] at h
    obtain ⟨I, μ, fr1, H1, hn1, hn2, h0, hround⟩ := h
    have hs := hs.nilTo hn1 hn2
    let p : Act → World → Nat → Prop := fun a w k => ∃ fr H, St E W F Rd0 β0 n fr H a w ∧ I fr H ∧ μ fr H = k
    refine wp_loop (fun a w => ∃ k, p a w k) (fun a w => if h : ∃ k, p a w k then Classical.choose (least h) else 0) ⟨_, fr1, H1, hs, h0, rfl⟩ (fun a w hI => ?_)
    obtain ⟨⟨fr, H, hs, hI', hμ⟩, _⟩ := Classical.choose_spec (least hI)
    refine ih _ _ fr H a w hreg hs (hround fr H hI') (fun e fr' H' a' w' hs' hk => ?_)
    cases e with
    | normal =>
      have hp : p a' w' (μ fr' H') := ⟨fr', H', hs', hk.1, rfl⟩
      refine ⟨⟨_, hp⟩, ?_⟩
      rw [dif_pos hI, dif_pos ⟨_, hp⟩, ← hμ]
      exact Nat.lt_of_le_of_lt ((Classical.choose_spec (least ⟨_, hp⟩)).2 _ hp) hk.2
    | _ => exact hK _ _ _ _ _ hs' hk
  | scope c ih =>
    intro K KC fr H a w hreg hs h hK
    rw [vc] at h
    refine wp_scope_straight (ih _ _ fr H a w hreg hs h (fun e fr' H' a' w' hs' hk => ?_))
    cases e with
    | goto l => exact hk.elim
    | _ => exact hK _ _ _ _ _ hs' hk
  | label l => intro K KC fr H a w _ hs h hK; exact wp_label (hK _ _ _ _ _ hs h)
  | exit id => intro K KC fr H a w _ hs h hK; exact wp_exit (hK _ _ _ _ _ hs h)
  | ret => intro K KC fr H a w _ hs h hK; exact wp_ret (hK _ _ _ _ _ hs h)
  | _ => intro K KC fr H a w _ hs h hK; exact h.elim
end
end Go.Proofs.YtimhofphmgehgaaDoor
