/- THE ABSTRACT MACHINE: a region that draws its order is walked in the order of the text (second part). For every program. -/
import Derived.Test.YtimhofphmgehgaaDoorAmr
set_option linter.unusedVariables false
set_option linter.unusedSimpArgs false
namespace Go.Proofs.YtimhofphmgehgaaDoor
open Go Go.RowKit

section
variable {P : Program} {B : List Tmp} {ρ ρ' : Operand → AV} {H H' H1 H2 : Hp} {o : Oper} {v : AV} {x : Option Operand} {all : Array Oper} {fr fr' fr1 fr2 : List AV} {E : Env} {W : World} {F : Nat → Prop} {Rd0 : Nat → Nat → Prop} {w : World} {β0 : Nat → Nat} {n : Nat}

/-- The frames agree on what the operation looks at. -/
def Agr (all : Array Oper) (o : Oper) (fr fr' : List AV) : Prop := ∀ t ∈ o.looksAt all, fr'[t]? = fr[t]?
theorem Agr.refl : Agr all o fr fr := fun _ _ => rfl
theorem Agr.trans (h : Agr all o fr fr1) (k : Agr all o fr1 fr2) : Agr all o fr fr2 := fun t ht => (k t ht).trans (h t ht)
theorem Agr.symm (h : Agr all o fr fr') : Agr all o fr' fr := fun t ht => (h t ht).symm
theorem looks_op {t : Tmp} (h : Operand.tmp t ∈ o.op.operands) : t ∈ o.looksAt all := by
  unfold Oper.looksAt
  exact List.mem_append_left _ (List.mem_filterMap.2 ⟨.tmp t, by simpa using h, rfl⟩)
theorem Agr.eval (h : Agr all o fr fr') : ∀ x ∈ o.op.operands, aeval fr' x = aeval fr x := by
  intro x hx
  cases x with
  | tmp t =>
    show fr'.getD t _ = fr.getD t _
    simp only [List.getD, h t (looks_op hx)]
  | _ => rfl
theorem Agr.wanted (h : Agr all o fr fr') : wantedA all fr' o = wantedA all fr o := by
  unfold wantedA
  cases hg : o.guard with
  | none => rfl
  | some g =>
    obtain ⟨j, want⟩ := g
    simp only
    have : yieldA all fr' j = yieldA all fr j := by
      unfold yieldA
      cases hd : (all[j]?).bind (·.dst) with
      | none => rfl
      | some d =>
        simp only
        rw [h d ?_]
        unfold Oper.looksAt
        refine List.mem_append_right _ ?_
        simp [hg, hd]
    rw [this]
theorem Agr.call (h : Agr all o fr fr') : acall fr' o = acall fr o := by
  unfold acall
  cases ho : o.op <;> try rfl
  rename_i c
  simp only
  cases hc : c.callee <;> try rfl
  rename_i x
  have hx := h.eval
  rw [ho] at hx
  simp only
  rw [hx x (by simp [Op.operands, Call.operands, hc])]
  have : (c.args.toList.map fun y => (aeval fr' y).dis) = c.args.toList.map fun y => (aeval fr y).dis := List.map_congr_left fun y hy => by
    rw [hx y (by simp [Op.operands, Call.operands]; right; simpa using hy)]
  rw [this]
theorem Agr.eop (h : Agr all o fr fr') : eop P B (aeval fr') H o = eop P B (aeval fr) H o := eop_congr P B H o h.eval

theorem aput_get {d : Option Tmp} {t : Tmp} (h : ∀ e, d = some e → e ≠ t) : (aput fr d v)[t]? = fr[t]? := by
  cases d with
  | none => rfl
  | some e => exact List.getElem?_set_ne (h e rfl)
theorem fdis_get {y : Operand} {t : Tmp} (h : ∀ e, y = .tmp e → e ≠ t) : (fdis fr y)[t]? = fr[t]? := by
  cases y with
  | tmp e => exact List.getElem?_set_ne (h e rfl)
  | _ => rfl
theorem fdisO_get {y : Option Operand} {t : Tmp} (h : ∀ e, y = some (.tmp e) → e ≠ t) : (fdisO fr y)[t]? = fr[t]? := by
  cases y with
  | none => rfl
  | some y => exact fdis_get fun e he => h e (by rw [he])
theorem aput_comm {d e : Option Tmp} {u : AV} (h : ∀ t, d = some t → e ≠ some t) : aput (aput fr d v) e u = aput (aput fr e u) d v := by
  cases d with
  | none => rfl
  | some d => cases e with
    | none => rfl
    | some e => exact List.set_comm _ _ (fun he => h d rfl (by rw [he]))
theorem fdis_aput {d : Option Tmp} {y : Operand} (h : ∀ t, d = some t → y ≠ .tmp t) : fdis (aput fr d v) y = aput (fdis fr y) d v := by
  cases d with
  | none => rfl
  | some d => cases y with
    | tmp e =>
      have hne : d ≠ e := fun he => h d rfl (by rw [he])
      show (fr.set d v).set e ((fr.set d v).getD e (.raw undef)).dis = (fr.set e (fr.getD e (.raw undef)).dis).set d v
      have : (fr.set d v).getD e (.raw undef) = fr.getD e (.raw undef) := by simp only [List.getD, List.getElem?_set_ne hne]
      rw [this]
      exact List.set_comm _ _ hne
    | _ => rfl
theorem fdisO_aput {d : Option Tmp} {y : Option Operand} (h : ∀ t, d = some t → y ≠ some (.tmp t)) : fdisO (aput fr d v) y = aput (fdisO fr y) d v := by
  cases y with
  | none => rfl
  | some y => exact fdis_aput fun t ht e => h t ht (by rw [e])
theorem tk_looks {t : Tmp} (h : t ∈ tkO B o) : t ∈ o.looksAt all := by
  have tm : ∀ (y : Operand), t ∈ tmO y → y = .tmp t := fun y hy => by
    cases y <;> simp [tmO] at hy
    rw [hy]
  unfold tkO at h
  split at h
  · rename_i y ho; exact looks_op (by rw [ho, ← tm _ h]; simp [Op.operands])
  · rename_i y ho; exact looks_op (by rw [ho, ← tm _ h]; simp [Op.operands])
  · rename_i y ho; exact looks_op (by rw [ho, ← tm _ h]; simp [Op.operands])
  · rename_i y ho
    split at h
    · exact looks_op (by rw [ho, ← tm _ h]; simp [Op.operands])
    · cases h
  · rename_i c ho
    split at h
    · split at h
      · rename_i y l e
        have : y ∈ c.args := by have : y ∈ c.args.toList := by rw [e]; simp
                                simpa using this
        exact looks_op (by rw [ho, ← tm _ h]; simp [Op.operands, Call.operands, this])
      · cases h
    · cases h
  · cases h

/-! ### One operation -/
/-- What an operation leaves: the frame but for what it has taken along and its own slot; the boxes where it leaves them alone. -/
def DS (q : Nat) (S : Nat → Prop) : Nat → Prop := fun i => q = 2 → S i
theorem LP_LA {p : Nat} {S : Nat → Prop} (h : LP p S fr o) : LA (DS p S) (aeval fr) o := by
  by_cases hp : p = 2
  · subst hp
    have h := h.1
    unfold LA at *
    split at h
    · split at h
      · exact fun _ => h
      · trivial
    · trivial
  · unfold LA
    split
    · split
      · exact fun h => absurd h hp
      · trivial
    · trivial
theorem Agr.LP {p : Nat} {S : Nat → Prop} (ha : Agr all o fr fr') (h : LP p S fr o) : Go.Proofs.YtimhofphmgehgaaDoor.LP p S fr' o := by
  unfold Go.Proofs.YtimhofphmgehgaaDoor.LP at *
  split at h
  · refine ⟨?_, ?_⟩
    · have h := h.1
      unfold LA at *
      split at h
      · rename_i y ho
        rw [ha.eval y (by rw [ho]; simp [Op.operands])]; exact h
      · trivial
    · have h := h.2
      unfold SA at *
      split at h
      · rename_i y _ ho
        rw [ha.eval y (by rw [ho]; simp [Op.operands])]; exact h
      · trivial
  · trivial
structure Res (S : Nat → Prop) (B : List Tmp) (p : Nat) (o : Oper) (fr : List AV) (H : Hp) (fr' : List AV) (H' : Hp) : Prop where
  fr : ∀ t, t ∉ tkO B o → o.dst ≠ some t → fr'[t]? = fr[t]?
  h : ∀ q, (kSt B o = true ∨ (kCl o = true ∧ (p = 1 ∨ (p = 2 ∧ q = 2))) ∨ (kSo o = true ∧ p = 2 ∧ q = 2)) → preD (DS q S) H H'

theorem kCl_of_call {f : FuncId} {as : List AV} (h : acall fr o = some (f, as)) : kCl o = true ∧ kSt B o = false := by
  unfold acall at h
  split at h
  · rename_i c ho
    split at h
    · rename_i y hc
      simp [kCl, kSt, kVal, kLd, ho, hc]
    · cases h
  · cases h
theorem call_none (h : mvB B o = true) : acall fr o = none := by
  cases hc : acall fr o with
  | none => rfl
  | some r =>
    obtain ⟨f, as⟩ := r
    have := (kCl_of_call (B := B) hc).2
    unfold kSt at this
    unfold mvB at h
    rw [h] at this
    cases this

theorem vop_mono {p : Nat} {K K' : List AV → Hp → Prop} (h : vop P E B all p o K fr H) (hk : ∀ fr' H', Res E.S B p o fr H fr' H' → K fr' H' → K' fr' H') : vop P E B all p o K' fr H := by
  have put : ∀ (fr1 : List AV) (u : AV) (t : Tmp), o.dst ≠ some t → (aput fr1 o.dst u)[t]? = fr1[t]? := fun fr1 u t ht => aput_get fun e he hte => ht (by rw [he, hte])
  unfold vop VWant at *
  split at h
  · unfold VCall at *
    split at h
    · rename_i f as hc
      refine h.mono fun u H' hq => ⟨hq.1, hk _ _ ⟨fun t _ h2 => put _ _ t h2, fun q hp => ?_⟩ hq.2⟩
      rcases hp with hp | ⟨_, hp | ⟨hp, hp2⟩⟩ | ⟨hp, _⟩
      · rw [(kCl_of_call hc).2] at hp; cases hp
      · have h1 := hq.1; rw [hp] at h1; exact preH.D h1
      · have h1 := hq.1; rw [hp] at h1
        intro i l hs hl
        exact ⟨l, (h1.2 i (hs hp2) (List.getElem?_eq_some_iff.1 hl).1).trans hl, rfl⟩
      · exfalso
        have h1 := (kCl_of_call (B := B) hc).1
        unfold kCl at h1
        unfold kSo at hp
        split at hp
        · rename_i ho; rw [ho] at h1; cases h1
        · cases hp
    · have hLP := h.1
      refine ⟨h.1, ?_⟩
      replace h := h.2
      rw [aop_eop] at h ⊢
      unfold bindA fin at *
      cases he : eop P B (aeval fr) H o with
      | none => rw [he] at h; exact h.elim
      | some r =>
        obtain ⟨u, y, H'⟩ := r
        rw [he] at h
        refine hk _ _ ⟨fun t h1 h2 => ?_, fun q hp => ?_⟩ h
        · rw [put _ _ t h2]
          exact fdisO_get fun e hye het => h1 (het ▸ eop_tk he e hye)
        · rcases hp with hp | hp | ⟨hp, hp2, hq2⟩
          · exact eop_st hp he
          · exfalso
            rename_i hn
            unfold eop at he
            unfold kCl at hp
            split at hp
            · rename_i c ho
              split at hp
              · rename_i z hz
                rw [ho] at he
                simp only [hz] at he
                cases he
              · cases hp.1
            · cases hp.1
          · subst hp2
            have hs := hLP.2
            unfold kSo at hp
            split at hp
            · rename_i t y z ho
              unfold SA at hs
              unfold eop at he
              rw [ho] at hs he
              simp only at hs he
              unfold estore at he
              split at he
              · rename_i i pp hy
                rw [hy] at hs
                split at he
                · split at he
                  · cases he
                    intro j l hj hl
                    refine ⟨l, ?_, rfl⟩
                    rw [List.getElem?_set_ne (fun e => hs (by rw [e]; exact hj hq2))]; exact hl
                  · cases he
                · cases he
              · cases he
            · cases hp
  · exact hk _ _ ⟨fun t _ h2 => put _ _ t h2, fun _ _ => preD_refl _⟩ h
  · exact h

theorem vop_put {p : Nat} {K : List AV → Hp → Prop} {d : Option Tmp} (hd : ∀ e, d = some e → e ∉ o.looksAt all ∧ o.dst ≠ some e) :
    vop P E B all p o K (aput fr d v) H ↔ vop P E B all p o (fun fr' H' => K (aput fr' d v) H') fr H := by
  have hA : Agr all o fr (aput fr d v) := fun t ht => aput_get fun e he het => (hd e he).1 (het ▸ ht)
  have hc : ∀ (fr1 : List AV) (u : AV), aput (aput fr1 d v) o.dst u = aput (aput fr1 o.dst u) d v := fun fr1 u => aput_comm fun t ht => (hd t ht).2
  unfold vop
  have hL : LP p E.S (aput fr d v) o ↔ LP p E.S fr o := ⟨hA.symm.LP, hA.LP⟩
  rw [hA.wanted, hA.call, aop_eop, aop_eop, hA.eop, hL]
  unfold VWant
  split
  · unfold VCall
    split
    · simp only [hc]
    · cases he : eop P B (aeval fr) H o with
      | none => exact Iff.rfl
      | some r =>
        obtain ⟨u, y, H'⟩ := r
        have hf : fdisO (aput fr d v) y = aput (fdisO fr y) d v := fdisO_aput fun t ht hy => (hd t ht).1 (tk_looks (eop_tk he t hy))
        simp only [fin, bindA, Option.map_some, hf, hc]
  · rw [hc]
  · exact Iff.rfl

/-- A value that may be taken at any time. -/
def Val (P : Program) (S : Nat → Prop) (p : Nat) (B : List Tmp) (all : Array Oper) (o : Oper) (v : AV) (fr : List AV) (H : Hp) : Prop :=
  (wantedA all fr o = some true ∧ LP p S fr o ∧ ∃ x, (∀ t, x ≠ some (.tmp t)) ∧ eop P B (aeval fr) H o = some (v, x, H)) ∨ (wantedA all fr o = some false ∧ v = .raw undef)
theorem fdisO_none {x : Option Operand} (h : ∀ t, x ≠ some (.tmp t)) : fdisO fr x = fr := by
  cases x with
  | none => rfl
  | some y => cases y with
    | tmp t => exact absurd rfl (h t)
    | _ => rfl
theorem val_in {p : Nat} {K : List AV → Hp → Prop} (hm : mvB B o = true) (hv : Val P E.S p B all o v fr H) (h : K (aput fr o.dst v) H) : vop P E B all p o K fr H := by
  unfold vop
  rcases hv with ⟨h1, hL, x, h2, h3⟩ | ⟨h1, rfl⟩
  · rw [h1, VWant_true, call_none hm, VCall_none, aop_eop, h3]
    refine ⟨hL, ?_⟩
    show K (aput (fdisO fr x) o.dst v) H
    rw [fdisO_none h2]; exact h
  · rw [h1, VWant_false]; exact h
theorem val_out {p : Nat} {K : List AV → Hp → Prop} (hm : mvB B o = true) (h : vop P E B all p o K fr H) : ∃ v, Val P E.S p B all o v fr H ∧ K (aput fr o.dst v) H := by
  unfold vop VWant at h
  split at h
  · rename_i hw
    rw [call_none hm, VCall_none, aop_eop] at h
    obtain ⟨hL, h⟩ := h
    cases he : eop P B (aeval fr) H o with
    | none => rw [he] at h; exact h.elim
    | some r =>
      obtain ⟨u, y, H'⟩ := r
      rw [he] at h
      have h : K (aput (fdisO fr y) o.dst u) H' := h
      have key : H' = H ∧ ∀ t, y ≠ some (.tmp t) := by
        unfold mvB at hm
        rw [Bool.or_eq_true] at hm
        rcases hm with hm | hm
        · obtain ⟨a, b, _⟩ := eop_val hm he; exact ⟨a, b⟩
        · obtain ⟨a, b, _⟩ := eop_ld hm (LP_LA hL) he; exact ⟨a, by rw [b]; exact fun t => nofun⟩
      obtain ⟨rfl, hy⟩ := key
      rw [fdisO_none hy] at h
      exact ⟨u, .inl ⟨hw, hL, y, hy, he⟩, h⟩
  · rename_i hw
    exact ⟨_, .inr ⟨hw, rfl⟩, h⟩
  · exact h.elim
/-- .. later: -/
theorem Val.later {S : Nat → Prop} {p : Nat} (hm : mvB B o = true) (ha : Agr all o fr fr') (hH : kVal B o = true ∨ preD (DS p S) H H') (hv : Val P S p B all o v fr H) : Val P S p B all o v fr' H' := by
  rcases hv with ⟨h1, hL, x, h2, h3⟩ | ⟨h1, h2⟩
  · refine .inl ⟨ha.wanted.trans h1, ha.LP hL, ?_⟩
    rw [ha.eop]
    by_cases hk : kVal B o = true
    · exact ⟨x, h2, (eop_val hk h3).2.2 H'⟩
    · unfold mvB at hm
      simp only [hk, Bool.false_or] at hm
      exact ⟨none, fun t => nofun, (eop_ld hm (LP_LA hL) h3).2.2 H' (hH.resolve_left hk)⟩
  · exact .inr ⟨ha.wanted.trans h1, h2⟩
/-- .. earlier: -/
theorem Val.back {S : Nat → Prop} {p : Nat} (hm : mvB B o = true) (ha : Agr all o fr fr') (hH : kVal B o = true ∨ preD (DS p S) H H') (hb : ∀ y, Bnd H.length (aeval fr y)) (hv : Val P S p B all o v fr' H') : Val P S p B all o v fr H := by
  rcases hv with ⟨h1, hL, x, h2, h3⟩ | ⟨h1, h2⟩
  · have hL' := ha.symm.LP hL
    refine .inl ⟨ha.wanted.symm.trans h1, hL', ?_⟩
    rw [ha.eop] at h3
    by_cases hk : kVal B o = true
    · exact ⟨x, h2, (eop_val hk h3).2.2 H⟩
    · unfold mvB at hm
      simp only [hk, Bool.false_or] at hm
      exact ⟨none, fun t => nofun, eop_ld_back hm (LP_LA hL') (hH.resolve_left hk) (fun y _ => hb y) h3⟩
  · exact .inr ⟨ha.wanted.symm.trans h1, h2⟩

/-! ### The text's order -/
def atl (P : Program) (E : Env) (B : List Tmp) (all : Array Oper) (pf : List Nat) (K : List AV → Hp → Prop) : List Nat → List AV → Hp → Prop
  | [], fr, H => K fr H
  | i :: l, fr, H => match all[i]? with
    | some o => vop P E B all (pf.getD i 0) o (atl P E B all pf K l) fr H
    | none => atl P E B all pf K l fr H

variable {pf : List Nat} {K : List AV → Hp → Prop}
theorem atl_cons {i : Nat} {l : List Nat} (hi : all[i]? = some o) : atl P E B all pf K (i :: l) fr H = vop P E B all (pf.getD i 0) o (atl P E B all pf K l) fr H := by
  rw [atl, hi]

theorem mvOk_spec {x y : Oper} {q p : Nat} (h : mvOk B all x y q p = true) : (∀ t ∈ tkO B y, t ∉ x.looksAt all) ∧ mvB B x = true ∧ (kVal B x = true ∨ kSt B y = true ∨ (kCl y = true ∧ (p = 1 ∨ (p = 2 ∧ q = 2))) ∨ (kSo y = true ∧ p = 2 ∧ q = 2)) := by
  unfold mvOk at h
  simp only [Bool.and_eq_true, Bool.or_eq_true, List.all_eq_true, Bool.not_eq_true', beq_iff_eq] at h
  obtain ⟨h1, h2⟩ := h
  refine ⟨fun t ht hx => ?_, ?_, ?_⟩
  · have := h1 t ht
    simp [hx] at this
  · unfold mvB; rcases h2 with h | h <;> simp [h]
  · rcases h2 with h | ⟨h, (h' | h') | h'⟩
    · exact .inl h
    · exact .inr (.inl h')
    · exact .inr (.inr (.inl h'))
    · exact .inr (.inr (.inr ⟨h'.1.1, h'.1.2, h'.2⟩))
theorem Res.agr {S : Nat → Prop} {y : Oper} {p : Nat} (hr : Res S B p y fr H fr' H') (hap : o.apart all y = true) (hm : ∀ t ∈ tkO B y, t ∉ o.looksAt all) : Agr all o fr fr' := fun t ht =>
  hr.fr t (fun h => hm t h ht) (fun h => (Oper.apart_spec hap).2.2 t h ht)

/-- An operation is carried out ahead of values. -/
theorem front_eff {j : Nat} {oj : Oper} {m : List Nat} (hj : all[j]? = some oj) : ∀ (l : List Nat) {fr : List AV} {H : Hp},
    (∀ i ∈ l, ∃ oi, all[i]? = some oi ∧ oi.apart all oj = true ∧ mvOk B all oi oj (pf.getD i 0) (pf.getD j 0) = true) → atl P E B all pf K (l ++ j :: m) fr H → vop P E B all (pf.getD j 0) oj (atl P E B all pf K (l ++ m)) fr H := by
  intro l
  induction l with
  | nil => intro fr H _ h; rwa [List.nil_append, atl_cons hj] at h
  | cons i l ih =>
    intro fr H hl h
    obtain ⟨oi, hi, hap, hok⟩ := hl i (List.mem_cons_self ..)
    obtain ⟨h1, h2, h3⟩ := mvOk_spec hok
    rw [List.cons_append, atl_cons hi] at h
    obtain ⟨v, hv, h⟩ := val_out h2 h
    have h := ih (fun k hk => hl k (List.mem_cons_of_mem _ hk)) h
    have h := (vop_put (fun e he => ⟨(Oper.apart_spec hap).1 e he, (Oper.apart_spec hap).2.1 e he⟩)).1 h
    refine vop_mono h fun fr' H' hr hk => ?_
    rw [List.cons_append, atl_cons hi]
    exact val_in h2 (hv.later h2 (hr.agr hap h1) (h3.imp id (hr.h _))) hk

/-- A value is taken ahead of other operations. -/
theorem front_val1 {j : Nat} {oj : Oper} {m : List Nat} (hj : all[j]? = some oj) (hm : mvB B oj = true) : ∀ (l : List Nat) {fr : List AV} {H : Hp},
    (∀ i ∈ l, ∃ oi, all[i]? = some oi ∧ oi.apart all oj = true ∧ mvOk B all oj oi (pf.getD j 0) (pf.getD i 0) = true) → Val P E.S (pf.getD j 0) B all oj v fr H → atl P E B all pf K (l ++ j :: m) fr H → atl P E B all pf K (l ++ m) (aput fr oj.dst v) H := by
  intro l
  induction l with
  | nil =>
    intro fr H _ hv h
    rw [List.nil_append, atl_cons hj] at h
    obtain ⟨u, hu, h⟩ := val_out hm h
    have : u = v := by
      rcases hu with ⟨a1, _, x, a2, a3⟩ | ⟨a1, a2⟩ <;> rcases hv with ⟨b1, _, y, b2, b3⟩ | ⟨b1, b2⟩
      · rw [a3] at b3; cases b3; rfl
      · rw [a1] at b1; cases b1
      · rw [a1] at b1; cases b1
      · rw [a2, b2]
    rw [this] at h
    exact h
  | cons i l ih =>
    intro fr H hl hv h
    obtain ⟨oi, hi, hap, hok⟩ := hl i (List.mem_cons_self ..)
    obtain ⟨h1, h2, h3⟩ := mvOk_spec hok
    have hpa := apart_comm hap
    rw [List.cons_append, atl_cons hi] at h ⊢
    refine (vop_put (fun e he => ⟨(Oper.apart_spec hpa).1 e he, (Oper.apart_spec hpa).2.1 e he⟩)).2 ?_
    exact vop_mono h fun fr' H' hr hk => ih (fun k hk => hl k (List.mem_cons_of_mem _ hk)) (hv.later hm (hr.agr hpa h1) (h3.imp id (hr.h _))) hk

theorem vop_wpOp {i : Nat} {p : Nat} {KC : Act → World → Prop} {Q : Exit → Act → World → Prop} {a : Act} (hi : all[i]? = some o) (hs : St E W F Rd0 β0 n fr H a w) (hv : vop P E B all p o K fr H)
    (hKK : ∀ fr H a w, St E W F Rd0 β0 n fr H a w → K fr H → KC a w) : wpOp P all Q i KC a w := by
  have := vop_ok (Q := Q) hs hv hKK
  unfold wpOp
  simp only [hi]
  split
  · rename_i h; rw [if_pos h] at this; exact .inl this
  · rename_i h; rw [if_neg h] at this; exact this

/-- .. that there is one: -/
theorem front_val2 {j : Nat} {oj : Oper} {m : List Nat} (hj : all[j]? = some oj) (hm : mvB B oj = true) {fr0 : List AV} {H0 : Hp} (hb : ∀ y, Bnd H0.length (aeval fr0 y)) : ∀ (l : List Nat) {fr : List AV} {H : Hp} {a : Act} {w : World},
    (∀ i ∈ l, ∃ oi, all[i]? = some oi ∧ oi.apart all oj = true ∧ mvOk B all oj oi (pf.getD j 0) (pf.getD i 0) = true) → Agr all oj fr0 fr → (kVal B oj = true ∨ preD (DS (pf.getD j 0) E.S) H0 H) → St E W F Rd0 β0 n fr H a w →
      atl P E B all pf K (l ++ j :: m) fr H → ∃ v, Val P E.S (pf.getD j 0) B all oj v fr0 H0 := by
  intro l
  induction l with
  | nil =>
    intro fr H a w _ ha hH hs h
    rw [List.nil_append, atl_cons hj] at h
    obtain ⟨u, hu, h⟩ := val_out hm h
    exact ⟨u, hu.back hm ha hH hb⟩
  | cons i l ih =>
    intro fr H a w hl ha hH hs h
    obtain ⟨oi, hi, hap, hok⟩ := hl i (List.mem_cons_self ..)
    obtain ⟨h1, h2, h3⟩ := mvOk_spec hok
    have hpa := apart_comm hap
    rw [List.cons_append, atl_cons hi] at h
    have h' := vop_mono (K' := fun fr' H' => Res E.S B (pf.getD i 0) oi fr H fr' H' ∧ atl P E B all pf K (l ++ j :: m) fr' H') h fun fr' H' hr hk => ⟨hr, hk⟩
    have := vop_wpOp (Q := QF) (KC := fun a w => ∃ fr' H', St E W F Rd0 β0 n fr' H' a w ∧ Res E.S B (pf.getD i 0) oi fr H fr' H' ∧ atl P E B all pf K (l ++ j :: m) fr' H') hi hs h' fun fr H a w hs hk => ⟨fr, H, hs, hk⟩
    obtain ⟨a', w', _, fr', H', hs', hr, hk⟩ := op_out hi this
    refine ih (fun k hk => hl k (List.mem_cons_of_mem _ hk)) (ha.trans (hr.agr hpa h1)) ?_ hs' hk
    rcases hH with hH | hH
    · exact .inl hH
    · exact h3.imp id fun h => preD_trans hH (hr.h _ h)

theorem front_any {j : Nat} {oj : Oper} {l m : List Nat} {a : Act} (hj : all[j]? = some oj) (hl : ∀ i ∈ l, ∃ oi, all[i]? = some oi ∧ okP B all oi oj (pf.getD i 0) (pf.getD j 0) = true) (hs : St E W F Rd0 β0 n fr H a w)
    (h : atl P E B all pf K (l ++ j :: m) fr H) : vop P E B all (pf.getD j 0) oj (atl P E B all pf K (l ++ m)) fr H := by
  by_cases hm : mvB B oj = true
  · have hl' : ∀ i ∈ l, ∃ oi, all[i]? = some oi ∧ oi.apart all oj = true ∧ mvOk B all oj oi (pf.getD j 0) (pf.getD i 0) = true := fun i hi => by
      obtain ⟨oi, h1, h2⟩ := hl i hi
      unfold okP at h2
      rw [Bool.and_eq_true, if_pos hm] at h2
      exact ⟨oi, h1, h2⟩
    have hb : ∀ y, Bnd H.length (aeval fr y) := fun y => by
      obtain ⟨_, _, β, Rd, Ow, hS, _⟩ := hs
      exact (hS.eval rfl y).2.1
    obtain ⟨v, hv⟩ := front_val2 hj hm hb l hl' Agr.refl (.inr (preD_refl H)) hs h
    exact val_in hm hv (front_val1 hj hm l hl' hv h)
  · refine front_eff hj l (fun i hi => ?_) h
    obtain ⟨oi, h1, h2⟩ := hl i hi
    unfold okP at h2
    rw [Bool.and_eq_true, if_neg hm] at h2
    exact ⟨oi, h1, h2⟩

theorem regA_spec (h : regA B pf all = true) : backB all = true ∧ closeB (Region.before all).toList all = true ∧ ∀ (i j : Nat) (oi oj : Oper), i < j → all[i]? = some oi → all[j]? = some oj → ((Region.before all).toList.getD j 0).testBit i = false → okP B all oi oj (pf.getD i 0) (pf.getD j 0) = true := by
  unfold regA at h
  simp only [Bool.and_eq_true, List.all_eq_true, List.mem_range] at h
  obtain ⟨⟨h1, h2⟩, h3⟩ := h
  refine ⟨h1, h2, fun i j oi oj hij hi hj hb => ?_⟩
  have := h3 j (Array.getElem?_eq_some_iff.1 hj).1
  rw [hj] at this
  simp only [List.all_eq_true, List.mem_range] at this
  have := this i hij
  rw [hb, hi] at this
  simpa using this

theorem any_of_abs {Q : Exit → Act → World → Prop} (hB : regA B pf all = true) (hK : ∀ fr H a w, St E W F Rd0 β0 n fr H a w → K fr H → Q .normal a w) :
    ∀ (fuel : Nat) (listed : Array Bool) (fr : List AV) (H : Hp) (a : Act) (w : World), listed.size = all.size → Closed all listed → (toCome all.size listed).length = fuel → St E W F Rd0 β0 n fr H a w →
      atl P E B all pf K (toCome all.size listed) fr H → wpAny P .any all Q fuel listed a w := by
  obtain ⟨hb, hc, hsw⟩ := regA_spec hB
  intro fuel
  induction fuel with
  | zero =>
    intro listed fr H a w hs hcl hf hst h
    have h0 := List.eq_nil_of_length_eq_zero hf
    rw [h0] at h
    refine ⟨?_, hK _ _ _ _ hst h⟩
    rcases hr : Region.ready .any all listed with _ | ⟨x, r⟩
    · rfl
    · exfalso
      have hx : x ∈ Region.ready .any all listed := by rw [hr]; exact List.mem_cons_self ..
      rw [mem_ready] at hx
      obtain ⟨h1, o, ho, _⟩ := hx
      have : x ∈ toCome all.size listed := mem_toCome.2 ⟨(Array.getElem?_eq_some_iff.1 ho).1, h1⟩
      rw [h0] at this
      cases this
  | succ fuel ih =>
    intro listed fr H a w hs hcl hf hst h
    have getf : ∀ j, j < all.size → listed.getD j false = listed.getD j true := fun j hj => by
      simp [Array.getD, hs, hj]
    refine ⟨fun hr => ?_, fun j hj => ?_⟩
    · exfalso
      rcases hl : toCome all.size listed with _ | ⟨x, r⟩
      · rw [hl] at hf; cases hf
      · have hx : x ∈ toCome all.size listed := by rw [hl]; exact List.mem_cons_self ..
        obtain ⟨h1, h2⟩ := mem_toCome.1 hx
        have : x ∈ Region.ready .any all listed := by
          rw [mem_ready]
          refine ⟨h2, _, Array.getElem?_eq_getElem h1, fun e he hbe => ?_⟩
          have hex := back_spec hb (Array.getElem?_eq_getElem h1) he hbe
          cases hle : listed.getD e.on false
          · exfalso
            have hle' : listed.getD e.on true = false := by rw [← getf _ (by omega)]; exact hle
            have hm : e.on ∈ toCome all.size listed := mem_toCome.2 ⟨by omega, hle'⟩
            have hsorted : (toCome all.size listed).Pairwise (· < ·) := List.Pairwise.sublist List.filter_sublist List.pairwise_lt_range
            rw [hl] at hm hsorted
            rcases List.mem_cons.1 hm with h' | h'
            · omega
            · have := (List.pairwise_cons.1 hsorted).1 _ h'
              omega
          · rfl
        rw [hr] at this
        cases this
    · have hj' := hj
      rw [mem_ready] at hj'
      obtain ⟨h1, o, ho, hall⟩ := hj'
      have hlt : j < all.size := (Array.getElem?_eq_some_iff.1 ho).1
      obtain ⟨l, m, e1, e2, e3⟩ := range_split (p := fun i => !listed.getD i true) hlt (by simp only [h1]; rfl)
      have e1' : toCome all.size listed = l ++ j :: m := e1
      rw [e1'] at h
      have hset : toCome all.size (listed.setIfInBounds j true) = l ++ m := by
        rw [← e3]
        unfold toCome
        apply List.filter_congr
        intro x hx
        by_cases hxj : x = j
        · subst hxj
          simp [Array.getD, hs, hlt]
        · rw [getD_set_ne true (Ne.symm hxj)]
          simp [hxj]
      have h2 := front_any ho (fun i hi => by
        obtain ⟨hij, hil⟩ := e2 i hi
        have hio : all[i]? = some all[i] := Array.getElem?_eq_getElem (by omega)
        refine ⟨_, hio, hsw i j _ o hij hio ho ?_⟩
        cases hbit : ((Region.before all).toList.getD j 0).testBit i
        · rfl
        · exfalso
          have := fore_listed hb hc hcl j o ho hall i hij hbit
          rw [getf i (by omega)] at this
          rw [this] at hil
          exact absurd hil (by simp)) hst h
      refine vop_wpOp ho hst h2 fun fr' H' a' w' hst' h' => ?_
      refine ih _ fr' H' a' w' (by simpa using hs) ?_ ?_ hst' (by rw [hset]; exact h')
      · intro k ok hok hk e he hbe
        by_cases hkj : k = j
        · subst hkj
          obtain rfl : ok = o := by rw [ho] at hok; simpa using hok.symm
          exact getD_set_true (hall e he hbe)
        · rw [getD_set_ne false (Ne.symm hkj)] at hk
          exact getD_set_true (hcl k ok hok hk e he hbe)
      · rw [hset]
        rw [e1'] at hf
        simp only [List.length_append, List.length_cons] at hf ⊢
        omega

theorem atl_vcl : ∀ (c : List Oper) (k : Nat) (pu : List Nat) {fr : List AV} {H : Hp}, (∀ j, j < c.length → all[k + j]? = c[j]?) → (∀ j, pu.getD j 0 = pf.getD (k + j) 0) → vcl P E B all K pu c fr H → atl P E B all pf K (List.range' k c.length) fr H
  | [], k, pu, fr, H, _, _, h => by rw [vcl] at h; exact h
  | o :: c, k, pu, fr, H, hk, hp, h => by
    have h0 : all[k]? = some o := hk 0 (by simp)
    rw [List.length_cons, List.range'_succ, atl_cons h0]
    rw [vcl] at h
    have : pu.headD 0 = pf.getD k 0 := by
      have := hp 0
      cases pu <;> simpa using this
    rw [← this]
    refine vop_mono h fun fr' H' _ h' => atl_vcl c (k + 1) pu.tail (fun j hj => ?_) (fun j => ?_) h'
    · have := hk (j + 1) (by simp; omega)
      rw [Nat.add_assoc, Nat.add_comm 1 j]
      simpa using this
    · have := hp (j + 1)
      rw [Nat.add_assoc, Nat.add_comm 1 j, ← this]
      cases pu <;> simp

theorem St.drew' {a : Act} (h : St E W F Rd0 β0 n fr H a w) : St E W F Rd0 β0 n fr H a w.drew := by
  obtain ⟨h1, h2, β, Rd, Ow, hS, hβ⟩ := h
  exact ⟨h1, h2, β, Rd, Ow, hS.drew, hβ⟩

/-- A REGION THAT DRAWS ITS ORDER, IN THE ORDER OF THE TEXT. -/
theorem region_abs {id : Nat} {Q : Exit → Act → World → Prop} {a : Act} (hm : P.follows .mixedOrders = true) (hB : regA B pf all = true) (hs : St E W F Rd0 β0 n fr H a w) (h : vcl P E B all K pf all.toList fr H)
    (hK : ∀ fr H a w, St E W F Rd0 β0 n fr H a w → K fr H → Q .normal a w) : (Code.region id all true).wp P Q a w := by
  refine wp_region_any hm ?_
  have hrep : ∀ i, i < all.size → (Array.replicate all.size false).getD i true = false := fun i hi => by simp [Array.getD, hi]
  have hto : toCome all.size (Array.replicate all.size false) = List.range' 0 all.size := by
    unfold toCome
    rw [List.filter_eq_self.2 (fun i hi => by rw [hrep i (by simpa using hi)]; rfl), List.range_eq_range']
  refine any_of_abs hB hK _ _ fr H a _ (by simp) ?_ ?_ hs.drew' ?_
  · intro j o _ hl
    exfalso
    have : (Array.replicate all.size false).getD j false = false := by
      simp only [Array.getD]
      split <;> simp
    rw [this] at hl
    cases hl
  · rw [hto]; simp
  · rw [hto]
    have := atl_vcl (all := all) (pf := pf) all.toList 0 pf (fun j hj => by simp) (fun j => by simp) h
    simpa using this
end
end Go.Proofs.YtimhofphmgehgaaDoor
