/- THE ABSTRACT MACHINE: rules by which a walk is reckoned at its head alone. For every program. -/
import Derived.Test.YtimhofphmgehgaaDoorAm13
set_option linter.unusedVariables false
set_option linter.unusedSimpArgs false
namespace Go.Proofs.YtimhofphmgehgaaDoor
open Go Go.RowKit

/-! Named continuations: nothing in them is simplified until they are met. -/
def Kcall (P : Program) (E : Env) (B : List Tmp) (all : Array Oper) (K : List AV → Hp → Prop) (pu : List Nat) (rest : List Oper) (d : Option Tmp) (fr : List AV) (p : Nat) (H0 : Hp) (v : AV) (H : Hp) : Prop := KP p E.S H0 H ∧ vcl P E B all K pu rest (aput fr d v) H
def Kseq (P : Program) (E : Env) (B : List Tmp) (ND : List (Nat × List Nat)) (b : Code) (K : Exit → List AV → Hp → Prop) : Exit → List AV → Hp → Prop := fun e fr H => match e with
  | .normal => vc P E B ND b K fr H
  | e => K e fr H
def Kblk (id : Nat) (K : Exit → List AV → Hp → Prop) : Exit → List AV → Hp → Prop := fun e fr H => match e with
  | .exit id' => if id' = id then K .normal fr H else K (.exit id') fr H
  | e => K e fr H
def Kscp (K : Exit → List AV → Hp → Prop) : Exit → List AV → Hp → Prop := fun e fr H => match e with
  | .goto _ => False
  | e => K e fr H
def Kloop (I : List AV → Hp → Prop) (m : Nat) (μ : List AV → Hp → Nat) (K : Exit → List AV → Hp → Prop) : Exit → List AV → Hp → Prop := fun e fr H => match e with
  | .normal => I fr H ∧ μ fr H < m
  | e => K e fr H
def VGo (w : Option Bool) (P : Program) (E : Env) (B : List Tmp) (all : Array Oper) (K : List AV → Hp → Prop) (p : Nat) (pu : List Nat) (o : Oper) (rest : List Oper) (fr : List AV) (H : Hp) : Prop :=
  VWant w (VCall (acall fr o) (fun f args => PC P E f args H fun v H' => KP p E.S H H' ∧ vcl P E B all K pu rest (aput fr o.dst v) H') (LP p E.S fr o ∧ bindA (aop P B fr H o) fun v fr' H' => vcl P E B all K pu rest (aput fr' o.dst v) H')) (vcl P E B all K pu rest (aput fr o.dst (.raw undef)) H)
def VTry (c : Option (FuncId × List AV)) (P : Program) (E : Env) (B : List Tmp) (all : Array Oper) (K : List AV → Hp → Prop) (p : Nat) (pu : List Nat) (o : Oper) (rest : List Oper) (fr : List AV) (H : Hp) : Prop :=
  VCall c (fun f args => PC P E f args H fun v H' => KP p E.S H H' ∧ vcl P E B all K pu rest (aput fr o.dst v) H') (LP p E.S fr o ∧ bindA (aop P B fr H o) fun v fr' H' => vcl P E B all K pu rest (aput fr' o.dst v) H')
def VOp (r : Option (AV × List AV × Hp)) (P : Program) (E : Env) (B : List Tmp) (all : Array Oper) (K : List AV → Hp → Prop) (pu : List Nat) (rest : List Oper) (d : Option Tmp) : Prop := bindA r fun v fr' H' => vcl P E B all K pu rest (aput fr' d v) H'
def VC (x : AV) (P : Program) (E : Env) (B : List Tmp) (ND : List (Nat × List Nat)) (a b : Code) (K : Exit → List AV → Hp → Prop) (fr : List AV) (H : Hp) : Prop := VCond x (vc P E B ND a K fr H) (vc P E B ND b K fr H)
def VL (P : Program) (E : Env) (B : List Tmp) (ND : List (Nat × List Nat)) (c : Code) (K : Exit → List AV → Hp → Prop) (fr : List AV) (H : Hp) : Prop := VLoop (fun K fr H => vc P E B ND c K fr H) K fr H

section
variable {P : Program} {E : Env} {B : List Tmp} {ND : List (Nat × List Nat)} {all ops : Array Oper} {K : List AV → Hp → Prop} {KE : Exit → List AV → Hp → Prop} {rest : List Oper} {o : Oper} {fr : List AV} {H H0 : Hp} {a b : Code} {d : Option Tmp} {v : AV} {p : Nat} {pu : List Nat}

variable {S : Nat → Prop}
theorem KP_false : KP 0 S H0 H = True := rfl
theorem LP_0 : LP 0 S fr o = True := rfl
theorem LP_1 : LP 1 S fr o = True := rfl
theorem LP_2 : LP 2 S fr o = (LA S (aeval fr) o ∧ SA S (aeval fr) o) := rfl
theorem KP_same : KP p S H H = True := by unfold KP; split <;> simp [preH_refl]
theorem KP_app (J : Hp) : KP p S H (H ++ J) = True := by
  unfold KP; split
  · rfl
  · simp [preH]
  · refine eq_true ⟨by simp, fun i _ hi => List.getElem?_append_left hi⟩
theorem vcl_nil : vcl P E B all K pu [] fr H = K fr H := by rw [vcl]
theorem vcl_cons0 : vcl P E B all K [] (o :: rest) fr H = VGo (wantedA all fr o) P E B all K 0 [] o rest fr H := by rw [vcl]; rfl
theorem vcl_cons : vcl P E B all K (p :: pu) (o :: rest) fr H = VGo (wantedA all fr o) P E B all K p pu o rest fr H := by rw [vcl]; rfl
theorem VGo_true : VGo (some true) P E B all K p pu o rest fr H = VTry (acall fr o) P E B all K p pu o rest fr H := _root_.id rfl
theorem VGo_false : VGo (some false) P E B all K p pu o rest fr H = vcl P E B all K pu rest (aput fr o.dst (.raw undef)) H := _root_.id rfl
theorem VTry_none : VTry none P E B all K p pu o rest fr H = (LP p E.S fr o ∧ VOp (aop P B fr H o) P E B all K pu rest o.dst) := _root_.id rfl
theorem VTry_some (f : FuncId) (args : List AV) : VTry (some (f, args)) P E B all K p pu o rest fr H = PC P E f args H (Kcall P E B all K pu rest o.dst fr p H) := _root_.id rfl
theorem VOp_some (v : AV) (fr' : List AV) (H' : Hp) : VOp (some (v, fr', H')) P E B all K pu rest d = vcl P E B all K pu rest (aput fr' d v) H' := _root_.id rfl
theorem Kcall_eq : Kcall P E B all K pu rest d fr p H0 v H = (KP p E.S H0 H ∧ vcl P E B all K pu rest (aput fr d v) H) := _root_.id rfl
theorem vc_skip : vc P E B ND .skip KE fr H = KE .normal fr H := _root_.id rfl
theorem vc_region (id : Nat) (draw : Bool) : vc P E B ND (.region id ops draw) KE fr H = vcl P E B ops (KE .normal) (ndOf ND id) ops.toList fr H := _root_.id rfl
theorem vc_seq : vc P E B ND (.seq a b) KE fr H = vc P E B ND a (Kseq P E B ND b KE) fr H := _root_.id rfl
theorem vc_cond (c : Operand) : vc P E B ND (.cond c a b) KE fr H = VC (aeval fr c) P E B ND a b KE fr H := _root_.id rfl
theorem vc_block (id : Nat) : vc P E B ND (.block id a) KE fr H = vc P E B ND a (Kblk id KE) fr H := _root_.id rfl
theorem vc_scope : vc P E B ND (.scope a) KE fr H = vc P E B ND a (Kscp KE) fr H := _root_.id rfl
theorem vc_label (l : Nat) : vc P E B ND (.label l) KE fr H = KE .normal fr H := _root_.id rfl
theorem Kscp_normal : Kscp KE .normal fr H = KE .normal fr H := _root_.id rfl
theorem Kscp_ret : Kscp KE .ret fr H = KE .ret fr H := _root_.id rfl
theorem Kscp_exit (id : Nat) : Kscp KE (.exit id) fr H = KE (.exit id) fr H := _root_.id rfl
theorem vc_loop : vc P E B ND (.loop a) KE fr H = VL P E B ND a KE fr H := _root_.id rfl
theorem vc_exit (id : Nat) : vc P E B ND (.exit id) KE fr H = KE (.exit id) fr H := _root_.id rfl
theorem vc_ret : vc P E B ND .ret KE fr H = KE .ret fr H := _root_.id rfl
theorem Kseq_normal : Kseq P E B ND b KE .normal fr H = vc P E B ND b KE fr H := _root_.id rfl
theorem Kseq_exit (id : Nat) : Kseq P E B ND b KE (.exit id) fr H = KE (.exit id) fr H := _root_.id rfl
theorem Kseq_ret : Kseq P E B ND b KE .ret fr H = KE .ret fr H := _root_.id rfl
theorem Kblk_normal (id : Nat) : Kblk id KE .normal fr H = KE .normal fr H := _root_.id rfl
theorem Kblk_ret (id : Nat) : Kblk id KE .ret fr H = KE .ret fr H := _root_.id rfl
theorem Kblk_exit (id id' : Nat) : Kblk id KE (.exit id') fr H = if id' = id then KE .normal fr H else KE (.exit id') fr H := _root_.id rfl
theorem Kloop_ret (I : List AV → Hp → Prop) (m : Nat) (μ : List AV → Hp → Nat) : Kloop I m μ KE .ret fr H = KE .ret fr H := _root_.id rfl
theorem Kloop_exit (I : List AV → Hp → Prop) (m : Nat) (μ : List AV → Hp → Nat) (id : Nat) : Kloop I m μ KE (.exit id) fr H = KE (.exit id) fr H := _root_.id rfl
theorem Kloop_normal {I : List AV → Hp → Prop} {m : Nat} {μ : List AV → Hp → Nat} (h1 : I fr H) (h2 : μ fr H < m) : Kloop I m μ KE .normal fr H := ⟨h1, h2⟩
theorem VC_true : VC (.bool true) P E B ND a b KE fr H = vc P E B ND a KE fr H := VCond_true _ _
theorem VC_false : VC (.bool false) P E B ND a b KE fr H = vc P E B ND b KE fr H := VCond_false _ _
theorem VC_split {t : Bool} (h1 : t = true → vc P E B ND a KE fr H) (h2 : t = false → vc P E B ND b KE fr H) : VC (.bool t) P E B ND a b KE fr H := ⟨h1, h2⟩
theorem VGo_split {t : Bool} (h1 : t = true → VTry (acall fr o) P E B all K p pu o rest fr H) (h2 : t = false → vcl P E B all K pu rest (aput fr o.dst (.raw undef)) H) : VGo (some t) P E B all K p pu o rest fr H := VWant_split h1 h2
theorem VL_intro (I : List AV → Hp → Prop) (μ : List AV → Hp → Nat) (fr1 : List AV) (H1 : Hp) (h1 : nilL fr fr1) (h2 : nilH H H1) (h3 : I fr1 H1) (h4 : ∀ fr H, I fr H → vc P E B ND a (Kloop I (μ fr H) μ KE) fr H) : VL P E B ND a KE fr H := ⟨I, μ, fr1, H1, h1, h2, h3, h4⟩
end
end Go.Proofs.YtimhofphmgehgaaDoor
