/- THE ABSTRACT MACHINE: a region that draws its order is walked in the order of the text. For every program. -/
import Derived.Test.YtimhofphmgehgaaDoorAm11
set_option linter.unusedVariables false
set_option linter.unusedSimpArgs false
namespace Go.Proofs.YtimhofphmgehgaaDoor
open Go Go.RowKit

/-! ### An operation, out of its operands -/
abbrev OpR := Option (AV × Option Operand × Hp)
def eload (P : Program) (B : List Tmp) (d : Option Tmp) (t : TypeId) (H : Hp) : AV → OpR
  | .ptr (some (i, p)) => match H[i]?, trow P t with
    | some l, some true => match tsz P t with
      | some n => if p + n ≤ l.length ∧ ((l.drop p).take n).all (·.dis.free) then some (.agg (((l.drop p).take n).map AV.dis), none, H) else none
      | none => none
    | some l, some false => match l[p]? with
      | some v => if v.dis.free then (if inB B d then some (v, none, H.set i (l.set p v.dis)) else some (v.dis, none, H)) else none
      | none => none
    | _, _ => none
  | .elt l => match trow P t with
    | some true => if tsz P t = some l.length then some (.agg l, none, H) else none
    | some false => match l with
      | [v] => some (v, none, H)
      | _ => none
    | none => none
  | _ => none
def estore (P : Program) (t : TypeId) (y : Operand) (Y : AV) (H : Hp) : AV → OpR
  | .ptr (some (i, p)) => match H[i]?, acells Y with
    | some l, some cs => if tsz P t = some cs.length ∧ p + cs.length ≤ l.length then some (.raw undef, some y, H.set i (setR l p cs)) else none
    | _, _ => none
  | _ => none
def eappend (P : Program) (t t' : TypeId) (x : Operand) (X Y : AV) (H : Hp) : OpR := match tsl P t with
  | some e => match tsz P e, tby P e, tzc P e with
    | some k, some b, some z => match abase k X, asrc P t' k Y with
      | some rows, some rows' => if (z.length = k ∧ 0 < k) ∧ rows.length + rows'.length ≤ maxLen ∧ (rows.length + rows'.length) * b ≤ 140737488355328 then some (.sl true k (rows ++ rows'), some x, H) else none
      | _, _ => none
    | _, _, _ => none
  | none => none
def ebuiltin (P : Program) (b : Builtin) (xs : List Operand) (ts : List TypeId) (ρ : Operand → AV) (H : Hp) : OpR := match b, xs, ts with
  | .len, [x], [t] => (alen P t (ρ x)).map fun v => (v, none, H)
  | .append, [x, y], [t, t'] => eappend P t t' x (ρ x) (ρ y) H
  | .min, [x, y], _ => match ρ x, ρ y with
    | .int k a, .int _ b => some (.int k (if b < a then b else a), none, H)
    | _, _ => none
  | .max, [x, y], _ => match ρ x, ρ y with
    | .int k a, .int _ b => some (.int k (if b > a then b else a), none, H)
    | _, _ => none
  | _, _, _ => none
def eop (P : Program) (B : List Tmp) (ρ : Operand → AV) (H : Hp) (o : Oper) : OpR := match o.op with
  | .assign x => some (ρ x, some x, H)
  | .move x => if inB B o.dst then some (ρ x, some x, H) else some ((ρ x).dis, none, H)
  | .pick c a b => match ρ c with
    | .bool t => some ((if t then ρ a else ρ b).dis, none, H)
    | _ => none
  | .alloc t => (tzc P t).map fun l => (.ptr (some (H.length, 0)), none, H ++ [l])
  | .box t x => (acells (ρ x)).map fun l => (.ptr (some (H.length, 0)), some x, H ++ [l])
  | .build t parts => (abuild P t (parts.toList.map fun p => (p.1, ρ p.2))).map fun v => (v, none, H)
  | .buildSlice t n parts => (alit P t n (parts.toList.map fun p => (p.1, ρ p.2))).map fun v => (v, none, H)
  | .load t x => eload P B o.dst t H (ρ x)
  | .store t x y => estore P t y (ρ y) H (ρ x)
  | .nilCheck x => (anil (ρ x)).map fun v => (v, none, H)
  | .binOp op t x y _ => (abin P op t (ρ x) (ρ y)).map fun v => (v, none, H)
  | .unOp op _ x => (aun op (ρ x)).map fun v => (v, none, H)
  | .convert s d x => ((aconvB P s d (ρ x)).or (aconv P s d (ρ x))).map fun v => (v, none, H)
  | .makeSlice t l c => (amake P t (ρ l) (ρ c)).map fun v => (v, none, H)
  | .slice t x lo hi mx => (aslice P t (ρ x) (lo.map ρ) (hi.map ρ) (mx.map ρ)).map fun v => (v, none, H)
  | .fieldAddr t x f => (afaddr P t (ρ x) f).map fun v => (v, none, H)
  | .field t x f => (afield P t (ρ x) f).map fun v => (v, none, H)
  | .indexAddr t x i => (aixaddr P t (ρ x) (ρ i)).map fun v => (v, none, H)
  | .index t x i => (aix P t (ρ x) (ρ i)).map fun v => (v, none, H)
  | .extract x i => (aextract (ρ x) i).map fun v => (v, none, H)
  | .call c => match c.callee with
    | .builtin b => ebuiltin P b c.args.toList c.argTypes.toList ρ H
    | _ => none
  | _ => none

def fdisO (fr : List AV) : Option Operand → List AV
  | none => fr
  | some x => fdis fr x
def fin (fr : List AV) (r : OpR) : Option (AV × List AV × Hp) := r.map fun (v, x, H) => (v, fdisO fr x, H)

theorem fin_map {α : Type} (fr : List AV) (x : Option α) (g : α → AV) (H : α → Hp) : fin fr (x.map fun v => (g v, none, H v)) = x.map fun v => (g v, fr, H v) := by
  cases x <;> rfl

theorem aappend_e (P : Program) (t t' : TypeId) (x y : Operand) (fr : List AV) (H : Hp) : aappend P t t' x y fr H = fin fr (eappend P t t' x (aeval fr x) (aeval fr y) H) := by
  unfold aappend eappend
  cases tsl P t with
  | none => rfl
  | some e =>
    simp only
    cases tsz P e with
    | none => rfl
    | some k =>
      cases tby P e with
      | none => rfl
      | some b =>
        cases tzc P e with
        | none => rfl
        | some z =>
          simp only
          cases abase k (aeval fr x) with
          | none => rfl
          | some r =>
            cases asrc P t' k (aeval fr y) with
            | none => rfl
            | some r' => simp only; split <;> rfl
theorem abuiltin_e (P : Program) (b : Builtin) (xs : List Operand) (ts : List TypeId) (fr : List AV) (H : Hp) : abuiltin P b xs ts fr H = fin fr (ebuiltin P b xs ts (aeval fr) H) := by
  unfold abuiltin
  split
  · unfold ebuiltin; exact (fin_map ..).symm
  · unfold ebuiltin; exact aappend_e ..
  · simp only [ebuiltin]
    split
    · rename_i h1 h2; simp only [h1, h2]; rfl
    · rename_i h1
      split
      · rename_i h2 h3; exact absurd h3 (fun h3 => h1 _ _ _ _ h2 h3)
      · rfl
  · simp only [ebuiltin]
    split
    · rename_i h1 h2; simp only [h1, h2]; rfl
    · rename_i h1
      split
      · rename_i h2 h3; exact absurd h3 (fun h3 => h1 _ _ _ _ h2 h3)
      · rfl
  · rename_i h1 h2 h3 h4
    unfold ebuiltin
    split <;> first | rfl | (exfalso; solve_by_elim)
theorem one_e (l : List AV) (fr : List AV) (H : Hp) : (match l with | [v] => some (v, fr, H) | _ => none) = fin fr (match l with | [v] => some (v, (none : Option Operand), H) | _ => none) := by
  rcases l with _ | ⟨x, _ | ⟨y, l⟩⟩ <;> rfl
theorem aload_e (P : Program) (B : List Tmp) (d : Option Tmp) (t : TypeId) (fr : List AV) (H : Hp) (X : AV) : aload P B d t fr H X = fin fr (eload P B d t H X) := by
  unfold aload
  split
  · unfold eload
    simp only
    split
    · rename_i h1 h2
      simp only [h1, h2]
      cases tsz P t with
      | none => rfl
      | some n => simp only; split <;> rfl
    · rename_i l h1 h2
      simp only [h1, h2]
      rename_i p _ _
      cases l[p]? with
      | none => rfl
      | some n => simp only; split <;> (try split) <;> rfl
    · rename_i h1 h2
      split
      · rename_i h3 h4; exact absurd h4 (fun h4 => h1 _ h3 h4)
      · rename_i h3 h4; exact absurd h4 (fun h4 => h2 _ h3 h4)
      · rfl
  · unfold eload
    simp only
    split
    · rename_i h1; simp only [h1]; split <;> rfl
    · rename_i h1; simp only [h1]; exact one_e ..
    · rename_i h1; simp only [h1]; rfl
  · rename_i h1 h2
    unfold eload
    split
    · exact absurd rfl (h1 _ _)
    · exact absurd rfl (h2 _)
    · rfl
theorem astore_e (P : Program) (t : TypeId) (y : Operand) (fr : List AV) (H : Hp) (X : AV) : astore P t y fr H X = fin fr (estore P t y (aeval fr y) H X) := by
  unfold astore
  split
  · rename_i i p
    unfold estore
    simp only
    cases H[i]? with
    | none => rfl
    | some l =>
      cases acells (aeval fr y) with
      | none => rfl
      | some cs => simp only; split <;> rfl
  · rename_i h1
    unfold estore
    split
    · exact absurd rfl (h1 _ _)
    · rfl
theorem aop_eop (P : Program) (B : List Tmp) (fr : List AV) (H : Hp) (o : Oper) : aop P B fr H o = fin fr (eop P B (aeval fr) H o) := by
  unfold aop eop
  cases o.op
  case call c =>
    simp only
    cases c.callee <;> first | exact abuiltin_e .. | rfl
  case load t x => exact aload_e ..
  case store t x y => exact astore_e ..
  case move x => simp only; split <;> rfl
  case pick c a b => simp only; cases aeval fr c <;> rfl
  case box t x => simp only; cases acells (aeval fr x) <;> rfl
  all_goals first | rfl | exact (fin_map ..).symm

theorem ebuiltin_congr {P : Program} {b : Builtin} {xs : List Operand} {ts : List TypeId} {ρ ρ' : Operand → AV} {H : Hp} (hm : ∀ x ∈ xs, ρ' x = ρ x) : ebuiltin P b xs ts ρ' H = ebuiltin P b xs ts ρ H := by
  unfold ebuiltin
  split
  · rename_i x t; rw [hm x (by simp)]
  · rename_i x y t t'; rw [hm x (by simp), hm y (by simp)]
  · rename_i x y; rw [hm x (by simp), hm y (by simp)]
  · rename_i x y; rw [hm x (by simp), hm y (by simp)]
  · rfl
/-- The operands alone. -/
theorem eop_congr (P : Program) (B : List Tmp) {ρ ρ' : Operand → AV} (H : Hp) (o : Oper) (h : ∀ x ∈ o.op.operands, ρ' x = ρ x) : eop P B ρ' H o = eop P B ρ H o := by
  unfold eop
  cases ho : o.op <;> rw [ho] at h <;> simp only [Op.operands] at h
  case call c =>
    simp only
    cases hc : c.callee <;> try rfl
    rename_i b
    have hx : ∀ x ∈ c.args, ρ' x = ρ x := fun x hx => h x (by simp [Call.operands, hx])
    have hm : ∀ x ∈ c.args.toList, ρ' x = ρ x := fun x hx' => hx x (by simpa using hx')
    exact ebuiltin_congr hm
  case build t ps =>
    simp only
    rw [List.map_congr_left (fun p hp => by rw [h p.2 (by simp; exact ⟨p.1, by simpa using hp⟩)])]
  case buildSlice t n ps =>
    simp only
    rw [List.map_congr_left (fun p hp => by rw [h p.2 (by simp; exact ⟨p.1, by simpa using hp⟩)])]
  case slice t x lo hi mx =>
    simp only
    rw [h x (by simp)]
    have : lo.map ρ' = lo.map ρ ∧ hi.map ρ' = hi.map ρ ∧ mx.map ρ' = mx.map ρ := by
      refine ⟨?_, ?_, ?_⟩
      · cases lo with
        | none => rfl
        | some y => simp only [Option.map_some, Option.some.injEq]; exact h y (by simp)
      · cases hi with
        | none => rfl
        | some y => simp only [Option.map_some, Option.some.injEq]; exact h y (by simp)
      · cases mx with
        | none => rfl
        | some y => simp only [Option.map_some, Option.some.injEq]; exact h y (by simp)
    rw [this.1, this.2.1, this.2.2]
  case pick c a b => simp only; rw [h c (by simp), h a (by simp), h b (by simp)]
  case assign x => simp only; rw [h x (by simp)]
  case move x => simp only; rw [h x (by simp)]
  case box t x => simp only; rw [h x (by simp)]
  case load t x => simp only; rw [h x (by simp)]
  case store t x y => simp only; rw [h x (by simp), h y (by simp)]
  case nilCheck x => simp only; rw [h x (by simp)]
  case binOp op t x y z => simp only; rw [h x (by simp), h y (by simp)]
  case unOp op z x => simp only; rw [h x (by simp)]
  case convert s d x => simp only; rw [h x (by simp)]
  case makeSlice t l c => simp only; rw [h l (by simp), h c (by simp)]
  case fieldAddr t x f => simp only; rw [h x (by simp)]
  case field t x f => simp only; rw [h x (by simp)]
  case indexAddr t x i => simp only; rw [h x (by simp), h i (by simp)]
  case index t x i => simp only; rw [h x (by simp), h i (by simp)]
  case extract x i => simp only; rw [h x (by simp)]
  all_goals rfl

/-! ### Kinds -/
def tmO : Operand → List Tmp
  | .tmp t => [t]
  | _ => []
/-- The slots whose value is taken along. -/
def tkO (B : List Tmp) (o : Oper) : List Tmp := match o.op with
  | .assign x | .box _ x | .store _ _ x => tmO x
  | .move x => if inB B o.dst then tmO x else []
  | .call c => match c.callee with
    | .builtin _ => (match c.args.toList with | x :: _ => tmO x | [] => [])
    | _ => []
  | _ => []
def kVal (B : List Tmp) (o : Oper) : Bool := match o.op with
  | .assign x => (tmO x).isEmpty
  | .move _ => !inB B o.dst
  | .pick .. | .build .. | .buildSlice .. | .nilCheck .. | .binOp .. | .unOp .. | .convert .. | .makeSlice .. | .slice .. | .fieldAddr .. | .field .. | .indexAddr .. | .index .. | .extract .. => true
  | .call c => match c.callee with
    | .builtin .len | .builtin .min | .builtin .max => true
    | _ => false
  | _ => false
def kLd (B : List Tmp) (o : Oper) : Bool := match o.op with
  | .load .. => !inB B o.dst
  | _ => false
/-- Leaves the boxes alone, but for new ones. -/
def kSt (B : List Tmp) (o : Oper) : Bool := kVal B o || kLd B o || match o.op with
  | .assign _ | .move _ | .alloc _ | .box .. | .load .. => true
  | .call c => (match c.callee with
    | .builtin _ => true
    | _ => false)
  | _ => false
def kCl (o : Oper) : Bool := match o.op with
  | .call c => (match c.callee with
    | .value _ => true
    | _ => false)
  | _ => false
def kSo (o : Oper) : Bool := match o.op with
  | .store .. => true
  | _ => false
def mvB (B : List Tmp) (o : Oper) : Bool := kVal B o || kLd B o
/-- x may be taken ahead of y and behind it. -/
def mvOk (B : List Tmp) (all : Array Oper) (x y : Oper) (q p : Nat) : Bool := (tkO B y).all (fun t => !(x.looksAt all).contains t) && (kVal B x || (kLd B x && (kSt B y || (kCl y && (p == 1 || (p == 2 && q == 2))) || (kSo y && p == 2 && q == 2))))
def okP (B : List Tmp) (all : Array Oper) (x y : Oper) (px py : Nat) : Bool := x.apart all y && (if mvB B y then mvOk B all y x py px else mvOk B all x y px py)
/-- THE TEST. -/
def regA (B : List Tmp) (pf : List Nat) (ops : Array Oper) : Bool :=
  let M := (Region.before ops).toList
  backB ops && closeB M ops &&
  ((List.range ops.size).all fun j => match ops[j]? with
    | some oj => ((List.range j).all fun i => (M.getD j 0).testBit i || match ops[i]? with
      | some oi => okP B ops oi oj (pf.getD i 0) (pf.getD j 0)
      | none => false)
    | none => false)

section
variable {P : Program} {B : List Tmp} {ρ ρ' : Operand → AV} {H H' H1 H2 : Hp} {o : Oper} {v : AV} {x : Option Operand}

theorem map3 {α : Type} {y : Option α} {g : α → AV} {t : Option Operand} (h : (y.map fun v => (g v, t, H)) = some (v, x, H')) : ∃ u, y = some u ∧ g u = v ∧ t = x ∧ H = H' := by
  cases y with
  | none => cases h
  | some u => simp only [Option.map_some, Option.some.injEq, Prod.mk.injEq] at h; exact ⟨u, rfl, h⟩

/-- What is taken along. -/
theorem eop_tk (h : eop P B ρ H o = some (v, x, H')) : ∀ t, x = some (.tmp t) → t ∈ tkO B o := by
  unfold eop at h
  unfold tkO
  cases ho : o.op <;> rw [ho] at h <;> simp only at h ⊢
  case call c =>
    split at h
    · rename_i b hb
      try rw [hb]
      unfold ebuiltin at h
      split at h
      · obtain ⟨u, _, _, rfl, _⟩ := map3 h; intro t ht; cases ht
      · rename_i y z t t' e1 e2
        unfold eappend at h
        rw [e1]
        split at h
        · split at h
          · split at h
            · split at h
              · cases h; intro t ht; cases ht; simp [tmO]
              · cases h
            · cases h
          · cases h
        · cases h
      · split at h
        · cases h; intro t ht; cases ht
        · cases h
      · split at h
        · cases h; intro t ht; cases ht
        · cases h
      · cases h
    · cases h
  case load t y =>
    unfold eload at h
    split at h
    · split at h
      · split at h
        · split at h
          · cases h; intro t ht; cases ht
          · cases h
        · cases h
      · split at h
        · split at h
          · split at h <;> (cases h; intro t ht; cases ht)
          · cases h
        · cases h
      · cases h
    · split at h
      · split at h
        · cases h; intro t ht; cases ht
        · cases h
      · split at h
        · cases h; intro t ht; cases ht
        · cases h
      · cases h
    · cases h
  case store t y z =>
    unfold estore at h
    split at h
    · split at h
      · split at h
        · cases h; intro t ht; cases ht; simp [tmO]
        · cases h
      · cases h
    · cases h
  case assign y => cases h; intro t ht; cases ht; simp [tmO]
  case move y =>
    split at h
    · rename_i hb; cases h; intro t ht; cases ht; simp [tmO, hb]
    · cases h; intro t ht; cases ht
  case pick c a b =>
    split at h
    · cases h; intro t ht; cases ht
    · cases h
  case box t y =>
    cases hq : acells (ρ y) with
    | none => rw [hq] at h; cases h
    | some l => rw [hq] at h; cases h; intro t ht; cases ht; simp [tmO]
  case alloc t =>
    cases hq : tzc P t with
    | none => rw [hq] at h; cases h
    | some l => rw [hq] at h; cases h; intro t ht; cases ht
  all_goals first
    | (obtain ⟨u, _, _, rfl, _⟩ := map3 h; intro t ht; cases ht)
    | cases h

theorem ebuiltin_val {b : Builtin} {xs : List Operand} {ts : List TypeId} (hk : b = .len ∨ b = .min ∨ b = .max) (h : ebuiltin P b xs ts ρ H = some (v, x, H')) : H' = H ∧ (∀ t, x ≠ some (.tmp t)) ∧ ∀ H2, ebuiltin P b xs ts ρ H2 = some (v, x, H2) := by
  unfold ebuiltin at h ⊢
  split at h
  · obtain ⟨u, e, rfl, rfl, rfl⟩ := map3 h
    exact ⟨rfl, fun s => nofun, fun _ => by simp only [e]; rfl⟩
  · simp at hk
  · split at h
    · cases h
      rename_i h1 h2
      exact ⟨rfl, fun s => nofun, fun _ => by simp only [h1, h2]⟩
    · cases h
  · split at h
    · cases h
      rename_i h1 h2
      exact ⟨rfl, fun s => nofun, fun _ => by simp only [h1, h2]⟩
    · cases h
  · cases h
/-- A value of the operands alone. -/
theorem eop_val (hk : kVal B o = true) (h : eop P B ρ H o = some (v, x, H')) : H' = H ∧ (∀ t, x ≠ some (.tmp t)) ∧ ∀ H2, eop P B ρ H2 o = some (v, x, H2) := by
  unfold kVal at hk
  have go : ∀ {α : Type} {y : Option α} {g : α → AV} {t : Option Operand} {H : Hp}, (∀ s, t ≠ some (.tmp s)) → (y.map fun v => (g v, t, H)) = some (v, x, H') → H' = H ∧ (∀ t, x ≠ some (.tmp t)) ∧ ∀ H2 : Hp, (y.map fun v => (g v, t, H2)) = some (v, x, H2) := by
    intro α y g t H ht h
    obtain ⟨u, rfl, rfl, rfl, rfl⟩ := map3 h
    exact ⟨rfl, ht, fun _ => rfl⟩
  unfold eop at h ⊢
  cases ho : o.op <;> rw [ho] at h hk <;> simp only at h hk ⊢ <;> try (first | exact go (fun s => nofun) h | (cases hk; done))
  case call c =>
    split at hk
    · rename_i hb; rw [hb] at h ⊢; simp only at h ⊢; exact ebuiltin_val (.inl rfl) h
    · rename_i hb; rw [hb] at h ⊢; simp only at h ⊢; exact ebuiltin_val (.inr (.inl rfl)) h
    · rename_i hb; rw [hb] at h ⊢; simp only at h ⊢; exact ebuiltin_val (.inr (.inr rfl)) h
    · cases hk
  case assign y =>
    cases h
    refine ⟨rfl, fun t ht => ?_, fun _ => rfl⟩
    cases ht
    simp [tmO] at hk
  case move y =>
    have hb : inB B o.dst = false := by simpa using hk
    rw [hb] at h
    simp only [Bool.false_eq_true, if_false] at h
    cases h
    exact ⟨rfl, fun s => nofun, fun _ => by simp [hb]⟩
  case pick c a b =>
    split at h
    · rename_i h1
      cases h
      exact ⟨rfl, fun s => nofun, fun _ => rfl⟩
    · cases h

/-- H' has the boxes of H, but for what has been taken along. -/
def preD (S : Nat → Prop) (H H' : Hp) : Prop := ∀ (i : Nat) (l : List AV), S i → H[i]? = some l → ∃ l' : List AV, H'[i]? = some l' ∧ l'.map AV.dis = l.map AV.dis
theorem preD_refl {S : Nat → Prop} (H : Hp) : preD S H H := fun i l _ h => ⟨l, h, rfl⟩
theorem preD_trans {S : Nat → Prop} (h : preD S H H1) (k : preD S H1 H2) : preD S H H2 := fun i l hs hl => by
  obtain ⟨l1, h1, e1⟩ := h i l hs hl
  obtain ⟨l2, h2, e2⟩ := k i l1 hs h1
  exact ⟨l2, h2, e2.trans e1⟩
theorem preH_refl (H : Hp) : preH H H := ⟨[], by simp⟩
theorem preD_mono {S S' : Nat → Prop} (h : preD S H H1) (hs : ∀ i, S' i → S i) : preD S' H H1 := fun i l hi hl => h i l (hs i hi) hl
theorem preH.D {S : Nat → Prop} (h : preH H H1) : preD S H H1 := fun i l _ hl => by
  obtain ⟨J, rfl⟩ := h
  exact ⟨l, by rw [List.getElem?_append_left (List.getElem?_eq_some_iff.1 hl).1]; exact hl, rfl⟩
theorem dis_dis (x : AV) : x.dis.dis = x.dis := by cases x <;> rfl
/-- A load that takes nothing along sees what may be copied alone. -/
def eloadD (P : Program) (t : TypeId) (p : Nat) (L : List AV) : Option AV := match trow P t with
  | some true => match tsz P t with
    | some n => if p + n ≤ L.length ∧ ((L.drop p).take n).all (·.free) then some (.agg ((L.drop p).take n)) else none
    | none => none
  | some false => match L[p]? with
    | some v => if v.free then some v else none
    | none => none
  | none => none
theorem eload_D {d : Option Tmp} {t : TypeId} {i p : Nat} (hb : inB B d = false) : eload P B d t H (.ptr (some (i, p))) = ((H[i]?).bind fun l => eloadD P t p (l.map AV.dis)).map fun v => (v, none, H) := by
  unfold eload eloadD
  dsimp only
  generalize H[i]? = q
  cases q with
  | none => rfl
  | some l =>
    simp only [Option.bind_some]
    generalize trow P t = r
    cases r with
    | none => rfl
    | some b =>
      cases b with
      | true =>
        simp only
        generalize tsz P t = z
        cases z with
        | none => rfl
        | some n =>
          simp only [List.length_map, ← List.map_drop, ← List.map_take, List.all_map, Function.comp_def]
          split <;> rfl
      | false =>
        simp only [List.getElem?_map]
        generalize l[p]? = z
        cases z with
        | none => rfl
        | some v =>
          simp only [Option.map_some, hb, Bool.false_eq_true, if_false]
          split <;> rfl
/-- A load. -/
theorem eop_ld {S : Nat → Prop} (hk : kLd B o = true) (hS : LA S ρ o) (h : eop P B ρ H o = some (v, x, H')) : H' = H ∧ x = none ∧ ∀ H2, preD S H H2 → eop P B ρ H2 o = some (v, none, H2) := by
  unfold kLd at hk
  split at hk
  · rename_i t y ho
    have hb : inB B o.dst = false := by simpa using hk
    unfold eop at h ⊢
    simp only [ho] at h ⊢
    by_cases hp : ∃ i p, ρ y = .ptr (some (i, p))
    · obtain ⟨i, p, hp⟩ := hp
      have hSi : S i := by simpa only [LA, ho, hp] using hS
      rw [hp, eload_D hb] at h
      cases hl : H[i]? with
      | none => rw [hl] at h; cases h
      | some l =>
        rw [hl] at h
        obtain ⟨u, e, rfl, rfl, rfl⟩ := map3 h
        refine ⟨rfl, rfl, fun H2 hH => ?_⟩
        obtain ⟨l', h1, h2⟩ := hH i l hSi hl
        rw [hp, eload_D hb, h1]
        rw [Option.bind_some] at e ⊢
        rw [h2, e]; rfl
    · unfold eload at h ⊢
      split at h
      · rename_i i p heq; exact absurd ⟨i, p, heq⟩ hp
      · split at h
        · rename_i h1
          split at h
          · rename_i h2
            cases h
            refine ⟨rfl, rfl, fun H2 hH => ?_⟩
            rw [if_pos h2]
          · cases h
        · rename_i h1
          split at h
          · cases h
            exact ⟨rfl, rfl, fun H2 hH => by simp only [h1]⟩
          · cases h
        · cases h
      · cases h
  · cases hk
/-- .. where its address was there already. -/
theorem eop_ld_back {S : Nat → Prop} (hk : kLd B o = true) (hS : LA S ρ o) (hH : preD S H H2) (hb : ∀ y ∈ o.op.operands, Bnd H.length (ρ y)) (h : eop P B ρ H2 o = some (v, x, H')) : eop P B ρ H o = some (v, none, H) := by
  unfold kLd at hk
  split at hk
  · rename_i t y ho
    have hbB : inB B o.dst = false := by simpa using hk
    have hy := hb y (by rw [ho]; simp [Op.operands])
    unfold eop at h ⊢
    simp only [ho] at h ⊢
    by_cases hp : ∃ i p, ρ y = .ptr (some (i, p))
    · obtain ⟨i, p, hp⟩ := hp
      have hSi : S i := by simpa only [LA, ho, hp] using hS
      rw [hp] at hy
      have hi : i < H.length := by cases hy; assumption
      have hl : H[i]? = some H[i] := List.getElem?_eq_getElem hi
      obtain ⟨l', h1, h2⟩ := hH i _ hSi hl
      rw [hp, eload_D hbB, h1, Option.bind_some, h2] at h
      rw [hp, eload_D hbB, hl, Option.bind_some]
      obtain ⟨u, e, rfl, rfl, rfl⟩ := map3 h
      rw [e]; rfl
    · unfold eload at h ⊢
      split at h
      · rename_i i p heq; exact absurd ⟨i, p, heq⟩ hp
      · split at h
        · rename_i h1
          split at h
          · rename_i h2
            cases h
            simp only [h1, h2, if_true]
          · cases h
        · rename_i h1
          split at h
          · cases h
            simp only [h1]
          · cases h
        · cases h
      · cases h
  · cases hk

theorem eop_st {S : Nat → Prop} (hk : kSt B o = true) (h : eop P B ρ H o = some (v, x, H')) : preD S H H' := by
  unfold kSt at hk
  simp only [Bool.or_eq_true] at hk
  rcases hk with (hk | hk) | hk
  · rw [(eop_val hk h).1]; exact preD_refl _
  · rw [(eop_ld (S := fun _ => True) hk (by unfold LA; split <;> (try split) <;> trivial) h).1]; exact preD_refl _
  · unfold eop at h
    cases ho : o.op <;> rw [ho] at h hk <;> simp only at h hk <;> try (cases hk; done)
    case call c =>
      split at h
      · rename_i b hb
        unfold ebuiltin at h
        split at h
        · obtain ⟨u, _, _, _, rfl⟩ := map3 h; exact preD_refl _
        · unfold eappend at h
          split at h
          · split at h
            · split at h
              · split at h
                · cases h; exact preD_refl _
                · cases h
              · cases h
            · cases h
          · cases h
        · split at h
          · cases h; exact preD_refl _
          · cases h
        · split at h
          · cases h; exact preD_refl _
          · cases h
        · cases h
      · cases h
    case load t y =>
      unfold eload at h
      split at h
      · split at h
        · split at h
          · split at h
            · cases h; exact preD_refl _
            · cases h
          · cases h
        · split at h
          · split at h
            · split at h
              · rename_i i p heq _ _ l hl htr _ u hu h1 h2
                cases h
                intro j m _ hm
                by_cases hij : j = i
                · subst hij
                  rw [hl] at hm
                  cases hm
                  refine ⟨_, List.getElem?_set_self (List.getElem?_eq_some_iff.1 hl).1, ?_⟩
                  rw [List.map_set, dis_dis]
                  refine List.ext_getElem? fun q => ?_
                  by_cases hq : q = p
                  · subst hq
                    rw [List.getElem?_set_self (by rw [List.length_map]; exact (List.getElem?_eq_some_iff.1 hu).1), List.getElem?_map, hu]; rfl
                  · rw [List.getElem?_set_ne (Ne.symm hq)]
                · exact ⟨m, by rw [List.getElem?_set_ne (Ne.symm hij)]; exact hm, rfl⟩
              · cases h; exact preD_refl _
            · cases h
          · cases h
        · cases h
      · split at h
        · split at h
          · cases h; exact preD_refl _
          · cases h
        · split at h
          · cases h; exact preD_refl _
          · cases h
        · cases h
      · cases h
    case assign y => cases h; exact preD_refl _
    case move y => split at h <;> (cases h; exact preD_refl _)
    case alloc t =>
      cases hq : tzc P t with
      | none => rw [hq] at h; cases h
      | some l => rw [hq] at h; cases h; exact preH.D ⟨_, rfl⟩
    case box t y =>
      cases hq : acells (ρ y) with
      | none => rw [hq] at h; cases h
      | some l => rw [hq] at h; cases h; exact preH.D ⟨_, rfl⟩
end
end Go.Proofs.YtimhofphmgehgaaDoor
