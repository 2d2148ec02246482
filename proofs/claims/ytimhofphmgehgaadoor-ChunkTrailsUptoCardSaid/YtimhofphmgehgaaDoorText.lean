/- A region that draws its order is walked in the order of the text: 'region_text' (nothing unordered could see one another) and 'region_held' (loads beside calls and other writes: the blocks S that are loaded stay as they were). For every program. -/
import Derived.Test.YtimhofphmgehgaaDoorCalm3
set_option linter.unusedVariables false
set_option linter.unusedSimpArgs false
namespace Go.Proofs.YtimhofphmgehgaaDoor
open Go

section
variable {P : Program}

/-- Always calm. -/
def kA (P : Program) (o : Oper) : Bool := match o.op with
  | .move _ | .assign _ | .pick .. | .unOp .. | .field .. | .indexAddr .. | .index .. | .slice .. | .extract .. => true
  | .fieldAddr s _ f => fieldB P s f
  | _ => false
/-- Calm, if its operands are plain. -/
def kD (P : Program) (o : Oper) : Bool := match o.op with
  | .binOp .. | .nilCheck _ => true
  | .convert s d _ => (match P.underlying s, P.underlying d with | some (.int _), some (.int _) => true | _, _ => false)
  | .call { callee := .builtin .len, .. } | .call { callee := .builtin .cap, .. } | .call { callee := .builtin .min, .. } | .call { callee := .builtin .max, .. } => true
  | _ => false
def kL (o : Oper) : Bool := match o.op with | .load .. => true | _ => false
def kM (o : Oper) : Bool := match o.op with | .alloc _ | .box .. | .buildSlice .. => true | _ => false
/-- .. that they are plain. -/
def condB (o : Oper) (ρ : Operand → Value) : Bool := match o.op with
  | .binOp op _ x y _ => plainPair op (ρ x) (ρ y)
  | .nilCheck x => (match ρ x with | .func (.method _) _ _ => false | _ => true)
  | .convert _ _ x => intB (ρ x)
  | .call { callee := .builtin .len, args, .. } | .call { callee := .builtin .cap, args, .. } => ((args.map ρ)[0]?).all lenB
  | .call { callee := .builtin .min, args, .. } | .call { callee := .builtin .max, args, .. } => (args.map ρ).toList.all intB
  | _ => true

theorem kA_calm {o : Oper} (h : kA P o = true) (ρ : Operand → Value) : CalmV P (execOp ρ o) := by
  unfold kA at h
  unfold execOp
  split at h <;> simp_all only [Bool.false_eq_true]
  · exact .inl ⟨_, fun _ => rfl⟩
  · exact .inl ⟨_, fun _ => rfl⟩
  · rename_i c a b _
    rcases calm_asBool (P := P) (ρ c) with ⟨v, hv⟩ | hh
    · exact .inl ⟨_, fun w => by rw [Sem.run_bind, hv w]; rfl⟩
    · exact .inr (Halts.left hh)
  · exact calmV (calm_unary _ _)
  · exact calmV (calm_field _ _ _)
  · exact calmV (calm_indexAt _ _ _)
  · exact calmV (calm_index _ _ _)
  · exact calmV (calm_sliceAt _ _ _ _ _)
  · exact calmV (calm_extract _ _)
  · exact calmV (calm_fieldAt _ _ _ h)

theorem calm_convert {s d : TypeId} {x : Value} (hx : intB x = true) (hs : ∃ k, P.underlying s = some (.int k)) (hd : ∃ k, P.underlying d = some (.int k)) : Calm P (convert s d x) := by
  obtain ⟨k, hs⟩ := hs
  obtain ⟨j, hd⟩ := hd
  cases x <;> simp [intB] at hx
  · rename_i q n
    exact .inl ⟨.int j (j.wrap n), fun w => by simp [convert, run_underlying' hs, run_underlying' hd, Sem.run_bind, Conv.intToInt]⟩
  · exact .inr fun w => ⟨.unsupported (.noEntry "convert/other"), w, by simp [convert, run_underlying' hs, run_underlying' hd, Sem.run_bind]⟩

theorem kD_calm {o : Oper} (h : kD P o = true) (ρ : Operand → Value) (hc : condB o ρ = true) : CalmV P (execOp ρ o) := by
  unfold kD at h
  unfold condB at hc
  unfold execOp
  split at h <;> simp_all only [Bool.false_eq_true]
  · exact calmV (calm_bind (calm_eqGuard _ _ _ _ _ _ (plain_noAgg hc)) fun _ => calm_binOp _ _ _ _ hc)
  · rename_i z x heq
    generalize ρ x = v at *
    cases v with
    | pointer a =>
      cases a
      · exact .inr (halts_runtimePanic _)
      · exact .inl ⟨_, fun _ => rfl⟩
    | func f a b =>
      cases f <;> simp only [Bool.false_eq_true] at hc <;> exact .inl ⟨_, fun _ => rfl⟩
    | nilIface => exact .inr (halts_runtimePanic _)
    | nilFunc => exact .inr (halts_runtimePanic _)
    | _ => exact .inl ⟨_, fun _ => rfl⟩
  · rename_i z s d x heq
    split at h
    · rename_i k j hs hd
      exact calmV (calm_convert hc ⟨_, hs⟩ ⟨_, hd⟩)
    · cases h
  · rename_i z as ts heq
    have e := calmV (calm_len (P := P) ts o.type _ hc)
    simpa [resolve, invoke, builtin] using e
  · rename_i z as ts heq
    have e := calmV (calm_cap (P := P) ts o.type _ hc)
    simpa [resolve, invoke, builtin] using e
  · rename_i z as ts heq
    have e := calmV (calm_min (P := P) ts o.type _ hc)
    simpa [resolve, invoke, builtin] using e
  · rename_i z as ts heq
    have e := calmV (calm_max (P := P) ts o.type _ hc)
    simpa [resolve, invoke, builtin] using e

/-! Loads. -/
theorem run_load_eq (a : Addr) (w : World) : (load a).run P w = match w.cell? a with
    | some v => .ok v w
    | none => match w.farLoad P a (Mode.plain == Mode.atomic) with
      | .ok r => .ok r.1 w
      | .error h => .halt h w := by
  unfold load
  simp only [Sem.run]
  cases w.cell? a with
  | some v => rfl
  | none => cases w.farLoad P a (Mode.plain == Mode.atomic) <;> rfl
theorem load_world (a : Addr) (w : World) : (∃ v, (load a).run P w = .ok v w) ∨ (∃ h w', (load a).run P w = .halt h w') := by
  rw [run_load_eq]
  cases w.cell? a with
  | some v => exact .inl ⟨v, rfl⟩
  | none =>
    cases hf : w.farLoad P a (Mode.plain == Mode.atomic) with
    | ok r => exact .inl ⟨r.1, by simp only [hf]⟩
    | error h => exact .inr ⟨h, w, by simp only [hf]⟩
theorem loadCellsFrom_world (a : Addr) : ∀ (n i : Nat) (acc : Array Value) (w : World), (∃ v, (loadCellsFrom a i n acc).run P w = .ok v w) ∨ (∃ h w', (loadCellsFrom a i n acc).run P w = .halt h w')
  | 0, i, acc, w => .inl ⟨acc, rfl⟩
  | n + 1, i, acc, w => by
    simp only [loadCellsFrom, Sem.run_bind]
    rcases load_world (P := P) (a.add i) w with ⟨v, hv⟩ | ⟨h, w', hh⟩
    · rw [hv]; exact loadCellsFrom_world a n (i + 1) _ w
    · rw [hh]; exact .inr ⟨h, w', rfl⟩

/-- Two worlds in which a load gives the same: whatever a single load gives in the first, it gives in the second. -/
def Like (P : Program) (a : Addr) (w w' : World) : Prop := ∀ i v, (load (a.add i)).run P w = .ok v w → (load (a.add i)).run P w' = .ok v w'

theorem loadCellsFrom_like {a : Addr} {w w' : World} (hl : Like P a w w') : ∀ (n i : Nat) (acc r : Array Value), (loadCellsFrom a i n acc).run P w = .ok r w → (loadCellsFrom a i n acc).run P w' = .ok r w'
  | 0, i, acc, r, h => by
    have : acc = r := by simpa [loadCellsFrom] using h
    subst this; rfl
  | n + 1, i, acc, r, h => by
    simp only [loadCellsFrom, Sem.run_bind] at h ⊢
    rcases load_world (P := P) (a.add i) w with ⟨v, hv⟩ | ⟨x, w1, hh⟩
    · rw [hv] at h
      rw [hl i v hv]
      exact loadCellsFrom_like hl n (i + 1) _ r h
    · rw [hh] at h; cases h

theorem loadVar_world (t : TypeId) (a : Addr) (w : World) : (∃ v, (loadVar t a).run P w = .ok v w) ∨ (∃ h w', (loadVar t a).run P w = .halt h w') := by
  unfold loadVar
  rw [Sem.run_bind]
  rcases calm_isAgg (P := P) t with ⟨b, hb⟩ | hh
  · rw [hb w]
    simp only [Result.andThen_ok]
    cases b
    · exact load_world a w
    · simp only [if_true, Sem.run_bind]
      rcases calm_sizeOf (P := P) t with ⟨n, hn⟩ | hh
      · rw [hn w]
        simp only [Result.andThen_ok, Sem.run_bind, loadCells]
        rcases loadCellsFrom_world (P := P) a n 0 #[] w with ⟨v, hv⟩ | ⟨h, w', hh⟩
        · rw [hv]; exact .inl ⟨_, rfl⟩
        · rw [hh]; exact .inr ⟨h, w', rfl⟩
      · obtain ⟨y, w', e⟩ := hh w
        rw [e]; exact .inr ⟨y, w', rfl⟩
  · obtain ⟨y, w', e⟩ := hh w
    rw [e]; exact .inr ⟨y, w', rfl⟩
theorem Addr.add_zero (a : Addr) : a.add 0 = a := by simp [Addr.add]
theorem loadVar_like {t : TypeId} {a : Addr} {w w' : World} (hl : Like P a w w') {v : Value} (h : (loadVar t a).run P w = .ok v w) : (loadVar t a).run P w' = .ok v w' := by
  unfold loadVar at h ⊢
  rw [Sem.run_bind] at h ⊢
  rcases calm_isAgg (P := P) t with ⟨b, hb⟩ | hh
  · rw [hb w] at h
    rw [hb w']
    simp only [Result.andThen_ok] at h ⊢
    cases b
    · have := hl 0 v
      rw [Addr.add_zero] at this
      exact this h
    · simp only [if_true, Sem.run_bind] at h ⊢
      rcases calm_sizeOf (P := P) t with ⟨n, hn⟩ | hh
      · rw [hn w] at h
        rw [hn w']
        simp only [Result.andThen_ok, Sem.run_bind, loadCells] at h ⊢
        rcases loadCellsFrom_world (P := P) a n 0 #[] w with ⟨r, hr⟩ | ⟨x, w1, hh⟩
        · rw [hr] at h
          rw [loadCellsFrom_like hl n 0 _ r hr]
          have : Value.agg r = v := by simpa using h
          subst this
          rfl
        · rw [hh] at h; cases h
      · obtain ⟨y, w1, e⟩ := hh w
        rw [e] at h; cases h
  · obtain ⟨y, w1, e⟩ := hh w
    rw [e] at h; cases h

theorem exec_load {o : Oper} {t : TypeId} {x : Operand} (ho : o.op = .load t x) (ρ : Operand → Value) (w : World) :
    (execOp ρ o).run P w = ((Instr.loadAt t (ρ x)).run P w).andThen fun v w' => .ok (.value v) w' := by
  unfold execOp
  simp only [ho, Sem.run_bind]
  rfl
theorem kL_spec {o : Oper} (h : kL o = true) : ∃ t x, o.op = .load t x := by
  unfold kL at h
  split at h
  · exact ⟨_, _, ‹_›⟩
  · cases h
theorem kL_reads {o : Oper} (h : kL o = true) (ρ : Operand → Value) : Reads P (execOp ρ o) := by
  obtain ⟨t, x, ho⟩ := kL_spec h
  intro w
  rw [exec_load ho]
  have key : (∃ v, (Instr.loadAt t (ρ x)).run P w = .ok v w) ∨ (∃ h w', (Instr.loadAt t (ρ x)).run P w = .halt h w') := by
    unfold Instr.loadAt
    rw [Sem.run_bind]
    rcases calm_sureAddr (P := P) (ρ x) with ⟨a, ha⟩ | hh
    · rw [ha w]; exact loadVar_world t a w
    · obtain ⟨y, w', e⟩ := hh w
      rw [e]; exact .inr ⟨y, w', rfl⟩
  rcases key with ⟨v, hv⟩ | ⟨h, w', hh⟩
  · rw [hv]; exact .inl ⟨v, rfl⟩
  · rw [hh]; exact .inr ⟨h, w', rfl⟩
theorem kL_like {o : Oper} {t : TypeId} {x : Operand} (ho : o.op = .load t x) {ρ : Operand → Value} {w w' : World} (hl : ∀ a, ρ x = .pointer (some a) → Like P a w w') {v : Value} (h : (execOp ρ o).run P w = .ok (.value v) w) : (execOp ρ o).run P w' = .ok (.value v) w' := by
  rw [exec_load ho] at h ⊢
  unfold Instr.loadAt at h ⊢
  rw [Sem.run_bind] at h ⊢
  cases hx : ρ x with
  | pointer a =>
    cases a with
    | none => rw [hx] at h; cases h
    | some a =>
      rw [hx] at h
      have hs : ∀ w : World, (Instr.sureAddr (.pointer (some a))).run P w = .ok a w := fun _ => rfl
      rw [hs w] at h
      rw [hs w']
      simp only [Result.andThen_ok] at h ⊢
      rcases loadVar_world (P := P) t a w with ⟨u, hu⟩ | ⟨y, w1, hh⟩
      · rw [hu] at h
        have : u = v := by simpa using h
        subst this
        rw [loadVar_like (hl a hx) hu]
        rfl
      · rw [hh] at h; cases h
  | _ => rw [hx] at h; cases h

/-- A load of a row of cells looks at that row alone. -/
theorem like_of_row {a : Addr} {w w' : World} {c : Array Value} {t : TypeId} {f : Nat × Nat} (h : w.heap[a.block]? = some (.cells c t f)) (h' : w'.heap[a.block]? = some (.cells c t f)) : Like P a w w' := by
  intro i v hv
  have hb : (a.add i).block = a.block := by unfold Addr.add; split <;> rfl
  have hc : w'.cell? (a.add i) = w.cell? (a.add i) := World.cell?_of_block (by rw [hb, h, h'])
  rw [run_load_eq] at hv ⊢
  rw [hc]
  cases hw : w.cell? (a.add i) with
  | some u =>
    rw [hw] at hv
    have : u = v := by simpa using hv
    subst this; rfl
  | none =>
    rw [hw] at hv
    have : w.farLoad P (a.add i) (Mode.plain == Mode.atomic) = .error (w.noCell (a.add i) "load: no such cell") := by
      unfold World.farLoad
      rw [hb, h]
    rw [this] at hv
    cases hv

/-- A new block hides nothing. -/
theorem like_alloc (a : Addr) (w : World) (o : Obj) : Like P a w (w.alloc o) := by
  intro i v hv
  generalize a.add i = b at *
  rw [run_load_eq] at hv ⊢
  have hlt : ∀ k, k < w.heap.size → (w.alloc o).heap[k]? = w.heap[k]? := fun k hk => heap_alloc_old w o hk
  by_cases hb : b.block < w.heap.size
  · have hc : (w.alloc o).cell? b = w.cell? b := World.cell?_of_block (hlt _ hb)
    rw [hc]
    cases hw : w.cell? b with
    | some u =>
      rw [hw] at hv
      have : u = v := by simpa using hv
      subst this; rfl
    | none =>
      rw [hw] at hv
      have hf : ∀ r, w.farLoad P b (Mode.plain == Mode.atomic) = .ok r → (w.alloc o).farLoad P b (Mode.plain == Mode.atomic) = .ok r := by
        intro r hr
        unfold World.farLoad at hr ⊢
        rw [hlt _ hb]
        split at hr
        · rename_i at_ u hq
          have hv2 : ∀ q, w.viewLoad P at_ u b (Mode.plain == Mode.atomic) = .ok q → (w.alloc o).viewLoad P at_ u b (Mode.plain == Mode.atomic) = .ok q := by
            intro q hq
            have hs : at_.block < w.heap.size := by
              rcases Nat.lt_or_ge at_.block w.heap.size with h | h
              · exact h
              · exfalso
                have hnone : w.heap[at_.block]? = none := Array.getElem?_eq_none h
                have hs : ∃ e, w.seen P at_ u b (Mode.plain == Mode.atomic) = .error e := by
                  unfold World.seen
                  simp only [hnone, bind, Except.bind]
                  repeat' split
                  all_goals exact ⟨_, rfl⟩
                obtain ⟨e, hs⟩ := hs
                unfold World.viewLoad at hq
                rw [hs] at hq
                cases hq
            have : (w.alloc o).viewLoad P at_ u b (Mode.plain == Mode.atomic) = w.viewLoad P at_ u b (Mode.plain == Mode.atomic) := by
              unfold World.viewLoad World.seen
              rw [hlt _ hs]
            rw [this]; exact hq
          cases hw2 : w.viewLoad P at_ u b (Mode.plain == Mode.atomic) with
          | ok q => rw [hw2] at hr; rw [hv2 q hw2]; exact hr
          | error e => rw [hw2] at hr; cases hr
        · cases hr
      cases hw2 : w.farLoad P b (Mode.plain == Mode.atomic) with
      | ok r => rw [hw2] at hv; rw [hf r hw2]; have : r.1 = v := by simpa using hv
                subst this; rfl
      | error e => rw [hw2] at hv; cases hv
  · exfalso
    have hnone : w.heap[b.block]? = none := Array.getElem?_eq_none (by omega)
    have h1 : w.cell? b = none := by simp [World.cell?, hnone]
    have h2 : ∃ e, w.farLoad P b (Mode.plain == Mode.atomic) = .error e := by
      unfold World.farLoad
      rw [hnone]
      exact ⟨_, rfl⟩
    obtain ⟨e, h2⟩ := h2
    rw [h1, h2] at hv
    cases hv
end
end Go.Proofs.YtimhofphmgehgaaDoor
