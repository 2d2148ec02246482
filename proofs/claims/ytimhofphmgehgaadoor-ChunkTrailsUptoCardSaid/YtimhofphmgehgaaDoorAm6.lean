/- THE ABSTRACT MACHINE: operations that only compute, and what they run to. For every program. -/
import Derived.Test.YtimhofphmgehgaaDoorAm5
set_option linter.unusedVariables false
set_option linter.unusedSimpArgs false
namespace Go.Proofs.YtimhofphmgehgaaDoor
open Go Go.RowKit

theorem flat_drop {l : List (List AV)} {k : Nat} (h : ∀ r ∈ l, r.length = k) (a : Nat) : (l.drop a).flatten = l.flatten.drop (a * k) := by
  induction a generalizing l with
  | zero => simp
  | succ a ih =>
    cases l with
    | nil => simp
    | cons r l =>
      rw [List.drop_succ_cons, ih (fun r hr => h r (by simp [hr])), List.flatten_cons, List.drop_append]
      have hr := h r (by simp)
      have e : r.drop ((a + 1) * k) = [] := List.drop_of_length_le (by rw [hr, Nat.add_mul]; omega)
      rw [e, hr, List.nil_append]
      congr 1
      rw [Nat.add_mul]; omega
theorem flat_take {l : List (List AV)} {k : Nat} (h : ∀ r ∈ l, r.length = k) (a : Nat) : (l.take a).flatten = l.flatten.take (a * k) := by
  induction a generalizing l with
  | zero => simp
  | succ a ih =>
    cases l with
    | nil => simp
    | cons r l =>
      rw [List.take_succ_cons, List.flatten_cons, ih (fun r hr => h r (by simp [hr])), List.flatten_cons, List.take_append]
      have hr := h r (by simp)
      have e : r.take ((a + 1) * k) = r := List.take_of_length_le (by rw [hr, Nat.add_mul]; omega)
      rw [e, hr]
      congr 2
      rw [Nat.add_mul]; omega
theorem flat_row {l : List (List AV)} {k : Nat} (h : ∀ r ∈ l, r.length = k) {i : Nat} {r : List AV} (hr : l[i]? = some r) (j : Nat) (hj : j < k) : l.flatten[i * k + j]? = r[j]? := by
  have hi := (List.getElem?_eq_some_iff.1 hr).1
  have h1 : l.flatten.drop (i * k) = r ++ (l.drop (i + 1)).flatten := by
    rw [← flat_drop h, List.drop_eq_getElem_cons hi, List.flatten_cons]
    rw [(List.getElem?_eq_some_iff.1 hr).2]
  have hk := h r (mem_at hr)
  have : (l.flatten.drop (i * k))[j]? = l.flatten[i * k + j]? := by rw [List.getElem?_drop]
  rw [← this, h1, List.getElem?_append_left (by omega)]

theorem RSl.sub {w : World} {k n cap : Nat} {ao : Option Addr} {xs : List Value} (h : RSl w k (.slice ao n cap) n xs) (a b m : Nat) (hab : a ≤ b) (hb : b ≤ n) (hm : b ≤ m) (hmc : m ≤ cap) :
    RSl w k (.slice (if m = a then ao else ao.map (·.add (a * k))) (b - a) (m - a)) (b - a) ((xs.drop (a * k)).take ((b - a) * k)) := by
  obtain ⟨hl, ao', cap', he, h1, h2, h3⟩ := h
  cases he
  have hbk : b * k ≤ n * k := Nat.mul_le_mul_right _ hb
  have hak : a * k ≤ b * k := Nat.mul_le_mul_right _ hab
  refine ⟨by rw [List.length_take, List.length_drop, hl, Nat.sub_mul]; omega, _, _, rfl, by omega, by omega, fun hp => ?_⟩
  obtain ⟨g, o, rfl, hc⟩ := h3 (by omega)
  refine ⟨g, o + a * k, by rw [if_neg (by omega)]; simp [Addr.add_mid], fun j hj => ?_⟩
  rw [Nat.add_assoc, hc (a * k + j) (by rw [Nat.sub_mul] at hj; omega), List.getElem?_take_of_lt hj, List.getElem?_drop]

section
variable {P : Program} {w : World} {β : Nat → Nat} {Rd : Nat → Nat → Prop} {N : Nat}

theorem aun_ok {op : UnOp} {x v : AV} {c : Value} (h : aun op x = some v) (hx : Rel w β Rd x c) : ∃ c', (Op.unary op c).run P w = .ok c' w ∧ Got w β Rd N v c' := by
  unfold aun at h
  split at h
  · cases h; obtain rfl := rel_int hx
    exact ⟨.int _ _, by simp [Op.unary, Op.intArith], Got.int⟩
  · cases h; obtain rfl := rel_bool hx
    exact ⟨.bool _, by simp [Op.unary], Got.bool⟩
  · cases h

theorem rel_sl {own : Bool} {k : Nat} {rows : List (List AV)} {v : Value} (h : Rel w β Rd (.sl own k rows) v) : ∃ xs, (∀ r ∈ rows, r.length = k) ∧ RSl w k v rows.length xs ∧ (∀ g o n c, v = .slice (some ⟨g, o, none⟩) n c → ∀ j, j < rows.length * k → Rd g (o + j)) ∧
    (∀ r ∈ rows, ∀ x ∈ r, x.free = true ∧ x.one = true) ∧ (∀ (j : Nat) (x : AV) (u : Value), rows.flatten[j]? = some x → xs[j]? = some u → Rel w β Rd x u) := by
  cases h with
  | sl _ _ _ _ xs hk hx hd ho hf hr => exact ⟨xs, hk, hx, hd, hf, hr⟩

theorem ubytes_spec {rows : List (List AV)} {l : List UInt8} (h : ubytes rows = some l) : rows = bts l := by
  induction rows generalizing l with
  | nil => simp [ubytes] at h; subst h; rfl
  | cons r rows ih =>
    rw [ubytes] at h
    split at h
    · rename_i b m hb hm
      cases h
      have := ih hm
      subst this
      unfold ubyte at hb
      split at hb
      · rename_i n
        split at hb
        · rename_i hn
          cases hb
          show _ = [AV.int .u8 ((UInt8.ofNat n.toNat).toNat : Int)] :: bts m
          rw [UInt8.toNat_ofNat', Nat.mod_eq_of_lt (by omega), Int.toNat_of_nonneg hn.1]
        · cases hb
      · cases hb
    · cases h
theorem bts_len (l : List UInt8) : (bts l).length = l.length := by simp [bts]
theorem bts_flat (l : List UInt8) (j : Nat) : (bts l).flatten[j]? = (l[j]?).map fun b => .int .u8 (b.toNat : Int) := by
  induction l generalizing j with
  | nil => simp [bts]
  | cons b l ih =>
    have e : (bts (b :: l)).flatten = .int .u8 (b.toNat : Int) :: (bts l).flatten := rfl
    rw [e]
    cases j with
    | zero => rfl
    | succ j => rw [List.getElem?_cons_succ, List.getElem?_cons_succ, ih]
/-- A slice of bytes reads as these. -/
theorem rel_bts {own : Bool} {k : Nat} {l : List UInt8} {v : Value} (h : Rel w β Rd (.sl own k (bts l)) v) (hk : l ≠ [] → k = 1) : RSl w 1 v l.length (u8s l) := by
  obtain ⟨xs, h1, h2, h3, h4, h5⟩ := rel_sl h
  rw [bts_len] at h2
  cases hl : l with
  | nil =>
    subst hl
    obtain ⟨e1, ao, cap, rfl, e2, e3, _⟩ := h2
    exact ⟨rfl, ao, cap, rfl, e2, e3, fun h => absurd h (by simp)⟩
  | cons b m =>
    have hk' := hk (by rw [hl]; simp)
    rw [← hl]
    subst hk'
    have : xs = u8s l := by
      apply List.ext_getElem?
      intro j
      by_cases hj : j < l.length
      · have hx : xs[j]? = some (xs[j]'(by rw [h2.1]; omega)) := List.getElem?_eq_getElem _
        have hb := h5 j (.int .u8 ((l[j]'hj).toNat : Int)) _ (by rw [bts_flat, List.getElem?_eq_getElem hj]; rfl) hx
        rw [hx, rel_int hb, u8s_at, List.getElem?_eq_getElem hj]; rfl
      · rw [List.getElem?_eq_none (by rw [h2.1]; omega), List.getElem?_eq_none (by rw [u8s_length]; omega)]
    rw [← this]; exact h2

theorem bts_k {k : Nat} {l : List UInt8} (h : ∀ r ∈ bts l, r.length = k) : l ≠ [] → k = 1 := by
  intro hl
  cases l with
  | nil => exact absurd rfl hl
  | cons b m => exact (h _ (List.mem_cons_self ..)).symm

theorem RSl.sliceForm {k n : Nat} {v : Value} {xs : List Value} (h : RSl w k v n xs) : ∃ ao cap, v = .slice ao n cap := by obtain ⟨_, ao, cap, rfl, _⟩ := h; exact ⟨ao, cap, rfl⟩

theorem aconv_ok {s d : TypeId} {x v : AV} {c : Value} (h : aconv P s d x = some v) (hx : Rel w β Rd x c) : ∃ c', (convert s d c).run P w = .ok c' w ∧ Got w β Rd N v c' := by
  unfold aconv at h
  split at h
  · obtain rfl := rel_int hx
    split at h
    · rename_i h1 h2
      cases h
      obtain ⟨ds, hs⟩ := Option.isSome_iff_exists.1 h1
      have hd := tint_spec h2
      exact ⟨.int _ _, by simp [convert, run_underlying hs, run_underlying hd, Conv.intToInt], Got.int⟩
    · cases h
  · obtain ⟨sb, rfl, hsb, hsz⟩ := rel_str hx
    split at h
    · rename_i h1
      cases h
      simp only [Bool.and_eq_true] at h1
      obtain ⟨ds, hs⟩ := Option.isSome_iff_exists.1 h1.1
      have hd := tstr_spec h1.2
      refine ⟨.string sb, ?_, got_str hsb hsz⟩
      simp [convert, run_underlying hs, run_underlying hd]
    · cases h
  · rename_i own k rows
    split at h
    · rename_i h1
      simp only [Bool.and_eq_true] at h1
      obtain ⟨e, hs, he⟩ := tbytes_spec h1.1
      have hd := tstr_spec h1.2
      cases hu : ubytes rows with
      | none => simp [hu] at h
      | some l =>
        simp [hu] at h
        subst h
        have hrows := ubytes_spec hu
        subst hrows
        obtain ⟨xs, hk, hx2, _⟩ := rel_sl hx
        have hr := rel_bts hx (bts_k hk)
        obtain ⟨ao, cap, rfl⟩ := hr.sliceForm
        refine ⟨_, run_text_rsl w s d e ao _ cap l hs he hd hr, got_str rfl ?_⟩
        rw [tx_size]
        obtain ⟨_, _, _, he', e1, e2, _⟩ := hr
        cases he'; omega
    · cases h
  · split at h
    · rename_i h1
      cases h
      simp only [Bool.and_eq_true] at h1
      obtain ⟨e, hs, he⟩ := tbytes_spec h1.1
      have hd := tstr_spec h1.2
      have hc : c = .slice none 0 0 := by cases hx; rfl
      subst hc
      exact ⟨_, run_text_rsl w s d e none 0 0 [] hs he hd ⟨rfl, none, 0, rfl, Nat.le_refl _, Nat.zero_le _, fun h => by omega⟩, got_str rfl (by simp [tx_size])⟩
    · cases h
  · cases h

/-- A bound and its value. -/
def BRel (w : World) (β : Nat → Nat) (Rd : Nat → Nat → Prop) : Option AV → Option Value → Prop
  | none, none => True
  | some x, some v => Rel w β Rd x v
  | _, _ => False

theorem bound_spec {lo : Option AV} {lo' : Option Value} (hr : BRel w β Rd lo lo') {a n : Nat} (h : abound lo n = some a) : (lo' = none ∧ a = n) ∨ ∃ k, lo' = some (.int k (a : Int)) := by
  cases lo with
  | none => cases lo' with
    | none => cases h; exact .inl ⟨rfl, rfl⟩
    | some _ => exact hr.elim
  | some x => cases lo' with
    | none => exact hr.elim
    | some v =>
      cases x <;> simp only [abound, reduceCtorEq] at h
      rename_i k i
      obtain rfl := rel_int (show Rel w β Rd (.int k i) v from hr)
      split at h
      · rename_i h0
        cases h
        exact .inr ⟨k, by rw [Int.toNat_of_nonneg h0]⟩
      · cases h
theorem run_bound (k : IntKind) (a y : Nat) (h : a ≤ y) (code : BoundsCode) : (Instr.sliceBound (.int k (a : Int)) y code).run P w = .ok a w := by
  have := run_sliceBound (P := P) w k (a : Int) y code (by omega) (by omega)
  rwa [Int.toNat_natCast] at this

theorem bounds_ok {lo hi : Option AV} {lo' hi' : Option Value} (hlo : BRel w β Rd lo lo') (hhi : BRel w β Rd hi hi') {a b n cap : Nat} (h1 : abound lo 0 = some a) (h2 : abound hi n = some b) (hab : a ≤ b) (hb : b ≤ cap) (isS : Bool) :
    (Instr.sliceBounds isS n cap lo' hi' none).run P w = .ok (a, b, cap) w := by
  rcases bound_spec hlo h1 with ⟨rfl, rfl⟩ | ⟨k1, rfl⟩ <;> rcases bound_spec hhi h2 with ⟨rfl, rfl⟩ | ⟨k2, rfl⟩ <;>
    simp [Instr.sliceBounds, run_bound (P := P) (w := w) _ _ _ hab, run_bound (P := P) (w := w) _ _ _ hb]

theorem aslice_ok {t : TypeId} {x v : AV} {lo hi mx : Option AV} {c : Value} {lo' hi' mx' : Option Value} (h : aslice P t x lo hi mx = some v) (hx : Rel w β Rd x c) (hB : Bnd N x) (hlo : BRel w β Rd lo lo') (hhi : BRel w β Rd hi hi') (hmx : BRel w β Rd mx mx') :
    ∃ c', (Instr.sliceAt t c lo' hi' mx').run P w = .ok c' w ∧ Got w β Rd N v c' := by
  unfold aslice at h
  split at h
  · rename_i l
    split at h
    · rename_i h1
      simp only [Bool.and_eq_true] at h1
      have hm : mx = none := by simpa using h1.2
      subst hm
      have hm' : mx' = none := by cases mx' with
        | none => rfl
        | some _ => exact hmx.elim
      subst hm'
      have hu := tstr_spec h1.1
      obtain ⟨s, rfl, rfl, hs⟩ := rel_str hx
      split at h
      · rename_i a b ha hb
        split at h
        · rename_i hab
          cases h
          have hlen := size_toList s
          rw [hlen] at hb hab
          refine ⟨.string (s.extract a b), ?_, got_str (extract_toList s a b) (Nat.le_trans (extract_size s a b) hs)⟩
          have e := bounds_ok (P := P) hlo hhi ha hb hab.1 hab.2 false (n := s.size) (cap := s.size)
          simp only [Instr.sliceAt, Sem.run_bind, run_underlying hu, Result.andThen_ok, Instr.slice]
          simp [e]
        · cases h
      · cases h
    · cases h
  · rename_i own k rows
    obtain ⟨xs, hk, hx2, hd, hf, hr⟩ := rel_sl hx
    obtain ⟨ao, cap, rfl⟩ := hx2.sliceForm
    have hcap : rows.length ≤ cap ∧ cap ≤ maxLen := by obtain ⟨_, _, _, he, e1, e2, _⟩ := hx2; cases he; exact ⟨e1, e2⟩
    split at h
    · rename_i hte
      obtain ⟨e, i, hu, hi2, his⟩ := tel_spec hte
      have hsz : (sizeOf e).run P w = .ok k w := by simp [sizeOf, typeInfo, hi2, his]
      have fin : ∀ a b m, a ≤ b → b ≤ rows.length → b ≤ m → m ≤ cap → Got w β Rd N (.sl false k ((rows.drop a).take (b - a))) (.slice (if m = a then ao else ao.map (·.add (a * k))) (b - a) (m - a)) := fun a b m h1 h2 h3 h4 => by
        have hsub := hx2.sub a b m h1 h2 h3 h4
        have hmem : ∀ r ∈ (rows.drop a).take (b - a), r ∈ rows := fun r hr => List.mem_of_mem_drop (List.mem_of_mem_take hr)
        have hln : ((rows.drop a).take (b - a)).length = b - a := by rw [List.length_take, List.length_drop]; omega
        have hflat : ((rows.drop a).take (b - a)).flatten = (rows.flatten.drop (a * k)).take ((b - a) * k) := by
          rw [flat_take (k := k) (fun r hr => hk r (List.mem_of_mem_drop hr)), flat_drop hk]
        refine ⟨.sl false k _ _ _ (fun r hr => hk r (hmem r hr)) (by rw [hln]; exact hsub) (fun g o n c' hv j hj => ?_) (fun h => by cases h) (fun r hr => hf r (hmem r hr)) (fun j x u hx hu => ?_), ?_, rfl⟩
        · rw [hln] at hj
          have hpos : 0 < (b - a) := by rcases Nat.eq_zero_or_pos (b - a) with h | h; rw [h] at hj; omega; exact h
          obtain ⟨_, _, _, he2, _, _, h7⟩ := hx2
          cases he2
          obtain ⟨g', o', rfl, _⟩ := h7 (by omega)
          simp only [Value.slice.injEq] at hv
          rw [if_neg (by omega)] at hv
          simp [Addr.add_mid] at hv
          obtain ⟨⟨rfl, rfl⟩, _, _⟩ := hv
          rw [Nat.add_assoc]
          refine hd _ _ _ cap rfl _ ?_
          have : b * k ≤ rows.length * k := Nat.mul_le_mul_right _ h2
          have : a * k ≤ b * k := Nat.mul_le_mul_right _ h1
          rw [Nat.sub_mul] at hj; omega
        · rw [hflat] at hx
          have hj : j < (b - a) * k := by have := (List.getElem?_eq_some_iff.1 hx).1; rw [List.length_take] at this; omega
          rw [List.getElem?_take_of_lt hj, List.getElem?_drop] at hx hu
          exact hr _ x u hx hu
        · cases hB with
          | sl _ _ _ hB => exact .sl _ _ _ (fun r hr => hB r (hmem r hr))
      split at h
      · have hm' : mx' = none := by cases mx' with
          | none => rfl
          | some _ => exact hmx.elim
        subst hm'
        split at h
        · rename_i a b ha hb
          split at h
          · rename_i hab
            cases h
            refine ⟨_, ?_, fin a b cap hab.1 hab.2 (by omega) (Nat.le_refl _)⟩
            have e := bounds_ok (P := P) hlo hhi ha hb hab.1 (by omega : b ≤ cap) true
            simp only [Instr.sliceAt, Sem.run_bind, run_underlying hu, Result.andThen_ok, Instr.slice]
            simp [e, hsz]
          · cases h
        · cases h
      · rename_i km m
        split at h
        · rename_i a kb b ha
          split at h
          · rename_i hab
            cases h
            obtain ⟨v', rfl⟩ : ∃ v', mx' = some v' := by cases mx' with
              | none => exact hmx.elim
              | some v' => exact ⟨_, rfl⟩
            obtain rfl := rel_int (show Rel w β Rd (.int km m) v' from hmx)
            obtain ⟨v2, rfl⟩ : ∃ v2, hi' = some v2 := by cases hi' with
              | none => exact hhi.elim
              | some v2 => exact ⟨_, rfl⟩
            obtain rfl := rel_int (show Rel w β Rd (.int kb b) v2 from hhi)
            refine ⟨_, ?_, fin a b.toNat m.toNat hab.2.1 (by omega) (by omega) (by omega)⟩
            have e1 := run_sliceBound (P := P) w km m cap .slice3Acap (by omega) (by omega)
            have e2 := run_sliceBound (P := P) w kb b m.toNat .slice3B (by omega) (by omega)
            rcases bound_spec hlo ha with ⟨rfl, rfl⟩ | ⟨k1, rfl⟩
            · simp [Instr.sliceAt, run_underlying hu, Instr.slice, Instr.sliceBounds, e1, e2, hsz]
            · simp [Instr.sliceAt, run_underlying hu, Instr.slice, Instr.sliceBounds, e1, e2, hsz, run_bound (P := P) (w := w) _ _ _ hab.2.1]
          · cases h
        · cases h
      · cases h
    · cases h
  · have hc : c = .slice none 0 0 := by cases hx; rfl
    subst hc
    split at h
    · rename_i h1
      simp only [Bool.and_eq_true] at h1
      have hm : mx = none := by simpa using h1.2
      subst hm
      have hm' : mx' = none := by cases mx' with
        | none => rfl
        | some _ => exact hmx.elim
      subst hm'
      obtain ⟨k, hk⟩ := Option.isSome_iff_exists.1 h1.1
      obtain ⟨e, i, hu, hi2, his⟩ := tel_spec hk
      have hsz : (sizeOf e).run P w = .ok k w := by simp [sizeOf, typeInfo, hi2, his]
      split at h
      · rename_i ha hb
        cases h
        refine ⟨.slice none 0 0, ?_, ⟨.nil, .nil, rfl⟩⟩
        have e := bounds_ok (P := P) hlo hhi ha hb (Nat.le_refl _) (Nat.le_refl 0) true
        simp only [Instr.sliceAt, Sem.run_bind, run_underlying hu, Result.andThen_ok, Instr.slice]
        simp [e, hsz]
      · cases h
    · cases h
  · cases h

theorem tfld_spec {t : TypeId} {f o n : Nat} {b : Bool} (h : tfld P t f = some (o, n, b)) : ∃ fs fd, P.underlying t = some (.struct fs) ∧ fs[f]? = some fd ∧ tsz P fd.type = some n ∧ trow P fd.type = some b ∧ n ≠ 0 ∧ fd.offset = o := by
  unfold tfld at h
  split at h
  · rename_i fs hu
    split at h
    · rename_i fd hfd
      split at h
      · rename_i m b' h1 h2
        split at h
        · cases h
        · rename_i hn
          cases h
          exact ⟨fs, fd, hu, hfd, h1, h2, hn, rfl⟩
      · cases h
    · cases h
  · cases h

theorem afaddr_ok {t : TypeId} {x v : AV} {f : Nat} {c : Value} (h : afaddr P t x f = some v) (hx : Rel w β Rd x c) (hB : Bnd N x) : ∃ c', (Instr.fieldAt t c f).run P w = .ok c' w ∧ Got w β Rd N v c' := by
  unfold afaddr at h
  split at h
  · rename_i o n b hfl
    obtain ⟨fs, fd, hu, hfd, h1, h2, hn, rfl⟩ := tfld_spec hfl
    have hsz := fun w => run_sizeOf (P := P) h1 w
    have hrun : ∀ a : Addr, (Instr.fieldAt t (.pointer (some a)) f).run P w = .ok (.pointer (some (a.add fd.offset))) w := fun a => by
      simp [Instr.fieldAt, run_underlying hu, hfd, Instr.sureAddr, fieldPlace, hsz, hn]
    split at h
    · rename_i i p
      cases h
      cases hx with
      | ptr =>
        refine ⟨_, hrun _, ?_, ?_, rfl⟩
        · rw [Addr.add_mid]; exact .ptr i (p + fd.offset)
        · cases hB with
          | ptr _ _ hi => exact .ptr _ _ hi
    · rename_i cells
      split at h
      · rename_i hle
        cases h
        cases hx with
        | elt _ g o us hl hc hf hr =>
          have hmem : ∀ x ∈ (cells.drop fd.offset).take n, x ∈ cells := fun x hx => List.mem_of_mem_drop (List.mem_of_mem_take hx)
          refine ⟨_, hrun _, ?_, ?_, rfl⟩
          · rw [Addr.add_mid]
            refine .elt _ g (o + fd.offset) ((us.drop fd.offset).take n) (by simp; omega) (fun j hj => ?_) (fun x hx => hf x (hmem x hx)) (fun j x u hx hu => ?_)
            · rw [List.length_take, List.length_drop] at hj
              have := hc (fd.offset + j) (by omega)
              rw [← Nat.add_assoc] at this
              rw [List.getElem?_take_of_lt (by omega), List.getElem?_drop]
              exact this
            · have hj : j < n := by have := (List.getElem?_eq_some_iff.1 hx).1; rw [List.length_take] at this; omega
              rw [List.getElem?_take_of_lt hj, List.getElem?_drop] at hx hu
              exact hr _ x u hx hu
          · cases hB with
            | elt _ hB => exact .elt _ (fun x hx => hB x (hmem x hx))
      · cases h
    · cases h
  · cases h

theorem afield_ok {t : TypeId} {x v : AV} {f : Nat} {c : Value} (h : afield P t x f = some v) (hx : Rel w β Rd x c) (hB : Bnd N x) : ∃ c', (Instr.field t c f).run P w = .ok c' w ∧ Got w β Rd N v c' := by
  unfold afield at h
  split at h
  · rename_i o n b cells hfl
    obtain ⟨fs, fd, hu, hfd, h1, h2, hn, rfl⟩ := tfld_spec hfl
    have hsz := fun w => run_sizeOf (P := P) h1 w
    have hag := fun w => run_isAgg (P := P) h2 w
    cases hx with
    | agg _ vs hl hf hr =>
      cases hB with
      | agg _ hB =>
        cases b with
        | true =>
          simp only [if_true] at h
          split at h
          · rename_i hle
            cases h
            have hmem : ∀ x ∈ (cells.drop fd.offset).take n, x ∈ cells := fun x hx => List.mem_of_mem_drop (List.mem_of_mem_take hx)
            refine ⟨.agg (vs.extract fd.offset (fd.offset + n)), by simp [Instr.field, run_underlying hu, hfd, asAgg, part, hag, hsz], .agg _ _ (by simp [hl]; omega) (fun x hx => hf x (hmem x hx)) (fun j x u hx hu => ?_), .agg _ (fun x hx => hB x (hmem x hx)), rfl⟩
            have hj : j < n := by have := (List.getElem?_eq_some_iff.1 hx).1; rw [List.length_take] at this; omega
            rw [List.getElem?_take_of_lt hj, List.getElem?_drop] at hx
            refine hr _ x u hx ?_
            rw [Array.getElem?_extract] at hu
            split at hu
            · exact hu
            · cases hu
          · cases h
        | false =>
          simp only [Bool.false_eq_true, if_false] at h
          have ho : fd.offset < cells.length := (List.getElem?_eq_some_iff.1 h).1
          have hv : vs[fd.offset]? = some (vs[fd.offset]'(by omega)) := Array.getElem?_eq_getElem _
          exact ⟨_, by simp [Instr.field, run_underlying hu, hfd, asAgg, part, hag, hv], hr _ _ _ h hv, hB _ (mem_at h), (hf _ (mem_at h)).1⟩
  · cases h

theorem aixaddr_ok {t : TypeId} {x i v : AV} {c ci : Value} (h : aixaddr P t x i = some v) (hx : Rel w β Rd x c) (hB : Bnd N x) (hi : Rel w β Rd i ci) : ∃ c', (Instr.indexAt t c ci).run P w = .ok c' w ∧ Got w β Rd N v c' := by
  unfold aixaddr at h
  split at h
  · rename_i own k rows kk n
    obtain rfl := rel_int hi
    obtain ⟨xs, hk, hx2, hd, hf, hr⟩ := rel_sl hx
    split at h
    · rename_i hte
      obtain ⟨hte, h0⟩ := hte
      obtain ⟨e, inf, hu, hi2, his⟩ := tel_spec hte
      have hsz : ∀ w, (sizeOf e).run P w = .ok k w := fun w => by simp [sizeOf, typeInfo, hi2, his]
      split at h
      · rename_i r hrow
        cases h
        have hlt : n.toNat < rows.length := (List.getElem?_eq_some_iff.1 hrow).1
        obtain ⟨hl, ao, cap, rfl, hc1, hc2, hc3⟩ := hx2
        obtain ⟨g, o, rfl, hcell⟩ := hc3 (by omega)
        have hin : 0 ≤ n ∧ n < (rows.length : Int) := by omega
        have hmul : n.toNat * k + k ≤ rows.length * k := by
          have : (n.toNat + 1) * k ≤ rows.length * k := Nat.mul_le_mul_right _ (by omega)
          rw [Nat.add_mul] at this; omega
        have hrk := hk r (mem_at hrow)
        refine ⟨.pointer (some ⟨g, o + n.toNat * k, none⟩), by simp [Instr.indexAt, run_underlying hu, asIntOf, hin, hsz, Addr.add_mid], ?_, ?_, rfl⟩
        · refine .elt r g (o + n.toNat * k) ((xs.drop (n.toNat * k)).take k) (by rw [List.length_take, List.length_drop]; omega) (fun j hj => ?_) (hf r (mem_at hrow)) (fun j x u hx hu => ?_)
          · rw [List.length_take] at hj
            refine ⟨by rw [Nat.add_assoc]; exact hd g o _ cap rfl _ (by omega), ?_⟩
            rw [Nat.add_assoc, hcell _ (by omega), List.getElem?_take_of_lt (by omega), List.getElem?_drop]
          · have hj : j < k := by have := (List.getElem?_eq_some_iff.1 hx).1; omega
            rw [List.getElem?_take_of_lt hj, List.getElem?_drop] at hu
            exact hr _ x u (by rw [flat_row hk hrow j hj]; exact hx) hu
        · cases hB with
          | sl _ _ _ hB => exact .elt _ (hB r (mem_at hrow))
      · cases h
    · cases h
  · cases h

theorem aix_ok {t : TypeId} {x i v : AV} {c ci : Value} (h : aix P t x i = some v) (hx : Rel w β Rd x c) (hB : Bnd N x) (hi : Rel w β Rd i ci) : ∃ c', (Instr.index t c ci).run P w = .ok c' w ∧ Got w β Rd N v c' := by
  unfold aix at h
  split at h
  · rename_i l kk n
    obtain rfl := rel_int hi
    obtain ⟨s, rfl, rfl, hs⟩ := rel_str hx
    split at h
    · rename_i h1
      have hu := tstr_spec h1.1
      split at h
      · rename_i b hb
        cases h
        have hlt : n.toNat < s.size := by have := (List.getElem?_eq_some_iff.1 hb).1; rw [size_toList] at this; exact this
        refine ⟨.int .u8 (b.toNat : Int), ?_, Got.int⟩
        rw [run_index_string w t s kk n hu, dif_pos (by omega), ba_at s _ b hb]
      · cases h
    · cases h
  · rename_i l kk n
    obtain rfl := rel_int hi
    split at h
    · rename_i m k b hta
      unfold tarr at hta
      split at hta
      · rename_i m' e hu
        split at hta
        · rename_i k' b' h1 h2
          cases hta
          have hsz := fun w => run_sizeOf (P := P) h1 w
          have hag := fun w => run_isAgg (P := P) h2 w
          split at h
          · rename_i hin
            have hin' : 0 ≤ n ∧ n < (m : Int) := by omega
            cases hx with
            | agg _ vs hl hf hr =>
              cases hB with
              | agg _ hB =>
                cases b with
                | true =>
                  simp only [if_true] at h
                  split at h
                  · rename_i hle
                    cases h
                    have hmem : ∀ x ∈ (l.drop (n.toNat * k)).take k, x ∈ l := fun x hx => List.mem_of_mem_drop (List.mem_of_mem_take hx)
                    refine ⟨.agg (vs.extract (n.toNat * k) (n.toNat * k + k)), by simp [Instr.index, run_underlying hu, asIntOf, hin', part, hag, hsz], .agg _ _ (by simp [hl]; omega) (fun x hx => hf x (hmem x hx)) (fun j x u hx hu => ?_), .agg _ (fun x hx => hB x (hmem x hx)), rfl⟩
                    have hj : j < k := by have := (List.getElem?_eq_some_iff.1 hx).1; rw [List.length_take] at this; omega
                    rw [List.getElem?_take_of_lt hj, List.getElem?_drop] at hx
                    refine hr _ x u hx ?_
                    rw [Array.getElem?_extract] at hu
                    split at hu
                    · exact hu
                    · cases hu
                  · cases h
                | false =>
                  simp only [Bool.false_eq_true, if_false] at h
                  have ho : n.toNat * k < l.length := (List.getElem?_eq_some_iff.1 h).1
                  have hv : vs[n.toNat * k]? = some (vs[n.toNat * k]'(by omega)) := Array.getElem?_eq_getElem _
                  exact ⟨_, by simp [Instr.index, run_underlying hu, asIntOf, hin', part, hag, hsz, hv], hr _ _ _ h hv, hB _ (mem_at h), (hf _ (mem_at h)).1⟩
          · cases h
        · cases hta
      · cases hta
    · cases h
  · cases h

theorem aextract_ok {x v : AV} {i : Nat} {c : Value} (h : aextract x i = some v) (hx : Rel w β Rd x c) (hB : Bnd N x) : ∃ c', (Instr.extract c i).run P w = .ok c' w ∧ Got w β Rd N v c' := by
  unfold aextract at h
  split at h
  · cases hx with
    | tup cells vs hl hf hr =>
      cases hB with
      | tup _ hB =>
        have hi := (List.getElem?_eq_some_iff.1 h).1
        have hv : vs[i]? = some (vs[i]'(by omega)) := Array.getElem?_eq_getElem _
        exact ⟨_, by simp [Instr.extract, hv], hr _ _ _ h hv, hB _ (mem_at h), hf _ (mem_at h)⟩
  · cases h

theorem alen_ok {t ty : TypeId} {x v : AV} {c : Value} (h : alen P t x = some v) (hx : Rel w β Rd x c) : ∃ c', (Builtin.len_ #[t] ty #[c]).run P w = .ok c' w ∧ Got w β Rd N v c' := by
  unfold alen at h
  split at h
  · obtain ⟨s, rfl, rfl, hs⟩ := rel_str hx
    split at h
    · rename_i h1
      cases h
      refine ⟨_, run_len_string w t ty s (tstr_spec h1), ?_⟩
      rw [size_toList]; exact Got.int
    · cases h
  · split at h
    · rename_i h1
      cases h
      obtain ⟨e, he⟩ := Option.isSome_iff_exists.1 h1
      have hu := tsl_spec he
      obtain ⟨xs, hk, hx2, _⟩ := rel_sl hx
      obtain ⟨ao, cap, rfl⟩ := hx2.sliceForm
      exact ⟨.int .i64 _, by simp [Builtin.len_, run_underlying hu, goInt], Got.int⟩
    · cases h
  · split at h
    · rename_i h1
      cases h
      obtain ⟨e, he⟩ := Option.isSome_iff_exists.1 h1
      have hu := tsl_spec he
      have hc : c = .slice none 0 0 := by cases hx; rfl
      subst hc
      exact ⟨.int .i64 0, by simp [Builtin.len_, run_underlying hu, goInt], Got.int⟩
    · cases h
  · cases h

end
end Go.Proofs.YtimhofphmgehgaaDoor
