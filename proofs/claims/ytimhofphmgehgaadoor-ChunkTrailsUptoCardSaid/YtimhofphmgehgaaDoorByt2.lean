/- Bytes in memory: append and copy from whatever slice of bytes. -/
import Derived.Test.YtimhofphmgehgaaDoorByt
set_option linter.unusedVariables false
set_option linter.unusedSimpArgs false
namespace Go.Proofs.YtimhofphmgehgaaDoor
open Go Go.RowKit

section
variable {P : Program}
theorem u8s_one (l : List UInt8) : ∀ u ∈ u8s l, u.oneCell' = true := by
  intro u hu
  obtain ⟨b, _, rfl⟩ := List.mem_map.1 hu
  rfl
/-- What an append, a copy reads of a slice of bytes. -/
theorem src_u8 {w : World} {v : Value} {n : Nat} {l : List UInt8} (h : RSl w 1 v n (u8s l)) {tx e' : TypeId} (hk : P.underlying tx = some (.slice e')) : Src P 1 tx v n (u8s l) w := by
  obtain ⟨h1, ao, cap, rfl, _, _, hc⟩ := h
  rcases Nat.eq_zero_or_pos n with rfl | hp
  · have hl : u8s l = [] := List.eq_nil_of_length_eq_zero (by simpa using h1)
    rw [hl]
    cases ao with
    | none => exact Src.ofNil w hk cap
    | some a => exact Src.ofSlice w hk a 0 cap [] rfl (fun j u hj => by simp at hj) (by simp)
  · obtain ⟨g, o, rfl, hc2⟩ := hc hp
    refine Src.ofSlice w hk ⟨g, o, none⟩ n cap _ h1 (fun j u hj => ?_) (u8s_one l)
    have hj' := (List.getElem?_eq_some_iff.1 hj).1
    rw [Addr.add_mid, hc2 j (by omega), hj]

/-- The operation 'copy(d, s)' in the walk, where its run is known. -/
theorem wpList_copy_eq (w : World) {ops : Array Oper} {rest : List Oper} {o : Oper} {a : Act} {Q : Exit → Act → World → Prop} (hgd : o.guard = none) (d s : Operand) (t t' : TypeId)
    (ho : o.op = .call { callee := .builtin .copy, args := #[d, s], argTypes := #[t, t'] }) (v u : Value) (hd : a.eval d = v) (hs : a.eval s = u) {v' : Value} {w' : World}
    (hr : (Builtin.copy_ #[t, t'] o.type #[v, u]).run P w = .ok v' w') (h : wpList P ops Q rest (a.put o.dst v') w') : wpList P ops Q (o :: rest) a w := by
  refine wpList_plain hgd fun K hK => ?_
  unfold Oper.wp
  simp [execOp, ho, resolve, invoke, builtin, hd, hs, hr, Result.andThen]
  exact hK _ _ h

/-- A part of a readable slice of bytes. -/
theorem RSl.part {w : World} {g o n cap : Nat} {l : List UInt8} (h : RSl w 1 (.slice (some ⟨g, o, none⟩) n cap) n (u8s l)) (i m cap' : Nat) (ao : Option Addr) (hi : i + m ≤ n) (hm : m ≤ cap') (hc : cap' ≤ maxLen) (ha : 0 < m → ao = some ⟨g, o + i, none⟩) :
    RSl w 1 (.slice ao m cap') m (u8s ((l.drop i).take m)) := by
  obtain ⟨h1, ao', cap0, he, _, _, hc0⟩ := h
  cases he
  rw [u8s_length, Nat.mul_one] at h1
  refine ⟨by rw [u8s_length, List.length_take, List.length_drop]; omega, ao, cap', rfl, hm, hc, fun hp => ⟨g, o + i, ha hp, fun j hj => ?_⟩⟩
  obtain ⟨g', o', he', hcell⟩ := hc0 (by omega)
  cases he'
  rw [Nat.add_assoc, hcell (i + j) (by omega), u8s_at, u8s_at, List.getElem?_take_of_lt (by omega), List.getElem?_drop]

/-- l written over st, from o on. -/
def splice (st : List UInt8) (o : Nat) (l : List UInt8) : List UInt8 := st.take o ++ l ++ st.drop (o + l.length)
theorem splice_length (st : List UInt8) (o : Nat) (l : List UInt8) (h : o + l.length ≤ st.length) : (splice st o l).length = st.length := by
  simp [splice]; omega
theorem splice_at (st : List UInt8) (o : Nat) (l : List UInt8) (h : o + l.length ≤ st.length) (j : Nat) : (splice st o l)[j]? = if o ≤ j ∧ j < o + l.length then l[j - o]? else st[j]? := by
  unfold splice
  have h1 : (st.take o).length = o := by rw [List.length_take]; omega
  by_cases h2 : j < o
  · rw [if_neg (by omega), List.append_assoc, List.getElem?_append_left (by omega), List.getElem?_take_of_lt h2]
  · by_cases h3 : j < o + l.length
    · rw [if_pos ⟨by omega, h3⟩, List.append_assoc, List.getElem?_append_right (by omega), h1, List.getElem?_append_left (by omega)]
    · rw [if_neg (by omega), List.getElem?_append_right (by rw [List.length_append, h1]; omega), List.length_append, h1, List.getElem?_drop]
      congr 1; omega
theorem splice_nil (st : List UInt8) (o : Nat) : splice st o [] = st := by simp [splice]

/-- copy INTO AN OWNED ROW OF BYTES: all is read before anything is written. -/
theorem run_copy_u8 {w : World} {g n cap : Nat} {st : List UInt8} (h : OSl w 1 (.slice (some ⟨g, 0, none⟩) n cap) n (u8s st)) {sv : Value} {m : Nat} {src : List UInt8} (hs : RSl w 1 sv m (u8s src)) (o d dc : Nat) (hd : o + d ≤ n)
    (dT sT ty e : TypeId) (hu : P.underlying dT = some (.slice e)) (he : (P.info? e).map (·.size) = some 1) :
    ∃ w', (Builtin.copy_ #[dT, sT] ty #[.slice (some ⟨g, o, none⟩) d dc, sv]).run P w = .ok (.int .i64 (Nat.min m d : Nat)) w' ∧ OSl w' 1 (.slice (some ⟨g, 0, none⟩) n cap) n (u8s (splice st o (src.take (Nat.min m d)))) ∧ Frm (fun k => k = g) w w' := by
  have hst := h.1
  rw [u8s_length, Nat.mul_one] at hst
  obtain ⟨h2, h3, h6, h4, h5⟩ := h.at
  obtain ⟨k1, ao, sc, rfl, _, _, kc⟩ := hs
  rw [u8s_length, Nat.mul_one] at k1
  rcases Nat.eq_zero_or_pos (Nat.min m d) with hz | hp
  · refine ⟨w, ?_, ?_, Frm.refl _ _⟩
    · rw [run_copy_none w dT sT ty e _ ao d dc m sc hu he hz, hz]; rfl
    · rw [hz, List.take_zero, splice_nil]; exact h
  · have hmm : Nat.min m d ≤ m := Nat.min_le_left m d
    have hmd : Nat.min m d ≤ d := Nat.min_le_right m d
    have hm0 : 0 < m := by omega
    obtain ⟨sg, so, rfl, kc2⟩ := kc hm0
    have hlen : (src.take (Nat.min m d)).length = Nat.min m d := by rw [List.length_take]; omega
    have hlen' : (u8s (src.take (Nat.min m d))).length = Nat.min m d := by rw [u8s_length, hlen]
    have hin : ∀ j, j < Nat.min m d → (w.cell? ⟨g, o + j, none⟩).isSome = true ∧ w.frozen? ⟨g, o + j, none⟩ = false := fun j hj => by
      have := h5 (o + j) (by omega)
      rwa [Nat.zero_add] at this
    have hrun := run_copy_cells (P := P) w dT sT ty e g o d dc ⟨sg, so, none⟩ m sc (u8s (src.take (Nat.min m d))) hu he hlen' (fun j v hj => by
        have hj' := (List.getElem?_eq_some_iff.1 hj).1
        rw [Addr.add_mid, kc2 j (by omega)]
        rw [u8s_at, List.getElem?_take_of_lt (by omega)] at hj
        rw [u8s_at]; exact hj)
      (fun j hj => (hin j (by omega)).1) (fun j hj => (hin j (by omega)).2) (u8s_one _)
    refine ⟨_, by rw [hrun, hlen']; rfl, ?_, frm_setCells g o _ w⟩
    have hsp := splice_at st o (src.take (Nat.min m d)) (by omega)
    have hspl := splice_length st o (src.take (Nat.min m d)) (by omega)
    have hsome : ∀ j, j < (u8s (src.take (Nat.min m d))).length → (w.cell? ⟨g, o + j, none⟩).isSome = true := fun j hj => (hin j (by omega)).1
    refine ⟨by rw [u8s_length, hspl]; omega, .inr ⟨g, 0, cap, rfl, h2, h3, by rw [heap_size_setCells]; exact h6, fun j hj => ?_, fun j hj => ⟨?_, (World.frozen?_setCells g _ _ _ _).trans (h5 j hj).2⟩⟩⟩
    · rw [Nat.zero_add, u8s_at, hsp j, hlen]
      by_cases hjo : o ≤ j ∧ j < o + Nat.min m d
      · have := World.cell?_setCells_in g (u8s (src.take (Nat.min m d))) o w hsome (j - o) (by omega)
        rw [show o + (j - o) = j by omega] at this
        rw [this, if_pos hjo, ← List.getElem?_eq_getElem, u8s_at]
      · rw [World.cell?_setCells_out g _ _ _ _ (fun _ _ => by show j < o ∨ o + _ ≤ j; rw [hlen']; omega), if_neg hjo]
        have := h4 j hj
        rw [Nat.zero_add, u8s_at] at this
        exact this
    · rw [Nat.zero_add]
      by_cases hjo : o ≤ j ∧ j < o + Nat.min m d
      · have := World.cell?_setCells_in g (u8s (src.take (Nat.min m d))) o w hsome (j - o) (by omega)
        rw [show o + (j - o) = j by omega] at this
        rw [this]; rfl
      · rw [World.cell?_setCells_out g _ _ _ _ (fun _ _ => by show j < o ∨ o + _ ≤ j; rw [hlen']; omega)]
        have := (h5 j hj).1
        rwa [Nat.zero_add] at this

theorem made_at (n j : Nat) (h : j < n) : (madeCells (Value.int .u8 0).cells (n * 1))[j]? = some (.int .u8 0) := by
  simp [madeCells, Value.cells, h, Nat.mod_one]
/-- 'make([]byte, l, c)'. -/
theorem run_make_osl (w : World) (t e : TypeId) (i : TypeInfo) (ht : P.underlying t = some (.slice e)) (hi : P.info? e = some i) (hz : i.zero = some (.int .u8 0)) (hs : i.size = 1) (hb : i.bytes = 1) (l c : Nat) (hl : l ≤ c) (hc : c ≤ 281474976710656) :
    ∃ w', (Instr.makeSlice t (.int .i64 l) (.int .i64 c)).run P w = .ok (.slice (some ⟨w.heap.size, 0, none⟩) l c) w' ∧ OSl w' 1 (.slice (some ⟨w.heap.size, 0, none⟩) l c) l (u8s (List.replicate l 0)) ∧ Frm (fun _ => False) w w' ∧ w'.heap.size = w.heap.size + 1 := by
  have hr := run_make (P := P) w t e i _ ht hi hz .i64 .i64 l c (by omega) (by omega) (by rw [hb]; omega) (by omega)
  simp only [Int.toNat_natCast, hs] at hr
  refine ⟨_, hr, ?_, Frm.alloc _ w _, by simp⟩
  refine OSl.new w _ e 1 l c _ (by rw [u8s_length, List.length_replicate, Nat.mul_one]) hl (by unfold maxLen; omega) (by rw [size_madeCells]) (fun j hj => ?_)
  rw [made_at c j (by omega), u8s_at, List.getElem?_replicate, if_pos (by omega)]
  rfl
end

/-- Behind an append onto what is new, what it gave is new, and nothing old has turned. -/
theorem fresh_app {w w2 w3 : World} {v v' : Value} {H : Nat} (hF : Frm (fun _ => False) w w2) (hv : ∀ g, v.ownBlock = some g → w.heap.size ≤ g) (hf : Frm (fun k => v.ownBlock = some k) w2 w3) (hv' : v'.ownBlock = v.ownBlock ∨ v'.ownBlock = some H) (hH : w.heap.size ≤ H) :
    (∀ g, v'.ownBlock = some g → w.heap.size ≤ g) ∧ Frm (fun _ => False) w w3 := by
  refine ⟨fun g hg => ?_, hF.fresh hf fun i hi h => absurd (hv i h) (by omega)⟩
  rcases hv' with e | e
  · exact hv g (by rw [← e]; exact hg)
  · rw [e] at hg; have := Option.some.inj hg; omega

theorem RSl.lt8 {w : World} {v : Value} {n : Nat} {l : List UInt8} (h : RSl w 1 v n (u8s l)) (hn : 0 < n) : ∀ g, v.ownBlock = some g → g < w.heap.size := by
  obtain ⟨h1, ao, c, rfl, _, _, hc⟩ := h
  obtain ⟨g, o, rfl, hc2⟩ := hc hn
  intro g' hg
  have hg' : g = g' := by simpa [Value.ownBlock] using hg
  subst hg'
  rw [u8s_length, Nat.mul_one] at h1
  have h0 := hc2 0 (by omega)
  rw [u8s_at, List.getElem?_eq_getElem (by omega)] at h0
  exact World.block_lt_of_cell? _ _ h0
/-- A slice of bytes reads as before, where its block was not written. -/
theorem RSl.frmU {S : Nat → Prop} {w w' : World} {v : Value} {n : Nat} {l : List UInt8} (h : RSl w 1 v n (u8s l)) (hf : Frm S w w') (hs : ∀ g, v.ownBlock = some g → ¬ S g) : RSl w' 1 v n (u8s l) := by
  rcases Nat.eq_zero_or_pos n with hz | hp
  · obtain ⟨h1, ao, c, rfl, h2, h3, _⟩ := h
    exact ⟨h1, ao, c, rfl, h2, h3, fun h => by omega⟩
  · have hlt := h.lt8 hp
    exact h.frame fun g hg => hf.block g (hlt g hg) (hs g hg)
theorem RSl.sameU {w w' : World} {v : Value} {n : Nat} {l : List UInt8} (h : RSl w 1 v n (u8s l)) (hf : Frm (fun _ => False) w w') : RSl w' 1 v n (u8s l) := h.frmU hf (fun _ _ h => h)
/-- 's[:n]'. -/
theorem RSl.pre {w : World} {ao : Option Addr} {n c : Nat} {l : List UInt8} (h : RSl w 1 (.slice ao n c) n (u8s l)) (m : Nat) (hm : m ≤ n) : RSl w 1 (.slice ao m c) m (u8s (l.take m)) := by
  obtain ⟨h1, ao', c', he, h2, h3, hc⟩ := h
  cases he
  rw [u8s_length, Nat.mul_one] at h1
  refine ⟨by rw [u8s_length, List.length_take]; omega, ao, c, rfl, by omega, h3, fun hp => ?_⟩
  obtain ⟨g, o, rfl, hc2⟩ := hc (by omega)
  refine ⟨g, o, rfl, fun j hj => ?_⟩
  rw [hc2 j (by omega), u8s_at, u8s_at, List.getElem?_take_of_lt (by omega)]
theorem RSl.len {w : World} {v : Value} {n : Nat} {l : List UInt8} (h : RSl w 1 v n (u8s l)) : l.length = n := by
  have := h.1
  rwa [u8s_length, Nat.mul_one] at this
theorem RSl.caps {w : World} {ao : Option Addr} {n c : Nat} {xs : List Value} (h : RSl w 1 (.slice ao n c) n xs) : n ≤ c ∧ c ≤ maxLen := by
  obtain ⟨_, _, _, he, h1, h2, _⟩ := h
  cases he
  exact ⟨h1, h2⟩
/-- 'append([]byte{}, ..)' begins with nothing. -/
theorem empty_osl (w : World) (e : TypeId) : OSl (w.alloc (.cells #[] e)) 1 (.slice (some ⟨w.heap.size, 0, none⟩) 0 0) 0 [] :=
  OSl.new w #[] e 1 0 0 [] rfl (Nat.le_refl _) (Nat.zero_le _) rfl (fun j hj => by simp at hj)
end Go.Proofs.YtimhofphmgehgaaDoor
