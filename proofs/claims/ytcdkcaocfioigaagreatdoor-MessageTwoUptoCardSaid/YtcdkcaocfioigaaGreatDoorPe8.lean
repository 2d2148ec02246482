/- Part 8 of the texts below the law: the abstract machine, the functions that it walks, what they compute. -/
import Derived.Test.YtcdkcaocfioigaaGreatDoorPe7
import Derived.Lib.ItoaLen
import Derived.Stop.LaidErr
set_option linter.unusedVariables false
set_option linter.unusedSimpArgs false
set_option linter.unusedSectionVars false
set_option maxRecDepth 100000
namespace Go.Proofs.YtcdkcaocfioigaaGreatDoor
open Go Go.RowKit Go.Proofs

/-- A row is grown by a text's bytes; the row behind it is the old one or new. -/
theorem run_app_bf {P : Program} (w : World) (t u ty e : TypeId) (i : TypeInfo) (ht : P.underlying t = some (.slice e)) (hu : P.underlying u = some .string) (hi : P.info? e = some i) (hz : i.zero = some (.int .u8 0))
    (hsize : i.size = 1) (hby : i.bytes = 1) (v : Value) (n : Nat) (xs : List Value) (hown : w.ownsRowF 0 e 1 v n xs) (s : ByteArray) (h63 : n + s.size ≤ maxLen) (hbytes : n + s.size ≤ 140737488355328) :
    ∃ v' w', (Builtin.append_ #[t, u] ty #[v, .string s]).run P w = .ok v' w' ∧ w'.ownsRowF 0 e 1 v' (n + s.size) (xs ++ Lib.strCells s) ∧ w.grownBy w' v.ownBlock ∧ ∀ g, v'.ownBlock = some g → v.ownBlock = some g ∨ w.heap.size ≤ g := by
  rcases hown.2 with ⟨rfl, rfl⟩ | ⟨g, cap, cur, fz, rfl, hbg, hg, hfz, hnc, hcm, hcs, htake⟩
  · obtain ⟨v', w', h1, h2, h3, _⟩ := Lib.run_append_own_stringF (P := P) w w.heap.size t u ty e i ht hu hi hz hsize hby (.slice none 0 0) 0 xs ⟨hown.1, .inl ⟨rfl, rfl⟩⟩ s h63 hbytes (Nat.le_refl _)
    have h2' : w'.ownsRowF 0 e 1 v' (0 + s.size) (xs ++ Lib.strCells s) := by
      obtain ⟨a, b⟩ := h2
      refine ⟨a, b.imp id fun ⟨g, cap, cur, fz, r1, r2, r3⟩ => ⟨g, cap, cur, fz, r1, Nat.zero_le _, r3⟩⟩
    exact ⟨v', w', h1, h2', h3, fun g hg => .inr (h2.lt g hg).1⟩
  · have hxl : xs.length = n := by simpa using hown.1
    have hlen : (xs ++ Lib.strCells s).length = (n + s.size) * 1 := by rw [List.length_append, hxl, Lib.strCells_length, Nat.mul_one]
    by_cases hroom : n + s.size ≤ cap
    · have hcs' : cur.size = cap := by simpa using hcs
      have hr := Lib.run_append_room_stringF (P := P) w t u ty e i ht hu hi hsize g n cap cur fz hg (by simpa using hfz) s hroom (by omega)
      refine ⟨_, _, hr, ⟨hlen, .inr ⟨g, cap, _, fz, rfl, hbg, setRow_heap w g cur _ e _ hg, by omega, hroom, hcm, ?_, ?_⟩⟩, ⟨rfl, rfl, rfl, by simp, fun k _ hk => setRow_other w g k _ (fun e => hk (by simp [Value.ownBlock, e]))⟩, fun g' hg' => .inl hg'⟩
      · simp only [List.size_toArray, List.length_append, List.length_take, List.length_drop, Array.length_toList, Lib.strCells_length]
        omega
      · have ht' : cur.toList.take n = xs := by simpa using htake
        rw [ht', ← hlen]
        exact List.take_left
    · have holds : ∀ j u, xs[j]? = some u → w.cell? ((⟨g, 0, none⟩ : Addr).add j) = some u := hown.cells (g := g) rfl
      have hr := Lib.run_append_grow_string (P := P) w t u ty e i (.int .u8 0) ht hu hi hz ⟨g, 0, none⟩ n cap xs (by rw [hsize]; simpa using hxl) holds s (by omega) (by simp only [maxLen] at h63; omega) (by rw [hby]; exact growslice_fits (by omega) (by omega))
      have hge := grownCap_ge w (n + s.size) cap e
      have hcm2 : grownCap w (n + s.size) cap e ≤ maxLen := grownCap_le_maxLen w (n + s.size) cap e h63
      refine ⟨_, _, hr, ⟨hlen, .inr ⟨w.heap.size, _, _, (0, 0), rfl, Nat.zero_le _, heap_alloc_new w.drew _, Nat.zero_le _, hge, hcm2, ?_, ?_⟩⟩, ⟨rfl, rfl, rfl, by simp, fun k hk _ => heap_alloc_old w.drew _ hk⟩, fun g' hg' => .inr (by simp [Value.ownBlock] at hg'; omega)⟩
      · have hz1 : (Value.int IntKind.u8 0).cells.size = 1 := rfl
        simp only [Array.size_append, List.size_toArray, size_zeroCells, hz1, hxl, Lib.strCells_length]
        omega
      · simp only [Array.toList_append, List.append_assoc]
        rw [← List.append_assoc, ← hlen]
        exact List.take_left
theorem wpList_app_bf {P : Program} {w : World} {ops : Array Oper} {rest : List Oper} {o : Oper} {a : Act} {Q : Exit → Act → World → Prop} (hgd : o.guard = none) (sl x : Operand) (t u : TypeId)
    (ho : o.op = .call { callee := .builtin .append, args := #[sl, x], argTypes := #[t, u] }) (e : TypeId) (i : TypeInfo) (ht : P.underlying t = some (.slice e)) (hu : P.underlying u = some .string) (hi : P.info? e = some i) (hz : i.zero = some (.int .u8 0))
    (hsize : i.size = 1) (hby : i.bytes = 1) (v : Value) (n : Nat) (xs : List Value) (hs : a.eval sl = v) (hown : w.ownsRowF 0 e 1 v n xs) (s : ByteArray) (hx : a.eval x = .string s) (h63 : n + s.size ≤ maxLen) (hbytes : n + s.size ≤ 140737488355328)
    (h : ∀ v' w', w'.ownsRowF 0 e 1 v' (n + s.size) (xs ++ Lib.strCells s) → w.grownBy w' v.ownBlock → (∀ g, v'.ownBlock = some g → v.ownBlock = some g ∨ w.heap.size ≤ g) → wpList P ops Q rest (a.put o.dst v') w') : wpList P ops Q (o :: rest) a w := by
  refine wpList_plain hgd fun K hK => ?_
  obtain ⟨v', w', hr, h2, h3, h4⟩ := run_app_bf (P := P) w t u o.type e i ht hu hi hz hsize hby v n xs hown s h63 hbytes
  unfold Oper.wp execOp
  simp only [ho, resolve, invoke, builtin, Sem.run_bind, Sem.run_pure, Result.andThen_ok, List.map_toArray, List.map_cons, List.map_nil, hs, hx, hr]
  exact hK _ _ (h v' w' h2 h3 h4)
abbrev TB : TypeId := 125
abbrev TU : TypeId := 5
/-- A builder's block. -/
def BB (b : Nat) (u v : Value) (l : List UInt8) (w : World) : Prop := w.heap[b]? = some (.cells #[u, v] TB (0, 0)) ∧ (u = .pointer none ∨ u = .pointer (some ⟨b, 0, none⟩)) ∧ w.ownsRowF 0 TU 1 v l.length (bfCells l) ∧ v.ownBlock ≠ some b
/-- What is left alone: all but the builder's two blocks. -/
structure BK (b : Nat) (v : Value) (w w' : World) : Prop where
  os : w'.os = w.os
  tape : w'.tape = w.tape
  output : w'.output = w.output
  size : w.heap.size ≤ w'.heap.size
  keep : ∀ k, k < w.heap.size → k ≠ b → v.ownBlock ≠ some k → w'.heap[k]? = w.heap[k]?
theorem bkRefl (b : Nat) (v : Value) (w : World) : BK b v w w := ⟨rfl, rfl, rfl, Nat.le_refl _, fun _ _ _ _ => rfl⟩
theorem bb_lt {b : Nat} {u v : Value} {l : List UInt8} {w : World} (h : BB b u v l w) : b < w.heap.size := blk_lt1 h.1
theorem ccheck_ok (b : Nat) (u v : Value) (l : List UInt8) (w : World) (h : BB b u v l w) : Calls Tryz.prog 104 #[.pointer (some ⟨b, 0, none⟩)] w fun e w' => e = .returned (.tuple #[]) ∧ BB b (.pointer (some ⟨b, 0, none⟩)) v l w' ∧ BK b v w w' := by
  obtain ⟨h1, h2, h3, h4⟩ := h
  have hlt : b < w.heap.size := blk_lt1 h1
  have c0 : w.cell? ⟨b, 0, none⟩ = some u := by rw [Lib.cell_of_heap h1]; rfl
  rcases h2 with rfl | rfl
  · refine (Any.Builder_copyCheck_fresh { lays166 with } lextra.toX72 b w c0 (by simp [World.shape?, h1]; rfl) (Lib.frozen_of_heap h1 0)).mono ?_
    rintro e w' ⟨rfl, rfl⟩
    have hk : ∀ k, k ≠ b → (w.setCell ⟨b, 0, none⟩ (.pointer (some ⟨b, 0, none⟩))).heap[k]? = w.heap[k]? := fun k hk => Below.heap_setCell _ _ _ _ hk
    refine ⟨rfl, ⟨by simp [World.setCell, Array.getElem?_modify, h1], .inr rfl, rowF_kept h3 fun g hg => hk g (fun e => h4 (e ▸ hg)), h4⟩, rfl, rfl, rfl, by simp [World.setCell], fun k _ hkb _ => hk k hkb⟩
  · refine (Any.Builder_copyCheck_used { lays166 with } lextra.toX72 b w c0).mono ?_
    rintro e w' ⟨rfl, rfl⟩
    exact ⟨rfl, ⟨h1, .inr rfl, h3, h4⟩, bkRefl _ _ _⟩
theorem bf_str (l : List UInt8) (s : ByteArray) : bfCells l ++ Lib.strCells s = bfCells (l ++ s.data.toList) := by
  unfold bfCells
  rw [List.map_append]
  rfl
set_option maxHeartbeats 1000000 in
theorem wstr_ok (b : Nat) (u v : Value) (l : List UInt8) (s : ByteArray) (w : World) (h : BB b u v l w) (hlen : l.length + s.size ≤ 140737488355328) : Calls Tryz.prog 74 #[.pointer (some ⟨b, 0, none⟩), .string s] w fun e w' =>
    e = .returned (.tuple #[.int .i64 s.size, .nilIface]) ∧ ∃ u' v', BB b u' v' (l ++ s.data.toList) w' ∧ BK b v w w' ∧ ∀ g, v'.ownBlock = some g → v.ownBlock = some g ∨ w.heap.size ≤ g := by
  obtain ⟨i0, hi, hz0, hz1, hz2⟩ := info_parts lextra.infoByte
  go_enter Tryz.func74, Tryz.ntmps74
  go_wp2_with (go_at_call 104; refine (ccheck_ok b u v l _ h).mono ?_)
  rintro e w1 ⟨rfl, h1, hk1⟩
  obtain ⟨hbk, _, hown, hne⟩ := h1
  have c0 : w1.cell? ⟨b, 0, none⟩ = some (.pointer (some ⟨b, 0, none⟩)) := by rw [Lib.cell_of_heap hbk]; rfl
  have c1 : w1.cell? ⟨b, 1, none⟩ = some v := by rw [Lib.cell_of_heap hbk]; rfl
  have hlt : b < w1.heap.size := blk_lt1 hbk
  go_wp2_with (at_builtin; refine wpList_app_bf rfl _ _ 123 9 rfl TU i0 Tryz.underlying123 Tryz.underlying9 hi hz0 hz1 hz2 _ _ _ rfl hown s rfl ?c3 ?c4 ?_)
  case c3 => unfold maxLen; omega
  case c4 => omega
  intro v' w2 hown' hgrow hnew
  have hb2 : w2.heap[b]? = some (.cells #[.pointer (some ⟨b, 0, none⟩), v] TB (0, 0)) := by
    rw [hgrow.block b hlt (fun e => hne e.symm)]
    exact hbk
  have d0 : w2.cell? ⟨b, 0, none⟩ = some (.pointer (some ⟨b, 0, none⟩)) := by rw [Lib.cell_of_heap hb2]; rfl
  have d1 : w2.cell? ⟨b, 1, none⟩ = some v := by rw [Lib.cell_of_heap hb2]; rfl
  have f1 : w2.frozen? ⟨b, 1, none⟩ = false := Lib.frozen_of_heap hb2 1
  have hne' : v'.ownBlock ≠ some b := fun e => by
    rcases hnew b e with h | h
    · exact hne h
    · omega
  obtain ⟨ao, n', cap, hv'⟩ : ∃ ao n' cap, v' = .slice ao n' cap := by
    rcases hown'.2 with ⟨hv, _⟩ | ⟨g, cap, cur, fz, hv, _⟩
    · exact ⟨_, _, _, hv⟩
    · exact ⟨_, _, _, hv⟩
  have HH := Lib.hid (And.intro hown' (And.intro hgrow (And.intro hnew (And.intro hne' hk1))))
  clear hown' hgrow hnew hne' hk1
  subst hv'
  go_wp2
  go_ret2
  obtain ⟨hown', hgrow, hnew, hne', hk1⟩ := HH.out
  have hk : ∀ k, k ≠ b → (w2.setCell ⟨b, 1, none⟩ (.slice ao n' cap)).heap[k]? = w2.heap[k]? := fun k hk => Below.heap_setCell _ _ _ _ hk
  refine ⟨rfl, _, _, ⟨by simp [World.setCell, Array.getElem?_modify, hb2], .inr rfl, ?_, hne'⟩, ⟨hgrow.os.trans hk1.os, hgrow.tape.trans hk1.tape, hgrow.output.trans hk1.output, by simp only [World.setCell]; simpa using Nat.le_trans hk1.size hgrow.size, fun k h1 h2 h3 => ?_⟩, fun g hg => ?_⟩
  · have e1 : (l ++ s.data.toList).length = l.length + s.size := by rw [List.length_append, size_toList]
    rw [e1, ← bf_str]
    exact rowF_kept hown' fun g hg => hk g (fun e => hne' (e ▸ hg))
  · rw [hk k h2, hgrow.block k (Nat.lt_of_lt_of_le h1 hk1.size) (fun e => h3 e.symm)]
    exact hk1.keep k h1 h2 h3
  · exact (hnew g hg).imp id fun h => Nat.le_trans hk1.size h
set_option maxHeartbeats 2000000 in
theorem bstr_ok (b : Nat) (u v : Value) (l : List UInt8) (w : World) (h : BB b u v l w) : Calls Tryz.prog 75 #[.pointer (some ⟨b, 0, none⟩)] w fun e w' =>
    e = .returned (.string (tx l)) ∧ BB b u v l w' ∧ BK b v w w' := by
  have hUN : ∀ (W : World) (q : Option Addr), (Builtin.unsafeString_ #[161, 3] 9 #[.pointer q, .int .i64 0]).run Tryz.prog W = .ok (.string .empty) W := fun W q => Lib.run_unsafeString_none W _ _ _ q
  have hlt := bb_lt h
  have h' := h
  obtain ⟨hbk, hu, hown, hne⟩ := h
  have H0 := Lib.hid h'
  have HU := Lib.hid hu
  clear h' hu
  rcases hown.2 with ⟨rfl, hz⟩ | ⟨g, cap, cur, fz, rfl, hbg, hg, hfz, hnc, hcm, hcs, htake⟩
  · obtain rfl : l = [] := List.eq_nil_of_length_eq_zero hz
    have c1 : w.drew.cell? ⟨b, 1, none⟩ = some (.slice none 0 0) := by
      have : w.drew.heap[b]? = some (.cells #[u, .slice none 0 0] TB (0, 0)) := hbk
      rw [Lib.cell_of_heap this]; rfl
    have hSD : (Builtin.unsafeSliceData_ #[123] 161 #[.slice none 0 0]).run Tryz.prog w.drew = .ok (.pointer none) w.drew := rfl
    go_enter Tryz.func75, Tryz.ntmps75
    go_wp2
    go_region
    all_goals (go_wp2; go_ret; exact ⟨rfl, H0.out, ⟨rfl, rfl, rfl, Nat.le_refl _, fun _ _ _ _ => rfl⟩⟩)
  · by_cases hl0 : l = []
    · subst hl0
      by_cases hc0 : cap = 0
      · subst hc0
        have hSD : (Builtin.unsafeSliceData_ #[123] 161 #[.slice (some ⟨g, 0, none⟩) 0 0]).run Tryz.prog w.drew = .ok (.pointer (some ⟨w.drew.heap.size, 0, none⟩)) (w.drew.alloc (.view ⟨g, 0, none⟩ TU)) :=
          Lib.run_unsafeSliceData_zero w.drew _ _ TU Tryz.underlying161 ⟨g, 0, none⟩ 0 (TU, cur.size) (by have hg' : w.drew.heap[g]? = some (.cells cur TU fz) := hg; simp [World.shape?, hg'])
        have c1 : w.drew.cell? ⟨b, 1, none⟩ = some (.slice (some ⟨g, 0, none⟩) 0 0) := by
          have : w.drew.heap[b]? = some (.cells #[u, .slice (some ⟨g, 0, none⟩) 0 0] TB (0, 0)) := hbk
          rw [Lib.cell_of_heap this]; rfl
        have c2 : (w.drew.alloc (.view ⟨g, 0, none⟩ TU)).cell? ⟨b, 1, none⟩ = some (.slice (some ⟨g, 0, none⟩) 0 0) := by
          have : (w.drew.alloc (.view ⟨g, 0, none⟩ TU)).heap[b]? = _ := (Lib.alloc_old w.drew _ b hlt).trans hbk
          rw [Lib.cell_of_heap this]; rfl
        have c3 : (w.alloc (.view ⟨g, 0, none⟩ TU)).drew.cell? ⟨b, 1, none⟩ = some (.slice (some ⟨g, 0, none⟩) 0 0) := c2
        have c0 : w.cell? ⟨b, 1, none⟩ = some (.slice (some ⟨g, 0, none⟩) 0 0) := c1
        have hal : ∀ k, k < w.heap.size → (w.drew.alloc (.view ⟨g, 0, none⟩ TU)).heap[k]? = w.heap[k]? := fun k hk => Lib.alloc_old w.drew _ k hk
        have fin : BB b u (.slice (some ⟨g, 0, none⟩) 0 0) [] (w.drew.alloc (.view ⟨g, 0, none⟩ TU)) ∧ BK b (.slice (some ⟨g, 0, none⟩) 0 0) w (w.drew.alloc (.view ⟨g, 0, none⟩ TU)) := by
          obtain ⟨h1, h2, h3, h4⟩ := H0.out
          exact ⟨⟨(hal b hlt).trans h1, h2, rowF_kept h3 fun g' hg' => hal g' (h3.lt g' hg').2, h4⟩, ⟨rfl, rfl, rfl, by simp, fun k hk _ _ => hal k hk⟩⟩
        have HF := Lib.hid fin
        clear fin hal
        go_enter Tryz.func75, Tryz.ntmps75
        go_wp2
        go_region
        all_goals (go_wp2; go_ret; exact ⟨rfl, HF.out⟩)
      · have hSD : (Builtin.unsafeSliceData_ #[123] 161 #[.slice (some ⟨g, 0, none⟩) 0 cap]).run Tryz.prog w.drew = .ok (.pointer (some ⟨g, 0, none⟩)) w.drew :=
          Lib.run_unsafeSliceData_row _ _ _ _ _ _ hc0
        have c1 : w.drew.cell? ⟨b, 1, none⟩ = some (.slice (some ⟨g, 0, none⟩) 0 cap) := by
          have : w.drew.heap[b]? = some (.cells #[u, .slice (some ⟨g, 0, none⟩) 0 cap] TB (0, 0)) := hbk
          rw [Lib.cell_of_heap this]; rfl
        clear hc0
        go_enter Tryz.func75, Tryz.ntmps75
        go_wp2
        go_region
        all_goals (go_wp2; go_ret; exact ⟨rfl, H0.out, ⟨rfl, rfl, rfl, Nat.le_refl _, fun _ _ _ _ => rfl⟩⟩)
    · have hlp : l.length ≠ 0 := fun e => hl0 (List.length_eq_zero_iff.1 e)
      have c1 : w.drew.cell? ⟨b, 1, none⟩ = some (.slice (some ⟨g, 0, none⟩) l.length cap) := by
        have : w.drew.heap[b]? = some (.cells #[u, .slice (some ⟨g, 0, none⟩) l.length cap] TB (0, 0)) := hbk
        rw [Lib.cell_of_heap this]; rfl
      have hSD : (Builtin.unsafeSliceData_ #[123] 161 #[.slice (some ⟨g, 0, none⟩) l.length cap]).run Tryz.prog w.drew = .ok (.pointer (some ⟨g, 0, none⟩)) w.drew :=
        Lib.run_unsafeSliceData_row _ _ _ _ _ _ (by omega)
      have hUS : (Builtin.unsafeString_ #[161, 3] 9 #[.pointer (some ⟨g, 0, none⟩), .int .i64 l.length]).run Tryz.prog w.drew = .ok (.string ⟨l.toArray⟩) (w.drew.freeze ⟨g, 0, none⟩ l.length) := by
        refine Lib.run_unsafeString_row w.drew 161 3 9 TU Tryz.underlying161 lextra.cellsByte g cur.size (by have hg' : w.drew.heap[g]? = some (.cells cur TU fz) := hg; simp [World.shape?, hg']) l hl0 (by omega) (by unfold maxLen at hcm; omega) ?_
        intro j x hx
        exact hown.cells (g := g) rfl j (.int .u8 x.toNat) (by simp [bfCells, hx])
      have hfr : ∀ k, k ≠ g → (w.drew.freeze ⟨g, 0, none⟩ l.length).heap[k]? = w.heap[k]? := fun k hk => by
        unfold World.freeze
        split
        · rfl
        · simp only [Array.getElem?_modify]
          rw [if_neg (fun e => hk e.symm)]
          rfl
      have fin : BB b u (.slice (some ⟨g, 0, none⟩) l.length cap) l (w.drew.freeze ⟨g, 0, none⟩ l.length) ∧ BK b (.slice (some ⟨g, 0, none⟩) l.length cap) w (w.drew.freeze ⟨g, 0, none⟩ l.length) := by
        have hbl : (bfCells l).length = l.length := by simp [bfCells]
        have hA : Lib.BuilderAtF TB TU 0 b u (bfCells l) w.drew := ⟨Nat.zero_le _, _, hbk, by rw [hbl]; exact hown, hne⟩
        have hF := hA.froze (g := g) (cap := cap) (by rw [hbl]; exact c1)
        rw [hbl] at hF
        obtain ⟨_, v', k1, k2, k3⟩ := hF
        have hgb : b ≠ g := fun e => hne (by simp [Value.ownBlock, e])
        have k1' := k1
        rw [hfr b hgb, hbk] at k1'
        simp at k1'
        subst k1'
        rw [hbl] at k2
        refine ⟨⟨k1, HU.out, k2, hne⟩, ⟨?_, ?_, ?_, ?_, fun k hk h2 h3 => hfr k (fun e => h3 (by simp [Value.ownBlock, e]))⟩⟩ <;> (unfold World.freeze; split <;> first | rfl | exact Nat.le_refl _ | (simp only [Array.size_modify]; exact Nat.le_refl _))
      have HF := Lib.hid fin
      clear fin hfr
      go_enter Tryz.func75, Tryz.ntmps75
      go_wp2
      go_region
      all_goals (go_wp2; go_ret; exact ⟨rfl, HF.out⟩)
/-- BEHIND A CALL THAT HAS WRITTEN OR READ A BUILDER. -/
theorem post_bld {E : Env} {w w' : World} {β : Nat → Nat} {Rd : Nat → Nat → Prop} {Ow : Nat → Option Hold} {H : Hp} (hr : HR E w β Rd Ow H) {i : Nat} {l l' : List UInt8} (hi : H[i]? = some [.bl TB, .bf TU l]) {u v u' v' : Value} (hb : BB (β i) u v l w) (hb' : BB (β i) u' v' l' w') (hk : BK (β i) v w w')
    (hnew : ∀ g, v'.ownBlock = some g → v.ownBlock = some g ∨ w.heap.size ≤ g) {x : AV} {c : Value} (hx : Rel w' β Rd x c) (hxf : x.free = true) (hxb : Bnd H.length x) :
    ∃ Ow', Post E w β Rd Ow H w' β Rd Ow' (H.set i [.bl TB, .bf TU l']) x c := by
  have hil : i < H.length := (List.getElem?_eq_some_iff.1 hi).1
  obtain ⟨T, cs, b1, b2, b3⟩ := hr.box i _ hi
  have e0 := hb.1
  rw [e0] at b1
  cases b1
  obtain ⟨r1, r2, r3⟩ := b3 1 (.bf TU l) v rfl rfl
  have hd : ∀ g, v.ownBlock = some g → ∀ o, ¬ Rd g o := by cases r1; assumption
  have hOv : ∀ g, v.ownBlock = some g → Ow g = some (.cell i 1) := fun g hg => r3 g hg
  have hlt : ∀ j, j < H.length → β j < w.heap.size := fun j hj => by
    obtain ⟨T, cs, h1, _⟩ := hr.box j _ (List.getElem?_eq_getElem hj)
    exact blk_lt1 h1
  have hvb : ∀ j, j < H.length → v.ownBlock ≠ some (β j) := fun j hj e => by have := hOv _ e; rw [(hr.sep j hj).1] at this; cases this
  have hv'b : ∀ j, j < H.length → v'.ownBlock ≠ some (β j) := fun j hj e => by
    rcases hnew _ e with h | h
    · exact hvb j hj h
    · have := hlt j hj; omega
  have hR : ∀ g o, Rd g o → Rd g o ∧ w'.cell? ⟨g, o, none⟩ = w.cell? ⟨g, o, none⟩ := fun g o h => ⟨h, World.cell?_of_block (a := ⟨g, o, none⟩) (hk.keep g (hr.rds g o h) (fun e => (hr.sep i hil).2 o (e ▸ h)) (fun e => hd g e o h))⟩
  have hO : ∀ (j p : Nat) g, (j ≠ i ∨ p ≠ 1) → Ow g = some (.cell j p) → w'.heap[g]? = w.heap[g]? ∧ ∀ o, Rd g o → Rd g o := fun j p g hj hg => ⟨hk.keep g (hr.ows g _ hg) (fun e => by rw [e, (hr.sep i hil).1] at hg; cases hg) (fun e => by rw [hOv g e] at hg; cases hg; simp at hj), fun _ h => h⟩
  have hlen : (H.set i [AV.bl TB, .bf TU l']).length = H.length := by simp
  have hother : ∀ j, j < H.length → j ≠ i → w'.heap[β j]? = w.heap[β j]? := fun j hj hji => hk.keep _ (hlt j hj) (fun e => hji (hr.inj j i hj hil e)) (hvb j hj)
  refine ⟨fun g => if v'.ownBlock = some g then some (.cell i 1) else Ow g, hx, by rw [hlen]; exact hxb, fun g hg => (by rw [own0_free hxf] at hg; cases hg), dis_free_of_free hxf, ?_, fun _ _ => rfl, by rw [hlen]; exact Nat.le_refl _, hR, fun b h1 h2 h3 => ⟨hk.keep b h1 (fun e => h2 i hil e.symm) (fun e => (by rw [hOv b e] at h3; cases h3)), ?_, fun j hj => h2 j (by rwa [hlen] at hj), fun _ h => h⟩, hk.os, hk.tape, hk.output, hk.size⟩
  · refine ⟨fun j m hm => ?_, fun a b ha hbb => hr.inj a b (by rwa [hlen] at ha) (by rwa [hlen] at hbb), fun j hj => ⟨?_, (hr.sep j (by rwa [hlen] at hj)).2⟩, fun g k hg => ?_, fun g o h => Nat.lt_of_lt_of_le (hr.rds g o h) hk.size, fun m hm y hy => ?_, fun b hbf => ?_, fun j m t hm h0 => ?_⟩
    · by_cases hji : i = j
      · subst hji
        rw [List.getElem?_set_self hil] at hm
        cases hm
        refine ⟨TB, _, hb'.1, rfl, fun p y z hy hz => ?_⟩
        match p with
        | 0 =>
          simp at hy hz; subst hy; subst hz
          exact ⟨.bl _ _ (by rcases hb'.2.1 with rfl | rfl <;> rfl), rfl, fun g hg => by cases hg⟩
        | 1 =>
          simp at hy hz; subst hy; subst hz
          refine ⟨.bf _ _ _ hb'.2.2.1 (fun g hg o ho => ?_), rfl, fun g hg => ?_⟩
          · rcases hnew g hg with h | h
            · exact hd g h o ho
            · have := hr.rds g o ho; omega
          · have hg : v'.ownBlock = some g := hg
            simp [hg]
        | p + 2 => simp at hy
      · rw [List.getElem?_set_ne hji] at hm
        have hj : j < H.length := (List.getElem?_eq_some_iff.1 hm).1
        obtain ⟨T2, cs2, c1, c2, c3⟩ := hr.box j m hm
        refine ⟨T2, cs2, (hother j hj (fun e => hji e.symm)).trans c1, c2, fun p y z hy hz => ?_⟩
        obtain ⟨q1, q2, q3⟩ := c3 p y z hy hz
        refine ⟨q1.move (hr.bnd m (mem_at hm) y (mem_at hy)) hR (fun g hg => hO j p g (.inl fun e => hji e.symm) (q3 g hg)) hk.size (fun _ _ => rfl), q2, fun g hg => ?_⟩
        have hq := q3 g hg
        show (if v'.ownBlock = some g then _ else _) = _
        rw [if_neg]
        · exact hq
        · intro e
          rcases hnew g e with h | h
          · rw [hOv g h] at hq; cases hq; exact hji rfl
          · have := hr.ows g _ hq; omega
    · rw [hlen] at hj
      show (if v'.ownBlock = some (β j) then _ else _) = _
      rw [if_neg (hv'b j hj)]
      exact (hr.sep j hj).1
    · have hg : (if v'.ownBlock = some g then some (Hold.cell i 1) else Ow g) = some k := hg
      split at hg
      · rename_i e; exact (hb'.2.2.1.lt g e).2
      · exact Nat.lt_of_lt_of_le (hr.ows g k hg) hk.size
    · rw [hlen]
      rcases List.mem_or_eq_of_mem_set hm with h | h
      · exact hr.bnd m h y hy
      · subst h
        simp at hy
        rcases hy with rfl | rfl
        · exact .bl _
        · exact .bf _ _
    · obtain ⟨f1, f2, f3, f4⟩ := hr.fix b hbf
      have hvn : v.ownBlock ≠ some b := fun e => by rw [hOv b e] at f2; cases f2
      refine ⟨(hk.keep b f4 (fun e => f3 i hil e.symm) hvn).trans f1, ?_, fun j hj => f3 j (by rwa [hlen] at hj), Nat.lt_of_lt_of_le f4 hk.size⟩
      show (if v'.ownBlock = some b then _ else _) = _
      rw [if_neg]
      · exact f2
      · intro e
        rcases hnew b e with h | h
        · exact hvn h
        · omega
    · by_cases hji : i = j
      · subst hji
        rw [List.getElem?_set_self hil] at hm
        cases hm
        simp at h0
        subst h0
        exact ⟨u', v', hb'.1, hb'.2.1⟩
      · rw [List.getElem?_set_ne hji] at hm
        have hj : j < H.length := (List.getElem?_eq_some_iff.1 hm).1
        obtain ⟨u2, v2, g1, g2⟩ := hr.bld j m t hm h0
        exact ⟨u2, v2, (hother j hj (fun e => hji e.symm)).trans g1, g2⟩
  · show (if v'.ownBlock = some b then _ else _) = _
    rw [if_neg]
    · exact h3
    · intro e
      rcases hnew b e with h | h
      · rw [hOv b h] at h3; cases h3
      · omega
/-- A builder's box. -/
theorem bb_of {E : Env} {w : World} {β : Nat → Nat} {Rd : Nat → Nat → Prop} {Ow : Nat → Option Hold} {H : Hp} (hr : HR E w β Rd Ow H) {i : Nat} {l : List UInt8} (hi : H[i]? = some [.bl TB, .bf TU l]) : ∃ u v, BB (β i) u v l w := by
  obtain ⟨u, v, h1, h2⟩ := hr.bld i _ TB hi rfl
  obtain ⟨T, cs, b1, b2, b3⟩ := hr.box i _ hi
  rw [h1] at b1
  cases b1
  obtain ⟨r1, r2, r3⟩ := b3 1 (.bf TU l) v rfl rfl
  refine ⟨u, v, h1, h2, by cases r1; assumption, fun e => ?_⟩
  have := r3 _ e
  rw [(hr.sep i (List.getElem?_eq_some_iff.1 hi).1).1] at this
  cases this
section
variable (E : Env) (H : Hp) (Q : AV → Hp → Prop)
theorem wstr_pc (i : Nat) (l s : List UInt8) (hi : H[i]? = some [.bl TB, .bf TU l]) (hl : l.length + s.length ≤ 140737488355328) (hQ : Q (.tup [.int .i64 s.length, .raw .nilIface]) (H.set i [.bl TB, .bf TU (l ++ s)])) : PC Tryz.prog E 74 [.ptr (some (i, 0)), .str s] H Q := by
  refine ⟨by kernel_rfl, fun w β Rd Ow cargs hr hcell hsz hargs => ?_⟩
  obtain ⟨u, v, hb⟩ := bb_of hr hi
  have g0 := hargs 0 _ _ rfl (Array.getElem?_eq_getElem (by rw [hsz]; simp))
  have g1 := hargs 1 _ _ rfl (Array.getElem?_eq_getElem (by rw [hsz]; simp))
  obtain ⟨c0, c1, rfl⟩ : ∃ c0 c1, cargs = #[c0, c1] := by
    cases cargs with
    | mk l =>
      match l, hsz with
      | [x, y], _ => exact ⟨x, y, rfl⟩
  simp at g0 g1
  obtain rfl := rel_ptr g0.1
  obtain ⟨t, rfl, ht, _⟩ := rel_str g1
  subst ht
  refine (wstr_ok (β i) u v l t w hb (by rw [size_toList] at hl; exact hl)).mono ?_
  rintro e w' ⟨rfl, u', v', h1, h2, h3⟩
  obtain ⟨Ow', hP⟩ := post_bld hr hi hb h1 h2 h3 (x := .tup [.int .i64 t.data.toList.length, .raw .nilIface]) (c := .tuple #[.int .i64 t.size, .nilIface])
    (.tup _ _ rfl (by simp [AV.free]) (fun j x u hx hu => by
      match j with
      | 0 => simp at hx hu; subst hx; subst hu; exact .int _ _
      | 1 => simp at hx hu; subst hx; subst hu; exact .raw _
      | j + 2 => simp at hx)) rfl (.tup _ (fun x hx => by simp at hx; rcases hx with rfl | rfl; exact .int _ _; exact .raw _))
  exact ⟨_, _, _, β, Rd, Ow', rfl, hQ, hP⟩
theorem bstr_pc (i : Nat) (l : List UInt8) (hi : H[i]? = some [.bl TB, .bf TU l]) (hl : l.length ≤ maxLen) (hQ : Q (.str l) H) : PC Tryz.prog E 75 [.ptr (some (i, 0))] H Q := by
  refine ⟨by kernel_rfl, fun w β Rd Ow cargs hr hcell hsz hargs => ?_⟩
  obtain ⟨u, v, hb⟩ := bb_of hr hi
  have g0 := hargs 0 _ _ rfl (Array.getElem?_eq_getElem (by rw [hsz]; simp))
  obtain ⟨c0, rfl⟩ : ∃ c0, cargs = #[c0] := by
    cases cargs with
    | mk l =>
      match l, hsz with
      | [x], _ => exact ⟨x, rfl⟩
  simp at g0
  obtain rfl := rel_ptr g0.1
  refine (bstr_ok (β i) u v l w hb).mono ?_
  rintro e w' ⟨rfl, h1, h2⟩
  obtain ⟨Ow', hP⟩ := post_bld hr hi hb h1 h2 (fun g hg => .inl hg) (x := .str l) (c := .string (tx l)) (rel_tx _ hl) rfl (.str _)
  have : H.set i [.bl TB, .bf TU l] = H := by
    apply List.ext_getElem?
    intro j
    by_cases hj : i = j
    · subst hj; rw [List.getElem?_set_self (List.getElem?_eq_some_iff.1 hi).1, hi]
    · rw [List.getElem?_set_ne hj]
  rw [this] at hP
  exact ⟨_, _, _, β, Rd, Ow', rfl, hQ, hP⟩
end
end Go.Proofs.YtcdkcaocfioigaaGreatDoor

set_option linter.unusedVariables false
set_option linter.unnecessarySimpa false
set_option linter.unusedSimpArgs false
set_option linter.unusedSectionVars false
set_option maxRecDepth 100000
namespace Go.Proofs.YtcdkcaocfioigaaGreatDoor
open Go Go.RowKit Go.Proofs

/-- A nil argument is a slice of no rows. -/
theorem PC.argsNil {P : Program} {E : Env} {f : FuncId} {args args' : List AV} {H : Hp} {Q : AV → Hp → Prop} (h : nilL args args') (hf : ∀ x ∈ args', x.free = true) (hp : PC P E f args' H Q) : PC P E f args H Q := by
  obtain ⟨h1, h2⟩ := nilL_at h
  refine ⟨hp.1, fun w β Rd Ow cargs hr hcell hsz hargs => hp.2 w β Rd Ow cargs hr hcell (by rw [hsz, h1]) (fun t y u hy hu => ?_)⟩
  obtain ⟨x, hx, hn⟩ := h2 t y hy
  obtain ⟨r1, r2, r3⟩ := hargs t x u hx hu
  obtain ⟨q1, q2, _⟩ := nil1_rel hn r1 r2
  exact ⟨q1, q2, hf y (mem_at hy)⟩
def u8L (l : List UInt8) : List AV := l.map fun b => .int .u8 (b.toNat : Int)
theorem u8L_app (l m : List UInt8) : u8L (l ++ m) = u8L l ++ u8L m := by simp [u8L]
@[simp] theorem u8L_length (l : List UInt8) : (u8L l).length = l.length := by simp [u8L]
theorem bts_flat8 (l : List UInt8) : (bts l).flatten = u8L l := by
  induction l with
  | nil => rfl
  | cons b l ih =>
    show _ :: (bts l).flatten = _
    rw [ih]; rfl
theorem flat_take_le (strs : List (List UInt8)) (j : Nat) : (strs.take j).flatten.length ≤ strs.flatten.length := by
  have := congrArg (fun l => (List.flatten l).length) (List.take_append_drop j strs)
  simp only [List.flatten_append, List.length_append] at this
  omega
def strRows (strs : List (List UInt8)) : List (List AV) := strs.map fun s => [.str s]
theorem strRows_at {strs : List (List UInt8)} {j : Nat} {s : List UInt8} (h : strs[j]? = some s) : lat (strRows strs) j = some [.str s] := by simp [lat, strRows, h]
/-- A chunk is written, text by text. -/
def putInv (H0 : Hp) (N0 : Nat) (out : List UInt8) (strs : List (List UInt8)) (M : Nat) (fr : List AV) (H' : Hp) : Prop :=
  ∃ (J' : Hp) (tail : List AV) (j : Nat), j ≤ strs.length ∧ H' = H0 ++ (J' ++ [u8L (out ++ (strs.take j).flatten) ++ tail]) ∧ (∀ l ∈ J', ∀ x ∈ l, ∃ z, x = .int .u8 z) ∧ (∀ x ∈ tail, ∃ z, x = .int .u8 z) ∧ N0 ≤ H0.length + J'.length + 1 ∧
    out.length + M ≤ out.length + (strs.take j).flatten.length + tail.length ∧ out.length + (strs.take j).flatten.length + tail.length ≤ maxLen ∧
    ∃ x : Nat → AV, fr = [.bx (H0.length + J'.length) 0 (out.length + M) (out.length + (strs.take j).flatten.length + tail.length) 1, x 1, x 2, x 3, x 4, x 5, x 6, .int .i64 ((out.length + (strs.take j).flatten.length : Nat) : Int), x 8, x 9, x 10, x 11, x 12, x 13, x 14, x 15, x 16, x 17, x 18, x 19, x 20, x 21, x 22, x 23, x 24, x 25, x 26, x 27, .sl true 1 (strRows strs), .int .i64 strs.length, .int .i64 j, x 31, x 32, x 33, x 34, x 35, x 36, x 37, x 38, x 39, x 40, x 41, x 42]
/-- Bytes of one's own, behind boxes H0. -/
def OutAt (H0 : Hp) (v : AV) (out : List UInt8) (H : Hp) : Prop := ∃ J, H = H0 ++ J ∧ (∀ l ∈ J, ∀ x ∈ l, ∃ z, x = .int .u8 z) ∧ ((v = .nil ∧ out = []) ∨
  ∃ J1 tail, J = J1 ++ [u8L out ++ tail] ∧ v = .bx (H0.length + J1.length) 0 out.length (out.length + tail.length) 1 ∧ out.length + tail.length ≤ maxLen)
section
variable (E : Env) (H : Hp) (Q : AV → Hp → Prop)
theorem printSizeNil_pc (hE : SZ E) (n : Nat) (hn : n ≤ 1099511627776) (hQ : Q (.tup [.str (hexD n), .int .i64 0]) H) : PC Tryz.prog E 108 [.int .i64 n, .nil] H Q := by
  have hl := hexD_len11 n hn
  refine PC.argsNil (args' := [.int .i64 n, .sl false 3 (prs [])]) ⟨.inl rfl, .inr ⟨rfl, false, 3, rfl⟩, trivial⟩ (by simp) (printSize_pc E H Q hE n [] (by simp [psz]) ?_)
  have e : sizeP n [] = (hexD n, 0) := by
    unfold sizeP
    rw [if_neg (by omega), if_neg (by simp), if_neg (by simp [prt]; omega)]
    simp [prt]
  rw [e]; exact hQ
theorem put_pc (hE : SZ E) (H0 : Hp) (v : AV) (out p : List UInt8) (hv : OutAt H0 v out H) (hp : p.length ≤ 4194304) (hl : out.length ≤ 1073741824) (hQ : ∀ v' H', OutAt H0 v' (out ++ chunkT p) H' → Q v' H') : PC Tryz.prog E 80 [v, .str p] H Q := by
  obtain ⟨size, hsz⟩ : ∃ s, hexD p.length = s := ⟨_, rfl⟩
  have hs11 := hexD_len11 p.length (by omega)
  rw [hsz] at hs11
  obtain ⟨J, rfl, hJ, hv⟩ := hv
  have hw1 : IntKind.i64.wrap ((size.length : Int) + p.length) = ((size.length + p.length : Nat) : Int) := by rw [wrap_in (by omega) (by omega)]; omega
  have hw2 : IntKind.i64.wrap (((size.length + p.length : Nat) : Int) + 4) = ((size.length + p.length + 4 : Nat) : Int) := by rw [wrap_in (by omega) (by omega)]; omega
  obtain ⟨M, hM⟩ : ∃ M, size.length + p.length + 4 = M := ⟨_, rfl⟩
  rw [hM] at hw2
  have hM0 : ¬ M = 0 := by omega
  have m1 : M ≤ maxLen := by unfold maxLen; omega
  have m2 : M ≤ 140737488355328 := by omega
  have hch : size ++ ([13, 10] ++ (p ++ [13, 10])) = chunkT p := by unfold chunkT; rw [hsz]; simp
  obtain ⟨strs, hstrs⟩ : ∃ strs : List (List UInt8), [size, [13, 10], p, [13, 10]] = strs := ⟨_, rfl⟩
  have hsl : strs.length = 4 := by rw [← hstrs]; rfl
  have hsf : strs.flatten = chunkT p := by rw [← hstrs, ← hch]; simp
  have hsM : strs.flatten.length = M := by rw [← hM, ← hstrs]; simp; omega
  have hrows : strRows strs = [[AV.str size], [.str [13, 10]], [.str p], [.str [13, 10]]] := by rw [← hstrs]; rfl
  have hlast : ∀ j, j < 4 → (strs.take j).flatten.length + 2 ≤ M := fun j hj => by
    have h1 : (strs.take j).flatten.length ≤ (strs.take 3).flatten.length := by
      have := flat_take_le (strs.take 3) j
      rw [List.take_take, Nat.min_eq_left (by omega)] at this
      exact this
    have h2 : (strs.take 3).flatten.length = size.length + (2 + p.length) := by rw [← hstrs]; simp; omega
    omega
  have hM1 : M ≤ 8388608 := by omega
  have r4 : (([0, 1, 2, 3] : List Nat) = List.range 4) = True := eq_true rfl
  have hzero : ∀ (n : Nat) (x : AV), x ∈ List.replicate n (AV.int .u8 0) → ∃ z, x = .int .u8 z := fun n x hx => ⟨0, (List.mem_replicate.1 hx).2⟩
  have hB0 : ∀ N, BndH (H0 ++ J).length (H0 ++ J) → (H0 ++ J).length ≤ N → ∀ l ∈ H0, ∀ x ∈ l, Bnd N x := fun N hB hN l hl x hx => (hB l (List.mem_append_left _ hl) x hx).mono hN
  rcases hv with ⟨rfl, hout⟩ | ⟨J1, tail, rfl, rfl, htl⟩
  case' inl =>
    obtain ⟨N0, hN0⟩ : ∃ N0, H0.length + J.length = N0 := ⟨_, rfl⟩
    refine pc_enter Tryz.func80 rfl [] [(3, [0, 0, 0, 0, 0, 0, 0, 3]), (7, [0, 0, 0, 0, 0, 3])] (by kernel_rfl) (fun hB => ?_)
    simp [Tryz.ntmps80, Tryz.results80, List.replicate_succ]
    refine printSizeNil_pc E _ _ hE p.length (by omega) ?_
    rw [hsz]
    simp [hw1, hw2, m1, m2, hM0, -Int.natCast_add]
    refine VGrow_intro fun c hc1 hc2 => ?_
    simp [r4]
    rw [hN0]
    refine VL_go (putInv H0 N0 out strs M) (fun fr _ => 4 - (ai (aget fr 30)).toNat) ?_ ?_
    · refine ⟨J, List.replicate (M + (c - M)) (.int .u8 0), 0, by omega, by simp [u8L, hout], hJ, hzero _, by omega, by simp, by simp [hout]; omega, fr_intro (by simp [hrows, hsl, hout, hN0]; omega)⟩
    have hBN : ∀ N, N0 ≤ N → ∀ l ∈ H0, ∀ x ∈ l, Bnd N x := fun N hN => hB0 N hB (by simp; omega)
    clear hJ hB hN0 hc1 hc2 hB0 hout
  case' inr =>
    obtain ⟨N0, hN0⟩ : ∃ N0, H0.length + (J1.length + 1) = N0 := ⟨_, rfl⟩
    have hfree : (∀ x ∈ u8L out, x.free = true) = True := eq_true fun x hx => by obtain ⟨b, _, rfl⟩ := List.mem_map.1 hx; rfl
    have hdrop : List.drop (out.length + M) (u8L out ++ tail) = tail.drop M := by rw [List.drop_append, List.drop_of_length_le (by simp only [u8L_length]; omega)]; simp
    have htu : ∀ x ∈ tail, ∃ z, x = .int .u8 z := fun x hx => hJ (u8L out ++ tail) (by simp) x (List.mem_append_right _ hx)
    have hJ1 : ∀ l ∈ J1, ∀ x ∈ l, ∃ z, x = .int .u8 z := fun l hl => hJ l (List.mem_append_left _ hl)
    have hrow : ∀ x ∈ u8L out ++ tail, ∃ z, x = .int .u8 z := hJ _ (by simp)
    refine pc_enter Tryz.func80 rfl [] [(3, [0, 0, 0, 0, 0, 0, 0, 3]), (7, [0, 0, 0, 0, 0, 3])] (by kernel_rfl) (fun hB => ?_)
    simp [Tryz.ntmps80, Tryz.results80, List.replicate_succ]
    refine printSizeNil_pc E _ _ hE p.length (by omega) ?_
    rw [hsz]
    have hBN : ∀ N, N0 ≤ N → ∀ l ∈ H0, ∀ x ∈ l, Bnd N x := fun N hN => hB0 N hB (by simp; omega)
    rcases Nat.lt_or_ge (out.length + tail.length) (out.length + M) with hroom | hroom
    case' inr =>
      simp [hw1, hw2, m1, m2, hM0, hroom, hfree, hdrop, r4, -Int.natCast_add]
      rw [hN0]
      refine VL_go (putInv H0 N0 out strs M) (fun fr _ => 4 - (ai (aget fr 30)).toNat) ?_ ?_
      · refine ⟨J1, List.replicate M (.int .u8 0) ++ tail.drop M, 0, by omega, by simp, hJ1, fun x hx => ?_, by omega, by simp, by simp; omega, fr_intro (by simp [hrows, hsl]; omega)⟩
        rcases List.mem_append.1 hx with h | h
        · exact hzero _ x h
        · exact htu x (List.mem_of_mem_drop h)
      clear hJ hB hN0 hfree hdrop htu hJ1 hroom htl hB0 hrow
    case' inl =>
      have hroom' : ¬ out.length + M ≤ out.length + tail.length := by omega
      have hm3 : out.length + M ≤ maxLen := by unfold maxLen; omega
      have hm4 : out.length + M ≤ 140737488355328 := by omega
      simp [hw1, hw2, m1, m2, hM0, hroom', hfree, hm3, hm4, -Int.natCast_add]
      refine VGrow_intro fun c hc1 hc2 => ?_
      simp [r4]
      rw [hN0]
      refine VL_go (putInv H0 N0 out strs M) (fun fr _ => 4 - (ai (aget fr 30)).toNat) ?_ ?_
      · refine ⟨J1 ++ [u8L out ++ tail], List.replicate M (.int .u8 0) ++ List.replicate (c - (out.length + M)) (.int .u8 0), 0, by omega, by simp, fun l hl => ?_, fun x hx => ?_, by simp; omega, by simp, by simp; omega, fr_intro (by simp [hrows, hsl]; omega)⟩
        · rcases List.mem_append.1 hl with h | h
          · exact hJ1 l h
          · simp at h; subst h; exact hrow
        · rcases List.mem_append.1 hx with h | h <;> exact hzero _ x h
      clear hJ hB hN0 hfree hdrop htu hJ1 hroom htl hB0 hroom' hm3 hm4 hc1 hc2 hrow
  all_goals
    rintro fr H' ⟨J', tl, j, hj, rfl, hJ', htl', hN, hge, hle, x, rfl⟩
    obtain ⟨pre, hpre⟩ : ∃ q, out ++ (strs.take j).flatten = q := ⟨_, rfl⟩
    have hpl : out.length + (strs.take j).flatten.length = pre.length := by rw [← hpre, List.length_append]
    rw [hpl] at hge hle ⊢
    rw [hpre]
    have hget : ∀ r : List AV, (H0 ++ (J' ++ [r]))[H0.length + J'.length]? = some r := fun r => by rw [← List.append_assoc, List.getElem?_append_right (by simp)]; simp
    have hset : ∀ r q : List AV, (H0 ++ (J' ++ [r])).set (H0.length + J'.length) q = H0 ++ (J' ++ [q]) := fun r q => by rw [← List.append_assoc, List.set_append_right _ _ (by simp), List.append_assoc]; simp
    by_cases h : j < strs.length
    · obtain ⟨s, hs⟩ : ∃ s, strs[j]? = some s := ⟨_, List.getElem?_eq_getElem h⟩
      have hat := strRows_at hs
      have hl2 := hlast j (by omega)
      have hnext : (strs.take (j + 1)).flatten = (strs.take j).flatten ++ s := by rw [List.take_add_one, hs]; simp
      have hpn : pre ++ s = out ++ (strs.take (j + 1)).flatten := by rw [hnext, ← hpre]; simp
      have hle2 : pre.length + s.length ≤ out.length + M := by
        have := flat_take_le strs (j + 1)
        have e := congrArg List.length hpn
        rw [List.length_append, List.length_append] at e
        omega
      have q1 : pre.length ≤ out.length + M := by omega
      have q2 : out.length + M ≤ pre.length + tl.length := by omega
      have q3 : ¬ pre.length + tl.length = pre.length := by omega
      have q4 : s.length ≤ out.length + M - pre.length := by omega
      have q5 : pre.length + s.length ≤ pre.length + tl.length := by omega
      have q6 : s.length ≤ tl.length := by omega
      have hw3 : IntKind.i64.wrap ((pre.length : Int) + s.length) = ((pre.length + s.length : Nat) : Int) := by rw [wrap_in (by omega) (by omega)]; omega
      have hw4 : IntKind.i64.wrap ((j : Int) + 1) = j + 1 := wrap_in (by omega) (by omega)
      have hne : ¬ tl = [] := fun e => by rw [e] at q2; simp at q2; omega
      have e1 : List.take pre.length (u8L pre ++ tl) = u8L pre := by rw [List.take_append_of_le_length (by simp), List.take_of_length_le (by simp)]
      have e2 : List.drop (pre.length + s.length) (u8L pre ++ tl) = tl.drop s.length := by rw [List.drop_append, List.drop_of_length_le (by simp)]; simp
      simp [h, hat, q1, q2, q4, q5, q6, hne, hget, hset, hw3, hw4, e1, e2, bts_flat8, -Int.natCast_add]
      refine Kloop_normal ⟨J', tl.drop s.length, j + 1, by omega, by rw [← hpn, u8L_app]; simp, hJ', fun y hy => htl' y (List.mem_of_mem_drop hy), hN, ?_, ?_, fr_intro ?_⟩ (by simp; omega)
      all_goals
        have e3 : out.length + (strs.take (j + 1)).flatten.length = pre.length + s.length := by rw [← List.length_append, ← hpn, List.length_append]
        rw [e3]
        try (rw [List.length_drop]; omega)
      have e4 : pre.length + s.length + (tl.drop s.length).length = pre.length + tl.length := by rw [List.length_drop]; omega
      rw [e4]
      simp
    · obtain rfl : j = strs.length := by omega
      simp
      have hfull : out ++ chunkT p = pre := by rw [← hpre, List.take_of_length_le (Nat.le_refl _), hsf]
      rw [hfull] at hQ
      have hn : out.length + M = pre.length := by rw [← hpl, List.take_of_length_le (Nat.le_refl _), hsM]
      rw [hn]
      have hcells : ∀ y ∈ u8L pre ++ tl, ∃ z, y = .int .u8 z := fun y hy => by
        rcases List.mem_append.1 hy with h | h
        · obtain ⟨b, _, rfl⟩ := List.mem_map.1 h; exact ⟨_, rfl⟩
        · exact htl' y h
      have hJall : ∀ l ∈ J' ++ [u8L pre ++ tl], ∀ y ∈ l, ∃ z, y = .int .u8 z := fun l hl => by
        rcases List.mem_append.1 hl with h | h
        · exact hJ' l h
        · simp at h; subst h; exact hcells
      refine ⟨.bx (H0.length + J'.length) 0 pre.length (pre.length + tl.length) 1, _, _, H0 ++ (J' ++ [u8L pre ++ tl]), [], by simp, nilV_refl _, nilH_refl _, by simp, by simp; omega, fun l hl y hy => ?_, by simp, hQ _ _ ⟨_, rfl, hJall, .inr ⟨J', tl, rfl, rfl, hle⟩⟩⟩
      rcases List.mem_append.1 hl with h | h
      · exact hBN _ (by simp; omega) l h y hy
      · obtain ⟨z, rfl⟩ := hJall l h y hy; exact .int _ _
end
end Go.Proofs.YtcdkcaocfioigaaGreatDoor

set_option linter.unusedVariables false
set_option linter.unnecessarySimpa false
set_option linter.unusedSimpArgs false
set_option linter.unusedSectionVars false
set_option maxRecDepth 100000
namespace Go.Proofs.YtcdkcaocfioigaaGreatDoor
open Go Go.RowKit Go.Proofs

/-- A line of a field: its text and the error's number. -/
def lineP (f : Fld) : List UInt8 × Int := if nameB f.name = false then ([], 60) else if valueB f.value = false then ([], 61) else (lineT f, 0)
@[simp] theorem tblfB : tblf Tryz.prog 125 = some TU := by kernel_rfl
section
variable (E : Env) (H : Hp) (Q : AV → Hp → Prop)
theorem isValue_pc (l : List UInt8) (hl : l.length ≤ cap) (hQ : Q (.bool (valueB l)) H) : PC Tryz.prog E 103 [.str l] H Q := by
  refine pc_enter Tryz.func103 rfl [] [] (by kernel_rfl) (fun hB => ?_)
  have fin : ∀ c : Bool, valueB l = c → Q (.bool c) H := fun c hc => hc ▸ hQ
  by_cases h : l.length ≤ 8192
  · have h' : (l.length : Int) ≤ 8192 := by omega
    simp [Tryz.ntmps103, Tryz.results103, List.replicate_succ, h']
    refine isField_pc E _ _ l hl ?_
    cases hf : fldB l
    · simp
      exact aPost_same0 hB rfl (nilV_refl _) (by simp) (fin _ (by simp [valueB, hf]))
    · simp
      refine trim_pc E _ _ l hl ?_
      simp
      exact aPost_same0 hB rfl (nilV_refl _) (by simp) (fin _ (by unfold valueB; rw [hf, Bool.eq_iff_iff]; simp [h]))
  · have h' : ¬ (l.length : Int) ≤ 8192 := by omega
    simp [Tryz.ntmps103, Tryz.results103, List.replicate_succ, h']
    exact aPost_same0 hB rfl (nilV_refl _) (by simp) (fin _ (by simp [valueB, h]))
theorem printLine_pc (hE : SE E) (f : Fld) (h1 : f.name.length ≤ 16777216) (h2 : f.value.length ≤ 16777216) (hQ : Q (.tup [.str (lineP f).1, .int .i64 (lineP f).2]) H) : PC Tryz.prog E 73 [.agg [.str f.name, .str f.value]] H Q := by
  refine pc_enter Tryz.func73 rfl [] [] (by kernel_rfl) (fun hB => ?_)
  have m1 : f.name.length + 1 ≤ maxLen := by unfold maxLen; omega
  have m2 : f.name.length + 2 ≤ maxLen := by unfold maxLen; omega
  have m3 : f.name.length + 2 + f.value.length ≤ maxLen := by unfold maxLen; omega
  have m4 : f.name.length + 1 + 1 ≤ maxLen := by unfold maxLen; omega
  have m5 : f.name.length + 1 + 1 + f.value.length ≤ maxLen := by unfold maxLen; omega
  simp [Tryz.ntmps73, Tryz.results73, List.replicate_succ]
  refine isName_pc E _ _ hE f.name (by simp only [cap]; omega) ?_
  cases hn : nameB f.name with
  | false =>
    have e : lineP f = ([], 60) := by unfold lineP; rw [if_pos hn]
    rw [e] at hQ
    simp
    exact aPost_same hB rfl (nilV_refl _) (by simp) hQ
  | true =>
    simp
    refine isValue_pc E _ _ f.value (by simp only [cap]; omega) ?_
    cases hv : valueB f.value with
    | false =>
      have e : lineP f = ([], 61) := by unfold lineP; rw [if_neg (by rw [hn]; simp), if_pos hv]
      rw [e] at hQ
      simp
      exact aPost_same hB rfl (nilV_refl _) (by simp) hQ
    | true =>
      have e : lineP f = (lineT f, 0) := by unfold lineP; rw [if_neg (by rw [hn]; simp), if_neg (by rw [hv]; simp)]
      rw [e] at hQ
      by_cases he : f.value = []
      · have e2 : lineT f = f.name ++ [58] := by unfold lineT; rw [if_pos he]
        rw [e2] at hQ
        have he' : (f.value == []) = true := by simpa using he
        simp [he', m1]
        exact aPost_same hB rfl (nilV_refl _) (by simp) hQ
      · have e2 : lineT f = f.name ++ (58 :: 32 :: f.value) := by unfold lineT; rw [if_neg he]
        rw [e2] at hQ
        have he' : (f.value == []) = false := by simpa using he
        simp [he', m2, m3, m4, m5]
        exact aPost_same hB rfl (nilV_refl _) (by simp) hQ
end
/-- Sizes of chunks that may be. -/
def okSizes (ns : List Int) : Bool := ns.all fun n => decide (1 ≤ n)
/-- What is encoded, and the error's number. -/
def encAns (body : List UInt8) (ns : List Int) (ts : List Fld) : List UInt8 × Int := if okSizes ns = false then ([], 1) else if ts.all rightB = false then ([], 101) else (encT (piecesB body ns) ts, 0)
def fsz : List Fld → Nat
  | [] => 0
  | f :: l => f.name.length + f.value.length + fsz l
theorem fsz_mem {l : List Fld} {i : Nat} {f : Fld} (h : l[i]? = some f) : f.name.length + f.value.length ≤ fsz l := by
  induction l generalizing i with
  | nil => simp at h
  | cons q l ih =>
    cases i with
    | zero => simp at h; subst h; simp [fsz]
    | succ i => have := ih (i := i) (by simpa using h); simp [fsz]; omega
theorem fsz_take (l : List Fld) (i : Nat) : fsz (l.take i) ≤ fsz l := by
  induction l generalizing i with
  | nil => simp
  | cons p l ih =>
    cases i with
    | zero => simp [fsz]
    | succ i => have := ih i; simp [fsz]; omega
theorem lineT_le (f : Fld) : (lineT f).length ≤ f.name.length + f.value.length + 2 := by
  unfold lineT
  split <;> simp <;> omega
theorem linesT_le (l : List Fld) : (linesT l).length ≤ fsz l + 4 * l.length := by
  induction l with
  | nil => simp [linesT]
  | cons f l ih =>
    have e : linesT (f :: l) = lineT f ++ [13, 10] ++ linesT l := by simp [linesT]
    have := lineT_le f
    rw [e]
    simp [fsz]; omega
theorem linesT_step (l : List Fld) (i : Nat) (f : Fld) (h : l[i]? = some f) : linesT (l.take (i + 1)) = linesT (l.take i) ++ (lineT f ++ [13, 10]) := by
  rw [List.take_add_one, h]
  simp [linesT]
theorem chunkT_le (p : List UInt8) (h0 : p ≠ []) (h : p.length ≤ 1099511627776) : (chunkT p).length ≤ 16 * p.length := by
  have h1 := hexD_len11 p.length h
  have h2 : p.length ≠ 0 := fun e => h0 (List.length_eq_zero_iff.1 e)
  unfold chunkT
  simp
  omega
theorem chunksT_le : ∀ (ps : List (List UInt8)), (∀ p ∈ ps, p ≠ []) → ps.flatten.length ≤ 1099511627776 → (chunksT ps).length ≤ 16 * ps.flatten.length
  | [], _, _ => by simp [chunksT]
  | p :: ps, h0, h => by
    simp only [List.flatten_cons, List.length_append] at h
    have h1 := chunkT_le p (h0 p (by simp)) (by omega)
    have h2 := chunksT_le ps (fun q hq => h0 q (by simp [hq])) (by omega)
    have e : chunksT (p :: ps) = chunkT p ++ chunksT ps := by simp [chunksT]
    rw [e]
    simp only [List.flatten_cons, List.length_append]
    omega
end Go.Proofs.YtcdkcaocfioigaaGreatDoor

set_option linter.unusedVariables false
set_option linter.unnecessarySimpa false
set_option linter.unusedSimpArgs false
set_option linter.unusedSectionVars false
set_option maxRecDepth 100000
namespace Go.Proofs.YtcdkcaocfioigaaGreatDoor
open Go Go.RowKit Go.Proofs

/-- Two names alike. -/
def lowEq (a b : List UInt8) : Bool := low a == low b
/-- The values of a name. -/
def allB (l : List Fld) (n : List UInt8) : List (List UInt8) := (l.filter fun f => lowEq f.name n).map fun f => f.value
theorem allB_step (l : List Fld) (n : List UInt8) (i : Nat) (f : Fld) (h : l[i]? = some f) : allB (l.take (i + 1)) n = allB (l.take i) n ++ (if lowEq f.name n = true then [f.value] else []) := by
  unfold allB
  rw [List.take_add_one, h]
  simp only [Option.toList, List.filter_append, List.map_append]
  congr 1
  by_cases hl : lowEq f.name n = true
  · rw [if_pos hl, List.filter_cons, if_pos hl]; rfl
  · rw [if_neg hl, List.filter_cons, if_neg hl]; rfl
theorem allB_len (l : List Fld) (n : List UInt8) : (allB l n).length ≤ l.length := by
  unfold allB
  rw [List.length_map]
  exact List.length_filter_le _ _
/-- The bulk of texts. -/
def vsz : List (List UInt8) → Nat
  | [] => 0
  | x :: r => x.length + 1 + vsz r
theorem vsz_app (a b : List (List UInt8)) : vsz (a ++ b) = vsz a + vsz b := by
  induction a with
  | nil => simp [vsz]
  | cons x a ih => simp [vsz, ih]; omega
theorem vsz_allB (l : List Fld) (n : List UInt8) : vsz (allB l n) ≤ fsz l + l.length := by
  induction l with
  | nil => simp [allB, vsz]
  | cons f l ih =>
    unfold allB at ih ⊢
    rw [List.filter_cons]
    simp only [fsz, List.length_cons]
    split
    · simp only [List.map_cons, vsz]; omega
    · omega
theorem vsz_take (l : List (List UInt8)) (i : Nat) : vsz (l.take i) ≤ vsz l := by
  have := congrArg vsz (List.take_append_drop i l)
  rw [vsz_app] at this
  omega
theorem vsz_mem {l : List (List UInt8)} {i : Nat} {x : List UInt8} (h : l[i]? = some x) : x.length + 1 ≤ vsz l := by
  induction l generalizing i with
  | nil => simp at h
  | cons a l ih =>
    cases i with
    | zero => simp at h; subst h; simp [vsz]
    | succ i => simp at h; have := ih h; simp [vsz]; omega
theorem vsz_len (l : List (List UInt8)) : l.length ≤ vsz l := by
  induction l with
  | nil => simp
  | cons a l ih => simp [vsz]; omega
/-- The elements of all values. -/
def listsB : List (List UInt8) → Option (List (List UInt8))
  | [] => some []
  | v :: r => match listB v with
    | none => none
    | some x => (listsB r).map (x ++ ·)
theorem listsB_app : ∀ (a b : List (List UInt8)), listsB (a ++ b) = match listsB a with
    | none => none
    | some x => (listsB b).map (x ++ ·)
  | [], b => by
    show listsB b = (listsB b).map (fun y => [] ++ y)
    cases listsB b <;> simp
  | v :: a, b => by
    rw [List.cons_append, listsB, listsB_app a b, listsB]
    cases listB v with
    | none => rfl
    | some x =>
      cases listsB a with
      | none => rfl
      | some y => cases listsB b <;> simp
theorem listsB_step {vs : List (List UInt8)} {i : Nat} {v : List UInt8} {acc x : List (List UInt8)} (h : vs[i]? = some v) (ha : listsB (vs.take i) = some acc) (hv : listB v = some x) : listsB (vs.take (i + 1)) = some (acc ++ x) := by
  rw [List.take_add_one, h, Option.toList, listsB_app, ha]
  simp [listsB, hv]
theorem listsB_stop {vs : List (List UInt8)} {i : Nat} {v : List UInt8} (h : vs[i]? = some v) (hv : listB v = none) : listsB vs = none := by
  have hi := (List.getElem?_eq_some_iff.1 h).1
  have e : vs = vs.take i ++ (v :: vs.drop (i + 1)) := by
    rw [← (List.getElem?_eq_some_iff.1 h).2, ← List.drop_eq_getElem_cons hi, List.take_append_drop]
  rw [e, listsB_app]
  cases listsB (vs.take i) with
  | none => rfl
  | some y => simp [listsB, hv]
theorem listsB_len : ∀ (vs acc : List (List UInt8)), listsB vs = some acc → acc.length ≤ vsz vs
  | [], acc, h => by cases h; simp
  | v :: r, acc, h => by
    rw [listsB] at h
    cases hv : listB v with
    | none => rw [hv] at h; cases h
    | some x =>
      rw [hv] at h
      cases hr : listsB r with
      | none => rw [hr] at h; cases h
      | some y =>
        rw [hr] at h
        cases h
        have h1 := listB_len hv
        have h2 := listsB_len r y hr
        simp [vsz]; omega
theorem listsB_mem : ∀ (vs acc : List (List UInt8)), listsB vs = some acc → ∀ p ∈ acc, p.length ≤ vsz vs
  | [], acc, h => by cases h; simp
  | v :: r, acc, h => by
    rw [listsB] at h
    cases hv : listB v with
    | none => rw [hv] at h; cases h
    | some x =>
      rw [hv] at h
      cases hr : listsB r with
      | none => rw [hr] at h; cases h
      | some y =>
        rw [hr] at h
        cases h
        intro p hp
        rcases List.mem_append.1 hp with hp | hp
        · have := listB_mem hv p hp; simp [vsz]; omega
        · have := listsB_mem r y hr p hp; simp [vsz]; omega
/-- What List answers. -/
def flistA (l : List Fld) (n : List UInt8) : List (List UInt8) × Int := match listsB (allB l n) with
  | some x => (x, 0)
  | none => ([], 14)
/-- What Tokens answers. -/
def toksA (l : List Fld) (n : List UInt8) : List (List UInt8) × Int := match listsB (allB l n) with
  | some x => if x.all tokB = true then (x.map low, 0) else ([], 10)
  | none => ([], 14)
def hasA (l : List Fld) (n t : List UInt8) : Bool := decide ((toksA l n).2 = 0) && (toksA l n).1.contains (low t)
def nCL : List UInt8 := [67, 111, 110, 116, 101, 110, 116, 45, 76, 101, 110, 103, 116, 104]
def nTE : List UInt8 := [84, 114, 97, 110, 115, 102, 101, 114, 45, 69, 110, 99, 111, 100, 105, 110, 103]
def nCO : List UInt8 := [67, 111, 110, 110, 101, 99, 116, 105, 111, 110]
def vChunked : List UInt8 := [99, 104, 117, 110, 107, 101, 100]
def vClose : List UInt8 := [99, 108, 111, 115, 101]
def vKeep : List UInt8 := [107, 101, 101, 112, 45, 97, 108, 105, 118, 101]
/-- The number that digits say; -1: none. -/
def decA (x : List UInt8) : Int := if (numAns 10 1099511627776 x).2 = 0 then (numAns 10 1099511627776 x).1 else -1
def lengthA (l : List Fld) : Int × Bool × Int := if allB l nCL = [] then (0, false, 0) else match listsB (allB l nCL) with
  | some (x :: r) => if decA x < 0 ∨ (r.all fun y => decide (decA y = decA x)) = false then (0, false, 66) else (decA x, true, 0)
  | _ => (0, false, 66)
def codingsA (l : List Fld) : List (List UInt8) × Bool × Int := if allB l nTE = [] then ([], false, 0) else if (toksA l nTE).2 = 0 then ((toksA l nTE).1, true, 0) else ([], false, 67)
/-- How a body is framed: kind, length, error. -/
def framingA (l : List Fld) (old : Bool) : Int × Int × Int :=
  if (codingsA l).2.2 ≠ 0 ∨ ((codingsA l).2.1 = true ∧ (old = true ∨ (codingsA l).1 ≠ [vChunked])) then (0, 0, 67)
  else if (lengthA l).2.2 ≠ 0 then (0, 0, (lengthA l).2.2)
  else if (codingsA l).2.1 = true ∧ (lengthA l).2.1 = true then (0, 0, 68)
  else if (codingsA l).2.1 = true then (2, 0, 0)
  else if (lengthA l).2.1 = true then (1, (lengthA l).1, 0)
  else (0, 0, 0)
def persistA (l : List Fld) (old : Bool) : Bool := decide ((toksA l nCO).2 = 0) && !(toksA l nCO).1.contains vClose && (!old || (toksA l nCO).1.contains vKeep)

/-- Where a line, or a status line, ends: behind it; a wrong byte's place; or not at all. -/
inductive LR where
  | ok (n : Nat)
  | bad (n : Nat)
  | part
def verT : List UInt8 := [72, 84, 84, 80, 47, 49, 46]
/-- May a byte stand at that place of a status line? -/
def stB (i : Nat) (b : UInt8) : Bool := if i < 7 then decide (verT[i]? = some b) else if i = 7 then b == 48 || b == 49 else if i = 9 then decide (49 ≤ b.toNat ∧ b.toNat ≤ 53) else if i = 10 ∨ i = 11 then isDig b else b == 32
def preR (s : List UInt8) : Nat → Nat → LR
  | 0, i => .ok i
  | n + 1, i => match s[i]? with
    | none => .part
    | some b => if stB i b = true then preR s n (i + 1) else .bad i
/-- Behind the thirteenth byte: the reason, k bytes of it ahead. -/
def reasonR : List UInt8 → Nat → Nat → LR
  | [], _, _ => .part
  | b :: r, k, i => if b = 13 then (match r with
      | [] => .part
      | c :: _ => if c = 10 then .ok (i + 2) else .bad (i + 1))
    else if 256 ≤ k ∨ fcB b = false then .bad i else reasonR r (k + 1) (i + 1)
def stR (s : List UInt8) : LR := match preR s 13 0 with
  | .ok _ => reasonR (s.drop 13) 0 13
  | x => x
/-- A line: back: the byte ahead is a 13 of the line. -/
def lineS (back : Bool) : List UInt8 → Nat → LR
  | [], _ => .part
  | b :: r, i => if back = true then (if b = 10 then .ok (i + 1) else .bad i) else if b = 10 then .bad i else lineS (decide (b = 13)) r (i + 1)
def lineR (t : List UInt8) (a : Nat) : LR := lineS false (t.drop a) a
/-- What a head says, or what is wrong with it, and where. -/
inductive HD where
  | ok (fs : List Fld) (e : Nat)
  | bad (n : Int) (e : Int)
  | part
def fieldsR (t : List UInt8) (old : Bool) : Nat → Nat → List Fld → HD
  | 0, _, _ => .part
  | n + 1, a, fs => match lineR t a with
    | .part => .part
    | .bad i => .bad i 122
    | .ok e => if (t.drop a).take (e - 2 - a) = [] then (if (framingA fs old).2.2 ≠ 0 then .bad a (framingA fs old).2.2 else .ok fs e)
      else if 100 ≤ fs.length then .bad a 65
      else if (lineX ((t.drop a).take (e - 2 - a))).2.2 ≠ 0 then .bad (a + (lineX ((t.drop a).take (e - 2 - a))).2.1) (lineX ((t.drop a).take (e - 2 - a))).2.2
      else fieldsR t old n e (fs ++ [(lineX ((t.drop a).take (e - 2 - a))).1])
/-- The usual reasons. -/
def reasS : List (Int × List UInt8) := [(500, [73, 110, 116, 101, 114, 110, 97, 108, 32, 83, 101, 114, 118, 101, 114, 32, 69, 114, 114, 111, 114]), (501, [78, 111, 116, 32, 73, 109, 112, 108, 101, 109, 101, 110, 116, 101, 100]), (502, [66, 97, 100, 32, 71, 97, 116, 101, 119, 97, 121]), (503, [83, 101, 114, 118, 105, 99, 101, 32, 85, 110, 97, 118, 97, 105, 108, 97, 98, 108, 101]), (504, [71, 97, 116, 101, 119, 97, 121, 32, 84, 105, 109, 101, 111, 117, 116]), (505, [72, 84, 84, 80, 32, 86, 101, 114, 115, 105, 111, 110, 32, 78, 111, 116, 32, 83, 117, 112, 112, 111, 114, 116, 101, 100])]
def reasW : List (Int × List UInt8) := [(400, [66, 97, 100, 32, 82, 101, 113, 117, 101, 115, 116]), (401, [85, 110, 97, 117, 116, 104, 111, 114, 105, 122, 101, 100]), (403, [70, 111, 114, 98, 105, 100, 100, 101, 110]), (404, [78, 111, 116, 32, 70, 111, 117, 110, 100]), (405, [77, 101, 116, 104, 111, 100, 32, 78, 111, 116, 32, 65, 108, 108, 111, 119, 101, 100]), (406, [78, 111, 116, 32, 65, 99, 99, 101, 112, 116, 97, 98, 108, 101]), (408, [82, 101, 113, 117, 101, 115, 116, 32, 84, 105, 109, 101, 111, 117, 116]), (411, [76, 101, 110, 103, 116, 104, 32, 82, 101, 113, 117, 105, 114, 101, 100]), (412, [80, 114, 101, 99, 111, 110, 100, 105, 116, 105, 111, 110, 32, 70, 97, 105, 108, 101, 100]), (413, [67, 111, 110, 116, 101, 110, 116, 32, 84, 111, 111, 32, 76, 97, 114, 103, 101]), (414, [85, 82, 73, 32, 84, 111, 111, 32, 76, 111, 110, 103]), (415, [85, 110, 115, 117, 112, 112, 111, 114, 116, 101, 100, 32, 77, 101, 100, 105, 97, 32, 84, 121, 112, 101]), (416, [82, 97, 110, 103, 101, 32, 78, 111, 116, 32, 83, 97, 116, 105, 115, 102, 105, 97, 98, 108, 101]), (417, [69, 120, 112, 101, 99, 116, 97, 116, 105, 111, 110, 32, 70, 97, 105, 108, 101, 100]), (421, [77, 105, 115, 100, 105, 114, 101, 99, 116, 101, 100, 32, 82, 101, 113, 117, 101, 115, 116]), (422, [85, 110, 112, 114, 111, 99, 101, 115, 115, 97, 98, 108, 101, 32, 67, 111, 110, 116, 101, 110, 116]), (426, [85, 112, 103, 114, 97, 100, 101, 32, 82, 101, 113, 117, 105, 114, 101, 100]), (428, [80, 114, 101, 99, 111, 110, 100, 105, 116, 105, 111, 110, 32, 82, 101, 113, 117, 105, 114, 101, 100]), (429, [84, 111, 111, 32, 77, 97, 110, 121, 32, 82, 101, 113, 117, 101, 115, 116, 115]), (431, [82, 101, 113, 117, 101, 115, 116, 32, 72, 101, 97, 100, 101, 114, 32, 70, 105, 101, 108, 100, 115, 32, 84, 111, 111, 32, 76, 97, 114, 103, 101])]
def reasT : List (Int × List UInt8) := [(100, [67, 111, 110, 116, 105, 110, 117, 101]), (101, [83, 119, 105, 116, 99, 104, 105, 110, 103, 32, 80, 114, 111, 116, 111, 99, 111, 108, 115]), (200, [79, 75]), (201, [67, 114, 101, 97, 116, 101, 100]), (202, [65, 99, 99, 101, 112, 116, 101, 100]), (204, [78, 111, 32, 67, 111, 110, 116, 101, 110, 116]), (206, [80, 97, 114, 116, 105, 97, 108, 32, 67, 111, 110, 116, 101, 110, 116]), (301, [77, 111, 118, 101, 100, 32, 80, 101, 114, 109, 97, 110, 101, 110, 116, 108, 121]), (302, [70, 111, 117, 110, 100]), (303, [83, 101, 101, 32, 79, 116, 104, 101, 114]), (304, [78, 111, 116, 32, 77, 111, 100, 105, 102, 105, 101, 100]), (307, [84, 101, 109, 112, 111, 114, 97, 114, 121, 32, 82, 101, 100, 105, 114, 101, 99, 116]), (308, [80, 101, 114, 109, 97, 110, 101, 110, 116, 32, 82, 101, 100, 105, 114, 101, 99, 116])]
def look (t : List (Int × List UInt8)) (s : Int) : Option (List UInt8) := (t.find? fun p => p.1 == s).map fun p => p.2
def serverB (s : Int) : List UInt8 := (look reasS s).getD []
def wrongB (s : Int) : List UInt8 := (look reasW s).getD (serverB s)
def reasonB (s : Int) : List UInt8 := (look reasT s).getD (wrongB s)
structure Resp where
  status : Int
  reason : List UInt8
  fields : List Fld
  body : List UInt8
structure Mann where
  method : List UInt8
  close : Bool
  old : Bool
  chunked : Bool
  sizes : List Int
  trailers : List Fld
def Resp.avs (r : Resp) : List AV := [.int .i64 r.status, .str r.reason, .sl false 2 (flds r.fields), .str r.body]
def Mann.avs (h : Mann) : List AV := [.str h.method, .bool h.close, .bool h.old, .bool h.chunked, .sl false 1 (ints h.sizes), .sl false 2 (flds h.trailers)]
def neverS (s : Int) : Bool := (decide (100 ≤ s) && decide (s ≤ 199)) || s == 204 || s == 304
def vHead : List UInt8 := [72, 69, 65, 68]
def vConnect : List UInt8 := [67, 79, 78, 78, 69, 67, 84]
def bodylessB (m : List UInt8) (s : Int) : Bool := neverS s || m == vHead || (m == vConnect && (decide (200 ≤ s) && decide (s ≤ 299)))
def interimB (s : Int) : Bool := decide (100 ≤ s) && (decide (s ≤ 199) && s != 101)
def framedB (s : Int) (f : Fld) : Bool := lowEq f.name nCL || (lowEq f.name nTE || (lowEq f.name nCO && s != 101))
/-- What is wrong with a response and a manner. -/
def wrongM (r : Resp) (h : Mann) : Int :=
  if r.status < 100 ∨ 599 < r.status then 120 else if 256 < r.reason.length ∨ fldB r.reason = false then 121
  else if (r.fields.any (framedB r.status)) = true then 123
  else if ((neverS r.status && (decide (r.body ≠ []) || h.chunked)) || ((h.chunked && h.old) || (!h.chunked && (decide (h.sizes ≠ []) || decide (h.trailers ≠ []))))) = true then 123 else 0
@[irreducible] def moreM (r : Resp) (h : Mann) : List Fld := r.fields ++ ((if h.chunked = true then [⟨nTE, vChunked⟩] else if neverS r.status = true then [] else [⟨nCL, Go.Lib.itoa r.body.length⟩]) ++
  (if 199 < r.status ∧ h.close = true then [⟨nCO, vClose⟩] else if 199 < r.status ∧ h.old = true then [⟨nCO, vKeep⟩] else []))
@[irreducible] def printF (l : List Fld) : List UInt8 × Int := if 100 < l.length then ([], 65) else match l.find? fun f => decide ((lineP f).2 ≠ 0) with
  | some f => ([], (lineP f).2)
  | none => (linesT l, 0)
def headP (r : Resp) (h : Mann) : List UInt8 × Int := if wrongM r h ≠ 0 then ([], wrongM r h) else if (printF (moreM r h)).2 ≠ 0 then ([], (printF (moreM r h)).2)
  else (verT ++ ([49, 32] ++ (Go.Lib.itoa r.status ++ ([32] ++ ((if r.reason = [] then reasonB r.status else r.reason) ++ ([13, 10] ++ ((printF (moreM r h)).1 ++ [13, 10])))))), 0)
def printP (r : Resp) (h : Mann) : List UInt8 × Int := if (headP r h).2 ≠ 0 then ([], (headP r h).2) else if 65536 < (headP r h).1.length then ([], 125)
  else if h.chunked = true ∧ (encAns r.body h.sizes h.trailers).2 ≠ 0 then ([], (encAns r.body h.sizes h.trailers).2)
  else if bodylessB h.method r.status = true then ((headP r h).1, 0)
  else ((headP r h).1 ++ (if h.chunked = true then (encAns r.body h.sizes h.trailers).1 else r.body), 0)
/-- A reply: minor, status, reason, fields, body, trailers, kind, length, persist. -/
structure Rep where
  minor : Int
  status : Int
  reason : List UInt8
  fields : List Fld
  body : List UInt8
  trailers : List Fld
  kind : Int
  length : Int
  persist : Bool
def rep0 : Rep := ⟨0, 0, [], [], [], [], 0, 0, false⟩
def dg (s : List UInt8) (i : Nat) : Int := ((s[i]?.getD 0).toNat : Int) - 48
/-- The head that a text begins with. -/
def headM (s : List UInt8) : Rep × Int × Int :=
  let t := s.take 65536
  let bad := fun (n e : Int) => (rep0, n, e)
  let part := if 65536 < s.length then bad 65536 125 else bad s.length 124
  match stR t with
  | .part => part
  | .bad i => bad i 122
  | .ok a => match fieldsR t (decide (dg t 7 = 0)) (t.length + 1) a [] with
    | .part => part
    | .bad n e => bad n e
    | .ok fs e => (⟨dg t 7, 100 * dg t 9 + 10 * dg t 10 + dg t 11, (t.drop 13).take (a - 2 - 13), fs, [], [], (framingA fs (decide (dg t 7 = 0))).1, (framingA fs (decide (dg t 7 = 0))).2.1, persistA fs (decide (dg t 7 = 0))⟩, e, 0)
def parseM (m s : List UInt8) (most : Int) (ended : Bool) : Rep × Int × Int :=
  if most < 0 then (rep0, 0, 1)
  else if (headM s).2.2 ≠ 0 then (rep0, (headM s).2.1, (headM s).2.2)
  else if bodylessB m (headM s).1.status = true then headM s
  else
    let n := (headM s).2.1
    let rest := s.drop n.toNat
    let r := (headM s).1
    if r.kind = 2 then
      (let d := decodeD rest most 65536 100
       if d.2.2.2 = 0 then ({ r with body := d.1, trailers := d.2.1 }, n + d.2.2.1, 0)
       else (rep0, n + d.2.2.1, if d.2.2.2 = 105 then 124 else if d.2.2.2 = 102 then 125 else d.2.2.2))
    else if r.kind = 1 then
      (if most < r.length then (rep0, n, 125) else if (rest.length : Int) < r.length then (rep0, s.length, 124) else ({ r with body := rest.take r.length.toNat }, n + r.length, 0))
    else if most < rest.length then (rep0, n + most, 125) else if ended = false then (rep0, s.length, 124) else ({ r with body := rest, persist := false }, s.length, 0)
end Go.Proofs.YtcdkcaocfioigaaGreatDoor

set_option linter.unusedVariables false
set_option linter.unnecessarySimpa false
set_option linter.unusedSimpArgs false
set_option linter.unusedSectionVars false
set_option maxRecDepth 100000
namespace Go.Proofs.YtcdkcaocfioigaaGreatDoor
open Go Go.RowKit Go.Proofs

section
variable (E : Env) (H : Hp) (Q : AV → Hp → Prop)
set_option maxRecDepth 100000 in
set_option maxHeartbeats 4000000 in
theorem number_ok10 (s : ByteArray) (most : Int) (hs : s.size ≤ 140737488351232) (hm1 : -9223372036854775808 ≤ most) (hm2 : most ≤ 9223372036854775807) (W : World) :
    Calls Tryz.prog 188 #[.string s, .int .i64 most, .int .i64 10] W fun e w' => e = .returned (.tuple #[.int .i64 (numAns 10 most s.data.toList).1, .int .i64 (numAns 10 most s.data.toList).2]) ∧ Frm (fun _ => False) W w' := by
  obtain ⟨q, hq⟩ : ∃ q, most.tdiv 10 = q := ⟨_, rfl⟩
  have hq1 : 0 ≤ most → 10 * q ≤ most ∧ most < 10 * q + 10 := fun h => by
    rw [Int.tdiv_eq_ediv_of_nonneg h] at hq
    omega
  have HQ1 := Lib.hid hq1
  clear hq1
  go_enter Tryz.func188, Tryz.ntmps188
  by_cases he : s.data.toList = []
  · have hn : numAns 10 most s.data.toList = (0, 11) := by rw [numAns, if_pos he]
    have he' : s.toList.isEmpty = true := by rw [ba_toList, he]; rfl
    go_wp2
    go_ret2
    rw [hn]
    exact ⟨rfl, Frm.refl _ _⟩
  · have he' : s.toList.isEmpty = false := by rw [ba_toList]; simpa using he
    have HE := Lib.hid he
    clear he
    go_wp2
    clear he'
    go_loopw [8, 9, 18] (fun n big i wr => ∃ (k : Nat) (v : Int) (bg : Bool), k ≤ s.size ∧ i = .int .i64 k ∧ n = .int .i64 v ∧ big = .bool bg ∧ okDigs 10 (s.data.toList.take k) = true ∧ bg = decide (most < 0 ∨ most < numOf 10 (s.data.toList.take k)) ∧ (bg = false → v = numOf 10 (s.data.toList.take k)) ∧ Frm (fun _ => False) W wr) (fun _ _ i _ => s.size - (intOf i).toNat)
    case atStart =>
      refine ⟨0, 0, decide (most < 0), Nat.zero_le _, rfl, rfl, rfl, rfl, ?_, fun _ => rfl, Frm.refl _ _⟩
      have : numOf 10 (s.data.toList.take 0) = 0 := rfl
      rw [this]; simp
    case round =>
      obtain ⟨k, v, bg, hk, rfl, rfl, rfl, hok, hbg, hv, hf⟩ := hrel
      have HF := Lib.hid hf
      have HOK := Lib.hid hok
      have hnn := numOf_nonneg 10 (by omega) _ hok
      obtain ⟨m, hm⟩ : ∃ m, m = numOf 10 (s.data.toList.take k) := ⟨_, rfl⟩
      rw [← hm] at hbg hv hnn
      have HM := Lib.hid hm
      clear hf hok hm
      by_cases hlt : k < s.size
      · obtain ⟨x, hx⟩ : ∃ x, s.data.toList[k]? = some x := ⟨_, List.getElem?_eq_getElem (by rw [size_toList]; omega)⟩
        have HX := Lib.hid hx
        clear hx
        have hstep := numOf_step 10 _ _ _ HX.out
        have hostep := okDigs_step 10 _ _ _ HX.out
        rw [← HM.out] at hstep
        rw [HOK.out, Bool.true_and] at hostep
        have HB := Lib.hid hbg
        have HV := Lib.hid hv
        have hx16 := dig_lt x
        obtain ⟨d, hd⟩ : ∃ d, d = dig x := ⟨_, rfl⟩
        rw [← hd] at hstep hostep hx16
        have HS := Lib.hid hstep
        have HO := Lib.hid hostep
        clear hbg hv hstep hostep
        go_wp2_with fail
        refine (lower_ok _ (Nat.le_trans (extract_size _ _ _) hs) wr).mono ?_
        rintro e w2 ⟨rfl, hf2⟩
        have h1 : tx (low (s.extract k (k + 1)).data.toList) = ⟨#[lowB x]⟩ := by rw [extract_one s k x HX.out]; rfl
        rw [h1]
        clear h1
        have HF2 := Lib.hid (HF.out.trans hf2)
        clear hf2
        go_wp2_with fail
        refine (strings_indexByte _ _ w2).mono ?_
        rintro e w3 ⟨rfl, rfl⟩
        have h2 : Lib.indexByte (⟨#[48, 49, 50, 51, 52, 53, 54, 55, 56, 57, 97, 98, 99, 100, 101, 102]⟩ : ByteArray).data.toList ((((⟨#[lowB x]⟩ : ByteArray)[0]'(by show 0 < 1; decide)).toNat : Int).toNat.toUInt8) = d := by
          rw [hd]
          show Lib.indexByte digs (((lowB x).toNat : Int).toNat.toUInt8) = Lib.indexByte digs (lowB x)
          simp
        rw [h2]
        clear h2
        have HD := Lib.hid hd
        clear hd
        have hbad : (d < 0 ∨ 10 ≤ d) → numAns 10 most s.data.toList = (0, 11) := fun h => by
          rw [numAns, if_neg HE.out, if_pos (okDigs_bad 10 _ _ _ HX.out (by rw [← HD.out]; omega))]
        have HBad := Lib.hid hbad
        clear hbad
        by_cases hd0 : d < 0
        · go_wp2
          go_ret2
          rw [HBad.out (.inl hd0)]
          exact ⟨rfl, HF2.out⟩
        · by_cases hd1 : 10 ≤ d
          · go_wp2
            go_ret2
            rw [HBad.out (.inr hd1)]
            exact ⟨rfl, HF2.out⟩
          · have HOK' : Hid (okDigs 10 (s.data.toList.take (k + 1)) = true) := HO.out.trans (decide_eq_true ⟨by omega, by omega⟩)
            cases bg with
            | true =>
              go_wp2
              go_roundw
              case rel =>
                refine ⟨k + 1, v, true, by omega, by go_num, rfl, rfl, HOK'.out, ?_, (fun h => by cases h), HF2.out⟩
                have h1 := of_decide_eq_true HB.out.symm
                rw [HS.out]
                exact (decide_eq_true (by omega)).symm
              case measure => simp [intOf]; omega
            | false =>
              have hv := HV.out rfl
              subst hv
              have h1 := of_decide_eq_false HB.out.symm
              have h1a : 0 ≤ most := by omega
              have h1b : v ≤ most := by omega
              have h1c := (HQ1.out h1a).1
              have h1d := (HQ1.out h1a).2
              clear h1
              by_cases hA : q < v
              · go_wp2
                go_roundw
                case rel =>
                  refine ⟨k + 1, v, true, by omega, by go_num, rfl, rfl, HOK'.out, ?_, (fun h => by cases h), HF2.out⟩
                  rw [HS.out]
                  exact (decide_eq_true (by omega)).symm
                case measure => simp [intOf]; omega
              · by_cases hB : most - d < v * 10
                · go_wp2
                  go_roundw
                  case rel =>
                    refine ⟨k + 1, v, true, by omega, by go_num, rfl, rfl, HOK'.out, ?_, (fun h => by cases h), HF2.out⟩
                    rw [HS.out]
                    exact (decide_eq_true (by omega)).symm
                  case measure => simp [intOf]; omega
                · go_wp2
                  go_roundw
                  case rel =>
                    refine ⟨k + 1, v * 10 + d, false, by omega, by go_num, by go_num, rfl, HOK'.out, ?_, (fun _ => HS.out.symm), HF2.out⟩
                    rw [HS.out]
                    exact (decide_eq_false (by omega)).symm
                  case measure => simp [intOf]; omega
      · obtain rfl : k = s.size := by omega
        have ht : s.data.toList.take s.size = s.data.toList := List.take_of_length_le (by rw [size_toList]; omega)
        have hok := HOK.out
        have hm := HM.out
        rw [ht] at hok hm
        have HN : Hid (numAns 10 most s.data.toList = if most < 0 ∨ most < m then (0, 12) else (m, 0)) := by
          show numAns 10 most s.data.toList = _
          rw [numAns, if_neg HE.out, if_neg (by rw [hok]; decide), ← hm]
        clear hok hm ht
        cases bg with
        | true =>
          have h1 := of_decide_eq_true hbg.symm
          rw [if_pos h1] at HN
          clear hbg hv h1
          go_wp2
          go_ret2
          rw [HN.out]
          exact ⟨rfl, HF.out⟩
        | false =>
          have h1 := of_decide_eq_false hbg.symm
          have hv' := hv rfl
          subst hv'
          rw [if_neg h1] at HN
          clear hbg hv h1
          go_wp2
          go_ret2
          rw [HN.out]
          exact ⟨rfl, HF.out⟩
set_option maxRecDepth 100000 in
set_option maxHeartbeats 1000000 in
theorem decimal_ok (s : ByteArray) (most : Int) (hs : s.size ≤ 140737488351232) (hm1 : -9223372036854775808 ≤ most) (hm2 : most ≤ 9223372036854775807) (W : World) :
    Calls Tryz.prog 166 #[.string s, .int .i64 most] W fun e w' => e = .returned (.tuple #[.int .i64 (numAns 10 most s.data.toList).1, .int .i64 (numAns 10 most s.data.toList).2]) ∧ Frm (fun _ => False) W w' := by
  go_enter Tryz.func166, Tryz.ntmps166
  go_wp2_with fail
  refine (number_ok10 s most hs hm1 hm2 W).mono ?_
  rintro e w1 ⟨rfl, hf⟩
  go_wp2
  go_ret2
  exact ⟨rfl, hf⟩
theorem decimal_pc (l : List UInt8) (most : Int) (hl : l.length ≤ cap) (hm1 : -9223372036854775808 ≤ most) (hm2 : most ≤ 9223372036854775807) (hQ : Q (.tup [.int .i64 (numAns 10 most l).1, .int .i64 (numAns 10 most l).2]) H) :
    PC Tryz.prog E 166 [.str l, .int .i64 most] H Q := by
  refine pc_of_calls (v := .tup [.int .i64 (numAns 10 most l).1, .int .i64 (numAns 10 most l).2]) (by kernel_rfl) (fun _ => True) (fun w hw => trivial) (fun w β Rd cargs hS hsz hargs => ?_) (.tup _ (fun x hx => by simp at hx; rcases hx with rfl | rfl <;> exact .int _ _)) rfl hQ
  obtain ⟨u, v, rfl, hu, hv⟩ := args2 hsz hargs
  obtain ⟨s, rfl, rfl, hs⟩ := rel_str hu
  obtain rfl := rel_int hv
  refine (decimal_ok s most (by rw [← size_toList]; exact hl) hm1 hm2 w).mono ?_
  rintro e w' ⟨rfl, hf⟩
  exact ⟨_, rfl, hf, rel_tup2⟩
def listInv1 (l : List UInt8) (H : Hp) (fr : List AV) (H' : Hp) : Prop := H' = H ∧ ∃ (f i : Nat) (out : List (List UInt8)), f ≤ i ∧ i ≤ l.length ∧ out.length ≤ i ∧ cutIs l out f i ∧ ∃ x : Nat → AV, fr = [.str l, x 1, x 2, x 3, .sl true 1 (strs out), .int .i64 f, .int .i64 i, x 7, x 8, x 9, x 10, x 11, x 12, x 13, x 14, x 15, x 16, x 17, x 18, x 19, x 20, x 21, x 22, x 23, x 24, x 25, x 26, x 27, x 28, x 29, x 30, x 31, x 32, x 33, x 34, x 35, x 36, x 37, x 38, x 39, x 40, x 41, x 42, x 43, x 44, x 45, x 46, x 47, x 48, x 49, x 50, x 51, x 52, x 53, x 54, x 55, x 56, x 57, x 58, x 59, x 60, x 61, x 62, x 63, x 64, x 65, x 66, x 67, x 68, x 69, x 70, x 71, x 72, x 73]
def listInv2 (ps : List (List UInt8)) (H : Hp) (fr : List AV) (H' : Hp) : Prop := H' = H ∧ ∃ (i : Nat) (own : Bool), i ≤ ps.length ∧ ∃ x : Nat → AV, fr = [x 0, x 1, x 2, x 3, x 4, x 5, x 6, x 7, x 8, x 9, .sl true 1 (strs (keepB (ps.take i))), x 11, x 12, x 13, x 14, x 15, x 16, x 17, x 18, x 19, x 20, x 21, x 22, x 23, x 24, x 25, x 26, x 27, x 28, x 29, x 30, x 31, x 32, x 33, x 34, x 35, x 36, x 37, x 38, x 39, x 40, x 41, x 42, x 43, x 44, x 45, x 46, x 47, x 48, x 49, x 50, x 51, x 52, x 53, x 54, x 55, x 56, x 57, .sl own 1 (strs ps), .int .i64 ps.length, .int .i64 i, x 61, x 62, x 63, x 64, x 65, x 66, x 67, x 68, x 69, x 70, x 71, x 72, x 73]
theorem list_pc (l : List UInt8) (hl : l.length ≤ 4194304) (hQ : Q (.tup [.sl false 1 (strs (listAns l).1), .int .i64 (listAns l).2]) H) : PC Tryz.prog E 187 [.str l] H Q := by
  refine pc_enter Tryz.func187 rfl [43, 53, 68] [] (by kernel_rfl) (fun hB => ?_)
  simp [Tryz.ntmps187, Tryz.results187, List.replicate_succ]
  refine VL_nil 4 1 (by rfl) ?_
  simp only [List.set_cons_succ, List.set_cons_zero]
  refine VL_go (listInv1 l H) (fun fr _ => l.length - (ai (aget fr 6)).toNat) ⟨rfl, 0, 0, [], by omega, by omega, by simp, cutIs_start l, fr_intro (by simp [strs])⟩ ?_
  rintro fr H' ⟨rfl, f, i, out, hf, hi, hout, hc, x, rfl⟩
  have hm : out.length + 1 ≤ maxLen ∧ (out.length + 1) * 16 ≤ 140737488355328 := by unfold maxLen; omega
  by_cases h : i < l.length
  · have t1 : ((i : Int) == (l.length : Int)) = false := by simp; omega
    have hw : IntKind.i64.wrap ((i : Int) + 1) = i + 1 := wrap_in (by omega) (by omega)
    obtain ⟨b, hb⟩ : ∃ b, l[i]? = some b := ⟨_, List.getElem?_eq_getElem h⟩
    have hat := lat_eq hb
    have hbn := b.toNat_lt
    by_cases b34 : b.toNat = 34
    · have hx34 : b = 34 := UInt8.toNat_inj.1 b34
      have hb' : l[i]? = some 34 := by rw [hb, hx34]
      have t2 : ((b.toNat : Int) == 34) = true := by simp; omega
      have hd : (l.drop i).take (l.length - i) = l.drop i := List.take_of_length_le (by rw [List.length_drop]; omega)
      simp [t1, hat, t2, hd, hi]
      refine unquote_pc E _ _ (l.drop i) (by rw [List.length_drop]; omega) ?_
      cases hu : unquote (l.drop i) with
      | none =>
        have ha : unqAns (l.drop i) = ([], 0, 13) := by unfold unqAns; rw [hu]
        have hbad := listAns_bad (cutIs_bad hc hf hb' hu)
        rw [hbad] at hQ
        simp [ha]
        exact aPost_same0 hB rfl (nilV_tup2 1 _ rfl) (by simp [strs]) hQ
      | some p =>
        obtain ⟨y, k⟩ := p
        have ha : unqAns (l.drop i) = (y, (k : Int), 0) := by unfold unqAns; rw [hu]
        have hk := unquote_le hu
        rw [List.length_drop] at hk
        have hw2 : IntKind.i64.wrap ((i : Int) + k) = i + k := wrap_in (by omega) (by omega)
        simp [ha, hw2]
        exact Kloop_normal ⟨rfl, f, i + k, out, by omega, by omega, by omega, cutIs_quote hc hf hb' hu, fr_intro (by simp)⟩ (by simp; omega)
    · have t2 : ((b.toNat : Int) == 34) = false := by simp; omega
      have ne34 : b ≠ 34 := by rintro rfl; exact b34 rfl
      by_cases b44 : b.toNat = 44
      · have hx44 : b = 44 := UInt8.toNat_inj.1 b44
        have hb' : l[i]? = some 44 := by rw [hb, hx44]
        have t3 : ((b.toNat : Int) == 44) = true := by simp; omega
        simp [t1, hat, t2, t3, hf, hi, hm, hw]
        exact Kloop_normal ⟨rfl, i + 1, i + 1, out ++ [(l.drop f).take (i - f)], by omega, by omega, by simp; omega, cutIs_comma hc hf hb', fr_intro (by simp [strs])⟩ (by simp; omega)
      · have t3 : ((b.toNat : Int) == 44) = false := by simp; omega
        have ne44 : b ≠ 44 := by rintro rfl; exact b44 rfl
        simp [t1, hat, t2, t3, hw]
        exact Kloop_normal ⟨rfl, f, i + 1, out, by omega, by omega, by omega, cutIs_plain hc hf hb ne44 ne34, fr_intro (by simp)⟩ (by simp; omega)
  · obtain rfl : i = l.length := by omega
    have hcut := cutIs_end hc hf (Nat.le_refl _)
    have t1 : ((l.length : Int) == (l.length : Int)) = true := by simp
    obtain ⟨ps, hps⟩ : ∃ ps, out ++ [(l.drop f).take (l.length - f)] = ps := ⟨_, rfl⟩
    have hpl : ps.length = out.length + 1 := by rw [← hps]; simp
    rw [hps] at hcut
    have hans := listAns_ok hcut
    rw [hans] at hQ
    simp [hf, hm]
    refine VL_nil 10 1 (by rfl) ?_
    simp only [List.set_cons_succ, List.set_cons_zero]
    refine VL_go (listInv2 ps H') (fun fr _ => ps.length - (ai (aget fr 60)).toNat) ⟨rfl, 0, true, by omega, fr_intro (by rw [hpl, ← hps]; simp [strs, keepB])⟩ ?_
    rintro fr H'' ⟨rfl, i, own, hi2, y, rfl⟩
    have hkl : (keepB (ps.take i)).length ≤ ps.length := by
      have := keepB_le (ps.take i)
      rw [List.length_take] at this; omega
    have hm2 : (keepB (ps.take i)).length + 1 ≤ maxLen ∧ ((keepB (ps.take i)).length + 1) * 16 ≤ 140737488355328 := by unfold maxLen; omega
    by_cases h2 : i < ps.length
    · obtain ⟨p, hp⟩ : ∃ b, ps[i]? = some b := ⟨_, List.getElem?_eq_getElem h2⟩
      have hat := strs_at hp
      have hw : IntKind.i64.wrap ((i : Int) + 1) = i + 1 := wrap_in (by omega) (by omega)
      have hst := keepB_take ps i p hp
      have hpl2 : p.length ≤ cap := by
        have := cut_mem _ [] l ps (Nat.le_refl _) hcut p (List.mem_of_getElem? hp)
        simp only [cap]; simp at this; omega
      simp [h2, hat]
      refine trim_pc E _ _ p hpl2 ?_
      cases ht : (trimB p).isEmpty
      · have hne : (trimB p != []) = true := by rw [len_ne _ 0, ht]; rfl
        rw [ht] at hst
        simp [hne, hm2, hw]
        exact Kloop_normal ⟨rfl, i + 1, own, by omega, fr_intro (by rw [hst]; simp [strs])⟩ (by simp; omega)
      · have hne : (trimB p != []) = false := by rw [len_ne _ 0, ht]; rfl
        rw [ht] at hst
        simp [hne, hw]
        exact Kloop_normal ⟨rfl, i + 1, own, by omega, fr_intro (by rw [hst]; simp [strs])⟩ (by simp; omega)
    · have ha : ps.take i = ps := List.take_of_length_le (by omega)
      simp [h2]
      rw [ha]
      exact aPost_same0 hB rfl (nilV_refl _) (by simp) hQ

theorem osame_pc (a b : List UInt8) (ha : a.length ≤ cap) (hb : b.length ≤ cap) (hQ : Q (.bool (low a == low b)) H) : PC Tryz.prog E 71 [.str a, .str b] H Q := by
  refine pc_enter Tryz.func71 rfl [] [] (by kernel_rfl) (fun hB => ?_)
  simp [Tryz.ntmps71, Tryz.results71, List.replicate_succ]
  refine lower_pc E _ _ a ha ?_
  simp
  refine lower_pc E _ _ b hb ?_
  simp
  exact aPost_same0 hB rfl (nilV_refl _) (by simp) hQ
end
section
open Go.Lib
/-- .. and the table of tens. -/
def SE2 (E : Env) : Prop := SE E ∧ E.Fix 0 ∧ TabIs Tryz.prog E.w0 "internal/strconv.uint64pow10" .u64 pow10Tab
theorem pow10Named : Tryz.prog.globalNamed "internal/strconv.uint64pow10" = some 0 := by kernel_rfl
theorem SE2.tab {E : Env} (h : SE2 E) {w : World} (hw : ∀ b, E.Fix b → w.heap[b]? = E.w0.heap[b]?) : TabIs Tryz.prog w "internal/strconv.uint64pow10" .u64 pow10Tab := by
  have := h.2.2
  unfold TabIs World.var? at this ⊢
  rw [pow10Named] at this ⊢
  simp only [Option.bind_some] at this ⊢
  rw [hw _ h.2.1]; exact this
section
variable (E : Env) (H : Hp) (Q : AV → Hp → Prop)
theorem itoa_le (n : Int) (h0 : -9223372036854775808 ≤ n) (h1 : n ≤ 9223372036854775807) : (itoa n).length ≤ 21 ∧ (decDigits n.natAbs).length ≤ 21 := by
  have h := itoa_length_le n h0 h1
  refine ⟨h, ?_⟩
  unfold itoa at h
  split at h
  · simp at h; omega
  · have : n.toNat = n.natAbs := by omega
    rw [this] at h; exact h
theorem itoa_pc (hE : SE2 E) (n : Int) (h0 : -9223372036854775808 ≤ n) (h1 : n ≤ 9223372036854775807) (hQ : Q (.str (itoa n)) H) : PC Tryz.prog E 47 [.int .i64 n] H Q := by
  refine pc_of_calls (v := .str (itoa n)) (by kernel_rfl) (fun w => TabIs Tryz.prog w "internal/strconv.uint64pow10" .u64 pow10Tab) (fun w hw => hE.tab hw) (fun w β Rd cargs hS hsz hargs => ?_) (.str _) rfl hQ
  obtain ⟨u, rfl, hu⟩ := args1 hsz hargs
  obtain rfl := rel_int hu
  refine (Any.strconv_Itoa laysM171 n h0 h1 w hS).mono ?_
  rintro e w' ⟨rfl, k, os, rfl⟩
  refine ⟨_, rfl, ⟨rfl, rfl, rfl, by simp [Go.Sort.grow], fun b hb _ => ?_⟩, rel_tx _ (by have := (itoa_le n h0 h1).1; unfold maxLen; omega)⟩
  show (w.heap ++ os)[b]? = _
  rw [Array.getElem?_append_left hb]
end
end
end Go.Proofs.YtcdkcaocfioigaaGreatDoor

set_option linter.unusedVariables false
set_option linter.unnecessarySimpa false
set_option linter.unusedSimpArgs false
set_option linter.unusedSectionVars false
set_option maxRecDepth 100000
namespace Go.Proofs.YtcdkcaocfioigaaGreatDoor
open Go Go.RowKit Go.Proofs

def strL (l : List (List UInt8)) : List AV := l.map AV.str
@[simp] theorem strL_length (l : List (List UInt8)) : (strL l).length = l.length := by simp [strL]
theorem strL_app (l m : List (List UInt8)) : strL (l ++ m) = strL l ++ strL m := by simp [strL]
theorem strs_flat' (l : List (List UInt8)) : (strs l).flatten = strL l := by
  induction l with
  | nil => rfl
  | cons x l ih => show _ :: (strs l).flatten = _; rw [ih]; rfl
theorem strL_str (l : List (List UInt8)) : ∀ x ∈ strL l, ∃ s, x = .str s := fun x hx => by obtain ⟨s, _, rfl⟩ := List.mem_map.1 hx; exact ⟨s, rfl⟩
theorem chop_strL (out : List (List UInt8)) (tail : List AV) : chop 1 out.length (strL out ++ tail) = strs out := by
  rw [chop_one _ _ (by simp), List.take_append_of_le_length (by simp), List.take_of_length_le (by simp)]
  unfold strL strs
  rw [List.map_map]
  rfl
/-- Texts of one's own, behind boxes H0. -/
def SAt (H0 : Hp) (v : AV) (out : List (List UInt8)) (H : Hp) : Prop := ∃ J, H = H0 ++ J ∧ (∀ l ∈ J, ∀ x ∈ l, ∃ z, x = .str z) ∧ ((v = .nil ∧ out = []) ∨
  ∃ J1 tail, J = J1 ++ [strL out ++ tail] ∧ v = .bx (H0.length + J1.length) 0 out.length (out.length + tail.length) 1 ∧ out.length + tail.length ≤ maxLen)
theorem sAt_free {H0 : Hp} {v : AV} {out : List (List UInt8)} {H : Hp} (h : SAt H0 v out H) : v.free = true ∧ v.dis = v := by
  obtain ⟨J, _, _, ⟨rfl, _⟩ | ⟨J1, tail, _, rfl, _⟩⟩ := h <;> exact ⟨rfl, rfl⟩
theorem sAt_bnd {H0 : Hp} {v : AV} {out : List (List UInt8)} {H : Hp} (h : SAt H0 v out H) : Bnd H.length v := by
  obtain ⟨J, rfl, _, ⟨rfl, _⟩ | ⟨J1, tail, rfl, rfl, _⟩⟩ := h
  · exact .nil
  · exact .bx _ _ _ _ _ (by simp)
theorem sAt_bndH {H0 : Hp} {v : AV} {out : List (List UInt8)} {H : Hp} (h : SAt H0 v out H) (hB : BndH H0.length H0) : BndH H.length H := by
  obtain ⟨J, rfl, hJ, _⟩ := h
  intro l hl y hy
  rcases List.mem_append.1 hl with h | h
  · exact (hB l h y hy).mono (by simp)
  · obtain ⟨s, rfl⟩ := hJ l h y hy; exact .str _
section
variable (E : Env) (H : Hp) (Q : AV → Hp → Prop)
def allInv (l : List Fld) (n : List UInt8) (H : Hp) (fr : List AV) (H' : Hp) : Prop := ∃ (J : Hp) (i : Nat), H' = H ++ J ∧ i ≤ l.length ∧ ∃ x : Nat → AV, fr = [x 0, .str n, x 2, x 3, x 4, .sl true 1 (strs (allB (l.take i) n)), x 6, x 7, .sl false 2 (flds l), .int .i64 l.length, .int .i64 i, x 11, x 12, x 13, x 14, x 15, x 16, x 17, x 18, x 19, x 20, x 21, x 22, x 23, x 24]
theorem all_pc (l : List Fld) (n : List UInt8) (hl : fsz l + l.length ≤ 16777216) (hn : n.length ≤ cap) (hQ : Q (.sl false 1 (strs (allB l n))) H) : PC Tryz.prog E 164 [.sl false 2 (flds l), .str n] H Q := by
  refine pc_enter Tryz.func164 rfl [18] [] (by kernel_rfl) (fun hB => ?_)
  simp [Tryz.ntmps164, Tryz.results164, List.replicate_succ]
  refine VL_nil 5 1 (by rfl) ?_
  simp only [List.set_cons_succ, List.set_cons_zero]
  refine VL_go (allInv l n H) (fun fr _ => l.length - (ai (aget fr 10)).toNat) ⟨[], 0, by simp, by omega, fr_intro (by simp [allB, strs])⟩ ?_
  rintro fr H' ⟨J, i, rfl, hi, x, rfl⟩
  by_cases h : i < l.length
  · obtain ⟨f, hf⟩ : ∃ f, l[i]? = some f := ⟨_, List.getElem?_eq_getElem h⟩
    have hat := flds_at hf
    have hfm := fsz_mem hf
    have hw : IntKind.i64.wrap ((i : Int) + 1) = i + 1 := wrap_in (by omega) (by omega)
    have hst := allB_step l n i f hf
    have hal := allB_len (l.take i) n
    rw [List.length_take] at hal
    simp [h, hat]
    refine osame_pc E _ _ f.name n (by simp only [cap]; omega) hn ?_
    cases he : (low f.name == low n) with
    | false =>
      rw [if_neg (by unfold lowEq; rw [he]; simp), List.append_nil] at hst
      simp [hw]
      exact Kloop_normal ⟨_, i + 1, rfl, by omega, fr_intro (by simp [hst])⟩ (by simp; omega)
    | true =>
      rw [if_pos (show lowEq f.name n = true from he)] at hst
      have m1 : (allB (l.take i) n).length + 1 ≤ maxLen := by unfold maxLen; omega
      have m2 : ((allB (l.take i) n).length + 1) * 16 ≤ 140737488355328 := by omega
      have hsn := strs_snoc (allB (l.take i) n) f.value
      rw [← hst] at hsn
      simp [m1, m2, hsn, hw]
      exact Kloop_normal ⟨_, i + 1, rfl, by omega, fr_intro (by simp)⟩ (by simp; omega)
  · obtain rfl : i = l.length := by omega
    simp
    exact aPost_same hB (v0 := .sl false 1 (strs (allB l n))) (by simp) (nilV_refl _) (by simp [bnd_strs]) hQ
def flInv (vs : List (List UInt8)) (H : Hp) (fr : List AV) (H' : Hp) : Prop := ∃ (i : Nat) (v : AV) (acc : List (List UInt8)), i ≤ vs.length ∧ SAt H v acc H' ∧ listsB (vs.take i) = some acc ∧
  ∃ x : Nat → AV, fr = [x 0, x 1, x 2, x 3, x 4, x 5, v, x 7, x 8, x 9, x 10, x 11, x 12, .sl false 1 (strs vs), .int .i64 vs.length, .int .i64 i, x 16, x 17, x 18, x 19, x 20, x 21, x 22, x 23, x 24, x 25, x 26, x 27, x 28, x 29, x 30, x 31]
theorem flist_bx (l : List Fld) (n : List UInt8) (hl : fsz l + l.length ≤ 4194304) (hn : n.length ≤ cap) (hQ1 : listsB (allB l n) = none → Q (.tup [.sl false 1 [], .int .i64 14]) H)
    (hQ2 : ∀ acc v H', listsB (allB l n) = some acc → SAt H v acc H' → Q (.tup [v, .int .i64 0]) H') : PC Tryz.prog E 165 [.sl false 2 (flds l), .str n] H Q := by
  have hvz := vsz_allB l n
  refine pc_enter Tryz.func165 rfl [] [(8, [0, 0, 3])] (by kernel_rfl) (fun hB => ?_)
  simp [Tryz.ntmps165, Tryz.results165, List.replicate_succ]
  refine all_pc E _ _ l n (by omega) hn ?_
  generalize allB l n = vs at *
  have hvl := vsz_len vs
  simp
  refine VL_go (flInv vs H) (fun fr _ => vs.length - (ai (aget fr 15)).toNat) ⟨0, .nil, [], by omega, ⟨[], by simp, by simp, .inl ⟨rfl, rfl⟩⟩, rfl, fr_intro (by simp)⟩ ?_
  rintro fr H' ⟨i, v, acc, hi, hS, hacc, x, rfl⟩
  obtain ⟨hvf, hvd⟩ := sAt_free hS
  have hlen := listsB_len _ _ hacc
  have hvt := vsz_take vs i
  by_cases h : i < vs.length
  · obtain ⟨s, hs⟩ : ∃ s, vs[i]? = some s := ⟨_, List.getElem?_eq_getElem h⟩
    have hat := strs_at hs
    have hsz := vsz_mem hs
    have hw : IntKind.i64.wrap ((i : Int) + 1) = i + 1 := wrap_in (by omega) (by omega)
    simp [h, hat]
    refine list_pc E _ _ s (by omega) ?_
    cases hlb : listB s with
    | none =>
      have e : listAns s = ([], 14) := by unfold listAns; rw [hlb]
      rw [e]
      obtain ⟨J, rfl, _⟩ := hS
      simp
      exact aPost_same hB (v0 := .tup [.nil, .int .i64 14]) (by simp) (nilV_tup2 1 _ rfl) (by simp) (hQ1 (listsB_stop hs hlb))
    | some y =>
      have e : listAns s = (y, 0) := by unfold listAns; rw [hlb]
      rw [e]
      have hyl := listB_len hlb
      have hst := listsB_step hs hacc hlb
      obtain ⟨J, rfl, hJ, ⟨rfl, rfl⟩ | ⟨J1, tail, rfl, rfl, htl⟩⟩ := hS
      · by_cases hy : y = []
        · subst hy
          have hs0 : strs ([] : List (List UInt8)) = [] := rfl
          simp [hw, hs0]
          exact Kloop_normal ⟨i + 1, .nil, [], by omega, ⟨J, rfl, hJ, .inl ⟨rfl, rfl⟩⟩, by simpa using hst, fr_intro (by simp)⟩ (by simp; omega)
        · have m1 : y.length ≤ maxLen := by unfold maxLen; omega
          have m2 : y.length * 16 ≤ 140737488355328 := by omega
          simp [hy, m1, m2, strs_flat']
          refine VGrow_intro fun c hc1 hc2 => ?_
          obtain ⟨k, rfl⟩ : ∃ k, c = y.length + k := ⟨c - y.length, by omega⟩
          simp [hw]
          refine Kloop_normal ⟨i + 1, .bx (H.length + J.length) 0 y.length (y.length + k) 1, y, by omega, ⟨J ++ [strL y ++ List.replicate k (.str [])], rfl, fun l hl z hz => ?_, .inr ⟨J, List.replicate k (.str []), rfl, by simp, by simpa using hc2⟩⟩, by simpa using hst, fr_intro (by simp)⟩ (by simp; omega)
          rcases List.mem_append.1 hl with h | h
          · exact hJ l h z hz
          · simp only [List.mem_singleton] at h
            subst h
            rcases List.mem_append.1 hz with h | h
            · exact strL_str _ z h
            · exact ⟨_, (List.mem_replicate.1 h).2⟩
      · have hget : ∀ r : List AV, (H ++ (J1 ++ [r]))[H.length + J1.length]? = some r := fun r => by rw [← List.append_assoc, List.getElem?_append_right (by simp)]; simp
        have hset : ∀ r q : List AV, (H ++ (J1 ++ [r])).set (H.length + J1.length) q = H ++ (J1 ++ [q]) := fun r q => by rw [← List.append_assoc, List.set_append_right _ _ (by simp), List.append_assoc]; simp
        have hfree : (∀ x ∈ strL acc, x.free = true) = True := eq_true fun x hx => by obtain ⟨b, rfl⟩ := strL_str _ x hx; rfl
        have htk : List.take acc.length (strL acc) = strL acc := List.take_of_length_le (by simp)
        have htu : ∀ x ∈ tail, ∃ z, x = .str z := fun x hx => hJ (strL acc ++ tail) (by simp) x (List.mem_append_right _ hx)
        have hJ1 : ∀ l ∈ J1, ∀ x ∈ l, ∃ z, x = .str z := fun l hl => hJ l (List.mem_append_left _ hl)
        have hdr : List.drop (acc.length + y.length) (strL acc ++ tail) = tail.drop y.length := by rw [List.drop_append, List.drop_of_length_le (by simp)]; simp
        by_cases hroom : y.length ≤ tail.length
        · simp [hroom, hfree, hget, hset, htk, hdr, hw, strs_flat']
          refine Kloop_normal ⟨i + 1, .bx (H.length + J1.length) 0 (acc.length + y.length) (acc.length + tail.length) 1, acc ++ y, by omega, ⟨J1 ++ [strL (acc ++ y) ++ tail.drop y.length], by simp [strL_app], fun l hl z hz => ?_, .inr ⟨J1, tail.drop y.length, rfl, by simp; omega, by simp; omega⟩⟩, hst, fr_intro (by simp)⟩ (by simp; omega)
          rcases List.mem_append.1 hl with h | h
          · exact hJ1 l h z hz
          · simp only [List.mem_singleton] at h
            subst h
            rcases List.mem_append.1 hz with h | h
            · exact strL_str _ z h
            · exact htu z (List.mem_of_mem_drop h)
        · have m1 : acc.length + y.length ≤ maxLen := by unfold maxLen; omega
          have m2 : (acc.length + y.length) * 16 ≤ 140737488355328 := by omega
          simp [hroom, hfree, hget, hset, htk, hdr, hw, strs_flat', m1, m2]
          refine VGrow_intro fun c hc1 hc2 => ?_
          obtain ⟨k, rfl⟩ : ∃ k, c = acc.length + y.length + k := ⟨c - (acc.length + y.length), by omega⟩
          simp [hw]
          refine Kloop_normal ⟨i + 1, .bx (H.length + (J1.length + 1)) 0 (acc.length + y.length) (acc.length + y.length + k) 1, acc ++ y, by omega, ⟨(J1 ++ [strL acc ++ tail]) ++ [strL (acc ++ y) ++ List.replicate k (.str [])], by simp [strL_app], fun l hl z hz => ?_, .inr ⟨J1 ++ [strL acc ++ tail], List.replicate k (.str []), rfl, by simp, by simpa using hc2⟩⟩, hst, fr_intro (by simp)⟩ (by simp; omega)
          rcases List.mem_append.1 hl with h | h
          · exact hJ l h z hz
          · simp only [List.mem_singleton] at h
            subst h
            rcases List.mem_append.1 hz with h | h
            · exact strL_str _ z h
            · exact ⟨_, (List.mem_replicate.1 h).2⟩
  · obtain rfl : i = vs.length := by omega
    rw [List.take_of_length_le (Nat.le_refl _)] at hacc
    simp [hvd]
    exact aPost_up (v := .tup [v, .int .i64 0]) (by simp [hvd]) (by obtain ⟨J, rfl, _⟩ := hS; simp) (sAt_bndH hS hB) (.tup _ (fun y hy => by simp at hy; rcases hy with rfl | rfl; exact sAt_bnd hS; exact .int _ _)) (hQ2 acc v H' hacc hS)
/-- Elements of which i are with small letters. -/
def mix (acc : List (List UInt8)) (i : Nat) : List (List UInt8) := (acc.take i).map low ++ acc.drop i
theorem mix_len (acc : List (List UInt8)) (i : Nat) : (mix acc i).length = acc.length := by
  unfold mix
  simp
  omega
theorem mix_zero (acc : List (List UInt8)) : mix acc 0 = acc := by simp [mix]
theorem mix_all (acc : List (List UInt8)) : mix acc acc.length = acc.map low := by simp [mix]
theorem mix_at {acc : List (List UInt8)} {i : Nat} {u : List UInt8} (h : acc[i]? = some u) (tail : List AV) : (strL (mix acc i) ++ tail)[i]? = some (.str u) := by
  have hi := (List.getElem?_eq_some_iff.1 h).1
  rw [List.getElem?_append_left (by rw [strL_length, mix_len]; exact hi)]
  unfold strL mix
  rw [List.getElem?_map, List.getElem?_append_right (by simp; omega)]
  simp [h, Nat.min_eq_left (Nat.le_of_lt hi)]
theorem mix_step {acc : List (List UInt8)} {i : Nat} {u : List UInt8} (h : acc[i]? = some u) (tail : List AV) : (strL (mix acc i) ++ tail).set i (.str (low u)) = strL (mix acc (i + 1)) ++ tail := by
  have hi := (List.getElem?_eq_some_iff.1 h).1
  have e : mix acc (i + 1) = (mix acc i).set i (low u) := by
    unfold mix
    rw [List.set_append_right _ _ (by simp; omega), List.take_add_one, h]
    simp only [Option.toList, List.map_append, List.map_cons, List.map_nil, List.length_map, List.length_take, Nat.min_eq_left (Nat.le_of_lt hi), Nat.sub_self]
    rw [List.drop_eq_getElem_cons hi, List.set_cons_zero, List.append_assoc]
    rfl
  rw [e, List.set_append_left _ _ (by rw [strL_length, mix_len]; exact hi)]
  unfold strL
  rw [List.map_set]
theorem mix_put {acc : List (List UInt8)} {i : Nat} {u : List UInt8} (h : acc[i]? = some u) (tail : List AV) : (strL (mix acc i) ++ tail).take i ++ .str (low u) :: (strL (mix acc i) ++ tail).drop (i + 1) = strL (mix acc (i + 1)) ++ tail := by
  have hi := (List.getElem?_eq_some_iff.1 h).1
  rw [← mix_step h tail, List.set_eq_take_append_cons_drop, if_pos (by rw [List.length_append, strL_length, mix_len]; omega)]
def toInv (acc : List (List UInt8)) (J1 : Hp) (tail : List AV) (H : Hp) (fr : List AV) (H' : Hp) : Prop := ∃ (i : Nat), i ≤ acc.length ∧ H' = H ++ (J1 ++ [strL (mix acc i) ++ tail]) ∧ (acc.take i).all tokB = true ∧
  ∃ x : Nat → AV, fr = [x 0, x 1, x 2, x 3, x 4, x 5, .bx (H.length + J1.length) 0 acc.length (acc.length + tail.length) 1, x 7, x 8, x 9, x 10, x 11, x 12, x 13, x 14, x 15, x 16, x 17, x 18, .bx (H.length + J1.length) 0 acc.length (acc.length + tail.length) 1, .int .i64 acc.length, .int .i64 i, x 22, x 23, x 24, x 25, x 26, x 27, x 28, x 29, x 30, x 31, x 32, x 33, x 34, x 35]
theorem tokens_pc (hE : SE E) (l : List Fld) (n : List UInt8) (hl : fsz l + l.length ≤ 4194304) (hn : n.length ≤ cap) (hQ : Q (.tup [.sl false 1 (strs (toksA l n).1), .int .i64 (toksA l n).2]) H) : PC Tryz.prog E 143 [.sl false 2 (flds l), .str n] H Q := by
  have hvz := vsz_allB l n
  refine pc_enterZ Tryz.func143 rfl [] [(11, [5, H.length])] (by kernel_rfl) (fun id m hm => ?_) (fun hB => ?_)
  · unfold ndOf at hm
    split at hm
    · cases hm; exact Nat.le_refl _
    · cases hm
  simp [Tryz.ntmps143, Tryz.results143, List.replicate_succ]
  refine flist_bx E _ _ l n hl hn (fun hno => ?_) (fun acc v H' hacc hS => ?_)
  · have e : toksA l n = ([], 14) := by unfold toksA; rw [hno]
    rw [e] at hQ
    simp
    exact aPost_same0 hB (v0 := .tup [.nil, .int .i64 14]) (by simp) (nilV_tup2 1 _ rfl) (by simp) hQ
  have hmem := listsB_mem _ _ hacc
  have hlen := listsB_len _ _ hacc
  have e : toksA l n = if acc.all tokB = true then (acc.map low, 0) else ([], 10) := by unfold toksA; rw [hacc]
  rw [e] at hQ
  clear e hacc
  obtain ⟨J, rfl, hJ, ⟨rfl, rfl⟩ | ⟨J1, tail, rfl, rfl, htl⟩⟩ := hS
  · simp
    refine VL_go (fun fr H' => ∃ J : Hp, H' = H ++ J ∧ ∃ x : Nat → AV, fr = [x 0, x 1, x 2, x 3, x 4, x 5, .nil, x 7, x 8, x 9, x 10, x 11, x 12, x 13, x 14, x 15, x 16, x 17, x 18, .nil, .int .i64 0, .int .i64 0, x 22, x 23, x 24, x 25, x 26, x 27, x 28, x 29, x 30, x 31, x 32, x 33, x 34, x 35]) (fun fr _ => 0) ⟨J, rfl, fr_intro (by simp)⟩ ?_
    rintro fr H' ⟨J, rfl, x, rfl⟩
    simp
    refine VFz_skip ?_
    simp
    exact aPost_same hB (v0 := .tup [.nil, .int .i64 0]) (by simp) (nilV_tup2 1 _ rfl) (by simp) hQ
  · simp
    refine VL_go (toInv acc J1 tail H) (fun fr _ => acc.length - (ai (aget fr 21)).toNat) ⟨0, by omega, by rw [mix_zero], by simp, fr_intro (by simp)⟩ ?_
    rintro fr H' ⟨i, hi, rfl, hall, x, rfl⟩
    by_cases h : i < acc.length
    · obtain ⟨u, hu⟩ : ∃ u, acc[i]? = some u := ⟨_, List.getElem?_eq_getElem h⟩
      have hw : IntKind.i64.wrap ((i : Int) + 1) = i + 1 := wrap_in (by omega) (by omega)
      have hget : ∀ r : List AV, (H ++ (J1 ++ [r]))[H.length + J1.length]? = some r := fun r => by rw [← List.append_assoc, List.getElem?_append_right (by simp)]; simp
      have hset : ∀ r q : List AV, (H ++ (J1 ++ [r])).set (H.length + J1.length) q = H ++ (J1 ++ [q]) := fun r q => by rw [← List.append_assoc, List.set_append_right _ _ (by simp), List.append_assoc]; simp
      have hat := mix_at hu tail
      have hst := mix_put hu tail
      have hul := hmem u (List.mem_of_getElem? hu)
      simp [h, hget, hat]
      refine isToken_pc E _ _ hE u (by simp only [cap]; omega) ?_
      cases ht : tokB u with
      | false =>
        have e : acc.all tokB = false := all_stop tokB acc i u hu ht
        rw [if_neg (by rw [e]; simp)] at hQ
        simp
        exact aPost_same hB (v0 := .tup [.nil, .int .i64 10]) (by simp) (nilV_tup2 1 _ rfl) (by simp) hQ
      | true =>
        simp
        refine lower_pc E _ _ u (by simp only [cap]; omega) ?_
        have hle : i + 1 ≤ (mix acc i).length + tail.length := by rw [mix_len]; omega
        simp [hget, hset, hst, hw, h, hle]
        exact Kloop_normal ⟨i + 1, by omega, rfl, by rw [all_step tokB acc i u hu, hall, ht]; rfl, fr_intro (by simp)⟩ (by simp; omega)
    · obtain rfl : i = acc.length := by omega
      simp
      rw [List.take_of_length_le (Nat.le_refl _)] at hall
      rw [if_pos hall] at hQ
      rw [mix_all]
      have hJ1 : ∀ l ∈ J1, ∀ x ∈ l, ∃ z, x = .str z := fun l hl => hJ l (List.mem_append_left _ hl)
      have htu : ∀ x ∈ tail, ∃ z, x = .str z := fun x hx => hJ (strL acc ++ tail) (by simp) x (List.mem_append_right _ hx)
      have hch := chop_strL (acc.map low) tail
      rw [List.length_map] at hch
      refine VFz_intro [6] (H ++ J1) (strL (acc.map low) ++ tail) (by simp) (by simp) (fun l' hl' y hy => ?_) (fun t ht y hy => ?_) (fun y => ?_)
      · rcases List.mem_append.1 hl' with h | h
        · exact (hB l' h y hy).mono (by simp)
        · obtain ⟨z, rfl⟩ := hJ1 l' h y hy; exact .str _
      · simp at ht
        subst ht
        simp at hy; subst hy
        refine .inr ⟨by simp, by omega, by simp, fun y hy => ?_⟩
        have hy2 := List.mem_of_mem_drop (List.mem_of_mem_take hy)
        rcases List.mem_append.1 hy2 with h | h
        · obtain ⟨z, rfl⟩ := strL_str _ y h; exact ⟨rfl, .str _⟩
        · obtain ⟨z, rfl⟩ := htu y h; exact ⟨rfl, .str _⟩
      · simp [fmapK, frz, hch]
        exact aPost_same hB (v0 := .tup [.sl false 1 (strs (acc.map low)), .int .i64 0]) (by simp) (nilV_refl _) (by simp [bnd_strs]) hQ
def idxInv (ls : List (List UInt8)) (t : List UInt8) (H : Hp) (fr : List AV) (H' : Hp) : Prop := H' = H ∧ ∃ i : Nat, i ≤ ls.length ∧ t ∉ ls.take i ∧ ∃ x : Nat → AV, fr = [.sl false 1 (strs ls), .str t, x 2, x 3, x 4, x 5, x 6, .int .i64 ls.length, .int .i64 i, x 9, x 10, x 11, x 12, x 13, x 14, x 15, x 16, x 17, x 18]
theorem index_pc (ls : List (List UInt8)) (t : List UInt8) (hl : ls.length ≤ 1073741824) (hQ : ∀ z : Int, (0 ≤ z ↔ t ∈ ls) → Q (.int .i64 z) H) : PC Tryz.prog E 189 [.sl false 1 (strs ls), .str t] H Q := by
  refine pc_enter Tryz.func189 rfl [] [] (by kernel_rfl) (fun hB => ?_)
  simp [Tryz.ntmps189, Tryz.results189, List.replicate_succ]
  refine VL_go (idxInv ls t H) (fun fr _ => ls.length - (ai (aget fr 8)).toNat) ⟨rfl, 0, by omega, by simp, fr_intro (by simp)⟩ ?_
  rintro fr H' ⟨rfl, i, hi, hno, x, rfl⟩
  by_cases h : i < ls.length
  · obtain ⟨u, hu⟩ : ∃ u, ls[i]? = some u := ⟨_, List.getElem?_eq_getElem h⟩
    have hat := strs_at hu
    have hw : IntKind.i64.wrap ((i : Int) + 1) = i + 1 := wrap_in (by omega) (by omega)
    cases he : (t == u) with
    | true =>
      have : t = u := by simpa using he
      subst this
      simp [h, hat]
      exact aPost_same0 hB rfl (nilV_refl _) (by simp) (hQ _ ⟨fun _ => List.mem_of_getElem? hu, fun _ => by omega⟩)
    | false =>
      have hne : t ≠ u := by simpa using he
      simp [h, hat, he, hw]
      refine Kloop_normal ⟨rfl, i + 1, by omega, ?_, fr_intro (by simp)⟩ (by simp; omega)
      rw [List.take_add_one, hu]
      simp [hno, hne]
  · obtain rfl : i = ls.length := by omega
    rw [List.take_of_length_le (Nat.le_refl _)] at hno
    simp
    exact aPost_same0 hB rfl (nilV_refl _) (by simp) (hQ _ ⟨fun h => by omega, fun h => absurd h hno⟩)
theorem contains_pc (ls : List (List UInt8)) (t : List UInt8) (hl : ls.length ≤ 1073741824) (hQ : Q (.bool (ls.contains t)) H) : PC Tryz.prog E 167 [.sl false 1 (strs ls), .str t] H Q := by
  refine pc_enter Tryz.func167 rfl [] [] (by kernel_rfl) (fun hB => ?_)
  simp [Tryz.ntmps167, Tryz.results167, List.replicate_succ]
  refine index_pc E _ _ ls t hl (fun z hz => ?_)
  have e : ls.contains t = decide (0 ≤ z) := by
    rw [Bool.eq_iff_iff]
    simp [hz]
  rw [e] at hQ
  simp
  exact aPost_same0 hB rfl (nilV_refl _) (by simp) hQ
theorem toksA_len (l : List Fld) (n : List UInt8) : (toksA l n).1.length ≤ fsz l + l.length := by
  have hvz := vsz_allB l n
  unfold toksA
  cases h : listsB (allB l n) with
  | none => simp
  | some acc =>
    have := listsB_len _ _ h
    simp only
    split
    · simp; omega
    · simp
theorem has_pc (hE : SE E) (l : List Fld) (n t : List UInt8) (hl : fsz l + l.length ≤ 4194304) (hn : n.length ≤ cap) (ht : t.length ≤ cap) (hQ : Q (.bool (hasA l n t)) H) : PC Tryz.prog E 144 [.sl false 2 (flds l), .str n, .str t] H Q := by
  have htl := toksA_len l n
  refine pc_enter Tryz.func144 rfl [] [] (by kernel_rfl) (fun hB => ?_)
  simp [Tryz.ntmps144, Tryz.results144, List.replicate_succ]
  refine tokens_pc E _ _ hE l n hl hn ?_
  unfold hasA at hQ
  by_cases he : (toksA l n).2 = 0
  · rw [he] at hQ
    simp [he]
    refine lower_pc E _ _ t ht ?_
    simp
    refine contains_pc E _ _ _ _ (by omega) ?_
    simp at hQ
    simp
    exact aPost_same0 hB rfl (nilV_refl _) (by simp) hQ
  · have he2 : ((toksA l n).2 == 0) = false := by simpa using he
    rw [decide_eq_false he] at hQ
    simp [he2]
    exact aPost_same0 hB rfl (nilV_refl _) (by simp) hQ
end
end Go.Proofs.YtcdkcaocfioigaaGreatDoor

set_option linter.unusedVariables false
set_option linter.unnecessarySimpa false
set_option linter.unusedSimpArgs false
set_option linter.unusedSectionVars false
set_option maxRecDepth 100000
namespace Go.Proofs.YtcdkcaocfioigaaGreatDoor
open Go Go.RowKit Go.Proofs

theorem dec_rng (x : List UInt8) : 0 ≤ (numAns 10 1099511627776 x).1 ∧ (numAns 10 1099511627776 x).1 ≤ 1099511627776 := by
  unfold numAns
  split
  · simp
  · split
    · simp
    · split
      · simp
      · rename_i h1 h2 h3
        have h := numOf_nonneg 10 (by omega) x (by simpa using h2)
        simp only
        omega
theorem decA_ok {x : List UInt8} (h : (numAns 10 1099511627776 x).2 = 0) : decA x = (numAns 10 1099511627776 x).1 := by unfold decA; rw [if_pos h]
theorem decA_bad {x : List UInt8} (h : (numAns 10 1099511627776 x).2 ≠ 0) : decA x = -1 := by unfold decA; rw [if_neg h]
section
variable (E : Env) (H : Hp) (Q : AV → Hp → Prop)
/-- i elements: all digits, and the same number. -/
def lenOk (acc : List (List UInt8)) (i : Nat) (m : Int) : Prop := (i = 0 ∧ m = 0) ∨ (0 < i ∧ 0 ≤ m ∧ ∀ y ∈ acc.take i, decA y = m)
def lenInv (acc : List (List UInt8)) (b : Nat) (c : Nat) (H3 : Hp) (fr : List AV) (H' : Hp) : Prop := H' = H3 ∧ ∃ (i : Nat) (m : Int), i ≤ acc.length ∧ lenOk acc i m ∧ m ≤ 1099511627776 ∧
  ∃ x : Nat → AV, fr = [x 0, x 1, x 2, x 3, x 4, x 5, x 6, .int .i64 m, x 8, x 9, x 10, x 11, x 12, x 13, x 14, x 15, x 16, x 17, x 18, x 19, x 20, x 21, x 22, x 23, x 24, x 25, x 26, x 27, .bx b 0 acc.length c 1, .int .i64 acc.length, .int .i64 i, x 31, x 32, x 33, x 34, x 35, x 36, x 37, x 38, x 39, x 40, x 41, x 42, x 43, x 44, x 45, x 46, x 47, x 48, x 49, x 50, x 51, x 52, x 53]
theorem length_pc (l : List Fld) (hl : fsz l + l.length ≤ 4194304) (hQ : Q (.tup [.int .i64 (lengthA l).1, .bool (lengthA l).2.1, .int .i64 (lengthA l).2.2]) H) : PC Tryz.prog E 142 [.sl false 2 (flds l)] H Q := by
  refine pc_enter Tryz.func142 rfl [] [] (by kernel_rfl) (fun hB => ?_)
  have fin : ∀ a : Int × Bool × Int, lengthA l = a → Q (.tup [.int .i64 a.1, .bool a.2.1, .int .i64 a.2.2]) H := fun a ha => ha ▸ hQ
  have hvz := vsz_allB l nCL
  have hcn : nCL.length ≤ cap := by simp [nCL, cap]
  simp [Tryz.ntmps142, Tryz.results142, List.replicate_succ]
  refine all_pc E _ _ l nCL (by omega) hcn ?_
  by_cases h0 : allB l nCL = []
  · have e : lengthA l = (0, false, 0) := by unfold lengthA; rw [if_pos h0]
    have hs0 : strs ([] : List (List UInt8)) = [] := rfl
    simp [h0, hs0]
    exact aPost_same0 hB rfl (nilV_refl _) (by simp) (fin _ e)
  have h0' : (((allB l nCL).length : Int) == 0) = false := by
    rw [beq_eq_false_iff_ne]
    intro e
    exact h0 (List.length_eq_zero_iff.1 (by omega))
  simp [h0']
  refine flist_bx E _ _ l nCL hl hcn (fun hno => ?_) (fun acc v H' hacc hS => ?_)
  · have e : lengthA l = (0, false, 66) := by unfold lengthA; rw [if_neg h0, hno]
    simp
    exact aPost_same0 hB rfl (nilV_refl _) (by simp) (fin _ e)
  have hlen := listsB_len _ _ hacc
  have hmem := listsB_mem _ _ hacc
  obtain ⟨J, rfl, hJ, ⟨rfl, rfl⟩ | ⟨J1, tail, rfl, rfl, htl⟩⟩ := hS
  · have e : lengthA l = (0, false, 66) := by unfold lengthA; rw [if_neg h0, hacc]
    simp
    exact aPost_same hB rfl (nilV_refl _) (by simp) (fin _ e)
  cases acc with
  | nil =>
    have e : lengthA l = (0, false, 66) := by unfold lengthA; rw [if_neg h0, hacc]
    simp
    exact aPost_same hB rfl (nilV_refl _) (by simp) (fin _ e)
  | cons w ws =>
    have e : lengthA l = if decA w < 0 ∨ (ws.all fun y => decide (decA y = decA w)) = false then (0, false, 66) else (decA w, true, 0) := by unfold lengthA; rw [if_neg h0, hacc]
    obtain ⟨acc, ha⟩ : ∃ acc, w :: ws = acc := ⟨_, rfl⟩
    have hal : 0 < acc.length := by rw [← ha]; simp
    have ha0 : acc[0]? = some w := by rw [← ha]; rfl
    rw [ha] at hlen hmem hJ htl hacc
    have hlz : ((acc.length : Int) == 0) = false := by rw [beq_eq_false_iff_ne]; omega
    rw [ha]
    simp [hlz]
    refine VL_go (lenInv acc (H.length + J1.length) (acc.length + tail.length) (H ++ (J1 ++ [strL acc ++ tail]))) (fun fr _ => acc.length - (ai (aget fr 30)).toNat) ⟨rfl, 0, 0, by omega, .inl ⟨rfl, rfl⟩, by omega, fr_intro (by simp)⟩ ?_
    rintro fr H' ⟨rfl, i, m, hi, hok, hm, x, rfl⟩
    by_cases h : i < acc.length
    · obtain ⟨u, hu⟩ : ∃ u, acc[i]? = some u := ⟨_, List.getElem?_eq_getElem h⟩
      have hul := hmem u (List.mem_of_getElem? hu)
      have hget : ∀ r : List AV, (H ++ (J1 ++ [r]))[H.length + J1.length]? = some r := fun r => by rw [← List.append_assoc, List.getElem?_append_right (by simp)]; simp
      have hat : (strL acc ++ tail)[i]? = some (.str u) := by
        rw [List.getElem?_append_left (by rw [strL_length]; exact h)]
        unfold strL
        rw [List.getElem?_map, hu]; rfl
      have hw : IntKind.i64.wrap ((i : Int) + 1) = i + 1 := wrap_in (by omega) (by omega)
      have hrng := dec_rng u
      have hwm : ¬ m < -9223372036854775808 := by rcases hok with ⟨_, h⟩ | ⟨_, h, _⟩ <;> omega
      have hwA : decA w < 0 ∨ (ws.all fun y => decide (decA y = decA w)) = false ∨ ∀ y ∈ acc, decA y = decA w := by
        by_cases h2 : (ws.all fun y => decide (decA y = decA w)) = false
        · exact .inr (.inl h2)
        · refine .inr (.inr (fun y hy => ?_))
          rw [← ha] at hy
          rcases List.mem_cons.1 hy with rfl | hy
          · rfl
          · rw [Bool.not_eq_false] at h2
            have := List.all_eq_true.1 h2 y hy
            simpa using this
      have hbad : (decA u < 0 ∨ (0 < i ∧ decA u ≠ m)) → lengthA l = (0, false, 66) := fun hb => by
        rw [e]
        apply if_pos
        rcases hwA with h | h | h
        · exact .inl h
        · exact .inr h
        · left
          have h1 := h u (List.mem_of_getElem? hu)
          rcases hb with hb | ⟨hb, hne⟩
          · omega
          · exfalso
            rcases hok with ⟨h0, _⟩ | ⟨_, _, h3⟩
            · omega
            · have h4 := h3 w (List.mem_of_getElem? (by rw [List.getElem?_take_of_lt hb]; exact ha0))
              omega
      simp [h, hget, hat]
      refine decimal_pc E _ _ u 1099511627776 (by simp only [cap]; omega) (by omega) (by omega) ?_
      by_cases hd : (numAns 10 1099511627776 u).2 = 0
      · have hdA := decA_ok hd
        by_cases hi0 : i = 0
        · subst hi0
          have hw0 : IntKind.i64.wrap 1 = 1 := by decide
          simp [hd, hw0]
          refine Kloop_normal ⟨rfl, 1, _, by omega, .inr ⟨by omega, hrng.1, fun y hy => ?_⟩, hrng.2, fr_intro (by simp)⟩ (by simp; omega)
          have : acc.take 1 = [u] := by
            rw [show (1 : Nat) = 0 + 1 from rfl, List.take_add_one, hu]; simp
          rw [this] at hy
          simp at hy
          subst hy
          exact hdA
        · have hig : 0 < i := by omega
          by_cases hne : (numAns 10 1099511627776 u).1 = m
          · simp [hd, hig, hne, hw]
            refine Kloop_normal ⟨rfl, i + 1, m, by omega, .inr ⟨by omega, by rw [← hne]; exact hrng.1, fun y hy => ?_⟩, hm, fr_intro (by simp)⟩ (by simp; omega)
            rw [List.take_add_one, hu] at hy
            rcases List.mem_append.1 hy with hy | hy
            · rcases hok with ⟨h0, _⟩ | ⟨_, _, h3⟩
              · omega
              · exact h3 y hy
            · simp at hy
              subst hy
              rw [hdA, hne]
          · have hne2 : ((numAns 10 1099511627776 u).1 != m) = true := by simpa using hne
            simp [hd, hig, hne2]
            exact aPost_same hB rfl (nilV_refl _) (by simp) (fin _ (hbad (.inr ⟨hig, by rw [hdA]; exact hne⟩)))
      · have hd2 : ((numAns 10 1099511627776 u).2 != 0) = true := by simpa using hd
        simp [hd2]
        exact aPost_same hB rfl (nilV_refl _) (by simp) (fin _ (hbad (.inl (by rw [decA_bad hd]; omega))))
    · obtain rfl : i = acc.length := by omega
      have hres : lengthA l = (m, true, 0) := by
        rcases hok with ⟨h0, _⟩ | ⟨_, h2, h3⟩
        · omega
        · rw [List.take_of_length_le (Nat.le_refl _)] at h3
          have hw0 := h3 w (List.mem_of_getElem? ha0)
          rw [e, if_neg, hw0]
          intro hb
          rcases hb with hb | hb
          · omega
          · rw [List.all_eq_false] at hb
            obtain ⟨y, hy, hy2⟩ := hb
            have := h3 y (by rw [← ha]; exact List.mem_cons_of_mem _ hy)
            exact hy2 (by rw [this, hw0]; simp)
      simp
      exact aPost_same hB rfl (nilV_refl _) (by simp) (fin _ hres)
theorem codings_pc (hE : SE E) (l : List Fld) (hl : fsz l + l.length ≤ 4194304) (hQ : Q (.tup [.sl false 1 (strs (codingsA l).1), .bool (codingsA l).2.1, .int .i64 (codingsA l).2.2]) H) : PC Tryz.prog E 141 [.sl false 2 (flds l)] H Q := by
  refine pc_enter Tryz.func141 rfl [] [] (by kernel_rfl) (fun hB => ?_)
  have fin : ∀ a : List (List UInt8) × Bool × Int, codingsA l = a → Q (.tup [.sl false 1 (strs a.1), .bool a.2.1, .int .i64 a.2.2]) H := fun a ha => ha ▸ hQ
  have hcn : nTE.length ≤ cap := by simp [nTE, cap]
  simp [Tryz.ntmps141, Tryz.results141, List.replicate_succ]
  refine all_pc E _ _ l nTE (by omega) hcn ?_
  by_cases h0 : allB l nTE = []
  · have e : codingsA l = ([], false, 0) := by unfold codingsA; rw [if_pos h0]
    have hs0 : strs ([] : List (List UInt8)) = [] := rfl
    simp [h0, hs0]
    exact aPost_same0 hB (v0 := .tup [.nil, .bool false, .int .i64 0]) (by simp) (nilV_tup3 1 _ _ rfl rfl) (by simp) (fin _ e)
  have h0' : (((allB l nTE).length : Int) == 0) = false := by
    rw [beq_eq_false_iff_ne]
    intro e
    exact h0 (List.length_eq_zero_iff.1 (by omega))
  simp [h0']
  refine tokens_pc E _ _ hE l nTE hl hcn ?_
  by_cases he : (toksA l nTE).2 = 0
  · have e : codingsA l = ((toksA l nTE).1, true, 0) := by unfold codingsA; rw [if_neg h0, if_pos he]
    simp [he]
    exact aPost_same0 hB (v0 := .tup [.sl false 1 (strs (toksA l nTE).1), .bool true, .int .i64 0]) (by simp) (nilV_refl _) (by simp [bnd_strs]) (fin _ e)
  · have e : codingsA l = ([], false, 67) := by unfold codingsA; rw [if_neg h0, if_neg he]
    have he2 : ((toksA l nTE).2 != 0) = true := by simpa using he
    simp [he2]
    exact aPost_same0 hB (v0 := .tup [.nil, .bool false, .int .i64 67]) (by simp) (nilV_tup3 1 _ _ rfl rfl) (by simp) (fin _ e)
theorem persist_pc (hE : SE E) (l : List Fld) (old : Bool) (hl : fsz l + l.length ≤ 4194304) (hQ : Q (.bool (persistA l old)) H) : PC Tryz.prog E 113 [.sl false 2 (flds l), .bool old] H Q := by
  refine pc_enter Tryz.func113 rfl [] [] (by kernel_rfl) (fun hB => ?_)
  have hcn : nCO.length ≤ cap := by simp [nCO, cap]
  have fin : ∀ a : Bool, persistA l old = a → Q (.bool a) H := fun a ha => ha ▸ hQ
  have hcl : low vClose = vClose := by decide
  have hka : low vKeep = vKeep := by decide
  simp [Tryz.ntmps113, Tryz.results113, List.replicate_succ]
  refine tokens_pc E _ _ hE l nCO hl hcn ?_
  by_cases he : (toksA l nCO).2 = 0
  · simp [he]
    refine has_pc E _ _ hE l nCO vClose hl hcn (by simp [vClose, cap]) ?_
    have h1 : hasA l nCO vClose = (toksA l nCO).1.contains vClose := by unfold hasA; rw [he, hcl]; simp
    rw [h1]
    cases hc : (toksA l nCO).1.contains vClose with
    | true =>
      simp
      exact aPost_same0 hB rfl (nilV_refl _) (by simp) (fin _ (by unfold persistA; rw [hc]; simp))
    | false =>
      cases old with
      | false =>
        simp
        exact aPost_same0 hB rfl (nilV_refl _) (by simp) (fin _ (by unfold persistA; rw [hc, he]; simp))
      | true =>
        simp
        refine has_pc E _ _ hE l nCO vKeep hl hcn (by simp [vKeep, cap]) ?_
        have h2 : hasA l nCO vKeep = (toksA l nCO).1.contains vKeep := by unfold hasA; rw [he, hka]; simp
        rw [h2]
        simp
        exact aPost_same0 hB rfl (nilV_refl _) (by simp) (fin _ (by unfold persistA; rw [hc, he]; simp))
  · have he2 : ((toksA l nCO).2 != 0) = true := by simpa using he
    simp [he2]
    exact aPost_same0 hB rfl (nilV_refl _) (by simp) (fin _ (by unfold persistA; rw [decide_eq_false he]; rfl))
theorem codA_len (l : List Fld) (hl : fsz l + l.length ≤ 4194304) : (codingsA l).1.length ≤ 4194304 := by
  have := toksA_len l nTE
  unfold codingsA
  split
  · simp
  · split
    · simp only; omega
    · simp
theorem framing_of {l : List Fld} {old : Bool} {cs : List (List UInt8)} {cd : Bool} {ce n : Int} {tl : Bool} {f : Int} (h1 : codingsA l = (cs, cd, ce)) (h2 : lengthA l = (n, tl, f)) :
    framingA l old = if ce ≠ 0 ∨ (cd = true ∧ (old = true ∨ cs ≠ [vChunked])) then (0, 0, 67) else if f ≠ 0 then (0, 0, f) else if cd = true ∧ tl = true then (0, 0, 68) else if cd = true then (2, 0, 0) else if tl = true then (1, n, 0) else (0, 0, 0) := by
  unfold framingA
  rw [h1, h2]
set_option maxHeartbeats 1000000 in
theorem framing_pc (hE : SE E) (l : List Fld) (old : Bool) (hl : fsz l + l.length ≤ 4194304) (hQ : Q (.tup [.agg [.int .i64 (framingA l old).1, .int .i64 (framingA l old).2.1], .int .i64 (framingA l old).2.2]) H) : PC Tryz.prog E 112 [.sl false 2 (flds l), .bool old] H Q := by
  have fin : ∀ a : Int × Int × Int, framingA l old = a → Q (.tup [.agg [.int .i64 a.1, .int .i64 a.2.1], .int .i64 a.2.2]) H := fun a ha => ha ▸ hQ
  have hcl := codA_len l hl
  refine pc_enter Tryz.func112 rfl [] [] (by kernel_rfl) (fun hB => ?_)
  simp [Tryz.ntmps112, Tryz.results112, List.replicate_succ]
  refine codings_pc E _ _ hE l hl ?_
  simp
  refine length_pc E _ _ l hl ?_
  obtain ⟨⟨cs, cd, ce⟩, hC⟩ : ∃ c, codingsA l = c := ⟨_, rfl⟩
  obtain ⟨⟨n, tl, f⟩, hL⟩ : ∃ c, lengthA l = c := ⟨_, rfl⟩
  have hF := framing_of (old := old) hC hL
  rw [hC] at hcl
  rw [hC, hL]
  simp only at hcl ⊢
  have hce : (ce != 0) = decide (ce ≠ 0) := by rw [Bool.eq_iff_iff]; simp
  have hfe : (f != 0) = decide (f ≠ 0) := by rw [Bool.eq_iff_iff]; simp
  by_cases h1 : ce = 0
  rotate_left
  · rw [if_pos (.inl h1)] at hF
    have h1' : (ce != 0) = true := by simpa using h1
    simp [h1']
    exact aPost_same hB (v0 := .tup [.agg [.int .i64 0, .int .i64 0], .int .i64 67]) (by simp) (nilV_refl _) (by simp) (fin _ hF)
  subst h1
  cases cd with
  | true =>
    cases old with
    | true =>
      rw [if_pos (.inr ⟨rfl, .inl rfl⟩)] at hF
      simp
      exact aPost_same hB (v0 := .tup [.agg [.int .i64 0, .int .i64 0], .int .i64 67]) (by simp) (nilV_refl _) (by simp) (fin _ hF)
    | false =>
      by_cases h2 : cs = [vChunked]
      · subst h2
        rw [if_neg (by simp)] at hF
        have hat : lat (strs [vChunked]) 0 = some [.str vChunked] := rfl
        have hv : (vChunked != [99, 104, 117, 110, 107, 101, 100]) = false := by decide
        by_cases h3 : f = 0
        · subst h3
          rw [if_neg (by simp)] at hF
          cases tl with
          | true =>
            rw [if_pos ⟨rfl, rfl⟩] at hF
            simp [hat, hv]
            exact aPost_same hB (v0 := .tup [.agg [.int .i64 0, .int .i64 0], .int .i64 68]) (by simp) (nilV_refl _) (by simp) (fin _ hF)
          | false =>
            rw [if_neg (by simp), if_pos rfl] at hF
            simp [hat, hv]
            exact aPost_same hB (v0 := .tup [.agg [.int .i64 2, .int .i64 0], .int .i64 0]) (by simp) (nilV_refl _) (by simp) (fin _ hF)
        · rw [if_pos h3] at hF
          have h3' : (f != 0) = true := by simpa using h3
          simp [hat, hv, h3']
          exact aPost_same hB (v0 := .tup [.agg [.int .i64 0, .int .i64 0], .int .i64 f]) (by simp) (nilV_refl _) (by simp) (fin _ hF)
      · rw [if_pos (.inr ⟨rfl, .inr h2⟩)] at hF
        match cs, h2 with
        | [], _ =>
          simp
          exact aPost_same hB (v0 := .tup [.agg [.int .i64 0, .int .i64 0], .int .i64 67]) (by simp) (nilV_refl _) (by simp) (fin _ hF)
        | [c], h2 =>
          have hat : lat (strs [c]) 0 = some [.str c] := rfl
          have hv : (c != [99, 104, 117, 110, 107, 101, 100]) = true := by simpa [vChunked] using h2
          simp [hat, hv]
          exact aPost_same hB (v0 := .tup [.agg [.int .i64 0, .int .i64 0], .int .i64 67]) (by simp) (nilV_refl _) (by simp) (fin _ hF)
        | c :: d :: r, _ =>
          have hl : ((r.length : Int) + 1 + 1 != 1) = true := by rw [bne_iff_ne]; omega
          simp [hl]
          exact aPost_same hB (v0 := .tup [.agg [.int .i64 0, .int .i64 0], .int .i64 67]) (by simp) (nilV_refl _) (by simp) (fin _ hF)
  | false =>
    by_cases h3 : f = 0
    · subst h3
      cases tl with
      | true =>
        rw [if_neg (by simp), if_neg (by simp), if_neg (by simp), if_neg (by simp), if_pos rfl] at hF
        simp
        exact aPost_same hB (v0 := .tup [.agg [.int .i64 1, .int .i64 n], .int .i64 0]) (by simp) (nilV_refl _) (by simp) (fin _ hF)
      | false =>
        rw [if_neg (by simp), if_neg (by simp), if_neg (by simp), if_neg (by simp), if_neg (by simp)] at hF
        simp
        exact aPost_same hB (v0 := .tup [.agg [.int .i64 0, .int .i64 0], .int .i64 0]) (by simp) (nilV_refl _) (by simp) (fin _ hF)
    · rw [if_neg (by simp), if_pos h3] at hF
      have h3' : (f != 0) = true := by simpa using h3
      simp [h3']
      exact aPost_same hB (v0 := .tup [.agg [.int .i64 0, .int .i64 0], .int .i64 f]) (by simp) (nilV_refl _) (by simp) (fin _ hF)
end
end Go.Proofs.YtcdkcaocfioigaaGreatDoor

set_option linter.unusedVariables false
set_option linter.unnecessarySimpa false
set_option linter.unusedSimpArgs false
set_option linter.unusedSectionVars false
set_option maxRecDepth 100000
namespace Go.Proofs.YtcdkcaocfioigaaGreatDoor
open Go Go.RowKit Go.Proofs

theorem chop_u8 (out : List UInt8) (tail : List AV) : chop 1 out.length (u8L out ++ tail) = bts out := by
  rw [chop_one _ _ (by simp), List.take_append_of_le_length (by simp), List.take_of_length_le (by simp)]
  unfold u8L bts
  rw [List.map_map]
  rfl
theorem piecesB_cons {b : List UInt8} (h : b ≠ []) (n : Int) (ns : List Int) : piecesB b (n :: ns) = b.take n.toNat :: piecesB (b.drop n.toNat) ns := by rw [piecesB, if_neg h]
theorem piecesB_last {b : List UInt8} (h : b ≠ []) : piecesB b [] = [b] := by rw [piecesB, if_neg h]
theorem chunksT_cons (p : List UInt8) (ps : List (List UInt8)) : chunksT (p :: ps) = chunkT p ++ chunksT ps := by simp [chunksT]
section
variable (E : Env) (H : Hp) (Q : AV → Hp → Prop)
def encInv1 (body : List UInt8) (ns : List Int) (ts : List Fld) (H : Hp) (fr : List AV) (H' : Hp) : Prop := H' = H ∧ ∃ i : Nat, i ≤ ns.length ∧ okSizes (ns.take i) = true ∧
  ∃ x : Nat → AV, fr = [.str body, .sl false 1 (ints ns), .sl false 2 (flds ts), x 3, x 4, x 5, x 6, x 7, x 8, x 9, x 10, x 11, x 12, x 13, x 14, x 15, x 16, x 17, .sl false 1 (ints ns), .int .i64 ns.length, .int .i64 i, x 21, x 22, x 23, x 24, x 25, x 26, x 27, x 28, x 29, x 30, x 31, x 32, x 33, x 34, x 35, x 36, x 37, x 38, x 39, x 40, x 41, x 42, x 43, x 44, x 45, x 46, x 47, x 48, x 49, x 50, x 51, x 52, x 53, x 54, x 55, x 56, x 57, x 58, x 59, x 60, x 61, x 62, x 63, x 64, x 65, x 66, x 67, x 68, x 69, x 70, x 71, x 72, x 73, x 74, x 75, x 76, x 77, x 78, x 79, x 80, x 81, x 82]
def encInv2 (body : List UInt8) (ns : List Int) (ts : List Fld) (H : Hp) (fr : List AV) (H' : Hp) : Prop := ∃ (J2 : Hp) (i : Nat), i ≤ ts.length ∧ H' = H ++ ([.bl TB, .bf TU (linesT (ts.take i))] :: J2) ∧ (∀ l ∈ J2, ∀ x ∈ l, ∃ s, x = .str s) ∧ (ts.take i).all rightB = true ∧
  ∃ x : Nat → AV, fr = [.str body, .sl false 1 (ints ns), x 2, x 3, x 4, x 5, x 6, x 7, x 8, x 9, .ptr (some (H.length, 0)), x 11, x 12, x 13, x 14, x 15, x 16, x 17, x 18, x 19, x 20, x 21, x 22, x 23, x 24, x 25, x 26, .sl false 2 (flds ts), .int .i64 ts.length, .int .i64 i, x 30, x 31, x 32, x 33, x 34, x 35, x 36, x 37, x 38, x 39, x 40, x 41, x 42, x 43, x 44, x 45, x 46, x 47, x 48, x 49, x 50, x 51, x 52, x 53, x 54, x 55, x 56, x 57, x 58, x 59, x 60, x 61, x 62, x 63, x 64, x 65, x 66, x 67, x 68, x 69, x 70, x 71, x 72, x 73, x 74, x 75, x 76, x 77, x 78, x 79, x 80, x 81, x 82]
def encInv3 (body : List UInt8) (ns : List Int) (H0 : Hp) (hn : Nat) (fr : List AV) (H' : Hp) : Prop := ∃ (i : Nat) (b out : List UInt8) (v : AV), i ≤ ns.length ∧ OutAt H0 v out H' ∧ out ++ chunksT (piecesB b (ns.drop i)) = chunksT (piecesB body ns) ∧ b.length ≤ body.length ∧
  ∃ x : Nat → AV, fr = [.str b, x 1, x 2, x 3, x 4, x 5, x 6, x 7, x 8, x 9, .ptr (some (hn, 0)), x 11, x 12, x 13, x 14, v, x 16, x 17, x 18, x 19, x 20, x 21, x 22, x 23, x 24, x 25, x 26, x 27, x 28, x 29, x 30, x 31, x 32, x 33, x 34, x 35, x 36, x 37, x 38, x 39, x 40, x 41, x 42, x 43, x 44, x 45, x 46, x 47, x 48, x 49, .sl false 1 (ints ns), .int .i64 ns.length, .int .i64 i, x 53, x 54, x 55, x 56, x 57, x 58, x 59, x 60, x 61, x 62, x 63, x 64, x 65, x 66, x 67, x 68, x 69, x 70, x 71, x 72, x 73, x 74, x 75, x 76, x 77, x 78, x 79, x 80, x 81, x 82]
theorem outAt_free {H0 : Hp} {v : AV} {out : List UInt8} {H : Hp} (h : OutAt H0 v out H) : v.free = true ∧ v.dis = v := by
  obtain ⟨J, _, _, ⟨rfl, _⟩ | ⟨J1, tail, _, rfl, _⟩⟩ := h <;> exact ⟨rfl, rfl⟩
set_option maxHeartbeats 4000000 in
theorem encode_pc (hE : SZ E) (body : List UInt8) (ns : List Int) (ts : List Fld) (hb : body.length ≤ 1048576) (hn : ns.length ≤ 1048577) (ht : fsz ts + ts.length ≤ 1048577) (hr : ∀ z ∈ ns, -9223372036854775808 ≤ z ∧ z ≤ 9223372036854775807)
    (hQ : Q (.tup [.str (encAns body ns ts).1, .int .i64 (encAns body ns ts).2]) H) : PC Tryz.prog E 54 [.str body, .sl false 1 (ints ns), .sl false 2 (flds ts)] H Q := by
  refine pc_enterZ Tryz.func54 rfl [] [(7, [3]), (27, [5, H.length])] (by kernel_rfl) (fun id m hm => ?_) (fun hB => ?_)
  · unfold ndOf at hm
    split at hm
    · cases hm
    · unfold ndOf at hm
      split at hm
      · cases hm; exact Nat.le_refl _
      · cases hm
  simp [Tryz.ntmps54, Tryz.results54, List.replicate_succ]
  refine VL_go (encInv1 body ns ts H) (fun fr _ => ns.length - (ai (aget fr 20)).toNat) ⟨rfl, 0, by omega, rfl, fr_intro (by simp)⟩ ?_
  rintro fr H' ⟨rfl, i, hi, hall, x, rfl⟩
  by_cases h : i < ns.length
  · obtain ⟨z, hz⟩ : ∃ z, ns[i]? = some z := ⟨_, List.getElem?_eq_getElem h⟩
    have hat := ints_at hz
    have hw : IntKind.i64.wrap ((i : Int) + 1) = i + 1 := wrap_in (by omega) (by omega)
    have hst : okSizes (ns.take (i + 1)) = (okSizes (ns.take i) && decide (1 ≤ z)) := by
      unfold okSizes
      rw [List.take_add_one, hz, List.all_append]; simp
    by_cases hz1 : z < 1
    · have e : encAns body ns ts = ([], 1) := by
        unfold encAns
        rw [if_pos]
        unfold okSizes
        rw [List.all_eq_false]
        exact ⟨z, List.mem_of_getElem? hz, by simp; omega⟩
      rw [e] at hQ
      simp [h, hat, hz1]
      exact aPost_same0 hB rfl (nilV_refl _) (by simp) hQ
    · simp [h, hat, hz1, hw]
      exact Kloop_normal ⟨rfl, i + 1, by omega, by rw [hst, hall]; simp; omega, fr_intro (by simp)⟩ (by simp; omega)
  obtain rfl : i = ns.length := by omega
  rw [List.take_of_length_le (Nat.le_refl _)] at hall
  have hns : ∀ z ∈ ns, 1 ≤ z := fun z hz => by have := List.all_eq_true.1 hall z hz; simpa using this
  clear hi h
  simp
  refine VL_go (encInv2 body ns ts H') (fun fr _ => ts.length - (ai (aget fr 29)).toNat) ⟨[], 0, by omega, by simp [linesT], by simp, by simp, fr_intro (by simp)⟩ ?_
  rintro fr H2 ⟨J2, i, hi, rfl, hJ2, hts, x, rfl⟩
  have hlin := linesT_le (ts.take i)
  have hsz := fsz_take ts i
  rw [List.length_take] at hlin
  by_cases h : i < ts.length
  · obtain ⟨f, hf⟩ : ∃ f, ts[i]? = some f := ⟨_, List.getElem?_eq_getElem h⟩
    have hat := flds_at hf
    have hfm := fsz_mem hf
    have hw : IntKind.i64.wrap ((i : Int) + 1) = i + 1 := wrap_in (by omega) (by omega)
    have hstop : rightB f = false → encAns body ns ts = ([], 101) := fun hr => by
      unfold encAns
      rw [if_neg (by rw [hall]; simp), if_pos]
      rw [List.all_eq_false]
      exact ⟨f, List.mem_of_getElem? hf, by rw [hr]; simp⟩
    simp [h, hat]
    refine printLine_pc E _ _ hE.1 f (by omega) (by omega) ?_
    cases hnm : nameB f.name with
    | false =>
      have e : lineP f = ([], 60) := by unfold lineP; rw [if_pos hnm]
      have hq := hstop (by unfold rightB mayB; rw [hnm]; simp)
      rw [hq] at hQ
      simp [e]
      exact aPost_same hB rfl (nilV_refl _) (by simp) hQ
    | true =>
    cases hvl : valueB f.value with
    | false =>
      have e : lineP f = ([], 61) := by unfold lineP; rw [if_neg (by rw [hnm]; simp), if_pos hvl]
      have hq := hstop (by unfold rightB; rw [hvl]; simp)
      rw [hq] at hQ
      simp [e]
      exact aPost_same hB rfl (nilV_refl _) (by simp) hQ
    | true =>
    have e : lineP f = (lineT f, 0) := by unfold lineP; rw [if_neg (by rw [hnm]; simp), if_neg (by rw [hvl]; simp)]
    have hlt := lineT_le f
    simp [e]
    refine mayTrail_pc E _ _ hE.1 f.name (by simp only [cap]; omega) ?_
    cases hmy : mayB f.name with
    | false =>
      have hq := hstop (by unfold rightB; rw [hmy]; simp)
      rw [hq] at hQ
      simp
      exact aPost_same hB rfl (nilV_refl _) (by simp) hQ
    | true =>
    have hrt : rightB f = true := by unfold rightB; rw [hmy, hvl]; rfl
    have m1 : (lineT f).length + 1 + 1 ≤ maxLen := by unfold maxLen; omega
    have m2 : (lineT f).length + 2 ≤ maxLen := by unfold maxLen; omega
    simp [m1, m2]
    refine wstr_pc E _ _ H'.length (linesT (ts.take i)) (lineT f ++ [13, 10]) (by simp) (by simp; omega) ?_
    rw [← linesT_step ts i f hf]
    simp [hw]
    refine Kloop_normal ⟨J2 ++ [[.str f.name, .str f.value]], i + 1, by omega, by simp, fun l hl y hy => ?_, ?_, fr_intro (by simp)⟩ (by simp; omega)
    · rcases List.mem_append.1 hl with h | h
      · exact hJ2 l h y hy
      · simp at h; subst h; simp at hy; rcases hy with rfl | rfl <;> exact ⟨_, rfl⟩
    · rw [all_step rightB ts i f hf, hts, hrt]; rfl
  obtain rfl : i = ts.length := by omega
  rw [List.take_of_length_le (Nat.le_refl _)] at hts hlin ⊢
  have he : encAns body ns ts = (encT (piecesB body ns) ts, 0) := by
    unfold encAns
    rw [if_neg (by rw [hall]; simp), if_neg (by rw [hts]; simp)]
  rw [he] at hQ
  simp only at hQ
  clear hi h he hall hts
  obtain ⟨H0, hH0⟩ : ∃ H0, H' ++ ([.bl TB, .bf TU (linesT ts)] :: J2) = H0 := ⟨_, rfl⟩
  have hbl : ∀ J : Hp, (H0 ++ J)[H'.length]? = some [.bl TB, .bf TU (linesT ts)] := fun J => by rw [← hH0]; simp
  have hlH : H'.length < H0.length := by rw [← hH0]; simp
  have hBH : ∀ N, H0.length ≤ N → ∀ l ∈ H0, ∀ y ∈ l, Bnd N y := fun N hN l hl y hy => by
    rw [← hH0] at hl
    rcases List.mem_append.1 hl with h | h
    · exact (hB l h y hy).mono (by omega)
    · rcases List.mem_cons.1 h with rfl | h
      · simp at hy; rcases hy with rfl | rfl
        · exact .bl _
        · exact .bf _ _
      · obtain ⟨s, rfl⟩ := hJ2 l h y hy; exact .str _
  have hpf : (piecesB body ns).flatten = body := pieces_flat ns body
  have htot := chunksT_le (piecesB body ns) (pieces_ne ns body hns) (by rw [hpf]; omega)
  rw [hpf] at htot
  rw [hH0]
  simp
  refine VL_go (encInv3 body ns H0 H'.length) (fun fr _ => ns.length - (ai (aget fr 52)).toNat) ⟨0, body, [], .nil, by omega, ⟨[], by simp, by simp, .inl ⟨rfl, rfl⟩⟩, by simp, by omega, fr_intro (by simp)⟩ ?_
  rintro fr H3 ⟨i, b, out, v, hi, hO, hsum, hbl2, x, rfl⟩
  have hol : out.length ≤ 16 * body.length := by
    have := congrArg List.length hsum
    rw [List.length_append] at this
    omega
  obtain ⟨hvf, hvd⟩ := outAt_free hO
  by_cases h : i < ns.length
  · obtain ⟨z, hz⟩ : ∃ z, ns[i]? = some z := ⟨_, List.getElem?_eq_getElem h⟩
    have hat := ints_at hz
    have hz1 := hns z (List.mem_of_getElem? hz)
    have hw : IntKind.i64.wrap ((i : Int) + 1) = i + 1 := wrap_in (by omega) (by omega)
    have hdrop : ns.drop i = z :: ns.drop (i + 1) := by rw [List.drop_eq_getElem_cons h]; simp [(List.getElem?_eq_some_iff.1 hz).2]
    rw [hdrop] at hsum
    by_cases hb0 : b = []
    · subst hb0
      simp [h, hat, hw]
      exact Kloop_normal ⟨i + 1, [], out, v, by omega, hO, by rw [← hsum, pieces_nil, pieces_nil], by simp, fr_intro (by simp)⟩ (by simp; omega)
    · have hb1 : (b != []) = true := by simpa using hb0
      obtain ⟨m, hm⟩ : ∃ m : Nat, (if (b.length : Int) < z then (b.length : Int) else z) = m := ⟨(if (b.length : Int) < z then (b.length : Int) else z).toNat, by split <;> omega⟩
      have hml : m ≤ b.length := by split at hm <;> omega
      have htk : b.take m = b.take z.toNat := by
        split at hm
        · rw [List.take_of_length_le (by omega), List.take_of_length_le (by omega)]
        · rw [show m = z.toNat by omega]
      have hdk : b.drop m = b.drop z.toNat := by
        split at hm
        · rw [List.drop_of_length_le (by omega), List.drop_of_length_le (by omega)]
        · rw [show m = z.toNat by omega]
      have hsum2 : (out ++ chunkT (b.take m)) ++ chunksT (piecesB (b.drop m) (ns.drop (i + 1))) = chunksT (piecesB body ns) := by
        rw [← hsum, htk, hdk, piecesB_cons hb0, chunksT_cons, List.append_assoc]
      simp [h, hat, hb1, hm, hml, hvd]
      refine put_pc E _ _ hE H0 v out (b.take m) hO (by rw [List.length_take]; omega) (by omega) (fun v' H4 hO' => ?_)
      obtain ⟨hvf', hvd'⟩ := outAt_free hO'
      have htl : (b.drop m).take (b.length - m) = b.drop m := List.take_of_length_le (by rw [List.length_drop]; omega)
      simp [hml, hvd', hw, htl]
      exact Kloop_normal ⟨i + 1, b.drop m, out ++ chunkT (b.take m), v', by omega, hO', hsum2, by rw [List.length_drop]; omega, fr_intro (by simp)⟩ (by simp; omega)
  obtain rfl : i = ns.length := by omega
  rw [List.drop_of_length_le (Nat.le_refl _)] at hsum
  simp
  have fin : ∀ (x : Nat → AV) (b : List UInt8) (v : AV) (H4 : Hp), OutAt H0 v (chunksT (piecesB body ns)) H4 → vc Tryz.prog E [] [(7, [3]), (27, [5, H'.length])] (Code.skip) (fun _ _ _ => True) [] [] := fun _ _ _ _ _ => trivial
  have hm1 : (chunksT (piecesB body ns)).length + 1 ≤ maxLen := by unfold maxLen; omega
  have hm2 : (chunksT (piecesB body ns)).length + 1 + 2 ≤ maxLen := by unfold maxLen; omega
  have hm3 : (chunksT (piecesB body ns)).length + 1 + 2 + (linesT ts).length ≤ maxLen := by unfold maxLen; omega
  have hm4 : (chunksT (piecesB body ns)).length + 1 + 2 + (linesT ts).length + 2 ≤ maxLen := by unfold maxLen; omega
  clear fin
  by_cases hb0 : b = []
  case' pos =>
    subst hb0
    rw [pieces_nil] at hsum
    have hO2 : OutAt H0 v (chunksT (piecesB body ns)) H3 := by
      have : out = chunksT (piecesB body ns) := by rw [← hsum]; simp [chunksT]
      rw [← this]; exact hO
    simp
    clear hO hsum hol hi hbl2
  case' neg =>
    have hb1 : (b != []) = true := by simpa using hb0
    simp [hb1, hvd]
    refine put_pc E _ _ hE H0 v out b hO (by omega) (by omega) (fun v' H4 hO' => ?_)
    obtain ⟨hvf', hvd'⟩ := outAt_free hO'
    have hO2 : OutAt H0 v' (chunksT (piecesB body ns)) H4 := by
      have : out ++ chunkT b = chunksT (piecesB body ns) := by rw [← hsum, piecesB_last hb0, chunksT_cons]; simp [chunksT]
      rw [← this]; exact hO'
    simp [hvd']
    clear hO hO' hsum hol hi hbl2 hvf hvd hb0 hb1 hvf' hvd'
  all_goals
    obtain ⟨J, rfl, hJ, ⟨rfl, hnil⟩ | ⟨J1, tail, rfl, rfl, htl⟩⟩ := hO2
    · refine VFz_skip ?_
      rw [hnil] at hm1 hm2 hm3 hm4
      simp at hm1 hm2 hm3 hm4
      simp [hm1, hm2]
      refine bstr_pc E _ _ H'.length (linesT ts) (hbl J) (by omega) ?_
      have n1 : (linesT ts).length + 1 + 1 + 1 + 2 ≤ maxLen := by unfold maxLen; omega
      simp [hm3, hm4, n1]
      rw [← hH0, List.append_assoc]
      have e : encT (piecesB body ns) ts = 48 :: 13 :: 10 :: (linesT ts ++ [13, 10]) := by unfold encT; rw [hnil]; rfl
      rw [e] at hQ
      exact aPost_same hB (by simp) (nilV_refl _) (by simp) hQ
    · refine VFz_intro [10, 15] (H0 ++ J1) (u8L (chunksT (piecesB body ns)) ++ tail) (by simp) (by simp; omega) ?_ ?_ ?_
      · intro l' hl' y hy
        rcases List.mem_append.1 hl' with h | h
        · exact hBH _ (by simp) l' h y hy
        · obtain ⟨z, rfl⟩ := hJ l' (List.mem_append_left _ h) y hy; exact .int _ _
      · intro t ht y hy
        simp at ht
        rcases ht with rfl | rfl
        · simp at hy; subst hy; exact .ptr _ _ (by simp; omega)
        · simp at hy; subst hy
          refine .inr ⟨by simp, by omega, by simp, fun y hy => ?_⟩
          obtain ⟨z, rfl⟩ := hJ (u8L (chunksT (piecesB body ns)) ++ tail) (by simp) y (List.mem_of_mem_drop (List.mem_of_mem_take hy))
          exact ⟨rfl, .int _ _⟩
      · intro y
        simp [fmapK, frz, chop_u8, hm1, hm2]
        refine bstr_pc E _ _ H'.length (linesT ts) (hbl J1) (by omega) ?_
        have n1 : (chunksT (piecesB body ns)).length + ((linesT ts).length + 1 + 1 + 1) + 2 ≤ maxLen := by unfold maxLen; omega
        have n2 : (chunksT (piecesB body ns)).length + ((linesT ts).length + 1 + 1 + 1) ≤ maxLen := by unfold maxLen; omega
        simp [hm3, hm4, n1, n2]
        rw [← hH0, List.append_assoc]
        have e : encT (piecesB body ns) ts = chunksT (piecesB body ns) ++ 48 :: 13 :: 10 :: (linesT ts ++ [13, 10]) := by unfold encT; simp
        rw [e] at hQ
        exact aPost_same hB (by simp) (nilV_refl _) (by simp) hQ
end
end Go.Proofs.YtcdkcaocfioigaaGreatDoor

set_option linter.unusedVariables false
set_option linter.unnecessarySimpa false
set_option linter.unusedSimpArgs false
set_option linter.unusedSectionVars false
set_option maxRecDepth 100000
namespace Go.Proofs.YtcdkcaocfioigaaGreatDoor
open Go Go.RowKit Go.Proofs

theorem beq_rev {s k : Int} (h : (s == k) = false) : (k == s) = false := by
  rw [beq_eq_false_iff_ne] at h ⊢
  exact fun e => h e.symm
section
variable (E : Env) (H : Hp) (Q : AV → Hp → Prop)
theorem serverReason_pc (s : Int) (hQ : Q (.str (serverB s)) H) : PC Tryz.prog E 96 [.int .i64 s] H Q := by
  refine pc_enter Tryz.func96 rfl [] [] (by kernel_rfl) (fun hB => ?_)
  have fin : ∀ t, serverB s = t → Q (.str t) H := fun t ht => ht ▸ hQ
  by_cases h500 : s = 500
  · subst h500
    simp [Tryz.ntmps96, Tryz.results96, List.replicate_succ]
    exact aPost_same0 hB rfl (nilV_refl _) (by simp) (fin _ rfl)
  have b500 : (s == 500) = false := by simpa using h500
  by_cases h501 : s = 501
  · subst h501
    simp [Tryz.ntmps96, Tryz.results96, List.replicate_succ]
    exact aPost_same0 hB rfl (nilV_refl _) (by simp) (fin _ rfl)
  have b501 : (s == 501) = false := by simpa using h501
  by_cases h502 : s = 502
  · subst h502
    simp [Tryz.ntmps96, Tryz.results96, List.replicate_succ]
    exact aPost_same0 hB rfl (nilV_refl _) (by simp) (fin _ rfl)
  have b502 : (s == 502) = false := by simpa using h502
  by_cases h503 : s = 503
  · subst h503
    simp [Tryz.ntmps96, Tryz.results96, List.replicate_succ]
    exact aPost_same0 hB rfl (nilV_refl _) (by simp) (fin _ rfl)
  have b503 : (s == 503) = false := by simpa using h503
  by_cases h504 : s = 504
  · subst h504
    simp [Tryz.ntmps96, Tryz.results96, List.replicate_succ]
    exact aPost_same0 hB rfl (nilV_refl _) (by simp) (fin _ rfl)
  have b504 : (s == 504) = false := by simpa using h504
  by_cases h505 : s = 505
  · subst h505
    simp [Tryz.ntmps96, Tryz.results96, List.replicate_succ]
    exact aPost_same0 hB rfl (nilV_refl _) (by simp) (fin _ rfl)
  have b505 : (s == 505) = false := by simpa using h505
  have e : serverB s = [] := by
    unfold serverB look reasS
    simp [beq_rev b500, beq_rev b501, beq_rev b502, beq_rev b503, beq_rev b504, beq_rev b505]
  simp [Tryz.ntmps96, Tryz.results96, List.replicate_succ, b500, b501, b502, b503, b504, b505]
  exact aPost_same0 hB rfl (nilV_refl _) (by simp) (fin _ e)
theorem wrongReason_pc (s : Int) (hQ : Q (.str (wrongB s)) H) : PC Tryz.prog E 60 [.int .i64 s] H Q := by
  refine pc_enter Tryz.func60 rfl [] [] (by kernel_rfl) (fun hB => ?_)
  have fin : ∀ t, wrongB s = t → Q (.str t) H := fun t ht => ht ▸ hQ
  by_cases h400 : s = 400
  · subst h400
    simp [Tryz.ntmps60, Tryz.results60, List.replicate_succ]
    exact aPost_same0 hB rfl (nilV_refl _) (by simp) (fin _ rfl)
  have b400 : (s == 400) = false := by simpa using h400
  by_cases h401 : s = 401
  · subst h401
    simp [Tryz.ntmps60, Tryz.results60, List.replicate_succ]
    exact aPost_same0 hB rfl (nilV_refl _) (by simp) (fin _ rfl)
  have b401 : (s == 401) = false := by simpa using h401
  by_cases h403 : s = 403
  · subst h403
    simp [Tryz.ntmps60, Tryz.results60, List.replicate_succ]
    exact aPost_same0 hB rfl (nilV_refl _) (by simp) (fin _ rfl)
  have b403 : (s == 403) = false := by simpa using h403
  by_cases h404 : s = 404
  · subst h404
    simp [Tryz.ntmps60, Tryz.results60, List.replicate_succ]
    exact aPost_same0 hB rfl (nilV_refl _) (by simp) (fin _ rfl)
  have b404 : (s == 404) = false := by simpa using h404
  by_cases h405 : s = 405
  · subst h405
    simp [Tryz.ntmps60, Tryz.results60, List.replicate_succ]
    exact aPost_same0 hB rfl (nilV_refl _) (by simp) (fin _ rfl)
  have b405 : (s == 405) = false := by simpa using h405
  by_cases h406 : s = 406
  · subst h406
    simp [Tryz.ntmps60, Tryz.results60, List.replicate_succ]
    exact aPost_same0 hB rfl (nilV_refl _) (by simp) (fin _ rfl)
  have b406 : (s == 406) = false := by simpa using h406
  by_cases h408 : s = 408
  · subst h408
    simp [Tryz.ntmps60, Tryz.results60, List.replicate_succ]
    exact aPost_same0 hB rfl (nilV_refl _) (by simp) (fin _ rfl)
  have b408 : (s == 408) = false := by simpa using h408
  by_cases h411 : s = 411
  · subst h411
    simp [Tryz.ntmps60, Tryz.results60, List.replicate_succ]
    exact aPost_same0 hB rfl (nilV_refl _) (by simp) (fin _ rfl)
  have b411 : (s == 411) = false := by simpa using h411
  by_cases h412 : s = 412
  · subst h412
    simp [Tryz.ntmps60, Tryz.results60, List.replicate_succ]
    exact aPost_same0 hB rfl (nilV_refl _) (by simp) (fin _ rfl)
  have b412 : (s == 412) = false := by simpa using h412
  by_cases h413 : s = 413
  · subst h413
    simp [Tryz.ntmps60, Tryz.results60, List.replicate_succ]
    exact aPost_same0 hB rfl (nilV_refl _) (by simp) (fin _ rfl)
  have b413 : (s == 413) = false := by simpa using h413
  by_cases h414 : s = 414
  · subst h414
    simp [Tryz.ntmps60, Tryz.results60, List.replicate_succ]
    exact aPost_same0 hB rfl (nilV_refl _) (by simp) (fin _ rfl)
  have b414 : (s == 414) = false := by simpa using h414
  by_cases h415 : s = 415
  · subst h415
    simp [Tryz.ntmps60, Tryz.results60, List.replicate_succ]
    exact aPost_same0 hB rfl (nilV_refl _) (by simp) (fin _ rfl)
  have b415 : (s == 415) = false := by simpa using h415
  by_cases h416 : s = 416
  · subst h416
    simp [Tryz.ntmps60, Tryz.results60, List.replicate_succ]
    exact aPost_same0 hB rfl (nilV_refl _) (by simp) (fin _ rfl)
  have b416 : (s == 416) = false := by simpa using h416
  by_cases h417 : s = 417
  · subst h417
    simp [Tryz.ntmps60, Tryz.results60, List.replicate_succ]
    exact aPost_same0 hB rfl (nilV_refl _) (by simp) (fin _ rfl)
  have b417 : (s == 417) = false := by simpa using h417
  by_cases h421 : s = 421
  · subst h421
    simp [Tryz.ntmps60, Tryz.results60, List.replicate_succ]
    exact aPost_same0 hB rfl (nilV_refl _) (by simp) (fin _ rfl)
  have b421 : (s == 421) = false := by simpa using h421
  by_cases h422 : s = 422
  · subst h422
    simp [Tryz.ntmps60, Tryz.results60, List.replicate_succ]
    exact aPost_same0 hB rfl (nilV_refl _) (by simp) (fin _ rfl)
  have b422 : (s == 422) = false := by simpa using h422
  by_cases h426 : s = 426
  · subst h426
    simp [Tryz.ntmps60, Tryz.results60, List.replicate_succ]
    exact aPost_same0 hB rfl (nilV_refl _) (by simp) (fin _ rfl)
  have b426 : (s == 426) = false := by simpa using h426
  by_cases h428 : s = 428
  · subst h428
    simp [Tryz.ntmps60, Tryz.results60, List.replicate_succ]
    exact aPost_same0 hB rfl (nilV_refl _) (by simp) (fin _ rfl)
  have b428 : (s == 428) = false := by simpa using h428
  by_cases h429 : s = 429
  · subst h429
    simp [Tryz.ntmps60, Tryz.results60, List.replicate_succ]
    exact aPost_same0 hB rfl (nilV_refl _) (by simp) (fin _ rfl)
  have b429 : (s == 429) = false := by simpa using h429
  by_cases h431 : s = 431
  · subst h431
    simp [Tryz.ntmps60, Tryz.results60, List.replicate_succ]
    exact aPost_same0 hB rfl (nilV_refl _) (by simp) (fin _ rfl)
  have b431 : (s == 431) = false := by simpa using h431
  have e : wrongB s = serverB s := by
    unfold wrongB look reasW
    simp [beq_rev b400, beq_rev b401, beq_rev b403, beq_rev b404, beq_rev b405, beq_rev b406, beq_rev b408, beq_rev b411, beq_rev b412, beq_rev b413, beq_rev b414, beq_rev b415, beq_rev b416, beq_rev b417, beq_rev b421, beq_rev b422, beq_rev b426, beq_rev b428, beq_rev b429, beq_rev b431]
  simp [Tryz.ntmps60, Tryz.results60, List.replicate_succ, b400, b401, b403, b404, b405, b406, b408, b411, b412, b413, b414, b415, b416, b417, b421, b422, b426, b428, b429, b431]
  refine serverReason_pc E _ _ s ?_
  simp
  exact aPost_same0 hB rfl (nilV_refl _) (by simp) (fin _ e)
theorem reason_pc (s : Int) (hQ : Q (.str (reasonB s)) H) : PC Tryz.prog E 27 [.int .i64 s] H Q := by
  refine pc_enter Tryz.func27 rfl [] [] (by kernel_rfl) (fun hB => ?_)
  have fin : ∀ t, reasonB s = t → Q (.str t) H := fun t ht => ht ▸ hQ
  by_cases h100 : s = 100
  · subst h100
    simp [Tryz.ntmps27, Tryz.results27, List.replicate_succ]
    exact aPost_same0 hB rfl (nilV_refl _) (by simp) (fin _ rfl)
  have b100 : (s == 100) = false := by simpa using h100
  by_cases h101 : s = 101
  · subst h101
    simp [Tryz.ntmps27, Tryz.results27, List.replicate_succ]
    exact aPost_same0 hB rfl (nilV_refl _) (by simp) (fin _ rfl)
  have b101 : (s == 101) = false := by simpa using h101
  by_cases h200 : s = 200
  · subst h200
    simp [Tryz.ntmps27, Tryz.results27, List.replicate_succ]
    exact aPost_same0 hB rfl (nilV_refl _) (by simp) (fin _ rfl)
  have b200 : (s == 200) = false := by simpa using h200
  by_cases h201 : s = 201
  · subst h201
    simp [Tryz.ntmps27, Tryz.results27, List.replicate_succ]
    exact aPost_same0 hB rfl (nilV_refl _) (by simp) (fin _ rfl)
  have b201 : (s == 201) = false := by simpa using h201
  by_cases h202 : s = 202
  · subst h202
    simp [Tryz.ntmps27, Tryz.results27, List.replicate_succ]
    exact aPost_same0 hB rfl (nilV_refl _) (by simp) (fin _ rfl)
  have b202 : (s == 202) = false := by simpa using h202
  by_cases h204 : s = 204
  · subst h204
    simp [Tryz.ntmps27, Tryz.results27, List.replicate_succ]
    exact aPost_same0 hB rfl (nilV_refl _) (by simp) (fin _ rfl)
  have b204 : (s == 204) = false := by simpa using h204
  by_cases h206 : s = 206
  · subst h206
    simp [Tryz.ntmps27, Tryz.results27, List.replicate_succ]
    exact aPost_same0 hB rfl (nilV_refl _) (by simp) (fin _ rfl)
  have b206 : (s == 206) = false := by simpa using h206
  by_cases h301 : s = 301
  · subst h301
    simp [Tryz.ntmps27, Tryz.results27, List.replicate_succ]
    exact aPost_same0 hB rfl (nilV_refl _) (by simp) (fin _ rfl)
  have b301 : (s == 301) = false := by simpa using h301
  by_cases h302 : s = 302
  · subst h302
    simp [Tryz.ntmps27, Tryz.results27, List.replicate_succ]
    exact aPost_same0 hB rfl (nilV_refl _) (by simp) (fin _ rfl)
  have b302 : (s == 302) = false := by simpa using h302
  by_cases h303 : s = 303
  · subst h303
    simp [Tryz.ntmps27, Tryz.results27, List.replicate_succ]
    exact aPost_same0 hB rfl (nilV_refl _) (by simp) (fin _ rfl)
  have b303 : (s == 303) = false := by simpa using h303
  by_cases h304 : s = 304
  · subst h304
    simp [Tryz.ntmps27, Tryz.results27, List.replicate_succ]
    exact aPost_same0 hB rfl (nilV_refl _) (by simp) (fin _ rfl)
  have b304 : (s == 304) = false := by simpa using h304
  by_cases h307 : s = 307
  · subst h307
    simp [Tryz.ntmps27, Tryz.results27, List.replicate_succ]
    exact aPost_same0 hB rfl (nilV_refl _) (by simp) (fin _ rfl)
  have b307 : (s == 307) = false := by simpa using h307
  by_cases h308 : s = 308
  · subst h308
    simp [Tryz.ntmps27, Tryz.results27, List.replicate_succ]
    exact aPost_same0 hB rfl (nilV_refl _) (by simp) (fin _ rfl)
  have b308 : (s == 308) = false := by simpa using h308
  have e : reasonB s = wrongB s := by
    unfold reasonB look reasT
    simp [beq_rev b100, beq_rev b101, beq_rev b200, beq_rev b201, beq_rev b202, beq_rev b204, beq_rev b206, beq_rev b301, beq_rev b302, beq_rev b303, beq_rev b304, beq_rev b307, beq_rev b308]
  simp [Tryz.ntmps27, Tryz.results27, List.replicate_succ, b100, b101, b200, b201, b202, b204, b206, b301, b302, b303, b304, b307, b308]
  refine wrongReason_pc E _ _ s ?_
  simp
  exact aPost_same0 hB rfl (nilV_refl _) (by simp) (fin _ e)
theorem never_pc (s : Int) (hQ : Q (.bool (neverS s)) H) : PC Tryz.prog E 46 [.int .i64 s] H Q := by
  refine pc_enter Tryz.func46 rfl [] [] (by kernel_rfl) (fun hB => ?_)
  have fin : ∀ c : Bool, neverS s = c → Q (.bool c) H := fun c hc => hc ▸ hQ
  by_cases h1 : 100 ≤ s
  · by_cases h2 : s ≤ 199
    · simp [Tryz.ntmps46, Tryz.results46, List.replicate_succ, h1, h2]
      exact aPost_same0 hB rfl (nilV_refl _) (by simp) (fin _ (by simp [neverS, h1, h2]))
    · simp [Tryz.ntmps46, Tryz.results46, List.replicate_succ, h1, h2]
      by_cases h3 : s = 204
      · subst h3
        simp
        exact aPost_same0 hB rfl (nilV_refl _) (by simp) (fin _ (by simp [neverS]))
      · have b3 : (s == 204) = false := by simpa using h3
        simp [b3]
        exact aPost_same0 hB rfl (nilV_refl _) (by simp) (fin _ (by simp [neverS, h1, h2, b3]))
  · simp [Tryz.ntmps46, Tryz.results46, List.replicate_succ, h1]
    by_cases h3 : s = 204
    · omega
    · have b3 : (s == 204) = false := by simpa using h3
      simp [b3]
      exact aPost_same0 hB rfl (nilV_refl _) (by simp) (fin _ (by simp [neverS, h1, b3]))
theorem interim_pc (s : Int) (hQ : Q (.bool (interimB s)) H) : PC Tryz.prog E 30 [.int .i64 s] H Q := by
  refine pc_enter Tryz.func30 rfl [] [] (by kernel_rfl) (fun hB => ?_)
  have fin : ∀ c : Bool, interimB s = c → Q (.bool c) H := fun c hc => hc ▸ hQ
  by_cases h1 : 100 ≤ s
  · by_cases h2 : s ≤ 199
    · simp [Tryz.ntmps30, Tryz.results30, List.replicate_succ, h1, h2]
      exact aPost_same0 hB rfl (nilV_refl _) (by simp) (fin _ (by simp [interimB, h1, h2]))
    · simp [Tryz.ntmps30, Tryz.results30, List.replicate_succ, h1, h2]
      exact aPost_same0 hB rfl (nilV_refl _) (by simp) (fin _ (by simp [interimB, h1, h2]))
  · simp [Tryz.ntmps30, Tryz.results30, List.replicate_succ, h1]
    exact aPost_same0 hB rfl (nilV_refl _) (by simp) (fin _ (by simp [interimB, h1]))
theorem bodyless_pc (m : List UInt8) (s : Int) (hQ : Q (.bool (bodylessB m s)) H) : PC Tryz.prog E 24 [.str m, .int .i64 s] H Q := by
  refine pc_enter Tryz.func24 rfl [] [] (by kernel_rfl) (fun hB => ?_)
  have fin : ∀ c : Bool, bodylessB m s = c → Q (.bool c) H := fun c hc => hc ▸ hQ
  simp [Tryz.ntmps24, Tryz.results24, List.replicate_succ]
  refine never_pc E _ _ s ?_
  cases hn : neverS s with
  | true =>
    simp
    exact aPost_same0 hB rfl (nilV_refl _) (by simp) (fin _ (by simp [bodylessB, hn]))
  | false =>
    cases hh : (m == [72, 69, 65, 68]) with
    | true =>
      simp [hh]
      exact aPost_same0 hB rfl (nilV_refl _) (by simp) (fin _ (by simp [bodylessB, vHead, hn, hh]))
    | false =>
      cases hc : (m == [67, 79, 78, 78, 69, 67, 84]) with
      | false =>
        simp [hh, hc]
        exact aPost_same0 hB rfl (nilV_refl _) (by simp) (fin _ (by simp [bodylessB, vHead, vConnect, hn, hh, hc]))
      | true =>
        by_cases h1 : 200 ≤ s
        · simp [hh, hc, h1]
          exact aPost_same0 hB rfl (nilV_refl _) (by simp) (fin _ (by simp [bodylessB, vHead, vConnect, hn, hh, hc, h1]))
        · simp [hh, hc, h1]
          exact aPost_same0 hB rfl (nilV_refl _) (by simp) (fin _ (by simp [bodylessB, vHead, vConnect, hn, hh, hc, h1]))
end
end Go.Proofs.YtcdkcaocfioigaaGreatDoor

set_option linter.unusedVariables false
set_option linter.unusedSimpArgs false
set_option maxRecDepth 100000
namespace Go.Proofs.YtcdkcaocfioigaaGreatDoor
open Go Go.RowKit Go.Lib

def dgB (k : Nat) : UInt8 := UInt8.ofNat (48 + k)
end Go.Proofs.YtcdkcaocfioigaaGreatDoor

