/- strings.Builder: what a write and a read leave alone, block by block. -/
import Derived.Test.YtimhofphmgehgaaDoorLays
import Derived.Test.YtimhofphmgehgaaDoorChC
set_option linter.unusedVariables false
set_option linter.unusedSimpArgs false
set_option linter.unusedSectionVars false
set_option maxRecDepth 100000
namespace Go.Proofs.YtimhofphmgehgaaDoor
open Go Go.RowKit Go.Proofs

/-- A row is grown by a text's bytes; the row behind it is the old one or new. -/
theorem run_app_bf {P : Program} (w : World) (t u ty e : TypeId) (i : TypeInfo) (ht : P.underlying t = some (.slice e)) (hu : P.underlying u = some .string) (hi : P.info? e = some i) (hz : i.zero = some (.int .u8 0))
    (hsize : i.size = 1) (hby : i.bytes = 1) (v : Value) (n : Nat) (xs : List Value) (hown : w.ownsRowF 0 e 1 v n xs) (s : ByteArray) (h63 : n + s.size ≤ maxLen) (hbytes : n + s.size ≤ 140737488355328) :
    ∃ v' w', (Builtin.append_ #[t, u] ty #[v, .string s]).run P w = .ok v' w' ∧ w'.ownsRowF 0 e 1 v' (n + s.size) (xs ++ Lib.strCells s) ∧ w.grownBy w' v.ownBlock ∧ ∀ g, v'.ownBlock = some g → v.ownBlock = some g ∨ w.heap.size ≤ g := by
  rcases hown.2 with ⟨rfl, rfl⟩ | ⟨g, cap, cur, fz, rfl, hbg, hg, hfz, hnc, hcm, hcs, htake⟩
  · obtain ⟨v', w', h1, h2, h3, _⟩ := Lib.run_append_own_stringF (P := P) w w.heap.size t u ty e i ht hu hi hz hsize hby (.slice none 0 0) 0 xs ⟨hown.1, .inl ⟨rfl, rfl⟩⟩ s h63 hbytes (Nat.le_refl _)
    have h2' : w'.ownsRowF 0 e 1 v' (0 + s.size) (xs ++ Lib.strCells s) := by
      obtain ⟨a, b⟩ := h2
      refine ⟨a, b.imp id fun ⟨g, cap, cur, fz, r1, r2, r3⟩ => ⟨g, cap, cur, fz, r1, Nat.zero_le _, r3⟩⟩
    exact ⟨v', w', h1, h2', h3, fun g hg => .inr (h2.lt g hg).1⟩
  · have hxl : xs.length = n := by simpa using hown.1
    have hlen : (xs ++ Lib.strCells s).length = (n + s.size) * 1 := by rw [List.length_append, hxl, Lib.strCells_length, Nat.mul_one]
    by_cases hroom : n + s.size ≤ cap
    · have hcs' : cur.size = cap := by simpa using hcs
      have hr := Lib.run_append_room_stringF (P := P) w t u ty e i ht hu hi hsize g n cap cur fz hg (by simpa using hfz) s hroom (by omega)
      refine ⟨_, _, hr, ⟨hlen, .inr ⟨g, cap, _, fz, rfl, hbg, setRow_heap w g cur _ e _ hg, by omega, hroom, hcm, ?_, ?_⟩⟩, ⟨rfl, rfl, rfl, by simp, fun k _ hk => setRow_other w g k _ (fun e => hk (by simp [Value.ownBlock, e]))⟩, fun g' hg' => .inl hg'⟩
      · simp only [List.size_toArray, List.length_append, List.length_take, List.length_drop, Array.length_toList, Lib.strCells_length]
        omega
      · have ht' : cur.toList.take n = xs := by simpa using htake
        rw [ht', ← hlen]
        exact List.take_left
    · have holds : ∀ j u, xs[j]? = some u → w.cell? ((⟨g, 0, none⟩ : Addr).add j) = some u := hown.cells (g := g) rfl
      have hr := Lib.run_append_grow_string (P := P) w t u ty e i (.int .u8 0) ht hu hi hz ⟨g, 0, none⟩ n cap xs (by rw [hsize]; simpa using hxl) holds s (by omega) (by simp only [maxLen] at h63; omega) (by rw [hby]; exact growslice_fits (by omega) (by omega))
      have hge := grownCap_ge w (n + s.size) cap e
      have hcm2 : grownCap w (n + s.size) cap e ≤ maxLen := grownCap_le_maxLen w (n + s.size) cap e h63
      refine ⟨_, _, hr, ⟨hlen, .inr ⟨w.heap.size, _, _, (0, 0), rfl, Nat.zero_le _, heap_alloc_new w.drew _, Nat.zero_le _, hge, hcm2, ?_, ?_⟩⟩, ⟨rfl, rfl, rfl, by simp, fun k hk _ => heap_alloc_old w.drew _ hk⟩, fun g' hg' => .inr (by simp [Value.ownBlock] at hg'; omega)⟩
      · have hz1 : (Value.int IntKind.u8 0).cells.size = 1 := rfl
        simp only [Array.size_append, List.size_toArray, size_zeroCells, hz1, hxl, Lib.strCells_length]
        omega
      · simp only [Array.toList_append, List.append_assoc]
        rw [← List.append_assoc, ← hlen]
        exact List.take_left
theorem wpList_app_bf {P : Program} {w : World} {ops : Array Oper} {rest : List Oper} {o : Oper} {a : Act} {Q : Exit → Act → World → Prop} (hgd : o.guard = none) (sl x : Operand) (t u : TypeId)
    (ho : o.op = .call { callee := .builtin .append, args := #[sl, x], argTypes := #[t, u] }) (e : TypeId) (i : TypeInfo) (ht : P.underlying t = some (.slice e)) (hu : P.underlying u = some .string) (hi : P.info? e = some i) (hz : i.zero = some (.int .u8 0))
    (hsize : i.size = 1) (hby : i.bytes = 1) (v : Value) (n : Nat) (xs : List Value) (hs : a.eval sl = v) (hown : w.ownsRowF 0 e 1 v n xs) (s : ByteArray) (hx : a.eval x = .string s) (h63 : n + s.size ≤ maxLen) (hbytes : n + s.size ≤ 140737488355328)
    (h : ∀ v' w', w'.ownsRowF 0 e 1 v' (n + s.size) (xs ++ Lib.strCells s) → w.grownBy w' v.ownBlock → (∀ g, v'.ownBlock = some g → v.ownBlock = some g ∨ w.heap.size ≤ g) → wpList P ops Q rest (a.put o.dst v') w') : wpList P ops Q (o :: rest) a w := by
  refine wpList_plain hgd fun K hK => ?_
  obtain ⟨v', w', hr, h2, h3, h4⟩ := run_app_bf (P := P) w t u o.type e i ht hu hi hz hsize hby v n xs hown s h63 hbytes
  unfold Oper.wp execOp
  simp only [ho, resolve, invoke, builtin, Sem.run_bind, Sem.run_pure, Result.andThen_ok, List.map_toArray, List.map_cons, List.map_nil, hs, hx, hr]
  exact hK _ _ (h v' w' h2 h3 h4)
abbrev TB : TypeId := 115
abbrev TU : TypeId := 5
/-- A builder's block. -/
def BB (b : Nat) (u v : Value) (l : List UInt8) (w : World) : Prop := w.heap[b]? = some (.cells #[u, v] TB (0, 0)) ∧ (u = .pointer none ∨ u = .pointer (some ⟨b, 0, none⟩)) ∧ w.ownsRowF 0 TU 1 v l.length (bfCells l) ∧ v.ownBlock ≠ some b
/-- What is left alone: all but the builder's two blocks. -/
structure BK (b : Nat) (v : Value) (w w' : World) : Prop where
  os : w'.os = w.os
  tape : w'.tape = w.tape
  output : w'.output = w.output
  size : w.heap.size ≤ w'.heap.size
  keep : ∀ k, k < w.heap.size → k ≠ b → v.ownBlock ≠ some k → w'.heap[k]? = w.heap[k]?
theorem bkRefl (b : Nat) (v : Value) (w : World) : BK b v w w := ⟨rfl, rfl, rfl, Nat.le_refl _, fun _ _ _ _ => rfl⟩
theorem bb_lt {b : Nat} {u v : Value} {l : List UInt8} {w : World} (h : BB b u v l w) : b < w.heap.size := blk_lt1 h.1
theorem ccheck_ok (b : Nat) (u v : Value) (l : List UInt8) (w : World) (h : BB b u v l w) : Calls Tryd.prog 94 #[.pointer (some ⟨b, 0, none⟩)] w fun e w' => e = .returned (.tuple #[]) ∧ BB b (.pointer (some ⟨b, 0, none⟩)) v l w' ∧ BK b v w w' := by
  obtain ⟨h1, h2, h3, h4⟩ := h
  have hlt : b < w.heap.size := blk_lt1 h1
  have c0 : w.cell? ⟨b, 0, none⟩ = some u := by rw [Lib.cell_of_heap h1]; rfl
  rcases h2 with rfl | rfl
  · refine (Any.Builder_copyCheck_fresh { lays166 with } lextra.toX72 b w c0 (by simp [World.shape?, h1]; rfl) (Lib.frozen_of_heap h1 0)).mono ?_
    rintro e w' ⟨rfl, rfl⟩
    have hk : ∀ k, k ≠ b → (w.setCell ⟨b, 0, none⟩ (.pointer (some ⟨b, 0, none⟩))).heap[k]? = w.heap[k]? := fun k hk => Below.heap_setCell _ _ _ _ hk
    refine ⟨rfl, ⟨by simp [World.setCell, Array.getElem?_modify, h1], .inr rfl, rowF_kept h3 fun g hg => hk g (fun e => h4 (e ▸ hg)), h4⟩, rfl, rfl, rfl, by simp [World.setCell], fun k _ hkb _ => hk k hkb⟩
  · refine (Any.Builder_copyCheck_used { lays166 with } lextra.toX72 b w c0).mono ?_
    rintro e w' ⟨rfl, rfl⟩
    exact ⟨rfl, ⟨h1, .inr rfl, h3, h4⟩, bkRefl _ _ _⟩
theorem bf_str (l : List UInt8) (s : ByteArray) : bfCells l ++ Lib.strCells s = bfCells (l ++ s.data.toList) := by
  unfold bfCells
  rw [List.map_append]
  rfl
set_option maxHeartbeats 1000000 in
theorem wstr_ok (b : Nat) (u v : Value) (l : List UInt8) (s : ByteArray) (w : World) (h : BB b u v l w) (hlen : l.length + s.size ≤ 140737488355328) : Calls Tryd.prog 63 #[.pointer (some ⟨b, 0, none⟩), .string s] w fun e w' =>
    e = .returned (.tuple #[.int .i64 s.size, .nilIface]) ∧ ∃ u' v', BB b u' v' (l ++ s.data.toList) w' ∧ BK b v w w' ∧ ∀ g, v'.ownBlock = some g → v.ownBlock = some g ∨ w.heap.size ≤ g := by
  obtain ⟨i0, hi, hz0, hz1, hz2⟩ := info_parts lextra.infoByte
  go_enter Tryd.func63, Tryd.ntmps63
  go_wp2_with (go_at_call 94; refine (ccheck_ok b u v l _ h).mono ?_)
  rintro e w1 ⟨rfl, h1, hk1⟩
  obtain ⟨hbk, _, hown, hne⟩ := h1
  have c0 : w1.cell? ⟨b, 0, none⟩ = some (.pointer (some ⟨b, 0, none⟩)) := by rw [Lib.cell_of_heap hbk]; rfl
  have c1 : w1.cell? ⟨b, 1, none⟩ = some v := by rw [Lib.cell_of_heap hbk]; rfl
  have hlt : b < w1.heap.size := blk_lt1 hbk
  go_wp2_with (at_builtin; refine wpList_app_bf rfl _ _ 104 9 rfl TU i0 Tryd.underlying104 Tryd.underlying9 hi hz0 hz1 hz2 _ _ _ rfl hown s rfl ?c3 ?c4 ?_)
  case c3 => unfold maxLen; omega
  case c4 => omega
  intro v' w2 hown' hgrow hnew
  have hb2 : w2.heap[b]? = some (.cells #[.pointer (some ⟨b, 0, none⟩), v] TB (0, 0)) := by
    rw [hgrow.block b hlt (fun e => hne e.symm)]
    exact hbk
  have d0 : w2.cell? ⟨b, 0, none⟩ = some (.pointer (some ⟨b, 0, none⟩)) := by rw [Lib.cell_of_heap hb2]; rfl
  have d1 : w2.cell? ⟨b, 1, none⟩ = some v := by rw [Lib.cell_of_heap hb2]; rfl
  have f1 : w2.frozen? ⟨b, 1, none⟩ = false := Lib.frozen_of_heap hb2 1
  have hne' : v'.ownBlock ≠ some b := fun e => by
    rcases hnew b e with h | h
    · exact hne h
    · omega
  obtain ⟨ao, n', cap, hv'⟩ : ∃ ao n' cap, v' = .slice ao n' cap := by
    rcases hown'.2 with ⟨hv, _⟩ | ⟨g, cap, cur, fz, hv, _⟩
    · exact ⟨_, _, _, hv⟩
    · exact ⟨_, _, _, hv⟩
  have HH := Lib.hid (And.intro hown' (And.intro hgrow (And.intro hnew (And.intro hne' hk1))))
  clear hown' hgrow hnew hne' hk1
  subst hv'
  go_wp2
  go_ret2
  obtain ⟨hown', hgrow, hnew, hne', hk1⟩ := HH.out
  have hk : ∀ k, k ≠ b → (w2.setCell ⟨b, 1, none⟩ (.slice ao n' cap)).heap[k]? = w2.heap[k]? := fun k hk => Below.heap_setCell _ _ _ _ hk
  refine ⟨rfl, _, _, ⟨by simp [World.setCell, Array.getElem?_modify, hb2], .inr rfl, ?_, hne'⟩, ⟨hgrow.os.trans hk1.os, hgrow.tape.trans hk1.tape, hgrow.output.trans hk1.output, by simp only [World.setCell]; simpa using Nat.le_trans hk1.size hgrow.size, fun k h1 h2 h3 => ?_⟩, fun g hg => ?_⟩
  · have e1 : (l ++ s.data.toList).length = l.length + s.size := by rw [List.length_append, size_toList]
    rw [e1, ← bf_str]
    exact rowF_kept hown' fun g hg => hk g (fun e => hne' (e ▸ hg))
  · rw [hk k h2, hgrow.block k (Nat.lt_of_lt_of_le h1 hk1.size) (fun e => h3 e.symm)]
    exact hk1.keep k h1 h2 h3
  · exact (hnew g hg).imp id fun h => Nat.le_trans hk1.size h
set_option maxHeartbeats 2000000 in
theorem bstr_ok (b : Nat) (u v : Value) (l : List UInt8) (w : World) (h : BB b u v l w) : Calls Tryd.prog 65 #[.pointer (some ⟨b, 0, none⟩)] w fun e w' =>
    e = .returned (.string (tx l)) ∧ BB b u v l w' ∧ BK b v w w' := by
  have hUN : ∀ (W : World) (q : Option Addr), (Builtin.unsafeString_ #[138, 3] 9 #[.pointer q, .int .i64 0]).run Tryd.prog W = .ok (.string .empty) W := fun W q => Lib.run_unsafeString_none W _ _ _ q
  have hlt := bb_lt h
  have h' := h
  obtain ⟨hbk, hu, hown, hne⟩ := h
  have H0 := Lib.hid h'
  have HU := Lib.hid hu
  clear h' hu
  rcases hown.2 with ⟨rfl, hz⟩ | ⟨g, cap, cur, fz, rfl, hbg, hg, hfz, hnc, hcm, hcs, htake⟩
  · obtain rfl : l = [] := List.eq_nil_of_length_eq_zero hz
    have c1 : w.drew.cell? ⟨b, 1, none⟩ = some (.slice none 0 0) := by
      have : w.drew.heap[b]? = some (.cells #[u, .slice none 0 0] TB (0, 0)) := hbk
      rw [Lib.cell_of_heap this]; rfl
    have hSD : (Builtin.unsafeSliceData_ #[104] 138 #[.slice none 0 0]).run Tryd.prog w.drew = .ok (.pointer none) w.drew := rfl
    go_enter Tryd.func65, Tryd.ntmps65
    go_wp2
    go_region
    all_goals (go_wp2; go_ret; exact ⟨rfl, H0.out, ⟨rfl, rfl, rfl, Nat.le_refl _, fun _ _ _ _ => rfl⟩⟩)
  · by_cases hl0 : l = []
    · subst hl0
      by_cases hc0 : cap = 0
      · subst hc0
        have hSD : (Builtin.unsafeSliceData_ #[104] 138 #[.slice (some ⟨g, 0, none⟩) 0 0]).run Tryd.prog w.drew = .ok (.pointer (some ⟨w.drew.heap.size, 0, none⟩)) (w.drew.alloc (.view ⟨g, 0, none⟩ TU)) :=
          Lib.run_unsafeSliceData_zero w.drew _ _ TU Tryd.underlying138 ⟨g, 0, none⟩ 0 (TU, cur.size) (by have hg' : w.drew.heap[g]? = some (.cells cur TU fz) := hg; simp [World.shape?, hg'])
        have c1 : w.drew.cell? ⟨b, 1, none⟩ = some (.slice (some ⟨g, 0, none⟩) 0 0) := by
          have : w.drew.heap[b]? = some (.cells #[u, .slice (some ⟨g, 0, none⟩) 0 0] TB (0, 0)) := hbk
          rw [Lib.cell_of_heap this]; rfl
        have c2 : (w.drew.alloc (.view ⟨g, 0, none⟩ TU)).cell? ⟨b, 1, none⟩ = some (.slice (some ⟨g, 0, none⟩) 0 0) := by
          have : (w.drew.alloc (.view ⟨g, 0, none⟩ TU)).heap[b]? = _ := (Lib.alloc_old w.drew _ b hlt).trans hbk
          rw [Lib.cell_of_heap this]; rfl
        have c3 : (w.alloc (.view ⟨g, 0, none⟩ TU)).drew.cell? ⟨b, 1, none⟩ = some (.slice (some ⟨g, 0, none⟩) 0 0) := c2
        have c0 : w.cell? ⟨b, 1, none⟩ = some (.slice (some ⟨g, 0, none⟩) 0 0) := c1
        have hal : ∀ k, k < w.heap.size → (w.drew.alloc (.view ⟨g, 0, none⟩ TU)).heap[k]? = w.heap[k]? := fun k hk => Lib.alloc_old w.drew _ k hk
        have fin : BB b u (.slice (some ⟨g, 0, none⟩) 0 0) [] (w.drew.alloc (.view ⟨g, 0, none⟩ TU)) ∧ BK b (.slice (some ⟨g, 0, none⟩) 0 0) w (w.drew.alloc (.view ⟨g, 0, none⟩ TU)) := by
          obtain ⟨h1, h2, h3, h4⟩ := H0.out
          exact ⟨⟨(hal b hlt).trans h1, h2, rowF_kept h3 fun g' hg' => hal g' (h3.lt g' hg').2, h4⟩, ⟨rfl, rfl, rfl, by simp, fun k hk _ _ => hal k hk⟩⟩
        have HF := Lib.hid fin
        clear fin hal
        go_enter Tryd.func65, Tryd.ntmps65
        go_wp2
        go_region
        all_goals (go_wp2; go_ret; exact ⟨rfl, HF.out⟩)
      · have hSD : (Builtin.unsafeSliceData_ #[104] 138 #[.slice (some ⟨g, 0, none⟩) 0 cap]).run Tryd.prog w.drew = .ok (.pointer (some ⟨g, 0, none⟩)) w.drew :=
          Lib.run_unsafeSliceData_row _ _ _ _ _ _ hc0
        have c1 : w.drew.cell? ⟨b, 1, none⟩ = some (.slice (some ⟨g, 0, none⟩) 0 cap) := by
          have : w.drew.heap[b]? = some (.cells #[u, .slice (some ⟨g, 0, none⟩) 0 cap] TB (0, 0)) := hbk
          rw [Lib.cell_of_heap this]; rfl
        clear hc0
        go_enter Tryd.func65, Tryd.ntmps65
        go_wp2
        go_region
        all_goals (go_wp2; go_ret; exact ⟨rfl, H0.out, ⟨rfl, rfl, rfl, Nat.le_refl _, fun _ _ _ _ => rfl⟩⟩)
    · have hlp : l.length ≠ 0 := fun e => hl0 (List.length_eq_zero_iff.1 e)
      have c1 : w.drew.cell? ⟨b, 1, none⟩ = some (.slice (some ⟨g, 0, none⟩) l.length cap) := by
        have : w.drew.heap[b]? = some (.cells #[u, .slice (some ⟨g, 0, none⟩) l.length cap] TB (0, 0)) := hbk
        rw [Lib.cell_of_heap this]; rfl
      have hSD : (Builtin.unsafeSliceData_ #[104] 138 #[.slice (some ⟨g, 0, none⟩) l.length cap]).run Tryd.prog w.drew = .ok (.pointer (some ⟨g, 0, none⟩)) w.drew :=
        Lib.run_unsafeSliceData_row _ _ _ _ _ _ (by omega)
      have hUS : (Builtin.unsafeString_ #[138, 3] 9 #[.pointer (some ⟨g, 0, none⟩), .int .i64 l.length]).run Tryd.prog w.drew = .ok (.string ⟨l.toArray⟩) (w.drew.freeze ⟨g, 0, none⟩ l.length) := by
        refine Lib.run_unsafeString_row w.drew 138 3 9 TU Tryd.underlying138 lextra.cellsByte g cur.size (by have hg' : w.drew.heap[g]? = some (.cells cur TU fz) := hg; simp [World.shape?, hg']) l hl0 (by omega) (by unfold maxLen at hcm; omega) ?_
        intro j x hx
        exact hown.cells (g := g) rfl j (.int .u8 x.toNat) (by simp [bfCells, hx])
      have hfr : ∀ k, k ≠ g → (w.drew.freeze ⟨g, 0, none⟩ l.length).heap[k]? = w.heap[k]? := fun k hk => by
        unfold World.freeze
        split
        · rfl
        · simp only [Array.getElem?_modify]
          rw [if_neg (fun e => hk e.symm)]
          rfl
      have fin : BB b u (.slice (some ⟨g, 0, none⟩) l.length cap) l (w.drew.freeze ⟨g, 0, none⟩ l.length) ∧ BK b (.slice (some ⟨g, 0, none⟩) l.length cap) w (w.drew.freeze ⟨g, 0, none⟩ l.length) := by
        have hbl : (bfCells l).length = l.length := by simp [bfCells]
        have hA : Lib.BuilderAtF TB TU 0 b u (bfCells l) w.drew := ⟨Nat.zero_le _, _, hbk, by rw [hbl]; exact hown, hne⟩
        have hF := hA.froze (g := g) (cap := cap) (by rw [hbl]; exact c1)
        rw [hbl] at hF
        obtain ⟨_, v', k1, k2, k3⟩ := hF
        have hgb : b ≠ g := fun e => hne (by simp [Value.ownBlock, e])
        have k1' := k1
        rw [hfr b hgb, hbk] at k1'
        simp at k1'
        subst k1'
        rw [hbl] at k2
        refine ⟨⟨k1, HU.out, k2, hne⟩, ⟨?_, ?_, ?_, ?_, fun k hk h2 h3 => hfr k (fun e => h3 (by simp [Value.ownBlock, e]))⟩⟩ <;> (unfold World.freeze; split <;> first | rfl | exact Nat.le_refl _ | (simp only [Array.size_modify]; exact Nat.le_refl _))
      have HF := Lib.hid fin
      clear fin hfr
      go_enter Tryd.func65, Tryd.ntmps65
      go_wp2
      go_region
      all_goals (go_wp2; go_ret; exact ⟨rfl, HF.out⟩)
/-- BEHIND A CALL THAT HAS WRITTEN OR READ A BUILDER. -/
theorem post_bld {E : Env} {w w' : World} {β : Nat → Nat} {Rd : Nat → Nat → Prop} {Ow : Nat → Option Hold} {H : Hp} (hr : HR E w β Rd Ow H) {i : Nat} {l l' : List UInt8} (hi : H[i]? = some [.bl TB, .bf TU l]) {u v u' v' : Value} (hb : BB (β i) u v l w) (hb' : BB (β i) u' v' l' w') (hk : BK (β i) v w w')
    (hnew : ∀ g, v'.ownBlock = some g → v.ownBlock = some g ∨ w.heap.size ≤ g) {x : AV} {c : Value} (hx : Rel w' β Rd x c) (hxf : x.free = true) (hxb : Bnd H.length x) :
    ∃ Ow', Post E w β Rd Ow H w' β Rd Ow' (H.set i [.bl TB, .bf TU l']) x c := by
  have hil : i < H.length := (List.getElem?_eq_some_iff.1 hi).1
  obtain ⟨T, cs, b1, b2, b3⟩ := hr.box i _ hi
  have e0 := hb.1
  rw [e0] at b1
  cases b1
  obtain ⟨r1, r2, r3⟩ := b3 1 (.bf TU l) v rfl rfl
  have hd : ∀ g, v.ownBlock = some g → ∀ o, ¬ Rd g o := by cases r1; assumption
  have hOv : ∀ g, v.ownBlock = some g → Ow g = some (.cell i 1) := fun g hg => r3 g hg
  have hlt : ∀ j, j < H.length → β j < w.heap.size := fun j hj => by
    obtain ⟨T, cs, h1, _⟩ := hr.box j _ (List.getElem?_eq_getElem hj)
    exact blk_lt1 h1
  have hvb : ∀ j, j < H.length → v.ownBlock ≠ some (β j) := fun j hj e => by have := hOv _ e; rw [(hr.sep j hj).1] at this; cases this
  have hv'b : ∀ j, j < H.length → v'.ownBlock ≠ some (β j) := fun j hj e => by
    rcases hnew _ e with h | h
    · exact hvb j hj h
    · have := hlt j hj; omega
  have hR : ∀ g o, Rd g o → Rd g o ∧ w'.cell? ⟨g, o, none⟩ = w.cell? ⟨g, o, none⟩ := fun g o h => ⟨h, World.cell?_of_block (a := ⟨g, o, none⟩) (hk.keep g (hr.rds g o h) (fun e => (hr.sep i hil).2 o (e ▸ h)) (fun e => hd g e o h))⟩
  have hO : ∀ (j p : Nat) g, (j ≠ i ∨ p ≠ 1) → Ow g = some (.cell j p) → w'.heap[g]? = w.heap[g]? ∧ ∀ o, Rd g o → Rd g o := fun j p g hj hg => ⟨hk.keep g (hr.ows g _ hg) (fun e => by rw [e, (hr.sep i hil).1] at hg; cases hg) (fun e => by rw [hOv g e] at hg; cases hg; simp at hj), fun _ h => h⟩
  have hlen : (H.set i [AV.bl TB, .bf TU l']).length = H.length := by simp
  have hother : ∀ j, j < H.length → j ≠ i → w'.heap[β j]? = w.heap[β j]? := fun j hj hji => hk.keep _ (hlt j hj) (fun e => hji (hr.inj j i hj hil e)) (hvb j hj)
  refine ⟨fun g => if v'.ownBlock = some g then some (.cell i 1) else Ow g, hx, by rw [hlen]; exact hxb, fun g hg => (by rw [own0_free hxf] at hg; cases hg), dis_free_of_free hxf, ?_, fun _ _ => rfl, by rw [hlen]; exact Nat.le_refl _, hR, fun b h1 h2 h3 => ⟨hk.keep b h1 (fun e => h2 i hil e.symm) (fun e => (by rw [hOv b e] at h3; cases h3)), ?_, fun j hj => h2 j (by rwa [hlen] at hj), fun _ h => h⟩, hk.os, hk.tape, hk.output, hk.size⟩
  · refine ⟨fun j m hm => ?_, fun a b ha hbb => hr.inj a b (by rwa [hlen] at ha) (by rwa [hlen] at hbb), fun j hj => ⟨?_, (hr.sep j (by rwa [hlen] at hj)).2⟩, fun g k hg => ?_, fun g o h => Nat.lt_of_lt_of_le (hr.rds g o h) hk.size, fun m hm y hy => ?_, fun b hbf => ?_, fun j m t hm h0 => ?_⟩
    · by_cases hji : i = j
      · subst hji
        rw [List.getElem?_set_self hil] at hm
        cases hm
        refine ⟨TB, _, hb'.1, rfl, fun p y z hy hz => ?_⟩
        match p with
        | 0 =>
          simp at hy hz; subst hy; subst hz
          exact ⟨.bl _ _ (by rcases hb'.2.1 with rfl | rfl <;> rfl), rfl, fun g hg => by cases hg⟩
        | 1 =>
          simp at hy hz; subst hy; subst hz
          refine ⟨.bf _ _ _ hb'.2.2.1 (fun g hg o ho => ?_), rfl, fun g hg => ?_⟩
          · rcases hnew g hg with h | h
            · exact hd g h o ho
            · have := hr.rds g o ho; omega
          · have hg : v'.ownBlock = some g := hg
            simp [hg]
        | p + 2 => simp at hy
      · rw [List.getElem?_set_ne hji] at hm
        have hj : j < H.length := (List.getElem?_eq_some_iff.1 hm).1
        obtain ⟨T2, cs2, c1, c2, c3⟩ := hr.box j m hm
        refine ⟨T2, cs2, (hother j hj (fun e => hji e.symm)).trans c1, c2, fun p y z hy hz => ?_⟩
        obtain ⟨q1, q2, q3⟩ := c3 p y z hy hz
        refine ⟨q1.move (hr.bnd m (mem_at hm) y (mem_at hy)) hR (fun g hg => hO j p g (.inl fun e => hji e.symm) (q3 g hg)) hk.size (fun _ _ => rfl), q2, fun g hg => ?_⟩
        have hq := q3 g hg
        show (if v'.ownBlock = some g then _ else _) = _
        rw [if_neg]
        · exact hq
        · intro e
          rcases hnew g e with h | h
          · rw [hOv g h] at hq; cases hq; exact hji rfl
          · have := hr.ows g _ hq; omega
    · rw [hlen] at hj
      show (if v'.ownBlock = some (β j) then _ else _) = _
      rw [if_neg (hv'b j hj)]
      exact (hr.sep j hj).1
    · have hg : (if v'.ownBlock = some g then some (Hold.cell i 1) else Ow g) = some k := hg
      split at hg
      · rename_i e; exact (hb'.2.2.1.lt g e).2
      · exact Nat.lt_of_lt_of_le (hr.ows g k hg) hk.size
    · rw [hlen]
      rcases List.mem_or_eq_of_mem_set hm with h | h
      · exact hr.bnd m h y hy
      · subst h
        simp at hy
        rcases hy with rfl | rfl
        · exact .bl _
        · exact .bf _ _
    · obtain ⟨f1, f2, f3, f4⟩ := hr.fix b hbf
      have hvn : v.ownBlock ≠ some b := fun e => by rw [hOv b e] at f2; cases f2
      refine ⟨(hk.keep b f4 (fun e => f3 i hil e.symm) hvn).trans f1, ?_, fun j hj => f3 j (by rwa [hlen] at hj), Nat.lt_of_lt_of_le f4 hk.size⟩
      show (if v'.ownBlock = some b then _ else _) = _
      rw [if_neg]
      · exact f2
      · intro e
        rcases hnew b e with h | h
        · exact hvn h
        · omega
    · by_cases hji : i = j
      · subst hji
        rw [List.getElem?_set_self hil] at hm
        cases hm
        simp at h0
        subst h0
        exact ⟨u', v', hb'.1, hb'.2.1⟩
      · rw [List.getElem?_set_ne hji] at hm
        have hj : j < H.length := (List.getElem?_eq_some_iff.1 hm).1
        obtain ⟨u2, v2, g1, g2⟩ := hr.bld j m t hm h0
        exact ⟨u2, v2, (hother j hj (fun e => hji e.symm)).trans g1, g2⟩
  · show (if v'.ownBlock = some b then _ else _) = _
    rw [if_neg]
    · exact h3
    · intro e
      rcases hnew b e with h | h
      · rw [hOv b h] at h3; cases h3
      · omega
/-- A builder's box. -/
theorem bb_of {E : Env} {w : World} {β : Nat → Nat} {Rd : Nat → Nat → Prop} {Ow : Nat → Option Hold} {H : Hp} (hr : HR E w β Rd Ow H) {i : Nat} {l : List UInt8} (hi : H[i]? = some [.bl TB, .bf TU l]) : ∃ u v, BB (β i) u v l w := by
  obtain ⟨u, v, h1, h2⟩ := hr.bld i _ TB hi rfl
  obtain ⟨T, cs, b1, b2, b3⟩ := hr.box i _ hi
  rw [h1] at b1
  cases b1
  obtain ⟨r1, r2, r3⟩ := b3 1 (.bf TU l) v rfl rfl
  refine ⟨u, v, h1, h2, by cases r1; assumption, fun e => ?_⟩
  have := r3 _ e
  rw [(hr.sep i (List.getElem?_eq_some_iff.1 hi).1).1] at this
  cases this
section
variable (E : Env) (H : Hp) (Q : AV → Hp → Prop)
theorem wstr_pc (i : Nat) (l s : List UInt8) (hi : H[i]? = some [.bl TB, .bf TU l]) (hl : l.length + s.length ≤ 140737488355328) (hQ : Q (.tup [.int .i64 s.length, .raw .nilIface]) (H.set i [.bl TB, .bf TU (l ++ s)])) : PC Tryd.prog E 63 [.ptr (some (i, 0)), .str s] H Q := by
  refine ⟨by kernel_rfl, fun w β Rd Ow cargs hr hcell hsz hargs => ?_⟩
  obtain ⟨u, v, hb⟩ := bb_of hr hi
  have g0 := hargs 0 _ _ rfl (Array.getElem?_eq_getElem (by rw [hsz]; simp))
  have g1 := hargs 1 _ _ rfl (Array.getElem?_eq_getElem (by rw [hsz]; simp))
  obtain ⟨c0, c1, rfl⟩ : ∃ c0 c1, cargs = #[c0, c1] := by
    cases cargs with
    | mk l =>
      match l, hsz with
      | [x, y], _ => exact ⟨x, y, rfl⟩
  simp at g0 g1
  obtain rfl := rel_ptr g0.1
  obtain ⟨t, rfl, ht, _⟩ := rel_str g1
  subst ht
  refine (wstr_ok (β i) u v l t w hb (by rw [size_toList] at hl; exact hl)).mono ?_
  rintro e w' ⟨rfl, u', v', h1, h2, h3⟩
  obtain ⟨Ow', hP⟩ := post_bld hr hi hb h1 h2 h3 (x := .tup [.int .i64 t.data.toList.length, .raw .nilIface]) (c := .tuple #[.int .i64 t.size, .nilIface])
    (.tup _ _ rfl (by simp [AV.free]) (fun j x u hx hu => by
      match j with
      | 0 => simp at hx hu; subst hx; subst hu; exact .int _ _
      | 1 => simp at hx hu; subst hx; subst hu; exact .raw _
      | j + 2 => simp at hx)) rfl (.tup _ (fun x hx => by simp at hx; rcases hx with rfl | rfl; exact .int _ _; exact .raw _))
  exact ⟨_, _, _, β, Rd, Ow', rfl, hQ, hP⟩
theorem bstr_pc (i : Nat) (l : List UInt8) (hi : H[i]? = some [.bl TB, .bf TU l]) (hl : l.length ≤ maxLen) (hQ : Q (.str l) H) : PC Tryd.prog E 65 [.ptr (some (i, 0))] H Q := by
  refine ⟨by kernel_rfl, fun w β Rd Ow cargs hr hcell hsz hargs => ?_⟩
  obtain ⟨u, v, hb⟩ := bb_of hr hi
  have g0 := hargs 0 _ _ rfl (Array.getElem?_eq_getElem (by rw [hsz]; simp))
  obtain ⟨c0, rfl⟩ : ∃ c0, cargs = #[c0] := by
    cases cargs with
    | mk l =>
      match l, hsz with
      | [x], _ => exact ⟨x, rfl⟩
  simp at g0
  obtain rfl := rel_ptr g0.1
  refine (bstr_ok (β i) u v l w hb).mono ?_
  rintro e w' ⟨rfl, h1, h2⟩
  obtain ⟨Ow', hP⟩ := post_bld hr hi hb h1 h2 (fun g hg => .inl hg) (x := .str l) (c := .string (tx l)) (rel_tx _ hl) rfl (.str _)
  have : H.set i [.bl TB, .bf TU l] = H := by
    apply List.ext_getElem?
    intro j
    by_cases hj : i = j
    · subst hj; rw [List.getElem?_set_self (List.getElem?_eq_some_iff.1 hi).1, hi]
    · rw [List.getElem?_set_ne hj]
  rw [this] at hP
  exact ⟨_, _, _, β, Rd, Ow', rfl, hQ, hP⟩
end
end Go.Proofs.YtimhofphmgehgaaDoor
