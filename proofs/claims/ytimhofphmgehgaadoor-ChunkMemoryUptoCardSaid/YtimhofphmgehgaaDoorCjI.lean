/- ChunkMost, ChunkBack, ChunkOpen answer true: out of the abstract machine. -/
import Derived.Test.YtimhofphmgehgaaDoorCjH
import Derived.Test.YtimhofphmgehgaaDoorOpen
set_option linter.unusedVariables false
set_option linter.unnecessarySimpa false
set_option linter.unusedSimpArgs false
set_option linter.unusedSectionVars false
set_option maxRecDepth 100000
namespace Go.Proofs.YtimhofphmgehgaaDoor
open Go Go.RowKit Go.Proofs Go.Deep

theorem flds_of_rows : ∀ (rows : List (List AV)), (∀ r ∈ rows, r.length = 2 ∧ ∀ (j : Nat) k y, [CK.str, .str][j]? = some k → r[j]? = some y → KindOf k y) → ∃ ls, rows = flds ls ∧ fsz ls ≤ wtA rows.flatten
  | [], _ => ⟨[], rfl, by simp [fsz]⟩
  | r :: rows, h => by
    obtain ⟨ls, rfl, hw⟩ := flds_of_rows rows (fun q hq => h q (List.mem_cons_of_mem _ hq))
    obtain ⟨h1, h2⟩ := h r (List.mem_cons_self ..)
    match r, h1 with
    | [a, b], _ =>
      obtain ⟨x, rfl⟩ := kind_str (h2 0 _ _ rfl rfl)
      obtain ⟨y, rfl⟩ := kind_str (h2 1 _ _ rfl rfl)
      refine ⟨⟨x, y⟩ :: ls, rfl, ?_⟩
      rw [List.flatten_cons, wtA_app]
      simp [fsz, wtA] at hw ⊢
      omega
/-- A body, sizes and trailers. -/
theorem open_coded {H : Type} {enc : TypeId × Value → H} {W : World} {spare : Nat → Bool} {held : Bool} {fuel : Nat} {cs : List Value} {x : DataW H × List MemPlace} (h : DataW.trod enc Tryd.prog W 0 spare held fuel 81 cs = some x) :
    ∃ (s : ByteArray) (v1 v2 : Value) (ns : List Int) (ts : List Fld), cs = [.string s, v1, v2] ∧ Rel W (fun _ => 0) (old W) (.sl false 1 (ints ns)) v1 ∧ Rel W (fun _ => 0) (old W) (.sl false 2 (flds ts)) v2 ∧ s.size ≤ maxLen ∧
      (∀ z ∈ ns, -9223372036854775808 ≤ z ∧ z ≤ 9223372036854775807) ∧ s.size + ns.length + (fsz ts + ts.length) + 3 ≤ Rows.uptoBulk x.1 := by
  obtain ⟨xs, n', _, rfl, hcl, hxl, hf⟩ := DataW.trod_struct Tryd.underlying81 h
  have e0 : Tryd.prog.cellsOf 81 = 3 := by kernel_rfl
  have e1 : Tryd.prog.cellsOf 9 = 1 := by kernel_rfl
  have e2 : Tryd.prog.cellsOf 53 = 1 := by kernel_rfl
  have e3 : Tryd.prog.cellsOf 34 = 1 := by kernel_rfl
  rw [e0] at hcl
  obtain ⟨c0, c1, c2, rfl⟩ : ∃ c0 c1 c2, cs = [c0, c1, c2] := by
    match cs, hcl with
    | [a, b, c], _ => exact ⟨a, b, c, rfl⟩
  obtain ⟨y0, y1, y2, rfl⟩ : ∃ y0 y1 y2, xs = [y0, y1, y2] := by
    match xs, hxl with
    | [a, b, c], _ => exact ⟨a, b, c, rfl⟩
  have h0 := hf 0 _ rfl
  have h1 := hf 1 _ rfl
  have h2 := hf 2 _ rfl
  simp [e1] at h0
  simp [e2] at h1
  simp [e3] at h2
  obtain ⟨s, hs, hy0, hm⟩ := DataW.trod_string Tryd.underlying9 h0
  obtain ⟨bo1, l1, k1, rows1, g1, g2, _, _, g3, g4, g5, g6⟩ := open_plain (ks := [.int .i64]) 6 Tryd.underlying53 (by kernel_rfl) (by kernel_rfl) (by decide) h1
  obtain ⟨bo2, l2, k2, rows2, q1, q2, _, _, q3, q4, q5, q6⟩ := open_plain (ks := [.str, .str]) 6 Tryd.underlying34 (by kernel_rfl) (by kernel_rfl) (by decide) h2
  obtain ⟨ns, rfl, hn⟩ := kind_int1 g5
  obtain ⟨ts, rfl, ht⟩ := flds_of_rows rows2 q5
  simp at hs g1 q1
  subst hs; subst g1; subst q1
  refine ⟨s, _, _, ns, ts, rfl, g3, q3, hm, hn, ?_⟩
  simp only [List.map_cons, List.map_nil, Rows.uptoBulk, Rows.uptoBulkAll]
  have hb0 : s.size + 1 ≤ Rows.uptoBulk y0.1 := by rw [hy0]; simp [Rows.uptoBulk, size_toList]
  simp at g2 q2
  omega
theorem cmost_true (W : World) (s : ByteArray) (hs : s.size ≤ 1048576) (bo : Option Addr) (len cap : Nat) (rows : List (List AV)) (hr : Rel W (fun _ => 0) (old W) (.sl false 1 rows) (.slice bo len cap)) (hn : Bnd 0 (.sl false 1 rows))
    (hk : ∀ r ∈ rows, r.length = 1 ∧ ∀ (j : Nat) k y, ([.int .i64] : List CK)[j]? = some k → r[j]? = some y → KindOf k y) (e : rows.length = len) (hb : wtA rows.flatten + len ≤ 1048576) (hS : Signs W) (hT : Tz W) :
    Calls Tryd.prog 13 #[.string s, .slice bo len cap] W fun e w' => e = .returned (.bool true) ∧ Frm (fun _ => False) W w' := by
  obtain ⟨zs, rfl, hz⟩ := kind_int1 hk
  refine calls_sz (args := [.str s.data.toList, .sl false 1 (ints zs)]) hS hT rfl (fun t x u hx hu => ?_) (fun E Q hE h => lmost_pc E [] Q hE s.data.toList zs (by rw [size_toList]; omega) (by simp at e; omega) hz h)
  match t with
  | 0 => simp at hx hu; subst hx; subst hu; exact rel_stringW W s hs
  | 1 => simp at hx hu; subst hx; subst hu; exact ⟨hr, hn, rfl⟩
  | t + 2 => simp at hx
theorem rel_coded {W : World} {s : ByteArray} {v1 v2 : Value} {ns : List Int} {ts : List Fld} (h1 : Rel W (fun _ => 0) (old W) (.sl false 1 (ints ns)) v1) (h2 : Rel W (fun _ => 0) (old W) (.sl false 2 (flds ts)) v2) (hm : s.size ≤ maxLen) :
    Rel W (fun _ => 0) (old W) (.agg [.str s.data.toList, .sl false 1 (ints ns), .sl false 2 (flds ts)]) (.agg #[.string s, v1, v2]) ∧ Bnd 0 (.agg [.str s.data.toList, .sl false 1 (ints ns), .sl false 2 (flds ts)]) ∧ (AV.agg [.str s.data.toList, .sl false 1 (ints ns), .sl false 2 (flds ts)]).free = true := by
  refine ⟨.agg _ _ rfl (fun x hx => ?_) (fun j x u hx hu => ?_), .agg _ (fun x hx => ?_), rfl⟩
  · simp at hx; rcases hx with rfl | rfl | rfl <;> exact ⟨rfl, rfl⟩
  · match j with
    | 0 => simp at hx hu; subst hx; subst hu; exact .str _ _ rfl hm
    | 1 => simp at hx hu; subst hx; subst hu; exact h1
    | 2 => simp at hx hu; subst hx; subst hu; exact h2
    | j + 3 => simp at hx
  · simp at hx
    rcases hx with rfl | rfl | rfl
    · exact .str _
    · exact .sl _ _ _ (fun r hr y hy => by obtain ⟨z, _, rfl⟩ := List.mem_map.1 hr; simp at hy; subst hy; exact .int _ _)
    · exact bnd_flds _ _ ts
theorem cback_true (W : World) (s : ByteArray) (v1 v2 : Value) (ns : List Int) (ts : List Fld) (h1 : Rel W (fun _ => 0) (old W) (.sl false 1 (ints ns)) v1) (h2 : Rel W (fun _ => 0) (old W) (.sl false 2 (flds ts)) v2) (hm : s.size ≤ maxLen)
    (hz : ∀ z ∈ ns, -9223372036854775808 ≤ z ∧ z ≤ 9223372036854775807) (hw : s.size + ns.length + (fsz ts + ts.length) ≤ 1048576) (b : ByteArray) (hb : b.size ≤ 1048576) (hS : Signs W) (hT : Tz W) :
    Calls Tryd.prog 11 #[.agg #[.string s, v1, v2], .string b] W fun e w' => e = .returned (.bool true) ∧ Frm (fun _ => False) W w' := by
  refine calls_sz (args := [.agg [.str s.data.toList, .sl false 1 (ints ns), .sl false 2 (flds ts)], .str b.data.toList]) hS hT rfl (fun t x u hx hu => ?_)
    (fun E Q hE h => lback_pc E [] Q hE s.data.toList ns ts b.data.toList (by rw [size_toList]; omega) (by omega) (by omega) (by rw [size_toList]; exact hb) hz h)
  match t with
  | 0 => simp at hx hu; subst hx; subst hu; exact rel_coded h1 h2 hm
  | 1 => simp at hx hu; subst hx; subst hu; exact rel_stringW W b hb
  | t + 2 => simp at hx
theorem copen_true (W : World) (s : ByteArray) (v1 v2 : Value) (ns : List Int) (ts : List Fld) (h1 : Rel W (fun _ => 0) (old W) (.sl false 1 (ints ns)) v1) (h2 : Rel W (fun _ => 0) (old W) (.sl false 2 (flds ts)) v2) (hm : s.size ≤ maxLen)
    (hz : ∀ z ∈ ns, -9223372036854775808 ≤ z ∧ z ≤ 9223372036854775807) (hw : s.size + ns.length + (fsz ts + ts.length) ≤ 1048576) (cut : Int) (hc : -9223372036854775808 ≤ cut ∧ cut ≤ 9223372036854775807) (hS : Signs W) (hT : Tz W) :
    Calls Tryd.prog 12 #[.agg #[.string s, v1, v2], .int .i64 cut] W fun e w' => e = .returned (.bool true) ∧ Frm (fun _ => False) W w' := by
  refine calls_sz (args := [.agg [.str s.data.toList, .sl false 1 (ints ns), .sl false 2 (flds ts)], .int .i64 cut]) hS hT rfl (fun t x u hx hu => ?_)
    (fun E Q hE h => lopen_pc E [] Q hE s.data.toList ns ts cut (by rw [size_toList]; omega) (by omega) (by omega) hc hz h)
  match t with
  | 0 => simp at hx hu; subst hx; subst hu; exact rel_coded h1 h2 hm
  | 1 => simp at hx hu; subst hx; subst hu; exact ⟨.int _ _, .int _ _, rfl⟩
  | t + 2 => simp at hx
end Go.Proofs.YtimhofphmgehgaaDoor
