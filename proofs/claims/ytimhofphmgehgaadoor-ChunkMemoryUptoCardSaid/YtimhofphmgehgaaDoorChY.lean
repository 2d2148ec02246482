/- The document's Decode; ChunkDecodes. -/
import Derived.Test.YtimhofphmgehgaaDoorChX
import Derived.Test.YtimhofphmgehgaaDoorOpen
set_option linter.unusedVariables false
set_option linter.unnecessarySimpa false
set_option linter.unusedSimpArgs false
set_option linter.unusedSectionVars false
set_option maxRecDepth 100000
namespace Go.Proofs.YtimhofphmgehgaaDoor
open Go Go.RowKit Go.Proofs

theorem stepD_done (d : Dec) (b : UInt8) (h : d.done = false) : (stepD d b).1.done = true → (stepD d b).2 = 0 := by
  unfold stepD sizeD dataD firstD secondD trailerD
  (repeat' split) <;> simp [h]
theorem feed1_done (d : Dec) (b : UInt8) (h : d.done = false) (h1 : (feed1 d b).done = true) : (feed1 d b).err = 0 := stepD_done { d with total := d.total + 1 } b h h1
theorem feedD_done : ∀ (s : List UInt8) (d : Dec), d.done = false → d.err = 0 → (feedD d s).1.done = true → (feedD d s).1.err = 0
  | [], d, h, he, h1 => he
  | b :: s, d, h, he, h1 => by
    rw [feedD_cons] at h1 ⊢
    by_cases hc : (feed1 d b).done = true ∨ (feed1 d b).err ≠ 0
    · rw [if_pos hc] at h1 ⊢
      exact feed1_done d b h h1
    · rw [if_neg hc] at h1 ⊢
      exact feedD_done s (feed1 d b) (by cases hd : (feed1 d b).done; rfl; exact absurd (.inl hd) hc) (by by_cases he : (feed1 d b).err = 0; exact he; exact absurd (.inr he) hc) h1
section
variable (E : Env) (H : Hp) (Q : AV → Hp → Prop)
theorem limits_pc (m r f : Int) (hQ : Q (.int .i64 (if m < 0 ∨ r < 0 ∨ f < 0 then 1 else 0)) H) : PC Tryd.prog E 53 [.int .i64 m, .int .i64 r, .int .i64 f] H Q := by
  refine pc_enter Tryd.func53 rfl [] [] (by kernel_rfl) (fun hB => ?_)
  by_cases h1 : m < 0
  · rw [if_pos (.inl h1)] at hQ
    simp [Tryd.ntmps53, Tryd.results53, List.replicate_succ, h1]
    exact aPost_same0 hB rfl (nilV_refl _) (by simp) hQ
  · by_cases h2 : r < 0
    · rw [if_pos (.inr (.inl h2))] at hQ
      simp [Tryd.ntmps53, Tryd.results53, List.replicate_succ, h1, h2]
      exact aPost_same0 hB rfl (nilV_refl _) (by simp) hQ
    · by_cases h3 : f < 0
      · rw [if_pos (.inr (.inr h3))] at hQ
        simp [Tryd.ntmps53, Tryd.results53, List.replicate_succ, h1, h2, h3]
        exact aPost_same0 hB rfl (nilV_refl _) (by simp) hQ
      · rw [if_neg (by omega)] at hQ
        simp [Tryd.ntmps53, Tryd.results53, List.replicate_succ, h1, h2, h3]
        exact aPost_same0 hB rfl (nilV_refl _) (by simp) hQ
theorem ddecode_pc (s : List UInt8) (m r f : Int) (hs : s.length ≤ 1000000000) (hm : m ≤ 9223372036854775807)
    (hQ : Q (.tup [.str (decodeD s m r f).1, .sl false 2 (flds (decodeD s m r f).2.1), .int .i64 (decodeD s m r f).2.2.1, .int .i64 (decodeD s m r f).2.2.2]) H) : PC Tryd.prog E 22 [.str s, .int .i64 m, .int .i64 r, .int .i64 f] H Q := by
  refine pc_enter Tryd.func22 rfl [] [] (by kernel_rfl) (fun hB => ?_)
  simp [Tryd.ntmps22, Tryd.results22, List.replicate_succ]
  refine limits_pc E _ _ m r f ?_
  by_cases hneg : m < 0 ∨ r < 0 ∨ f < 0
  · unfold decodeD at hQ
    rw [if_pos hneg] at hQ
    rw [if_pos hneg]
    simp
    exact aPost_same0 hB (v0 := .tup [.str [], .nil, .int .i64 0, .int .i64 1]) (by simp) (nilV_tup4 2 _ _ _ rfl rfl rfl) (by simp) hQ
  · unfold decodeD at hQ
    rw [if_neg hneg] at hQ
    rw [if_neg hneg]
    obtain ⟨r, rfl⟩ : ∃ k : Nat, r = k := ⟨r.toNat, by omega⟩
    simp
    refine walk_pc E _ _ m f r s hs ⟨by omega, hm⟩ (fun t e dn B T hE => ?_)
    obtain ⟨h1, h2, h3, h4, h5⟩ := hE
    have hdn := feedD_done s (newD m r f) rfl rfl
    have hle := feedD_le s (newD m r f)
    rw [h1] at hle
    rw [h2, h3] at hdn
    rw [h1, h2, h3, h4, h5] at hQ
    cases dn with
    | true =>
      rw [if_neg (by simp [hdn rfl]), if_neg (by simp)] at hQ
      simp [wkA]
      exact aPost_same hB (v0 := .tup [.str B, .sl false 2 (flds T), .int .i64 t, .int .i64 0]) (by simp) (nilV_refl _) (by simp) hQ
    | false =>
      by_cases he : e = 0
      · rw [if_neg (by simp [he]), if_pos rfl] at hQ
        simp [wkA, he]
        exact aPost_same hB (v0 := .tup [.str [], .nil, .int .i64 s.length, .int .i64 105]) (by simp) (nilV_tup4 2 _ _ _ rfl rfl rfl) (by simp) hQ
      · rw [if_pos he] at hQ
        have he2 : (e != 0) = true := by simpa using he
        have hw : IntKind.i64.wrap ((t : Int) - 1) = t - 1 := wrap_in (by omega) (by omega)
        simp [wkA, he2, hw]
        exact aPost_same hB (v0 := .tup [.str [], .nil, .int .i64 ((t : Int) - 1), .int .i64 e]) (by simp) (nilV_tup4 2 _ _ _ rfl rfl rfl) (by simp) hQ
def sameInv (a : List Fld) (H : Hp) (fr : List AV) (H' : Hp) : Prop := H' = H ∧ ∃ i : Nat, i ≤ a.length ∧ ∃ x : Nat → AV, fr = [.sl false 2 (flds a), .sl false 2 (flds a), x 2, x 3, x 4, x 5, x 6, x 7, x 8, x 9, x 10, x 11, .int .i64 a.length, .int .i64 i, x 14, x 15, x 16, x 17, x 18, x 19, x 20, x 21, x 22, x 23, x 24, x 25, x 26, x 27, x 28, x 29, x 30, x 31, x 32, x 33, x 34, x 35, x 36, x 37, x 38, x 39, x 40]
theorem same_pc (a : List Fld) (ha : a.length ≤ 1073741824) (hQ : Q (.bool true) H) : PC Tryd.prog E 23 [.sl false 2 (flds a), .sl false 2 (flds a)] H Q := by
  refine pc_enter Tryd.func23 rfl [] [] (by kernel_rfl) (fun hB => ?_)
  simp [Tryd.ntmps23, Tryd.results23, List.replicate_succ]
  refine VL_go (sameInv a H) (fun fr _ => a.length - (ai (aget fr 13)).toNat) ⟨rfl, 0, by omega, fr_intro (by simp)⟩ ?_
  rintro fr H' ⟨rfl, i, hi, x, rfl⟩
  by_cases h : i < a.length
  · obtain ⟨u, hu⟩ : ∃ u, a[i]? = some u := ⟨_, List.getElem?_eq_getElem h⟩
    have hat1 := flds_at hu
    have hw : IntKind.i64.wrap ((i : Int) + 1) = i + 1 := wrap_in (by omega) (by omega)
    obtain ⟨n1, v1⟩ := u
    simp only at hat1
    simp [h, hat1, hw]
    exact Kloop_normal ⟨rfl, i + 1, by omega, fr_intro (by simp)⟩ (by simp; omega)
  · simp [h]
    exact aPost_same0 hB rfl (nilV_refl _) (by simp) hQ
theorem decodeD_len (s : List UInt8) (m r f : Int) (hs : s.length ≤ 1000000000) (h1 : m ≤ 9223372036854775807) (h2 : r ≤ 9223372036854775807) (h3 : f ≤ 9223372036854775807) : (decodeD s m r f).2.1.length ≤ 1073741824 := by
  unfold decodeD
  split
  · simp
  · split
    · simp
    · split
      · simp
      · rename_i g _ _
        obtain ⟨hok, ht⟩ := feedD_ok s (newD m r f) (newD_ok m r f ⟨by omega, h1⟩ ⟨by omega, h2⟩ ⟨by omega, h3⟩)
        have hle := feedD_le s (newD m r f)
        have := hok.2.2.1
        have ht0 : (newD m r f).total = 0 := rfl
        simp only
        omega
theorem ldecodes_pc (hE : SE E) (s : List UInt8) (m r f : Int) (hs : s.length ≤ 1000000000) (h1 : m ≤ 9223372036854775807) (h2 : r ≤ 9223372036854775807) (h3 : f ≤ 9223372036854775807) (hQ : Q (.bool true) H) :
    PC Tryd.prog E 5 [.str s, .agg [.int .i64 m, .int .i64 r, .int .i64 f]] H Q := by
  refine pc_enter Tryd.func5 rfl [] [] (by kernel_rfl) (fun hB => ?_)
  simp [Tryd.ntmps5, Tryd.results5, List.replicate_succ]
  refine lawake_pc E _ _ hE ?_
  simp
  refine decode_pc E _ _ hE s m r f hs h1 h2 h3 ?_
  simp
  refine ddecode_pc E _ _ s m r f hs h1 ?_
  simp
  refine same_pc E _ _ _ (decodeD_len s m r f hs h1 h2 h3) ?_
  simp
  exact aPost_same hB rfl (nilV_refl _) (by simp) hQ
end
theorem kind_i64 {x : AV} (h : KindOf (.int .i64) x) : ∃ z, x = .int .i64 z ∧ -9223372036854775808 ≤ z ∧ z ≤ 9223372036854775807 := by
  cases x <;> simp [KindOf] at h
  obtain ⟨rfl, h⟩ := h
  refine ⟨_, rfl, ?_⟩
  simpa [Lit.wf, IntKind.min, IntKind.max, IntKind.signed, IntKind.bits] using h
theorem kind_bool {x : AV} (h : KindOf .bool x) : ∃ z, x = .bool z := by
  cases x <;> simp [KindOf] at h
  exact ⟨_, rfl⟩
theorem kind_str {x : AV} (h : KindOf .str x) : ∃ z, x = .str z := by
  cases x <;> simp [KindOf] at h
  exact ⟨_, rfl⟩
theorem rel_limits {W : World} {cs : Array Value} {ks : List AV} (op : Opened W [.int .i64, .int .i64, .int .i64] cs.toList ks) : ∃ m r f : Int, ks = [.int .i64 m, .int .i64 r, .int .i64 f] ∧ (-9223372036854775808 ≤ m ∧ m ≤ 9223372036854775807) ∧ (-9223372036854775808 ≤ r ∧ r ≤ 9223372036854775807) ∧ (-9223372036854775808 ≤ f ∧ f ≤ 9223372036854775807) ∧
    Rel W (fun _ => 0) (old W) (.agg [.int .i64 m, .int .i64 r, .int .i64 f]) (.agg cs) ∧ Bnd 0 (.agg [.int .i64 m, .int .i64 r, .int .i64 f]) ∧ (AV.agg [.int .i64 m, .int .i64 r, .int .i64 f]).free = true := by
  match ks, op.len with
  | [y0, y1, y2], _ =>
    obtain ⟨z0, rfl, w0⟩ := kind_i64 (op.kind 0 _ _ rfl rfl)
    obtain ⟨z1, rfl, w1⟩ := kind_i64 (op.kind 1 _ _ rfl rfl)
    obtain ⟨z2, rfl, w2⟩ := kind_i64 (op.kind 2 _ _ rfl rfl)
    refine ⟨z0, z1, z2, rfl, w0, w1, w2, .agg _ _ (by have := op.clen; simpa using this) (fun x hx => ?_) (fun j x u hx hu => ?_), ?_, rfl⟩
    · simp at hx
      rcases hx with rfl | rfl | rfl <;> exact ⟨rfl, rfl⟩
    · exact (op.rel j x u hx (by simpa using hu)).2.2.1
    · simp
theorem cdecodes_true (W : World) (s : ByteArray) (hs : s.size ≤ 1048576) (cs : Array Value) (ks : List AV) (op : Opened W [.int .i64, .int .i64, .int .i64] cs.toList ks) (hS : Signs W) : Calls Tryd.prog 5 #[.string s, .agg cs] W fun e w' => e = .returned (.bool true) ∧ Frm (fun _ => False) W w' := by
  obtain ⟨m, r, f, rfl, w0, w1, w2, hr⟩ := rel_limits op
  exact calls_signs (args := [.str s.data.toList, .agg [.int .i64 m, .int .i64 r, .int .i64 f]]) hS rfl (fun t x u hx hu => by
    match t with
    | 0 => simp at hx hu; subst hx; subst hu; exact rel_stringW W s hs
    | 1 => simp at hx hu; subst hx; subst hu; exact hr
    | t + 2 => simp at hx) (fun E Q hE h => ldecodes_pc E [] Q hE s.data.toList m r f (by rw [size_toList]; omega) w0.2 w1.2 w2.2 h)
end Go.Proofs.YtimhofphmgehgaaDoor
