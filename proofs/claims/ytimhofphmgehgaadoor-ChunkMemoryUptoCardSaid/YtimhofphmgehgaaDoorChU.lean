/- The document's walk through a text of chunks: where a line ends, what failed, what is open, the trailers. -/
import Derived.Test.YtimhofphmgehgaaDoorChT
set_option linter.unusedVariables false
set_option linter.unnecessarySimpa false
set_option linter.unusedSimpArgs false
set_option linter.unusedSectionVars false
set_option maxRecDepth 100000
namespace Go.Proofs.YtimhofphmgehgaaDoor
open Go Go.RowKit Go.Proofs

/-- The place of the first 10 from a on, if fewer than m bytes stand ahead of it. -/
def endAns (l : List UInt8) (a m : Nat) : Int := if a + run not10 (l.drop a) < l.length ∧ run not10 (l.drop a) < m then ((a + run not10 (l.drop a) : Nat) : Int) else -1
/-- What the document tells of a text: how far, the error, done, the body, the trailers. -/
def wkA (t e : Int) (d : Bool) (b : List UInt8) (z : AV) : AV := .agg [.int .i64 t, .int .i64 e, .bool d, .str b, z]
section
variable (E : Env) (H : Hp) (Q : AV → Hp → Prop)
def endInv (l : List UInt8) (a m : Nat) (H : Hp) (fr : List AV) (H' : Hp) : Prop := H' = H ∧ ∃ n : Nat, a + n ≤ l.length ∧ n ≤ m ∧ ((l.drop a).take n).all not10 = true ∧ ∃ x : Nat → AV, fr = [.str l, .int .i64 a, .int .i64 m, x 3, x 4, x 5, x 6, .int .i64 (a + n : Nat), x 8, x 9, x 10, x 11, x 12, x 13, x 14, x 15, x 16, x 17, x 18, x 19, x 20, x 21, x 22, x 23, x 24, x 25, x 26]
theorem ending_pc (l : List UInt8) (a m : Nat) (hl : l.length ≤ 1000000000) (ha : a ≤ l.length) (hm : m ≤ 1000000000) (hQ : Q (.int .i64 (endAns l a m)) H) : PC Tryd.prog E 81 [.str l, .int .i64 a, .int .i64 m] H Q := by
  refine pc_enter Tryd.func81 rfl [] [] (by kernel_rfl) (fun hB => ?_)
  simp [Tryd.ntmps81, Tryd.results81, List.replicate_succ]
  refine VL_go (endInv l a m H) (fun fr _ => l.length - (ai (aget fr 7)).toNat) ⟨rfl, 0, by omega, by omega, rfl, fr_intro (by simp)⟩ ?_
  rintro fr H' ⟨rfl, n, hn, hnm, hall, x, rfl⟩
  obtain ⟨i, hi⟩ : ∃ i, i = a + n := ⟨_, rfl⟩
  rw [← hi] at hn ⊢
  have hw : IntKind.i64.wrap ((i : Int) + 1) = i + 1 := wrap_in (by omega) (by omega)
  have hw2 : IntKind.i64.wrap ((i : Int) - a) = n := by rw [wrap_in (by omega) (by omega)]; omega
  by_cases h : i < l.length
  · obtain ⟨b, hb⟩ : ∃ b, l[i]? = some b := ⟨_, List.getElem?_eq_getElem h⟩
    have hb2 : (l.drop a)[n]? = some b := by rw [List.getElem?_drop, ← hi]; exact hb
    have hat := lat_eq hb
    by_cases hnm2 : n < m
    · by_cases h10 : b = 10
      · subst h10
        have hr : run not10 (l.drop a) = n := run_step not10 _ n hall (by rw [List.length_drop]; omega) (fun c hc => by rw [hb2] at hc; cases hc; rfl)
        have he : endAns l a m = (i : Int) := by unfold endAns; rw [hr, if_pos ⟨by omega, hnm2⟩, ← hi]
        rw [he] at hQ
        simp [h, hw2, hnm2, hat]
        exact aPost_same0 hB rfl (nilV_refl _) (by simp) hQ
      · have t1 : ((b.toNat : Int) == 10) = false := byte_ne b 10 (by omega) h10
        simp [h, hw2, hnm2, hat, t1, hw]
        exact Kloop_normal ⟨rfl, n + 1, by omega, by omega, by rw [all_step not10 (l.drop a) n b hb2, hall]; simp [not10, h10], fr_intro (by simp; omega)⟩ (by simp; omega)
    · have he : endAns l a m = -1 := by
        unfold endAns; rw [if_neg]; rintro ⟨h1, h2⟩
        have h3 := run_stop (p := not10) (l := l.drop a) (by rw [List.length_drop]; omega)
        obtain ⟨c, h4, h5⟩ := h3
        have : run not10 (l.drop a) < n := by omega
        have h6 : ((l.drop a).take n)[run not10 (l.drop a)]? = some c := by rw [List.getElem?_take_of_lt this]; exact h4
        rw [all_bad not10 _ _ c h6 h5] at hall; cases hall
      rw [he] at hQ
      simp [h, hw2, hnm2]
      exact aPost_same0 hB rfl (nilV_refl _) (by simp) hQ
  · have he : endAns l a m = -1 := by
      have hr : run not10 (l.drop a) = n := run_step not10 _ n hall (by rw [List.length_drop]; omega) (fun c hc => by rw [List.getElem?_drop] at hc; have := (List.getElem?_eq_some_iff.1 hc).1; omega)
      unfold endAns; rw [hr, if_neg]; rintro ⟨h1, h2⟩; omega
    rw [he] at hQ
    simp [h]
    exact aPost_same0 hB rfl (nilV_refl _) (by simp) hQ
variable (t e : Int) (d : Bool) (b : List UInt8) (z : AV) (z1 : z.dis = z) (z2 : z.free = true) (z3 : Bnd H.length z)
include z1 z2 z3
theorem failed_pc (a : Nat) (e' : Int) (ha : a ≤ 1000000000) (hQ : Q (wkA (a + 1 : Nat) e' d b z) H) : PC Tryd.prog E 83 [wkA t e d b z, .int .i64 a, .int .i64 e'] H Q := by
  refine pc_enter Tryd.func83 rfl [] [] (by kernel_rfl) (fun hB => ?_)
  have hw : IntKind.i64.wrap ((a : Int) + 1) = ((a + 1 : Nat) : Int) := by rw [wrap_in (by omega) (by omega)]; omega
  simp [Tryd.ntmps83, Tryd.results83, List.replicate_succ, wkA, hw, z1, z2, -Int.natCast_add]
  exact aPost_same hB (v0 := wkA (a + 1 : Nat) e' d b z) (by simp [wkA, z1, z2, -Int.natCast_add]) (nilV_refl _) (by simp [wkA, z3]) hQ
theorem open_pc (l : List UInt8) (a n : Nat) (e' : Int) (hl : l.length ≤ 1000000000) (ha : a ≤ l.length) (hQ1 : n < l.length - a → Q (wkA (a + n + 1 : Nat) e' d b z) H) (hQ2 : l.length - a ≤ n → Q (wkA l.length e d b z) H) :
    PC Tryd.prog E 82 [wkA t e d b z, .str l, .int .i64 a, .int .i64 n, .int .i64 e'] H Q := by
  refine pc_enter Tryd.func82 rfl [] [] (by kernel_rfl) (fun hB => ?_)
  have hw1 : IntKind.i64.wrap ((l.length : Int) - a) = ((l.length - a : Nat) : Int) := by rw [wrap_in (by omega) (by omega)]; omega
  by_cases h : n < l.length - a
  · have hw2 : IntKind.i64.wrap ((a : Int) + n) = ((a + n : Nat) : Int) := by rw [wrap_in (by omega) (by omega)]; omega
    have h' : (n : Int) < ((l.length - a : Nat) : Int) := by omega
    simp [Tryd.ntmps82, Tryd.results82, List.replicate_succ, wkA, hw1, hw2, h', z1, z2, -Int.natCast_add]
    refine failed_pc E _ _ t e d b z z1 z2 (z3.mono (by simp)) (a + n) e' (by omega) ?_
    simp [wkA, z1, z2, -Int.natCast_add]
    exact aPost_same hB (v0 := wkA (a + n + 1 : Nat) e' d b z) (by simp [wkA, z1, z2, -Int.natCast_add]) (nilV_refl _) (by simp [wkA, z3]) (hQ1 h)
  · have h' : ¬ (n : Int) < ((l.length - a : Nat) : Int) := by omega
    simp [Tryd.ntmps82, Tryd.results82, List.replicate_succ, wkA, hw1, h', z1, z2, -Int.natCast_add]
    exact aPost_same hB (v0 := wkA l.length e d b z) (by simp [wkA, z1, z2, -Int.natCast_add]) (nilV_refl _) (by simp [wkA, z3]) (hQ2 (by omega))
end
end Go.Proofs.YtimhofphmgehgaaDoor
