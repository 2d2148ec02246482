/- The law's step in the abstract machine. -/
import Derived.Test.YtgofogcfolhonaaRingF
set_option linter.unusedVariables false
set_option linter.unusedSimpArgs false
set_option linter.unusedSectionVars false
set_option maxRecDepth 100000
namespace Go.Proofs.Ytgofogcfolhonaa
open Go Go.RowKit

structure RgOp where
  kind : Int
  i : Int
  n : Int
  p : List UInt8
def RgOp.av (o : RgOp) : List AV := [.int .i64 o.kind, .int .i64 o.i, .int .i64 o.n, .sl false 1 (bts o.p)]
def RgOp.wf (o : RgOp) : Prop := (-9223372036854775808 ≤ o.kind ∧ o.kind ≤ 9223372036854775807) ∧ (-9223372036854775808 ≤ o.i ∧ o.i ≤ 9223372036854775807) ∧ (-9223372036854775808 ≤ o.n ∧ o.n ≤ 9223372036854775807)
theorem Oth.refl (H : Hp) (r : Option Nat) : Oth H H r := ⟨rfl, fun _ _ => rfl⟩
theorem RW.lt {H : Hp} {r : Option Nat} {cap q : Nat} {l : List UInt8} (h : RW H r cap q l) : ∀ i, r = some i → i < H.length := fun i e => by subst e; exact RO.lt h
theorem RW.of_eq {H H' : Hp} {r : Option Nat} {cap q : Nat} {l : List UInt8} (h : RW H r cap q l) (he : ∀ i, r = some i → H'[i]? = H[i]?) : RW H' r cap q l := by
  cases r with
  | some i => exact RO.of_eq h (he i rfl)
  | none => exact h
theorem Oth.box {H J H2 : Hp} {r : Option Nat} (h : Oth (H ++ J) H2 r) (hr : ∀ i, r = some i → i < H.length) (j : Nat) : H2[H.length + j]? = J[j]? := by
  rw [h.2 _ (fun e => by have := hr _ e; omega), List.getElem?_append_right (by omega)]
  congr 1; omega
/-- Where a function ends that has turned a ring, its own boxes dropped. -/
theorem aPost_cut {P : Program} {rs : List ResultVar} {Q : AV → Hp → Prop} {fr : List AV} {H J H2 H3 : Hp} {r : Option Nat} {cap q q' : Nat} {l l' : List UInt8} {v : AV} (hB : BndH H.length H) (hr : RW H r cap q l) (ho : Oth (H ++ J) H2 r) (hr2 : RW H2 r cap q' l') (h3 : H3.length = H2.length) (h3' : ∀ j, j < H.length → H3[j]? = H2[j]?)
    (h1 : ares P fr H3 rs = some v) (h5 : Bnd H.length v) (h6 : ∀ H', RW H' r cap q' l' → Oth H H' r → BndH H'.length H' → Q v H') : aPost P rs H.length Q .ret fr H3 := by
  have hl2 : H2.length = H.length + J.length := by rw [ho.1, List.length_append]
  have hlt : (H3.take H.length).length = H.length := by rw [List.length_take]; omega
  have hat : ∀ j, j < H.length → (H3.take H.length)[j]? = H2[j]? := fun j hj => by rw [List.getElem?_take_of_lt hj, h3' j hj]
  have hO : Oth H (H3.take H.length) r := ⟨hlt, fun j hj => by
    by_cases hjl : j < H.length
    · rw [hat j hjl, ho.2 j hj, List.getElem?_append_left hjl]
    · rw [List.getElem?_eq_none (by omega), List.getElem?_eq_none (by omega)]⟩
  have hR : RW (H3.take H.length) r cap q' l' := hr2.of_eq (fun i e => hat i (hr.lt i e))
  have hBn : BndH (H3.take H.length).length (H3.take H.length) := by
    rw [hlt]
    intro m hm x hx
    obtain ⟨j, hj⟩ := List.getElem?_of_mem hm
    by_cases he : r = some j
    · subst he
      obtain ⟨_, _, _, _, st, _, hc, _⟩ := hR
      rw [hj] at hc
      cases hc
      simp at hx
      rcases hx with rfl | rfl | rfl
      · exact .ex _ _
      · exact .int _ _
      · exact .int _ _
    · rw [hO.2 j he] at hj
      exact hB m (List.mem_of_getElem? hj) x hx
  have e : H3 = H3.take H.length ++ H3.drop H.length := (List.take_append_drop _ _).symm
  exact ⟨v, v, H3, H3.take H.length, H3.drop H.length, h1, nilV_refl _, nilH_refl _, e, by omega, hBn, by rw [hlt]; exact h5, h6 _ hR hO hBn⟩
theorem peek_piece (l : List UInt8) (fr n : Int) : peekL l fr n = pieceL l fr n := by
  by_cases h1 : fr < 0
  · have a : peekL l fr n = [] := if_pos (.inl h1)
    have b : pieceL l fr n = [] := if_pos (.inl h1)
    rw [a, b]
  · by_cases h2 : n ≤ 0
    · have b : pieceL l fr n = [] := if_pos (.inr h2)
      rw [b]
      unfold peekL
      split
      · rfl
      · rw [show n.toNat = 0 by omega]; simp
    · have b : pieceL l fr n = (l.drop fr.toNat).take n.toNat := if_neg (by omega)
      rw [b]
      unfold peekL
      split
      · rw [List.drop_of_length_le (by omega)]; simp
      · rfl
theorem peekL_len (l : List UInt8) (fr n : Int) : (peekL l fr n).length ≤ l.length := by
  unfold peekL
  split
  · simp
  · rw [List.length_take, List.length_drop]; omega
set_option maxHeartbeats 4000000 in
theorem lstep_pc (E : Env) (H : Hp) (Q : AV → Hp → Prop) (hM : ME E) (r : Option Nat) (cap q : Nat) (l : List UInt8) (h : RW H r cap q l) (o : RgOp) (hw : o.wf) (hp : o.p.length ≤ 1073741824)
    (hQ : ∀ H' q' l', RW H' r cap q' l' → Oth H H' r → BndH H'.length H' → Q (.tup [dR cap l' q', .bool true]) H') :
    PC Try.prog E 54 [rptr r, dR cap l q, .agg o.av] H Q := by
  obtain ⟨f1, f2, f3, f4, f5⟩ := h.fits
  obtain ⟨⟨k1, k2⟩, ⟨i1, i2⟩, ⟨n1, n2⟩⟩ := hw
  obtain ⟨kd, oi, on, p⟩ := o
  simp only at k1 k2 i1 i2 n1 n2 hp
  have hcz : cap = 0 → q = 0 := fun e => by omega
  have hcn : cap ≠ 0 → q < cap := fun e => (f5 (fun e2 => e (f4 e2))).2
  have hlm : l.length ≤ maxLen := by unfold maxLen; omega
  have hlt := h.lt
  refine pc_enter Try.func54 rfl [] [(17, [0, 0, 0, 0, 0, 1]), (23, [0, 0, 0, 0, 1]), (36, [0, 1]), (38, [0, 1]), (40, [0, 1]), (42, [0, 1]), (43, [0, 0, 0, 0, 0, 0, 1])] (by kernel_rfl) (fun hB => ?_)
  simp [Try.ntmps54, Try.results54, List.replicate_succ, dR, RgOp.av]
  refine lcopied_pc E _ _ p (by omega) ?_
  simp
  refine lkind_pc E _ _ kd 13 (by omega) (by omega) k1 k2 ?_
  obtain ⟨k, hk, hk13⟩ : ∃ k : Nat, kd % 13 = k ∧ k < 13 := ⟨(kd % 13).toNat, by omega, by omega⟩
  rw [hk]
  clear hk
  rcases (by omega : k = 0 ∨ k = 1 ∨ k = 2 ∨ k = 3 ∨ k = 4 ∨ k = 5 ∨ k = 6 ∨ k = 7 ∨ k = 8 ∨ k = 9 ∨ k = 10 ∨ k = 11 ∨ k = 12) with rfl | rfl | rfl | rfl | rfl | rfl | rfl | rfl | rfl | rfl | rfl | rfl | rfl
  all_goals simp
  · refine dput_pc E _ cap q l _ f1 f2 p (by omega) ?_
    simp [dR]
    refine rput_pc E _ r cap q l _ (h.app _) p hp (fun H2 hr2 ho => ?_)
    have b0 := ho.box hlt 0
    have b1 := ho.box hlt 1
    have b2 := ho.box hlt 2
    simp at b0 b1 b2
    have hl2 := ho.1
    simp at hl2
    have hc2 : H.length + 2 < H2.length := by omega
    simp [b0, b1, b2]
    refine lwhole_pc E _ _ p (by omega) ?_
    simp [b0, b1, b2]
    exact aPost_cut hB h ho hr2 (by simp) (fun j hj => List.getElem?_set_ne (by omega)) (by simp [dR, hs4 hc2]) (by simp [dR]) (fun H' g1 g2 g3 => hQ H' _ _ g1 g2 g3)
  · by_cases hfit : l.length + p.length ≤ cap
    · refine dputAll_pc E _ cap q l _ f1 f2 p (by omega) (fun _ => ?_) (fun hh => absurd hh (by omega))
      simp [dR]
      refine rputAll_pc E _ r cap q l _ (h.app _) p hp (fun _ H2 hr2 ho => ?_) (fun hh => absurd hh (by omega))
      have b0 := ho.box hlt 0
      have b1 := ho.box hlt 1
      have b2 := ho.box hlt 2
      simp at b0 b1 b2
      have hl2 := ho.1
      simp at hl2
      have hc2 : H.length + 2 < H2.length := by omega
      simp [b0, b1, b2]
      refine lwhole_pc E _ _ p (by omega) ?_
      simp [b0, b1, b2]
      exact aPost_cut hB h ho hr2 (by simp) (fun j hj => List.getElem?_set_ne (by omega)) (by simp [dR, hs4 hc2]) (by simp [dR]) (fun H' g1 g2 g3 => hQ H' _ _ g1 g2 g3)
    · refine dputAll_pc E _ cap q l _ f1 f2 p (by omega) (fun hh => absurd hh hfit) (fun _ => ?_)
      simp [dR]
      refine rputAll_pc E _ r cap q l _ (h.app _) p hp (fun hh => absurd hh hfit) (fun _ => ?_)
      simp
      refine lwhole_pc E _ _ p (by omega) ?_
      simp
      exact aPost_same hB (by simp [dR]) (nilV_refl _) (by simp [dR]) (hQ H q l h (Oth.refl _ _) hB)
  · by_cases hin : 0 ≤ oi ∧ oi < l.length
    · obtain ⟨x, hx⟩ : ∃ x, l[oi.toNat]? = some x := ⟨_, List.getElem?_eq_getElem (by omega)⟩
      refine rat_pc E _ r cap q l _ (h.app _) oi i2 (fun y _ hy => ?_) (fun hh => absurd hh (by omega))
      rw [hx] at hy
      cases hy
      simp
      refine dat_pc E _ cap q l _ f1 f2 oi i2 (fun y _ hy => ?_) (fun hh => absurd hh (by omega))
      rw [hx] at hy
      cases hy
      simp
      refine lwhole_pc E _ _ p (by omega) ?_
      simp
      exact aPost_same hB (by simp [dR]) (nilV_refl _) (by simp [dR]) (hQ H q l h (Oth.refl _ _) hB)
    · have hno : ∀ x, 0 ≤ oi → l[oi.toNat]? = some x → False := fun x h1 h2 => hin ⟨h1, by have := (List.getElem?_eq_some_iff.1 h2).1; omega⟩
      refine rat_pc E _ r cap q l _ (h.app _) oi i2 (fun y h1 hy => (hno y h1 hy).elim) (fun _ => ?_)
      simp
      refine dat_pc E _ cap q l _ f1 f2 oi i2 (fun y h1 hy => (hno y h1 hy).elim) (fun _ => ?_)
      simp
      refine lwhole_pc E _ _ p (by omega) ?_
      simp
      exact aPost_same hB (by simp [dR]) (nilV_refl _) (by simp [dR]) (hQ H q l h (Oth.refl _ _) hB)
  · refine rpeek_pc E _ r cap q l _ (h.app _) oi on i1 i2 n2 ?_
    simp
    refine dpeek_pc E _ cap q l _ f1 f2 oi on i2 n2 ?_
    rw [← peek_piece]
    have hpl := peekL_len l oi on
    simp
    refine lsame_pc E _ _ _ _ _ _ (by omega) (by omega) ?_
    simp
    refine lwhole_pc E _ _ p (by omega) ?_
    simp
    exact aPost_same hB (by simp [dR]) (nilV_refl _) (by simp [dR]) (hQ H q l h (Oth.refl _ _) hB)
  · refine rparts_pc E _ r cap q l _ (h.app _) ?_
    simp
    refine dparts_pc E _ cap q l _ f1 f2 hcz hcn ?_
    simp
    have g1 : (l.take (cap - q)).length ≤ maxLen := by rw [List.length_take]; omega
    have g2 : (l.drop (cap - q)).length ≤ maxLen := by rw [List.length_drop]; omega
    refine lsame_pc E _ _ _ _ _ _ g1 g1 ?_
    simp
    refine lsame_pc E _ _ _ _ _ _ g2 g2 ?_
    simp
    refine lwhole_pc E _ _ p (by omega) ?_
    simp
    exact aPost_same hB (by simp [dR]) (nilV_refl _) (by simp [dR]) (hQ H q l h (Oth.refl _ _) hB)
  · by_cases hin : 0 ≤ oi ∧ oi ≤ l.length ∧ r ≠ none
    · have hc0 : cap ≠ 0 := by have := (f5 hin.2.2).1; omega
      refine rfind_pc E _ r cap q l _ (h.app _) hM p oi i2 (fun _ _ _ => ?_) (fun hh => absurd hh (by rintro (h1 | h1 | h1); all_goals first | omega | exact hin.2.2 h1))
      simp
      refine dfind_pc E _ cap q l p _ f1 f2 (by omega) oi i2 (fun _ _ _ => ?_) (fun hh => absurd hh (by omega))
      simp
      refine lwhole_pc E _ _ p (by omega) ?_
      simp
      exact aPost_same hB (by simp [dR]) (nilV_refl _) (by simp [dR]) (hQ H q l h (Oth.refl _ _) hB)
    · refine rfind_pc E _ r cap q l _ (h.app _) hM p oi i2 (fun h1 h2 h3 => absurd ⟨h1, h2, h3⟩ hin) (fun _ => ?_)
      simp
      refine dfind_pc E _ cap q l p _ f1 f2 (by omega) oi i2 (fun h1 h2 h3 => absurd ⟨h1, h2, fun e => h3 (f4 e)⟩ hin) (fun _ => ?_)
      simp
      refine lwhole_pc E _ _ p (by omega) ?_
      simp
      exact aPost_same hB (by simp [dR]) (nilV_refl _) (by simp [dR]) (hQ H q l h (Oth.refl _ _) hB)
  · refine dtake_pc E _ cap q l _ f1 f2 f3 on n1 n2 ?_
    simp [dR, -Int.natCast_emod]
    refine rtake_pc E _ r cap q l _ (h.app _) on n1 n2 (fun H2 hr2 ho => ?_)
    have b0 := ho.box hlt 0
    have b1 := ho.box hlt 1
    have b2 := ho.box hlt 2
    simp at b0 b1 b2
    have hl2 := ho.1
    simp at hl2
    have hc2 : H.length + 2 < H2.length := by omega
    simp [-Int.natCast_emod]
    have g1 : (l.take on.toNat).length ≤ maxLen := by rw [List.length_take]; omega
    refine lsame_pc E _ _ _ _ _ _ g1 g1 ?_
    simp [b0, b1, b2, -Int.natCast_emod]
    refine lwhole_pc E _ _ p (by omega) ?_
    simp [b0, b1, b2]
    exact aPost_cut hB h ho hr2 (by simp) (fun j hj => List.getElem?_set_ne (by omega)) (by simp [dR, hs4 hc2]) (by simp [dR]) (fun H' g1 g2 g3 => hQ H' _ _ g1 g2 g3)
  · refine dtake_pc E _ cap q l _ f1 f2 f3 on n1 n2 ?_
    simp [dR, -Int.natCast_emod]
    refine rdrop_pc E _ r cap q l _ (h.app _) on n1 n2 (fun H2 hr2 ho => ?_)
    have b0 := ho.box hlt 0
    have b1 := ho.box hlt 1
    have b2 := ho.box hlt 2
    simp at b0 b1 b2
    have hl2 := ho.1
    simp at hl2
    have hc2 : H.length + 2 < H2.length := by omega
    have e1 : Nat.min on.toNat l.length = min on.toNat l.length := rfl
    simp [b0, b1, b2, -Int.natCast_emod, e1]
    refine lwhole_pc E _ _ p (by omega) ?_
    simp [b0, b1, b2]
    exact aPost_cut hB h ho hr2 (by simp) (fun j hj => List.getElem?_set_ne (by omega)) (by simp [dR, hs4 hc2]) (by simp [dR]) (fun H' g1 g2 g3 => hQ H' _ _ g1 g2 g3)
  · refine rclear_pc E _ r cap q l _ (h.app _) (fun H2 hr2 ho => ?_)
    have b0 := ho.box hlt 0
    have b1 := ho.box hlt 1
    have b2 := ho.box hlt 2
    simp at b0 b1 b2
    have hl2 := ho.1
    simp at hl2
    have hc2 : H.length + 2 < H2.length := by omega
    simp [b0, b1, b2]
    have hc0 : H.length < H2.length := by omega
    have e1 : ∀ row, (H2.set H.length row)[H.length + 1]? = some [.int .i64 kd, .int .i64 oi, .int .i64 on, .sl false 1 (bts p)] := fun row => by rw [List.getElem?_set_ne (by omega), b1]
    have e2 : ∀ row, (H2.set H.length row)[H.length + 2]? = some [.int .i64 0, .nil, .int .i64 0] := fun row => by rw [List.getElem?_set_ne (by omega), b2]
    refine dclear_pc E _ cap q l _ f1 f2 ?_
    simp [b0, b1, b2, dR, hs4 hc0, e1, e2]
    refine lwhole_pc E _ _ p (by omega) ?_
    simp [e1, e2]
    exact aPost_cut hB h ho hr2 (by simp) (fun j hj => by rw [List.getElem?_set_ne (by omega), List.getElem?_set_ne (by omega)]) (by simp [dR, hs4 hc2, hc2]) (by simp [dR]) (fun H' g1 g2 g3 => hQ H' _ _ g1 g2 g3)
  · refine rlen_pc E _ r cap q l _ (h.app _) ?_
    simp
    refine lwhole_pc E _ _ p (by omega) ?_
    simp
    exact aPost_same hB (by simp [dR]) (nilV_refl _) (by simp [dR]) (hQ H q l h (Oth.refl _ _) hB)
  · refine rfree_pc E _ r cap q l _ (h.app _) ?_
    simp
    refine dfree_pc E _ cap q l _ f1 f2 ?_
    simp
    refine lwhole_pc E _ _ p (by omega) ?_
    simp
    exact aPost_same hB (by simp [dR]) (nilV_refl _) (by simp [dR]) (hQ H q l h (Oth.refl _ _) hB)
  · refine rhead_pc E _ r cap q l _ (h.app _) ?_
    simp
    refine dhead_pc E _ cap q l _ f1 f2 hcz hcn ?_
    simp
    refine lwhole_pc E _ _ p (by omega) ?_
    simp
    exact aPost_same hB (by simp [dR]) (nilV_refl _) (by simp [dR]) (hQ H q l h (Oth.refl _ _) hB)
  · refine rcap_pc E _ r cap q l _ (h.app _) ?_
    simp
    refine lwhole_pc E _ _ p (by omega) ?_
    simp
    exact aPost_same hB (by simp [dR]) (nilV_refl _) (by simp [dR]) (hQ H q l h (Oth.refl _ _) hB)
end Go.Proofs.Ytgofogcfolhonaa
