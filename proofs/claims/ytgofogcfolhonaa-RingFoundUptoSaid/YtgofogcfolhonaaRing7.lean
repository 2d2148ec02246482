/- The ring's Find, over the shelf's contract of bytes.Index. -/
import Derived.Test.YtgofogcfolhonaaRing4
import Derived.Test.YtgofogcfolhonaaLays
import Derived.Lib.IndexBytes
set_option linter.unusedVariables false
set_option linter.unusedSimpArgs false
namespace Go.Proofs.Ytgofogcfolhonaa
open Go Go.RowKit Go.Proofs

def ints (l : List UInt8) : List Int := l.map fun b => (b.toNat : Int)
theorem ints_len (l : List UInt8) : (ints l).length = l.length := by simp [ints]
theorem ints_rng (l : List UInt8) : ∀ x ∈ ints l, 0 ≤ x ∧ x < 256 := fun x hx => by
  obtain ⟨b, _, rfl⟩ := List.mem_map.1 hx
  have := b.toNat_lt
  omega
theorem ints_bytes (l : List UInt8) : Lib.bytesOf (ints l) = l := by
  unfold Lib.bytesOf ints
  rw [List.map_map]
  conv => rhs; rw [← List.map_id l]
  refine List.map_congr_left fun b _ => ?_
  simp
theorem index_any {w : World} {po qo : Option Addr} {n c k d : Nat} {x y : List UInt8} {m : Int} (hx : OSl w 1 (.slice po n c) n (u8s x)) (hy : RSl w 1 (.slice qo k d) k (u8s y)) (hn : n ≤ 1048576) (hm : w.cell? ⟨0, 0, none⟩ = some (.int .i64 m)) :
    Calls Try.prog 67 #[.slice po n c, .slice qo k d] w fun e w' => e = .returned (.int .i64 (Lib.index x y)) ∧ ∃ q, w' = w.drewN q := by
  have hxl : x.length = n := by have := hx.1; rw [u8s_length] at this; omega
  have hyl : y.length = k := by have := hy.1; rw [u8s_length] at this; omega
  have hkm : k ≤ 9223372036854775807 := by
    obtain ⟨_, _, _, he, h1, h2, _⟩ := hy
    cases he; unfold maxLen at h2; omega
  have cellOf : ∀ {w : World} {ao : Option Addr} {n c : Nat} {x : List UInt8}, RSl w 1 (.slice ao n c) n (u8s x) → x.length = n → ∀ a, ao = some a → ∀ i, i < n → w.cell? (a.add i) = some (.int .u8 ((ints x).getD i 0)) := by
    intro w ao n c x h hl a ha i hi
    obtain ⟨_, _, _, he, _, _, hc⟩ := h
    cases he
    obtain ⟨g, o, rfl, hc2⟩ := hc (by omega)
    cases ha
    rw [Lib.add_plain', hc2 i (by omega), u8s_at]
    have : x[i]? = some (x[i]'(by omega)) := List.getElem?_eq_getElem _
    rw [this]
    simp [ints, List.getD, this]
  rcases Nat.eq_zero_or_pos k with hk0 | hkp
  · subst hk0
    have : y = [] := List.length_eq_zero_iff.1 hyl
    subst this
    rw [Lib.index_empty]
    exact (Any.bytes_Index_none lays185 po qo n c d w).mono fun e w' ⟨h1, h2⟩ => ⟨h1, 0, h2⟩
  · obtain ⟨yg, yo, rfl⟩ : ∃ g o, qo = some ⟨g, o, none⟩ := by
      obtain ⟨_, _, _, he, _, _, hc⟩ := hy
      cases he
      obtain ⟨g, o, h, _⟩ := hc (by omega)
      exact ⟨g, o, h⟩
    obtain ⟨_, ⟨he, hz⟩ | ⟨g, o, cap, he, hcap, _, _, _, _⟩⟩ := id hx
    · cases he
      have : x = [] := List.length_eq_zero_iff.1 (by omega)
      subst this
      refine (Any.bytes_Index_nil lays185 (some ⟨yg, yo, none⟩) k d w hkm (fun h1 => ⟨yg, yo, _, rfl, by have := cellOf hy hyl _ rfl 0 (by omega); rw [Lib.add_plain', Nat.add_zero] at this; exact this⟩)).mono fun e w' ⟨h1, h2⟩ => ⟨?_, 0, h2⟩
      rw [h1, if_neg (by omega)]
      cases y with
      | nil => simp at hyl; omega
      | cons a y => rfl
    · cases he
      have := Any.bytes_Index_at lays185 ⟨g, o, none⟩ ⟨yg, yo, none⟩ n c k d (ints x) (ints y) m w (by rw [ints_len, hxl]) (by rw [ints_len, hyl]) (ints_rng x) (ints_rng y) (cellOf hx.toR hxl _ rfl) (cellOf hy hyl _ rfl) hcap (by omega) hkm hm
      rw [ints_bytes, ints_bytes] at this
      exact this
def findL (l p : List UInt8) (fr : Nat) : Int := if Lib.index (l.drop fr) p < 0 then -1 else fr + Lib.index (l.drop fr) p
set_option maxRecDepth 100000 in
set_option maxHeartbeats 1000000 in
theorem ring_find {w : World} {b T g cap q : Nat} {l : List UInt8} (r : RAt w b T g cap q l) {qo : Option Addr} {k d : Nat} {y : List UInt8} {m : Int} (hy : RSl w 1 (.slice qo k d) k (u8s y)) (fr : Nat) (hf : fr ≤ l.length) (hm : w.cell? ⟨0, 0, none⟩ = some (.int .i64 m)) :
    Calls Try.prog 53 #[.pointer (some ⟨b, 0, none⟩), .slice qo k d, .int .i64 fr] w fun e w' => e = .returned (.int .i64 (findL l y fr)) ∧ Frm (fun _ => False) w w' := by
  have hfit := r.fits
  have hmax := r.max
  have hlf : l.length - fr ≤ 1048576 := by omega
  have HY := Lib.hid hy
  have HM := Lib.hid hm
  clear hy hm
  have hpk := ring_peek r fr (l.length - fr) hf (by omega)
  have htk : (l.drop fr).take (l.length - fr) = l.drop fr := List.take_of_length_le (by rw [List.length_drop]; omega)
  rw [htk] at hpk
  have hige := Lib.index_ge (l.drop fr) y
  have hile := Lib.index_le (l.drop fr) y
  rw [List.length_drop] at hile
  clear htk
  go_enter Try.func53, Try.ntmps53
  go_wp2_with (go_at_call 42; refine (ring_len r).mono ?_; rintro e w' ⟨rfl, rfl⟩)
  rw [show (((l.length - fr : Nat)) : Int) = (l.length : Int) - (fr : Int) by omega] at hpk
  refine hpk.mono ?_
  rintro e w1 ⟨ao, c, kk, rfl, ho, hn, hF⟩
  have hm1 : w1.cell? ⟨0, 0, none⟩ = some (.int .i64 m) := by
    have hl := World.block_lt_of_cell? _ _ HM.out
    exact (hF.cell (p := ⟨0, 0, none⟩) hl (fun h => h)).trans HM.out
  have hy1 : RSl w1 1 (.slice qo k d) k (u8s y) := by
    obtain ⟨h1, ao', cap', he, h2, h3, h4⟩ := HY.out
    refine ⟨h1, ao', cap', he, h2, h3, fun hp => ?_⟩
    obtain ⟨g', o', rfl, h5⟩ := h4 hp
    refine ⟨g', o', rfl, fun j hj => ?_⟩
    have h0 := h5 j hj
    have hx : (u8s y)[j]? = some ((u8s y)[j]'(by omega)) := List.getElem?_eq_getElem _
    rw [hx] at h0 ⊢
    exact (hF.cell (p := ⟨g', o' + j, none⟩) (World.block_lt_of_cell? _ _ h0) (fun h => h)).trans h0
  have hkk : kk ≤ 1048576 := by have := ho.1; rw [u8s_length, List.length_drop] at this; omega
  have hix := index_any ho hy1 hkk hm1
  obtain ⟨j, hj⟩ : ∃ j, Lib.index (l.drop fr) y = j := ⟨_, rfl⟩
  have hfl : findL l y fr = if j < 0 then -1 else fr + j := by unfold findL; rw [hj]
  rw [hj] at hige hile hix
  have HFL := Lib.hid hfl
  clear hfl hj
  have HF := Lib.hid hF
  clear hpk ho hn hF hm1 hy1
  go_wp2_with (go_at_call 67; refine hix.mono ?_; rintro e w2 ⟨rfl, q2, rfl⟩)
  all_goals have fin : Frm (fun _ => False) w (w1.drewN q2) := HF.out.trans ⟨rfl, rfl, rfl, Nat.le_refl _, fun _ _ _ => rfl⟩
  · go_ret
    exact ⟨by rw [HFL.out, if_pos (by assumption)]; rfl, fin⟩
  · go_ret
    exact ⟨by rw [HFL.out, if_neg (by omega)]; rfl, fin⟩
end Go.Proofs.Ytgofogcfolhonaa
