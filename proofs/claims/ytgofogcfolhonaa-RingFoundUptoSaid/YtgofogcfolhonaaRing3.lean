/- Ring: New, two, Drop. -/
import Derived.Test.YtgofogcfolhonaaRing2
set_option linter.unusedVariables false
set_option linter.unusedSimpArgs false
namespace Go.Proofs.Ytgofogcfolhonaa
open Go Go.RowKit

theorem at_nat {st l : List UInt8} {cap q : Nat} (hs : ∀ i x, l[i]? = some x → st[(q + i) % cap]? = some x) (hq : q < cap) (i : Nat) (x : UInt8) (h : l[i]? = some x) (hl : l.length ≤ cap) : st[if q + i < cap then q + i else q + i - cap]? = some x := by
  have hi := (List.getElem?_eq_some_iff.1 h).1
  rw [← mod2 (q + i) cap (by omega) (by omega)]
  exact hs i x h

set_option maxRecDepth 100000 in
set_option maxHeartbeats 2000000 in
theorem ring_two {w : World} {b T g cap q : Nat} {l : List UInt8} (r : RAt w b T g cap q l) :
    Calls Try.prog 65 #[.pointer (some ⟨b, 0, none⟩)] w fun e w' => Frm (fun _ => False) w w' ∧
      ((l = [] ∧ e = .returned (.tuple #[.slice none 0 0, .slice none 0 0])) ∨
       (0 < l.length ∧ ∃ k, k = Nat.min l.length (cap - q) ∧ e = .returned (.tuple #[.slice (some ⟨g, q, none⟩) k k, .slice (some ⟨g, 0, none⟩) (l.length - k) (l.length - k)]) ∧
         RSl w' 1 (.slice (some ⟨g, q, none⟩) k k) k (u8s (l.take k)) ∧ RSl w' 1 (.slice (some ⟨g, 0, none⟩) (l.length - k) (l.length - k)) (l.length - k) (u8s (l.drop k)))) := by
  obtain ⟨c0, c1, c2⟩ := three_cell r.blk
  have hmax := r.max
  have hfit := r.fits
  have hpos := r.pos
  have hhead := r.head
  rcases Nat.eq_zero_or_pos l.length with hz | hlp
  · have hl : l = [] := List.eq_nil_of_length_eq_zero hz
    go_enter Try.func65, Try.ntmps65
    go_wp2_with fail
    refine (ring_len r).mono ?_
    rintro e w' ⟨rfl, rfl⟩
    have h0 : ((l.length : Int) == 0) = true := by simp; omega
    go_wp2
    go_ret2
    exact ⟨Frm.refl _ _, .inl ⟨hl, rfl⟩⟩
  · obtain ⟨k, hk⟩ : ∃ k, k = Nat.min l.length (cap - q) := ⟨_, rfl⟩
    have hk1 : k ≤ l.length ∧ k ≤ cap - q ∧ 0 < k := by
      rw [hk]; exact ⟨Nat.min_le_left _ _, Nat.min_le_right _ _, Nat.lt_min.2 ⟨hlp, by omega⟩⟩
    obtain ⟨hk1, hk2, hk3⟩ := hk1
    have hmin : min ((q : Int) + l.length) cap = ((q + k : Nat) : Int) := by
      rcases Nat.le_total l.length (cap - q) with h | h
      · rw [show Nat.min l.length (cap - q) = l.length from Nat.min_eq_left h] at hk
        rw [Int.min_eq_left (by omega)]; omega
      · rw [show Nat.min l.length (cap - q) = cap - q from Nat.min_eq_right h] at hk
        rw [Int.min_eq_right (by omega)]; omega
    have h0 : ((l.length : Int) == 0) = false := by rw [beq_eq_false_iff_ne]; omega
    have HK := Lib.hid hk
    clear hk
    have hqk : q + k - q = k := by omega
    have hrest : (l.length : Int) - ((q + k : Nat) - q) = ((l.length - k : Nat) : Int) := by omega
    go_enter Try.func65, Try.ntmps65
    go_wp2_with fail
    refine (ring_len r).mono ?_
    rintro e w' ⟨rfl, rfl⟩
    go_wp2
    refine region_text [1, 5, 8, 10, 13] (by kernel_rfl) (by kernel_rfl) (fun K hK => ?_)
    go_wp2
    refine ⟨by kernel_rfl, ?_⟩
    go_wp2
    refine region_text [1, 6, 9] (by kernel_rfl) (by kernel_rfl) (fun K hK => ?_)
    go_wp2
    refine ⟨by kernel_rfl, ?_⟩
    go_wp2
    refine region_text [1, 5, 12] (by kernel_rfl) (by kernel_rfl) (fun K hK => ?_)
    go_wp2
    refine ⟨by kernel_rfl, ?_⟩
    go_wp2
    rw [hqk]
    go_ret2
    obtain ⟨st, ho, hst⟩ := r.store
    have hstl : st.length = cap := by have := ho.1; rwa [u8s_length, Nat.mul_one] at this
    have hd := ho.toR.frame (w' := w.drew.drew.drew) (fun _ _ => rfl)
    have p1 := hd.part q k k (some ⟨g, q, none⟩) (by omega) (Nat.le_refl _) (by unfold maxLen; omega) (fun _ => by rw [Nat.zero_add])
    have p2 := hd.part 0 (l.length - k) (l.length - k) (some ⟨g, 0, none⟩) (by omega) (Nat.le_refl _) (by unfold maxLen; omega) (fun _ => rfl)
    have e1 : (st.drop q).take k = l.take k := by
      apply List.ext_getElem?
      intro i
      by_cases hi : i < k
      · rw [List.getElem?_take_of_lt hi, List.getElem?_take_of_lt hi, List.getElem?_drop]
        obtain ⟨x, hx⟩ : ∃ x, l[i]? = some x := ⟨_, List.getElem?_eq_getElem (by omega)⟩
        have := at_nat hst hhead i x hx hfit
        rw [if_pos (by omega)] at this
        rw [this, hx]
      · rw [List.getElem?_eq_none (by rw [List.length_take]; omega), List.getElem?_eq_none (by rw [List.length_take]; omega)]
    have e2 : (st.drop 0).take (l.length - k) = l.drop k := by
      apply List.ext_getElem?
      intro i
      by_cases hi : i < l.length - k
      · rw [List.getElem?_take_of_lt hi, List.getElem?_drop, List.getElem?_drop]
        obtain ⟨x, hx⟩ : ∃ x, l[k + i]? = some x := ⟨_, List.getElem?_eq_getElem (by omega)⟩
        have := at_nat hst hhead (k + i) x hx hfit
        have hkc : k = cap - q := by
          have := HK.out
          rcases Nat.le_total l.length (cap - q) with h | h
          · rw [show Nat.min l.length (cap - q) = l.length from Nat.min_eq_left h] at this; omega
          · rw [show Nat.min l.length (cap - q) = cap - q from Nat.min_eq_right h] at this; omega
        rw [if_neg (by omega), show q + (k + i) - cap = 0 + i by omega] at this
        rw [this, hx]
      · rw [List.getElem?_eq_none (by rw [List.length_take, List.length_drop]; omega), List.getElem?_eq_none (by rw [List.length_drop]; omega)]
    rw [e1] at p1
    rw [e2] at p2
    exact ⟨((Frm.drew _ w).trans (Frm.drew _ _)).trans (Frm.drew _ _), .inr ⟨hlp, k, HK.out, rfl, p1, p2⟩⟩

/-- A ring's struct, turned in one cell. -/
theorem RAt.put {w : World} {b T g cap q q' : Nat} {l l' : List UInt8} (r : RAt w b T g cap q l) {w' : World} (hb : w'.heap[b]? = some (.cells #[.slice (some ⟨g, 0, none⟩) cap cap, .int .i64 (q' : Int), .int .i64 (l'.length : Int)] T (0, 0)))
    (hg : w'.heap[g]? = w.heap[g]?) (hq : q' < cap) (hl : l'.length ≤ cap) (hs : ∀ st : List UInt8, st.length = cap → (∀ i x, l[i]? = some x → st[(q + i) % cap]? = some x) → ∀ i x, l'[i]? = some x → st[(q' + i) % cap]? = some x) : RAt w' b T g cap q' l' :=
  ⟨hb, r.ne, r.pos, r.max, hq, hl, let ⟨st, ho, hst⟩ := r.store; ⟨st, ho.frame (fun k hk _ => by have hk' : g = k := (by simpa [Value.ownBlock] using hk); rw [← hk']; exact hg), hs st (by have := ho.1; rwa [u8s_length, Nat.mul_one] at this) hst⟩⟩

theorem drop_plain (st l : List UInt8) (cap q n : Nat) (hq : q < cap) (hn : n ≤ l.length) (hs : ∀ i x, l[i]? = some x → st[(q + i) % cap]? = some x) : ∀ i x, (l.drop n)[i]? = some x → st[((q + n) % cap + i) % cap]? = some x := by
  intro i x hx
  rw [List.getElem?_drop] at hx
  have := hs (n + i) x hx
  rw [Nat.mod_add_mod, Nat.add_assoc]
  exact this

set_option maxRecDepth 100000 in
set_option maxHeartbeats 2000000 in
theorem ring_drop {w : World} {b T g cap q : Nat} {l : List UInt8} (r : RAt w b T g cap q l) (n : Int) (hn1 : -9223372036854775808 ≤ n) (hn2 : n ≤ 9223372036854775807) :
    Calls Try.prog 50 #[.pointer (some ⟨b, 0, none⟩), .int .i64 n] w fun e w' => e = .returned (.int .i64 (Nat.min n.toNat l.length : Nat)) ∧ RAt w' b T g cap ((q + Nat.min n.toNat l.length) % cap) (l.drop n.toNat) ∧ Frm (fun k => k = b) w w' := by
  obtain ⟨k, hk⟩ : ∃ k, k = Nat.min n.toNat l.length := ⟨_, rfl⟩
  have hdr : l.drop n.toNat = l.drop k := by
    rw [hk]
    rcases Nat.le_total n.toNat l.length with h | h
    · rw [show Nat.min n.toNat l.length = n.toNat from Nat.min_eq_left h]
    · rw [show Nat.min n.toNat l.length = l.length from Nat.min_eq_right h, List.drop_of_length_le h, List.drop_length]
  have hmin : min (max n 0) (l.length : Int) = k := by
    rcases Nat.le_total n.toNat l.length with h | h
    · rw [show Nat.min n.toNat l.length = n.toNat from Nat.min_eq_left h] at hk
      rw [Int.min_eq_left (by omega)]; omega
    · rw [show Nat.min n.toNat l.length = l.length from Nat.min_eq_right h] at hk
      rw [Int.min_eq_right (by omega)]; omega
  have hkl : k ≤ l.length := by rw [hk]; exact Nat.min_le_right _ _
  rw [hdr, ← hk]
  clear hk hdr
  have hmax := r.max
  have hfit := r.fits
  have hpos := r.pos
  have hhead := r.head
  rcases Nat.eq_zero_or_pos k with hz | hkp
  · subst hz
    go_enter Try.func50, Try.ntmps50
    go_wp2_with fail
    refine (ring_len r).mono ?_
    rintro e w' ⟨rfl, rfl⟩
    go_wp2
    go_ret
    refine ⟨rfl, ?_, Frm.refl _ _⟩
    rw [Nat.add_zero, Nat.mod_eq_of_lt hhead, List.drop_zero]
    exact r
  · have hk0 : ((k : Int) == 0) = false := by simp; omega
    go_enter Try.func50, Try.ntmps50
    go_wp2_with fail
    refine (ring_len r).mono ?_
    rintro e w' ⟨rfl, rfl⟩
    go_wp2_with fail
    refine (ring_place r k (by omega)).mono ?_
    rintro e w' ⟨rfl, rfl⟩
    obtain ⟨q2, hq2⟩ : ∃ q2, q2 = (q + k) % cap := ⟨_, rfl⟩
    rw [← hq2]
    have HQ2 := Lib.hid hq2
    clear hq2
    obtain ⟨c0, c1, c2⟩ := three_cell r.blk
    have e1 := blk_free r.blk 1
    have e2 := blk_free r.blk 2
    go_wp2
    go_ret
    have hB := blk_set (blk_set r.blk 1 (.int .i64 (q2 : Int))) 2 (.int .i64 ((l.length : Int) - k))
    refine ⟨rfl, ?_, (((Frm.refl (fun k => k = b) w).setIn (a := ⟨b, 1, none⟩) rfl _).setIn (a := ⟨b, 2, none⟩) rfl _).drewR⟩
    rw [← HQ2.out]
    refine r.put (l' := l.drop k) (hB.trans ?_) ?_ (by rw [HQ2.out]; exact Nat.mod_lt _ hpos) (by rw [List.length_drop]; omega) (fun st hst hs => ?_)
    · rw [List.length_drop, Int.natCast_sub hkl]; rfl
    · exact (Below.heap_setCell _ _ _ _ (fun e => r.ne e.symm)).trans (Below.heap_setCell _ _ _ _ (fun e => r.ne e.symm))
    · rw [HQ2.out]; exact drop_plain st l cap q k hhead hkl hs
end Go.Proofs.Ytgofogcfolhonaa
