/- Ring: Put, PutAll. -/
import Derived.Test.YtgofogcfolhonaaRing
set_option linter.unusedVariables false
set_option linter.unusedSimpArgs false
namespace Go.Proofs.Ytgofogcfolhonaa
open Go Go.RowKit

theorem mod2 (x c : Nat) (hc : 0 < c) (h : x < 2 * c) : x % c = if x < c then x else x - c := by
  by_cases hx : x < c
  · rw [if_pos hx, Nat.mod_eq_of_lt hx]
  · rw [if_neg hx, Nat.mod_eq_sub_mod (by omega), Nat.mod_eq_of_lt (by omega)]

theorem put_plain (st l p : List UInt8) (cap h : Nat) (hst : st.length = cap) (hh : h < cap) (hl : l.length + p.length ≤ cap) (hs : ∀ i x, l[i]? = some x → st[(h + i) % cap]? = some x) (hp : 0 < p.length) (at' f : Nat) (hat : at' = (h + l.length) % cap) (hf : f = Nat.min p.length (cap - at')) :
    ∀ i x, (l ++ p)[i]? = some x → (splice (splice st at' (p.take f)) 0 (p.drop f))[(h + i) % cap]? = some x := by
  intro i x hx
  have hil := (List.getElem?_eq_some_iff.1 hx).1
  rw [List.length_append] at hil
  have hm1 := mod2 (h + l.length) cap (by omega) (by omega)
  have hm2 := mod2 (h + i) cap (by omega) (by omega)
  rw [← hat] at hm1
  obtain ⟨k, hk⟩ : ∃ k, (h + i) % cap = k := ⟨_, rfl⟩
  rw [hk] at hm2
  have hk' : (h + i < cap ∧ k = h + i) ∨ (¬ h + i < cap ∧ k = h + i - cap) := by
    by_cases h1 : h + i < cap
    · rw [if_pos h1] at hm2; exact .inl ⟨h1, hm2⟩
    · rw [if_neg h1] at hm2; exact .inr ⟨h1, hm2⟩
  have ha' : (h + l.length < cap ∧ at' = h + l.length) ∨ (¬ h + l.length < cap ∧ at' = h + l.length - cap) := by
    by_cases h1 : h + l.length < cap
    · rw [if_pos h1] at hm1; exact .inl ⟨h1, hm1⟩
    · rw [if_neg h1] at hm1; exact .inr ⟨h1, hm1⟩
  have hf1 : f ≤ p.length ∧ f ≤ cap - at' ∧ (f = p.length ∨ f = cap - at') := by
    rw [hf]
    exact ⟨Nat.min_le_left _ _, Nat.min_le_right _ _, by
      rcases Nat.le_total p.length (cap - at') with h | h
      · left; exact Nat.min_eq_left h
      · right; exact Nat.min_eq_right h⟩
  have hat' : at' < cap := by rw [hat]; exact Nat.mod_lt _ (by omega)
  have lt : (p.take f).length = f := by rw [List.length_take]; omega
  have ld : (p.drop f).length = p.length - f := List.length_drop
  have s1 := splice_length st at' (p.take f) (by omega)
  rw [hk, splice_at _ 0 (p.drop f) (by rw [s1, ld, hst]; omega), splice_at st at' (p.take f) (by omega), ld, lt]
  clear hm1 hm2
  by_cases hi : i < l.length
  · rw [List.getElem?_append_left hi] at hx
    have := hs i x hx
    rw [hk] at this
    rw [if_neg (by omega), if_neg (by omega)]
    exact this
  · rw [List.getElem?_append_right (by omega)] at hx
    by_cases h1 : k < p.length - f ∧ ¬ h + i < cap ∧ h + l.length < cap
    · rw [if_pos (by omega), List.getElem?_drop, ← hx]
      congr 1; omega
    · rw [if_neg (by omega), if_pos (by omega), List.getElem?_take_of_lt (by omega), ← hx]
      congr 1; omega

/-- What a call that changes a ring leaves. -/
def RNext (w : World) (b T g cap h : Nat) (l : List UInt8) (w' : World) : Prop := RAt w' b T g cap h l ∧ Frm (fun k => k = b ∨ k = g) w w'

theorem Try.info5 : (Try.prog.info? 5).map (fun i => (i.zero, i.size, i.bytes)) = some (some (.int .u8 0), 1, 1) := by kernel_rfl
set_option maxRecDepth 100000 in
set_option maxHeartbeats 2000000 in
theorem ring_put {w : World} {b T g cap q : Nat} {l : List UInt8} (r : RAt w b T g cap q l) {ao : Option Addr} {m c : Nat} {pl : List UInt8} (hp : RSl w 1 (.slice ao m c) m (u8s pl)) (hpg : (Value.slice ao m c).ownBlock ≠ some g) :
    Calls Try.prog 38 #[.pointer (some ⟨b, 0, none⟩), .slice ao m c] w fun e w' => e = .returned (.int .i64 (Nat.min m (cap - l.length) : Nat)) ∧ RNext w b T g cap q (l ++ pl.take (cap - l.length)) w' := by
  have hpl : pl.length = m := by have := hp.1; rwa [u8s_length, Nat.mul_one] at this
  have hmc : m ≤ c ∧ c ≤ maxLen := by obtain ⟨_, _, _, he, h1, h2, _⟩ := hp; cases he; exact ⟨h1, h2⟩
  obtain ⟨hmc, hcm⟩ := hmc
  obtain ⟨n, hn⟩ : ∃ n : Nat, n = Nat.min m (cap - l.length) := ⟨_, rfl⟩
  have htk : pl.take (cap - l.length) = pl.take n := by
    rw [hn, ← hpl]
    rcases Nat.le_total pl.length (cap - l.length) with h | h
    · rw [List.take_of_length_le h, show Nat.min pl.length (cap - l.length) = pl.length from Nat.min_eq_left h, List.take_length]
    · rw [show Nat.min pl.length (cap - l.length) = cap - l.length from Nat.min_eq_right h]
  rw [← hn, htk]
  have hnm : n ≤ m := by rw [hn]; exact Nat.min_le_left _ _
  have hnf : n ≤ cap - l.length := by rw [hn]; exact Nat.min_le_right _ _
  have hmin : min (m : Int) ((cap - l.length : Nat) : Int) = n := by
    have : (min m (cap - l.length) : Nat) = n := hn.symm
    omega
  clear htk
  have hfit := r.fits
  have hmax := r.max
  have hpos := r.pos
  have hhead := r.head
  have hm63 : m ≤ 9223372036854775807 := by simp only [maxLen] at hcm; omega
  have HN := Lib.hid hn
  have HP := Lib.hid hp
  clear hn hp
  go_enter Try.func38, Try.ntmps38
  rcases Nat.eq_zero_or_pos n with hz | hnp
  · subst hz
    go_wp2_with fail
    refine (ring_free r).mono ?_
    rintro e w' ⟨rfl, rfl⟩
    go_wp2
    go_ret
    refine ⟨rfl, ?_⟩
    rw [List.take_zero, List.append_nil]
    exact ⟨r, Frm.refl _ _⟩
  · have hn0 : ((n : Int) == 0) = false := by simp; omega
    go_wp2_with fail
    refine (ring_free r).mono ?_
    rintro e w' ⟨rfl, rfl⟩
    obtain ⟨c0, c1, c2⟩ := three_cell r.blk
    go_wp2_with fail
    refine (ring_place r l.length (by omega)).mono ?_
    rintro e w' ⟨rfl, rfl⟩
    obtain ⟨at', hat⟩ : ∃ a, a = (q + l.length) % cap := ⟨_, rfl⟩
    rw [← hat]
    have hlt : at' < cap := by rw [hat]; exact Nat.mod_lt _ hpos
    have HAT := Lib.hid hat
    clear hat
    obtain ⟨pg, po, hao⟩ : ∃ pg po, ao = some ⟨pg, po, none⟩ := by
      obtain ⟨_, _, _, he, _, _, hc⟩ := HP.out
      cases he
      obtain ⟨g', o', he', _⟩ := hc (by omega)
      exact ⟨g', o', he'⟩
    subst hao
    have hpg' : pg ≠ g := fun e => hpg (by rw [e]; rfl)
    obtain ⟨st, ho, hst⟩ := r.store
    obtain ⟨i0, hi, hz0, hz1, hz2⟩ := info_parts Try.info5
    have hsz : (Try.prog.info? 5).map (·.size) = some 1 := by rw [hi]; simp [hz1]
    have hs1 : RSl w.drew.drew 1 (.slice (some ⟨pg, po, none⟩) n c) n (u8s ((pl.drop 0).take n)) := (HP.out.frame (w' := w.drew.drew) (fun _ _ => rfl)).part 0 n c _ (by omega) (by omega) hcm (fun _ => rfl)
    rw [List.drop_zero] at hs1
    obtain ⟨w2, hr2, ho2, hf2⟩ := run_copy_u8 (P := Try.prog) ho.drew.drew hs1 at' (cap - at') (cap - at') (by omega) 66 66 3 5 Try.underlying66 hsz
    have HO2 := Lib.hid ho2
    have HF2 := Lib.hid hf2
    have HS1 := Lib.hid hs1
    have HST := Lib.hid hst
    have HO := Lib.hid ho
    clear ho2 hf2 hs1 hst ho hi hz0 hz1 hz2
    obtain ⟨f, hf⟩ : ∃ f, f = Nat.min n (cap - at') := ⟨_, rfl⟩
    rw [← hf] at hr2
    have hf1 : f ≤ n ∧ f ≤ cap - at' := by rw [hf]; exact ⟨Nat.min_le_left _ _, Nat.min_le_right _ _⟩
    obtain ⟨hf1, hf2⟩ := hf1
    have HFf0 := Lib.hid hf
    clear hf
    have hblt : b < w.drew.drew.heap.size := blk_lt r.blk
    have hB2 : w2.heap[b]? = some (.cells #[.slice (some ⟨g, 0, none⟩) cap cap, .int .i64 (q : Int), .int .i64 (l.length : Int)] T (0, 0)) := (HF2.out.block b hblt r.ne).trans r.blk
    have HB2 := Lib.hid hB2
    obtain ⟨d0, d1, d2⟩ := three_cell hB2
    have hpr : RSl w2.drew 1 (.slice (some ⟨pg, po, none⟩) m c) m (u8s pl) := HP.out.frame fun k hk => by
      have hk' : pg = k := by simpa [Value.ownBlock] using hk
      subst hk'
      have hlt : pg < w.heap.size := by
        obtain ⟨_, _, _, he, _, _, hc⟩ := HP.out
        cases he
        obtain ⟨g', o', he', hcell⟩ := hc (by omega)
        cases he'
        have h0 := hcell 0 (by omega)
        rw [u8s_at, List.getElem?_eq_getElem (by omega)] at h0
        exact World.block_lt_of_cell? _ _ h0
      exact HF2.out.block pg hlt hpg'
    have hS2 : ∀ ao', (0 < n - f → ao' = some ⟨pg, po + f, none⟩) → RSl w2.drew 1 (.slice ao' (n - f) (c - f)) (n - f) (u8s ((pl.take n).drop f)) := fun ao' ha => by
      have := hpr.part f (n - f) (c - f) ao' (by omega) (by omega) (by omega) ha
      rw [List.drop_take]
      exact this
    have HS2a := hS2 (some ⟨pg, po + f, none⟩) (fun _ => rfl)
    have HS2b : n - f = 0 → RSl w2.drew 1 (.slice (some ⟨pg, po, none⟩) (n - f) (c - f)) (n - f) (u8s ((pl.take n).drop f)) := fun e => hS2 _ (fun h => by omega)
    have HA := Lib.hid HS2a
    have HB := Lib.hid HS2b
    clear hB2 hpr hS2 HS2a HS2b
    go_wp2
    refine region_text0 (by kernel_rfl) (by kernel_rfl) (fun K hK => ?_)
    go_wp2_with (at_builtin; refine wpList_copy_eq _ rfl (.tmp 26) (.tmp 29) 66 66 rfl _ _ rfl rfl hr2 ?_)
    clear hr2
    refine region_text0 (by kernel_rfl) (by kernel_rfl) (fun K2 hK2 => ?_)
    have hf := HFf0.out
    by_cases hfc : f < c
    · have HS2a := HA.out
      obtain ⟨w3, hr3, ho3, hf3⟩ := run_copy_u8 (P := Try.prog) HO2.out.drew (sv := .slice (some ⟨pg, po + f, none⟩) (n - f) (c - f)) (m := n - f) (src := (pl.take n).drop f) HS2a 0 cap cap (by omega) 66 66 3 5 Try.underlying66 hsz
      have hmin2 : Nat.min (n - f) cap = n - f := Nat.min_eq_left (by omega)
      rw [hmin2] at hr3 ho3
      rw [List.take_of_length_le (i := n - f) (by rw [List.length_drop, List.length_take]; omega), hf] at ho3
      have HO3 := Lib.hid ho3
      have HF3 := Lib.hid hf3
      have HFf := Lib.hid hf
      clear ho3 hf3 hf hmin2
      have hB3 : w3.heap[b]? = some (.cells #[.slice (some ⟨g, 0, none⟩) cap cap, .int .i64 (q : Int), .int .i64 (l.length : Int)] T (0, 0)) := (HF3.out.block b (Nat.lt_of_lt_of_le hblt HF2.out.size) r.ne).trans HB2.out
      have HB3 := Lib.hid hB3
      obtain ⟨e0, e1, e2⟩ := three_cell hB3
      have e3 := blk_free hB3 2
      clear hB3
      go_wp2_with (at_builtin; refine wpList_copy_eq _ rfl (.tmp 34) (.tmp 38) 66 66 rfl _ _ rfl rfl hr3 ?_)
      go_ret
      refine ⟨rfl, ⟨?_, r.ne, hpos, hmax, hhead, ?_, splice (splice st at' ((pl.take n).take f)) 0 ((pl.take n).drop f), ?_, ?_⟩, ?_⟩
      · have := blk_set HB3.out 2 (.int .i64 ((l.length : Int) + n))
        rw [List.length_append, List.length_take, Nat.min_eq_left (by omega : n ≤ pl.length)]
        refine this.trans ?_
        congr 2
      · rw [List.length_append, List.length_take]; omega
      · have e4 := HO3.out
        rw [← HFf.out] at e4
        exact e4.frame fun k hk _ => Below.heap_setCell _ _ _ _ (fun e => r.ne (by have hk' : g = k := (by simpa [Value.ownBlock] using hk); exact (hk'.trans e).symm))
      · exact put_plain st l (pl.take n) cap q (by have := HO.out.1; rwa [u8s_length, Nat.mul_one] at this) hhead (by rw [List.length_take]; omega) HST.out (by rw [List.length_take]; omega) at' f HAT.out (by rw [List.length_take, Nat.min_eq_left (by omega : n ≤ pl.length)]; exact HFf.out)
      · have f1 : Frm (fun k => k = b ∨ k = g) w w2 := (((Frm.drew (fun _ => False) w).trans (Frm.drew _ _)).then (U := fun k => k = b ∨ k = g) HF2.out (fun _ _ h => h.elim) (fun _ _ h => .inr h))
        have f2 : Frm (fun k => k = b ∨ k = g) w w3 := f1.then (U := fun k => k = b ∨ k = g) ((Frm.drew (fun k => k = g) w2).trans HF3.out) (fun _ _ h => h) (fun _ _ h => .inr h)
        exact f2.setIn (.inl rfl) _
    · have HS2b := HB.out (by omega)
      obtain ⟨w3, hr3, ho3, hf3⟩ := run_copy_u8 (P := Try.prog) HO2.out.drew (sv := .slice (some ⟨pg, po, none⟩) (n - f) (c - f)) (m := n - f) (src := (pl.take n).drop f) HS2b 0 cap cap (by omega) 66 66 3 5 Try.underlying66 hsz
      have hmin2 : Nat.min (n - f) cap = n - f := Nat.min_eq_left (by omega)
      rw [hmin2] at hr3 ho3
      rw [List.take_of_length_le (i := n - f) (by rw [List.length_drop, List.length_take]; omega), hf] at ho3
      have HO3 := Lib.hid ho3
      have HF3 := Lib.hid hf3
      have HFf := Lib.hid hf
      clear ho3 hf3 hf hmin2
      have hB3 : w3.heap[b]? = some (.cells #[.slice (some ⟨g, 0, none⟩) cap cap, .int .i64 (q : Int), .int .i64 (l.length : Int)] T (0, 0)) := (HF3.out.block b (Nat.lt_of_lt_of_le hblt HF2.out.size) r.ne).trans HB2.out
      have HB3 := Lib.hid hB3
      obtain ⟨e0, e1, e2⟩ := three_cell hB3
      have e3 := blk_free hB3 2
      clear hB3
      go_wp2_with (at_builtin; refine wpList_copy_eq _ rfl (.tmp 34) (.tmp 38) 66 66 rfl _ _ rfl rfl hr3 ?_)
      go_ret
      refine ⟨rfl, ⟨?_, r.ne, hpos, hmax, hhead, ?_, splice (splice st at' ((pl.take n).take f)) 0 ((pl.take n).drop f), ?_, ?_⟩, ?_⟩
      · have := blk_set HB3.out 2 (.int .i64 ((l.length : Int) + n))
        rw [List.length_append, List.length_take, Nat.min_eq_left (by omega : n ≤ pl.length)]
        refine this.trans ?_
        congr 2
      · rw [List.length_append, List.length_take]; omega
      · have e4 := HO3.out
        rw [← HFf.out] at e4
        exact e4.frame fun k hk _ => Below.heap_setCell _ _ _ _ (fun e => r.ne (by have hk' : g = k := (by simpa [Value.ownBlock] using hk); exact (hk'.trans e).symm))
      · exact put_plain st l (pl.take n) cap q (by have := HO.out.1; rwa [u8s_length, Nat.mul_one] at this) hhead (by rw [List.length_take]; omega) HST.out (by rw [List.length_take]; omega) at' f HAT.out (by rw [List.length_take, Nat.min_eq_left (by omega : n ≤ pl.length)]; exact HFf.out)
      · have f1 : Frm (fun k => k = b ∨ k = g) w w2 := (((Frm.drew (fun _ => False) w).trans (Frm.drew _ _)).then (U := fun k => k = b ∨ k = g) HF2.out (fun _ _ h => h.elim) (fun _ _ h => .inr h))
        have f2 : Frm (fun k => k = b ∨ k = g) w w3 := f1.then (U := fun k => k = b ∨ k = g) ((Frm.drew (fun k => k = g) w2).trans HF3.out) (fun _ _ h => h) (fun _ _ h => .inr h)
        exact f2.setIn (.inl rfl) _

set_option maxRecDepth 100000 in
set_option maxHeartbeats 1000000 in
theorem ring_putAll {w : World} {b T g cap q : Nat} {l : List UInt8} (r : RAt w b T g cap q l) {ao : Option Addr} {m c : Nat} {pl : List UInt8} (hp : RSl w 1 (.slice ao m c) m (u8s pl)) (hpg : (Value.slice ao m c).ownBlock ≠ some g) (hm : l.length + m ≤ cap) :
    Calls Try.prog 44 #[.pointer (some ⟨b, 0, none⟩), .slice ao m c] w fun e w' => e = .returned (.int .i64 0) ∧ RNext w b T g cap q (l ++ pl) w' := by
  have hpl : pl.length = m := by have := hp.1; rwa [u8s_length, Nat.mul_one] at this
  have hmax := r.max
  go_enter Try.func44, Try.ntmps44
  go_wp2_with fail
  refine (ring_free r).mono ?_
  rintro e w' ⟨rfl, rfl⟩
  go_wp2_with fail
  refine (ring_put r hp hpg).mono ?_
  rintro e w' ⟨rfl, hN⟩
  rw [List.take_of_length_le (by omega)] at hN
  go_wp2
  go_ret
  exact ⟨rfl, hN⟩

set_option maxRecDepth 100000 in
set_option maxHeartbeats 1000000 in
theorem ring_putAll_full {w : World} {b T g cap q : Nat} {l : List UInt8} (r : RAt w b T g cap q l) {ao : Option Addr} {m c : Nat} (hm : cap < l.length + m) (hm63 : m ≤ 9223372036854775807) :
    Calls Try.prog 44 #[.pointer (some ⟨b, 0, none⟩), .slice ao m c] w fun e w' => e = .returned (.int .i64 21) ∧ w = w' := by
  have hmax := r.max
  have hfit := r.fits
  go_enter Try.func44, Try.ntmps44
  go_wp2_with fail
  refine (ring_free r).mono ?_
  rintro e w' ⟨rfl, rfl⟩
  go_wp2
  go_ret
  exact ⟨rfl, rfl⟩
end Go.Proofs.Ytgofogcfolhonaa
