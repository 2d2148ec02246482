/- The small functions of the ring's statements: same, kind, awake. -/
import Derived.Test.YtgofogcfolhonaaRing4
set_option linter.unusedVariables false
set_option linter.unusedSimpArgs false
namespace Go.Proofs.Ytgofogcfolhonaa
open Go Go.RowKit

set_option maxRecDepth 100000 in
set_option maxHeartbeats 1000000 in
theorem lsame_ok {w : World} {ao bo : Option Addr} {n c m d : Nat} {la lb : List UInt8} (ha : RSl w 1 (.slice ao n c) n (u8s la)) (hb : RSl w 1 (.slice bo m d) m (u8s lb)) :
    Calls Try.prog 40 #[.slice ao n c, .slice bo m d] w fun e w' => e = .returned (.bool (decide (la = lb))) ∧ w' = w := by
  have h1 := run_text_rsl (P := Try.prog) w 66 9 5 _ _ _ _ Try.underlying66 Try.underlying5 Try.underlying9 ha
  have h2 := run_text_rsl (P := Try.prog) w 66 9 5 _ _ _ _ Try.underlying66 Try.underlying5 Try.underlying9 hb
  go_enter Try.func40, Try.ntmps40
  go_wp2
  go_ret
  refine ⟨?_, rfl⟩
  rw [← tx_beq]
  rfl

theorem kind_plain (k n : Int) (hn : 1 ≤ n) : (k.tmod n + n).tmod n = k % n := by
  have h1 : -n < k.tmod n := by
    have := Int.lt_tmod_of_pos k (show 0 < n by omega)
    omega
  rw [Int.tmod_eq_emod_of_nonneg (by omega), Int.add_emod_right, Int.tmod_def, Int.sub_mul_emod_self_left]

set_option maxRecDepth 100000 in
set_option maxHeartbeats 1000000 in
theorem kind_ok (k n : Int) (hn : 1 ≤ n) (hn2 : n ≤ 2305843009213693952) (hk1 : -9223372036854775808 ≤ k) (hk2 : k ≤ 9223372036854775807) (w : World) :
    Calls Try.prog 21 #[.int .i64 k, .int .i64 n] w fun e w' => e = .returned (.int .i64 (k % n)) ∧ w' = w := by
  have h1 : -n < k.tmod n := Int.lt_tmod_of_pos k (show 0 < n by omega)
  have h2 : k.tmod n < n := Int.tmod_lt_of_pos k (show 0 < n by omega)
  have h3 := kind_plain k n hn
  obtain ⟨a, ha⟩ : ∃ a, k.tmod n = a := ⟨_, rfl⟩
  rw [ha] at h1 h2 h3
  have h4 : 0 ≤ k % n := Int.emod_nonneg k (by omega)
  have h5 : k % n < n := Int.emod_lt_of_pos k (by omega)
  obtain ⟨z, hz⟩ : ∃ z, k % n = z := ⟨_, rfl⟩
  rw [hz] at h3 h4 h5 ⊢
  clear hz
  go_enter Try.func21, Try.ntmps21
  go_wp2
  go_ret
  exact ⟨rfl, rfl⟩

theorem lit_osl (w : World) (e : TypeId) (l : List UInt8) (hl : l.length ≤ maxLen) : OSl (w.alloc (.cells (u8s l).toArray e)) 1 (.slice (some ⟨w.heap.size, 0, none⟩) l.length l.length) l.length (u8s l) :=
  OSl.new w _ e 1 _ _ _ (by rw [u8s_length, Nat.mul_one]) (Nat.le_refl _) hl (by simp [u8s_length]) (fun j hj => by simp)

set_option maxRecDepth 100000 in
set_option maxHeartbeats 1000000 in
theorem lawake_ok (W : World) : Calls Try.prog 36 #[] W fun e w' => e = .returned (.bool true) ∧ Frm (fun _ => False) W w' := by
  go_enter Try.func36, Try.ntmps36
  go_wp2_with fail
  refine (ring_new W 2 (by decide) (by decide)).mono ?_
  rintro e w1 ⟨rfl, r1, hf1⟩
  have hl : RSl (w1.alloc (.cells #[.int .u8 7, .int .u8 8, .int .u8 9] 5)) 1 (.slice (some ⟨w1.heap.size, 0, none⟩) 3 3) 3 (u8s [7, 8, 9]) := (lit_osl w1 5 [7, 8, 9] (by decide)).toR
  have hgl := r1.glt
  have hbl := blk_lt r1.blk
  go_wp2_with fail
  refine (ring_put (r1.same (Frm.alloc _ w1 _)) hl (by simp [Value.ownBlock]; omega)).mono ?_
  rintro e w2 ⟨rfl, r2, hf2⟩
  have hl2 : ([] : List UInt8) ++ [7, 8, 9].take (2 - ([] : List UInt8).length) = [7, 8] := rfl
  rw [hl2] at r2
  have HF2 := Lib.hid ((hf1.trans (Frm.alloc _ w1 _)).fresh hf2 (fun i hi h => by rcases h with rfl | rfl <;> omega))
  clear hl hl2 hf2 r1
  go_wp2_with fail
  refine (ring_take r2 2 (by decide) (by decide)).mono ?_
  rintro e w3 ⟨ao, c, k, rfl, ho, hb, r3, hf3⟩
  have hl3 : ([7, 8] : List UInt8).take (2 : Int).toNat = [7, 8] := rfl
  have hl4 : ([7, 8] : List UInt8).drop (2 : Int).toNat = [] := rfl
  have hl5 : (0 + Nat.min (2 : Int).toNat ([7, 8] : List UInt8).length) % 2 = 0 := rfl
  rw [hl3] at ho
  rw [hl4, hl5] at r3
  have HF3 := Lib.hid (HF2.out.fresh hf3 (fun i hi h => by subst h; omega))
  have HO := Lib.hid ho
  have hl6 : RSl (w3.alloc (.cells #[.int .u8 7, .int .u8 8] 5)) 1 (.slice (some ⟨w3.heap.size, 0, none⟩) 2 2) 2 (u8s [7, 8]) := (lit_osl w3 5 [7, 8] (by decide)).toR
  clear ho hb hf3 r2 hl3 hl4 hl5
  go_wp2_with fail
  refine (lsame_ok (HO.out.alloc _).toR hl6).mono ?_
  rintro e w4 ⟨rfl, rfl⟩
  rw [decide_eq_true rfl]
  go_wp2_with fail
  refine (ring_head (r3.same (Frm.alloc _ w3 _))).mono ?_
  rintro e w5 ⟨rfl, rfl⟩
  go_wp2_with fail
  refine (ring_putAll_full (r3.same ((Frm.alloc _ w3 _).allocR _)) (m := 3) (by decide) (by decide)).mono ?_
  rintro e w5 ⟨rfl, rfl⟩
  go_wp2
  go_ret
  exact ⟨rfl, (HF3.out.allocR _).allocR _⟩
end Go.Proofs.Ytgofogcfolhonaa
