/- RingFound. -/
import Derived.Test.YtgofogcfolhonaaRingK
import Derived.Lib.IndexMore
set_option linter.unusedVariables false
set_option linter.unusedSimpArgs false
set_option linter.unusedSectionVars false
set_option maxRecDepth 100000
namespace Go.Proofs.Ytgofogcfolhonaa
open Go Go.RowKit

theorem rep_bts (n : Nat) : List.replicate n [AV.int .u8 0] = bts (List.replicate n 0) := by simp [bts]
theorem occ_take (l p : List UInt8) (i : Nat) (h : i + p.length ≤ l.length) : ((l.drop i).take p.length == p) = Lib.occAt l p i := by
  rw [Bool.eq_iff_iff, occ_iff, beq_iff_eq]
  constructor
  · intro e j hj
    have : ((l.drop i).take p.length)[j]? = p[j]? := by rw [e]
    rw [List.getElem?_take_of_lt hj, List.getElem?_drop] at this
    exact this
  · intro hj
    apply List.ext_getElem?
    intro j
    by_cases hjl : j < p.length
    · rw [List.getElem?_take_of_lt hjl, List.getElem?_drop]; exact hj j hjl
    · rw [List.getElem?_eq_none (by rw [List.length_take]; omega), List.getElem?_eq_none (by omega)]
def fnI (H : Hp) (l p : List UInt8) (f b : Nat) (q : Nat) (a : Int) (fr : List AV) (H' : Hp) : Prop := RO H' b l.length q l ∧ H.length ≤ H'.length ∧ H.length ≤ b ∧ (∀ j, j < H.length → H'[j]? = H[j]?) ∧ ∃ i : Nat, f ≤ i ∧ (f ≤ l.length → i ≤ l.length + 1) ∧ (∀ j, f ≤ j → j < i → Lib.occAt l p j = false) ∧ i ≤ max f (l.length + 1) ∧
  ∃ x : Nat → AV, fr = [.sl false 1 (bts l), x 1, x 2, x 3, x 4, .ptr (some (b, 0)), x 6, .sl false 1 (bts p), .int .i64 f, x 9, .int .i64 a, .int .i64 i, x 12, x 13, x 14, x 15, x 16, x 17, x 18, x 19, x 20, x 21, x 22, x 23, x 24, x 25, x 26, x 27, x 28, x 29, x 30, x 31, x 32, x 33, x 34, x 35, x 36, x 37, x 38, x 39, x 40, x 41, x 42, x 43, x 44, x 45, x 46, x 47, x 48, x 49, x 50, x 51, x 52, x 53, x 54, x 55, x 56, x 57, x 58, x 59, x 60, x 61, x 62, x 63, x 64, x 65, x 66, x 67, x 68, x 69, x 70, x 71, x 72, x 73, x 74, x 75, x 76, x 77, x 78, x 79, x 80, x 81, x 82, x 83, x 84, x 85, x 86, x 87, x 88, x 89, x 90, x 91, x 92, x 93, x 94, x 95, x 96, x 97, x 98, x 99, x 100, x 101, x 102, x 103, x 104, x 105, x 106, x 107, x 108, x 109, x 110, x 111, x 112, x 113, x 114, x 115]
set_option maxHeartbeats 4000000 in
theorem rfound_pc (E : Env) (H : Hp) (Q : AV → Hp → Prop) (hM : ME E) (l p : List UInt8) (gone frm : Int) (hg : -9223372036854775808 ≤ gone ∧ gone ≤ 9223372036854775807) (hf : -9223372036854775808 ≤ frm ∧ frm ≤ 9223372036854775807) (hl : l.length ≤ 1048576) (hp : p.length ≤ 1048576) (hQ : Q (.bool true) H) :
    PC Try.prog E 11 [.sl false 1 (bts l), .agg [.sl false 1 (bts p), .int .i64 gone, .int .i64 frm]] H Q := by
  refine pc_enter Try.func11 rfl [59, 68] [] (by kernel_rfl) (fun hB => ?_)
  simp [Try.ntmps11, Try.results11, List.replicate_succ]
  refine lawake_pc E _ _ ?_
  by_cases hsm : l.length < 1
  · have h1 : (l.length : Int) < 1 := by omega
    simp [h1]
    exact aPost_same hB rfl (nilV_refl _) (by simp) hQ
  by_cases hbg : 4096 < l.length
  · have h1 : ¬ (l.length : Int) < 1 := by omega
    have h2 : (4096 : Int) < l.length := by omega
    simp [h1, h2]
    exact aPost_same hB rfl (nilV_refl _) (by simp) hQ
  have h1 : ¬ (l.length : Int) < 1 := by omega
  have h2 : ¬ (4096 : Int) < l.length := by omega
  simp [h1, h2]
  refine rnew_pc E _ _ _ (fun n hn hn1 hn2 H2 hr hl2 hk => ?_) (fun hbad => absurd hbad (by omega))
  obtain rfl : l.length = n := by omega
  have hs : H2[H.length]? = some [.sl false 1 (bts p), .int .i64 gone, .int .i64 frm] := by rw [hk _ (by simp)]; simp
  simp at hl2
  simp [hs]
  have hw1 : IntKind.i64.wrap ((l.length : Int) + 1) = l.length + 1 := wrap_in (by omega) (by omega)
  simp [hw1]
  refine lkind_pc E _ _ _ _ (by omega) (by omega) hg.1 hg.2 ?_
  obtain ⟨g, hgg, hg1⟩ : ∃ g : Nat, gone % ((l.length : Int) + 1) = g ∧ g ≤ l.length := ⟨(gone % ((l.length : Int) + 1)).toNat, by have := Int.emod_nonneg gone (by omega : (l.length : Int) + 1 ≠ 0); omega, by have := Int.emod_lt_of_pos gone (by omega : (0 : Int) < (l.length : Int) + 1); omega⟩
  rw [hgg]
  have m1 : (g : Int) ≤ 140737488355328 := by omega
  have m2 : (g : Int) ≤ 9223372036854775807 := by omega
  simp [m1, m2, rep_bts]
  have hr' : RW H2 (some (H.length + 1)) l.length 0 [] := by
    show RO H2 (H.length + 1) l.length 0 []
    simpa using hr
  refine rput_pc E _ (some (H.length + 1)) l.length 0 [] _ hr' (List.replicate g 0) (by simp; omega) (fun H3 hr3 ho3 => ?_)
  have hmn : ((List.replicate g (0 : UInt8)).length.min (l.length - ([] : List UInt8).length)) = g := by
    show min _ _ = g
    simp; omega
  rw [hmn]
  have e3 : ([] : List UInt8) ++ (List.replicate g (0 : UInt8)).take (l.length - ([] : List UInt8).length) = List.replicate g 0 := by simp; omega
  rw [e3] at hr3
  simp
  refine rdrop_pc E _ (some (H.length + 1)) l.length 0 _ _ hr3 g (by omega) (by omega) (fun H4 hr4 ho4 => ?_)
  have hmn2 : Nat.min ((g : Int)).toNat (List.replicate g (0 : UInt8)).length = g := by
    show min _ _ = g
    simp
  have e4 : (List.replicate g (0 : UInt8)).drop ((g : Int)).toNat = [] := by simp
  rw [hmn2, e4] at hr4
  rw [hmn2]
  obtain ⟨q4, hq4⟩ : ∃ q4, (0 + g) % l.length = q4 := ⟨_, rfl⟩
  rw [hq4] at hr4
  have hm1 : l.length ≤ maxLen := by unfold maxLen; omega
  have hm2 : l.length ≤ 140737488355328 := by omega
  simp [hm1, hm2]
  refine rput_pc E _ (some (H.length + 1)) l.length q4 [] _ hr4 l (by omega) (fun H5 hr5 ho5 => ?_)
  have hmn5 : l.length.min (l.length - ([] : List UInt8).length) = l.length := by
    show min _ _ = l.length
    simp
  have e5 : ([] : List UInt8) ++ l.take (l.length - ([] : List UInt8).length) = l := by simp
  rw [hmn5]
  rw [e5] at hr5
  have hm3 : p.length ≤ maxLen := by unfold maxLen; omega
  have hm4 : p.length ≤ 140737488355328 := by omega
  simp [hm3, hm4]
  have hl5 : H5.length = H.length + 2 := by rw [ho5.1, ho4.1, ho3.1, hl2]
  have hk5 : ∀ j, j < H.length → H5[j]? = H[j]? := fun j hj => by
    rw [ho5.2 j (by simp; omega), ho4.2 j (by simp; omega), ho3.2 j (by simp; omega), hk j (by simp; omega), List.getElem?_append_left hj]
  by_cases hneg : frm < 0
  · refine rfind_pc E _ (some (H.length + 1)) l.length q4 l _ hr5 hM p frm hf.2 (fun h => absurd h (by omega)) (fun _ => ?_)
    simp [hneg]
    exact aPost_law hB (by omega) hk5 rfl (by simp) hQ
  · obtain ⟨f, rfl⟩ : ∃ f : Nat, frm = f := ⟨frm.toNat, by omega⟩
    have fin : ∀ (fr : List AV) (H' : Hp), H.length ≤ H'.length → (∀ j, j < H.length → H'[j]? = H[j]?) → aget fr 4 = .bool true → aPost Try.prog [ResultVar.tmp 4] H.length Q .ret fr H' := fun fr H' g1 g2 g3 => aPost_law hB g1 g2 (v0 := .bool true) (by simp [g3]) (by simp) hQ
    by_cases hfl : f ≤ l.length
    · refine rfind_pc E _ (some (H.length + 1)) l.length q4 l _ hr5 hM p f hf.2 (fun _ _ _ => ?_) (fun h => absurd h (by simp; omega))
      simp
      refine VL_go (fnI H l p f (H.length + 1) q4 (findL l p f)) (fun fr _ => l.length + 1 - (ai (aget fr 11)).toNat) ⟨hr5, by omega, by omega, hk5, f, Nat.le_refl _, fun _ => by omega, (fun j hj hj2 => by omega), by omega, fr_intro (by simp)⟩ ?_
      rintro fr H' ⟨hro, hlen, hb, hkk, i, hi1, hi2, hm, hi3, x, rfl⟩
      have hi4 := hi2 hfl
      by_cases h : i ≤ l.length
      · have hw2 : IntKind.i64.wrap ((i : Int) + p.length) = i + p.length := wrap_in (by omega) (by omega)
        have hw3 : IntKind.i64.wrap ((i : Int) + 1) = i + 1 := wrap_in (by omega) (by omega)
        by_cases hin : i + p.length ≤ l.length
        · have hin' : (i : Int) + p.length ≤ l.length := by omega
          have t1 : 0 ≤ (i : Int) + p.length := by omega
          have t2 : ((i : Int) + p.length).toNat = i + p.length := by omega
          have t3 : List.take p.length (List.drop i (bts l)) = bts ((l.drop i).take p.length) := by simp [bts, List.map_take, List.map_drop]
          have t4 : ((l.drop i).take p.length).length ≤ maxLen := by rw [List.length_take]; omega
          simp [h, hw2, hin', t1, t2, t3, hin]
          refine lsame_pc E _ _ _ _ _ _ t4 hm3 ?_
          rw [occ_take l p i hin]
          cases ho : Lib.occAt l p i with
          | true =>
            have hfn := findL_hit l p f i hi1 h ho hm
            have heq : (l.drop i).take p.length = p := by have := occ_take l p i hin; rw [ho] at this; exact beq_iff_eq.1 this
            have hpk : peekL l i p.length = p := by unfold peekL; rw [if_neg (by omega)]; simpa using heq
            simp [hfn]
            refine rpeek_pc E _ (some (H.length + 1)) l.length q4 l _ hro i p.length (by omega) (by omega) (by omega) ?_
            rw [hpk]
            simp
            refine lsame_pc E _ _ _ _ _ _ hm3 hm3 ?_
            simp
            exact fin _ _ hlen hkk rfl
          | false =>
            simp [hw3]
            refine Kloop_normal ?_ ?_
            rotate_left
            · simp; omega
            refine ⟨hro, hlen, hb, hkk, i + 1, by omega, fun _ => by omega, fun j hj hj2 => ?_, by omega, fr_intro (by simp)⟩
            by_cases hji : j < i
            · exact hm j hj hji
            · obtain rfl : j = i := by omega
              exact ho
        · have hin' : ¬ (i : Int) + p.length ≤ l.length := by omega
          have hno : Lib.occAt l p i = false := Bool.eq_false_iff.2 fun hh => hin (occ_room l p i h hh)
          simp [h, hw2, hin', hw3]
          refine Kloop_normal ?_ ?_
          rotate_left
          · simp; omega
          refine ⟨hro, hlen, hb, hkk, i + 1, by omega, fun _ => by omega, fun j hj hj2 => ?_, by omega, fr_intro (by simp)⟩
          by_cases hji : j < i
          · exact hm j hj hji
          · obtain rfl : j = i := by omega
            exact hno
      · have hfn := findL_none l p f hfl (fun j hj hj2 => hm j hj (by omega))
        simp [h, hfn]
        exact fin _ _ hlen hkk rfl
    · refine rfind_pc E _ (some (H.length + 1)) l.length q4 l _ hr5 hM p f hf.2 (fun _ h _ => absurd h (by omega)) (fun _ => ?_)
      simp
      refine VL_go (fun fr H' => H' = H5 ∧ ∃ x : Nat → AV, fr = [.sl false 1 (bts l), x 1, x 2, x 3, x 4, .ptr (some (H.length + 1, 0)), x 6, .sl false 1 (bts p), .int .i64 f, x 9, .int .i64 (-1), .int .i64 f, x 12, x 13, x 14, x 15, x 16, x 17, x 18, x 19, x 20, x 21, x 22, x 23, x 24, x 25, x 26, x 27, x 28, x 29, x 30, x 31, x 32, x 33, x 34, x 35, x 36, x 37, x 38, x 39, x 40, x 41, x 42, x 43, x 44, x 45, x 46, x 47, x 48, x 49, x 50, x 51, x 52, x 53, x 54, x 55, x 56, x 57, x 58, x 59, x 60, x 61, x 62, x 63, x 64, x 65, x 66, x 67, x 68, x 69, x 70, x 71, x 72, x 73, x 74, x 75, x 76, x 77, x 78, x 79, x 80, x 81, x 82, x 83, x 84, x 85, x 86, x 87, x 88, x 89, x 90, x 91, x 92, x 93, x 94, x 95, x 96, x 97, x 98, x 99, x 100, x 101, x 102, x 103, x 104, x 105, x 106, x 107, x 108, x 109, x 110, x 111, x 112, x 113, x 114, x 115]) (fun _ _ => 0) ⟨rfl, fr_intro (by simp)⟩ ?_
      rintro fr H' ⟨rfl, x, rfl⟩
      simp [hfl]
      exact fin _ _ (by omega) hk5 rfl
theorem rfound_true (W : World) (a : Option Addr) (b c : Nat) (ks0 : List AV) (op0 : Opened W [.u8s] [.slice a b c] ks0) (hb0 : wtA ks0 + 1 ≤ 1048576) (cs1 : Array Value) (ks1 : List AV) (op1 : Opened W [.u8s, .int .i64, .int .i64] cs1.toList ks1) (hb1 : wtA ks1 + 1 ≤ 1048576) (hm : MaxLenAt W) :
    Calls Try.prog 11 #[.slice a b c, .agg cs1] W fun e w' => e = .returned (.bool true) ∧ Frm (fun _ => False) W w' := by
  match ks0, op0.len with
  | [x0], _ =>
  match ks1, op1.len with
  | [y0, y1, y2], _ =>
    obtain ⟨l, rfl⟩ := kind_u8s (op0.kind 0 _ _ rfl rfl)
    obtain ⟨p, rfl⟩ := kind_u8s (op1.kind 0 _ _ rfl rfl)
    obtain ⟨z1, rfl, w1⟩ := kind_i64 (op1.kind 1 _ _ rfl rfl)
    obtain ⟨z2, rfl, w2⟩ := kind_i64 (op1.kind 2 _ _ rfl rfl)
    simp [wtA] at hb0 hb1
    refine calls_ring (args := [.sl false 1 (bts l), .agg [.sl false 1 (bts p), .int .i64 z1, .int .i64 z2]]) hm rfl (fun t x u hx hu => ?_) (fun E Q hM h => rfound_pc E [] Q hM l p z1 z2 w1 w2 (by omega) (by omega) h)
    match t with
    | 0 =>
      simp at hx hu; subst hx; subst hu
      obtain ⟨_, _, r, bn⟩ := op0.rel 0 _ _ rfl rfl
      exact ⟨r, bn, rfl⟩
    | 1 =>
      simp at hx hu; subst hx; subst hu
      refine ⟨.agg _ _ (by have := op1.clen; simpa using this) (fun x hx => ?_) (fun j x u hx hu => ?_), ?_, rfl⟩
      · simp at hx
        rcases hx with rfl | rfl | rfl <;> exact ⟨rfl, rfl⟩
      · exact (op1.rel j x u hx (by simpa using hu)).2.2.1
      · simp
    | t + 2 => simp at hx
end Go.Proofs.Ytgofogcfolhonaa
