/- Part 6 of the texts below the law: the abstract machine, the functions that it walks, what they compute. -/
import Derived.Test.YtgofogcfolhonaaRa5
import Derived.Shelf.Vars
import Derived.JoinedCond
set_option linter.unusedVariables false
set_option linter.unnecessarySimpa false
set_option linter.unusedSimpArgs false
set_option linter.unusedSectionVars false
set_option maxRecDepth 100000
namespace Go.Proofs.Ytgofogcfolhonaa
open Go Go.RowKit

theorem B8.see {H K : Hp} {v : AV} {l : List UInt8} (h : B8 K H.length v l) : see1 H K v (.sl false 1 (bts l)) ∨ (v = .nil ∧ l = []) := by
  rcases h with ⟨h0, rfl⟩ | ⟨i, c, A, h1, rfl, h2, h3, h4, h5, h6, h7⟩
  · exact .inr ⟨rfl, List.eq_nil_of_length_eq_zero h0⟩
  · refine .inl (.inr ⟨i, 0, l.length, c, 1, A, bts l, rfl, rfl, h1, h2, bts_len l, fun r hr => ?_, fun r hr z hz => ?_, by omega, fun j u hu => ?_⟩)
    · obtain ⟨b, _, rfl⟩ := List.mem_map.1 hr; rfl
    · obtain ⟨b, _, rfl⟩ := List.mem_map.1 hr
      simp at hz; subst hz; exact ⟨rfl, .int _ _⟩
    · rw [bts_c8] at hu
      have hj : j < l.length := by have := ltX hu; rw [c8_len] at this; exact this
      have hj2 : j < A.length := by omega
      have := h7 j _ (by omega) (List.getElem?_eq_getElem hj2)
      rw [Nat.zero_add, List.getElem?_eq_getElem hj2, ← this, hu]
section
variable {H : Hp} {r : Option (Nat × Nat)} {cap q : Nat} {l : List UInt8} (E : Env) (Q : AV → Hp → Prop)
/-- Peek, its answer read on alone. -/
theorem npeekS_pc (hB : BndH H.length H) (h : RN H r cap q l) (fr n : Int) (h1 : -9223372036854775808 ≤ fr) (h2 : fr ≤ 9223372036854775807) (h3 : n ≤ 9223372036854775807) (hne : ¬ (fr < 0 ∨ n < 0 ∨ (l.length : Int) < fr))
    (hQ : Q (.sl false 1 (bts (peekB l fr n))) H) : PC Try.prog E 41 [nptr r, .int .i64 fr, .int .i64 n] H Q := by
  obtain ⟨f, rfl⟩ : ∃ f : Nat, fr = f := ⟨fr.toNat, by omega⟩
  refine PC.sees1 hB (npeek_pc E _ h f n (by omega) h3 (by omega) (fun k hk => ⟨_, rfl, by simp, fun j hj => List.getElem?_append_left hj, ?_, hQ⟩))
  have hkm : k ≤ 1048576 := by
    have := h.fits
    rw [hk, List.length_take, List.length_drop]; omega
  rw [peekB, if_neg hne]
  have hb : B8 (H ++ [c8 ((l.drop f).take n.toNat)]) H.length (.bx H.length 0 k k 1) ((l.drop f).take n.toNat) := B8.of_box (A := c8 ((l.drop f).take n.toNat)) (Nat.le_refl _) (by simp) hk.symm (by rw [hk, c8_take, List.take_length]) (Nat.le_refl _) (by unfold maxLen; omega) (by rw [c8_len, hk]) (c8_smp _)
  rcases hb.see with h | ⟨h, _⟩
  · simpa using h
  · cases h
theorem nmade_pc (c : Int) (hQ : ∀ r n K, RN K r n 0 [] → (∀ i s, r = some (i, s) → H.length ≤ i ∧ H.length ≤ s) → H.length ≤ K.length → (∀ j, j < H.length → K[j]? = H[j]?) → BndH K.length K → Q (.tup [nptr r, dR n [] 0, .bool true]) K) :
    PC Try.prog E 37 [.int .i64 c] H Q := by
  refine PC.nilIn3 ?_
  refine pc_enter Try.func37 rfl [] [] (by kernel_rfl) (fun hB => ?_)
  simp [Try.ntmps37, Try.results37, List.replicate_succ]
  refine nnew_pc E _ c (fun n hc hn1 hn2 hr => ?_) (fun hbad => ?_)
  · subst hc
    simp [Kcall, KP, nptr]
    refine dnew_pc E _ _ n (fun _ _ => ?_) (fun h => absurd h (by omega))
    simp [Kcall, KP]
    have hb : BndH (H ++ [[AV.int .i64 n, .nil, .int .i64 0], c8 (List.replicate n 0), [.bx (H.length + 1) 0 n n 1, .int .i64 0, .int .i64 0], [.int .i64 n, .nil, .int .i64 0]]).length (H ++ [[AV.int .i64 n, .nil, .int .i64 0], c8 (List.replicate n 0), [.bx (H.length + 1) 0 n n 1, .int .i64 0, .int .i64 0], [.int .i64 n, .nil, .int .i64 0]]) := bndX_app (bndX_up hB (by simp)) fun X hX y hy => by
      simp at hX
      rcases hX with rfl | rfl | rfl | rfl
      · simp at hy; rcases hy with rfl | rfl | rfl <;> constructor
      · exact (c8_smp _ y hy).bnd _
      · simp at hy
        rcases hy with rfl | rfl
        · exact .bx _ _ _ _ _ (by simp)
        · exact .int _ _
      · simp at hy; rcases hy with rfl | rfl | rfl <;> constructor
    refine aPost_upX (v := .tup [nptr (some (H.length + 2, H.length + 1)), .agg [.int .i64 n, .nil, .int .i64 0], .bool true]) (by simp [nptr]) (by simp) hb (by simp [nptr]) ⟨_, _, _, _, rfl, hQ (some (H.length + 2, H.length + 1)) n _ ?_ (fun i s e => by cases e; omega) (by simp) (fun j hj => List.getElem?_append_left hj) hb⟩
    exact ⟨by omega, by omega, by omega, by omega, by simp, List.replicate n 0, by simp, by simp, by simp, fun j x hx => by simp at hx⟩
  · simp [Kcall, KP, nptr]
    refine dnew_pc E _ _ c (fun _ _ => absurd hbad (by omega)) (fun _ => ?_)
    simp [Kcall, KP]
    have hb : BndH (H ++ [[AV.int .i64 0, .nil, .int .i64 0], [.int .i64 0, .nil, .int .i64 0]]).length (H ++ [[AV.int .i64 0, .nil, .int .i64 0], [.int .i64 0, .nil, .int .i64 0]]) := bndX_app (bndX_up hB (by simp)) fun X hX y hy => by
      simp at hX; subst hX
      simp at hy; rcases hy with rfl | rfl | rfl <;> constructor
    exact aPost_upX (v := .tup [nptr none, .agg [.int .i64 0, .nil, .int .i64 0], .bool true]) (by simp [nptr]) (by simp) hb (by simp [nptr]) ⟨_, _, _, _, rfl, hQ none 0 _ ⟨rfl, rfl, rfl⟩ (fun i s e => by cases e) (by simp) (fun j hj => List.getElem?_append_left hj) hb⟩
end
def rowsB (l : List (List UInt8)) : List (List AV) := l.map fun p => [.sl false 1 (bts p)]
theorem rowsB_len (l : List (List UInt8)) : (rowsB l).length = l.length := List.length_map ..
theorem rowsB_at {l : List (List UInt8)} {i : Nat} {p : List UInt8} (h : l[i]? = some p) : lat (rowsB l) i = some [.sl false 1 (bts p)] := by show (rowsB l)[i]? = _; simp [rowsB, h]
theorem shareZ {I P : List AV → Hp → Prop} {G : Prop} (main : (∀ fr H', I fr H' → P fr H') → G) (tail : ∀ fr H', I fr H' → P fr H') : G := main tail
/-- Between two pieces. -/
structure RgS (H K : Hp) (r : Option (Nat × Nat)) (cap b : Nat) (l : List UInt8) : Prop where
  ring : RN K r cap 0 l
  doc : K[b]? = some [.int .i64 cap, .sl false 1 (bts l), .int .i64 0]
  nb : ∀ i s, r = some (i, s) → b ≠ i ∧ b ≠ s
  hb : H.length ≤ b
  hr : ∀ i s, r = some (i, s) → H.length ≤ i ∧ H.length ≤ s
  kp : Kpt H K
def raI (H : Hp) (c : Int) (ps : List (List UInt8)) (r : Option (Nat × Nat)) (cap b : Nat) (fr : List AV) (K : Hp) : Prop := ∃ (i : Nat) (l : List UInt8), i ≤ ps.length ∧ RgS H K r cap b l ∧ BndH K.length K ∧
  ∃ x : Nat → AV, fr = [.int .i64 c, .sl false 1 (rowsB ps), x 2, x 3, x 4, nptr r, .ptr (some (b, 0)), x 7, x 8, x 9, x 10, x 11, x 12, x 13, x 14, x 15, x 16, x 17, x 18, x 19, x 20, x 21, .sl false 1 (rowsB ps), .int .i64 ps.length, .int .i64 i, x 25, x 26, x 27, x 28, x 29, x 30, x 31, x 32, x 33, x 34, x 35, x 36, x 37, x 38, x 39, x 40, x 41, x 42, x 43, x 44, x 45, x 46, x 47, x 48, x 49, x 50, x 51, x 52, x 53, x 54, x 55, x 56, x 57, x 58, x 59, x 60]
/-- The piece is written over. -/
def raJ (H : Hp) (c : Int) (ps : List (List UInt8)) (r : Option (Nat × Nat)) (cap b i : Nat) (l p : List UInt8) (fr : List AV) (K : Hp) : Prop := ∃ (j d cc : Nat), j ≤ p.length ∧ RN K r cap 0 (l ++ p.take (cap - l.length)) ∧ K[b]? = some [.int .i64 cap, .sl false 1 (bts l), .int .i64 0] ∧ Kpt H K ∧ (∀ i s, r = some (i, s) → d ≠ i ∧ d ≠ s) ∧ d ≠ b ∧ H.length ≤ d ∧
  BX K (fun j => j = d) 1 (.bx d 0 p.length cc 1) p.length (fun _ u => ∃ z, u = .int .u8 z) ∧ BndH K.length K ∧
  ∃ x : Nat → AV, fr = [.int .i64 c, .sl false 1 (rowsB ps), x 2, x 3, x 4, nptr r, .ptr (some (b, 0)), x 7, x 8, .sl false 1 (bts p), .bx d 0 p.length cc 1, x 11, x 12, x 13, x 14, x 15, x 16, x 17, x 18, x 19, x 20, x 21, .sl false 1 (rowsB ps), .int .i64 ps.length, .int .i64 i, x 25, x 26, x 27, x 28, x 29, x 30, x 31, x 32, x 33, .bx d 0 p.length cc 1, .int .i64 p.length, .int .i64 j, x 37, x 38, x 39, x 40, x 41, x 42, x 43, x 44, x 45, x 46, x 47, x 48, x 49, x 50, x 51, x 52, x 53, x 54, x 55, x 56, x 57, x 58, x 59, x 60]
section
variable {H : Hp} (E : Env) (Q : AV → Hp → Prop)
set_option maxHeartbeats 4000000 in
theorem rarg_pc (c : Int) (ps : List (List UInt8)) (hl : ps.length ≤ 1048576) (hp : ∀ p ∈ ps, p.length ≤ 1048576) (hQ : Q (.bool true) H) : PC Try.prog E 6 [.int .i64 c, .sl false 1 (rowsB ps)] H Q := by
  refine pc_enter Try.func6 rfl [28] [(9, [3, 0, 3, 0]), (17, [0, 0, 1, 1])] (by kernel_rfl) (fun hB => ?_)
  simp [Try.ntmps6, Try.results6, List.replicate_succ]
  refine lawake_pc E H _ ?_
  simp [Kcall, KP]
  refine nmade_pc E _ c (fun r cap K0 hr0 hrH hle0 hk0 hb0 => ?_)
  simp [Kcall, KP, dR, rowsB_len]
  refine VL_go (raI H c ps r cap K0.length) (fun fr _ => ps.length - (ai (aget fr 24)).toNat) ⟨0, [], by omega, ⟨hr0.app _, by simp [bts], fun i s e => by have := hr0.lt i s e; omega, hle0, hrH, ⟨by simp; omega, fun j hj => (List.getElem?_append_left (by omega)).trans (hk0 j hj)⟩⟩, bndX_app (bndX_up hb0 (by simp)) (by simp), fr_intro (by simp)⟩ ?_
  clear hr0 hrH hk0
  obtain ⟨b, hb⟩ : ∃ b, K0.length = b := ⟨_, rfl⟩
  rw [hb]
  clear hle0 hb0 hb
  rintro fr K ⟨i, l, hi, hS, hBK, x, rfl⟩
  have w1 : IntKind.i64.wrap ((i : Int) + 1) = i + 1 := wrap_in (by omega) (by omega)
  by_cases h1 : i < ps.length
  · obtain ⟨p, hpi⟩ : ∃ p, ps[i]? = some p := ⟨_, List.getElem?_eq_getElem h1⟩
    have hat := rowsB_at hpi
    have hpl := hp p (List.mem_of_getElem? hpi)
    have hfit := hS.ring.fits
    have m1 : p.length ≤ maxLen := by unfold maxLen; omega
    have m2 : p.length ≤ 140737488355328 := by omega
    apply shareZ (I := raJ H c ps r cap b i l p)
    · intro hgo
      have hdb := ltX hS.doc
      have go2 : ∀ (J : Hp) (d cc : Nat) (A : List AV), (∀ X ∈ J, ∀ y ∈ X, smp y) → K.length ≤ d → (K ++ J)[d]? = some A → A.take p.length = c8 p → p.length ≤ cc → cc ≤ maxLen → A.length = cc → ∀ K2, RN K2 r cap 0 (l ++ p.take (cap - l.length)) → OthR (K ++ J) K2 r → BndH K2.length K2 →
          ∀ fr, (∃ x : Nat → AV, fr = [.int .i64 c, .sl false 1 (rowsB ps), x 2, x 3, x 4, nptr r, .ptr (some (b, 0)), x 7, x 8, .sl false 1 (bts p), .bx d 0 p.length cc 1, x 11, x 12, x 13, x 14, x 15, x 16, x 17, x 18, x 19, x 20, x 21, .sl false 1 (rowsB ps), .int .i64 ps.length, .int .i64 i, x 25, x 26, x 27, x 28, x 29, x 30, x 31, x 32, x 33, .bx d 0 p.length cc 1, .int .i64 p.length, .int .i64 0, x 37, x 38, x 39, x 40, x 41, x 42, x 43, x 44, x 45, x 46, x 47, x 48, x 49, x 50, x 51, x 52, x 53, x 54, x 55, x 56, x 57, x 58, x 59, x 60]) → raJ H c ps r cap b i l p fr K2 := fun J d cc A hJ hd hA hAp hc hcm hcl K2 hR hO hb2 fr hfr => by
        have hrl := hS.ring.lt
        have hdi : ∀ i s, r = some (i, s) → d ≠ i ∧ d ≠ s := fun i s e => by have := hrl i s e; omega
        have hK2 : ∀ j, j < K.length → (∀ i s, r = some (i, s) → j ≠ i ∧ j ≠ s) → K2[j]? = K[j]? := fun j hj hjr => (hO.2 j hjr).trans (List.getElem?_append_left hj)
        have hl2 : K.length ≤ K2.length := by rw [hO.1]; simp
        refine ⟨0, d, cc, by omega, hR, (hK2 b hdb hS.nb).trans hS.doc, ⟨by have := hS.kp.1; omega, fun j hj => (hK2 j (by have := hS.kp.1; omega) fun i s e => by have := hS.hr i s e; omega).trans (hS.kp.2 j hj)⟩, hdi, by omega, by have := hS.kp.1; omega, ?_, hb2, hfr⟩
        have hAm : A ∈ J := by rw [List.getElem?_append_right hd] at hA; exact List.mem_of_getElem? hA
        refine .inr ⟨d, cc, A, rfl, rfl, (hO.2 d hdi).trans hA, by omega, hc, hcm, hJ A hAm, fun j y hj hy => ?_⟩
        have : (c8 p)[j]? = some y := by rw [← hAp, List.getElem?_take_of_lt (by omega)]; exact hy
        rw [c8_at] at this
        obtain ⟨z, _, rfl⟩ := Option.map_eq_some_iff.1 this
        exact ⟨_, rfl⟩
      by_cases hp0 : p = []
      · subst hp0
        simp [h1, hat, rowsB_len]
        refine PC.bnd (nput_pc E _ (hS.ring.app [[]]) (p := []) (b := K.length) (c := 0) (A := []) (fun i s e => by have := hS.ring.lt i s e; omega) (by simp) (by simp) (by simp) (by simp) (fun K2 hR hO hb2 _ => ?_))
        simp [Kcall, KP]
        exact hgo _ _ (go2 [[]] K.length 0 [] (by simp) (by omega) (by simp) (by simp) (by simp) (by unfold maxLen; omega) (by simp) K2 hR hO hb2 _ (fr_intro (by simp)))
      · have hp1 : ¬ bts p = [] := fun e => hp0 (by have := congrArg List.length e; rw [bts_len] at this; exact List.eq_nil_of_length_eq_zero (by simpa using this))
        have hp2 : ¬ p.length = 0 := fun e => hp0 (List.eq_nil_of_length_eq_zero e)
        simp [h1, hat, rowsB_len, hp1, hp2, m1, m2, bts_c8]
        refine VGrow_intro fun cc hc1 hc2 => ?_
        have sm1 : ∀ y ∈ c8 p ++ List.replicate (cc - p.length) (AV.int .u8 0), smp y := fun y hy => by
          rcases List.mem_append.1 hy with h | h
          · exact c8_smp _ y h
          · rw [(List.mem_replicate.1 h).2]; exact smp_int _ _
        have p1 : (c8 p ++ List.replicate (cc - p.length) (AV.int .u8 0)).take p.length = c8 p := by rw [List.take_append_of_le_length (by rw [c8_len]; omega), List.take_of_length_le (by rw [c8_len]; omega)]
        have ln1 : (c8 p ++ List.replicate (cc - p.length) (AV.int .u8 0)).length = cc := by rw [List.length_append, c8_len, List.length_replicate]; omega
        obtain ⟨B1, hB1⟩ : ∃ B1, c8 p ++ List.replicate (cc - p.length) (AV.int .u8 0) = B1 := ⟨_, rfl⟩
        rw [hB1] at sm1 p1 ln1
        simp [hB1]
        refine PC.bnd (nput_pc E _ (hS.ring.app [[], B1]) (p := p) (b := K.length + 1) (c := cc) (A := B1) (fun i s e => by have := hS.ring.lt i s e; omega) (by simp) p1 hc1 (by omega) (fun K2 hR hO hb2 _ => ?_))
        simp [Kcall, KP]
        exact hgo _ _ (go2 [[], B1] (K.length + 1) cc B1 (by simpa using sm1) (by omega) (by simp) p1 hc1 hc2 ln1 K2 hR hO hb2 _ (fr_intro (by simp)))
    · intro fr K1 hI
      refine VL_go (raJ H c ps r cap b i l p) (fun fr _ => p.length - (ai (aget fr 36)).toNat) hI ?_
      clear hI
      have hnb := hS.nb
      have hHb := hS.hb
      have hHr := hS.hr
      clear hS hBK
      rintro fr K ⟨j, d, cc, hj, hR, hD, hK, hd1, hd2, hd3, hX, hBK, x, rfl⟩
      have wj : IntKind.i64.wrap ((j : Int) + 1) = j + 1 := wrap_in (by omega) (by omega)
      by_cases h2 : j < p.length
      · rcases id hX with ⟨_, e⟩ | ⟨vi, vc, A, hvi, e, hA, h3, h4, h5', h6, h7⟩
        · cases e
        cases e
        have hjl : j < A.length := by omega
        obtain ⟨z, hz⟩ : ∃ z, A[j]? = some (.int .u8 z) := by
          obtain ⟨z, hz⟩ := h7 j _ (by omega) (List.getElem?_eq_getElem hjl)
          exact ⟨z, by rw [List.getElem?_eq_getElem hjl, hz]⟩
        have hjl2 : j + 1 ≤ A.length := hjl
        have hjl' := hjl
        clear hjl
        simp [h2, hA, hz, hjl2, wj]
        obtain ⟨zz, hzz⟩ : ∃ zz : Int, IntKind.u8.wrap ↑((z % 2 ^ IntKind.u8.bits).toNat ^^^ 90 % 2 ^ IntKind.u8.bits) = zz := ⟨_, rfl⟩
        obtain ⟨b1, b2⟩ := hX.mark hA h2 (r := [.int .u8 zz]) rfl (by simp) (C' := fun _ u => ∃ z, u = .int .u8 z) (fun m u hm hu => by
          split at hu
          · rename_i h; rw [show m - j * 1 = 0 by omega] at hu; simp at hu; exact ⟨_, hu.symm⟩
          · exact hu)
        simp only [Nat.mul_one, List.singleton_append] at b1 b2
        simp only [hzz]
        exact Kloop_normal ⟨j + 1, d, cc, by omega, hR.put hd1 _, (getNX hd2 _).trans hD, ⟨by simpa using hK.1, fun j hj => (getNX (by omega) _).trans (hK.2 j hj)⟩, hd1, hd2, hd3, b1, by rw [List.length_set]; exact bndX_put hBK _ fun y hy => (b2 y hy).bnd _, fr_intro (by simp)⟩ (by simp; omega)
      · simp [h2, hD]
        refine PC.bnd (dput_pc E _ cap 0 l _ hfit.1 hfit.2.1 p (by omega) (fun hb2 _ => ?_))
        have hbl := ltX hD
        obtain ⟨l2, hl2⟩ : ∃ l2, l ++ p.take (cap - l.length) = l2 := ⟨_, rfl⟩
        rw [hl2] at hR ⊢
        have hS2 : RgS H (K.set b [.int .i64 cap, .sl false 1 (bts l2), .int .i64 0]) r cap b l2 := ⟨hR.put hnb _, List.getElem?_set_self hbl, hnb, hHb, hHr, ⟨by simpa using hK.1, fun j hj => (getNX (by omega) _).trans (hK.2 j hj)⟩⟩
        have hb3 := bndX_put hb2 b (l := [.int .i64 cap, .sl false 1 (bts l2), .int .i64 0]) (fun y hy => by
          simp at hy
          rcases hy with rfl | rfl | rfl
          · exact .int _ _
          · exact bnd_sl_bts _ _ _
          · exact .int _ _)
        have hb4 : BndH (K.set b [.int .i64 cap, .sl false 1 (bts l2), .int .i64 0]).length (K.set b [.int .i64 cap, .sl false 1 (bts l2), .int .i64 0]) := by rw [List.length_set]; exact hb3
        have hfit2 := hR.fits
        have hm2 : l2.length ≤ maxLen := by unfold maxLen; omega
        have g1 := hS2.doc
        simp [Kcall, KP, dR, hD]
        refine nlen_pc E _ hS2.ring ?_
        simp [Kcall, KP, preH_refl]
        refine npeekS_pc E _ hb4 hS2.ring 0 l2.length (by omega) (by omega) (by omega) (by omega) ?_
        have hpk : peekB l2 0 l2.length = l2 := by rw [peekB, if_neg (by omega)]; simp
        rw [hpk]
        simp [Kcall, KP, preH_refl, g1]
        refine lsame_pc E _ _ _ _ l2 l2 hm2 hm2 ?_
        simp [Kcall, KP, preH_refl, w1]
        exact Kloop_normal ⟨i + 1, l2, by omega, hS2, hb4, fr_intro (by simp)⟩ (by simp; omega)
  · simp [h1]
    exact aPost_lawX hB hS.kp.1 hS.kp.2 rfl (by simp) hQ
end
end Go.Proofs.Ytgofogcfolhonaa

set_option linter.unusedVariables false
set_option linter.unusedSimpArgs false
set_option linter.unusedSectionVars false
set_option maxRecDepth 100000
namespace Go.Proofs.Ytgofogcfolhonaa
open Go Go.RowKit

theorem kind_u8s {x : AV} (h : KindOf .u8s x) : ∃ l, x = .sl false 1 (bts l) := by
  match x, h with
  | .sl false 1 rows, h =>
    obtain ⟨l, rfl⟩ := h
    exact ⟨l, rfl⟩
end Go.Proofs.Ytgofogcfolhonaa

set_option linter.unusedVariables false
set_option linter.unusedSimpArgs false
set_option linter.unusedSectionVars false
set_option maxRecDepth 100000
namespace Go.Proofs.Ytgofogcfolhonaa
open Go Go.RowKit

end Go.Proofs.Ytgofogcfolhonaa

set_option linter.unusedVariables false
set_option linter.unusedSimpArgs false
set_option linter.unusedSectionVars false
set_option maxRecDepth 100000
namespace Go.Proofs.Ytgofogcfolhonaa
open Go Go.RowKit

def bkK : List CK := [.u8s]
theorem rowsB_of_rows : ∀ (rows : List (List AV)), (∀ r ∈ rows, r.length = 1 ∧ ∀ (j : Nat) k y, bkK[j]? = some k → r[j]? = some y → KindOf k y) → wtA rows.flatten ≤ 1048576 → ∃ ps : List (List UInt8), rows = rowsB ps ∧ ∀ p ∈ ps, p.length ≤ 1048576
  | [], _, _ => ⟨[], rfl, fun o ho => by cases ho⟩
  | r :: rows, h, hw => by
    rw [List.flatten_cons, wtA_app] at hw
    obtain ⟨ps, rfl, hs⟩ := rowsB_of_rows rows (fun q hq => h q (List.mem_cons_of_mem _ hq)) (by omega)
    obtain ⟨h1, h2⟩ := h r (List.mem_cons_self ..)
    match r, h1 with
    | [a0], _ =>
      obtain ⟨p, rfl⟩ := kind_u8s (h2 0 _ _ rfl rfl)
      refine ⟨p :: ps, rfl, fun p' hp' => ?_⟩
      rcases List.mem_cons.1 hp' with rfl | hp'
      · simp [wtA] at hw; omega
      · exact hs p' hp'
theorem rarg_true (W : World) (c : Int) (bo : Option Addr) (len cap : Nat) (rows : List (List AV)) (r0 : -9223372036854775808 ≤ c ∧ c ≤ 9223372036854775807) (hr : Rel W (fun _ => 0) (old W) (.sl false 1 rows) (.slice bo len cap)) (hn : Bnd 0 (.sl false 1 rows))
    (hk : ∀ r ∈ rows, r.length = 1 ∧ ∀ (j : Nat) k y, bkK[j]? = some k → r[j]? = some y → KindOf k y) (e : rows.length = len) (hb : wtA rows.flatten + len ≤ 1048576) :
    Calls Try.prog 6 #[.int .i64 c, .slice bo len cap] W fun e w' => e = .returned (.bool true) ∧ Frm (fun _ => False) W w' := by
  obtain ⟨ps, rfl, hs⟩ := rowsB_of_rows rows hk (by omega)
  rw [rowsB_len] at e
  refine calls_of_pc (args := [.int .i64 c, .sl false 1 (rowsB ps)]) (old W) (fun _ _ h => h) rfl (fun t x u hx hu => ?_) (fun E Q h => rarg_pc E Q c ps (by omega) hs h)
  match t with
  | 0 => simp at hx hu; subst hx; subst hu; exact ⟨.int _ _, .int _ _, rfl⟩
  | 1 => simp at hx hu; subst hx; subst hu; exact ⟨hr, hn, rfl⟩
  | t + 2 => simp at hx
end Go.Proofs.Ytgofogcfolhonaa

