/- Part 6 of the texts below the law: the abstract machine, the functions that it walks, what they compute. -/
import Derived.Test.YtgofogcfolhonaaRw5
import Derived.JoinedCond
set_option linter.unusedVariables false
set_option linter.unnecessarySimpa false
set_option linter.unusedSimpArgs false
set_option linter.unusedSectionVars false
set_option maxRecDepth 100000
namespace Go.Proofs.Ytgofogcfolhonaa
open Go Go.RowKit

def nrow (l : List Int) : List (List AV) := l.map fun z => [.int .i64 z]
theorem nrow_len (l : List Int) : (nrow l).length = l.length := by simp [nrow]
theorem nrow_at {l : List Int} {i : Nat} {z : Int} (h : l[i]? = some z) : lat (nrow l) i = some [.int .i64 z] := by simp [lat, nrow, h]
theorem nrow_map (l : List Int) : ((l.map (AV.int .i64)).map fun y => [y]) = nrow l := by simp [nrow]
/-- The boxes of the walk: h how many there were at the start. -/
structure WF (H : Hp) (l : List Int) (lv : Int) (K : Hp) : Prop where
  len : H.length + 6 ≤ K.length
  kp : ∀ j, j < H.length → K[j]? = H[j]?
  f0 : K[H.length]? = some [.sl false 1 (nrow l)]
  f1 : K[H.length + 1]? = some [.int .i64 lv]
  f2 : K[H.length + 2]? = some [.bool false]
  f3 : K[H.length + 3]? = some [.int .i64 l.length]
  f5 : K[H.length + 5]? = some [.ptr (some (H.length + 4, 0))]
theorem WF.app {H : Hp} {l : List Int} {lv : Int} {K : Hp} (h : WF H l lv K) (J : Hp) : WF H l lv (K ++ J) := by
  have := h.len
  exact ⟨by simp; omega, fun j hj => (List.getElem?_append_left (by omega)).trans (h.kp j hj), (List.getElem?_append_left (by omega)).trans h.f0, (List.getElem?_append_left (by omega)).trans h.f1, (List.getElem?_append_left (by omega)).trans h.f2, (List.getElem?_append_left (by omega)).trans h.f3, (List.getElem?_append_left (by omega)).trans h.f5⟩
theorem WF.keep {H : Hp} {l : List Int} {lv : Int} {K K' : Hp} (h : WF H l lv K) (hl : K.length ≤ K'.length) (hk : ∀ j, j < H.length + 6 → j ≠ H.length + 4 → K'[j]? = K[j]?) : WF H l lv K' := by
  have := h.len
  exact ⟨by omega, fun j hj => (hk j (by omega) (by omega)).trans (h.kp j hj), (hk _ (by omega) (by omega)).trans h.f0, (hk _ (by omega) (by omega)).trans h.f1, (hk _ (by omega) (by omega)).trans h.f2, (hk _ (by omega) (by omega)).trans h.f3, (hk _ (by omega) (by omega)).trans h.f5⟩
def wI (H : Hp) (l : List Int) (lv more : Int) (fr : List AV) (K : Hp) : Prop := ∃ (i : Nat) (r : Option Nat), i ≤ l.length ∧ WF H l lv K ∧ QB K (H.length + 4) r (l.length + 1) ((l.take i).map (AV.int .i64)) ∧ (∀ s, r = some s → H.length + 6 ≤ s) ∧ BndH K.length K ∧
  ∃ x : Nat → AV, fr = [.sl false 1 (nrow l), .int .i64 lv, .int .i64 more, .ptr (some (H.length, 0)), .ptr (some (H.length + 1, 0)), x 5, .ptr (some (H.length + 2, 0)), .ptr (some (H.length + 3, 0)), .ptr (some (H.length + 5, 0)), x 9, x 10, x 11, x 12, x 13, x 14, x 15, x 16, x 17, x 18, x 19, x 20, x 21, x 22, x 23, x 24, x 25, x 26, x 27, x 28, x 29, x 30, x 31, x 32, x 33, x 34, x 35, x 36, x 37, x 38, x 39, x 40, x 41, x 42, x 43, x 44, .sl false 1 (nrow l), .int .i64 l.length, .int .i64 i, x 48, x 49, x 50, x 51, x 52, x 53, x 54, x 55, x 56, x 57, x 58, x 59, x 60, x 61, x 62, x 63, x 64, x 65, x 66, x 67, x 68, x 69, x 70, x 71, x 72, x 73, x 74, x 75, x 76, x 77, x 78, x 79, x 80, x 81, x 82, x 83, x 84, x 85, x 86, x 87, x 88, x 89, x 90, x 91, x 92, x 93, x 94, x 95, x 96, x 97, x 98, x 99, x 100, x 101, x 102, x 103, x 104, x 105, x 106, x 107, x 108, x 109, x 110, x 111, x 112, x 113, x 114, x 115, x 116, x 117, x 118, x 119, x 120, x 121, x 122, x 123, x 124, x 125, x 126, x 127, x 128, x 129, x 130, x 131, x 132, x 133, x 134, x 135, x 136, x 137, x 138, x 139, x 140, x 141, x 142, x 143, x 144, x 145, x 146, x 147, x 148, x 149, x 150, x 151, x 152, x 153, x 154, x 155, x 156, x 157, x 158, x 159, x 160, x 161, x 162, x 163]
theorem Okc.rfB {P : Program} {E : Env} {fr : List AV} {H : Hp} {ro : Option Nat} {o0 : Bool} {g : Operand} {p1 p2 : Tmp} {assign body : Code} {gf b id0 : Nat} {rows : List AV} {K : Exit → List AV → Hp → Prop} (hB : hasB P gf = true) (hg : aeval fr g = .fn gf [.ptr (some (b, 0))]) (hit : Iter P gf)
    (I : Nat → Hp → Prop) (X : Hp → Prop) (h0 : I 0 H) (hb : H[b]? = some [.sl o0 1 (rows.map fun y => [y])])
    (hround : ∀ l i H' y, I i H' → rows[i]? = some y → BndH H'.length H' → Okc P E (some l) assign (fun e fr1 H1 => e = .normal ∧ Okc P E (some l) body (RK I (fun id H => id = id0 ∧ X H) i) fr1 H1) (frR fr p1 p2 i y) H')
    (hdone : ∀ H', I rows.length H' → X H') (hend : ∀ H', X H' → BndH H'.length H' → H.length ≤ H'.length → K .normal fr H') : Okc P E ro (.block id0 (.rangeFunc g #[p1, p2] assign body)) K fr H :=
  Okc.block (Okc.rf hB hg hit I (fun id H => id = id0 ∧ X H) h0 hb hround (fun H' hI hb hl => hend H' (hdone H' hI) hb hl) (fun id H' hX hb hl => by
    obtain ⟨rfl, hX⟩ := hX
    simpa using hend H' hX hb hl))
section
variable {H : Hp} (E : Env) (Q : AV → Hp → Prop)
set_option maxHeartbeats 4000000 in
theorem rwalk_pc (l : List Int) (lv more : Int) (hlv1 : -9223372036854775808 ≤ lv) (hlv2 : lv ≤ 9223372036854775807) (hl : l.length ≤ 1048576) (hQ : Q (.bool true) H) : PC Try.prog E 5 [.sl false 1 (nrow l), .int .i64 lv, .int .i64 more] H Q := by
  refine pc_enterM Try.func5 rfl (by kernel_rfl) (fun hB => ?_)
  simp [Try.ntmps5, Try.results5, List.replicate_succ]
  refine Okc.sq (B := []) (ND := []) (by kernel_rfl) ?_
  simp
  refine Okc.sq (B := []) (ND := []) (by kernel_rfl) ?_
  simp
  refine steady_pc E _ ?_
  simp [Kcall, KP]
  refine Okc.sq (B := []) (ND := []) (by kernel_rfl) ?_
  simp
  refine Okc.sq (B := []) (ND := []) (by kernel_rfl) ?_
  simp [nrow_len]
  by_cases h1 : l.length < 1
  · have h1' : (l.length : Int) < 1 := by omega
    simp [h1']
    exact aPost_lawX hB (by simp) (fun j hj => List.getElem?_append_left hj) (by simp [ares]) (by simp) hQ
  have h1' : ¬ (l.length : Int) < 1 := by omega
  by_cases h2 : 300 < l.length
  · have h2' : 300 < (l.length : Int) := by omega
    simp [h1', h2']
    exact aPost_lawX hB (by simp) (fun j hj => List.getElem?_append_left hj) (by simp [ares]) (by simp) hQ
  have h2' : ¬ 300 < (l.length : Int) := by omega
  have w1 : IntKind.i64.wrap ((l.length : Int) + 1) = l.length + 1 := wrap_in (by omega) (by omega)
  simp [h1', h2']
  refine Okc.sq (B := []) (ND := []) (by kernel_rfl) ?_
  simp [w1]
  refine nsnew_pc E _ _ (by omega) (by omega) (fun hb0 => ?_)
  simp [Kcall, KP, qptr]
  refine Okc.sq (B := []) (ND := []) (by kernel_rfl) ?_
  simp
  refine Okc.sq (B := []) (ND := []) (by kernel_rfl) ?_
  simp [nrow_len]
  have hb1 := bndX_app (bndX_up hb0 (show (H ++ [[AV.sl false 1 (nrow l)], [AV.int .i64 lv], [AV.bool false], [AV.int .i64 (l.length : Int)]]).length + 1 ≤ H.length + 6 by simp)) (J := [[AV.ptr (some (H.length + 4, 0))]]) (fun X hX w hw => by
    simp only [List.mem_cons, List.not_mem_nil, or_false] at hX; subst hX
    simp only [List.mem_cons, List.not_mem_nil, or_false] at hw; subst hw
    exact .ptr _ _ (by omega))
  refine VL_go (wI H l lv more) (fun fr _ => l.length - (ai (aget fr 47)).toNat) ⟨0, none, by omega, ⟨by simp, fun j hj => List.getElem?_append_left hj, by simp, by simp, by simp, by simp, by simp⟩, ⟨rfl, by simp⟩, nofun, by simpa using hb1, fr_intro (by simp)⟩ ?_
  rintro fr K ⟨i, r, hi, hW, hq, hr, hBK, x, rfl⟩
  have wi : IntKind.i64.wrap ((i : Int) + 1) = i + 1 := wrap_in (by omega) (by omega)
  by_cases h3 : i < l.length
  · obtain ⟨z, hz⟩ : ∃ z, l[i]? = some z := ⟨_, List.getElem?_eq_getElem h3⟩
    have hat := nrow_at hz
    simp [h3, hat, hW.f5]
    refine nspush_pc E _ hq hBK (by omega) (.int .i64 z) ⟨_, rfl⟩ (by simp; omega) (fun K' r' hq' ho hr' hb' => ?_)
    simp [Kcall, KP, wi]
    have hlt := hW.len
    refine Kloop_normal ⟨i + 1, r', by omega, hW.keep ho.1 (fun j hj hj2 => ho.2 j (by omega) hj2 (fun e => by have := hr j e; omega)), ?_, fun s e => (hr' s e).elim (hr s) (fun h => by omega), hb', fr_intro (by simp)⟩ (by simp; omega)
    rw [List.take_add_one, hz, List.map_append]
    exact hq'
  obtain rfl : i = l.length := by omega
  rw [List.take_length] at hq
  simp [h3]
  clear hb1 hb0
  refine Okc.sq (B := []) (ND := []) (by kernel_rfl) ?_
  simp [hW.f5]
  refine nsall_pc E _ (z := some (H.length + 4, r)) hq (by simp; omega) (fun o => ?_)
  rw [nrow_map]
  simp [Kcall, KP]
  refine Okc.sq (B := []) (ND := []) (by kernel_rfl) ?_
  simp
  refine Okc.sq (B := []) (ND := []) (by kernel_rfl) ?_
  simp
  refine Okc.seq (Okc.sq (B := []) (ND := []) (by kernel_rfl) ?_)
  simp
  refine Okc.block ?_
  obtain ⟨k, hk⟩ : ∃ k : Nat, lv % (l.length : Int) = k := ⟨(lv % (l.length : Int)).toNat, by have := Int.emod_nonneg lv (show (l.length : Int) ≠ 0 by omega); omega⟩
  have hkl : k < l.length := by have := Int.emod_lt_of_pos lv (show (0 : Int) < l.length by omega); omega
  have wk : IntKind.i64.wrap ((k : Int) + 1) = k + 1 := wrap_in (by omega) (by omega)
  have hWl := hW.len
  obtain ⟨T, hT⟩ : ∃ T : Nat → Hp, T = fun i : Nat => K ++ [[.sl o 1 (nrow l)], [.fn 59 [.ptr (some (K.length, 0))]], [.int .i64 (i : Int)]] := ⟨_, rfl⟩
  have hWT : ∀ i, WF H l lv (T i) := fun i => by rw [hT]; exact hW.app _
  have hqT : ∀ i, QB (T i) (H.length + 4) r (l.length + 1) (l.map (AV.int .i64)) := fun i => by rw [hT]; exact hq.app _
  have t0 : ∀ i, (T i)[K.length]? = some [.sl o 1 (nrow l)] := fun i => by rw [hT]; simp
  have t1 : ∀ i, (T i)[K.length + 1]? = some [.fn 59 [.ptr (some (K.length, 0))]] := fun i => by rw [hT]; simp
  have t2 : ∀ i : Nat, (T i)[K.length + 2]? = some [.int .i64 (i : Int)] := fun i => by rw [hT]; simp
  have tl : ∀ i, (T i).length = K.length + 3 := fun i => by rw [hT]; simp
  have ts : ∀ i j : Nat, (T i).set (K.length + 2) [.int .i64 ((j : Int) + 1)] = T (j + 1) := fun i j => by rw [hT]; simp
  rw [show K ++ [[.sl o 1 (nrow l)], [.fn 59 [.ptr (some (K.length, 0))]], [.int .i64 0]] = T 0 by rw [hT]; rfl]
  refine Okc.rf (rows := l.map (AV.int .i64)) (o0 := o) (by kernel_rfl) rfl ns_iter (fun i H' => i ≤ k ∧ H' = T i) (fun id H' => id = 2 ∧ H' = T (k + 1)) ⟨Nat.zero_le _, rfl⟩ (by rw [nrow_map]; exact t0 0) (fun lr i H' y hI hy hB' => ?_) (fun H' hI hB' hl' => ?_) (fun id H' hI hB' hl' => ?_)
  · obtain ⟨hi, rfl⟩ := hI
    rw [List.getElem?_map] at hy
    obtain ⟨z, hz, rfl⟩ := Option.map_eq_some_iff.1 hy
    have hat := nrow_at hz
    have hil : ¬ (l.length : Int) ≤ i := by omega
    have wi2 : IntKind.i64.wrap ((i : Int) + 1) = i + 1 := wrap_in (by omega) (by omega)
    refine Okc.vcR (B := []) (ND := []) (by kernel_rfl) ?_
    simp [frR]
    refine Okc.vcR (B := []) (ND := []) (by kernel_rfl) ?_
    simp [t2, (hWT i).f0, (hWT i).f3, hil, hat, wi2, ts, (hWT (i + 1)).f1, (hWT (i + 1)).f3]
    refine qkind_pc E _ lv l.length (by omega) (by omega) hlv1 hlv2 ?_
    rw [hk]
    by_cases h4 : i = k
    · subst h4
      simp [Kcall, KP, RK]
    · have h5 : ((i : Int) == (k : Int)) = false := by simpa using fun e : (i : Int) = k => h4 (by omega)
      simp [Kcall, KP, RK, h5]
      omega
  · obtain ⟨h4, rfl⟩ := hI
    simp at h4
    omega
  obtain ⟨rfl, rfl⟩ := hI
  simp
  refine Okc.sq (B := []) (ND := [(26, [0, 0, 0, 1])]) (by kernel_rfl) ?_
  simp [t2, (hWT (k + 1)).f1, (hWT (k + 1)).f3]
  refine qkind_pc E _ lv l.length (by omega) (by omega) hlv1 hlv2 ?_
  rw [hk]
  simp [Kcall, KP, preH_refl, wk]
  refine Okc.sq (B := []) (ND := []) (by kernel_rfl) ?_
  simp [(hWT (k + 1)).f5]
  refine nspush_pc E _ (hqT (k + 1)) hB' (by omega) (.int .i64 more) ⟨_, rfl⟩ (by simp; omega) (fun K2 r2 hq2 ho2 hr2 hb2 => ?_)
  have rT : ∀ s, r = some s → H.length + 6 ≤ s ∧ s < K.length := fun s e => ⟨hr s e, (hq.lt.2 s e).1⟩
  have hW2 : WF H l lv K2 := (hWT (k + 1)).keep ho2.1 (fun j hj hj2 => ho2.2 j (by rw [tl]; omega) hj2 (fun e => by have := hr j e; omega))
  have hr2' : ∀ s, r2 = some s → H.length + 6 ≤ s ∧ (s < K.length ∨ K.length + 3 ≤ s) := fun s e => by
    rcases hr2 s e with h | h
    · have := rT s h; omega
    · rw [tl] at h; omega
  have k2 : ∀ j, K.length ≤ j → j < K.length + 3 → K2[j]? = (T (k + 1))[j]? := fun j h4 h5 => ho2.2 j (by rw [tl]; omega) (by omega) (fun e => by have := rT j e; omega)
  have l2 : K.length + 3 ≤ K2.length := by have := ho2.1; rw [tl] at this; exact this
  simp [Kcall, KP]
  obtain ⟨v, l', hv⟩ : ∃ v l', l = v :: l' := by
    cases l with
    | nil => simp at h1
    | cons v l' => exact ⟨v, l', rfl⟩
  have hat0 : lat (nrow l) 0 = some [AV.int .i64 v] := nrow_at (by rw [hv]; rfl)
  have hnp : 0 < l.length := by omega
  refine Okc.sq (B := []) (ND := []) (by kernel_rfl) ?_
  simp [hW2.f5]
  have hq2' : QB K2 (H.length + 4) r2 (l.length + 1) (AV.int .i64 v :: (l'.map (AV.int .i64) ++ [AV.int .i64 more])) := by
    have e : l.map (AV.int .i64) ++ [AV.int .i64 more] = AV.int .i64 v :: (l'.map (AV.int .i64) ++ [AV.int .i64 more]) := by rw [hv]; simp
    rw [← e]; exact hq2
  refine nspop_pc E _ hq2' ⟨_, rfl⟩ (fun K3 hq3 ho3 hb3 => ?_)
  have hW3 : WF H l lv K3 := hW2.keep ho3.1 (fun j hj hj2 => ho3.2 j (by omega) hj2 (fun e => by have := hr2' j e; omega))
  have k3 : ∀ j, K.length ≤ j → j < K.length + 3 → K3[j]? = (T (k + 1))[j]? := fun j h4 h5 => (ho3.2 j (by omega) (by omega) (fun e => by have := hr2' j e; omega)).trans (k2 j h4 h5)
  have l3 : K.length + 3 ≤ K3.length := Nat.le_trans l2 ho3.1
  simp [Kcall, KP]
  refine Okc.sq (B := []) (ND := []) (by kernel_rfl) ?_
  simp [hW3.f0, hat0, nrow_len, hnp]
  refine Okc.sq (B := []) (ND := []) (by kernel_rfl) ?_
  simp
  have s0 : K3[K.length]? = some [.sl o 1 (nrow l)] := (k3 _ (by omega) (by omega)).trans (t0 _)
  have s1 : K3[K.length + 1]? = some [.fn 59 [.ptr (some (K.length, 0))]] := (k3 _ (by omega) (by omega)).trans (t1 _)
  have s1' : (K3 ++ [[AV.int .i64 0]])[K.length + 1]? = some [.fn 59 [.ptr (some (K.length, 0))]] := by rw [List.getElem?_append_left (by omega)]; exact s1
  refine Okc.seq (Okc.sq (B := []) (ND := []) (by kernel_rfl) ?_)
  simp [s1']
  refine Okc.block ?_
  obtain ⟨G, hG⟩ : ∃ G : Nat → Hp → Prop, G = fun (j : Nat) (H' : Hp) => ∃ rr ll, WF H l lv H' ∧ QB H' (H.length + 4) rr (l.length + 1) ll ∧ (0 < j → ll = []) ∧ (∀ s, rr = some s → H.length + 6 ≤ s ∧ (s < K.length ∨ K.length + 3 ≤ s) ∧ s < K3.length) ∧ (∀ j, K.length ≤ j → j < K.length + 3 → H'[j]? = (T (k + 1))[j]?) ∧ H'[K3.length]? = some [.int .i64 (j : Int)] := ⟨_, rfl⟩
  have G0 : G 0 (K3 ++ [[.int .i64 0]]) := by
    rw [hG]
    exact ⟨r2, _, hW3.app _, hq3.app _, fun h => absurd h (by omega), fun s e => ⟨(hr2' s e).1, (hr2' s e).2, (hq3.lt.2 s e).1⟩, fun j h4 h5 => (List.getElem?_append_left (by omega)).trans (k3 j h4 h5), by simp⟩
  refine Okc.rf (rows := l.map (AV.int .i64)) (o0 := o) (by kernel_rfl) rfl ns_iter G (fun _ _ => False) G0 (by rw [nrow_map, List.getElem?_append_left (by omega)]; exact s0) (fun lr i H' y hI hy hB' => ?_) (fun H' hI hB' hl' => ?_) (fun _ _ h => h.elim)
  · rw [hG] at hI
    obtain ⟨rr, ll, g1, g2, g3, g4, g5, g6⟩ := hI
    rw [List.getElem?_map] at hy
    obtain ⟨z, hz, rfl⟩ := Option.map_eq_some_iff.1 hy
    have hat := nrow_at hz
    have hil0 := (List.getElem?_eq_some_iff.1 hz).1
    have hil : ¬ (l.length : Int) ≤ i := by omega
    have wi2 : IntKind.i64.wrap ((i : Int) + 1) = i + 1 := wrap_in (by omega) (by omega)
    have hl3 : K3.length < H'.length := (List.getElem?_eq_some_iff.1 g6).1
    obtain ⟨M, hM⟩ : ∃ M, H'.set K3.length [.int .i64 ((i : Int) + 1)] = M := ⟨_, rfl⟩
    have hMl : M.length = H'.length := by rw [← hM]; simp
    have hMo : ∀ j, j ≠ K3.length → M[j]? = H'[j]? := fun j hj => by rw [← hM]; exact getNX (Ne.symm hj) _
    have hM1 : WF H l lv M := g1.keep (by omega) (fun j hj _ => hMo j (by omega))
    have hM2 : QB M (H.length + 4) rr (l.length + 1) ll := by rw [← hM]; exact g2.put (by omega) (fun e => by have := g4 _ e; omega) _
    have hM6 : M[K3.length]? = some [.int .i64 ((i : Int) + 1)] := by rw [← hM]; exact List.getElem?_set_self hl3
    have m0 : M[K.length]? = some [.sl o 1 (nrow l)] := (hMo _ (by omega)).trans ((g5 _ (by omega) (by omega)).trans (t0 _))
    have m1 : M[K.length + 1]? = some [.fn 59 [.ptr (some (K.length, 0))]] := (hMo _ (by omega)).trans ((g5 _ (by omega) (by omega)).trans (t1 _))
    have hBM : BndH M.length M := by rw [hMl, ← hM]; exact bndX_put hB' _ fun w hw => by simp at hw; subst hw; exact .int _ _
    refine Okc.vcR (B := []) (ND := []) (by kernel_rfl) ?_
    simp [frR]
    refine Okc.block (Okc.seq (Okc.vcR (B := []) (ND := []) (by kernel_rfl) ?_))
    simp [g6, g1.f3, g1.f0, hat, hil]
    refine Okc.seq (Okc.vcR (B := []) (ND := []) (by kernel_rfl) ?_)
    simp [g6, wi2, hM]
    refine Okc.seq (Okc.vcR (B := []) (ND := []) (by kernel_rfl) ?_)
    simp
    have m1' : ∀ J, (M ++ J)[K.length + 1]? = some [.fn 59 [.ptr (some (K.length, 0))]] := fun J => by rw [List.getElem?_append_left (by omega)]; exact m1
    refine Okc.seq (Okc.seq (Okc.vcR (B := []) (ND := []) (by kernel_rfl) ?_))
    simp [m1']
    refine Okc.rfB (rows := l.map (AV.int .i64)) (o0 := o) (by kernel_rfl) rfl ns_iter (fun j H2 => j ≤ 3 ∧ H2 = M ++ [[.int .i64 (j : Int)]]) (fun H2 => ∃ x : Int, H2 = M ++ [[.int .i64 x]]) ⟨by omega, rfl⟩ (by rw [nrow_map, List.getElem?_append_left (by omega)]; exact m0) (fun lr2 j H2 y2 hI2 hy2 hB2 => ?_) (fun H2 hI2 => ⟨_, hI2.2⟩) (fun H2 hX2 hB2 hl2 => ?_)
    · obtain ⟨hj, rfl⟩ := hI2
      rw [List.getElem?_map] at hy2
      obtain ⟨z2, hz2, rfl⟩ := Option.map_eq_some_iff.1 hy2
      have hat2 := nrow_at hz2
      have hjl0 := (List.getElem?_eq_some_iff.1 hz2).1
      have hjl : ¬ (l.length : Int) ≤ j := by omega
      have wj : IntKind.i64.wrap ((j : Int) + 1) = j + 1 := wrap_in (by omega) (by omega)
      have n0 : ∀ J, (M ++ J)[H.length]? = some [.sl false 1 (nrow l)] := fun J => (hM1.app J).f0
      have n3 : ∀ J, (M ++ J)[H.length + 3]? = some [.int .i64 l.length] := fun J => (hM1.app J).f3
      refine Okc.vcR (B := []) (ND := []) (by kernel_rfl) ?_
      simp [frR]
      refine Okc.vcR (B := []) (ND := []) (by kernel_rfl) ?_
      by_cases h4 : 3 < (j : Int) + 1
      · simp [n0, n3, hjl, hat2, wj, h4, RK]
      · simp [n0, n3, hjl, hat2, wj, h4, RK]
        omega
    · obtain ⟨x2, rfl⟩ := hX2
      simp
      refine Okc.vcR (B := []) (ND := []) (by kernel_rfl) ?_
      simp [(hM1.app [[.int .i64 x2]]).f5]
      refine nsclear_pc E _ (hM2.app _) (fun K4 hq4 hl4 ho4 hb4 => ?_)
      simp [Kcall, KP, RK]
      rw [hG]
      have o4 : ∀ j, j < M.length → j ≠ H.length + 4 → K4[j]? = M[j]? := fun j h5 h6 => (ho4 j h6).trans (List.getElem?_append_left h5)
      simp at hl4
      refine ⟨none, [], hM1.keep (by omega) (fun j h5 h6 => o4 j (by omega) h6), hq4, fun _ => rfl, nofun, fun j h5 h6 => ?_, ?_⟩
      · rw [o4 j (by omega) (by omega), hMo j (by omega)]
        exact g5 j h5 h6
      · rw [o4 _ (by omega) (by omega), hM6]
        simp
  · rw [hG] at hI
    obtain ⟨rr, ll, g1, g2, g3, g4, g5, g6⟩ := hI
    rw [List.length_map] at g3 g6
    obtain rfl := g3 hnp
    refine Okc.vc (B := []) (ND := []) (by kernel_rfl) ?_
    simp [g6, g1.f3, g1.f5, g1.f2]
    refine nslen_pc E _ (z := some (H.length + 4, rr)) g2 ?_
    have hg1l := g1.len
    simp [Kcall, KP, g1.f2]
    exact aPost_lawX hB (by simp; omega) (fun j hj => by rw [getNX (by omega)]; exact g1.kp j hj) (by simp [ares, List.getElem?_set_self, show H.length + 2 < H'.length by omega]) (by simp) hQ
theorem nrow_of {rows : List (List AV)} (hk : ∀ r ∈ rows, r.length = 1 ∧ ∀ (j : Nat) k y, ([.int .i64] : List CK)[j]? = some k → r[j]? = some y → KindOf k y) : ∃ l : List Int, rows = nrow l := by
  induction rows with
  | nil => exact ⟨[], rfl⟩
  | cons r rows ih =>
    obtain ⟨l, rfl⟩ := ih fun q hq => hk q (List.mem_cons_of_mem _ hq)
    obtain ⟨h1, h2⟩ := hk r (List.mem_cons_self ..)
    match r, h1 with
    | [a], _ =>
      have h := h2 0 _ a rfl rfl
      cases a <;> simp [KindOf] at h
      obtain ⟨rfl, _⟩ := h
      exact ⟨_ :: l, rfl⟩
theorem rwalk_true (W : World) (bo : Option Addr) (len cap : Nat) (rows : List (List AV)) (lv more : Int) (r1 : -9223372036854775808 ≤ lv ∧ lv ≤ 9223372036854775807) (hr : Rel W (fun _ => 0) (old W) (.sl false 1 rows) (.slice bo len cap)) (hn : Bnd 0 (.sl false 1 rows))
    (hk : ∀ r ∈ rows, r.length = 1 ∧ ∀ (j : Nat) k y, ([.int .i64] : List CK)[j]? = some k → r[j]? = some y → KindOf k y) (e : rows.length = len) (hb : len ≤ 1048576) :
    Calls Try.prog 5 #[.slice bo len cap, .int .i64 lv, .int .i64 more] W fun e w' => e = .returned (.bool true) ∧ Frm (fun _ => False) W w' := by
  obtain ⟨l, rfl⟩ := nrow_of hk
  rw [nrow_len] at e
  refine calls_of_pc (args := [.sl false 1 (nrow l), .int .i64 lv, .int .i64 more]) (old W) (fun _ _ h => h) rfl (fun t x u hx hu => ?_) (fun E Q h => rwalk_pc E Q l lv more r1.1 r1.2 (by omega) h)
  match t with
  | 0 => simp at hx hu; subst hx; subst hu; exact ⟨hr, hn, rfl⟩
  | 1 => simp at hx hu; subst hx; subst hu; exact ⟨.int _ _, .int _ _, rfl⟩
  | 2 => simp at hx hu; subst hx; subst hu; exact ⟨.int _ _, .int _ _, rfl⟩
  | t + 3 => simp at hx
end
end Go.Proofs.Ytgofogcfolhonaa

