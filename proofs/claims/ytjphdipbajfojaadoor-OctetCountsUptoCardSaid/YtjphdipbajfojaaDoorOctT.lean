/- OctetCounts answers true. -/
import Derived.Test.YtjphdipbajfojaaDoorOctE
import Derived.Test.YtjphdipbajfojaaDoorOctQ
import Derived.Lib.ItoaLen
import Derived.Stop.LaidErr
set_option linter.unusedVariables false
set_option linter.unusedSimpArgs false
set_option maxRecDepth 100000
namespace Go.Proofs.YtjphdipbajfojaaDoor
open Go Go.RowKit Go.Lib

/-! ### Plain -/
def dgB (k : Nat) : UInt8 := UInt8.ofNat (48 + k)
theorem dec_small {u : Nat} (h : u < 10) : decDigits u = [dgB u] := by rw [decDigits, dif_pos h]; rfl
theorem dec_big {u : Nat} (h : ¬ u < 10) : decDigits u = decDigits (u / 10) ++ [dgB (u % 10)] := by rw [decDigits, dif_neg h]; rfl
def decD (u : Nat) : List UInt8 := if u = 0 then [] else decDigits u
theorem decD_step (u : Nat) (h : u ≠ 0) : decD u = decD (u / 10) ++ [dgB (u % 10)] := by
  unfold decD
  rw [if_neg h]
  by_cases h10 : u < 10
  · rw [dec_small h10, if_pos (by omega), Nat.mod_eq_of_lt h10]; rfl
  · rw [dec_big h10, if_neg (by omega)]
theorem dig_dgB : ∀ k, k < 10 → dig (dgB k) = k := by decide
theorem okDigs_app (a b : List UInt8) : okDigs 10 (a ++ b) = (okDigs 10 a && okDigs 10 b) := by unfold okDigs; rw [List.all_append]
theorem okDigs_dec (u : Nat) : okDigs 10 (decDigits u) = true := by
  induction u using Nat.strongRecOn with
  | _ u ih =>
    have one : ∀ k, k < 10 → okDigs 10 [dgB k] = true := fun k hk => by unfold okDigs; simp [dig_dgB k hk]; omega
    by_cases h : u < 10
    · rw [dec_small h]; exact one u h
    · rw [dec_big h, okDigs_app, ih (u / 10) (by omega), one _ (Nat.mod_lt _ (by omega))]; rfl
theorem numOf_snoc (l : List UInt8) (b : UInt8) : numOf 10 (l ++ [b]) = numOf 10 l * 10 + dig b := by unfold numOf; rw [List.foldl_append]; rfl
theorem numOf_dec (u : Nat) : numOf 10 (decDigits u) = u := by
  induction u using Nat.strongRecOn with
  | _ u ih =>
    by_cases h : u < 10
    · rw [dec_small h]
      have := numOf_snoc [] (dgB u)
      rw [List.nil_append] at this
      rw [this, dig_dgB u h]
      simp [numOf]
    · rw [dec_big h, numOf_snoc, ih (u / 10) (by omega), dig_dgB _ (Nat.mod_lt _ (by omega))]
      omega
theorem dig48 : dig 48 = 0 := by decide
theorem numOf_zeros (i : Nat) (l : List UInt8) : numOf 10 (List.replicate i 48 ++ l) = numOf 10 l := by
  unfold numOf
  rw [List.foldl_append]
  congr 1
  induction i with
  | zero => rfl
  | succ i ih => rw [List.replicate_succ, List.foldl_cons, dig48]; exact ih
theorem okDigs_zeros (i : Nat) : okDigs 10 (List.replicate i 48) = true := by
  unfold okDigs
  rw [List.all_eq_true]
  intro x hx
  rw [(List.mem_replicate.1 hx).2, dig48]; rfl
theorem numAns_back (u i : Nat) (most : Int) (h : 0 ≤ most) : numAns 10 most (List.replicate i 48 ++ decDigits u) = if most < u then (0, 12) else ((u : Int), 0) := by
  have hne : List.replicate i 48 ++ decDigits u ≠ [] := by
    intro hh
    have := congrArg List.length hh
    rw [List.length_append, decDigits_length] at this
    have h1 : nDigits u ≠ 0 := by rw [nDigits]; split <;> omega
    simp at this; omega
  unfold numAns
  rw [if_neg hne, okDigs_app, okDigs_zeros, okDigs_dec, numOf_zeros, numOf_dec]
  simp
  by_cases hm : most < u
  · rw [if_pos (.inr hm), if_pos hm]
  · rw [if_neg (by omega), if_neg hm]
theorem dec_head (u : Nat) : ∃ c r, decDigits u = c :: r ∧ (u ≠ 0 → c.toNat ≠ 48) ∧ (u = 0 → c.toNat = 48) := by
  induction u using Nat.strongRecOn with
  | _ u ih =>
    by_cases h : u < 10
    · refine ⟨dgB u, [], dec_small h, fun h0 => ?_, fun h0 => by subst h0; rfl⟩
      have : (dgB u).toNat = 48 + u := by simp [dgB]; omega
      omega
    · obtain ⟨c, r, h1, h2, _⟩ := ih (u / 10) (by omega)
      exact ⟨c, r ++ [dgB (u % 10)], by rw [dec_big h, h1]; rfl, fun _ => h2 (by omega), fun h0 => by omega⟩
theorem u8_add48 : ∀ k : Nat, k < 10 → IntKind.u8.wrap (48 + (k : Int)) = 48 + k := by decide

/-! ### The walks -/
/-- .. and the table of tens. -/
def SE2 (E : Env) : Prop := SE E ∧ E.Fix 2 ∧ TabIs Tryd.prog E.w0 "internal/strconv.uint64pow10" .u64 pow10Tab
theorem pow10Named : Tryd.prog.globalNamed "internal/strconv.uint64pow10" = some 2 := by kernel_rfl
theorem SE2.tab {E : Env} (h : SE2 E) {w : World} (hw : ∀ b, E.Fix b → w.heap[b]? = E.w0.heap[b]?) : TabIs Tryd.prog w "internal/strconv.uint64pow10" .u64 pow10Tab := by
  have := h.2.2
  unfold TabIs World.var? at this ⊢
  rw [pow10Named] at this ⊢
  simp only [Option.bind_some] at this ⊢
  rw [hw _ h.2.1]; exact this

section
variable (E : Env) (H : Hp) (Q : AV → Hp → Prop)
theorem itoa_le (n : Int) (h0 : -9223372036854775808 ≤ n) (h1 : n ≤ 9223372036854775807) : (itoa n).length ≤ 21 ∧ (decDigits n.natAbs).length ≤ 21 := by
  have h := itoa_length_le n h0 h1
  refine ⟨h, ?_⟩
  unfold itoa at h
  split at h
  · simp at h; omega
  · have : n.toNat = n.natAbs := by omega
    rw [this] at h; exact h
theorem itoa_pc (hE : SE2 E) (n : Int) (h0 : -9223372036854775808 ≤ n) (h1 : n ≤ 9223372036854775807) (hQ : Q (.str (itoa n)) H) : PC Tryd.prog E 61 [.int .i64 n] H Q := by
  refine pc_of_calls (v := .str (itoa n)) (by kernel_rfl) (fun w => TabIs Tryd.prog w "internal/strconv.uint64pow10" .u64 pow10Tab) (fun w hw => hE.tab hw) (fun w β Rd cargs hS hsz hargs => ?_) (.str _) rfl hQ
  obtain ⟨u, rfl, hu⟩ := args1 hsz hargs
  obtain rfl := rel_int hu
  refine (Any.strconv_Itoa laysM171 n h0 h1 w hS).mono ?_
  rintro e w' ⟨rfl, k, os, rfl⟩
  refine ⟨_, rfl, ⟨rfl, rfl, rfl, by simp [Go.Sort.grow], fun b hb _ => ?_⟩, rel_tx _ (by have := (itoa_le n h0 h1).1; unfold maxLen; omega)⟩
  show (w.heap ++ os)[b]? = _
  rw [Array.getElem?_append_left hb]
theorem digits_pc (hE : SE2 E) (n : Int) (h0 : -9223372036854775808 ≤ n) (h1 : n ≤ 9223372036854775807) (hQ : Q (.str (itoa n)) H) : PC Tryd.prog E 34 [.int .i64 n] H Q := by
  refine pc_enter Tryd.func34 rfl [] [] (by kernel_rfl) (fun hB => ?_)
  simp [Tryd.ntmps34, Tryd.results34, List.replicate_succ]
  refine itoa_pc E H _ hE n h0 h1 ?_
  simp [Tryd.results34]
  exact aPost_same0 hB rfl (nilV_refl _) (by simp) hQ
def refDigInv (n : Int) (H : Hp) (fr : List AV) (H' : Hp) : Prop := H' = H ∧ ∃ (m : Int) (out : List UInt8), m.natAbs ≤ n.natAbs ∧ decD m.natAbs ++ out = decDigits n.natAbs ∧ ∃ x : Nat → AV, fr = [.int .i64 m, x 1, x 2, .bool (decide (n < 0)), .str out, x 5, x 6, x 7, x 8, x 9, x 10, x 11, x 12, x 13, x 14, x 15, x 16, x 17, x 18, x 19, x 20, x 21, x 22, x 23, x 24, x 25, x 26, x 27, x 28, x 29, x 30]
theorem ref_digits_pc (n : Int) (h0 : -9223372036854775808 ≤ n) (h1 : n ≤ 9223372036854775807) (hQ : Q (.str (itoa n)) H) : PC Tryd.prog E 35 [.int .i64 n] H Q := by
  have hlen := (itoa_le n h0 h1).2
  refine pc_enter Tryd.func35 rfl [] [] (by kernel_rfl) (fun hB => ?_)
  by_cases hz : n = 0
  · have e : itoa n = [48] := by rw [hz]; decide +kernel
    rw [e] at hQ
    simp [Tryd.ntmps35, Tryd.results35, List.replicate_succ, hz]
    exact aPost_same0 hB rfl (nilV_refl _) (by simp) hQ
  · have tz : (n == 0) = false := by simpa using hz
    simp [Tryd.ntmps35, Tryd.results35, List.replicate_succ, tz]
    refine VL_go (refDigInv n H) (fun fr _ => (ai (aget fr 0)).natAbs) ⟨rfl, n, [], Nat.le_refl _, by unfold decD; rw [if_neg (by omega)]; simp, fr_intro (by simp)⟩ ?_
    rintro fr H' ⟨rfl, m, out, hm, hout, x, rfl⟩
    have hol : out.length ≤ 21 := by
      have := congrArg List.length hout
      rw [List.length_append] at this; omega
    by_cases hmz : m = 0
    · have tm : (m != 0) = false := by simp [hmz]
      have e : out = decDigits n.natAbs := by rw [← hout, hmz]; rfl
      have hml : out.length + 1 ≤ maxLen ∧ 1 + out.length ≤ maxLen := by unfold maxLen; omega
      by_cases hn : n < 0
      · have ei : itoa n = 45 :: out := by unfold itoa; rw [if_pos hn, e]
        rw [ei] at hQ
        simp [tm, hn, hml]
        exact aPost_same0 hB rfl (nilV_refl _) (by simp) hQ
      · have ei : itoa n = out := by
          unfold itoa
          rw [if_neg hn, e, show n.toNat = n.natAbs by omega]
        rw [ei] at hQ
        simp [tm, hn]
        exact aPost_same0 hB rfl (nilV_refl _) (by simp) hQ
    · have tm : (m != 0) = true := by simpa using hmz
      obtain ⟨d, hd⟩ : ∃ d, m.tmod 10 = d := ⟨_, rfl⟩
      obtain ⟨q, hq⟩ : ∃ q, m.tdiv 10 = q := ⟨_, rfl⟩
      have hda : d.natAbs = m.natAbs % 10 := by rw [← hd, Int.natAbs_tmod]; rfl
      have hqa : q.natAbs = m.natAbs / 10 := by rw [← hq, Int.natAbs_tdiv]; rfl
      have hwq : IntKind.i64.wrap q = q := wrap_in (by omega) (by omega)
      obtain ⟨k, hk⟩ : ∃ k, m.natAbs % 10 = k := ⟨_, rfl⟩
      have hk10 : k < 10 := by rw [← hk]; exact Nat.mod_lt _ (by omega)
      have hw48 : IntKind.i64.wrap (48 + (k : Int)) = 48 + k := wrap_in (by omega) (by omega)
      have hu8 := u8_add48 k hk10
      have c1 : (0 : Int) ≤ 48 + k := by omega
      have c2 : (48 : Int) + k < 256 := by omega
      have htn : ((48 : Int) + k).toNat = 48 + k := by omega
      have hml : out.length + 1 ≤ maxLen ∧ 1 + out.length ≤ maxLen := by unfold maxLen; omega
      have hst := decD_step m.natAbs (by omega)
      rw [hk, ← hqa] at hst
      have hnext : decD q.natAbs ++ (dgB k :: out) = decDigits n.natAbs := by rw [← hout, hst]; simp
      by_cases hneg : d < 0
      · have hnd : IntKind.i64.wrap (-d) = k := by rw [wrap_in (by omega) (by omega)]; omega
        have hnd2 : IntKind.i64.wrap (0 - d) = k := by rw [wrap_in (by omega) (by omega)]; omega
        simp [tm, hd, hneg, hnd, hnd2, hw48, hu8, c1, c2, htn, hml, hq, hwq]
        exact Kloop_normal ⟨rfl, q, dgB k :: out, by omega, hnext, fr_intro (by simp [dgB])⟩ (by simp; omega)
      · have hdk : d = k := by omega
        simp [tm, hd, hneg, hdk, hw48, hu8, c1, c2, htn, hml, hq, hwq]
        exact Kloop_normal ⟨rfl, q, dgB k :: out, by omega, hnext, fr_intro (by simp [dgB])⟩ (by simp; omega)
def countsInv (n z : Int) (H : Hp) (fr : List AV) (H' : Hp) : Prop := H' = H ∧ ∃ i : Nat, i ≤ 1000 ∧ ∃ x : Nat → AV, fr = [.int .i64 n, .int .i64 z, x 2, x 3, x 4, .str (List.replicate i 48 ++ itoa n), .int .i64 i, x 7, x 8, x 9, x 10, x 11, x 12, x 13, x 14, x 15, x 16, x 17, x 18, x 19, x 20, x 21, x 22, x 23, x 24, x 25, x 26, x 27, x 28, x 29, x 30, x 31, x 32, x 33, x 34, x 35, x 36, x 37, x 38, x 39, x 40, x 41, x 42, x 43, x 44, x 45, x 46, x 47, x 48, x 49, x 50, x 51, x 52, x 53, x 54, x 55, x 56, x 57, x 58, x 59, x 60, x 61, x 62, x 63, x 64, x 65, x 66, x 67, x 68, x 69, x 70]
theorem counts_pc (hE : SE2 E) (n z : Int) (h0 : -9223372036854775808 ≤ n) (h1 : n ≤ 9223372036854775807) (hQ : Q (.bool true) H) : PC Tryd.prog E 9 [.int .i64 n, .int .i64 z] H Q := by
  have hlen := (itoa_le n h0 h1).1
  refine pc_enter Tryd.func9 rfl [] [] (by kernel_rfl) (fun hB => ?_)
  simp [Tryd.ntmps9, Tryd.results9, List.replicate_succ]
  refine digits_pc E _ _ hE n h0 h1 ?_
  simp
  refine ref_digits_pc E _ _ n h0 h1 ?_
  by_cases hn : n < 0
  · simp [hn]
    refine awake_pc E _ _ hE.1 ?_
    simp
    exact aPost_same0 hB rfl (nilV_refl _) (by simp) hQ
  · obtain ⟨u, rfl⟩ : ∃ u : Nat, n = u := ⟨n.toNat, by omega⟩
    have hi : itoa (u : Int) = decDigits u := by unfold itoa; rw [if_neg hn]; simp
    obtain ⟨c, r, hcr, hc1, hc2⟩ := dec_head u
    simp [hn]
    refine digits_pc E _ _ hE u h0 h1 ?_
    rw [hi] at hlen ⊢
    have tne : (decDigits u == []) = false := by rw [hcr]; rfl
    have hat : lat (decDigits u) 0 = some c := by rw [hcr]; rfl
    have loop : ∀ fr, (∃ x : Nat → AV, fr = [.int .i64 (u : Int), .int .i64 z, x 2, x 3, x 4, .str (decDigits u), .int .i64 0, x 7, x 8, x 9, x 10, x 11, x 12, x 13, x 14, x 15, x 16, x 17, x 18, x 19, x 20, x 21, x 22, x 23, x 24, x 25, x 26, x 27, x 28, x 29, x 30, x 31, x 32, x 33, x 34, x 35, x 36, x 37, x 38, x 39, x 40, x 41, x 42, x 43, x 44, x 45, x 46, x 47, x 48, x 49, x 50, x 51, x 52, x 53, x 54, x 55, x 56, x 57, x 58, x 59, x 60, x 61, x 62, x 63, x 64, x 65, x 66, x 67, x 68, x 69, x 70]) → countsInv (u : Int) z H fr H := by
      rintro fr ⟨x, rfl⟩
      exact ⟨rfl, 0, by omega, x, by rw [hi]; rfl⟩
    by_cases hu : u = 0
    case' pos =>
      have t48 : ((c.toNat : Int) == 48) = true := by have := hc2 hu; simp; omega
      have tz : ((u : Int) != 0) = false := by simp [hu]
      simp [tne, hat, t48, tz]
    case' neg =>
      have t48 : ((c.toNat : Int) == 48) = false := by have := hc1 hu; simp; omega
      simp [tne, hat, t48]
    all_goals
      refine VL_go (countsInv u z H) (fun fr _ => 1000 - (ai (aget fr 6)).toNat) (loop _ (fr_intro (by simp))) ?_
      rintro fr H' ⟨rfl, i, hi1, x, rfl⟩
      rw [hi]
      obtain ⟨s, hs⟩ : ∃ s, List.replicate i 48 ++ decDigits u = s := ⟨_, rfl⟩
      have hsl : s.length ≤ 1021 := by rw [← hs, List.length_append, List.length_replicate]; omega
      have hml : s.length + 1 ≤ maxLen ∧ 1 + s.length ≤ maxLen := by unfold maxLen; omega
      have hw : IntKind.i64.wrap ((i : Int) + 1) = i + 1 := wrap_in (by omega) (by omega)
      have hb1 := numAns_back u i u (by omega)
      rw [hs, if_neg (by omega)] at hb1
      rw [hs]
      have hcase : ((i : Int) < z ∧ i < 1000) ∨ ¬ (i : Int) < z ∨ ((i : Int) < z ∧ ¬ i < 1000) := by omega
      rcases hcase with ⟨a1, a2⟩ | a1 | ⟨a1, a2⟩
      · have a2' : (i : Int) < 1000 := by omega
        simp [a1, a2', hml, hw]
        refine Kloop_normal ⟨rfl, i + 1, by omega, fr_intro (by rw [hi, ← hs, List.replicate_succ]; simp)⟩ (by simp; omega)
      case' inr.inl => simp [a1]
      case' inr.inr =>
        have a2' : ¬ (i : Int) < 1000 := by omega
        simp [a1, a2']
      all_goals
        refine decimal_pc E _ _ s u (by simp only [cap]; omega) (by omega) h1 ?_
        by_cases hpos : 0 < u
        · have hb2 := numAns_back u i ((u : Int) - 1) (by omega)
          rw [hs, if_pos (by omega)] at hb2
          have hws : IntKind.i64.wrap ((u : Int) - 1) = u - 1 := wrap_in (by omega) (by omega)
          simp [hb1, hpos, hws]
          refine decimal_pc E _ _ s ((u : Int) - 1) (by simp only [cap]; omega) (by omega) (by omega) ?_
          simp [hb2]
          exact aPost_same0 hB rfl (nilV_refl _) (by simp) hQ
        · simp [hb1, hpos]
          exact aPost_same0 hB rfl (nilV_refl _) (by simp) hQ
end
theorem counts_true (W : World) (n z : Int) (r0 : -9223372036854775808 ≤ n ∧ n ≤ 9223372036854775807) (hS : Signs W) (hT : TabIs Tryd.prog W "internal/strconv.uint64pow10" .u64 pow10Tab) : Calls Tryd.prog 9 #[.int .i64 n, .int .i64 z] W fun e w' => e = .returned (.bool true) ∧ Frm (fun _ => False) W w' := by
  have hpl : 2 < W.heap.size := by
    have := hT
    unfold TabIs World.var? at this
    rw [pow10Named] at this
    simp only [Option.bind_some] at this
    by_cases h : 2 < W.heap.size
    · exact h
    · rw [Array.getElem?_eq_none (by omega)] at this; cases this
  refine calls_of_pcF (args := [.int .i64 n, .int .i64 z]) (fun b => b = 0 ∨ b = 2) (fun b hb => hb.elim (law_fix W hS b) (fun h => h ▸ hpl)) (old W) (fun _ _ h => h) rfl (fun t x u hx hu => ?_)
    (fun E Q e1 e2 h => counts_pc E [] Q ⟨⟨by rw [e2]; exact .inl rfl, by rw [e1]; exact hS⟩, by rw [e2]; exact .inr rfl, by rw [e1]; exact hT⟩ n z r0.1 r0.2 h)
  match t with
  | 0 => simp at hx hu; subst hx; subst hu; exact ⟨.int _ _, .int _ _, rfl⟩
  | 1 => simp at hx hu; subst hx; subst hu; exact ⟨.int _ _, .int _ _, rfl⟩
  | t + 2 => simp at hx
end Go.Proofs.YtjphdipbajfojaaDoor
