/- The document's ring in the abstract machine. -/
import Derived.Test.YtgofogcfolhonaaRingC
set_option linter.unusedVariables false
set_option linter.unusedSimpArgs false
set_option linter.unusedSectionVars false
set_option maxRecDepth 100000
namespace Go.Proofs.Ytgofogcfolhonaa
open Go Go.RowKit

def pieceInv (l : List UInt8) (f0 n0 : Nat) (H : Hp) (fr : List AV) (H' : Hp) : Prop := H' = H ∧ ∃ i : Nat, f0 ≤ i ∧ i - f0 ≤ n0 ∧ (i = f0 ∨ i ≤ l.length) ∧ ∃ x : Nat → AV, fr = [.sl false 1 (bts l), .int .i64 f0, .int .i64 n0, x 3, x 4, x 5, x 6, .sl true 1 (bts ((l.drop f0).take (i - f0))), .int .i64 i,
  x 9, x 10, x 11, x 12, x 13, x 14, x 15, x 16, x 17, x 18, x 19, x 20, x 21, x 22, x 23, x 24, x 25, x 26, x 27, x 28, x 29, x 30, x 31, x 32, x 33, x 34, x 35, x 36]
theorem piece_pc (E : Env) (H : Hp) (l : List UInt8) (fm n : Int) (hl : l.length ≤ 140737488355327) (hf2 : fm ≤ 9223372036854775807) (hn2 : n ≤ 9223372036854775807) (Q : AV → Hp → Prop) (hQ : Q (.sl true 1 (bts (pieceL l fm n))) H) :
    PC Try.prog E 64 [.sl false 1 (bts l), .int .i64 fm, .int .i64 n] H Q := by
  refine pc_enter Try.func64 rfl [29, 36] [] (by kernel_rfl) (fun hB => ?_)
  by_cases h1 : fm < 0
  · simp [Try.ntmps64, Try.results64, List.replicate_succ, h1]
    refine aPost_same0 hB rfl (nilV_nil true 1) (by simp) ?_
    have : pieceL l fm n = [] := by simp [pieceL, h1]
    rw [this] at hQ; exact hQ
  · by_cases h2 : n ≤ 0
    · simp [Try.ntmps64, Try.results64, List.replicate_succ, h1, h2]
      refine aPost_same0 hB rfl (nilV_nil true 1) (by simp) ?_
      have : pieceL l fm n = [] := by simp [pieceL, h2]
      rw [this] at hQ; exact hQ
    · obtain ⟨f0, rfl⟩ : ∃ f0 : Nat, fm = f0 := ⟨fm.toNat, by omega⟩
      obtain ⟨n0, rfl⟩ : ∃ n0 : Nat, n = n0 := ⟨n.toNat, by omega⟩
      have hn0 : ¬ n0 = 0 := by omega
      simp [Try.ntmps64, Try.results64, List.replicate_succ, h1, h2, (by omega : ¬ n0 = 0)]
      refine VL_nil 7 1 (by rfl) ?_
      simp only [List.set_cons_succ, List.set_cons_zero]
      refine VL_go (pieceInv l f0 n0 H) (fun fr _ => l.length - (ai (aget fr 8)).toNat) ⟨rfl, f0, Nat.le_refl _, by omega, .inl rfl, fr_intro (by simp [bts])⟩ ?_
      rintro fr H' ⟨rfl, i, hi1, hi2, hi3, x, rfl⟩
      have fin : ∀ fr, aget fr 6 = .sl true 1 (bts ((l.drop f0).take (i - f0))) → ¬ (i < l.length ∧ i - f0 < n0) → aPost Try.prog [ResultVar.tmp 6] H'.length Q .ret fr H' := fun fr hf hc => by
        refine aPost_same0 hB rfl (nilV_refl _) ?_ ?_
        · show Bnd _ (aget fr 6)
          rw [hf]; simp
        · show Q (aget fr 6) H'
          have : pieceL l f0 n0 = (l.drop f0).take (i - f0) := by
            unfold pieceL
            rw [if_neg (by omega), Int.toNat_natCast, Int.toNat_natCast]
            by_cases h : i - f0 = n0
            · rw [h]
            · rw [List.take_of_length_le (by rw [List.length_drop]; omega), List.take_of_length_le (by rw [List.length_drop]; omega)]
          rw [hf, ← this]; exact hQ
      obtain ⟨out, hout⟩ : ∃ out, (l.drop f0).take (i - f0) = out := ⟨_, rfl⟩
      have hlen : out.length ≤ i - f0 := by rw [← hout]; exact List.length_take_le _ _
      rw [hout] at fin ⊢
      by_cases h3 : i < l.length
      · have hl2 : out.length = i - f0 := by rw [← hout, List.length_take, List.length_drop]; omega
        by_cases h4 : i - f0 < n0
        · obtain ⟨b, hb⟩ : ∃ b, l[i]? = some b := ⟨_, List.getElem?_eq_getElem h3⟩
          have hat := bts_at l _ b hb
          have hw : IntKind.i64.wrap ((i : Int) + 1) = i + 1 := wrap_in (by omega) (by omega)
          have hm1 : out.length + 1 ≤ maxLen := by unfold maxLen; omega
          have hm2 : out.length + 1 ≤ 140737488355328 := by omega
          have h4' : out.length < n0 := by omega
          simp [h3, h4', hat, hw, hm1, hm2]
          refine Kloop_normal ?_ ?_
          rotate_left
          · simp; omega
          refine ⟨rfl, i + 1, by omega, by omega, .inr (by omega), fr_intro ?_⟩
          have : (l.drop f0).take (i + 1 - f0) = out ++ [b] := by
            rw [← hout, show i + 1 - f0 = (i - f0) + 1 by omega, List.take_add_one, List.getElem?_drop, show f0 + (i - f0) = i by omega, hb]; rfl
          rw [this]
          simp [bts_snoc]
        · have h4' : ¬ out.length < n0 := by omega
          simp [h3, h4']
          exact fin _ rfl (by omega)
      · simp [h3]
        exact fin _ rfl (by omega)

theorem free_pc (E : Env) (H : Hp) (cap n : Nat) (l : List UInt8) (gone : Int) (h1 : cap ≤ 1048576) (h2 : l.length ≤ 1048576) (Q : AV → Hp → Prop) (hQ : Q (.int .i64 ((cap : Int) - l.length)) H) :
    PC Try.prog E 63 [.agg [.int .i64 cap, .sl false 1 (bts l), .int .i64 gone]] H Q := by
  refine pc_enter Try.func63 rfl [] [] (by kernel_rfl) (fun hB => ?_)
  have hw : IntKind.i64.wrap ((cap : Int) - l.length) = cap - l.length := wrap_in (by omega) (by omega)
  simp [Try.ntmps63, Try.results63, List.replicate_succ, hw]
  exact aPost_same hB rfl (nilV_refl _) (by simp) hQ

/-- The document's ring. -/
def dR (cap : Nat) (l : List UInt8) (q : Nat) : AV := .agg [.int .i64 cap, .sl false 1 (bts l), .int .i64 q]
theorem pieceN (l : List UInt8) (f n : Nat) : pieceL l f n = (l.drop f).take n := by
  unfold pieceL
  by_cases h : n = 0
  · subst h; simp
  · rw [if_neg (by omega)]; simp
theorem nilIn_rel {w : World} {β : Nat → Nat} {Rd : Nat → Nat → Prop} {a c : AV} {u : Value} (h : Rel w β Rd (.agg [a, .nil, c]) u) : Rel w β Rd (.agg [a, .sl false 1 [], c]) u := by
  cases h with
  | agg _ vs hl hf hr =>
    refine .agg _ vs hl (fun x hx => by
      simp at hx
      rcases hx with rfl | rfl | rfl
      · exact hf _ (by simp)
      · exact ⟨rfl, rfl⟩
      · exact hf _ (by simp)) (fun j x u hx hu => ?_)
    match j with
    | 0 => exact hr 0 x u hx hu
    | 1 =>
      simp at hx; subst hx
      have := hr 1 .nil u rfl hu
      cases this
      exact .sl false 1 _ _ [] (fun r hr => by simp at hr) ⟨by simp, none, 0, rfl, Nat.le_refl _, Nat.zero_le _, fun h => by simp at h⟩ (fun g o n c hv j hj => by cases hv) (fun h => by cases h) (fun r hr => by simp at hr) (fun j x u hx => by simp at hx)
    | 2 => exact hr 2 x u hx hu
    | j + 3 => simp at hx
/-- A nil inside of what came out is seen as an empty list. -/
theorem PC.nilIn {P : Program} {E : Env} {f : FuncId} {args : List AV} {H : Hp} {Q : AV → Hp → Prop} (a c : AV) (h : PC P E f args H (fun v H' => v = .agg [a, .nil, c] ∧ Q (.agg [a, .sl false 1 [], c]) H')) : PC P E f args H Q :=
  ⟨h.1, fun w β Rd Ow cargs h1 h2 h3 h4 => (h.2 w β Rd Ow cargs h1 h2 h3 h4).mono fun e w' ⟨u, v, H', β', Rd', Ow', he, hQ, hp⟩ => by
    obtain ⟨rfl, hQ⟩ := hQ
    refine ⟨u, _, H', β', Rd', Ow', he, hQ, ⟨nilIn_rel hp.rel, ?_, fun g hg => (by cases hg), rfl, hp.hr, hp.old, hp.len, hp.keep, hp.frame, hp.os, hp.tape, hp.output, hp.size⟩⟩
    have := hp.bnd
    simp at this ⊢
    exact this⟩
section
variable (E : Env) (H : Hp) (cap q : Nat) (l : List UInt8) (Q : AV → Hp → Prop) (h1 : cap ≤ 1048576) (h2 : l.length ≤ cap)
include h1 h2
theorem dfree_pc (hQ : Q (.int .i64 ((cap - l.length : Nat) : Int)) H) : PC Try.prog E 63 [dR cap l q] H Q :=
  free_pc E H cap 0 l q h1 (by omega) Q (by rw [show (cap : Int) - l.length = ((cap - l.length : Nat) : Int) by omega]; exact hQ)
theorem dput_pc (p : List UInt8) (hp : p.length ≤ 140737486258176) (hQ : Q (.tup [dR cap (l ++ p.take (cap - l.length)) q, .int .i64 (Nat.min p.length (cap - l.length) : Nat)]) H) :
    PC Try.prog E 39 [dR cap l q, .sl false 1 (bts p)] H Q := by
  refine pc_enter Try.func39 rfl [20] [] (by kernel_rfl) (fun hB => ?_)
  simp [Try.ntmps39, Try.results39, List.replicate_succ, dR]
  refine dfree_pc E _ cap q l _ h1 h2 ?_
  have e1 : (l.drop 0).take l.length = l := by simp
  by_cases hbig : cap - l.length < p.length
  · have h1' : ((cap - l.length : Nat) : Int) < p.length := by omega
    have hmn : Nat.min p.length (cap - l.length) = cap - l.length := Nat.min_eq_right (by omega)
    rw [hmn] at hQ
    simp [h1']
    refine dfree_pc E _ cap q l _ h1 h2 ?_
    simp
    refine piece_pc E _ l 0 l.length (by omega) (by omega) (by omega) _ ?_
    simp
    refine piece_pc E _ p 0 (cap - l.length : Nat) (by omega) (by omega) (by omega) _ ?_
    rw [show (0 : Int) = ((0 : Nat) : Int) from rfl, pieceN, pieceN, e1, List.drop_zero]
    obtain ⟨p', hp'⟩ : ∃ p', p.take (cap - l.length) = p' := ⟨_, rfl⟩
    have hpl : p'.length ≤ p.length := by rw [← hp']; exact List.length_take_le' _ _
    rw [hp'] at hQ ⊢
    have hm1 : l.length + p'.length ≤ maxLen := by unfold maxLen; omega
    have hm2 : l.length + p'.length ≤ 140737488355328 := by omega
    simp [bts_app, hm1, hm2]
    exact aPost_same hB (by simp [dR]) (nilV_refl _) (by simp [dR]) hQ
  · have h1' : ¬ ((cap - l.length : Nat) : Int) < p.length := by omega
    have hmn : Nat.min p.length (cap - l.length) = p.length := Nat.min_eq_left (by omega)
    have htk : p.take (cap - l.length) = p := List.take_of_length_le (by omega)
    rw [hmn, htk] at hQ
    simp [h1']
    refine piece_pc E _ l 0 l.length (by omega) (by omega) (by omega) _ ?_
    simp
    refine piece_pc E _ p 0 p.length (by omega) (by omega) (by omega) _ ?_
    rw [show (0 : Int) = ((0 : Nat) : Int) from rfl, pieceN, pieceN, e1, List.drop_zero, List.take_length]
    have hm1 : l.length + p.length ≤ maxLen := by unfold maxLen; omega
    have hm2 : l.length + p.length ≤ 140737488355328 := by omega
    simp [bts_app, hm1, hm2]
    exact aPost_same hB (by simp [dR]) (nilV_refl _) (by simp [dR]) hQ
theorem dputAll_pc (p : List UInt8) (hp : p.length ≤ 140737486258176) (hQ1 : l.length + p.length ≤ cap → Q (.tup [dR cap (l ++ p) q, .int .i64 0]) H) (hQ2 : cap < l.length + p.length → Q (.tup [dR cap l q, .int .i64 21]) H) :
    PC Try.prog E 69 [dR cap l q, .sl false 1 (bts p)] H Q := by
  refine pc_enter Try.func69 rfl [] [] (by kernel_rfl) (fun hB => ?_)
  simp [Try.ntmps69, Try.results69, List.replicate_succ, dR]
  refine dfree_pc E _ cap q l _ h1 h2 ?_
  by_cases hbig : cap - l.length < p.length
  · have h1' : ((cap - l.length : Nat) : Int) < p.length := by omega
    simp [h1']
    exact aPost_same hB (by simp [dR]) (nilV_refl _) (by simp [dR]) (hQ2 (by omega))
  · have h1' : ¬ ((cap - l.length : Nat) : Int) < p.length := by omega
    have htk : p.take (cap - l.length) = p := List.take_of_length_le (by omega)
    simp [h1']
    refine dput_pc E _ cap q l _ h1 h2 p hp ?_
    rw [htk]
    simp [dR]
    exact aPost_same hB (by simp [dR]) (nilV_refl _) (by simp [dR]) (hQ1 (by omega))
theorem dat_pc (i : Int) (hi : i ≤ 9223372036854775807) (hQ1 : ∀ x, 0 ≤ i → l[i.toNat]? = some x → Q (.tup [.int .u8 (x.toNat : Int), .bool true]) H) (hQ2 : i < 0 ∨ (l.length : Int) ≤ i → Q (.tup [.int .u8 0, .bool false]) H) :
    PC Try.prog E 71 [dR cap l q, .int .i64 i] H Q := by
  refine pc_enter Try.func71 rfl [] [] (by kernel_rfl) (fun hB => ?_)
  by_cases b1 : i < 0
  · simp [Try.ntmps71, Try.results71, List.replicate_succ, dR, b1]
    exact aPost_same hB rfl (nilV_refl _) (by simp) (hQ2 (.inl b1))
  · by_cases b2 : (l.length : Int) ≤ i
    · simp [Try.ntmps71, Try.results71, List.replicate_succ, dR, b1, b2]
      exact aPost_same hB rfl (nilV_refl _) (by simp) (hQ2 (.inr b2))
    · obtain ⟨j, rfl⟩ : ∃ j : Nat, i = j := ⟨i.toNat, by omega⟩
      have hj : j < l.length := by omega
      obtain ⟨x, hx⟩ : ∃ x, l[j]? = some x := ⟨_, List.getElem?_eq_getElem hj⟩
      have hat := bts_at l _ x hx
      have b3 : ¬ l.length ≤ j := by omega
      simp [Try.ntmps71, Try.results71, List.replicate_succ, dR, b3, hat]
      exact aPost_same hB rfl (nilV_refl _) (by simp) (hQ1 x (by omega) (by simpa using hx))
theorem dpeek_pc (fr n : Int) (hf : fr ≤ 9223372036854775807) (hn : n ≤ 9223372036854775807) (hQ : Q (.sl true 1 (bts (pieceL l fr n))) H) :
    PC Try.prog E 72 [dR cap l q, .int .i64 fr, .int .i64 n] H Q := by
  refine pc_enter Try.func72 rfl [] [] (by kernel_rfl) (fun hB => ?_)
  simp [Try.ntmps72, Try.results72, List.replicate_succ, dR]
  refine piece_pc E _ l fr n (by omega) hf hn _ ?_
  simp
  exact aPost_same hB rfl (nilV_refl _) (by simp) hQ
theorem dhead_pc (hq : cap = 0 → q = 0) (hq2 : cap ≠ 0 → q < cap) (hQ : Q (.int .i64 (q : Int)) H) : PC Try.prog E 77 [dR cap l q] H Q := by
  refine pc_enter Try.func77 rfl [] [] (by kernel_rfl) (fun hB => ?_)
  by_cases hz : cap = 0
  · obtain rfl := hq hz
    subst hz
    simp [Try.ntmps77, Try.results77, List.replicate_succ, dR]
    exact aPost_same hB rfl (nilV_refl _) (by simp) hQ
  · have hlt := hq2 hz
    have hm : (q : Int).tmod (cap : Int) = q := by rw [Int.tmod_eq_emod_of_nonneg (by omega)]; exact Int.emod_eq_of_lt (by omega) (by omega)
    have hw : IntKind.i64.wrap (q : Int) = q := wrap_in (by omega) (by omega)
    have hz2 : ((cap : Int) == 0) = false := by simp; omega
    simp [Try.ntmps77, Try.results77, List.replicate_succ, dR, hz, hz2, hm, hw]
    exact aPost_same hB (by simp) (nilV_refl _) (by simp) hQ
theorem dparts_pc (hq : cap = 0 → q = 0) (hq2 : cap ≠ 0 → q < cap) (hQ : Q (.tup [.sl false 1 (bts (l.take (cap - q))), .sl false 1 (bts (l.drop (cap - q)))]) H) : PC Try.prog E 73 [dR cap l q] H Q := by
  refine pc_enter Try.func73 rfl [] [(1, [0, 0, 0, 1]), (2, [0, 0, 0, 1])] (by kernel_rfl) (fun hB => ?_)
  have hw : IntKind.i64.wrap ((cap : Int) - q) = ((cap - q : Nat) : Int) := by
    have : q ≤ cap := by by_cases hz : cap = 0; · rw [hq hz]; omega
                         · have := hq2 hz; omega
    rw [wrap_in (by omega) (by omega)]; omega
  simp [Try.ntmps73, Try.results73, List.replicate_succ, dR]
  refine dhead_pc E _ cap q l _ h1 h2 hq hq2 ?_
  simp [hw]
  refine piece_pc E _ l 0 (cap - q : Nat) (by omega) (by omega) (by omega) _ ?_
  simp
  refine piece_pc E _ l (cap - q : Nat) l.length (by omega) (by omega) (by omega) _ ?_
  rw [show (0 : Int) = ((0 : Nat) : Int) from rfl, pieceN, pieceN, List.drop_zero, List.take_of_length_le (l := l.drop (cap - q)) (by rw [List.length_drop]; omega)]
  simp
  exact aPost_same hB rfl (nilV_refl _) (by simp) hQ
theorem dtake_pc (hq : q ≤ cap) (n : Int) (h3 : -9223372036854775808 ≤ n) (h4 : n ≤ 9223372036854775807) (hQ : Q (.tup [dR cap (l.drop n.toNat) ((q + Nat.min n.toNat l.length) % cap), .sl false 1 (bts (l.take n.toNat))]) H) :
    PC Try.prog E 48 [dR cap l q, .int .i64 n] H Q := by
  refine pc_enter Try.func48 rfl [] [] (by kernel_rfl) (fun hB => ?_)
  simp [Try.ntmps48, Try.results48, List.replicate_succ, dR]
  refine piece_pc E _ l 0 n (by omega) (by omega) (by omega) _ ?_
  have e0 : pieceL l 0 n = l.take n.toNat := by
    unfold pieceL
    by_cases hn : n ≤ 0
    · rw [if_pos (.inr hn), show n.toNat = 0 by omega]; simp
    · rw [if_neg (by omega)]; simp
  rw [e0]
  have hlen : (l.take n.toNat).length = min n.toNat l.length := List.length_take
  have hdrop : (l.drop (l.take n.toNat).length).take l.length = l.drop n.toNat := by
    rw [List.take_of_length_le (by rw [List.length_drop]; omega), hlen]
    by_cases hh : n.toNat ≤ l.length
    · rw [Nat.min_eq_left hh]
    · rw [Nat.min_eq_right (by omega), List.drop_of_length_le (by omega), List.drop_of_length_le (by omega)]
  obtain ⟨t, ht⟩ : ∃ t, l.take n.toNat = t := ⟨_, rfl⟩
  rw [ht] at hlen hdrop hQ ⊢
  have hlen' : t.length = Nat.min n.toNat l.length := hlen
  rw [← hlen'] at hQ
  have htl : t.length ≤ l.length := by rw [hlen]; exact Nat.min_le_right _ _
  simp
  refine piece_pc E _ l t.length l.length (by omega) (by omega) (by omega) _ ?_
  rw [pieceN, hdrop]
  by_cases hz : cap = 0
  · subst hz
    obtain rfl : q = 0 := by omega
    have : t.length = 0 := by omega
    rw [this] at hQ
    simp
    exact aPost_same hB (by simp [dR]) (nilV_refl _) (by simp [dR]) hQ
  · have hz' : 0 < cap := by omega
    have hw : IntKind.i64.wrap ((q : Int) + t.length) = ((q + t.length : Nat) : Int) := by rw [wrap_in (by omega) (by omega)]; omega
    have hm : ((q + t.length : Nat) : Int).tmod (cap : Int) = (((q + t.length) % cap : Nat) : Int) := by rw [Int.tmod_eq_emod_of_nonneg (by omega)]; omega
    have hlt : (q + t.length) % cap < cap := Nat.mod_lt _ hz'
    have hw2 : IntKind.i64.wrap (((q + t.length) % cap : Nat) : Int) = (((q + t.length) % cap : Nat) : Int) := wrap_in (by omega) (by omega)
    simp [hz', hz, hw, hm, hw2, -Int.natCast_emod, -Int.natCast_add]
    exact aPost_same hB (by simp [dR]) (nilV_refl _) (by simp [dR]) hQ
theorem dclear_pc (hQ : Q (dR cap [] 0) H) : PC Try.prog E 76 [dR cap l q] H Q := by
  refine PC.nilIn (.int .i64 cap) (.int .i64 0) ?_
  refine pc_enter Try.func76 rfl [] [] (by kernel_rfl) (fun hB => ?_)
  simp [Try.ntmps76, Try.results76, List.replicate_succ, dR]
  exact aPost_same hB (v0 := .agg [.int .i64 cap, .nil, .int .i64 0]) (by simp) (nilV_refl _) (by simp) ⟨rfl, hQ⟩
end
end Go.Proofs.Ytgofogcfolhonaa
