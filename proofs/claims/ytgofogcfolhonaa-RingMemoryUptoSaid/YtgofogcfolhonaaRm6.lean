/- Part 6 of the texts below the law: the abstract machine, the functions that it walks, what they compute. -/
import Derived.Test.YtgofogcfolhonaaRm5
import Derived.Lib.IndexMore
import Derived.Shelf.Vars
import Derived.JoinedCond
set_option linter.unusedVariables false
set_option linter.unusedSimpArgs false
set_option linter.unusedSectionVars false
set_option maxRecDepth 100000
namespace Go.Proofs.Ytgofogcfolhonaa
open Go Go.RowKit

def pieceInv (l : List UInt8) (f0 n0 : Nat) (H : Hp) (fr : List AV) (H' : Hp) : Prop := H' = H ∧ ∃ i : Nat, f0 ≤ i ∧ i - f0 ≤ n0 ∧ (i = f0 ∨ i ≤ l.length) ∧ ∃ x : Nat → AV, fr = [.sl false 1 (bts l), .int .i64 f0, .int .i64 n0, x 3, x 4, x 5, x 6, .sl true 1 (bts ((l.drop f0).take (i - f0))), .int .i64 i,
  x 9, x 10, x 11, x 12, x 13, x 14, x 15, x 16, x 17, x 18, x 19, x 20, x 21, x 22, x 23, x 24, x 25, x 26, x 27, x 28, x 29, x 30, x 31, x 32, x 33, x 34, x 35, x 36]
theorem piece_pc (E : Env) (H : Hp) (l : List UInt8) (fm n : Int) (hl : l.length ≤ 140737488355327) (hf2 : fm ≤ 9223372036854775807) (hn2 : n ≤ 9223372036854775807) (Q : AV → Hp → Prop) (hQ : Q (.sl true 1 (bts (pieceL l fm n))) H) :
    PC Try.prog E 64 [.sl false 1 (bts l), .int .i64 fm, .int .i64 n] H Q := by
  refine pc_enter Try.func64 rfl [29, 36] [] (by kernel_rfl) (fun hB => ?_)
  by_cases h1 : fm < 0
  · simp [Try.ntmps64, Try.results64, List.replicate_succ, h1]
    refine aPost_same0 hB rfl (nilV_nil true 1) (by simp) ?_
    have : pieceL l fm n = [] := by simp [pieceL, h1]
    rw [this] at hQ; exact hQ
  · by_cases h2 : n ≤ 0
    · simp [Try.ntmps64, Try.results64, List.replicate_succ, h1, h2]
      refine aPost_same0 hB rfl (nilV_nil true 1) (by simp) ?_
      have : pieceL l fm n = [] := by simp [pieceL, h2]
      rw [this] at hQ; exact hQ
    · obtain ⟨f0, rfl⟩ : ∃ f0 : Nat, fm = f0 := ⟨fm.toNat, by omega⟩
      obtain ⟨n0, rfl⟩ : ∃ n0 : Nat, n = n0 := ⟨n.toNat, by omega⟩
      have hn0 : ¬ n0 = 0 := by omega
      simp [Try.ntmps64, Try.results64, List.replicate_succ, h1, h2, (by omega : ¬ n0 = 0)]
      refine VL_nil 7 1 (by rfl) ?_
      simp only [List.set_cons_succ, List.set_cons_zero]
      refine VL_go (pieceInv l f0 n0 H) (fun fr _ => l.length - (ai (aget fr 8)).toNat) ⟨rfl, f0, Nat.le_refl _, by omega, .inl rfl, fr_intro (by simp [bts])⟩ ?_
      rintro fr H' ⟨rfl, i, hi1, hi2, hi3, x, rfl⟩
      have fin : ∀ fr, aget fr 6 = .sl true 1 (bts ((l.drop f0).take (i - f0))) → ¬ (i < l.length ∧ i - f0 < n0) → aPost Try.prog [ResultVar.tmp 6] H'.length Q .ret fr H' := fun fr hf hc => by
        refine aPost_same0 hB rfl (nilV_refl _) ?_ ?_
        · show Bnd _ (aget fr 6)
          rw [hf]; simp
        · show Q (aget fr 6) H'
          have : pieceL l f0 n0 = (l.drop f0).take (i - f0) := by
            unfold pieceL
            rw [if_neg (by omega), Int.toNat_natCast, Int.toNat_natCast]
            by_cases h : i - f0 = n0
            · rw [h]
            · rw [List.take_of_length_le (by rw [List.length_drop]; omega), List.take_of_length_le (by rw [List.length_drop]; omega)]
          rw [hf, ← this]; exact hQ
      obtain ⟨out, hout⟩ : ∃ out, (l.drop f0).take (i - f0) = out := ⟨_, rfl⟩
      have hlen : out.length ≤ i - f0 := by rw [← hout]; exact List.length_take_le _ _
      rw [hout] at fin ⊢
      by_cases h3 : i < l.length
      · have hl2 : out.length = i - f0 := by rw [← hout, List.length_take, List.length_drop]; omega
        by_cases h4 : i - f0 < n0
        · obtain ⟨b, hb⟩ : ∃ b, l[i]? = some b := ⟨_, List.getElem?_eq_getElem h3⟩
          have hat := bts_at l _ b hb
          have hw : IntKind.i64.wrap ((i : Int) + 1) = i + 1 := wrap_in (by omega) (by omega)
          have hm1 : out.length + 1 ≤ maxLen := by unfold maxLen; omega
          have hm2 : out.length + 1 ≤ 140737488355328 := by omega
          have h4' : out.length < n0 := by omega
          simp [h3, h4', hat, hw, hm1, hm2]
          refine Kloop_normal ?_ ?_
          rotate_left
          · simp; omega
          refine ⟨rfl, i + 1, by omega, by omega, .inr (by omega), fr_intro ?_⟩
          have : (l.drop f0).take (i + 1 - f0) = out ++ [b] := by
            rw [← hout, show i + 1 - f0 = (i - f0) + 1 by omega, List.take_add_one, List.getElem?_drop, show f0 + (i - f0) = i by omega, hb]; rfl
          rw [this]
          simp [bts_snoc]
        · have h4' : ¬ out.length < n0 := by omega
          simp [h3, h4']
          exact fin _ rfl (by omega)
      · simp [h3]
        exact fin _ rfl (by omega)

theorem free_pc (E : Env) (H : Hp) (cap n : Nat) (l : List UInt8) (gone : Int) (h1 : cap ≤ 1048576) (h2 : l.length ≤ 1048576) (Q : AV → Hp → Prop) (hQ : Q (.int .i64 ((cap : Int) - l.length)) H) :
    PC Try.prog E 63 [.agg [.int .i64 cap, .sl false 1 (bts l), .int .i64 gone]] H Q := by
  refine pc_enter Try.func63 rfl [] [] (by kernel_rfl) (fun hB => ?_)
  have hw : IntKind.i64.wrap ((cap : Int) - l.length) = cap - l.length := wrap_in (by omega) (by omega)
  simp [Try.ntmps63, Try.results63, List.replicate_succ, hw]
  exact aPost_same hB rfl (nilV_refl _) (by simp) hQ

/-- The document's ring. -/
def dR (cap : Nat) (l : List UInt8) (q : Nat) : AV := .agg [.int .i64 cap, .sl false 1 (bts l), .int .i64 q]
theorem pieceN (l : List UInt8) (f n : Nat) : pieceL l f n = (l.drop f).take n := by
  unfold pieceL
  by_cases h : n = 0
  · subst h; simp
  · rw [if_neg (by omega)]; simp
theorem nilIn_rel {w : World} {β : Nat → Nat} {Rd : Nat → Nat → Prop} {a c : AV} {u : Value} (h : Rel w β Rd (.agg [a, .nil, c]) u) : Rel w β Rd (.agg [a, .sl false 1 [], c]) u := by
  cases h with
  | agg _ vs hl hf hr =>
    refine .agg _ vs hl (fun x hx => by
      simp at hx
      rcases hx with rfl | rfl | rfl
      · exact hf _ (by simp)
      · exact ⟨rfl, rfl⟩
      · exact hf _ (by simp)) (fun j x u hx hu => ?_)
    match j with
    | 0 => exact hr 0 x u hx hu
    | 1 =>
      simp at hx; subst hx
      have := hr 1 .nil u rfl hu
      cases this
      exact .sl false 1 _ _ [] (fun r hr => by simp at hr) ⟨by simp, none, 0, rfl, Nat.le_refl _, Nat.zero_le _, fun h => by simp at h⟩ (fun g o n c hv j hj => by cases hv) (fun h => by cases h) (fun r hr => by simp at hr) (fun j x u hx => by simp at hx)
    | 2 => exact hr 2 x u hx hu
    | j + 3 => simp at hx
section
variable (E : Env) (H : Hp) (cap q : Nat) (l : List UInt8) (Q : AV → Hp → Prop) (h1 : cap ≤ 1048576) (h2 : l.length ≤ cap)
include h1 h2
theorem dfree_pc (hQ : Q (.int .i64 ((cap - l.length : Nat) : Int)) H) : PC Try.prog E 63 [dR cap l q] H Q :=
  free_pc E H cap 0 l q h1 (by omega) Q (by rw [show (cap : Int) - l.length = ((cap - l.length : Nat) : Int) by omega]; exact hQ)
theorem dput_pc (p : List UInt8) (hp : p.length ≤ 140737486258176) (hQ : Q (.tup [dR cap (l ++ p.take (cap - l.length)) q, .int .i64 (Nat.min p.length (cap - l.length) : Nat)]) H) :
    PC Try.prog E 39 [dR cap l q, .sl false 1 (bts p)] H Q := by
  refine pc_enter Try.func39 rfl [20] [] (by kernel_rfl) (fun hB => ?_)
  simp [Try.ntmps39, Try.results39, List.replicate_succ, dR]
  refine dfree_pc E _ cap q l _ h1 h2 ?_
  have e1 : (l.drop 0).take l.length = l := by simp
  by_cases hbig : cap - l.length < p.length
  · have h1' : ((cap - l.length : Nat) : Int) < p.length := by omega
    have hmn : Nat.min p.length (cap - l.length) = cap - l.length := Nat.min_eq_right (by omega)
    rw [hmn] at hQ
    simp [h1']
    refine dfree_pc E _ cap q l _ h1 h2 ?_
    simp
    refine piece_pc E _ l 0 l.length (by omega) (by omega) (by omega) _ ?_
    simp
    refine piece_pc E _ p 0 (cap - l.length : Nat) (by omega) (by omega) (by omega) _ ?_
    rw [show (0 : Int) = ((0 : Nat) : Int) from rfl, pieceN, pieceN, e1, List.drop_zero]
    obtain ⟨p', hp'⟩ : ∃ p', p.take (cap - l.length) = p' := ⟨_, rfl⟩
    have hpl : p'.length ≤ p.length := by rw [← hp']; exact List.length_take_le' _ _
    rw [hp'] at hQ ⊢
    have hm1 : l.length + p'.length ≤ maxLen := by unfold maxLen; omega
    have hm2 : l.length + p'.length ≤ 140737488355328 := by omega
    simp [bts_app, hm1, hm2]
    exact aPost_same hB (by simp [dR]) (nilV_refl _) (by simp [dR]) hQ
  · have h1' : ¬ ((cap - l.length : Nat) : Int) < p.length := by omega
    have hmn : Nat.min p.length (cap - l.length) = p.length := Nat.min_eq_left (by omega)
    have htk : p.take (cap - l.length) = p := List.take_of_length_le (by omega)
    rw [hmn, htk] at hQ
    simp [h1']
    refine piece_pc E _ l 0 l.length (by omega) (by omega) (by omega) _ ?_
    simp
    refine piece_pc E _ p 0 p.length (by omega) (by omega) (by omega) _ ?_
    rw [show (0 : Int) = ((0 : Nat) : Int) from rfl, pieceN, pieceN, e1, List.drop_zero, List.take_length]
    have hm1 : l.length + p.length ≤ maxLen := by unfold maxLen; omega
    have hm2 : l.length + p.length ≤ 140737488355328 := by omega
    simp [bts_app, hm1, hm2]
    exact aPost_same hB (by simp [dR]) (nilV_refl _) (by simp [dR]) hQ
theorem dtake_pc (hq : q ≤ cap) (n : Int) (h3 : -9223372036854775808 ≤ n) (h4 : n ≤ 9223372036854775807) (hQ : Q (.tup [dR cap (l.drop n.toNat) ((q + Nat.min n.toNat l.length) % cap), .sl false 1 (bts (l.take n.toNat))]) H) :
    PC Try.prog E 48 [dR cap l q, .int .i64 n] H Q := by
  refine pc_enter Try.func48 rfl [] [] (by kernel_rfl) (fun hB => ?_)
  simp [Try.ntmps48, Try.results48, List.replicate_succ, dR]
  refine piece_pc E _ l 0 n (by omega) (by omega) (by omega) _ ?_
  have e0 : pieceL l 0 n = l.take n.toNat := by
    unfold pieceL
    by_cases hn : n ≤ 0
    · rw [if_pos (.inr hn), show n.toNat = 0 by omega]; simp
    · rw [if_neg (by omega)]; simp
  rw [e0]
  have hlen : (l.take n.toNat).length = min n.toNat l.length := List.length_take
  have hdrop : (l.drop (l.take n.toNat).length).take l.length = l.drop n.toNat := by
    rw [List.take_of_length_le (by rw [List.length_drop]; omega), hlen]
    by_cases hh : n.toNat ≤ l.length
    · rw [Nat.min_eq_left hh]
    · rw [Nat.min_eq_right (by omega), List.drop_of_length_le (by omega), List.drop_of_length_le (by omega)]
  obtain ⟨t, ht⟩ : ∃ t, l.take n.toNat = t := ⟨_, rfl⟩
  rw [ht] at hlen hdrop hQ ⊢
  have hlen' : t.length = Nat.min n.toNat l.length := hlen
  rw [← hlen'] at hQ
  have htl : t.length ≤ l.length := by rw [hlen]; exact Nat.min_le_right _ _
  simp
  refine piece_pc E _ l t.length l.length (by omega) (by omega) (by omega) _ ?_
  rw [pieceN, hdrop]
  by_cases hz : cap = 0
  · subst hz
    obtain rfl : q = 0 := by omega
    have : t.length = 0 := by omega
    rw [this] at hQ
    simp
    exact aPost_same hB (by simp [dR]) (nilV_refl _) (by simp [dR]) hQ
  · have hz' : 0 < cap := by omega
    have hw : IntKind.i64.wrap ((q : Int) + t.length) = ((q + t.length : Nat) : Int) := by rw [wrap_in (by omega) (by omega)]; omega
    have hm : ((q + t.length : Nat) : Int).tmod (cap : Int) = (((q + t.length) % cap : Nat) : Int) := by rw [Int.tmod_eq_emod_of_nonneg (by omega)]; omega
    have hlt : (q + t.length) % cap < cap := Nat.mod_lt _ hz'
    have hw2 : IntKind.i64.wrap (((q + t.length) % cap : Nat) : Int) = (((q + t.length) % cap : Nat) : Int) := wrap_in (by omega) (by omega)
    simp [hz', hz, hw, hm, hw2, -Int.natCast_emod, -Int.natCast_add]
    exact aPost_same hB (by simp [dR]) (nilV_refl _) (by simp [dR]) hQ
end
end Go.Proofs.Ytgofogcfolhonaa

set_option linter.unusedVariables false
set_option linter.unusedSimpArgs false
set_option linter.unusedSectionVars false
set_option maxRecDepth 100000
namespace Go.Proofs.Ytgofogcfolhonaa
open Go Go.RowKit

theorem dnew_pc (E : Env) (H : Hp) (Q : AV → Hp → Prop) (c : Int) (hQ1 : 1 ≤ c → c ≤ 1048576 → Q (.tup [.agg [.int .i64 c, .nil, .int .i64 0], .int .i64 0]) H) (hQ2 : c < 1 ∨ 1048576 < c → Q (.tup [.agg [.int .i64 0, .nil, .int .i64 0], .int .i64 20]) H) :
    PC Try.prog E 61 [.int .i64 c] H Q := by
  refine pc_enter Try.func61 rfl [] [] (by kernel_rfl) (fun hB => ?_)
  by_cases b1 : c < 1
  · simp [Try.ntmps61, Try.results61, List.replicate_succ, b1]
    exact aPost_same hB (by simp) (nilV_refl _) (by simp) (hQ2 (.inl b1))
  · by_cases b2 : 1048576 < c
    · simp [Try.ntmps61, Try.results61, List.replicate_succ, b1, b2]
      exact aPost_same hB (by simp) (nilV_refl _) (by simp) (hQ2 (.inr b2))
    · simp [Try.ntmps61, Try.results61, List.replicate_succ, b1, b2]
      exact aPost_same hB (by simp) (nilV_refl _) (by simp) (hQ1 (by omega) (by omega))
/-- .. same. -/
theorem lsame_pc (E : Env) (H : Hp) (Q : AV → Hp → Prop) (a b : Bool) (k m : List UInt8) (hk : k.length ≤ maxLen) (hm : m.length ≤ maxLen) (hQ : Q (.bool (k == m)) H) : PC Try.prog E 40 [.sl a 1 (bts k), .sl b 1 (bts m)] H Q := by
  refine pc_enter Try.func40 rfl [] [] (by kernel_rfl) (fun hB => ?_)
  cases a <;> cases b <;> simp [Try.ntmps40, Try.results40, List.replicate_succ, hk, hm]
  all_goals exact aPost_same0 hB rfl (nilV_refl _) (by simp) hQ
theorem lkind_pc (E : Env) (H : Hp) (Q : AV → Hp → Prop) (k n : Int) (hn : 1 ≤ n) (hn2 : n ≤ 2305843009213693952) (hk1 : -9223372036854775808 ≤ k) (hk2 : k ≤ 9223372036854775807) (hQ : Q (.int .i64 (k % n)) H) : PC Try.prog E 21 [.int .i64 k, .int .i64 n] H Q := by
  refine pc_enter Try.func21 rfl [] [] (by kernel_rfl) (fun hB => ?_)
  have p := kind_plain k n hn
  have hz : ¬ n = 0 := by omega
  have b1 := Int.lt_tmod_of_pos k (by omega : (0 : Int) < n)
  have b2 := Int.tmod_lt_of_pos k (by omega : (0 : Int) < n)
  have w1 : IntKind.i64.wrap (k.tmod n) = k.tmod n := wrap_in (by omega) (by omega)
  have w2 : IntKind.i64.wrap (k.tmod n + n) = k.tmod n + n := wrap_in (by omega) (by omega)
  have b3 := Int.emod_lt_of_pos k (by omega : (0 : Int) < n)
  have b4 := Int.emod_nonneg k hz
  have w3 : IntKind.i64.wrap (k % n) = k % n := wrap_in (by omega) (by omega)
  simp [Try.ntmps21, Try.results21, List.replicate_succ, hz, w1, w2, p, w3]
  exact aPost_same0 hB rfl (nilV_refl _) (by simp) hQ
end Go.Proofs.Ytgofogcfolhonaa

set_option linter.unusedVariables false
set_option linter.unusedSimpArgs false
set_option linter.unusedSectionVars false
set_option maxRecDepth 100000
namespace Go.Proofs.Ytgofogcfolhonaa
open Go Go.RowKit

section
variable {H : Hp} {c : Nat} (h : c < H.length)
include h
theorem hs1 (x : List AV) (J : Hp) : (H.set c x ++ J)[c]? = some x := by rw [List.getElem?_append_left (by simpa using h), List.getElem?_set_self h]
theorem hs2 (x y : List AV) (J : Hp) : (H.set c x ++ J).set c y = H.set c y ++ J := by rw [List.set_append_left _ _ (by simpa using h), List.set_set]
theorem hs3 (y : List AV) (J : Hp) : (H ++ J).set c y = H.set c y ++ J := List.set_append_left _ _ h
theorem hs4 (x : List AV) : (H.set c x)[c]? = some x := List.getElem?_set_self h
end
theorem lawake_pc (E : Env) (H : Hp) (Q : AV → Hp → Prop) (hQ : Q (.bool true) H) : PC Try.prog E 36 [] H Q := by
  refine pc_of_calls (v := .bool true) (by kernel_rfl) (fun _ => True) (fun _ _ => trivial) (fun w β Rd cargs _ hsz _ => ?_) (.bool _) rfl hQ
  have : cargs = #[] := Array.size_eq_zero_iff.1 hsz
  subst this
  refine (lawake_ok w).mono ?_
  rintro e w' ⟨rfl, hF⟩
  exact ⟨_, rfl, hF, .bool _⟩
end Go.Proofs.Ytgofogcfolhonaa

set_option linter.unusedVariables false
set_option linter.unusedSimpArgs false
set_option linter.unusedSectionVars false
set_option maxRecDepth 100000
namespace Go.Proofs.Ytgofogcfolhonaa
open Go Go.RowKit

structure RgOp where
  kind : Int
  i : Int
  n : Int
  p : List UInt8
def RgOp.av (o : RgOp) : List AV := [.int .i64 o.kind, .int .i64 o.i, .int .i64 o.n, .sl false 1 (bts o.p)]
def RgOp.wf (o : RgOp) : Prop := (-9223372036854775808 ≤ o.kind ∧ o.kind ≤ 9223372036854775807) ∧ (-9223372036854775808 ≤ o.i ∧ o.i ≤ 9223372036854775807) ∧ (-9223372036854775808 ≤ o.n ∧ o.n ≤ 9223372036854775807)
theorem Oth.refl (H : Hp) (r : Option Nat) : Oth H H r := ⟨rfl, fun _ _ => rfl⟩
theorem RW.lt {H : Hp} {r : Option Nat} {cap q : Nat} {l : List UInt8} (h : RW H r cap q l) : ∀ i, r = some i → i < H.length := fun i e => by subst e; exact RO.lt h
theorem RW.of_eq {H H' : Hp} {r : Option Nat} {cap q : Nat} {l : List UInt8} (h : RW H r cap q l) (he : ∀ i, r = some i → H'[i]? = H[i]?) : RW H' r cap q l := by
  cases r with
  | some i => exact RO.of_eq h (he i rfl)
  | none => exact h
theorem Oth.box {H J H2 : Hp} {r : Option Nat} (h : Oth (H ++ J) H2 r) (hr : ∀ i, r = some i → i < H.length) (j : Nat) : H2[H.length + j]? = J[j]? := by
  rw [h.2 _ (fun e => by have := hr _ e; omega), List.getElem?_append_right (by omega)]
  congr 1; omega
end Go.Proofs.Ytgofogcfolhonaa

set_option linter.unusedVariables false
set_option linter.unusedSimpArgs false
set_option linter.unusedSectionVars false
set_option maxRecDepth 100000
namespace Go.Proofs.Ytgofogcfolhonaa
open Go Go.RowKit

/-- A nil inside of what came out, within a tuple, is seen as an empty list. -/
theorem PC.nilIn3 {P : Program} {E : Env} {f : FuncId} {args : List AV} {H : Hp} {Q : AV → Hp → Prop} (h : PC P E f args H (fun v H' => ∃ p a c b, v = .tup [p, .agg [a, .nil, c], b] ∧ Q (.tup [p, .agg [a, .sl false 1 [], c], b]) H')) : PC P E f args H Q :=
  ⟨h.1, fun w β Rd Ow cargs h1 h2 h3 h4 => (h.2 w β Rd Ow cargs h1 h2 h3 h4).mono fun e w' ⟨u, v, H', β', Rd', Ow', he, hQ, hp⟩ => by
    obtain ⟨p, a, c, b, rfl, hQ⟩ := hQ
    have hr : Rel w' β' Rd' (.tup [p, .agg [a, .sl false 1 [], c], b]) u := by
      cases hp.rel with
      | tup _ vs hl hf hr =>
        refine .tup _ vs hl (fun x hx => by
          simp at hx
          rcases hx with rfl | rfl | rfl
          · exact hf _ (by simp)
          · rfl
          · exact hf _ (by simp)) (fun j x u hx hu => ?_)
        match j with
        | 0 => exact hr 0 x u hx hu
        | 1 => simp at hx; subst hx; exact nilIn_rel (hr 1 _ u rfl hu)
        | 2 => exact hr 2 x u hx hu
        | j + 3 => simp at hx
    refine ⟨u, _, H', β', Rd', Ow', he, hQ, ⟨hr, ?_, fun g hg => (by cases hg), rfl, hp.hr, hp.old, hp.len, hp.keep, hp.frame, hp.os, hp.tape, hp.output, hp.size⟩⟩
    have := hp.bnd
    simp at this ⊢
    exact this⟩
def rops (l : List RgOp) : List (List AV) := l.map RgOp.av
@[simp] theorem rops_len (l : List RgOp) : (rops l).length = l.length := by simp [rops]
theorem rops_at {l : List RgOp} {i : Nat} {o : RgOp} (h : l[i]? = some o) : lat (rops l) i = some o.av := by simp [lat, rops, h]
def RgOp.ok (o : RgOp) : Prop := o.wf ∧ o.p.length ≤ 1048576
end Go.Proofs.Ytgofogcfolhonaa

set_option linter.unusedVariables false
set_option linter.unnecessarySimpa false
set_option linter.unusedSimpArgs false
set_option maxRecDepth 100000
namespace Go.Proofs.Ytgofogcfolhonaa
open Go Go.RowKit

/-- x, an answer beside the boxes K, seen as y where H alone are left. -/
def see1 (H K : Hp) (x y : AV) : Prop := (y = x ∧ Bnd H.length x) ∨
  ∃ i o n c k A rows, x = .bx i o n c k ∧ y = .sl false k rows ∧ H.length ≤ i ∧ K[i]? = some A ∧ rows.length = n ∧ (∀ r ∈ rows, r.length = k) ∧ (∀ r ∈ rows, ∀ z ∈ r, z.free = true ∧ Bnd H.length z) ∧ o + n * k ≤ A.length ∧ ∀ j u, rows.flatten[j]? = some u → A[o + j]? = some u
section
variable {E : Env} {w : World} {β : Nat → Nat} {Rd : Nat → Nat → Prop} {Ow : Nat → Option Hold} {H K : Hp} {x y : AV} {c : Value} {l m : List AV}
/-- What may be read then. -/
def rdK (Rd : Nat → Nat → Prop) (β : Nat → Nat) (H K : Hp) : Nat → Nat → Prop := fun g o => Rd g o ∨ ∃ i, H.length ≤ i ∧ i < K.length ∧ β i = g
theorem own_rdK (h : HR E w β Rd Ow K) {g : Nat} {k : Hold} (hg : Ow g = some k) (o : Nat) (hr : rdK Rd β H K g o) : Rd g o := by
  rcases hr with hr | ⟨i, _, hi, e⟩
  · exact hr
  · have := (h.sep i hi).1
    rw [e, hg] at this; cases this
theorem see1_rel (h : HR E w β Rd Ow K) (hs : see1 H K x y) (hf : x.free = true) (hr : Rel w β Rd x c) : Rel w β (rdK Rd β H K) y c ∧ y.free = true ∧ Bnd H.length y ∧ (x.one = true → y.one = true) := by
  rcases hs with ⟨rfl, hb⟩ | ⟨i, o, n, cp, k, A, rows, rfl, rfl, hi, hA, hn, hk, hz, hlen, hcell⟩
  · exact ⟨hr.move hb (fun g o hg => ⟨.inl hg, rfl⟩) (fun g hg => by rw [own0_free hf] at hg; cases hg) (Nat.le_refl _) (fun _ _ => rfl), hf, hb, id⟩
  · cases hr with
    | bx _ _ _ _ _ hnc hm =>
      obtain ⟨T, cs, hb, hcs, hce⟩ := h.box i A hA
      have hil := ltX hA
      have hfl := flat_len hk
      have hcell2 : ∀ j, j < n * k → w.cell? ⟨β i, o + j, none⟩ = ((cs.toList.drop o).take (n * k))[j]? := fun j hj => by
        rw [cell_blk hb, List.getElem?_take, if_pos hj, List.getElem?_drop, Array.getElem?_toList]
      subst hn
      refine ⟨.sl false k rows _ ((cs.toList.drop o).take (rows.length * k)) hk ⟨?_, _, cp, rfl, hnc, hm, fun _ => ⟨β i, o, rfl, hcell2⟩⟩ (fun g o' n' c' hv' j hj => ?_) (fun h => by cases h) (fun r hr z hz' => ⟨(hz r hr z hz').1, ?_⟩) (fun j z u hz' hu => ?_), rfl, .sl _ _ _ fun r hr z hz' => (hz r hr z hz').2, fun _ => rfl⟩
      · have e : cs.toList.length = cs.size := by simp
        rw [List.length_take, List.length_drop, e]; omega
      · injection hv' with h1 h2 h3
        injection h1 with h1
        injection h1 with h1 h4
        exact .inr ⟨i, hi, hil, h1⟩
      · obtain ⟨j, hj⟩ := List.getElem?_of_mem (List.mem_flatten.2 ⟨r, hr, hz'⟩)
        have hlj := hcell j z hj
        have hj2 : o + j < cs.size := by have := ltX hlj; rw [hcs]; exact this
        exact (hce _ z _ hlj (Array.getElem?_eq_getElem hj2)).2.1
      · obtain ⟨r, hr1, hr2⟩ := flat_mem hz'
        have hj : j < rows.length * k := hfl ▸ (List.getElem?_eq_some_iff.1 hz').1
        have hlj := hcell j z hz'
        have hu2 : cs[o + j]? = some u := by
          rw [List.getElem?_take, if_pos hj, List.getElem?_drop, Array.getElem?_toList] at hu
          exact hu
        exact (hce _ z u hlj hu2).1.move (hz r hr1 z hr2).2 (fun g o hg => ⟨.inl hg, rfl⟩) (fun g hg => by rw [own0_free (hz r hr1 z hr2).1] at hg; cases hg) (Nat.le_refl _) (fun _ _ => rfl)
end
/-- .. the same for a single slice. -/
theorem PC.sees1 {P : Program} {E : Env} {f : FuncId} {args : List AV} {H : Hp} {Q : AV → Hp → Prop} (hB : BndH H.length H) (h : PC P E f args H (fun v K => ∃ y, v.free = true ∧ H.length ≤ K.length ∧ (∀ j, j < H.length → K[j]? = H[j]?) ∧ see1 H K v y ∧ Q y H)) : PC P E f args H Q :=
  ⟨h.1, fun w β Rd Ow cargs h1 h2 h3 h4 => (h.2 w β Rd Ow cargs h1 h2 h3 h4).mono fun e w' ⟨u, v, K, β', Rd', Ow', he, hQ, hp⟩ => by
    obtain ⟨y, hvf, hle, hkeep, hs, hQ⟩ := hQ
    obtain ⟨k1, k3, k2, _⟩ := see1_rel hp.hr hs hvf hp.rel
    have hr := hp.hr
    refine ⟨u, _, H, β', rdK Rd' β' H K, Ow', he, hQ, ⟨k1, k2, fun g hg => (by rw [own0_free k3] at hg; cases hg), dis_free_of_free k3, ⟨fun i l hl => ?_, fun i j hi hj => hr.inj i j (by omega) (by omega), fun i hi => ⟨(hr.sep i (by omega)).1, fun o ho => ?_⟩, hr.ows, fun g o hg => ?_, hB, fun b hb => ?_, fun i l t hl h0 => hr.bld i l t ((hkeep i (ltX hl)).trans hl) h0⟩, hp.old, Nat.le_refl _, fun g o hg => ⟨.inl (hp.keep g o hg).1, (hp.keep g o hg).2⟩, fun b q1 q2 q3 => ?_, hp.os, hp.tape, hp.output, hp.size⟩⟩
    · have hil := ltX hl
      obtain ⟨T, cs, c1, c2, c3⟩ := hr.box i l ((hkeep i hil).trans hl)
      refine ⟨T, cs, c1, c2, fun j x u hx hu => ?_⟩
      obtain ⟨r1, r2, r3⟩ := c3 j x u hx hu
      exact ⟨r1.move (hB l (mem_at hl) x (mem_at hx)) (fun g o hg => ⟨.inl hg, rfl⟩) (fun g hg => ⟨rfl, fun o ho => own_rdK hr (r3 g hg) o ho⟩) (Nat.le_refl _) (fun _ _ => rfl), r2, r3⟩
    · rcases ho with ho | ⟨j, hj1, hj2, e⟩
      · exact (hr.sep i (by omega)).2 o ho
      · have := hr.inj j i hj2 (by omega) e
        omega
    · rcases hg with hg | ⟨j, hj1, hj2, rfl⟩
      · exact hr.rds g o hg
      · obtain ⟨T, cs, c1, _⟩ := hr.box j _ (List.getElem?_eq_getElem hj2)
        exact (Array.getElem?_eq_some_iff.1 c1).1
    · obtain ⟨f1, f2, f3, f4⟩ := hr.fix b hb
      exact ⟨f1, f2, fun i hi => f3 i (by omega), f4⟩
    · obtain ⟨f1, f2, f3, f4⟩ := hp.frame b q1 q2 q3
      refine ⟨f1, f2, fun i hi => f3 i (by omega), fun o ho => ?_⟩
      rcases ho with ho | ⟨j, hj1, hj2, e⟩
      · exact f4 o ho
      · exact absurd e (f3 j hj2)⟩
end Go.Proofs.Ytgofogcfolhonaa

set_option linter.unusedVariables false
set_option linter.unnecessarySimpa false
set_option linter.unusedSimpArgs false
set_option linter.unusedSectionVars false
set_option maxRecDepth 100000
namespace Go.Proofs.Ytgofogcfolhonaa
open Go Go.RowKit

theorem B8.see {H K : Hp} {v : AV} {l : List UInt8} (h : B8 K H.length v l) : see1 H K v (.sl false 1 (bts l)) ∨ (v = .nil ∧ l = []) := by
  rcases h with ⟨h0, rfl⟩ | ⟨i, c, A, h1, rfl, h2, h3, h4, h5, h6, h7⟩
  · exact .inr ⟨rfl, List.eq_nil_of_length_eq_zero h0⟩
  · refine .inl (.inr ⟨i, 0, l.length, c, 1, A, bts l, rfl, rfl, h1, h2, bts_len l, fun r hr => ?_, fun r hr z hz => ?_, by omega, fun j u hu => ?_⟩)
    · obtain ⟨b, _, rfl⟩ := List.mem_map.1 hr; rfl
    · obtain ⟨b, _, rfl⟩ := List.mem_map.1 hr
      simp at hz; subst hz; exact ⟨rfl, .int _ _⟩
    · rw [bts_c8] at hu
      have hj : j < l.length := by have := ltX hu; rw [c8_len] at this; exact this
      have hj2 : j < A.length := by omega
      have := h7 j _ (by omega) (List.getElem?_eq_getElem hj2)
      rw [Nat.zero_add, List.getElem?_eq_getElem hj2, ← this, hu]
section
variable {H : Hp} {r : Option (Nat × Nat)} {cap q : Nat} {l : List UInt8} (E : Env) (Q : AV → Hp → Prop)
/-- Peek, its answer read on alone. -/
theorem npeekS_pc (hB : BndH H.length H) (h : RN H r cap q l) (fr n : Int) (h1 : -9223372036854775808 ≤ fr) (h2 : fr ≤ 9223372036854775807) (h3 : n ≤ 9223372036854775807) (hne : ¬ (fr < 0 ∨ n < 0 ∨ (l.length : Int) < fr))
    (hQ : Q (.sl false 1 (bts (peekB l fr n))) H) : PC Try.prog E 41 [nptr r, .int .i64 fr, .int .i64 n] H Q := by
  obtain ⟨f, rfl⟩ : ∃ f : Nat, fr = f := ⟨fr.toNat, by omega⟩
  refine PC.sees1 hB (npeek_pc E _ h f n (by omega) h3 (by omega) (fun k hk => ⟨_, rfl, by simp, fun j hj => List.getElem?_append_left hj, ?_, hQ⟩))
  have hkm : k ≤ 1048576 := by
    have := h.fits
    rw [hk, List.length_take, List.length_drop]; omega
  rw [peekB, if_neg hne]
  have hb : B8 (H ++ [c8 ((l.drop f).take n.toNat)]) H.length (.bx H.length 0 k k 1) ((l.drop f).take n.toNat) := B8.of_box (A := c8 ((l.drop f).take n.toNat)) (Nat.le_refl _) (by simp) hk.symm (by rw [hk, c8_take, List.take_length]) (Nat.le_refl _) (by unfold maxLen; omega) (by rw [c8_len, hk]) (c8_smp _)
  rcases hb.see with h | ⟨h, _⟩
  · simpa using h
  · cases h
theorem nmade_pc (c : Int) (hQ : ∀ r n K, RN K r n 0 [] → (∀ i s, r = some (i, s) → H.length ≤ i ∧ H.length ≤ s) → H.length ≤ K.length → (∀ j, j < H.length → K[j]? = H[j]?) → BndH K.length K → Q (.tup [nptr r, dR n [] 0, .bool true]) K) :
    PC Try.prog E 37 [.int .i64 c] H Q := by
  refine PC.nilIn3 ?_
  refine pc_enter Try.func37 rfl [] [] (by kernel_rfl) (fun hB => ?_)
  simp [Try.ntmps37, Try.results37, List.replicate_succ]
  refine nnew_pc E _ c (fun n hc hn1 hn2 hr => ?_) (fun hbad => ?_)
  · subst hc
    simp [Kcall, KP, nptr]
    refine dnew_pc E _ _ n (fun _ _ => ?_) (fun h => absurd h (by omega))
    simp [Kcall, KP]
    have hb : BndH (H ++ [[AV.int .i64 n, .nil, .int .i64 0], c8 (List.replicate n 0), [.bx (H.length + 1) 0 n n 1, .int .i64 0, .int .i64 0], [.int .i64 n, .nil, .int .i64 0]]).length (H ++ [[AV.int .i64 n, .nil, .int .i64 0], c8 (List.replicate n 0), [.bx (H.length + 1) 0 n n 1, .int .i64 0, .int .i64 0], [.int .i64 n, .nil, .int .i64 0]]) := bndX_app (bndX_up hB (by simp)) fun X hX y hy => by
      simp at hX
      rcases hX with rfl | rfl | rfl | rfl
      · simp at hy; rcases hy with rfl | rfl | rfl <;> constructor
      · exact (c8_smp _ y hy).bnd _
      · simp at hy
        rcases hy with rfl | rfl
        · exact .bx _ _ _ _ _ (by simp)
        · exact .int _ _
      · simp at hy; rcases hy with rfl | rfl | rfl <;> constructor
    refine aPost_upX (v := .tup [nptr (some (H.length + 2, H.length + 1)), .agg [.int .i64 n, .nil, .int .i64 0], .bool true]) (by simp [nptr]) (by simp) hb (by simp [nptr]) ⟨_, _, _, _, rfl, hQ (some (H.length + 2, H.length + 1)) n _ ?_ (fun i s e => by cases e; omega) (by simp) (fun j hj => List.getElem?_append_left hj) hb⟩
    exact ⟨by omega, by omega, by omega, by omega, by simp, List.replicate n 0, by simp, by simp, by simp, fun j x hx => by simp at hx⟩
  · simp [Kcall, KP, nptr]
    refine dnew_pc E _ _ c (fun _ _ => absurd hbad (by omega)) (fun _ => ?_)
    simp [Kcall, KP]
    have hb : BndH (H ++ [[AV.int .i64 0, .nil, .int .i64 0], [.int .i64 0, .nil, .int .i64 0]]).length (H ++ [[AV.int .i64 0, .nil, .int .i64 0], [.int .i64 0, .nil, .int .i64 0]]) := bndX_app (bndX_up hB (by simp)) fun X hX y hy => by
      simp at hX; subst hX
      simp at hy; rcases hy with rfl | rfl | rfl <;> constructor
    exact aPost_upX (v := .tup [nptr none, .agg [.int .i64 0, .nil, .int .i64 0], .bool true]) (by simp [nptr]) (by simp) hb (by simp [nptr]) ⟨_, _, _, _, rfl, hQ none 0 _ ⟨rfl, rfl, rfl⟩ (fun i s e => by cases e) (by simp) (fun j hj => List.getElem?_append_left hj) hb⟩
end
section
variable {H : Hp} (E : Env) (Q : AV → Hp → Prop)
end
end Go.Proofs.Ytgofogcfolhonaa

set_option linter.unusedVariables false
set_option linter.unnecessarySimpa false
set_option linter.unusedSimpArgs false
set_option linter.unusedSectionVars false
set_option maxRecDepth 100000
namespace Go.Proofs.Ytgofogcfolhonaa
open Go Go.RowKit

/-- A list that came out. -/
structure Mk where
  v : AV
  n : Nat
def rowsK (l : List Mk) : List (List AV) := l.map fun e => [e.v]
theorem rowsK_len (l : List Mk) : (rowsK l).length = l.length := List.length_map ..
theorem rowsK_snoc (l : List Mk) (e : Mk) : rowsK l ++ [[e.v]] = rowsK (l ++ [e]) := by simp [rowsK]
theorem rowsK_at {l : List Mk} {i : Nat} {e : Mk} (h : l[i]? = some e) : lat (rowsK l) i = some [e.v] := by show (rowsK l)[i]? = _; simp [rowsK, h]
/-- Lists of one's own behind lo, each in its own box. -/
structure Own8 (K : Hp) (lo : Nat) (N : Nat → Prop) (vs : List Mk) : Prop where
  bx : ∀ e ∈ vs, BX K (fun j => lo ≤ j ∧ ¬ N j) 1 e.v e.n (fun _ _ => True) ∧ e.n ≤ 1048576
  df : vs.Pairwise fun a b => dif a.v b.v
theorem BX.wk {K : Hp} {G G' : Nat → Prop} {k n : Nat} {v : AV} {C C' : Nat → AV → Prop} (h : BX K G k v n C) (hG : ∀ j, G j → G' j) (hC : ∀ j y, j < n * k → C j y → C' j y) : BX K G' k v n C' :=
  h.of_eq (fun _ _ _ _ _ _ => rfl) (fun i _ _ _ _ e => hG _ (h.lt _ _ _ _ _ e).1) (fun j y hj _ h => hC j y hj h)
/-- A later list lies behind an earlier one's boxes. -/
theorem dif_of {K K' : Hp} {G G' : Nat → Prop} {v v' : AV} {n n' : Nat} {C C' : Nat → AV → Prop} (h : BX K G 1 v n C) (h' : BX K' G' 1 v' n' C') (hG : ∀ j, G' j → K.length ≤ j) : dif v v' := fun i o n c k i' o' n' c' k' e e' => by
  have h1 := (h.lt _ _ _ _ _ e).2
  have h2 := hG _ (h'.lt _ _ _ _ _ e').1
  omega
theorem BX.acells {K : Hp} {G : Nat → Prop} {k n : Nat} {v : AV} {C : Nat → AV → Prop} (h : BX K G k v n C) : Go.Proofs.Ytgofogcfolhonaa.acells v = some [v] := by
  rcases h with ⟨_, rfl⟩ | ⟨i, c, A, h1, rfl, _⟩ <;> rfl
theorem Kpt.pre {H K : Hp} (h : Kpt H K) : preH H K := ⟨_, up_dropX h.1 h.2⟩
theorem Own8.nil (K : Hp) (lo : Nat) (N : Nat → Prop) : Own8 K lo N [] := ⟨by simp, List.Pairwise.nil⟩
theorem Own8.snoc {K K' : Hp} {lo : Nat} {N : Nat → Prop} {vs : List Mk} {a : AV} {l : List UInt8} (h : Own8 K lo N vs) (hlo : lo ≤ K.length) (hle : K.length ≤ K'.length) (hk : ∀ j, j < K.length → ¬ N j → K'[j]? = K[j]?) (ha : B8 K' K.length a l) (hl : l.length ≤ 1048576) (hN : ∀ j, K.length ≤ j → ¬ N j) : Own8 K' lo N (vs ++ [⟨a, l.length⟩]) := by
  refine ⟨fun e he => ?_, List.pairwise_append.2 ⟨h.df, List.pairwise_singleton .., fun x hx y hy => ?_⟩⟩
  · rcases List.mem_append.1 he with he | he
    · refine ⟨(h.bx e he).1.of_eq (fun i _ _ _ _ ee => ?_) (fun i _ _ _ _ ee => ((h.bx e he).1.lt _ _ _ _ _ ee).1) (fun _ _ _ _ h => h), (h.bx e he).2⟩
      have := (h.bx e he).1.lt _ _ _ _ _ ee
      exact hk i this.2 this.1.2
    · simp at he; subst he
      exact ⟨BX.wk ha (fun j hj => ⟨Nat.le_trans hlo hj, hN j hj⟩) (fun _ _ _ _ => trivial), hl⟩
  · simp at hy; subst hy
    exact dif_of (h.bx x hx).1 ha (fun j hj => hj)
/-- What of a ring's lists is left. -/
def mList (l : List UInt8) (cap : Nat) (o : RgOp) : List UInt8 := if o.kind % 4 = 2 then (l.drop o.n.toNat).drop o.n.toNat else if o.kind % 4 = 3 then l ++ o.p.take (cap - l.length) else l
section
variable {H : Hp} {r : Option (Nat × Nat)} {cap q : Nat} {l : List UInt8} (E : Env) (Q : AV → Hp → Prop)
def inR (r : Option (Nat × Nat)) (j : Nat) : Prop := ∃ i s, r = some (i, s) ∧ (j = i ∨ j = s)
set_option maxHeartbeats 4000000 in
theorem nlists_pc (h : RN H r cap q l) (o : RgOp) (hw : o.wf) (hp : o.p.length ≤ 1048576)
    (hQ : ∀ (K : Hp) (vs : List Mk) (q' : Nat), vs.length ≤ 4 → Own8 K H.length (inR r) vs → RN K r cap q' (mList l cap o) → H.length ≤ K.length → (∀ j, j < H.length → ¬ inR r j → K[j]? = H[j]?) → BndH K.length K → ∀ w : Bool, Q (.sl w 1 (rowsK vs)) K) :
    PC Try.prog E 47 [nptr r, .agg o.av] H Q := by
  have hlt := h.lt
  have hnr : ∀ j, H.length ≤ j → ¬ inR r j := fun j hj ⟨i, s, e, hj2⟩ => by have := hlt i s e; omega
  have hfit := h.fits
  obtain ⟨⟨k1, k2⟩, ⟨i1, i2⟩, ⟨n1, n2⟩⟩ := hw
  have kl1 := Int.emod_nonneg o.kind (show (4 : Int) ≠ 0 by decide)
  have kl2 := Int.emod_lt_of_pos o.kind (show (0 : Int) < 4 by decide)
  refine pc_enterL (fun j => j = H.length) Try.func47 rfl [60] [(3, [0, 0, 0, 0, 0, 1]), (9, [0, 0, 0, 2, 0, 0, 2]), (10, [0, 3, 0, 0, 3, 0])] (by kernel_rfl) (fun E hS hB => ?_)
  simp [Try.ntmps47, Try.results47, List.replicate_succ, RgOp.av, rowsK]
  have hR1 := h.app [o.av]
  refine lkind_pc E _ _ o.kind 4 (by omega) (by omega) k1 k2 ?_
  simp [Kcall, KP]
  have hop : ∀ K1 : Hp, Kpt (H ++ [o.av]) K1 → K1[H.length]? = some o.av := fun K1 hK => (hK.2 _ (by simp)).trans (by simp)
  have hNN : ∀ j, H.length ≤ j → ¬ inR r j := hnr
  have hpk : ∀ fr n : Int, (peekB l fr n).length ≤ 1048576 := fun fr n => by
    unfold peekB
    split
    · simp
    · rw [List.length_take, List.length_drop]; omega
  have bn : ∀ (K : Hp) (lo : Nat) (N : Nat → Prop) (vs : List Mk), Own8 K lo N vs → Bnd K.length (.sl true 1 (rowsK vs)) := fun K lo N vs h => .sl _ _ _ fun x hx y hy => by
    obtain ⟨e, he, rfl⟩ := List.mem_map.1 hx
    simp at hy; subst hy
    exact (h.bx e he).1.facts.2.2.2
  have hav : o.av = [AV.int .i64 o.kind, .int .i64 o.i, .int .i64 o.n, .sl false 1 (bts o.p)] := rfl
  rw [hav] at hR1 hop
  by_cases c0 : o.kind % 4 = 0
  · simp [c0]
    refine npeekB_pc E _ hR1 o.i o.n i1 i2 n2 (fun K1 a1 hb1 hk1 hn1 hr1 => ?_)
    have f1 := hop K1 hk1
    have p1 := hk1.pre
    obtain ⟨_, o1, d1, _⟩ := hb1.facts
    simp [Kcall, KP, p1, f1]
    refine npeekB_pc E _ hr1 o.i o.n i1 i2 n2 (fun K2 a2 hb2 hk2 hn2 hr2 => ?_)
    obtain ⟨_, o2, d2, _⟩ := hb2.facts
    simp [Kcall, KP]
    refine nlen_pc E _ hr2 ?_
    simp [Kcall, KP]
    refine npeekB_pc E _ hr2 0 l.length (by omega) (by omega) (by omega) (fun K3 a3 hb3 hk3 hn3 hr3 => ?_)
    obtain ⟨fr3, o3, d3, _⟩ := hb3.facts
    obtain ⟨fr1, _⟩ := hb1.facts
    obtain ⟨fr2, _⟩ := hb2.facts
    simp [Kcall, KP, d1, d2, d3, fr1, fr2, fr3, -acells, hb1.acells, hb2.acells, hb3.acells, show List.range 3 = [0, 1, 2] from rfl]
    have s1 := (Own8.nil (H ++ [o.av]) H.length (inR r)).snoc (by simp) hk1.1 (fun j hj _ => hk1.2 j hj) hb1 (hpk _ _) (fun j hj => hNN j (by simp at hj; omega))
    have l1 := hk1.1
    have l2 := hk2.1
    simp at l1
    have s2 := s1.snoc (by omega) hk2.1 (fun j hj _ => hk2.2 j hj) hb2 (hpk _ _) (fun j hj => hNN j (by omega))
    have s3 := s2.snoc (by omega) hk3.1 (fun j hj _ => hk3.2 j hj) hb3 (hpk _ _) (fun j hj => hNN j (by omega))
    have hK := ((Kpt.app H [o.av]).trans hk1).trans (hk2.trans hk3)
    exact aPost_upX rfl hK.1 hn3 (bn _ _ _ _ s3) (hQ K3 _ q (by simp) s3 (by unfold mList; rw [if_neg (by omega), if_neg (by omega)]; exact hr3) hK.1 (fun j hj _ => hK.2 j hj) hn3 true)
  by_cases c1 : o.kind % 4 = 1
  · simp [c1]
    refine nparts_pc E _ hR1 (fun K1 a1 a2 la lb hab hb1 hb2 hd hk1 hn1 => ?_)
    have hr1 := hR1.of_eq (K' := K1) (fun i s e => by have := hR1.lt i s e; exact ⟨hk1.2 _ this.1, hk1.2 _ this.2⟩)
    obtain ⟨fr1, o1, d1, _⟩ := hb1.facts
    obtain ⟨fr2, o2, d2, _⟩ := hb2.facts
    simp [Kcall, KP, d1, d2]
    refine nparts_pc E _ hr1 (fun K2 a3 a4 lc ld hcd hb3 hb4 hd2 hk2 hn2 => ?_)
    obtain ⟨fr3, o3, d3, _⟩ := hb3.facts
    obtain ⟨fr4, o4, d4, _⟩ := hb4.facts
    simp [Kcall, KP, d1, d2, d3, d4, fr1, fr2, fr3, fr4, -acells, hb1.acells, hb2.acells, hb3.acells, hb4.acells, show List.range 4 = [0, 1, 2, 3] from rfl]
    have l1 := hk1.1
    have l2 := hk2.1
    simp at l1
    have hK := ((Kpt.app H [o.av]).trans hk1).trans hk2
    have hlab := congrArg List.length hab
    have hlcd := congrArg List.length hcd
    rw [List.length_append] at hlab hlcd
    have wk : ∀ (K' : Hp) (lo : Nat) (v : AV) (l' : List UInt8), B8 K' lo v l' → H.length ≤ lo → BX K' (fun j => H.length ≤ j ∧ ¬ inR r j) 1 v l'.length (fun _ _ => True) := fun K' lo v l' hb hlo => BX.wk hb (fun j hj => ⟨Nat.le_trans hlo hj, hNN j (Nat.le_trans hlo hj)⟩) (fun _ _ _ _ => trivial)
    have up : ∀ (lo : Nat) (v : AV) (l' : List UInt8), B8 K1 lo v l' → B8 K2 lo v l' := fun lo v l' hb => BX.of_eq hb (fun i _ _ _ _ e => hk2.2 i (BX.lt hb _ _ _ _ _ e).2) (fun i _ _ _ _ e => (BX.lt hb _ _ _ _ _ e).1) (fun _ _ _ _ h => h)
    have so : Own8 K2 H.length (inR r) [⟨a1, la.length⟩, ⟨a2, lb.length⟩, ⟨a3, lc.length⟩, ⟨a4, ld.length⟩] := by
      refine ⟨fun e he => ?_, ?_⟩
      · simp only [List.mem_cons, List.not_mem_nil, or_false] at he
        rcases he with rfl | rfl | rfl | rfl
        · exact ⟨wk _ _ _ _ (up _ _ _ hb1) (by simp), by simp; omega⟩
        · exact ⟨wk _ _ _ _ (up _ _ _ hb2) (by simp), by simp; omega⟩
        · exact ⟨wk _ _ _ _ hb3 (by omega), by simp; omega⟩
        · exact ⟨wk _ _ _ _ hb4 (by omega), by simp; omega⟩
      · refine List.Pairwise.cons (fun y hy => ?_) (List.Pairwise.cons (fun y hy => ?_) (List.Pairwise.cons (fun y hy => ?_) (List.pairwise_singleton ..)))
        · simp only [List.mem_cons, List.not_mem_nil, or_false] at hy
          rcases hy with rfl | rfl | rfl
          · exact hd
          · exact dif_of hb1 hb3 (fun j hj => hj)
          · exact dif_of hb1 hb4 (fun j hj => hj)
        · simp only [List.mem_cons, List.not_mem_nil, or_false] at hy
          rcases hy with rfl | rfl
          · exact dif_of hb2 hb3 (fun j hj => hj)
          · exact dif_of hb2 hb4 (fun j hj => hj)
        · simp only [List.mem_cons, List.not_mem_nil, or_false] at hy
          rcases hy with rfl
          exact hd2
    have hr2 := hr1.of_eq (K' := K2) (fun i s e => by have := hr1.lt i s e; exact ⟨hk2.2 _ this.1, hk2.2 _ this.2⟩)
    exact aPost_upX rfl hK.1 hn2 (bn _ _ _ _ so) (hQ K2 _ q (by simp) so (by unfold mList; rw [if_neg (by omega), if_neg (by omega)]; exact hr2) hK.1 (fun j hj _ => hK.2 j hj) hn2 true)
  by_cases c2 : o.kind % 4 = 2
  · simp [c2]
    refine ntakeB_pc E _ hR1 o.n n1 n2 (fun K1 a1 q1 hb1 hl1 hk1 hn1 hr1 => ?_)
    obtain ⟨fr1, o1, d1, _⟩ := hb1.facts
    have f1 : K1[H.length]? = some [AV.int .i64 o.kind, .int .i64 o.i, .int .i64 o.n, .sl false 1 (bts o.p)] := (hk1 _ (by simp) (fun i s e => by have := hlt i s e; omega)).trans (by simp)
    simp at hl1
    simp [Kcall, KP, hS, hl1, f1]
    refine ntakeB_pc E _ hr1 o.n n1 n2 (fun K2 a2 q2 hb2 hl2 hk2 hn2 hr2 => ?_)
    obtain ⟨fr2, o2, d2, _⟩ := hb2.facts
    simp [Kcall, KP, d1, d2, fr1, fr2, -acells, hb1.acells, hb2.acells, show List.range 2 = [0, 1] from rfl]
    have nin : ∀ j, ¬ inR r j → ∀ i s, r = some (i, s) → j ≠ i ∧ j ≠ s := fun j hj i s e => ⟨fun e2 => hj ⟨i, s, e, .inl e2⟩, fun e2 => hj ⟨i, s, e, .inr e2⟩⟩
    have s1 := (Own8.nil (H ++ [o.av]) H.length (inR r)).snoc (K' := K1) (by simp) (by simp; omega) (fun j hj hjr => hk1 j hj (nin j hjr)) hb1 (by rw [List.length_take]; omega) (fun j hj => hNN j (by simp at hj; omega))
    have s2 := s1.snoc (by omega) hl2 (fun j hj hjr => hk2 j hj (nin j hjr)) hb2 (by rw [List.length_take, List.length_drop]; omega) (fun j hj => hNN j (by omega))
    exact aPost_upX rfl (by omega) hn2 (bn _ _ _ _ s2) (hQ K2 _ q2 (by simp) s2 (by unfold mList; rw [if_pos c2]; exact hr2) (by omega) (fun j hj hjr => (hk2 j (by omega) (nin j hjr)).trans ((hk1 j (by simp; omega) (nin j hjr)).trans (by rw [List.getElem?_append_left hj]))) hn2 true)
  have c3 : o.kind % 4 = 3 := by omega
  have m1 : o.p.length ≤ maxLen := by unfold maxLen; omega
  have m2 : o.p.length ≤ 140737488355328 := by omega
  by_cases hp0 : o.p = []
  · simp [c3, hp0, bts]
    refine PC.bnd (nput_pc E _ (h.app [[AV.int .i64 o.kind, .int .i64 o.i, .int .i64 o.n, .sl false 1 []], []]) (p := []) (b := H.length + 1) (c := 0) (A := []) (fun i s e => by have := hlt i s e; omega) (by simp) (by simp) (by simp) (by simp) (fun K2 hr2 hO hn2 _ => ?_))
    rw [← hp0] at hr2
    obtain ⟨hol, hok⟩ := hO
    simp at hol
    obtain ⟨l2, hl2⟩ : ∃ l2, l ++ o.p.take (cap - l.length) = l2 := ⟨_, rfl⟩
    rw [hl2] at hr2
    simp [Kcall, KP]
    refine nlen_pc E _ hr2 ?_
    simp [Kcall, KP]
    refine npeekB_pc E _ hr2 0 (l2.length : Nat) (by omega) (by omega) (by have := hr2.fits; omega) (fun K3 a1 hb1 hk3 hn3 hr3 => ?_)
    obtain ⟨fr1, o1, d1, _⟩ := hb1.facts
    have hlp : (peekB l2 0 (l2.length : Nat)).length ≤ 1048576 := by
      have := hr2.fits
      rw [peekB, if_neg (by omega), List.length_take, List.length_drop]; omega
    have so := (Own8.nil K2 H.length (inR r)).snoc (by omega) hk3.1 (fun j hj _ => hk3.2 j hj) hb1 hlp (fun j hj => hNN j (by omega))
    simp [Kcall, KP, d1, fr1, -acells, hb1.acells, show List.range 1 = [0] from rfl]
    have hl3 := hk3.1
    exact aPost_upX rfl (by omega) hn3 (bn _ _ _ _ so) (hQ K3 _ q (by simp) so (by unfold mList; rw [if_neg (by omega), if_pos c3, hl2]; exact hr3) (by omega) (fun j hj hjr => (hk3.2 j (by omega)).trans ((hok j (fun i s e => ⟨fun e2 => hjr ⟨i, s, e, .inl e2⟩, fun e2 => hjr ⟨i, s, e, .inr e2⟩⟩)).trans (by rw [List.getElem?_append_left hj]))) hn3 true)
  · have hp1 : ¬ bts o.p = [] := fun e => hp0 (by have := congrArg List.length e; rw [bts_len] at this; exact List.eq_nil_of_length_eq_zero (by simpa using this))
    simp [c3, hp0, m1, m2, bts_c8]
    refine VGrow_intro fun cc hc1 hc2 => ?_
    have sm1 : ∀ y ∈ c8 o.p ++ List.replicate (cc - o.p.length) (AV.int .u8 0), smp y := fun y hy => by
      rcases List.mem_append.1 hy with h | h
      · exact c8_smp _ y h
      · rw [(List.mem_replicate.1 h).2]; exact smp_int _ _
    have p1 : (c8 o.p ++ List.replicate (cc - o.p.length) (AV.int .u8 0)).take o.p.length = c8 o.p := by rw [List.take_append_of_le_length (by rw [c8_len]; omega), List.take_of_length_le (by rw [c8_len]; omega)]
    have ln1 : (c8 o.p ++ List.replicate (cc - o.p.length) (AV.int .u8 0)).length = cc := by rw [List.length_append, c8_len, List.length_replicate]; omega
    obtain ⟨B1, hB1⟩ : ∃ B1, c8 o.p ++ List.replicate (cc - o.p.length) (AV.int .u8 0) = B1 := ⟨_, rfl⟩
    rw [hB1] at sm1 p1 ln1
    simp [hB1]
    refine PC.bnd (nput_pc E _ (h.app [[AV.int .i64 o.kind, .int .i64 o.i, .int .i64 o.n, .sl false 1 (bts o.p)], [], B1]) (p := o.p) (b := H.length + 2) (c := cc) (A := B1) (fun i s e => by have := hlt i s e; omega) (by simp) p1 hc1 (by omega) (fun K2 hr2 hO hn2 _ => ?_))
    obtain ⟨hol, hok⟩ := hO
    simp at hol
    obtain ⟨l2, hl2⟩ : ∃ l2, l ++ o.p.take (cap - l.length) = l2 := ⟨_, rfl⟩
    rw [hl2] at hr2
    simp [Kcall, KP]
    refine nlen_pc E _ hr2 ?_
    simp [Kcall, KP]
    refine npeekB_pc E _ hr2 0 (l2.length : Nat) (by omega) (by omega) (by have := hr2.fits; omega) (fun K3 a1 hb1 hk3 hn3 hr3 => ?_)
    obtain ⟨fr1, o1, d1, _⟩ := hb1.facts
    have hlp : (peekB l2 0 (l2.length : Nat)).length ≤ 1048576 := by
      have := hr2.fits
      rw [peekB, if_neg (by omega), List.length_take, List.length_drop]; omega
    have so := (Own8.nil K2 H.length (inR r)).snoc (by omega) hk3.1 (fun j hj _ => hk3.2 j hj) hb1 hlp (fun j hj => hNN j (by omega))
    simp [Kcall, KP, d1, fr1, -acells, hb1.acells, show List.range 1 = [0] from rfl]
    have hl3 := hk3.1
    exact aPost_upX rfl (by omega) hn3 (bn _ _ _ _ so) (hQ K3 _ q (by simp) so (by unfold mList; rw [if_neg (by omega), if_pos c3, hl2]; exact hr3) (by omega) (fun j hj hjr => (hk3.2 j (by omega)).trans ((hok j (fun i s e => ⟨fun e2 => hjr ⟨i, s, e, .inl e2⟩, fun e2 => hjr ⟨i, s, e, .inr e2⟩⟩)).trans (by rw [List.getElem?_append_left hj]))) hn3 true)
end
end Go.Proofs.Ytgofogcfolhonaa

set_option linter.unusedVariables false
set_option linter.unnecessarySimpa false
set_option linter.unusedSimpArgs false
set_option linter.unusedSectionVars false
set_option maxRecDepth 100000
namespace Go.Proofs.Ytgofogcfolhonaa
open Go Go.RowKit

/-- What is written into place j of list i. -/
@[irreducible] def rmz (i j : Nat) : Int := IntKind.u8.wrap ((i : Int) + ((i / 256 : Nat) : Int) * ((j : Int) + 1))
@[irreducible] def rgz (i : Nat) : Int := IntKind.u8.wrap ((i : Int) + 101)
theorem rgz_eq (i : Nat) : IntKind.u8.wrap ((i : Int) + 101) = rgz i := by unfold rgz; rfl
def rmk (i j : Nat) : AV := .int .u8 (rmz i j)
def rgr (i : Nat) : AV := .int .u8 (rgz i)
section
variable {H : Hp} (E : Env) (Q : AV → Hp → Prop)
theorem rmark_pc (i j : Nat) (hi : i ≤ 8388608) (hj : j ≤ 1048576) (hQ : Q (.int .u8 (rmz i j)) H) : PC Try.prog E 49 [.int .i64 i, .int .i64 j] H Q := by
  have w1 : IntKind.i64.wrap ((j : Int) + 1) = j + 1 := wrap_in (by omega) (by omega)
  have hd : (i : Int).tdiv 256 = ((i / 256 : Nat) : Int) := by rw [Int.tdiv_eq_ediv_of_nonneg (by omega)]; omega
  obtain ⟨d, hdd⟩ : ∃ d, i / 256 = d := ⟨_, rfl⟩
  have hd1 : d ≤ 32768 := by omega
  have hm : d * (j + 1) ≤ 32768 * 1048577 := Nat.mul_le_mul hd1 (by omega)
  have hm2 : ((d * (j + 1) : Nat) : Int) = (d : Int) * ((j : Int) + 1) := by simp
  have w0 : IntKind.i64.wrap (d : Int) = d := wrap_in (by omega) (by omega)
  have w2 : IntKind.i64.wrap ((d : Int) * ((j : Int) + 1)) = (d : Int) * ((j : Int) + 1) := wrap_in (by omega) (by omega)
  have w3 : IntKind.i64.wrap ((i : Int) + (d : Int) * ((j : Int) + 1)) = (i : Int) + (d : Int) * ((j : Int) + 1) := wrap_in (by omega) (by omega)
  unfold rmz at hQ
  rw [hdd] at hd hQ
  clear hdd hm2 hm
  refine pc_enter Try.func49 rfl [] [] (by kernel_rfl) (fun hB => ?_)
  simp [Try.ntmps49, Try.results49, List.replicate_succ, hd, w0, w1, w2, w3]
  exact aPost_same0 hB rfl (nilV_refl _) (by simp) hQ
end
/-- A ring, its document's, and lists of one's own. -/
structure PhS (H K : Hp) (r : Option (Nat × Nat)) (cap b : Nat) (l m : List UInt8) (L1 : Nat) (LS : List Mk) (C : Nat → Nat → AV → Prop) : Prop where
  ring : ∃ q, RN K r cap q l
  doc : ∃ qd, qd ≤ cap ∧ K[b]? = some [.int .i64 cap, .sl false 1 (bts m), .int .i64 qd]
  nb : ¬ inR r b
  hb : H.length ≤ b
  hr : ∀ j, inR r j → H.length ≤ j
  kp : Kpt H K
  bx : ∀ i e, LS[i]? = some e → BX K (fun j => b < j ∧ j < L1 ∧ ¬ inR r j) 1 e.v e.n (C i) ∧ e.n ≤ 1048576
  df : LS.Pairwise fun a b => dif a.v b.v
  l1 : L1 ≤ K.length
theorem nin {r : Option (Nat × Nat)} {j : Nat} (hj : ¬ inR r j) : ∀ i s, r = some (i, s) → j ≠ i ∧ j ≠ s := fun i s e => ⟨fun e2 => hj ⟨i, s, e, .inl e2⟩, fun e2 => hj ⟨i, s, e, .inr e2⟩⟩
theorem inR_lt {K : Hp} {r : Option (Nat × Nat)} {cap q : Nat} {l : List UInt8} (h : RN K r cap q l) {j : Nat} (hj : inR r j) : j < K.length := by
  obtain ⟨i, s, e, h2⟩ := hj
  have := h.lt i s e
  rcases h2 with rfl | rfl
  · exact this.1
  · exact this.2
section
variable {H K K' : Hp} {r : Option (Nat × Nat)} {cap b : Nat} {l m l' m' : List UInt8} {L1 : Nat} {LS vs : List Mk} {C C' : Nat → Nat → AV → Prop}
theorem PhS.blt (h : PhS H K r cap b l m L1 LS C) : b < K.length := let ⟨_, _, e⟩ := h.doc; ltX e
/-- Where all but the ring is kept. -/
theorem PhS.keep (h : PhS H K r cap b l m L1 LS C) (hle : K.length ≤ K'.length) (hk : ∀ j, j < K.length → ¬ inR r j → K'[j]? = K[j]?) {q : Nat} (hr : RN K' r cap q l') : PhS H K' r cap b l' m L1 LS C := by
  obtain ⟨qd, d1, d2⟩ := h.doc
  have hl1 := h.l1
  refine ⟨⟨q, hr⟩, ⟨qd, d1, (hk b h.blt h.nb).trans d2⟩, h.nb, h.hb, h.hr, ⟨by have := h.kp.1; omega, fun j hj => (hk j (by have := h.kp.1; omega) fun hj2 => by have := h.hr j hj2; omega).trans (h.kp.2 j hj)⟩, fun i e he => ⟨(h.bx i e he).1.of_eq (fun i' _ _ _ _ ee => ?_) (fun i' _ _ _ _ ee => ((h.bx i e he).1.lt _ _ _ _ _ ee).1) (fun _ _ _ _ h => h), (h.bx i e he).2⟩, h.df, by omega⟩
  obtain ⟨⟨q1, q2, q3⟩, q4⟩ := (h.bx i e he).1.lt _ _ _ _ _ ee
  exact hk i' q4 q3
theorem PhS.app (h : PhS H K r cap b l m L1 LS C) (J : Hp) : PhS H (K ++ J) r cap b l m L1 LS C := by
  obtain ⟨q, hq⟩ := h.ring
  exact h.keep (by simp) (fun j hj _ => List.getElem?_append_left hj) (hq.app J)
theorem PhS.up (h : PhS H K r cap b l m L1 LS C) {L2 : Nat} (h1 : L1 ≤ L2) (h2 : L2 ≤ K.length) : PhS H K r cap b l m L2 LS C :=
  ⟨h.ring, h.doc, h.nb, h.hb, h.hr, h.kp, fun i e he => ⟨BX.wk (h.bx i e he).1 (fun j hj => ⟨hj.1, by omega, hj.2.2⟩) (fun _ _ _ h => h), (h.bx i e he).2⟩, h.df, h2⟩
theorem PhS.wk (h : PhS H K r cap b l m L1 LS C) (hC : ∀ i e j y, LS[i]? = some e → j < e.n → C i j y → C' i j y) : PhS H K r cap b l m L1 LS C' :=
  ⟨h.ring, h.doc, h.nb, h.hb, h.hr, h.kp, fun i e he => ⟨BX.wk (h.bx i e he).1 (fun j hj => hj) (fun j y hj hc => hC i e j y he (by omega) hc), (h.bx i e he).2⟩, h.df, h.l1⟩
theorem PhS.setDoc (h : PhS H K r cap b l m L1 LS C) (m' : List UInt8) {qd : Nat} (hq : qd ≤ cap) : PhS H (K.set b [.int .i64 cap, .sl false 1 (bts m'), .int .i64 qd]) r cap b l m' L1 LS C := by
  obtain ⟨q, hr⟩ := h.ring
  refine ⟨⟨q, hr.put (nin h.nb) _⟩, ⟨qd, hq, List.getElem?_set_self h.blt⟩, h.nb, h.hb, h.hr, ⟨by simpa using h.kp.1, fun j hj => (getNX (by have := h.hb; omega) _).trans (h.kp.2 j hj)⟩, fun i e he => ⟨(h.bx i e he).1.put (fun i' _ _ _ _ ee => ?_) _, (h.bx i e he).2⟩, h.df, by simpa using h.l1⟩
  have := ((h.bx i e he).1.lt _ _ _ _ _ ee).1
  omega
/-- Lists more. -/
theorem PhS.more (h : PhS H K r cap b l m L1 LS (fun _ _ _ => True)) (hs : Own8 K' K.length (inR r) vs) {q : Nat} (hr : RN K' r cap q l') (hle : K.length ≤ K'.length) (hk : ∀ j, j < K.length → ¬ inR r j → K'[j]? = K[j]?) : PhS H K' r cap b l' m K'.length (LS ++ vs) (fun _ _ _ => True) := by
  have h2 := (h.keep hle hk hr).up (L2 := K'.length) (by have := h.l1; omega) (Nat.le_refl _)
  have hb := h.blt
  refine ⟨h2.ring, h2.doc, h2.nb, h2.hb, h2.hr, h2.kp, fun i e he => ?_, List.pairwise_append.2 ⟨h.df, hs.df, fun x hx y hy => ?_⟩, Nat.le_refl _⟩
  · rcases List.mem_append.1 (List.mem_of_getElem? he) with he | he
    · obtain ⟨j, hj⟩ := List.getElem?_of_mem he
      exact h2.bx j e hj
    · have := hs.bx e he
      exact ⟨this.1.of_eq (fun _ _ _ _ _ _ => rfl) (fun i' _ _ _ _ ee => by
        obtain ⟨⟨g1, g2⟩, g3⟩ := this.1.lt _ _ _ _ _ ee
        exact ⟨by omega, g3, g2⟩) (fun _ _ _ _ h => h), this.2⟩
  · obtain ⟨j, hj⟩ := List.getElem?_of_mem hx
    exact dif_of (h.bx j x hj).1 (hs.bx y hy).1 (fun j hj => hj.1)
/-- Different lists lie in different boxes. -/
theorem PhS.ne (h : PhS H K r cap b l m L1 LS C) {i i' d d' : Nat} {e e' : Mk} (he : LS[i]? = some e) (he' : LS[i']? = some e') (hi : i ≠ i') {o n c k o' n' c' k' : Nat} (hv : e.v = .bx d o n c k) (hv' : e'.v = .bx d' o' n' c' k') : d ≠ d' := by
  obtain ⟨g1, g2⟩ := List.getElem?_eq_some_iff.1 he
  obtain ⟨g3, g4⟩ := List.getElem?_eq_some_iff.1 he'
  have hp := List.pairwise_iff_getElem.1 h.df
  rcases Nat.lt_or_gt_of_ne hi with hl | hl
  · have := hp i i' g1 g3 hl
    rw [g2, g4] at this
    have := this _ _ _ _ _ _ _ _ _ _ hv hv'
    omega
  · have := hp i' i g3 g1 hl
    rw [g2, g4] at this
    have := this _ _ _ _ _ _ _ _ _ _ hv' hv
    omega
theorem BX.keepPre8 {G : Nat → Prop} {n j : Nat} {v : AV} {D : Nat → AV → Prop} {A A' : List AV} (h : BX K G 1 v n D) (hA : K[j]? = some A) (hl : A'.length = A.length) (hs : ∀ y ∈ A', smp y) (hp : ∀ m, m < n → A'[m]? = A[m]?) : BX (K.set j A') G 1 v n D := by
  rcases h with h | ⟨i, c, B, h1, rfl, h2, h3, h4, h5, h6, h7⟩
  · exact .inl h
  · by_cases e : i = j
    · subst e
      rw [hA] at h2; cases h2
      exact .inr ⟨i, c, A', h1, rfl, List.getElem?_set_self (ltX hA), by omega, h4, h5, hs, fun m y hm hy => h7 m y hm (by rw [← hp m (by omega)]; exact hy)⟩
    · exact .inr ⟨i, c, B, h1, rfl, (getNX (Ne.symm e) _).trans h2, h3, h4, h5, h6, h7⟩
/-- A list's box is written. -/
theorem PhS.put (h : PhS H K r cap b l m L1 LS C) {i d : Nat} {e : Mk} (he : LS[i]? = some e) {o n c k : Nat} (hv : e.v = .bx d o n c k) {X : List AV} (hX : BX (K.set d X) (fun j => b < j ∧ j < L1 ∧ ¬ inR r j) 1 e.v e.n (C' i)) (hC : ∀ i' e', LS[i']? = some e' → i' ≠ i → ∀ j y, j < e'.n → C i' j y → C' i' j y) : PhS H (K.set d X) r cap b l m L1 LS C' := by
  obtain ⟨q, hr⟩ := h.ring
  obtain ⟨qd, d1, d2⟩ := h.doc
  have hd := (h.bx i e he).1.lt _ _ _ _ _ hv
  have hd1 : b < d := hd.1.1
  have hd3 : ¬ inR r d := hd.1.2.2
  have hb := h.hb
  refine ⟨⟨q, hr.put (nin hd3) _⟩, ⟨qd, d1, (getNX (by omega) _).trans d2⟩, h.nb, h.hb, h.hr, ⟨by simpa using h.kp.1, fun j hj => (getNX (by omega) _).trans (h.kp.2 j hj)⟩, fun i' e' he' => ?_, h.df, by simpa using h.l1⟩
  by_cases hi : i' = i
  · subst hi
    rw [he] at he'; cases he'
    exact ⟨hX, (h.bx i' e he).2⟩
  · refine ⟨BX.wk ((h.bx i' e' he').1.put (fun d' _ _ _ _ ee => h.ne he he' (Ne.symm hi) hv ee) X) (fun j hj => hj) (fun j y hj hc => hC i' e' he' hi j y (by omega) hc), (h.bx i' e' he').2⟩
/-- A box that is no list's is written, behind all of them. -/
theorem PhS.putOut (h : PhS H K r cap b l m L1 LS C) {d : Nat} (hd : L1 ≤ d) (hd2 : ¬ inR r d) (hd3 : b < d) (X : List AV) : PhS H (K.set d X) r cap b l m L1 LS C := by
  obtain ⟨q, hr⟩ := h.ring
  obtain ⟨qd, d1, d2⟩ := h.doc
  have hb := h.hb
  refine ⟨⟨q, hr.put (nin hd2) _⟩, ⟨qd, d1, (getNX (by omega) _).trans d2⟩, h.nb, h.hb, h.hr, ⟨by simpa using h.kp.1, fun j hj => (getNX (by omega) _).trans (h.kp.2 j hj)⟩, fun i' e' he' => ⟨(h.bx i' e' he').1.put (fun d' _ _ _ _ ee => ?_) X, (h.bx i' e' he').2⟩, h.df, by simpa using h.l1⟩
  have := ((h.bx i' e' he').1.lt _ _ _ _ _ ee).1
  omega
end
end Go.Proofs.Ytgofogcfolhonaa

set_option linter.unusedVariables false
set_option linter.unusedSimpArgs false
set_option linter.unusedSectionVars false
set_option maxRecDepth 100000
namespace Go.Proofs.Ytgofogcfolhonaa
open Go Go.RowKit

theorem kind_i64 {x : AV} (h : KindOf (.int .i64) x) : ∃ z, x = .int .i64 z ∧ -9223372036854775808 ≤ z ∧ z ≤ 9223372036854775807 := by
  cases x <;> simp [KindOf] at h
  obtain ⟨rfl, h⟩ := h
  refine ⟨_, rfl, ?_⟩
  simpa [Lit.wf, IntKind.min, IntKind.max, IntKind.signed, IntKind.bits] using h
theorem kind_u8s {x : AV} (h : KindOf .u8s x) : ∃ l, x = .sl false 1 (bts l) := by
  match x, h with
  | .sl false 1 rows, h =>
    obtain ⟨l, rfl⟩ := h
    exact ⟨l, rfl⟩
end Go.Proofs.Ytgofogcfolhonaa

set_option linter.unusedVariables false
set_option linter.unusedSimpArgs false
set_option linter.unusedSectionVars false
set_option maxRecDepth 100000
namespace Go.Proofs.Ytgofogcfolhonaa
open Go Go.RowKit

def rgK : List CK := [.int .i64, .int .i64, .int .i64, .u8s]
theorem rg_of_row {r : List AV} (hl : r.length = 4) (hk : ∀ (j : Nat) k y, rgK[j]? = some k → r[j]? = some y → KindOf k y) : ∃ o : RgOp, r = o.av ∧ o.wf ∧ o.p.length = wtA r := by
  match r, hl with
  | [a0, a1, a2, a3], _ =>
    obtain ⟨z0, rfl, w0⟩ := kind_i64 (hk 0 _ _ rfl rfl)
    obtain ⟨z1, rfl, w1⟩ := kind_i64 (hk 1 _ _ rfl rfl)
    obtain ⟨z2, rfl, w2⟩ := kind_i64 (hk 2 _ _ rfl rfl)
    obtain ⟨z3, rfl⟩ := kind_u8s (hk 3 _ _ rfl rfl)
    exact ⟨⟨z0, z1, z2, z3⟩, rfl, ⟨w0, w1, w2⟩, by simp [wtA]⟩
theorem rops_of_rows : ∀ (rows : List (List AV)), (∀ r ∈ rows, r.length = 4 ∧ ∀ (j : Nat) k y, rgK[j]? = some k → r[j]? = some y → KindOf k y) → wtA rows.flatten ≤ 1048576 → ∃ sc : List RgOp, rows = rops sc ∧ ∀ o ∈ sc, o.ok
  | [], _, _ => ⟨[], rfl, fun o ho => by cases ho⟩
  | r :: rows, h, hw => by
    rw [List.flatten_cons, wtA_app] at hw
    obtain ⟨sc, rfl, hs⟩ := rops_of_rows rows (fun q hq => h q (List.mem_cons_of_mem _ hq)) (by omega)
    obtain ⟨h1, h2⟩ := h r (List.mem_cons_self ..)
    obtain ⟨o, rfl, w, e⟩ := rg_of_row h1 h2
    refine ⟨o :: sc, rfl, fun o' ho' => ?_⟩
    rcases List.mem_cons.1 ho' with rfl | ho'
    · exact ⟨w, by omega⟩
    · exact hs o' ho'
end Go.Proofs.Ytgofogcfolhonaa

set_option linter.unusedVariables false
set_option linter.unnecessarySimpa false
set_option linter.unusedSimpArgs false
set_option linter.unusedSectionVars false
set_option maxRecDepth 100000
namespace Go.Proofs.Ytgofogcfolhonaa
open Go Go.RowKit

def T8 : Nat → Nat → AV → Prop := fun _ _ _ => True
def m1I (H : Hp) (c : Int) (sc : List RgOp) (r : Option (Nat × Nat)) (cap b : Nat) (fr : List AV) (K : Hp) : Prop := ∃ (i : Nat) (l : List UInt8) (LS : List Mk) (L1 : Nat), i ≤ sc.length ∧ LS.length ≤ 4 * i ∧ PhS H K r cap b l l L1 LS T8 ∧ BndH K.length K ∧
  ∃ x : Nat → AV, fr = [.int .i64 c, .sl false 4 (rops sc), x 2, x 3, x 4, nptr r, .ptr (some (b, 0)), x 7, .sl true 1 (rowsK LS), x 9, x 10, x 11, x 12, x 13, x 14, x 15, x 16, x 17, x 18, x 19, x 20, x 21, x 22, x 23, x 24, x 25, x 26, x 27, x 28, x 29, x 30, x 31, x 32, x 33, x 34, x 35, .sl false 4 (rops sc), .int .i64 sc.length, .int .i64 i, x 39, x 40, x 41, x 42, x 43, x 44, x 45, x 46, x 47, x 48, x 49, x 50, x 51, x 52, x 53, x 54, x 55, x 56, x 57, x 58, x 59, x 60, x 61, x 62, x 63, x 64, x 65, x 66, x 67, x 68, x 69, x 70, x 71, x 72, x 73, x 74, x 75, x 76, x 77, x 78, x 79, x 80, x 81, x 82, x 83, x 84, x 85, x 86, x 87, x 88, x 89, x 90, x 91, x 92, x 93, x 94, x 95, x 96, x 97, x 98, x 99, x 100, x 101, x 102, x 103, x 104, x 105, x 106, x 107, x 108, x 109, x 110, x 111, x 112, x 113, x 114, x 115, x 116, x 117, x 118, x 119, x 120, x 121, x 122, x 123, x 124, x 125, x 126, x 127, x 128, x 129, x 130, x 131, x 132, x 133, x 134, x 135, x 136, x 137, x 138, x 139, x 140, x 141, x 142, x 143, x 144, x 145, x 146, x 147, x 148, x 149, x 150, x 151, x 152, x 153, x 154, x 155, x 156, x 157, x 158, x 159, x 160, x 161, x 162, x 163, x 164, x 165, x 166, x 167, x 168, x 169, x 170, x 171, x 172, x 173, x 174, x 175, x 176, x 177, x 178, x 179, x 180, x 181, x 182, x 183]
def m1J (H : Hp) (c : Int) (sc : List RgOp) (r : Option (Nat × Nat)) (cap b i : Nat) (LS vs : List Mk) (w : Bool) (o : RgOp) (d : Nat) (K0 : Hp) (fr : List AV) (K : Hp) : Prop := K = K0 ∧ ∃ (y : Nat), y ≤ vs.length ∧
  ∃ x : Nat → AV, fr = [.int .i64 c, .sl false 4 (rops sc), x 2, x 3, x 4, nptr r, .ptr (some (b, 0)), x 7, .sl true 1 (rowsK (LS ++ vs.take y)), x 9, .ptr (some (d, 0)), x 11, x 12, x 13, x 14, x 15, x 16, x 17, x 18, x 19, x 20, x 21, x 22, x 23, x 24, x 25, x 26, x 27, x 28, x 29, x 30, x 31, x 32, x 33, x 34, x 35, .sl false 4 (rops sc), .int .i64 sc.length, .int .i64 i, x 39, x 40, x 41, x 42, x 43, .sl w 1 (rowsK vs), .int .i64 vs.length, .int .i64 y, x 47, x 48, x 49, x 50, x 51, x 52, x 53, x 54, x 55, x 56, x 57, x 58, x 59, x 60, x 61, x 62, x 63, x 64, x 65, x 66, x 67, x 68, x 69, x 70, x 71, x 72, x 73, x 74, x 75, x 76, x 77, x 78, x 79, x 80, x 81, x 82, x 83, x 84, x 85, x 86, x 87, x 88, x 89, x 90, x 91, x 92, x 93, x 94, x 95, x 96, x 97, x 98, x 99, x 100, x 101, x 102, x 103, x 104, x 105, x 106, x 107, x 108, x 109, x 110, x 111, x 112, x 113, x 114, x 115, x 116, x 117, x 118, x 119, x 120, x 121, x 122, x 123, x 124, x 125, x 126, x 127, x 128, x 129, x 130, x 131, x 132, x 133, x 134, x 135, x 136, x 137, x 138, x 139, x 140, x 141, x 142, x 143, x 144, x 145, x 146, x 147, x 148, x 149, x 150, x 151, x 152, x 153, x 154, x 155, x 156, x 157, x 158, x 159, x 160, x 161, x 162, x 163, x 164, x 165, x 166, x 167, x 168, x 169, x 170, x 171, x 172, x 173, x 174, x 175, x 176, x 177, x 178, x 179, x 180, x 181, x 182, x 183]
def m2I (H : Hp) (r : Option (Nat × Nat)) (cap b : Nat) (l : List UInt8) (L1 : Nat) (LS : List Mk) (fr : List AV) (K : Hp) : Prop := ∃ (i : Nat), i ≤ LS.length ∧ PhS H K r cap b l l L1 LS (fun i' m u => i' < i → u = rmk i' m) ∧ BndH K.length K ∧
  ∃ x : Nat → AV, fr = [x 0, x 1, x 2, x 3, x 4, nptr r, .ptr (some (b, 0)), x 7, .sl true 1 (rowsK LS), x 9, x 10, x 11, x 12, x 13, x 14, x 15, x 16, x 17, x 18, x 19, x 20, x 21, x 22, x 23, x 24, x 25, x 26, x 27, x 28, x 29, x 30, x 31, x 32, x 33, x 34, x 35, x 36, x 37, x 38, x 39, x 40, x 41, x 42, x 43, x 44, x 45, x 46, x 47, x 48, x 49, x 50, x 51, x 52, x 53, x 54, x 55, x 56, x 57, x 58, x 59, x 60, x 61, x 62, x 63, x 64, x 65, x 66, x 67, x 68, x 69, x 70, x 71, x 72, x 73, x 74, x 75, x 76, x 77, x 78, x 79, x 80, x 81, x 82, x 83, .sl false 1 (rowsK LS), .int .i64 LS.length, .int .i64 i, x 87, x 88, x 89, x 90, x 91, x 92, x 93, x 94, x 95, x 96, x 97, x 98, x 99, x 100, x 101, x 102, x 103, x 104, x 105, x 106, x 107, x 108, x 109, x 110, x 111, x 112, x 113, x 114, x 115, x 116, x 117, x 118, x 119, x 120, x 121, x 122, x 123, x 124, x 125, x 126, x 127, x 128, x 129, x 130, x 131, x 132, x 133, x 134, x 135, x 136, x 137, x 138, x 139, x 140, x 141, x 142, x 143, x 144, x 145, x 146, x 147, x 148, x 149, x 150, x 151, x 152, x 153, x 154, x 155, x 156, x 157, x 158, x 159, x 160, x 161, x 162, x 163, x 164, x 165, x 166, x 167, x 168, x 169, x 170, x 171, x 172, x 173, x 174, x 175, x 176, x 177, x 178, x 179, x 180, x 181, x 182, x 183]
def m2J (H : Hp) (r : Option (Nat × Nat)) (cap b : Nat) (l : List UInt8) (L1 : Nat) (LS : List Mk) (i : Nat) (e : Mk) (fr : List AV) (K : Hp) : Prop := ∃ (j : Nat), j ≤ e.n ∧ PhS H K r cap b l l L1 LS (fun i' m u => i' < i ∨ (i' = i ∧ m < j) → u = rmk i' m) ∧ BndH K.length K ∧
  ∃ x : Nat → AV, fr = [x 0, x 1, x 2, x 3, x 4, nptr r, .ptr (some (b, 0)), x 7, .sl true 1 (rowsK LS), x 9, x 10, x 11, x 12, .int .i64 i, e.v, x 15, x 16, x 17, x 18, x 19, x 20, x 21, x 22, x 23, x 24, x 25, x 26, x 27, x 28, x 29, x 30, x 31, x 32, x 33, x 34, x 35, x 36, x 37, x 38, x 39, x 40, x 41, x 42, x 43, x 44, x 45, x 46, x 47, x 48, x 49, x 50, x 51, x 52, x 53, x 54, x 55, x 56, x 57, x 58, x 59, x 60, x 61, x 62, x 63, x 64, x 65, x 66, x 67, x 68, x 69, x 70, x 71, x 72, x 73, x 74, x 75, x 76, x 77, x 78, x 79, x 80, x 81, x 82, x 83, .sl false 1 (rowsK LS), .int .i64 LS.length, .int .i64 i, x 87, x 88, x 89, x 90, x 91, .int .i64 e.n, .int .i64 j, x 94, x 95, x 96, x 97, x 98, x 99, x 100, x 101, x 102, x 103, x 104, x 105, x 106, x 107, x 108, x 109, x 110, x 111, x 112, x 113, x 114, x 115, x 116, x 117, x 118, x 119, x 120, x 121, x 122, x 123, x 124, x 125, x 126, x 127, x 128, x 129, x 130, x 131, x 132, x 133, x 134, x 135, x 136, x 137, x 138, x 139, x 140, x 141, x 142, x 143, x 144, x 145, x 146, x 147, x 148, x 149, x 150, x 151, x 152, x 153, x 154, x 155, x 156, x 157, x 158, x 159, x 160, x 161, x 162, x 163, x 164, x 165, x 166, x 167, x 168, x 169, x 170, x 171, x 172, x 173, x 174, x 175, x 176, x 177, x 178, x 179, x 180, x 181, x 182, x 183]
/-- A box that no list from number i on lies in. -/
def Frl (LS : List Mk) (i d : Nat) : Prop := ∀ i' e d' o n c k, i ≤ i' → LS[i']? = some e → e.v = .bx d' o n c k → d ≠ d'
def M8 : Nat → Nat → AV → Prop := fun i m u => u = rmk i m
/-- What is known of the lists that were grown. -/
def GrS (K : Hp) (r : Option (Nat × Nat)) (b : Nat) (LS GS : List Mk) (G : Nat → Prop) : Prop := ∀ i' g e, GS[i']? = some g → LS[i']? = some e → g.n = e.n + 17 ∧ BX K (fun d => b < d ∧ ¬ inR r d ∧ G d) 1 g.v g.n (fun m u => e.n ≤ m → u = rgr i')
theorem GrS.app {K : Hp} {r : Option (Nat × Nat)} {b : Nat} {LS GS : List Mk} {G : Nat → Prop} (h : GrS K r b LS GS G) (J : Hp) : GrS (K ++ J) r b LS GS G := fun i' g e hg he => ⟨(h i' g e hg he).1, (h i' g e hg he).2.app J⟩
theorem GrS.put {K : Hp} {r : Option (Nat × Nat)} {b : Nat} {LS GS : List Mk} {G : Nat → Prop} (h : GrS K r b LS GS G) {d : Nat} (hd : ∀ d', G d' → d' ≠ d) (X : List AV) : GrS (K.set d X) r b LS GS G := fun i' g e hg he => ⟨(h i' g e hg he).1, (h i' g e hg he).2.put (fun d' _ _ _ _ ee => Ne.symm (hd d' ((h i' g e hg he).2.lt _ _ _ _ _ ee).1.2.2)) X⟩
def m3I (H : Hp) (r : Option (Nat × Nat)) (cap b : Nat) (l : List UInt8) (L1 : Nat) (LS : List Mk) (fr : List AV) (K : Hp) : Prop := ∃ (i : Nat) (GS : List Mk), i ≤ LS.length ∧ GS.length = i ∧ PhS H K r cap b l l L1 LS M8 ∧ GrS K r b LS GS (Frl LS i) ∧ BndH K.length K ∧
  ∃ x : Nat → AV, fr = [x 0, x 1, x 2, x 3, x 4, nptr r, .ptr (some (b, 0)), x 7, .sl true 1 (rowsK LS), x 9, x 10, x 11, x 12, x 13, x 14, x 15, .sl true 1 (rowsK GS), x 17, x 18, x 19, x 20, x 21, x 22, x 23, x 24, x 25, x 26, x 27, x 28, x 29, x 30, x 31, x 32, x 33, x 34, x 35, x 36, x 37, x 38, x 39, x 40, x 41, x 42, x 43, x 44, x 45, x 46, x 47, x 48, x 49, x 50, x 51, x 52, x 53, x 54, x 55, x 56, x 57, x 58, x 59, x 60, x 61, x 62, x 63, x 64, x 65, x 66, x 67, x 68, x 69, x 70, x 71, x 72, x 73, x 74, x 75, x 76, x 77, x 78, x 79, x 80, x 81, x 82, x 83, x 84, x 85, x 86, x 87, x 88, x 89, x 90, x 91, x 92, x 93, x 94, x 95, x 96, x 97, x 98, x 99, x 100, x 101, x 102, x 103, .sl false 1 (rowsK LS), .int .i64 LS.length, .int .i64 i, x 107, x 108, x 109, x 110, x 111, x 112, x 113, x 114, x 115, x 116, x 117, x 118, x 119, x 120, x 121, x 122, x 123, x 124, x 125, x 126, x 127, x 128, x 129, x 130, x 131, x 132, x 133, x 134, x 135, x 136, x 137, x 138, x 139, x 140, x 141, x 142, x 143, x 144, x 145, x 146, x 147, x 148, x 149, x 150, x 151, x 152, x 153, x 154, x 155, x 156, x 157, x 158, x 159, x 160, x 161, x 162, x 163, x 164, x 165, x 166, x 167, x 168, x 169, x 170, x 171, x 172, x 173, x 174, x 175, x 176, x 177, x 178, x 179, x 180, x 181, x 182, x 183]
def m3J (H : Hp) (r : Option (Nat × Nat)) (cap b : Nat) (l : List UInt8) (L1 : Nat) (LS GS : List Mk) (i : Nat) (e : Mk) (Ki : Nat) (fr : List AV) (K : Hp) : Prop := ∃ (y : Nat) (gv : AV), y ≤ 17 ∧ PhS H K r cap b l l L1 LS M8 ∧ GrS K r b LS GS (fun d => Frl LS i d ∧ d < Ki) ∧ BX K (fun d => b < d ∧ ¬ inR r d ∧ (Ki ≤ d ∨ ∃ o n c k, e.v = .bx d o n c k)) 1 gv (e.n + y) (fun m u => e.n ≤ m → u = rgr i) ∧ L1 ≤ Ki ∧ Ki ≤ K.length ∧ BndH K.length K ∧
  ∃ x : Nat → AV, fr = [x 0, x 1, x 2, x 3, x 4, nptr r, .ptr (some (b, 0)), x 7, .sl true 1 (rowsK LS), x 9, x 10, x 11, x 12, x 13, x 14, x 15, .sl true 1 (rowsK GS), .int .i64 i, e.v, gv, x 20, x 21, x 22, x 23, x 24, x 25, x 26, x 27, x 28, x 29, x 30, x 31, x 32, x 33, x 34, x 35, x 36, x 37, x 38, x 39, x 40, x 41, x 42, x 43, x 44, x 45, x 46, x 47, x 48, x 49, x 50, x 51, x 52, x 53, x 54, x 55, x 56, x 57, x 58, x 59, x 60, x 61, x 62, x 63, x 64, x 65, x 66, x 67, x 68, x 69, x 70, x 71, x 72, x 73, x 74, x 75, x 76, x 77, x 78, x 79, x 80, x 81, x 82, x 83, x 84, x 85, x 86, x 87, x 88, x 89, x 90, x 91, x 92, x 93, x 94, x 95, x 96, x 97, x 98, x 99, x 100, x 101, x 102, x 103, .sl false 1 (rowsK LS), .int .i64 LS.length, .int .i64 i, x 107, x 108, x 109, x 110, x 111, .int .i64 y, x 113, x 114, x 115, x 116, x 117, x 118, x 119, x 120, x 121, x 122, x 123, x 124, x 125, x 126, x 127, x 128, x 129, x 130, x 131, x 132, x 133, x 134, x 135, x 136, x 137, x 138, x 139, x 140, x 141, x 142, x 143, x 144, x 145, x 146, x 147, x 148, x 149, x 150, x 151, x 152, x 153, x 154, x 155, x 156, x 157, x 158, x 159, x 160, x 161, x 162, x 163, x 164, x 165, x 166, x 167, x 168, x 169, x 170, x 171, x 172, x 173, x 174, x 175, x 176, x 177, x 178, x 179, x 180, x 181, x 182, x 183]
def m4I (r : Option (Nat × Nat)) (b : Nat) (LS GS : List Mk) (K0 : Hp) (fr : List AV) (K : Hp) : Prop := K = K0 ∧ ∃ (i : Nat), i ≤ LS.length ∧
  ∃ x : Nat → AV, fr = [x 0, x 1, x 2, x 3, x 4, nptr r, .ptr (some (b, 0)), x 7, x 8, x 9, x 10, x 11, x 12, x 13, x 14, x 15, .sl true 1 (rowsK GS), x 17, x 18, x 19, x 20, x 21, x 22, x 23, x 24, x 25, x 26, x 27, x 28, x 29, x 30, x 31, x 32, x 33, x 34, x 35, x 36, x 37, x 38, x 39, x 40, x 41, x 42, x 43, x 44, x 45, x 46, x 47, x 48, x 49, x 50, x 51, x 52, x 53, x 54, x 55, x 56, x 57, x 58, x 59, x 60, x 61, x 62, x 63, x 64, x 65, x 66, x 67, x 68, x 69, x 70, x 71, x 72, x 73, x 74, x 75, x 76, x 77, x 78, x 79, x 80, x 81, x 82, x 83, x 84, x 85, x 86, x 87, x 88, x 89, x 90, x 91, x 92, x 93, x 94, x 95, x 96, x 97, x 98, x 99, x 100, x 101, x 102, x 103, x 104, x 105, x 106, x 107, x 108, x 109, x 110, x 111, x 112, x 113, x 114, x 115, x 116, x 117, x 118, x 119, x 120, x 121, x 122, x 123, x 124, x 125, .sl false 1 (rowsK LS), .int .i64 LS.length, .int .i64 i, x 129, x 130, x 131, x 132, x 133, x 134, x 135, x 136, x 137, x 138, x 139, x 140, x 141, x 142, x 143, x 144, x 145, x 146, x 147, x 148, x 149, x 150, x 151, x 152, x 153, x 154, x 155, x 156, x 157, x 158, x 159, x 160, x 161, x 162, x 163, x 164, x 165, x 166, x 167, x 168, x 169, x 170, x 171, x 172, x 173, x 174, x 175, x 176, x 177, x 178, x 179, x 180, x 181, x 182, x 183]
def m4J (r : Option (Nat × Nat)) (b : Nat) (LS GS : List Mk) (K0 : Hp) (i : Nat) (e : Mk) (fr : List AV) (K : Hp) : Prop := K = K0 ∧ ∃ (j : Nat), j ≤ e.n ∧
  ∃ x : Nat → AV, fr = [x 0, x 1, x 2, x 3, x 4, nptr r, .ptr (some (b, 0)), x 7, x 8, x 9, x 10, x 11, x 12, x 13, x 14, x 15, .sl true 1 (rowsK GS), x 17, x 18, x 19, .int .i64 i, e.v, x 22, x 23, x 24, x 25, x 26, x 27, x 28, x 29, x 30, x 31, x 32, x 33, x 34, x 35, x 36, x 37, x 38, x 39, x 40, x 41, x 42, x 43, x 44, x 45, x 46, x 47, x 48, x 49, x 50, x 51, x 52, x 53, x 54, x 55, x 56, x 57, x 58, x 59, x 60, x 61, x 62, x 63, x 64, x 65, x 66, x 67, x 68, x 69, x 70, x 71, x 72, x 73, x 74, x 75, x 76, x 77, x 78, x 79, x 80, x 81, x 82, x 83, x 84, x 85, x 86, x 87, x 88, x 89, x 90, x 91, x 92, x 93, x 94, x 95, x 96, x 97, x 98, x 99, x 100, x 101, x 102, x 103, x 104, x 105, x 106, x 107, x 108, x 109, x 110, x 111, x 112, x 113, x 114, x 115, x 116, x 117, x 118, x 119, x 120, x 121, x 122, x 123, x 124, x 125, .sl false 1 (rowsK LS), .int .i64 LS.length, .int .i64 i, x 129, x 130, x 131, x 132, e.v, .int .i64 e.n, .int .i64 j, x 136, x 137, x 138, x 139, x 140, x 141, x 142, x 143, x 144, x 145, x 146, x 147, x 148, x 149, x 150, x 151, x 152, x 153, x 154, x 155, x 156, x 157, x 158, x 159, x 160, x 161, x 162, x 163, x 164, x 165, x 166, x 167, x 168, x 169, x 170, x 171, x 172, x 173, x 174, x 175, x 176, x 177, x 178, x 179, x 180, x 181, x 182, x 183]
def m4K (r : Option (Nat × Nat)) (b : Nat) (LS GS : List Mk) (K0 : Hp) (i : Nat) (e g : Mk) (fr : List AV) (K : Hp) : Prop := K = K0 ∧ ∃ (j : Nat), j ≤ g.n ∧
  ∃ x : Nat → AV, fr = [x 0, x 1, x 2, x 3, x 4, nptr r, .ptr (some (b, 0)), x 7, x 8, x 9, x 10, x 11, x 12, x 13, x 14, x 15, .sl true 1 (rowsK GS), x 17, x 18, x 19, .int .i64 i, e.v, x 22, x 23, x 24, x 25, x 26, x 27, x 28, x 29, x 30, x 31, x 32, x 33, x 34, x 35, x 36, x 37, x 38, x 39, x 40, x 41, x 42, x 43, x 44, x 45, x 46, x 47, x 48, x 49, x 50, x 51, x 52, x 53, x 54, x 55, x 56, x 57, x 58, x 59, x 60, x 61, x 62, x 63, x 64, x 65, x 66, x 67, x 68, x 69, x 70, x 71, x 72, x 73, x 74, x 75, x 76, x 77, x 78, x 79, x 80, x 81, x 82, x 83, x 84, x 85, x 86, x 87, x 88, x 89, x 90, x 91, x 92, x 93, x 94, x 95, x 96, x 97, x 98, x 99, x 100, x 101, x 102, x 103, x 104, x 105, x 106, x 107, x 108, x 109, x 110, x 111, x 112, x 113, x 114, x 115, x 116, x 117, x 118, x 119, x 120, x 121, x 122, x 123, x 124, x 125, .sl false 1 (rowsK LS), .int .i64 LS.length, .int .i64 i, x 129, x 130, x 131, x 132, x 133, x 134, x 135, x 136, x 137, x 138, x 139, x 140, x 141, x 142, x 143, x 144, x 145, x 146, x 147, x 148, g.v, .int .i64 g.n, .int .i64 j, x 152, x 153, x 154, x 155, x 156, x 157, x 158, x 159, x 160, x 161, x 162, x 163, x 164, x 165, x 166, x 167, x 168, x 169, x 170, x 171, x 172, x 173, x 174, x 175, x 176, x 177, x 178, x 179, x 180, x 181, x 182, x 183]
section
variable {H : Hp} (E : Env) (Q : AV → Hp → Prop)
theorem take_q {q n cap : Nat} {l : List UInt8} (h : q ≤ cap) (hl : l.length ≤ cap) : (q + Nat.min n l.length) % cap ≤ cap := by
  rcases Nat.eq_zero_or_pos cap with h0 | h0
  · subst h0
    have : Nat.min n l.length ≤ l.length := Nat.min_le_right _ _
    rw [Nat.mod_zero]; omega
  · exact Nat.le_of_lt (Nat.mod_lt _ h0)
set_option maxHeartbeats 8000000 in
theorem rmem_pc (c : Int) (sc : List RgOp) (hl : sc.length ≤ 1048576) (hok : ∀ o ∈ sc, o.ok) (hQ : Q (.bool true) H) : PC Try.prog E 9 [.int .i64 c, .sl false 4 (rops sc)] H Q := by
  refine pc_enter Try.func9 rfl [50, 121] [(38, [0, 0, 0, 0, 0, 3]), (58, [0, 0, 1, 1, 0, 0, 0, 0, 0, 1])] (by kernel_rfl) (fun hB => ?_)
  simp [Try.ntmps9, Try.results9, List.replicate_succ]
  refine lawake_pc E H _ ?_
  simp [Kcall, KP]
  refine nmade_pc E _ c (fun r cap K0 hr0 hrH hle0 hk0 hb0 => ?_)
  simp [Kcall, KP, dR]
  refine VL_nil 8 1 (by rfl) ?_
  have hS0 : PhS H (K0 ++ [[AV.int .i64 cap, .sl false 1 [], .int .i64 0]]) r cap K0.length [] [] (K0.length + 1) [] T8 := ⟨⟨0, hr0.app _⟩, ⟨0, by omega, by simp [bts]⟩, fun hb => by have := inR_lt hr0 hb; omega, hle0, fun j ⟨i, s, e, hj⟩ => by have := hrH i s e; omega, ⟨by simp; omega, fun j hj => (List.getElem?_append_left (by omega)).trans (hk0 j hj)⟩, by simp, List.Pairwise.nil, by simp⟩
  refine VL_go (m1I H c sc r cap K0.length) (fun fr _ => sc.length - (ai (aget fr 38)).toNat) ⟨0, [], [], _, by omega, by simp, hS0, bndX_app (bndX_up hb0 (by simp)) (by simp), fr_intro (by simp [rowsK])⟩ ?_
  clear hS0 hr0 hrH hk0
  obtain ⟨b, hb⟩ : ∃ b, K0.length = b := ⟨_, rfl⟩
  rw [hb]
  clear hle0 hb0 hb
  rintro fr K ⟨i, l, LS, L1, hi, hLS, hS, hBK, x, rfl⟩
  have w1 : IntKind.i64.wrap ((i : Int) + 1) = i + 1 := wrap_in (by omega) (by omega)
  by_cases h1 : i < sc.length
  · obtain ⟨o, ho⟩ : ∃ o, sc[i]? = some o := ⟨_, List.getElem?_eq_getElem h1⟩
    have hat := rops_at ho
    obtain ⟨hw, hp⟩ := hok o (List.mem_of_getElem? ho)
    have hav : o.av = [AV.int .i64 o.kind, .int .i64 o.i, .int .i64 o.n, .sl false 1 (bts o.p)] := rfl
    rw [hav] at hat
    obtain ⟨q, hr⟩ := hS.ring
    have hfit := hr.fits
    have hkl := hS.blt
    simp [h1, hat, rops_len]
    rw [← hav]
    refine nlists_pc E _ (hr.app [o.av]) o hw hp (fun K2 vs q2 hvs hO hr2 hle2 hk2 hn2 w => ?_)
    have hS1 := hS.app [o.av]
    have hS2 := (hS1.up (L2 := (K ++ [o.av]).length) (by have := hS.l1; simp; omega) (Nat.le_refl _)).more hO hr2 hle2 hk2
    have hd : K2[K.length]? = some [AV.int .i64 o.kind, .int .i64 o.i, .int .i64 o.n, .sl false 1 (bts o.p)] := by
      rw [hk2 K.length (by simp) (fun hj => by have := inR_lt hr hj; omega), List.getElem?_append_right (by omega), hav]; simp
    have hdb : K.length ≠ b := by omega
    simp [Kcall, KP, rowsK_len]
    refine VL_go (m1J H c sc r cap b i LS vs w o K.length K2) (fun fr _ => vs.length - (ai (aget fr 46)).toNat) ⟨rfl, 0, by omega, fr_intro (by simp)⟩ ?_
    rintro fr K3 ⟨rfl, y, hy, x, rfl⟩
    have w2 : IntKind.i64.wrap ((y : Int) + 1) = y + 1 := wrap_in (by omega) (by omega)
    by_cases h2 : y < vs.length
    · obtain ⟨e, he⟩ : ∃ e, vs[y]? = some e := ⟨_, List.getElem?_eq_getElem h2⟩
      have hat2 := rowsK_at he
      have hbe := (hO.bx e (List.mem_of_getElem? he)).1
      obtain ⟨vf, vo, vd, vb⟩ := hbe.facts
      have hln : (rowsK (LS ++ vs.take y)).length = LS.length + y := by rw [rowsK_len, List.length_append, List.length_take]; omega
      have m1 : LS.length + y + 1 ≤ maxLen := by unfold maxLen; omega
      have m2 : (LS.length + y + 1) * 24 ≤ 140737488355328 := by omega
      have hsn : rowsK (LS ++ vs.take y) ++ [[e.v]] = rowsK (LS ++ vs.take (y + 1)) := by
        rw [rowsK_snoc, List.append_assoc, List.take_add_one, he]; rfl
      simp [h2, hat2, vd, vf, -acells, hbe.acells, show List.range 1 = [0] from rfl, hln, m1, m2, hsn, w2]
      exact Kloop_normal ⟨rfl, y + 1, by omega, fr_intro (by simp)⟩ (by simp; omega)
    · obtain rfl : y = vs.length := by omega
      rw [List.take_length]
      obtain ⟨⟨k1, k2⟩, ⟨i1, i2⟩, ⟨n1, n2⟩⟩ := hw
      obtain ⟨qd, hqd, hdoc⟩ := hS2.doc
      have hbl := ltX hdoc
      have kl1 := Int.emod_nonneg o.kind (show (4 : Int) ≠ 0 by decide)
      have kl2 := Int.emod_lt_of_pos o.kind (show (0 : Int) < 4 by decide)
      have hbd : ∀ (l' : List UInt8) (q' : Nat), BndH (K3.set b [.int .i64 cap, .sl false 1 (bts l'), .int .i64 q']).length (K3.set b [.int .i64 cap, .sl false 1 (bts l'), .int .i64 q']) := fun l' q' => by
        rw [List.length_set]
        exact bndX_put hn2 b fun y hy => by
          simp at hy
          rcases hy with rfl | rfl | rfl
          · exact .int _ _
          · exact bnd_sl_bts _ _ _
          · exact .int _ _
      have gs : ∀ X, (K3.set b X)[b]? = some X := fun X => List.getElem?_set_self hbl
      have gd : ∀ X, (K3.set b X)[K.length]? = some [AV.int .i64 o.kind, .int .i64 o.i, .int .i64 o.n, .sl false 1 (bts o.p)] := fun X => (getNX (Ne.symm hdb) X).trans hd
      have hln : (LS ++ vs).length ≤ 4 * (i + 1) := by rw [List.length_append]; omega
      simp [h2, hd]
      refine lkind_pc E _ _ o.kind 4 (by omega) (by omega) k1 k2 ?_
      by_cases c2 : o.kind % 4 = 2
      · have hm : mList l cap o = (l.drop o.n.toNat).drop o.n.toNat := by unfold mList; rw [if_pos c2]
        simp [Kcall, KP, c2, hdoc, hd]
        refine dtake_pc E _ cap qd l _ hfit.1 hfit.2.1 hqd o.n n1 n2 ?_
        obtain ⟨qe, hqe⟩ : ∃ qe, (qd + Nat.min o.n.toNat l.length) % cap = qe := ⟨_, rfl⟩
        have hqe2 : qe ≤ cap := by rw [← hqe]; exact take_q hqd hfit.2.1
        rw [hqe]
        simp [Kcall, KP, dR, hdoc, gs, gd]
        refine dtake_pc E _ cap qe (l.drop o.n.toNat) _ hfit.1 (by rw [List.length_drop]; omega) hqe2 o.n n1 n2 ?_
        obtain ⟨qf, hqf⟩ : ∃ qf, (qe + Nat.min o.n.toNat (l.drop o.n.toNat).length) % cap = qf := ⟨_, rfl⟩
        have hqf2 : qf ≤ cap := by rw [← hqf]; exact take_q hqe2 (by rw [List.length_drop]; omega)
        rw [hqf]
        simp [Kcall, KP, dR, gs, w1]
        have hS3 := hS2.setDoc (mList l cap o) hqf2
        have hb3 := hbd (mList l cap o) qf
        rw [hm] at hS3 hb3
        simp only [List.drop_drop] at hS3 hb3
        exact Kloop_normal ⟨i + 1, _, LS ++ vs, _, by omega, hln, hS3, hb3, fr_intro (by simp)⟩ (by simp; omega)
      by_cases c3 : o.kind % 4 = 3
      · have hm : mList l cap o = l ++ o.p.take (cap - l.length) := by unfold mList; rw [if_neg c2, if_pos c3]
        simp [Kcall, KP, c3, hdoc, hd]
        refine dput_pc E _ cap qd l _ hfit.1 hfit.2.1 o.p (by omega) ?_
        simp [Kcall, KP, dR, hdoc, gs, gd, w1]
        have hS3 := hS2.setDoc (mList l cap o) hqd
        have hb3 := hbd (mList l cap o) qd
        rw [hm] at hS3 hb3
        exact Kloop_normal ⟨i + 1, _, LS ++ vs, _, by omega, hln, hS3, hb3, fr_intro (by simp)⟩ (by simp; omega)
      · have hm : mList l cap o = l := by unfold mList; rw [if_neg c2, if_neg c3]
        have e2 : (o.kind % 4 == 2) = false := beq_eq_false_iff_ne.2 c2
        have e3 : (o.kind % 4 == 3) = false := beq_eq_false_iff_ne.2 c3
        simp [Kcall, KP, e2, e3, w1]
        rw [hm] at hS2
        exact Kloop_normal ⟨i + 1, l, LS ++ vs, _, by omega, hln, hS2, hn2, fr_intro (by simp)⟩ (by simp; omega)
  · have hn4 : LS.length ≤ 4194304 := by omega
    have hS1 := hS
    clear hS hLS
    simp [h1, rowsK_len]
    refine VL_go (m2I H r cap b l L1 LS) (fun fr _ => LS.length - (ai (aget fr 86)).toNat) ⟨0, by omega, hS1.wk (fun i e j y _ _ _ h => by omega), hBK, fr_intro (by simp)⟩ ?_
    clear hS1 hBK w1
    rintro fr K ⟨i, hi2, hS, hBK, x, rfl⟩
    have w1 : IntKind.i64.wrap ((i : Int) + 1) = i + 1 := wrap_in (by omega) (by omega)
    by_cases h2 : i < LS.length
    · obtain ⟨e, he⟩ : ∃ e, LS[i]? = some e := ⟨_, List.getElem?_eq_getElem h2⟩
      have hat := rowsK_at he
      obtain ⟨hbe, hen⟩ := hS.bx i e he
      obtain ⟨vf, vo, vd, vb⟩ := hbe.facts
      have hvl : ∀ t, (tsl Try.prog t).isSome = true → alen Try.prog t e.v = some (.int .i64 e.n) := fun t h => hbe.alen h
      simp [-alen, hvl, h2, hat, vd]
      refine VL_go (m2J H r cap b l L1 LS i e) (fun fr _ => e.n - (ai (aget fr 93)).toNat) ⟨0, by omega, hS.wk (fun i' e' j y _ _ hc h => hc (by omega)), hBK, fr_intro (by simp)⟩ ?_
      clear hS hbe vf vo vb hBK hvl
      rintro fr K ⟨j, hj, hS, hBK, x, rfl⟩
      have w2 : IntKind.i64.wrap ((j : Int) + 1) = j + 1 := wrap_in (by omega) (by omega)
      by_cases h3 : j < e.n
      · have hX := (hS.bx i e he).1
        rcases id hX with ⟨h0, _⟩ | ⟨d, cc, A, hd, hee, hA, g3, g4, g5, g6, g7⟩
        · omega
        have hjl2 : j + 1 ≤ A.length := by omega
        simp [h3]
        refine rmark_pc E _ i j (by omega) (by omega) ?_
        simp [Kcall, KP, hee, h3, hA, hjl2, w2]
        rw [hee] at hX
        obtain ⟨b1, b2⟩ := hX.mark hA h3 (r := [rmk i j]) rfl (by simp [rmk]) (C' := fun m u => m < j + 1 → u = rmk i m) (fun m u hm hu hlt => by
          split at hu
          · rename_i h
            rw [show m - j * 1 = 0 by omega] at hu
            simp at hu
            rw [show m = j by omega]; exact hu.symm
          · exact hu (.inr ⟨rfl, by omega⟩))
        simp only [Nat.mul_one, List.singleton_append] at b1 b2
        rw [← hee] at b1
        have hS2 := hS.put he hee (C' := fun i' m u => i' < i ∨ (i' = i ∧ m < j + 1) → u = rmk i' m) (BX.wk b1 (fun _ h => h) (fun m u _ hc hlt => hc (by omega))) (fun i' e' he' hi' m y hm hc hlt => hc (by omega))
        exact Kloop_normal ⟨j + 1, by omega, hS2, by rw [List.length_set]; exact bndX_put hBK _ fun y hy => (b2 y hy).bnd _, fr_intro (by simp [hee])⟩ (by simp; omega)
      · simp [h3, w1]
        exact Kloop_normal ⟨i + 1, by omega, hS.wk (fun i' e' m y he' hm hc hlt => hc (by
          by_cases hii : i' = i
          · subst hii; rw [he] at he'; cases he'
            exact .inr ⟨rfl, by omega⟩
          · exact .inl (by omega))), hBK, fr_intro (by simp)⟩ (by simp; omega)
    · obtain rfl : i = LS.length := by omega
      have hS1 : PhS H K r cap b l l L1 LS M8 := hS.wk (fun i' e' m y he' _ hc => hc (ltX he'))
      have hl1 := hS1.l1
      clear hS
      simp [h2, rowsK_len]
      refine VL_nil 16 1 (by rfl) ?_
      refine VL_go (m3I H r cap b l L1 LS) (fun fr _ => LS.length - (ai (aget fr 106)).toNat) ⟨0, [], by omega, rfl, hS1, by intro i' g e hg; simp at hg, hBK, fr_intro (by simp [rowsK])⟩ ?_
      clear hS1 hBK w1 hl1
      rintro fr K ⟨i, GS, hi3, hGl, hS, hG, hBK, x, rfl⟩
      have w1 : IntKind.i64.wrap ((i : Int) + 1) = i + 1 := wrap_in (by omega) (by omega)
      by_cases h4 : i < LS.length
      · obtain ⟨e, he⟩ : ∃ e, LS[i]? = some e := ⟨_, List.getElem?_eq_getElem h4⟩
        have hat := rowsK_at he
        obtain ⟨hbe, hen⟩ := hS.bx i e he
        obtain ⟨vf, vo, vd, vb⟩ := hbe.facts
        simp [h4, hat, vd]
        refine VL_go (m3J H r cap b l L1 LS GS i e K.length) (fun fr _ => 17 - (ai (aget fr 112)).toNat) ⟨0, e.v, by omega, hS, fun i' g e' hg he' => ?_, ?_, hS.l1, Nat.le_refl _, hBK, fr_intro (by simp)⟩ ?_
        · obtain ⟨g1, g2⟩ := hG i' g e' hg he'
          exact ⟨g1, g2.of_eq (fun _ _ _ _ _ _ => rfl) (fun d _ _ _ _ ee => by
            have := g2.lt _ _ _ _ _ ee
            exact ⟨this.1.1, this.1.2.1, this.1.2.2, this.2⟩) (fun _ _ _ _ h => h)⟩
        · exact hbe.of_eq (fun _ _ _ _ _ _ => rfl) (fun d o n c k ee => by
            have := hbe.lt _ _ _ _ _ ee
            exact ⟨this.1.1, this.1.2.2, .inr ⟨o, n, c, k, ee⟩⟩) (fun m u hm _ _ hlt => by omega)
        obtain ⟨Ki, hKi0⟩ : ∃ Ki, K.length = Ki := ⟨_, rfl⟩
        rw [hKi0]
        clear hS hG hbe vf vo vb hBK hKi0
        rintro fr K ⟨y, gv, hy, hS, hG, hv, hLi, hKi, hBK, x, rfl⟩
        have wy : IntKind.i64.wrap ((y : Int) + 1) = y + 1 := wrap_in (by omega) (by omega)
        have w101 : IntKind.i64.wrap ((i : Int) + 101) = i + 101 := wrap_in (by omega) (by omega)
        have hbl := hS.blt
        have hnr : ∀ d, K.length ≤ d → ¬ inR r d := fun d hd hin => by
          obtain ⟨q, hq⟩ := hS.ring
          have := inR_lt hq hin
          omega
        have hz : ∀ n, (List.replicate n [AV.int .u8 0]).flatten = List.replicate n (AV.int .u8 0) := fun n => by simp
        by_cases h5 : y < 17
        · have h17 : (y : Int) < 17 := by omega
          obtain ⟨q, hq⟩ : ∃ q, e.n + y = q := ⟨_, rfl⟩
          have hq1 : e.n + (y + 1) = q + 1 := by omega
          rw [hq] at hv
          have m1 : q + 1 ≤ maxLen := by unfold maxLen; omega
          have m2 : q + 1 ≤ 140737488355328 := by omega
          have hCC : ∀ m u, m < (q + 1) * 1 → (if q * 1 ≤ m then ([rgr i] : List AV)[m - q * 1]? = some u else (e.n ≤ m → u = rgr i)) → e.n ≤ m → u = rgr i := fun m u hm hu he' => by
            split at hu
            · rw [show m - q * 1 = 0 by omega] at hu
              simp at hu; exact hu.symm
            · exact hu he'
          have hnew : b < K.length ∧ ¬ inR r K.length ∧ (Ki ≤ K.length ∨ ∃ o n c k, e.v = .bx K.length o n c k) := ⟨hbl, hnr _ (Nat.le_refl _), .inl hKi⟩
          rcases id hv with ⟨h0, rfl⟩ | ⟨vi, vc, A, hvi, rfl, hA, g3, g4, g5, g6, g7⟩
          · subst h0
            have m0 : 1 ≤ maxLen := by unfold maxLen; omega
            simp [h17, m0, w101, rgz_eq]
            refine VGrow_intro fun cc hc1 hc2 => ?_
            simp [wy]
            obtain ⟨b1, b2⟩ := BX.grow (K := K) (G := fun d => b < d ∧ ¬ inR r d ∧ (Ki ≤ d ∨ ∃ o n c k, e.v = .bx d o n c k)) (n := 0) (k := 1) (C := fun m u => e.n ≤ m → u = rgr i) (C' := fun m u => e.n ≤ m → u = rgr i) (c' := cc) (L := []) (r := [rgr i]) (z := [.int .u8 0]) (by simp) (by simp) (fun _ _ h => by omega) (by omega) hc2 hnew rfl (by simp [rgr]) rfl (by simp) hCC
            simp only [List.nil_append, List.singleton_append, Nat.zero_add, hz] at b1 b2
            exact Kloop_normal ⟨y + 1, _, by omega, hS.app _, hG.app _, by rw [hq1]; exact b1, hLi, by simp; omega, bndX_app (bndX_up hBK (by simp)) fun X hX z hzz => by simp only [List.mem_cons, List.not_mem_nil, or_false] at hX; subst hX; exact (b2 z hzz).bnd _, fr_intro (by simp)⟩ (by simp; omega)
          · have hfree : (∀ y ∈ A.take q, y.free = true) = True := eq_true fun y hy => (g6 y (List.mem_of_mem_take hy)).free
            have hA1 : q ≤ A.length := by omega
            by_cases hroom : q + 1 ≤ vc
            · have hA3 : q + 1 ≤ A.length := by omega
              simp [h17, hA, hfree, hroom, hA1, hA3, wy, w101, rgz_eq]
              obtain ⟨b1, b2⟩ := hv.room hA hroom (r := [rgr i]) rfl (by simp [rgr]) (C' := fun m u => e.n ≤ m → u = rgr i) hCC
              simp only [Nat.mul_one, List.singleton_append] at b1 b2
              have hlen : (A.take q ++ rgr i :: A.drop (q + 1)).length = A.length := by simp; omega
              have hS2 : PhS H (K.set vi (A.take q ++ rgr i :: A.drop (q + 1))) r cap b l l L1 LS M8 := by
                rcases hvi.2.2 with hge | ⟨o, n, c', k', hee⟩
                · exact hS.putOut (by omega) hvi.2.1 hvi.1 _
                · exact hS.put he hee ((hS.bx i e he).1.keepPre8 hA hlen b2 (fun m hm => by rw [List.getElem?_append_left (by rw [List.length_take]; omega), List.getElem?_take_of_lt (by omega)])) (fun _ _ _ _ _ _ _ hc => hc)
              have hG2 : GrS (K.set vi (A.take q ++ rgr i :: A.drop (q + 1))) r b LS GS (fun d => Frl LS i d ∧ d < Ki) := hG.put (fun d hd => by
                rcases hvi.2.2 with hge | ⟨o, n, c', k', hee⟩
                · omega
                · exact hd.1 i e vi o n c' k' (Nat.le_refl _) he hee) _
              exact Kloop_normal ⟨y + 1, _, by omega, hS2, hG2, by rw [hq1]; exact b1, hLi, by simpa using hKi, by rw [List.length_set]; exact bndX_put hBK _ fun y hy => (b2 y hy).bnd _, fr_intro (by simp)⟩ (by simp; omega)
            · simp [h17, hA, hfree, hroom, hA1, m1, m2, w101, rgz_eq]
              refine VGrow_intro fun cc hc1 hc2 => ?_
              simp [wy]
              obtain ⟨a1, a2, a3, a4, a5, a6, a7, a8, a9⟩ := hv.cells hA
              obtain ⟨b1, b2⟩ := BX.grow (K := K) (G := fun d => b < d ∧ ¬ inR r d ∧ (Ki ≤ d ∨ ∃ o n c k, e.v = .bx d o n c k)) (n := q) (k := 1) (C := fun m u => e.n ≤ m → u = rgr i) (C' := fun m u => e.n ≤ m → u = rgr i) (c' := cc) (L := A.take (q * 1)) (r := [rgr i]) (z := [.int .u8 0]) a1 (fun y hy => a2 y (List.mem_of_mem_take hy)) a8 hc1 hc2 hnew rfl (by simp [rgr]) rfl (by simp) hCC
              simp only [Nat.mul_one, List.singleton_append, hz] at b1 b2
              exact Kloop_normal ⟨y + 1, _, by omega, hS.app _, hG.app _, by rw [hq1]; exact b1, hLi, by simp; omega, bndX_app (bndX_up hBK (by simp)) fun X hX z hzz => by simp only [List.mem_cons, List.not_mem_nil, or_false] at hX; subst hX; exact (b2 z hzz).bnd _, fr_intro (by simp)⟩ (by simp; omega)
        · obtain rfl : y = 17 := by omega
          obtain ⟨vf, vo, vd2, vb⟩ := hv.facts
          have m1 : GS.length + 1 ≤ maxLen := by unfold maxLen; omega
          have m2 : (GS.length + 1) * 24 ≤ 140737488355328 := by omega
          have hsn := rowsK_snoc GS ⟨gv, e.n + 17⟩
          simp only at hsn
          simp [vd2, vf, -acells, hv.acells, show List.range 1 = [0] from rfl, rowsK_len, m1, m2, hsn, w1]
          refine Kloop_normal ⟨i + 1, GS ++ [⟨gv, e.n + 17⟩], by omega, by simp [hGl], hS, fun i' g e' hg he' => ?_, hBK, fr_intro (by simp)⟩ (by simp; omega)
          have fr1 : ∀ d, Frl LS i d → Frl LS (i + 1) d := fun d h i' e d' o n c k hle => h i' e d' o n c k (by omega)
          by_cases hi' : i' < GS.length
          · rw [List.getElem?_append_left hi'] at hg
            obtain ⟨q1, q2⟩ := hG i' g e' hg he'
            exact ⟨q1, BX.wk q2 (fun d hd => ⟨hd.1, hd.2.1, fr1 d hd.2.2.1⟩) (fun _ _ _ h => h)⟩
          · have hgl := ltX hg
            simp at hgl
            obtain rfl : i' = GS.length := by omega
            rw [List.getElem?_append_right (by omega)] at hg
            simp at hg
            subst hg
            rw [hGl] at he' ⊢
            rw [he] at he'; cases he'
            refine ⟨rfl, BX.wk hv (fun d hd => ⟨hd.1, hd.2.1, fun i' e2 d' o n c k hle he2 hv2 => ?_⟩) (fun _ _ _ h => h)⟩
            rcases hd.2.2 with hge | ⟨o', n', c', k', hee⟩
            · have := ((hS.bx i' e2 he2).1.lt _ _ _ _ _ hv2).1
              omega
            · exact hS.ne he he2 (by omega) hee hv2
      · obtain rfl : i = LS.length := by omega
        simp [h4, rowsK_len]
        refine VL_go (m4I r b LS GS K) (fun fr _ => LS.length - (ai (aget fr 128)).toNat) ⟨rfl, 0, by omega, fr_intro (by simp)⟩ ?_
        have hG' := hG
        clear hG
        rintro fr K2 ⟨rfl, i, hi5, x, rfl⟩
        have w1 : IntKind.i64.wrap ((i : Int) + 1) = i + 1 := wrap_in (by omega) (by omega)
        have w101 : IntKind.i64.wrap ((i : Int) + 101) = i + 101 := wrap_in (by omega) (by omega)
        by_cases h6 : i < LS.length
        · obtain ⟨e, he⟩ : ∃ e, LS[i]? = some e := ⟨_, List.getElem?_eq_getElem h6⟩
          obtain ⟨g, hg⟩ : ∃ g, GS[i]? = some g := ⟨_, List.getElem?_eq_getElem (by omega)⟩
          have hat := rowsK_at he
          have hat2 := rowsK_at hg
          obtain ⟨hbe, hen⟩ := hS.bx i e he
          obtain ⟨hgn, hbg⟩ := hG' i g e hg he
          obtain ⟨vf, vo, vd, vb⟩ := hbe.facts
          obtain ⟨gf, go, gd, gb⟩ := hbg.facts
          have hvl : ∀ t, (tsl Try.prog t).isSome = true → alen Try.prog t e.v = some (.int .i64 e.n) := fun t h => hbe.alen h
          have hgl : ∀ t, (tsl Try.prog t).isSome = true → alen Try.prog t g.v = some (.int .i64 g.n) := fun t h => hbg.alen h
          simp [-alen, hvl, h6, hat, vd]
          refine VL_go (m4J r b LS GS K2 i e) (fun fr _ => e.n - (ai (aget fr 135)).toNat) ⟨rfl, 0, by omega, fr_intro (by simp)⟩ ?_
          rintro fr K3 ⟨rfl, j, hj, x, rfl⟩
          have w2 : IntKind.i64.wrap ((j : Int) + 1) = j + 1 := wrap_in (by omega) (by omega)
          by_cases h7 : j < e.n
          · rcases id hbe with ⟨h0, _⟩ | ⟨d, cc, A, hd, hee, hA, g3, g4, g5, g6, g7⟩
            · omega
            have hjl2 : j + 1 ≤ A.length := by omega
            have hAj : A[j]? = some (.int .u8 (rmz i j)) := by
              have q := List.getElem?_eq_getElem (show j < A.length by omega)
              rw [q]; exact congrArg some (g7 j _ (by omega) q)
            simp [h7, hee, hA, hAj, hjl2]
            refine rmark_pc E _ i j (by omega) (by omega) ?_
            simp [Kcall, KP, w2]
            exact Kloop_normal ⟨rfl, j + 1, by omega, fr_intro (by simp [hee])⟩ (by simp; omega)
          · simp [-alen, hgl, h7, hat2, gd]
            refine VL_go (m4K r b LS GS K3 i e g) (fun fr _ => g.n - (ai (aget fr 151)).toNat) ⟨rfl, 0, by omega, fr_intro (by simp)⟩ ?_
            rintro fr K4 ⟨rfl, y, hy, x, rfl⟩
            have wy : IntKind.i64.wrap ((y : Int) + 1) = y + 1 := wrap_in (by omega) (by omega)
            by_cases h8 : y < g.n
            · rcases id hbg with ⟨h0, _⟩ | ⟨d, cc, A, hd, hee, hA, g3, g4, g5, g6, g7⟩
              · omega
              have hjl2 : y + 1 ≤ A.length := by omega
              have q := List.getElem?_eq_getElem (show y < A.length by omega)
              by_cases h9 : e.n ≤ y
              · have hAj : A[y]? = some (.int .u8 (rgz i)) := by
                  rw [q]; exact congrArg some (g7 y _ (by omega) q h9)
                clear q
                simp [-alen, hvl, vd, h8, hee, hA, hAj, hjl2, h9, w101, rgz_eq, wy]
                exact Kloop_normal ⟨rfl, y + 1, by omega, fr_intro (by simp [hee])⟩ (by simp; omega)
              · obtain ⟨u, hu⟩ : ∃ u, A[y] = u := ⟨_, rfl⟩
                have hsu := g6 u (List.mem_of_getElem? (q.trans (congrArg some hu)))
                have hAj : A[y]? = some u := q.trans (congrArg some hu)
                have hud := hsu.dis
                have huf := hsu.free
                clear q hu
                simp [-alen, hvl, vd, h8, hee, hA, hAj, hud, huf, hjl2, h9, wy]
                exact Kloop_normal ⟨rfl, y + 1, by omega, fr_intro (by simp [hee])⟩ (by simp; omega)
            · simp [h8, w1]
              exact Kloop_normal ⟨rfl, i + 1, by omega, fr_intro (by simp)⟩ (by simp; omega)
        · obtain ⟨q, hr⟩ := hS.ring
          obtain ⟨qd, _, hdoc⟩ := hS.doc
          have hfit := hr.fits
          have hm2 : l.length ≤ maxLen := by unfold maxLen; omega
          have hpk : peekB l 0 l.length = l := by rw [peekB, if_neg (by omega)]; simp
          simp [h6]
          refine nlen_pc E _ hr ?_
          simp [Kcall, KP, preH_refl]
          refine npeekS_pc E _ hBK hr 0 l.length (by omega) (by omega) (by omega) (by omega) ?_
          rw [hpk]
          simp [Kcall, KP, preH_refl, hdoc]
          refine lsame_pc E _ _ _ _ l l hm2 hm2 ?_
          simp [Kcall, KP, preH_refl]
          refine nlen_pc E _ hr ?_
          simp [Kcall, KP, preH_refl, hdoc]
          exact aPost_lawX hB hS.kp.1 hS.kp.2 rfl (by simp) hQ
theorem rmem_true (W : World) (c : Int) (bo : Option Addr) (len cap : Nat) (rows : List (List AV)) (r0 : -9223372036854775808 ≤ c ∧ c ≤ 9223372036854775807) (hr : Rel W (fun _ => 0) (old W) (.sl false 4 rows) (.slice bo len cap)) (hn : Bnd 0 (.sl false 4 rows))
    (hk : ∀ r ∈ rows, r.length = 4 ∧ ∀ (j : Nat) k y, rgK[j]? = some k → r[j]? = some y → KindOf k y) (e : rows.length = len) (hb : wtA rows.flatten + len ≤ 1048576) :
    Calls Try.prog 9 #[.int .i64 c, .slice bo len cap] W fun e w' => e = .returned (.bool true) ∧ Frm (fun _ => False) W w' := by
  obtain ⟨sc, rfl, hs⟩ := rops_of_rows rows hk (by omega)
  rw [rops_len] at e
  refine calls_of_pc (args := [.int .i64 c, .sl false 4 (rops sc)]) (old W) (fun _ _ h => h) rfl (fun t x u hx hu => ?_) (fun E Q h => rmem_pc E Q c sc (by omega) hs h)
  match t with
  | 0 => simp at hx hu; subst hx; subst hu; exact ⟨.int _ _, .int _ _, rfl⟩
  | 1 => simp at hx hu; subst hx; subst hu; exact ⟨hr, hn, rfl⟩
  | t + 2 => simp at hx
end
end Go.Proofs.Ytgofogcfolhonaa

