/- The document's Find and New, and the law's own functions, in the abstract machine. -/
import Derived.Test.YtgofogcfolhonaaRingD
import Derived.Lib.IndexMore
set_option linter.unusedVariables false
set_option linter.unusedSimpArgs false
set_option linter.unusedSectionVars false
set_option maxRecDepth 100000
namespace Go.Proofs.Ytgofogcfolhonaa
open Go Go.RowKit

theorem occ_iff (l p : List UInt8) (a : Nat) : Lib.occAt l p a = true ↔ ∀ j, j < p.length → l[a + j]? = p[j]? := by
  unfold Lib.occAt
  rw [List.isPrefixOf_iff_prefix, List.prefix_iff_getElem?]
  constructor
  · intro h j hj
    have := h j hj
    rw [List.getElem?_drop] at this
    rw [this, List.getElem?_eq_getElem hj]
  · intro h j hj
    rw [List.getElem?_drop, h j hj, List.getElem?_eq_getElem hj]
theorem occ_room (l p : List UInt8) (a : Nat) (ha : a ≤ l.length) (h : Lib.occAt l p a = true) : a + p.length ≤ l.length := by
  rw [occ_iff] at h
  by_cases hp : p.length = 0
  · omega
  · have := h (p.length - 1) (by omega)
    rw [List.getElem?_eq_getElem (by omega : p.length - 1 < p.length)] at this
    have := (List.getElem?_eq_some_iff.1 this).1
    omega
theorem occ_drop (l p : List UInt8) (f i : Nat) : Lib.occAt (l.drop f) p i = Lib.occAt l p (f + i) := by unfold Lib.occAt; rw [List.drop_drop]
theorem findL_hit (l p : List UInt8) (f i : Nat) (h1 : f ≤ i) (h2 : i ≤ l.length) (ho : Lib.occAt l p i = true) (hn : ∀ j, f ≤ j → j < i → Lib.occAt l p j = false) : findL l p f = i := by
  have : Lib.index (l.drop f) p = ((i - f : Nat) : Int) := Lib.index_first (by rw [List.length_drop]; omega) (by rw [occ_drop, show f + (i - f) = i by omega]; exact ho) (fun j hj => by rw [occ_drop]; exact hn _ (by omega) (by omega))
  unfold findL
  rw [this, if_neg (by omega)]; omega
theorem findL_none (l p : List UInt8) (f : Nat) (hf : f ≤ l.length) (hn : ∀ j, f ≤ j → j ≤ l.length → Lib.occAt l p j = false) : findL l p f = -1 := by
  have : Lib.index (l.drop f) p = -1 := Lib.index_none (fun j hj => by rw [occ_drop]; rw [List.length_drop] at hj; exact hn _ (by omega) (by omega))
  unfold findL
  rw [this, if_pos (by omega)]

def stInv (H : Hp) (l p : List UInt8) (a : Nat) (fr : List AV) (H' : Hp) : Prop := H' = H ∧ ∃ i : Nat, i ≤ p.length ∧ (∀ j, j < i → l[a + j]? = p[j]?) ∧ ∃ x : Nat → AV, fr = [.sl false 1 (bts l), .sl false 1 (bts p), .int .i64 a, x 3, x 4, x 5, x 6, .int .i64 i, x 8, x 9, x 10, x 11, x 12, x 13, x 14, x 15, x 16, x 17, x 18, x 19, x 20, x 21, x 22, x 23, x 24, x 25, x 26, x 27, x 28, x 29, x 30, x 31]
theorem dstands_pc (E : Env) (H : Hp) (l p : List UInt8) (a : Nat) (Q : AV → Hp → Prop) (hl : l.length ≤ 1048576) (hp : p.length ≤ 140737486258176) (ha : a ≤ l.length) (hQ : Q (.bool (Lib.occAt l p a)) H) :
    PC Try.prog E 87 [.sl false 1 (bts l), .sl false 1 (bts p), .int .i64 a] H Q := by
  refine pc_enter Try.func87 rfl [] [] (by kernel_rfl) (fun hB => ?_)
  have hw : IntKind.i64.wrap ((a : Int) + p.length) = a + p.length := wrap_in (by omega) (by omega)
  simp [Try.ntmps87, Try.results87, List.replicate_succ, hw]
  by_cases hb : l.length < a + p.length
  · have hb' : (l.length : Int) < a + p.length := by omega
    have : Lib.occAt l p a = false := Bool.eq_false_iff.2 fun h => by have := occ_room l p a ha h; omega
    rw [this] at hQ
    simp [hb']
    exact aPost_same0 hB rfl (nilV_refl _) (by simp) hQ
  · have hb' : ¬ (l.length : Int) < a + p.length := by omega
    simp [hb']
    refine VL_go (stInv H l p a) (fun fr _ => p.length - (ai (aget fr 7)).toNat) ⟨rfl, 0, by omega, (fun j hj => by omega), fr_intro (by simp)⟩ ?_
    rintro fr H' ⟨rfl, i, hi, hm, x, rfl⟩
    by_cases h : i < p.length
    · obtain ⟨y, hy⟩ : ∃ y, p[i]? = some y := ⟨_, List.getElem?_eq_getElem h⟩
      obtain ⟨z, hz⟩ : ∃ z, l[a + i]? = some z := ⟨_, List.getElem?_eq_getElem (by omega)⟩
      have hy2 := bts_at p _ y hy
      have hz2 := bts_at l _ z hz
      have hw1 : IntKind.i64.wrap ((i : Int) + 1) = i + 1 := wrap_in (by omega) (by omega)
      have hw2 : IntKind.i64.wrap ((a : Int) + i) = ((a + i : Nat) : Int) := by rw [wrap_in (by omega) (by omega)]; omega
      simp [h, hy2, hz2, hw2, -Int.natCast_add]
      by_cases he : z = y
      · subst he
        simp [hw1]
        refine Kloop_normal ?_ ?_
        rotate_left
        · simp; omega
        refine ⟨rfl, i + 1, by omega, fun j hj => ?_, fr_intro (by simp)⟩
        by_cases hji : j < i
        · exact hm j hji
        · obtain rfl : j = i := by omega
          rw [hy, hz]
      · have hne : ¬ (z.toNat : Int) = y.toNat := fun e => he (UInt8.toNat_inj.1 (by omega))
        have : Lib.occAt l p a = false := Bool.eq_false_iff.2 fun hh => by
          have := (occ_iff l p a).1 hh i h
          rw [hy, hz] at this
          exact he (Option.some.inj this)
        rw [this] at hQ
        have hne2 : ((z.toNat : Int) == (y.toNat : Int)) = false := beq_eq_false_iff_ne.2 hne
        simp [bne, hne2]
        exact aPost_same0 hB rfl (nilV_refl _) (by simp) hQ
    · have : Lib.occAt l p a = true := (occ_iff l p a).2 fun j hj => hm j (by omega)
      rw [this] at hQ
      simp [h]
      exact aPost_same0 hB rfl (nilV_refl _) (by simp) hQ
def fdInv (H : Hp) (cap q f : Nat) (l p : List UInt8) (fr : List AV) (H' : Hp) : Prop := H' = H ++ [[.int .i64 cap, .sl false 1 (bts l), .int .i64 q]] ∧ ∃ i : Nat, f ≤ i ∧ i ≤ l.length + 1 ∧ (∀ j, f ≤ j → j < i → Lib.occAt l p j = false) ∧
  ∃ x : Nat → AV, fr = [x 0, .sl false 1 (bts p), x 2, .ptr (some (H.length, 0)), x 4, x 5, x 6, .int .i64 i, x 8, x 9, x 10, x 11, x 12, x 13, x 14, x 15, x 16, x 17, x 18, x 19, x 20, x 21, x 22, x 23, x 24, x 25, x 26, x 27, x 28]
theorem dfind_pc (E : Env) (H : Hp) (cap q : Nat) (l p : List UInt8) (Q : AV → Hp → Prop) (h1 : cap ≤ 1048576) (h2 : l.length ≤ cap) (hp : p.length ≤ 140737486258176) (i : Int) (hi : i ≤ 9223372036854775807)
    (hQ1 : 0 ≤ i → i ≤ l.length → cap ≠ 0 → Q (.int .i64 (findL l p i.toNat)) H) (hQ2 : i < 0 ∨ (l.length : Int) < i ∨ cap = 0 → Q (.int .i64 (-1)) H) :
    PC Try.prog E 74 [dR cap l q, .sl false 1 (bts p), .int .i64 i] H Q := by
  refine pc_enter Try.func74 rfl [] [] (by kernel_rfl) (fun hB => ?_)
  by_cases b1 : i < 0
  · simp [Try.ntmps74, Try.results74, List.replicate_succ, dR, b1]
    exact aPost_same hB (by simp) (nilV_refl _) (by simp) (hQ2 (.inl b1))
  · by_cases b2 : cap = 0
    · subst b2
      simp [Try.ntmps74, Try.results74, List.replicate_succ, dR, b1]
      exact aPost_same hB (by simp) (nilV_refl _) (by simp) (hQ2 (.inr (.inr rfl)))
    · have b2' : ((cap : Int) == 0) = false := by simp; omega
      simp [Try.ntmps74, Try.results74, List.replicate_succ, dR, b1, b2']
      obtain ⟨f, rfl⟩ : ∃ f : Nat, i = f := ⟨i.toNat, by omega⟩
      by_cases b3 : l.length < f
      · refine VL_go (fun fr H' => H' = H ++ [[.int .i64 cap, .sl false 1 (bts l), .int .i64 q]] ∧ ∃ x : Nat → AV, fr = [x 0, x 1, x 2, .ptr (some (H.length, 0)), x 4, x 5, x 6, .int .i64 f, x 8, x 9, x 10, x 11, x 12, x 13, x 14, x 15, x 16, x 17, x 18, x 19, x 20, x 21, x 22, x 23, x 24, x 25, x 26, x 27, x 28]) (fun _ _ => 0) ⟨rfl, fr_intro (by simp)⟩ ?_
        rintro fr H' ⟨rfl, x, rfl⟩
        have b4 : ¬ f ≤ l.length := by omega
        simp [b4]
        exact aPost_same hB (by simp) (nilV_refl _) (by simp) (hQ2 (.inr (.inl (by omega))))
      · have hQ := hQ1 (by omega) (by omega) b2
        simp only [Int.toNat_natCast] at hQ
        refine VL_go (fdInv H cap q f l p) (fun fr _ => l.length + 1 - (ai (aget fr 7)).toNat) ⟨rfl, f, Nat.le_refl _, by omega, (fun j hj hj2 => by omega), fr_intro (by simp)⟩ ?_
        rintro fr H' ⟨rfl, i, hi1, hi2, hm, x, rfl⟩
        by_cases h : i ≤ l.length
        · have hw1 : IntKind.i64.wrap ((i : Int) + 1) = i + 1 := wrap_in (by omega) (by omega)
          simp [h]
          refine dstands_pc E _ l p i _ (by omega) hp h ?_
          cases ho : Lib.occAt l p i with
          | true =>
            rw [findL_hit l p f i hi1 h ho hm] at hQ
            simp
            exact aPost_same hB (by simp) (nilV_refl _) (by simp) hQ
          | false =>
            simp [hw1]
            refine Kloop_normal ?_ ?_
            rotate_left
            · simp; omega
            refine ⟨rfl, i + 1, by omega, by omega, fun j hj hj2 => ?_, fr_intro (by simp)⟩
            by_cases hji : j < i
            · exact hm j hj hji
            · obtain rfl : j = i := by omega
              exact ho
        · rw [findL_none l p f (by omega) (fun j hj hj2 => hm j hj (by omega))] at hQ
          simp [h]
          exact aPost_same hB (by simp) (nilV_refl _) (by simp) hQ
theorem dnew_pc (E : Env) (H : Hp) (Q : AV → Hp → Prop) (c : Int) (hQ1 : 1 ≤ c → c ≤ 1048576 → Q (.tup [.agg [.int .i64 c, .nil, .int .i64 0], .int .i64 0]) H) (hQ2 : c < 1 ∨ 1048576 < c → Q (.tup [.agg [.int .i64 0, .nil, .int .i64 0], .int .i64 20]) H) :
    PC Try.prog E 61 [.int .i64 c] H Q := by
  refine pc_enter Try.func61 rfl [] [] (by kernel_rfl) (fun hB => ?_)
  by_cases b1 : c < 1
  · simp [Try.ntmps61, Try.results61, List.replicate_succ, b1]
    exact aPost_same hB (by simp) (nilV_refl _) (by simp) (hQ2 (.inl b1))
  · by_cases b2 : 1048576 < c
    · simp [Try.ntmps61, Try.results61, List.replicate_succ, b1, b2]
      exact aPost_same hB (by simp) (nilV_refl _) (by simp) (hQ2 (.inr b2))
    · simp [Try.ntmps61, Try.results61, List.replicate_succ, b1, b2]
      exact aPost_same hB (by simp) (nilV_refl _) (by simp) (hQ1 (by omega) (by omega))
/-- .. same. -/
theorem lsame_pc (E : Env) (H : Hp) (Q : AV → Hp → Prop) (a b : Bool) (k m : List UInt8) (hk : k.length ≤ maxLen) (hm : m.length ≤ maxLen) (hQ : Q (.bool (k == m)) H) : PC Try.prog E 40 [.sl a 1 (bts k), .sl b 1 (bts m)] H Q := by
  refine pc_enter Try.func40 rfl [] [] (by kernel_rfl) (fun hB => ?_)
  cases a <;> cases b <;> simp [Try.ntmps40, Try.results40, List.replicate_succ, hk, hm]
  all_goals exact aPost_same0 hB rfl (nilV_refl _) (by simp) hQ
theorem lkind_pc (E : Env) (H : Hp) (Q : AV → Hp → Prop) (k n : Int) (hn : 1 ≤ n) (hn2 : n ≤ 2305843009213693952) (hk1 : -9223372036854775808 ≤ k) (hk2 : k ≤ 9223372036854775807) (hQ : Q (.int .i64 (k % n)) H) : PC Try.prog E 21 [.int .i64 k, .int .i64 n] H Q := by
  refine pc_enter Try.func21 rfl [] [] (by kernel_rfl) (fun hB => ?_)
  have p := kind_plain k n hn
  have hz : ¬ n = 0 := by omega
  have b1 := Int.lt_tmod_of_pos k (by omega : (0 : Int) < n)
  have b2 := Int.tmod_lt_of_pos k (by omega : (0 : Int) < n)
  have w1 : IntKind.i64.wrap (k.tmod n) = k.tmod n := wrap_in (by omega) (by omega)
  have w2 : IntKind.i64.wrap (k.tmod n + n) = k.tmod n + n := wrap_in (by omega) (by omega)
  have b3 := Int.emod_lt_of_pos k (by omega : (0 : Int) < n)
  have b4 := Int.emod_nonneg k hz
  have w3 : IntKind.i64.wrap (k % n) = k % n := wrap_in (by omega) (by omega)
  simp [Try.ntmps21, Try.results21, List.replicate_succ, hz, w1, w2, p, w3]
  exact aPost_same0 hB rfl (nilV_refl _) (by simp) hQ
def mk3 : List UInt8 := [201, 202, 203]
theorem mk3_app (p : List UInt8) : bts p ++ [[AV.int .u8 201], [AV.int .u8 202], [AV.int .u8 203]] = bts (p ++ mk3) := by simp [bts, mk3]
theorem lcopied_pc (E : Env) (H : Hp) (Q : AV → Hp → Prop) (p : List UInt8) (hp : p.length ≤ 140737486258176) (hQ : Q (.tup [.sl false 1 (bts p), .sl false 1 (bts (p ++ mk3))]) H) : PC Try.prog E 68 [.sl false 1 (bts p)] H Q := by
  refine pc_enter Try.func68 rfl [5, 7] [] (by kernel_rfl) (fun hB => ?_)
  have htk : (bts (p ++ mk3)).take p.length = bts p := by rw [← bts_app]; exact List.take_left' (bts_len p)
  have hr3 : (([0, 1, 2] : List Nat) = List.range 3) = True := eq_true (by decide)
  have hm1 : p.length ≤ maxLen := by unfold maxLen; omega
  have hm2 : p.length ≤ 140737488355328 := by omega
  have hm3 : p.length + 3 ≤ maxLen := by unfold maxLen; omega
  have hm4 : p.length + 3 ≤ 140737488355328 := by omega
  simp [Try.ntmps68, Try.results68, List.replicate_succ, hm1, hm2, hm3, hm4, hr3, mk3_app, htk]
  exact aPost_same0 hB rfl (nilV_refl _) (by simp) hQ
theorem lwhole_pc (E : Env) (H : Hp) (Q : AV → Hp → Prop) (p : List UInt8) (hp : p.length ≤ 140737486258176) (hQ : Q (.bool true) H) : PC Try.prog E 78 [.sl false 1 (bts (p ++ mk3)), .sl false 1 (bts p)] H Q := by
  refine pc_enter Try.func78 rfl [6, 8] [] (by kernel_rfl) (fun hB => ?_)
  have htk : (bts (p ++ mk3)).take p.length = bts p := by rw [← bts_app]; exact List.take_left' (bts_len p)
  have hr3 : (([0, 1, 2] : List Nat) = List.range 3) = True := eq_true (by decide)
  have hm1 : p.length ≤ maxLen := by unfold maxLen; omega
  have hm2 : p.length ≤ 140737488355328 := by omega
  have hm3 : p.length + 3 ≤ maxLen := by unfold maxLen; omega
  have hm4 : p.length + 3 ≤ 140737488355328 := by omega
  simp [Try.ntmps78, Try.results78, List.replicate_succ, hm1, hm2, hm3, hm4, hr3, mk3_app, htk]
  have hl : (p ++ mk3).length ≤ maxLen := by simp [mk3]; omega
  refine lsame_pc E _ _ _ _ _ _ hl hl ?_
  simp
  exact aPost_same0 hB rfl (nilV_refl _) (by simp) hQ
end Go.Proofs.Ytgofogcfolhonaa
