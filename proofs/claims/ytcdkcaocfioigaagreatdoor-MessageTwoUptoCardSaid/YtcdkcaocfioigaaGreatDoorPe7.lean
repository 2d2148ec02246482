/- Part 7 of the texts below the law: the abstract machine, the functions that it walks, what they compute. -/
import Derived.Test.YtcdkcaocfioigaaGreatDoorPe6
import Derived.Lib.IndexLaws
set_option linter.unusedVariables false
set_option linter.unnecessarySimpa false
set_option linter.unusedSimpArgs false
set_option linter.unusedSectionVars false
set_option maxRecDepth 100000
namespace Go.Proofs.YtcdkcaocfioigaaGreatDoor
open Go Go.RowKit Go.Proofs

theorem index_at (l : List UInt8) (c : UInt8) (i : Nat) (h : l[i]? = some c) (hn : ∀ j, j < i → l[j]? ≠ some c) : Lib.indexByte l c = i := by
  have h1 := Lib.indexByte_ge l c
  by_cases h0 : Lib.indexByte l c = -1
  · exact absurd h (Lib.indexByte_none h0 i)
  · obtain ⟨o, ho⟩ : ∃ o : Nat, Lib.indexByte l c = o := ⟨(Lib.indexByte l c).toNat, by omega⟩
    obtain ⟨g1, g2⟩ := Lib.indexByte_some ho
    rw [ho]
    by_cases hlt : o < i
    · exact absurd g1 (hn o hlt)
    · by_cases hgt : i < o
      · exact absurd h (g2 i hgt)
      · omega
theorem index_no (l : List UInt8) (c : UInt8) (hn : ∀ j, j < l.length → l[j]? ≠ some c) : Lib.indexByte l c = -1 := by
  have h1 := Lib.indexByte_ge l c
  by_cases h0 : Lib.indexByte l c = -1
  · exact h0
  · obtain ⟨o, ho⟩ : ∃ o : Nat, Lib.indexByte l c = o := ⟨(Lib.indexByte l c).toNat, by omega⟩
    obtain ⟨g1, g2⟩ := Lib.indexByte_some ho
    exact absurd g1 (hn o (List.getElem?_eq_some_iff.1 g1).1)
theorem hex_nonneg (b : UInt8) : (0 ≤ dig b) = (isHex b = true) := by
  have h := isHex_dig b
  have hl := dig_lt b
  rw [h]
  simp only [decide_eq_true_eq, eq_iff_iff]
  omega
theorem okDigs_hex (l : List UInt8) (h : l.all isHex = true) : okDigs 16 l = true := by
  unfold okDigs
  rw [List.all_eq_true] at h ⊢
  intro b hb
  have := h b hb
  rw [isHex_dig] at this
  exact this
section
variable (E : Env) (H : Hp) (Q : AV → Hp → Prop)
def hxInv (c : UInt8) (H : Hp) (fr : List AV) (H' : Hp) : Prop := H' = H ∧ ∃ i : Nat, i ≤ 16 ∧ (∀ j, j < i → digs[j]? ≠ some (lowB c)) ∧ ∃ x : Nat → AV, fr = [.int .u8 (c.toNat : Int), x 1, x 2, .str digs, .int .i64 i, x 5, x 6, x 7, x 8, x 9, x 10, x 11, x 12, x 13, x 14, x 15, x 16, x 17, x 18, x 19]
theorem hexd_pc (c : UInt8) (hQ : Q (.int .i64 (dig c)) H) : PC Tryz.prog E 153 [.int .u8 (c.toNat : Int)] H Q := by
  refine pc_enter Tryz.func153 rfl [] [] (by kernel_rfl) (fun hB => ?_)
  have fin : ∀ z : Int, dig c = z → Q (.int .i64 z) H := fun z hz => hz ▸ hQ
  simp [Tryz.ntmps153, Tryz.results153, List.replicate_succ]
  refine VL_go (hxInv c H) (fun fr _ => 16 - (ai (aget fr 4)).toNat) ⟨rfl, 0, by omega, (fun j hj => by omega), fr_intro (by simp [digs])⟩ ?_
  rintro fr H' ⟨rfl, i, hi, hno, x, rfl⟩
  have hlen : digs.length = 16 := rfl
  by_cases h : i < 16
  · obtain ⟨d, hd⟩ : ∃ d, digs[i]? = some d := ⟨_, List.getElem?_eq_getElem (by rw [hlen]; exact h)⟩
    have h16 : (i : Int) < 16 := by omega
    have hw : IntKind.i64.wrap ((i : Int) + 1) = i + 1 := wrap_in (by omega) (by omega)
    have hbt : [[AV.int .u8 (c.toNat : Int)]] = bts [c] := by simp [bts]
    have t1 : ((i : Int) + 1).toNat = i + 1 := by omega
    have t2 : (0 : Int) ≤ i + 1 := by omega
    have t3 : (digs.drop i).take 1 = [d] := by rw [drop_at digs i d hd]; rfl
    have t4 : i + 1 ≤ 16 := by omega
    simp [h16, hw, hbt, t1, t2, t3, t4, hlen]
    refine ref_lower_pc E _ _ [c] (by simp [cap]) ?_
    have hlow : low [c] = [lowB c] := rfl
    rw [hlow]
    by_cases he : lowB c = d
    · have t5 : ([lowB c] == [d]) = true := by rw [he]; simp
      simp [t5, t3, t4, hlen, h16, hw, t1, t2]
      exact aPost_same0 hB rfl (nilV_refl _) (by simp) (fin i (index_at digs (lowB c) i (by rw [hd, he]) hno))
    · have t5 : ([lowB c] == [d]) = false := by rw [beq_eq_false_iff_ne]; intro hh; cases hh; exact he rfl
      simp [t5, t3, t4, hlen, h16, hw, t1, t2]
      refine Kloop_normal ⟨rfl, i + 1, by omega, fun j hj => ?_, fr_intro (by simp)⟩ (by simp; omega)
      by_cases hji : j < i
      · exact hno j hji
      · obtain rfl : j = i := by omega
        rw [hd]; exact fun hh => he (Option.some.inj hh).symm
  · obtain rfl : i = 16 := by omega
    simp
    exact aPost_same0 hB rfl (nilV_refl _) (by simp) (fin (-1) (index_no digs (lowB c) (fun j hj => hno j (by rw [hlen] at hj; exact hj))))
def dszInv (l : List UInt8) (H : Hp) (fr : List AV) (H' : Hp) : Prop := H' = H ∧ ∃ (k : Nat) (n : Int), k ≤ l.length ∧ (l.take k).all isHex = true ∧ 0 ≤ n ∧ n ≤ 17592186044432 ∧ (numOf 16 (l.take k) ≤ 1099511627776 → n = numOf 16 (l.take k)) ∧ (1099511627776 < numOf 16 (l.take k) → 1099511627776 < n) ∧
  ∃ x : Nat → AV, fr = [.str l, x 1, x 2, x 3, x 4, .int .i64 n, .int .i64 k, x 7, x 8, x 9, x 10, x 11, x 12, x 13, x 14, x 15, x 16, x 17, x 18, x 19, x 20, x 21, x 22, x 23, x 24, x 25, x 26, x 27, x 28, x 29, x 30, x 31, x 32, x 33, x 34, x 35, x 36, x 37, x 38, x 39, x 40, x 41, x 42, x 43, x 44, x 45, x 46, x 47, x 48, x 49, x 50, x 51, x 52, x 53, x 54, x 55, x 56, x 57, x 58, x 59, x 60, x 61]
set_option maxHeartbeats 1000000 in
theorem dsize_pc (l : List UInt8) (hl : l.length ≤ cap) (hQ : Q (.tup [.int .i64 (sizeAns l).1, .sl false 3 (prs (sizeAns l).2.1), .int .i64 (sizeAns l).2.2]) H) : PC Tryz.prog E 128 [.str l] H Q := by
  refine pc_enter Tryz.func128 rfl [] [] (by kernel_rfl) (fun hB => ?_)
  have hl' := hl
  simp only [cap] at hl'
  have bad : ∀ (fr : List AV) (e : Int), sizeAns l = (0, [], e) → aget fr 2 = .int .i64 0 → aget fr 3 = .nil → aget fr 4 = .int .i64 e → aPost Tryz.prog [ResultVar.tmp 2, ResultVar.tmp 3, ResultVar.tmp 4] H.length Q .ret fr H := fun fr e h0 h1 h2 h3 => by
    rw [h0] at hQ
    exact aPost_same0 hB (v0 := .tup [.int .i64 0, .nil, .int .i64 e]) (by simp [h1, h2, h3]) (nilV_mid 3 _ _ rfl rfl) (by simp) hQ
  by_cases hbig : 254 < l.length
  · have ha : sizeAns l = (0, [], 100) := by unfold sizeAns; rw [if_pos (.inr hbig)]
    have hbig' : (254 : Int) < l.length := by omega
    simp [Tryz.ntmps128, Tryz.results128, List.replicate_succ, hbig']
    exact bad _ 100 ha rfl rfl rfl
  · have hbig' : ¬ (254 : Int) < l.length := by omega
    simp [Tryz.ntmps128, Tryz.results128, List.replicate_succ, hbig']
    refine VL_go (dszInv l H) (fun fr _ => l.length - (ai (aget fr 6)).toNat) ⟨rfl, 0, 0, by omega, by simp, by omega, by omega, fun _ => rfl, (fun h => by simp [numOf] at h), fr_intro (by simp)⟩ ?_
    rintro fr H' ⟨rfl, k, n, hk, hall, hn0, hn1, hs1, hs2, x, rfl⟩
    have hw : IntKind.i64.wrap ((k : Int) + 1) = k + 1 := wrap_in (by omega) (by omega)
    have hcase : (∃ b, l[k]? = some b ∧ isHex b = true) ∨ (∃ b, l[k]? = some b ∧ isHex b = false) ∨ l.length ≤ k := by
      cases hb : l[k]? with
      | none => exact .inr (.inr (List.getElem?_eq_none_iff.1 hb))
      | some b =>
        cases hx : isHex b
        · exact .inr (.inl ⟨b, rfl, hx⟩)
        · exact .inl ⟨b, rfl, hx⟩
    rcases hcase with ⟨b, hb, hx⟩ | ⟨b, hb, hx⟩ | h
    · have h : k < l.length := (List.getElem?_eq_some_iff.1 hb).1
      have hat := lat_eq hb
      have hd0 : 0 ≤ dig b := by rw [hex_nonneg]; exact hx
      have hd16 := (dig_lt b).2
      have hst := numOf_step 16 l k b hb
      have hnn := numOf_nonneg 16 (by omega) (l.take k) (okDigs_hex _ hall)
      simp [h, hat]
      refine hexd_pc E _ _ b ?_
      by_cases hle : n ≤ 1099511627776
      · have hwm : IntKind.i64.wrap (16 * n) = 16 * n := wrap_in (by omega) (by omega)
        have hwa : IntKind.i64.wrap (16 * n + dig b) = 16 * n + dig b := wrap_in (by omega) (by omega)
        simp [hd0, hle, hwm, hat]
        refine hexd_pc E _ _ b ?_
        simp [hwa, hw]
        refine Kloop_normal ⟨rfl, k + 1, 16 * n + dig b, by omega, by rw [all_take isHex l k b hb, hall, hx]; rfl, by omega, by omega, fun hh => ?_, fun hh => ?_, fr_intro (by simp)⟩ (by simp; omega)
        · rw [hst] at hh ⊢
          have := hs1 (by omega)
          omega
        · rw [hst] at hh
          by_cases hh2 : numOf 16 (l.take k) ≤ 1099511627776
          · have := hs1 hh2; omega
          · have := hs2 (by omega); omega
      · simp [hd0, hle, hw]
        have hbg : 1099511627776 < numOf 16 (l.take k) := by
          by_cases hh2 : numOf 16 (l.take k) ≤ 1099511627776
          · have := hs1 hh2; omega
          · omega
        refine Kloop_normal ⟨rfl, k + 1, n, by omega, by rw [all_take isHex l k b hb, hall, hx]; rfl, hn0, hn1, fun hh => ?_, fun _ => by omega, fr_intro (by simp)⟩ (by simp; omega)
        rw [hst] at hh
        omega
    case' inr.inl =>
      have h : k < l.length := (List.getElem?_eq_some_iff.1 hb).1
      have hat := lat_eq hb
      have hd0 : ¬ 0 ≤ dig b := by rw [hex_nonneg, hx]; simp
      have hr : run isHex l = k := run_step isHex l k hall hk (fun c hc => by rw [hb] at hc; cases hc; exact hx)
      simp [h, hat]
      refine hexd_pc E _ _ b ?_
      simp [hd0, hk]
    case' inr.inr =>
      have h' : ¬ k < l.length := by omega
      have hr : run isHex l = k := run_step isHex l k hall hk (fun c hc => by have := (List.getElem?_eq_some_iff.1 hc).1; omega)
      simp [h', hk]
    all_goals
      obtain ⟨hpl, m, hm, hml⟩ := parAns_le (l.drop k)
      rw [List.length_drop] at hml hpl
      refine dparams_pc E _ _ (l.drop k) (by rw [List.length_drop]; omega) ?_
      rw [hm]
      have hw2 : IntKind.i64.wrap ((k : Int) + m) = ((k + m : Nat) : Int) := by rw [wrap_in (by omega) (by omega)]; omega
      by_cases hn0k : k = 0
      · have ha : sizeAns l = (0, [], 100) := by unfold sizeAns; rw [if_pos (.inl (by rw [hr]; exact hn0k))]
        simp [hn0k]
        exact bad _ 100 ha rfl rfl rfl
      · have e0 : ((k : Int) == 0) = false := by simp; omega
        have ha0 : sizeAns l = if (parAns (l.drop k)).2.2 ≠ 0 ∨ trimB (l.drop (k + m)) ≠ [] then (0, [], 100) else if (numAns 16 1099511627776 (l.take k)).2 ≠ 0 then (0, [], 102) else ((numAns 16 1099511627776 (l.take k)).1, (parAns (l.drop k)).1, 0) := by
          unfold sizeAns
          rw [hr, if_neg (by omega), hm, Int.toNat_natCast]
        have hna : numAns 16 1099511627776 (l.take k) = if 1099511627776 < numOf 16 (l.take k) then (0, 12) else (numOf 16 (l.take k), 0) := by
          have hne : l.take k ≠ [] := by intro e; have := congrArg List.length e; rw [List.length_take] at this; have h3 : min k l.length = 0 := this; omega
          unfold numAns
          rw [if_neg hne, if_neg (by rw [okDigs_hex _ hall]; simp)]
          by_cases hg : 1099511627776 < numOf 16 (l.take k)
          · rw [if_pos (.inr hg), if_pos hg]
          · rw [if_neg (by omega), if_neg hg]
        by_cases he : (parAns (l.drop k)).2.2 = 0
        · have hnm : k + m ≤ l.length := by omega
          simp [e0, he, hw2, hnm, -Int.natCast_add]
          refine ref_trim_pc E _ _ (l.drop (k + m)) (by rw [List.length_drop]; simp only [cap]; omega) ?_
          by_cases ht : trimB (l.drop (k + m)) = []
          · by_cases hg : 1099511627776 < n
            · have hgg : 1099511627776 < numOf 16 (l.take k) := by
                by_cases hh2 : numOf 16 (l.take k) ≤ 1099511627776
                · have := hs1 hh2; omega
                · omega
              have ha : sizeAns l = (0, [], 102) := by rw [ha0, if_neg (by simp [he, ht]), hna, if_pos hgg]; rfl
              simp [ht, hg]
              exact bad _ 102 ha rfl rfl rfl
            · have hgg : ¬ 1099511627776 < numOf 16 (l.take k) := fun hh => hg (hs2 hh)
              have hnn := hs1 (by omega)
              have ha : sizeAns l = (n, (parAns (l.drop k)).1, 0) := by rw [ha0, if_neg (by simp [he, ht]), hna, if_neg hgg, hnn]; rfl
              rw [ha] at hQ
              simp [ht, hg]
              exact aPost_same0 hB (v0 := .tup [.int .i64 n, .sl false 3 (prs (parAns (l.drop k)).1), .int .i64 0]) (by simp) (nilV_refl _) (by simp [bnd_prs, -bnd_sl']) hQ
          · have ht2 : (trimB (l.drop (k + m)) != []) = true := by simpa using ht
            have ha : sizeAns l = (0, [], 100) := by rw [ha0, if_pos (.inr ht)]
            simp [ht2]
            exact bad _ 100 ha rfl rfl rfl
        · have ha : sizeAns l = (0, [], 100) := by rw [ha0, if_pos (.inl he)]
          simp [e0, he]
          exact bad _ 100 ha rfl rfl rfl
end
end Go.Proofs.YtcdkcaocfioigaaGreatDoor

set_option linter.unusedVariables false
set_option linter.unusedSimpArgs false
namespace Go.Proofs.YtcdkcaocfioigaaGreatDoor
open Go Go.RowKit

inductive NilD : AV → AV → Prop
  | same (x) : NilD x x
  | nil (k) : NilD .nil (.sl false k [])
  | agg (l m : List AV) (hl : l.length = m.length) (h : ∀ (i : Nat) x y, l[i]? = some x → m[i]? = some y → NilD x y) : NilD (.agg l) (.agg m)
  | tup (l m : List AV) (hl : l.length = m.length) (h : ∀ (i : Nat) x y, l[i]? = some x → m[i]? = some y → NilD x y) : NilD (.tup l) (.tup m)
  | sl (k : Nat) (l m : List (List AV)) (hl : l.length = m.length) (hk : ∀ (i : Nat) r s, l[i]? = some r → m[i]? = some s → r.length = s.length) (h : ∀ (i j : Nat) r s x y, l[i]? = some r → m[i]? = some s → r[j]? = some x → s[j]? = some y → NilD x y) : NilD (.sl false k l) (.sl false k m)

def NilL : List AV → List AV → Prop
  | [], [] => True
  | x :: l, y :: m => NilD x y ∧ NilL l m
  | _, _ => False
theorem NilL.at : ∀ {l m : List AV}, NilL l m → l.length = m.length ∧ ∀ (i : Nat) x y, l[i]? = some x → m[i]? = some y → NilD x y
  | [], [], _ => ⟨rfl, fun i x y hx => by simp at hx⟩
  | x :: l, y :: m, h => by
    obtain ⟨h1, h2⟩ := NilL.at h.2
    refine ⟨by simp [h1], fun i a b ha hb => ?_⟩
    cases i with
    | zero => simp at ha hb; subst ha; subst hb; exact h.1
    | succ i => exact h2 i a b (by simpa using ha) (by simpa using hb)
  | [], _ :: _, h => h.elim
  | _ :: _, [], h => h.elim
@[simp] theorem NilL_nil : NilL [] [] = True := rfl
@[simp] theorem NilL_cons (x y : AV) (l m : List AV) : NilL (x :: l) (y :: m) = (NilD x y ∧ NilL l m) := rfl
@[simp] theorem NilD_same (x : AV) : NilD x x = True := eq_true (.same x)
@[simp] theorem NilD_nil (k : Nat) : NilD .nil (.sl false k []) = True := eq_true (.nil k)
theorem NilD_agg {l m : List AV} (h : NilL l m) : NilD (.agg l) (.agg m) := .agg l m h.at.1 h.at.2
theorem NilD.one {x y : AV} (h : NilD x y) : x.one = true → y.one = true := by
  cases h with
  | same => exact id
  | nil => exact fun _ => rfl
  | agg => intro h; simp [AV.one] at h
  | tup => intro h; simp [AV.one] at h
  | sl => exact fun _ => rfl
theorem NilD.free {x y : AV} (h : NilD x y) : x.free = true → y.free = true := by
  cases h with
  | same => exact id
  | nil => exact fun _ => rfl
  | agg => exact fun _ => rfl
  | tup => exact fun _ => rfl
  | sl => exact fun _ => rfl
theorem NilD.own {x y : AV} (h : NilD x y) (v : Value) (g : Nat) : own0 y v = some g → own0 x v = some g := by
  cases h with
  | same => exact id
  | nil => intro e; cases e
  | agg => intro e; cases e
  | tup => intro e; cases e
  | sl => intro e; cases e
theorem NilD.dis {x y : AV} (h : NilD x y) : x.dis.free = true → y.dis.free = true := by
  cases h with
  | same => exact id
  | nil => exact fun _ => rfl
  | agg => exact fun _ => rfl
  | tup => exact fun _ => rfl
  | sl => exact fun _ => rfl
theorem pair_at {α β : Type} {l : List α} {m : List β} (h : l.length = m.length) {i : Nat} {y : β} (hy : m[i]? = some y) : ∃ x, l[i]? = some x := by
  have := (List.getElem?_eq_some_iff.1 hy).1
  exact ⟨l[i], List.getElem?_eq_getElem (by omega)⟩
theorem NilD.bnd {N : Nat} {x y : AV} (h : NilD x y) : Bnd N x → Bnd N y := by
  induction h with
  | same => exact id
  | nil k => exact fun _ => .sl _ _ _ (by simp)
  | agg l m hl h ih =>
    intro hb
    cases hb with
    | agg _ hb =>
      refine .agg _ fun y hy => ?_
      obtain ⟨i, hi⟩ := List.getElem?_of_mem hy
      obtain ⟨x, hx⟩ := pair_at hl hi
      exact ih i x y hx hi (hb x (mem_at hx))
  | tup l m hl h ih =>
    intro hb
    cases hb with
    | tup _ hb =>
      refine .tup _ fun y hy => ?_
      obtain ⟨i, hi⟩ := List.getElem?_of_mem hy
      obtain ⟨x, hx⟩ := pair_at hl hi
      exact ih i x y hx hi (hb x (mem_at hx))
  | sl k l m hl hk h ih =>
    intro hb
    cases hb with
    | sl _ _ _ hb =>
      refine .sl _ _ _ fun s hs y hy => ?_
      obtain ⟨i, hi⟩ := List.getElem?_of_mem hs
      obtain ⟨j, hj⟩ := List.getElem?_of_mem hy
      obtain ⟨r, hr⟩ := pair_at hl hi
      obtain ⟨x, hx⟩ := pair_at (hk i r s hr hi) hj
      exact ih i j r s x y hr hi hx hj (hb r (mem_at hr) x (mem_at hx))
theorem flat_pair : ∀ {l m : List (List AV)}, l.length = m.length → (∀ (i : Nat) (r s : List AV), l[i]? = some r → m[i]? = some s → r.length = s.length) → l.flatten.length = m.flatten.length ∧
    ∀ (t : Nat) x y, l.flatten[t]? = some x → m.flatten[t]? = some y → ∃ (i j : Nat) (r s : List AV), l[i]? = some r ∧ m[i]? = some s ∧ r[j]? = some x ∧ s[j]? = some y
  | [], [], _, _ => ⟨rfl, fun t x y hx => by simp at hx⟩
  | a :: l, b :: m, hl, hk => by
    have hab : a.length = b.length := hk 0 a b rfl rfl
    obtain ⟨h1, h2⟩ := flat_pair (l := l) (m := m) (by simpa using hl) (fun i r s hr hs => hk (i + 1) r s (by simpa using hr) (by simpa using hs))
    refine ⟨by simp [h1, hab], fun t x y hx hy => ?_⟩
    rw [List.flatten_cons] at hx hy
    by_cases ht : t < a.length
    · rw [List.getElem?_append_left ht] at hx
      rw [List.getElem?_append_left (by omega)] at hy
      exact ⟨0, t, a, b, rfl, rfl, hx, hy⟩
    · rw [List.getElem?_append_right (by omega)] at hx hy
      rw [← hab] at hy
      obtain ⟨i, j, r, s, e1, e2, e3, e4⟩ := h2 _ x y hx hy
      exact ⟨i + 1, j, r, s, by simpa using e1, by simpa using e2, e3, e4⟩
  | [], _ :: _, h, _ => by simp at h
  | _ :: _, [], h, _ => by simp at h
theorem NilD.rel {w : World} {β : Nat → Nat} {Rd : Nat → Nat → Prop} {x y : AV} (h : NilD x y) : ∀ {v : Value}, Rel w β Rd x v → Rel w β Rd y v := by
  induction h with
  | same => exact id
  | nil k =>
    intro v hr
    obtain rfl := rel_nil hr
    exact .sl false k [] _ [] (by simp) (OSl.nil w k).toR (fun g o n c hv => by cases hv) (fun h => by cases h) (by simp) (fun j x u hx => by simp at hx)
  | agg l m hl h ih =>
    intro v hr
    cases hr with
    | agg _ vs hs hf hr =>
      refine .agg _ vs (by omega) (fun y hy => ?_) (fun j y u hy hu => ?_)
      · obtain ⟨i, hi⟩ := List.getElem?_of_mem hy
        obtain ⟨x, hx⟩ := pair_at hl hi
        obtain ⟨f1, f2⟩ := hf x (mem_at hx)
        exact ⟨(h i x y hx hi).free f1, (h i x y hx hi).one f2⟩
      · obtain ⟨x, hx⟩ := pair_at hl hy
        exact ih j x y hx hy (hr j x u hx hu)
  | tup l m hl h ih =>
    intro v hr
    cases hr with
    | tup _ vs hs hf hr =>
      refine .tup _ vs (by omega) (fun y hy => ?_) (fun j y u hy hu => ?_)
      · obtain ⟨i, hi⟩ := List.getElem?_of_mem hy
        obtain ⟨x, hx⟩ := pair_at hl hi
        exact (h i x y hx hi).free (hf x (mem_at hx))
      · obtain ⟨x, hx⟩ := pair_at hl hy
        exact ih j x y hx hy (hr j x u hx hu)
  | sl k l m hl hkl h ih =>
    intro v hr
    cases hr with
    | sl _ _ _ _ xs hk hx hd ho hf hr =>
      obtain ⟨hfl, hfp⟩ := flat_pair hl hkl
      refine .sl false k m v xs (fun s hs => ?_) (by rw [← hl]; exact hx) (fun g o n c hv j hj => hd g o n c hv j (by rw [hl]; exact hj)) (fun h => by cases h) (fun s hs y hy => ?_) (fun t y u hy hu => ?_)
      · obtain ⟨i, hi⟩ := List.getElem?_of_mem hs
        obtain ⟨r, hr⟩ := pair_at hl hi
        rw [← hkl i r s hr hi]; exact hk r (mem_at hr)
      · obtain ⟨i, hi⟩ := List.getElem?_of_mem hs
        obtain ⟨j, hj⟩ := List.getElem?_of_mem hy
        obtain ⟨r, hr⟩ := pair_at hl hi
        obtain ⟨x, hx⟩ := pair_at (hkl i r s hr hi) hj
        obtain ⟨f1, f2⟩ := hf r (mem_at hr) x (mem_at hx)
        have hn := h i j r s x y hr hi hx hj
        exact ⟨hn.free f1, hn.one f2⟩
      · obtain ⟨x, hx⟩ := pair_at hfl hy
        obtain ⟨i, j, r, s, e1, e2, e3, e4⟩ := hfp t x y hx hy
        exact ih i j r s x y e1 e2 e3 e4 (hr t x u hx hu)

/-- A CONTRACT whose answer has nil lists. -/
theorem PC.nilD {P : Program} {E : Env} {f : FuncId} {args : List AV} {H : Hp} {Q : AV → Hp → Prop} (h : PC P E f args H (fun v H' => ∃ v', NilD v v' ∧ Q v' H')) : PC P E f args H Q :=
  ⟨h.1, fun w β Rd Ow cargs h1 h2 h3 h4 => (h.2 w β Rd Ow cargs h1 h2 h3 h4).mono fun e w' ⟨u, v, H', β', Rd', Ow', he, ⟨v', hn, hQ⟩, hp⟩ =>
    ⟨u, v', H', β', Rd', Ow', he, hQ, hn.rel hp.rel, hn.bnd hp.bnd, fun g hg => hp.own g (hn.own u g hg), hn.dis hp.ne, hp.hr, hp.old, hp.len, hp.keep, hp.frame, hp.os, hp.tape, hp.output, hp.size⟩⟩
end Go.Proofs.YtcdkcaocfioigaaGreatDoor

set_option linter.unusedVariables false
set_option linter.unnecessarySimpa false
set_option linter.unusedSimpArgs false
set_option linter.unusedSectionVars false
set_option maxRecDepth 100000
namespace Go.Proofs.YtcdkcaocfioigaaGreatDoor
open Go Go.RowKit Go.Proofs

def goD (d : Dec) : Prop := d.done = false ∧ d.err = 0
theorem feedD_cons (d : Dec) (b : UInt8) (s : List UInt8) : feedD d (b :: s) = if (feed1 d b).done = true ∨ (feed1 d b).err ≠ 0 then (feed1 d b, 1) else ((feedD (feed1 d b) s).1, (feedD (feed1 d b) s).2 + 1) := rfl
theorem feedD_go {d : Dec} {b : UInt8} (s : List UInt8) (h : goD (feed1 d b)) : feedD d (b :: s) = ((feedD (feed1 d b) s).1, (feedD (feed1 d b) s).2 + 1) := by
  rw [feedD_cons, if_neg]; rintro (h1 | h1)
  · rw [h.1] at h1; cases h1
  · exact h1 h.2
theorem feedD_stop {d : Dec} {b : UInt8} (s : List UInt8) (h : (feed1 d b).done = true ∨ (feed1 d b).err ≠ 0) : feedD d (b :: s) = (feed1 d b, 1) := by rw [feedD_cons, if_pos h]
theorem feedD_cat : ∀ (a : List UInt8) (d e : Dec) (s : List UInt8), feedD d a = (e, a.length) → goD e → feedD d (a ++ s) = ((feedD e s).1, (feedD e s).2 + a.length)
  | [], d, e, s, h, _ => by cases h; simp
  | b :: a, d, e, s, h, hg => by
    rw [List.cons_append, feedD_cons]
    rw [feedD_cons] at h
    split at h
    · rename_i hs
      have h1 := (Prod.mk.inj h).1
      rw [h1] at hs
      rcases hs with hs | hs
      · rw [hg.1] at hs; cases hs
      · exact absurd hg.2 hs
    · rename_i hs
      rw [if_neg hs]
      have h1 := Prod.mk.inj h
      have h2 : (feedD (feed1 d b) a).2 = a.length := by have := h1.2; simp at this; omega
      rw [feedD_cat a (feed1 d b) e s (by rw [← h1.1, ← h2]) hg]
      simp; omega

theorem run_size : ∀ (a : List UInt8) (d : Dec), d.st = .size → goD d → (∀ b ∈ a, b ≠ 10) → d.line.length + a.length ≤ 255 → feedD d a = ({ d with line := d.line ++ a, total := d.total + a.length }, a.length)
  | [], d, _, _, _, _ => by simp [feedD]
  | b :: a, d, hs, hg, ha, hl => by
    have hb : b ≠ 10 := ha b (by simp)
    simp only [List.length_cons] at hl
    have h1 : feed1 d b = { d with line := d.line ++ [b], total := d.total + 1 } := by
      unfold feed1 stepD
      simp only [hs, sizeD, hb, if_pos, ne_eq, not_false_eq_true]
      rw [if_neg (by simp; omega), ← hg.2]
    have hg' : goD (feed1 d b) := by rw [h1]; exact hg
    rw [feedD_go _ hg', h1, run_size a { d with line := d.line ++ [b], total := d.total + 1 } hs hg (fun c hc => ha c (by simp [hc])) (by simp; omega)]
    simp; omega
theorem run_trail : ∀ (a : List UInt8) (d : Dec), d.st = .trailer → goD d → (∀ b ∈ a, b ≠ 10) → (d.section_ : Int) + a.length ≤ d.room → feedD d a = ({ d with line := d.line ++ a, section_ := d.section_ + a.length, total := d.total + a.length }, a.length)
  | [], d, _, _, _, _ => by simp [feedD]
  | b :: a, d, hs, hg, ha, hl => by
    have hb : b ≠ 10 := ha b (by simp)
    simp only [List.length_cons] at hl
    have h1 : feed1 d b = { d with line := d.line ++ [b], section_ := d.section_ + 1, total := d.total + 1 } := by
      unfold feed1 stepD
      simp only [hs, trailerD, hb, if_pos, ne_eq, not_false_eq_true]
      rw [if_neg (by omega)]
      simp only [hs, ← hg.2]
    have hg' : goD (feed1 d b) := by rw [h1]; exact hg
    rw [feedD_go _ hg', h1, run_trail a { d with line := d.line ++ [b], section_ := d.section_ + 1, total := d.total + 1 } hs hg (fun c hc => ha c (by simp [hc])) (by simp; omega)]
    simp; omega
theorem run_data : ∀ (a : List UInt8) (d : Dec), d.st = .data → goD d → (a.length : Int) < d.left → feedD d a = ({ d with body := d.body ++ a, left := d.left - a.length, total := d.total + a.length }, a.length)
  | [], d, _, _, _ => by simp [feedD]
  | b :: a, d, hs, hg, hl => by
    simp only [List.length_cons] at hl
    have h1 : feed1 d b = { d with body := d.body ++ [b], left := d.left - 1, total := d.total + 1 } := by
      unfold feed1 stepD
      simp only [hs, dataD]
      rw [if_neg (by omega)]
      simp only [hs, ← hg.2]
    have hg' : goD (feed1 d b) := by rw [h1]; exact hg
    rw [feedD_go _ hg', h1, run_data a { d with body := d.body ++ [b], left := d.left - 1, total := d.total + 1 } hs hg (by simp; omega)]
    simp
    exact ⟨by omega, by omega⟩
theorem full_data (a : List UInt8) (d : Dec) (hs : d.st = .data) (hg : goD d) (h0 : a ≠ []) (hl : (a.length : Int) = d.left) : feedD d a = ({ d with body := d.body ++ a, left := 0, st := .first, total := d.total + a.length }, a.length) := by
  obtain ⟨x, b, rfl⟩ : ∃ x b, a = x ++ [b] := ⟨a.dropLast, a.getLast h0, (List.dropLast_concat_getLast h0).symm⟩
  rw [List.length_append] at hl
  simp at hl
  have hr := run_data x d hs hg (by omega)
  rw [feedD_cat x d _ [b] hr hg]
  have h1 : feed1 { d with body := d.body ++ x, left := d.left - x.length, total := d.total + x.length } b = { d with body := d.body ++ (x ++ [b]), left := 0, st := .first, total := d.total + (x ++ [b]).length } := by
    unfold feed1 stepD
    simp only [hs, dataD]
    rw [if_pos (by omega)]
    simp [← hg.2]
    omega
  rw [feedD_go [] (by rw [h1]; exact hg), h1]
  simp [feedD]
  omega
/-- A line behind its 10: what it says. -/
theorem endL_snoc (l : List UInt8) (a n : Nat) (h : a + n ≤ l.length) : endL ((l.drop a).take n ++ [10]) = if n = 0 ∨ l[a + n - 1]? ≠ some 13 then none else some ((l.drop a).take (n - 1)) := by
  have hlen : ((l.drop a).take n).length = n := by rw [List.length_take, List.length_drop]; omega
  unfold endL
  rw [List.length_append, hlen]
  by_cases h0 : n = 0
  · subst h0; simp
  · obtain ⟨m, rfl⟩ : ∃ m, n = m + 1 := ⟨n - 1, by omega⟩
    have hat : ((l.drop a).take (m + 1))[m]? = l[a + m]? := by rw [List.getElem?_take_of_lt (by omega), List.getElem?_drop]
    obtain ⟨c, hc⟩ : ∃ c, l[a + m]? = some c := ⟨_, List.getElem?_eq_getElem (by omega)⟩
    have hsn : (l.drop a).take (m + 1) = (l.drop a).take m ++ [c] := by
      rw [List.take_add_one, List.getElem?_drop, hc]; rfl
    have hml : ((l.drop a).take m).length = m := by rw [List.length_take, List.length_drop]; omega
    have e1 : m + 1 + [(10 : UInt8)].length - 2 = m := by simp
    have e2 : a + (m + 1) - 1 = a + m := by omega
    rw [e1, e2, hc, hsn, List.append_assoc, List.drop_append_of_le_length (by omega), List.drop_of_length_le (by omega), List.take_append_of_le_length (by omega), List.take_of_length_le (by omega)]
    by_cases hcc : c = 13
    · subst hcc
      simp
    · simp [hcc]
/-- The byte that ends a size line. -/
def sizeE (d : Dec) (x : Option (List UInt8)) : Dec × Int := match x with
  | none => ({ d with line := [] }, 100)
  | some s => if (sizeAns s).2.2 ≠ 0 then ({ d with line := [] }, (sizeAns s).2.2)
    else if d.most - d.body.length < (sizeAns s).1 then ({ d with line := [] }, 102)
    else if (sizeAns s).1 = 0 then ({ d with line := [], st := .trailer }, 0)
    else ({ d with line := [], left := (sizeAns s).1, st := .data }, 0)
theorem feed1_size (d : Dec) (hs : d.st = .size) : feed1 d 10 = { (sizeE { d with total := d.total + 1 } (endL (d.line ++ [10]))).1 with err := (sizeE { d with total := d.total + 1 } (endL (d.line ++ [10]))).2 } := by
  unfold feed1 stepD
  simp only [hs, sizeD, ne_eq, not_true_eq_false, if_false]
  cases endL (d.line ++ [10]) <;> rfl
/-- The byte that ends a trailer's line. -/
def trailE (d : Dec) (x : Option (List UInt8)) : Dec × Int := match x with
  | none => ({ d with section_ := d.section_ + 1, line := [] }, 101)
  | some s => if s = [] then ({ d with section_ := d.section_ + 1, line := [], done := true }, 0)
    else if d.fields ≤ d.trailers.length then ({ d with section_ := d.section_ + 1, line := [] }, 104)
    else match lineF s with
      | none => ({ d with section_ := d.section_ + 1, line := [] }, 101)
      | some f => if mayB f.name = true then ({ d with section_ := d.section_ + 1, line := [], trailers := d.trailers ++ [f] }, 0) else ({ d with section_ := d.section_ + 1, line := [] }, 101)
theorem feed1_trail (d : Dec) (hs : d.st = .trailer) (hr : (d.section_ : Int) < d.room) : feed1 d 10 = { (trailE { d with total := d.total + 1 } (endL (d.line ++ [10]))).1 with err := (trailE { d with total := d.total + 1 } (endL (d.line ++ [10]))).2 } := by
  unfold feed1 stepD
  simp only [hs, trailerD, ne_eq, not_true_eq_false, if_false]
  rw [if_neg (by omega)]
  cases endL (d.line ++ [10]) <;> rfl
end Go.Proofs.YtcdkcaocfioigaaGreatDoor

set_option linter.unusedVariables false
set_option linter.unnecessarySimpa false
set_option linter.unusedSimpArgs false
set_option linter.unusedSectionVars false
set_option maxRecDepth 100000
namespace Go.Proofs.YtcdkcaocfioigaaGreatDoor
open Go Go.RowKit Go.Proofs

theorem trimB_all (l : List UInt8) (h : l.all blankB = true) : trimB l = [] := by
  induction l with
  | nil => rfl
  | cons c l ih =>
    simp only [List.all_cons, Bool.and_eq_true] at h
    rw [trimB_blank c h.1, ih h.2]
theorem trimB_len (l : List UInt8) : (trimB l).length ≤ l.length := by
  rw [trim_comm]
  unfold rt lt
  rw [List.length_reverse]
  refine Nat.le_trans (List.dropWhile_sublist _).length_le ?_
  rw [List.length_reverse]
  exact (List.dropWhile_sublist _).length_le
def not10 (b : UInt8) : Bool := b != 10
theorem run_stop {p : UInt8 → Bool} {l : List UInt8} (h : run p l < l.length) : ∃ b, l[run p l]? = some b ∧ p b = false := by
  unfold run at h ⊢
  induction l with
  | nil => simp at h
  | cons a l ih =>
    by_cases ha : p a = true
    · rw [List.takeWhile_cons_of_pos ha] at h ⊢
      obtain ⟨b, h1, h2⟩ := ih (by simpa using h)
      exact ⟨b, by simpa using h1, h2⟩
    · rw [List.takeWhile_cons_of_neg ha]
      exact ⟨a, rfl, by simpa using ha⟩
theorem run_take {p : UInt8 → Bool} {l : List UInt8} {k : Nat} (h : k ≤ run p l) : (l.take k).all p = true := by
  induction l generalizing k with
  | nil => simp
  | cons a l ih =>
    cases k with
    | zero => simp
    | succ k =>
      by_cases ha : p a = true
      · unfold run at h
        rw [List.takeWhile_cons_of_pos ha] at h
        simp only [List.take_succ_cons, List.all_cons, ha, Bool.true_and]
        exact ih (by simpa [run] using h)
      · unfold run at h
        rw [List.takeWhile_cons_of_neg ha] at h
        simp at h
theorem run_at {p : UInt8 → Bool} {l : List UInt8} {k : Nat} {b : UInt8} (h : k < run p l) (hb : l[k]? = some b) : p b = true := by
  have := run_take (k := k + 1) (p := p) (l := l) (by omega)
  rw [all_take p l k b hb] at this
  simpa using (Bool.and_eq_true _ _ ▸ this).2
section
variable (E : Env) (H : Hp) (Q : AV → Hp → Prop)
def findInv (l : List UInt8) (c : UInt8) (H : Hp) (fr : List AV) (H' : Hp) : Prop := H' = H ∧ ∃ i : Nat, i ≤ l.length ∧ (∀ j, j < i → l[j]? ≠ some c) ∧ ∃ x : Nat → AV, fr = [.str l, .int .u8 (c.toNat : Int), x 2, x 3, x 4, .int .i64 i, x 6, x 7, x 8, x 9, x 10, x 11, x 12, x 13, x 14, x 15, x 16, x 17]
theorem find_pc (l : List UInt8) (c : UInt8) (hl : l.length ≤ cap) (hQ : Q (.int .i64 (Lib.indexByte l c)) H) : PC Tryz.prog E 122 [.str l, .int .u8 (c.toNat : Int)] H Q := by
  simp only [cap] at hl
  refine pc_enter Tryz.func122 rfl [] [] (by kernel_rfl) (fun hB => ?_)
  have fin : ∀ z : Int, Lib.indexByte l c = z → Q (.int .i64 z) H := fun z hz => hz ▸ hQ
  simp [Tryz.ntmps122, Tryz.results122, List.replicate_succ]
  refine VL_go (findInv l c H) (fun fr _ => l.length - (ai (aget fr 5)).toNat) ⟨rfl, 0, by omega, (fun j hj => by omega), fr_intro (by simp)⟩ ?_
  rintro fr H' ⟨rfl, i, hi, hno, x, rfl⟩
  by_cases h : i < l.length
  · obtain ⟨b, hb⟩ : ∃ b, l[i]? = some b := ⟨_, List.getElem?_eq_getElem h⟩
    have hat := lat_eq hb
    have hw : IntKind.i64.wrap ((i : Int) + 1) = i + 1 := wrap_in (by omega) (by omega)
    by_cases he : b = c
    · subst he
      simp [h, hat]
      exact aPost_same0 hB rfl (nilV_refl _) (by simp) (fin _ (index_at l b i hb hno))
    · have t1 : ((b.toNat : Int) == (c.toNat : Int)) = false := by
        rw [beq_eq_false_iff_ne]
        intro hh
        exact he (UInt8.toNat_inj.1 (by omega))
      simp [h, hat, t1, hw]
      refine Kloop_normal ⟨rfl, i + 1, by omega, (fun j hj => ?_), fr_intro (by simp)⟩ (by simp; omega)
      by_cases hji : j = i
      · subst hji; rw [hb]; intro e; cases e; exact he rfl
      · exact hno j (by omega)
  · simp [h]
    exact aPost_same0 hB rfl (nilV_refl _) (by simp) (fin _ (index_no l c (fun j hj => hno j (by omega))))
def dlInv1 (l : List UInt8) (c : Nat) (H : Hp) (fr : List AV) (H' : Hp) : Prop := H' = H ++ [[.str [], .str []]] ∧ ∃ i : Nat, i ≤ c ∧ i ≤ 128 ∧ (l.take i).all signB = true ∧ ∃ x : Nat → AV, fr = [.str l, x 1, .ptr (some (H.length, 0)), x 3, x 4, .int .i64 c, .int .i64 i, x 7, x 8, x 9, x 10, x 11, x 12, x 13, x 14, x 15, x 16, x 17, x 18, x 19, x 20, x 21, x 22, x 23, x 24, x 25, x 26, x 27, x 28, x 29, x 30, x 31, x 32, x 33, x 34, x 35, x 36, x 37, x 38, x 39, x 40, x 41, x 42, x 43, x 44, x 45, x 46, x 47, x 48, x 49, x 50, x 51, x 52, x 53, x 54, x 55, x 56, x 57, x 58, x 59, x 60, x 61, x 62, x 63, x 64, x 65, x 66, x 67, x 68, x 69, x 70, x 71, x 72, x 73, x 74, x 75, x 76, x 77, x 78, x 79, x 80, x 81, x 82]
def dlInv2 (l : List UInt8) (c : Nat) (H : Hp) (fr : List AV) (H' : Hp) : Prop := H' = H ++ [[.str [], .str []]] ∧ ∃ i : Nat, i ≤ l.length ∧ c + 1 ≤ i ∧ fldB ((l.drop (c + 1)).take (i - (c + 1))) = true ∧ ∃ x : Nat → AV, fr = [.str l, x 1, .ptr (some (H.length, 0)), x 3, x 4, .int .i64 c, x 6, .int .i64 i, x 8, x 9, x 10, x 11, x 12, x 13, x 14, x 15, x 16, x 17, x 18, x 19, x 20, x 21, x 22, x 23, x 24, x 25, x 26, x 27, x 28, x 29, x 30, x 31, x 32, x 33, x 34, x 35, x 36, x 37, x 38, x 39, x 40, x 41, x 42, x 43, x 44, x 45, x 46, x 47, x 48, x 49, x 50, x 51, x 52, x 53, x 54, x 55, x 56, x 57, x 58, x 59, x 60, x 61, x 62, x 63, x 64, x 65, x 66, x 67, x 68, x 69, x 70, x 71, x 72, x 73, x 74, x 75, x 76, x 77, x 78, x 79, x 80, x 81, x 82]
def dlInv3 (l : List UInt8) (c : Nat) (H : Hp) (fr : List AV) (H' : Hp) : Prop := H' = H ++ [[.str [], .str []]] ∧ ∃ i : Nat, i ≤ l.length ∧ c + 1 ≤ i ∧ ((l.drop (c + 1)).take (i - (c + 1))).all blankB = true ∧ ∃ x : Nat → AV, fr = [.str l, x 1, .ptr (some (H.length, 0)), x 3, x 4, x 5, x 6, x 7, x 8, .int .i64 i, x 10, x 11, x 12, x 13, x 14, x 15, x 16, x 17, x 18, x 19, x 20, x 21, x 22, x 23, x 24, x 25, x 26, x 27, x 28, x 29, x 30, x 31, x 32, x 33, x 34, x 35, x 36, x 37, x 38, x 39, x 40, x 41, x 42, x 43, x 44, x 45, x 46, x 47, x 48, x 49, x 50, x 51, x 52, x 53, x 54, x 55, x 56, x 57, x 58, x 59, x 60, x 61, x 62, x 63, x 64, x 65, x 66, x 67, x 68, x 69, x 70, x 71, x 72, x 73, x 74, x 75, x 76, x 77, x 78, x 79, x 80, x 81, x 82]
set_option maxHeartbeats 1000000 in
theorem dline_pc (l : List UInt8) (hl : l.length ≤ cap) (hQ1 : ∀ f, lineF l = some f → Q (.tup [.agg [.str f.name, .str f.value], .int .i64 0, .int .i64 0]) H) (hQ2 : lineF l = none → ∀ pl e, e ≠ 0 → Q (.tup [.agg [.str [], .str []], .int .i64 pl, .int .i64 e]) H) :
    PC Tryz.prog E 93 [.str l] H Q := by
  refine pc_enter Tryz.func93 rfl [] [] (by kernel_rfl) (fun hB => ?_)
  have hl' := hl
  simp only [cap] at hl'
  have bad : ∀ (fr : List AV) (pl e : Int), lineF l = none → e ≠ 0 → aget fr 2 = .ptr (some (H.length, 0)) → aget fr 3 = .int .i64 pl → aget fr 4 = .int .i64 e → aPost Tryz.prog [ResultVar.cell 2 102, ResultVar.tmp 3, ResultVar.tmp 4] H.length Q .ret fr (H ++ [[.str [], .str []]]) := fun fr pl e h0 he h2 h3 h4 =>
    aPost_same hB (v0 := .tup [.agg [.str [], .str []], .int .i64 pl, .int .i64 e]) (by simp [h2, h3, h4]) (nilV_refl _) (by simp) (hQ2 h0 pl e he)
  obtain ⟨c, hc⟩ : ∃ c, run ncol l = c := ⟨_, rfl⟩
  have hcl := run_le ncol l
  rw [hc] at hcl
  have hib := indexByte_run l
  rw [hc] at hib
  have hcase : (∃ a r, l = a :: r ∧ blankB a = true) ∨ (l = [] ∨ ∃ a r, l = a :: r ∧ blankB a = false) := by
    cases l with
    | nil => exact .inr (.inl rfl)
    | cons a r =>
      cases hb : blankB a
      · exact .inr (.inr ⟨a, r, rfl, hb⟩)
      · exact .inl ⟨a, r, rfl, hb⟩
  have key : ∀ fr : List AV, (∃ x : Nat → AV, fr = [.str l, x 1, .ptr (some (H.length, 0)), x 3, x 4, x 5, x 6, x 7, x 8, x 9, x 10, x 11, x 12, x 13, x 14, x 15, x 16, x 17, x 18, x 19, x 20, x 21, x 22, x 23, x 24, x 25, x 26, x 27, x 28, x 29, x 30, x 31, x 32, x 33, x 34, x 35, x 36, x 37, x 38, x 39, x 40, x 41, x 42, x 43, x 44, x 45, x 46, x 47, x 48, x 49, x 50, x 51, x 52, x 53, x 54, x 55, x 56, x 57, x 58, x 59, x 60, x 61, x 62, x 63, x 64, x 65, x 66, x 67, x 68, x 69, x 70, x 71, x 72, x 73, x 74, x 75, x 76, x 77, x 78, x 79, x 80, x 81, x 82]) → True := fun _ _ => trivial
  rcases hcase with ⟨a, r, rfl, hb⟩ | hcase
  · have hc0 : lineF (a :: r) = none := by
      by_cases hz : c = 0
      · exact lineF_zero (by rw [hc]; exact hz)
      · exact lineF_bad (i := 0) (b := a) (by omega) rfl (sign_blank a hb)
    have hne : (a :: r != []) = true := rfl
    simp [Tryz.ntmps93, Tryz.results93, List.replicate_succ, hne]
    refine ref_blank_pc E _ _ a ?_
    simp [hb]
    exact bad _ 0 63 hc0 (by decide) rfl rfl rfl
  case' inr =>
    rcases hcase with rfl | ⟨a, r, hl0, hb⟩
    case' inl =>
      simp [Tryz.ntmps93, Tryz.results93, List.replicate_succ]
    case' inr =>
      have hne : (l != []) = true := by rw [hl0]; rfl
      have hl1 : 0 < l.length := by rw [hl0]; simp
      have hla : lat l 0 = some a := by rw [hl0]; rfl
      simp [Tryz.ntmps93, Tryz.results93, List.replicate_succ, hne, hl1, hla]
      refine ref_blank_pc E _ _ a ?_
      simp [hb]
      clear hne hla hl0
  rotate_left
  · refine find_pc E _ _ [] 58 (by simp [cap]) ?_
    rw [show Lib.indexByte [] 58 = -1 from rfl]
    simp
    exact bad _ 0 62 (lineF_nocol (by simp)) (by decide) rfl rfl rfl
  · refine find_pc E _ _ l 58 hl ?_
    rw [hib]
    by_cases hcc : c < l.length
    rotate_left
    · have hno := lineF_nocol (l := l) (by omega)
      simp [hcc]
      exact bad _ l.length 62 hno (by decide) rfl rfl rfl
    · by_cases hz : c = 0
      · have hno := lineF_zero (l := l) (by omega)
        subst hz
        simp [hcc]
        exact bad _ 0 60 hno (by decide) rfl rfl rfl
      · have hz2 : ((c : Int) == 0) = false := by simp; omega
        simp [hcc, hz, hz2]
        refine VL_go (dlInv1 l c H) (fun fr _ => c - (ai (aget fr 6)).toNat) ⟨rfl, 0, by omega, by omega, by simp, fr_intro (by simp)⟩ ?_
        rintro fr H' ⟨rfl, i, hi, hi2, hall, x, rfl⟩
        by_cases h : i < c
        · obtain ⟨b, hbi⟩ : ∃ b, l[i]? = some b := ⟨_, List.getElem?_eq_getElem (by omega)⟩
          have hat := lat_eq hbi
          by_cases h128 : i = 128
          · have hno := lineF_long (l := l) (by omega)
            subst h128
            have h' : (128 : Int) < c := by omega
            simp [h']
            exact bad _ 128 60 hno (by decide) rfl rfl rfl
          · have h128' : ((i : Int) == 128) = false := by simp; omega
            have hw : IntKind.i64.wrap ((i : Int) + 1) = i + 1 := wrap_in (by omega) (by omega)
            have hil : i < l.length := by omega
            simp [h, h128', hat, hil]
            refine ref_sign_pc E _ _ b ?_
            cases hs : signB b with
            | false =>
              have hno := lineF_bad (by rw [hc]; exact h) hbi hs
              simp
              exact bad _ i 60 hno (by decide) rfl rfl rfl
            | true =>
              simp [hw]
              exact Kloop_normal ⟨rfl, i + 1, by omega, by omega, by rw [all_take signB l i b hbi, hall, hs]; rfl, fr_intro (by simp)⟩ (by simp; omega)
        · obtain rfl : i = c := by omega
          have hnm : nameB (l.take i) = true := by
            have : l.take i ≠ [] := by intro e; have h2 := congrArg List.length e; rw [List.length_take] at h2; have h3 : min i l.length = 0 := h2; omega
            unfold nameB tokB
            rw [hall, decide_eq_true (by rw [List.length_take]; omega)]
            simpa using this
          have hw : IntKind.i64.wrap ((i : Int) + 1) = ((i + 1 : Nat) : Int) := by rw [wrap_in (by omega) (by omega)]; omega
          simp [hw, -Int.natCast_add]
          refine VL_go (dlInv2 l i H) (fun fr _ => l.length - (ai (aget fr 7)).toNat) ⟨rfl, i + 1, by omega, by omega, by simp [fldB], fr_intro (by simp)⟩ ?_
          rintro fr H' ⟨rfl, k, hk, hk2, hfl, y, rfl⟩
          by_cases hkl : k < l.length
          · obtain ⟨b, hbk⟩ : ∃ b, l[k]? = some b := ⟨_, List.getElem?_eq_getElem hkl⟩
            have hat := lat_eq hbk
            have hwk : IntKind.i64.wrap ((k : Int) + 1) = k + 1 := wrap_in (by omega) (by omega)
            have hdk : (l.drop (i + 1))[k - (i + 1)]? = some b := by rw [List.getElem?_drop, show i + 1 + (k - (i + 1)) = k by omega]; exact hbk
            simp [hkl, hat]
            refine inside_pc E _ _ b ?_
            cases hs : fcB b with
            | false =>
              have hno : lineF l = none := lineF_val (by rw [hc]; exact all_bad fcB _ _ b hdk hs)
              simp
              exact bad _ k 61 hno (by decide) rfl rfl rfl
            | true =>
              simp [hwk]
              refine Kloop_normal ⟨rfl, k + 1, by omega, by omega, ?_, fr_intro (by simp)⟩ (by simp; omega)
              rw [show k + 1 - (i + 1) = k - (i + 1) + 1 by omega, fldB, all_take fcB _ _ b hdk]
              rw [fldB] at hfl
              rw [hfl, hs]; rfl
          · have hfl' : fldB (l.drop (i + 1)) = true := by
              rw [List.take_of_length_le (by rw [List.length_drop]; omega)] at hfl; exact hfl
            have hi1 : i + 1 ≤ l.length := by omega
            simp [hkl, hw, hi1, -Int.natCast_add]
            refine ref_trim_pc E _ _ (l.drop (i + 1)) (by rw [List.length_drop]; omega) ?_
            have htl := trimB_len (l.drop (i + 1))
            rw [List.length_drop] at htl
            by_cases hbig : 8192 < (trimB (l.drop (i + 1))).length
            · have hno : lineF l = none := lineF_big (by rw [hc]; exact hbig)
              have hbig' : (8192 : Int) < (trimB (l.drop (i + 1))).length := by omega
              simp [hbig', hw, -Int.natCast_add]
              refine VL_go (dlInv3 l i H) (fun fr _ => l.length - (ai (aget fr 9)).toNat) ⟨rfl, i + 1, by omega, by omega, by simp, fr_intro (by simp)⟩ ?_
              rintro fr H' ⟨rfl, m, hm, hm2, hbl, z, rfl⟩
              have hml : m < l.length := by
                apply Nat.lt_of_not_le
                intro hge
                rw [List.take_of_length_le (by rw [List.length_drop]; omega)] at hbl
                rw [trimB_all _ hbl] at hbig
                simp at hbig
              obtain ⟨b, hbm⟩ : ∃ b, l[m]? = some b := ⟨_, List.getElem?_eq_getElem hml⟩
              have hat := lat_eq hbm
              have hwm : IntKind.i64.wrap ((m : Int) + 1) = m + 1 := wrap_in (by omega) (by omega)
              have hwm2 : IntKind.i64.wrap ((m : Int) + 8192) = m + 8192 := wrap_in (by omega) (by omega)
              have hdm : (l.drop (i + 1))[m - (i + 1)]? = some b := by rw [List.getElem?_drop, show i + 1 + (m - (i + 1)) = m by omega]; exact hbm
              simp [hml, hat]
              refine ref_blank_pc E _ _ b ?_
              cases hs : blankB b with
              | false =>
                simp [hwm2]
                exact bad _ (m + 8192) 61 hno (by decide) rfl rfl rfl
              | true =>
                simp [hwm]
                refine Kloop_normal ⟨rfl, m + 1, by omega, by omega, ?_, fr_intro (by simp)⟩ (by simp; omega)
                rw [show m + 1 - (i + 1) = m - (i + 1) + 1 by omega, all_take blankB _ _ b hdm, hbl, hs]; rfl
            · have hbig' : ¬ (8192 : Int) < (trimB (l.drop (i + 1))).length := by omega
              have hf : lineF l = some ⟨l.take i, trimB (l.drop (i + 1))⟩ := by
                unfold lineF; rw [hc, if_pos ⟨hcc, hnm, hfl', by omega⟩]
              have hil : i ≤ l.length := by omega
              simp [hbig', hil]
              exact aPost_same hB (v0 := .tup [.agg [.str (l.take i), .str (trimB (l.drop (i + 1)))], .int .i64 0, .int .i64 0]) (by simp) (nilV_refl _) (by simp) (hQ1 _ hf)
end
end Go.Proofs.YtcdkcaocfioigaaGreatDoor

set_option linter.unusedVariables false
set_option linter.unnecessarySimpa false
set_option linter.unusedSimpArgs false
set_option linter.unusedSectionVars false
set_option maxRecDepth 100000
namespace Go.Proofs.YtcdkcaocfioigaaGreatDoor
open Go Go.RowKit Go.Proofs

/-- The place of the first 10 from a on, if fewer than m bytes stand ahead of it. -/
def endAns (l : List UInt8) (a m : Nat) : Int := if a + run not10 (l.drop a) < l.length ∧ run not10 (l.drop a) < m then ((a + run not10 (l.drop a) : Nat) : Int) else -1
/-- What the document tells of a text: how far, the error, done, the body, the trailers. -/
def wkA (t e : Int) (d : Bool) (b : List UInt8) (z : AV) : AV := .agg [.int .i64 t, .int .i64 e, .bool d, .str b, z]
section
variable (E : Env) (H : Hp) (Q : AV → Hp → Prop)
def endInv (l : List UInt8) (a m : Nat) (H : Hp) (fr : List AV) (H' : Hp) : Prop := H' = H ∧ ∃ n : Nat, a + n ≤ l.length ∧ n ≤ m ∧ ((l.drop a).take n).all not10 = true ∧ ∃ x : Nat → AV, fr = [.str l, .int .i64 a, .int .i64 m, x 3, x 4, x 5, x 6, .int .i64 (a + n : Nat), x 8, x 9, x 10, x 11, x 12, x 13, x 14, x 15, x 16, x 17, x 18, x 19, x 20, x 21, x 22, x 23, x 24, x 25, x 26]
theorem ending_pc (l : List UInt8) (a m : Nat) (hl : l.length ≤ 1000000000) (ha : a ≤ l.length) (hm : m ≤ 1000000000) (hQ : Q (.int .i64 (endAns l a m)) H) : PC Tryz.prog E 125 [.str l, .int .i64 a, .int .i64 m] H Q := by
  refine pc_enter Tryz.func125 rfl [] [] (by kernel_rfl) (fun hB => ?_)
  simp [Tryz.ntmps125, Tryz.results125, List.replicate_succ]
  refine VL_go (endInv l a m H) (fun fr _ => l.length - (ai (aget fr 7)).toNat) ⟨rfl, 0, by omega, by omega, rfl, fr_intro (by simp)⟩ ?_
  rintro fr H' ⟨rfl, n, hn, hnm, hall, x, rfl⟩
  obtain ⟨i, hi⟩ : ∃ i, i = a + n := ⟨_, rfl⟩
  rw [← hi] at hn ⊢
  have hw : IntKind.i64.wrap ((i : Int) + 1) = i + 1 := wrap_in (by omega) (by omega)
  have hw2 : IntKind.i64.wrap ((i : Int) - a) = n := by rw [wrap_in (by omega) (by omega)]; omega
  by_cases h : i < l.length
  · obtain ⟨b, hb⟩ : ∃ b, l[i]? = some b := ⟨_, List.getElem?_eq_getElem h⟩
    have hb2 : (l.drop a)[n]? = some b := by rw [List.getElem?_drop, ← hi]; exact hb
    have hat := lat_eq hb
    by_cases hnm2 : n < m
    · by_cases h10 : b = 10
      · subst h10
        have hr : run not10 (l.drop a) = n := run_step not10 _ n hall (by rw [List.length_drop]; omega) (fun c hc => by rw [hb2] at hc; cases hc; rfl)
        have he : endAns l a m = (i : Int) := by unfold endAns; rw [hr, if_pos ⟨by omega, hnm2⟩, ← hi]
        rw [he] at hQ
        simp [h, hw2, hnm2, hat]
        exact aPost_same0 hB rfl (nilV_refl _) (by simp) hQ
      · have t1 : ((b.toNat : Int) == 10) = false := byte_ne b 10 (by omega) h10
        simp [h, hw2, hnm2, hat, t1, hw]
        exact Kloop_normal ⟨rfl, n + 1, by omega, by omega, by rw [all_step not10 (l.drop a) n b hb2, hall]; simp [not10, h10], fr_intro (by simp; omega)⟩ (by simp; omega)
    · have he : endAns l a m = -1 := by
        unfold endAns; rw [if_neg]; rintro ⟨h1, h2⟩
        have h3 := run_stop (p := not10) (l := l.drop a) (by rw [List.length_drop]; omega)
        obtain ⟨c, h4, h5⟩ := h3
        have : run not10 (l.drop a) < n := by omega
        have h6 : ((l.drop a).take n)[run not10 (l.drop a)]? = some c := by rw [List.getElem?_take_of_lt this]; exact h4
        rw [all_bad not10 _ _ c h6 h5] at hall; cases hall
      rw [he] at hQ
      simp [h, hw2, hnm2]
      exact aPost_same0 hB rfl (nilV_refl _) (by simp) hQ
  · have he : endAns l a m = -1 := by
      have hr : run not10 (l.drop a) = n := run_step not10 _ n hall (by rw [List.length_drop]; omega) (fun c hc => by rw [List.getElem?_drop] at hc; have := (List.getElem?_eq_some_iff.1 hc).1; omega)
      unfold endAns; rw [hr, if_neg]; rintro ⟨h1, h2⟩; omega
    rw [he] at hQ
    simp [h]
    exact aPost_same0 hB rfl (nilV_refl _) (by simp) hQ
variable (t e : Int) (d : Bool) (b : List UInt8) (z : AV) (z1 : z.dis = z) (z2 : z.free = true) (z3 : Bnd H.length z)
include z1 z2 z3
theorem failed_pc (a : Nat) (e' : Int) (ha : a ≤ 1000000000) (hQ : Q (wkA (a + 1 : Nat) e' d b z) H) : PC Tryz.prog E 127 [wkA t e d b z, .int .i64 a, .int .i64 e'] H Q := by
  refine pc_enter Tryz.func127 rfl [] [] (by kernel_rfl) (fun hB => ?_)
  have hw : IntKind.i64.wrap ((a : Int) + 1) = ((a + 1 : Nat) : Int) := by rw [wrap_in (by omega) (by omega)]; omega
  simp [Tryz.ntmps127, Tryz.results127, List.replicate_succ, wkA, hw, z1, z2, -Int.natCast_add]
  exact aPost_same hB (v0 := wkA (a + 1 : Nat) e' d b z) (by simp [wkA, z1, z2, -Int.natCast_add]) (nilV_refl _) (by simp [wkA, z3]) hQ
theorem open_pc (l : List UInt8) (a n : Nat) (e' : Int) (hl : l.length ≤ 1000000000) (ha : a ≤ l.length) (hQ1 : n < l.length - a → Q (wkA (a + n + 1 : Nat) e' d b z) H) (hQ2 : l.length - a ≤ n → Q (wkA l.length e d b z) H) :
    PC Tryz.prog E 126 [wkA t e d b z, .str l, .int .i64 a, .int .i64 n, .int .i64 e'] H Q := by
  refine pc_enter Tryz.func126 rfl [] [] (by kernel_rfl) (fun hB => ?_)
  have hw1 : IntKind.i64.wrap ((l.length : Int) - a) = ((l.length - a : Nat) : Int) := by rw [wrap_in (by omega) (by omega)]; omega
  by_cases h : n < l.length - a
  · have hw2 : IntKind.i64.wrap ((a : Int) + n) = ((a + n : Nat) : Int) := by rw [wrap_in (by omega) (by omega)]; omega
    have h' : (n : Int) < ((l.length - a : Nat) : Int) := by omega
    simp [Tryz.ntmps126, Tryz.results126, List.replicate_succ, wkA, hw1, hw2, h', z1, z2, -Int.natCast_add]
    refine failed_pc E _ _ t e d b z z1 z2 (z3.mono (by simp)) (a + n) e' (by omega) ?_
    simp [wkA, z1, z2, -Int.natCast_add]
    exact aPost_same hB (v0 := wkA (a + n + 1 : Nat) e' d b z) (by simp [wkA, z1, z2, -Int.natCast_add]) (nilV_refl _) (by simp [wkA, z3]) (hQ1 h)
  · have h' : ¬ (n : Int) < ((l.length - a : Nat) : Int) := by omega
    simp [Tryz.ntmps126, Tryz.results126, List.replicate_succ, wkA, hw1, h', z1, z2, -Int.natCast_add]
    exact aPost_same hB (v0 := wkA l.length e d b z) (by simp [wkA, z1, z2, -Int.natCast_add]) (nilV_refl _) (by simp [wkA, z3]) (hQ2 (by omega))
end
end Go.Proofs.YtcdkcaocfioigaaGreatDoor

set_option linter.unusedVariables false
set_option linter.unnecessarySimpa false
set_option linter.unusedSimpArgs false
set_option linter.unusedSectionVars false
set_option maxRecDepth 100000
namespace Go.Proofs.YtcdkcaocfioigaaGreatDoor
open Go Go.RowKit Go.Proofs

section
variable (m r f : Int)
def szD (B : List UInt8) (a : Nat) : Dec := ⟨m, r, f, .size, [], 0, B, [], 0, a, false, 0⟩
def daD (B : List UInt8) (n : Int) (a : Nat) : Dec := ⟨m, r, f, .data, [], n, B, [], 0, a, false, 0⟩
def phD (i : Nat) (B : List UInt8) (a : Nat) : Dec := ⟨m, r, f, if i = 0 then .first else if i = 1 then .second else .size, [], 0, B, [], 0, a, false, 0⟩
def trD (B : List UInt8) (T : List Fld) (sec : Nat) (a : Nat) : Dec := ⟨m, r, f, .trailer, [], 0, B, T, sec, a, false, 0⟩
/-- The decoder is at a place of the text. -/
def Fw (s : List UInt8) (d : Dec) (a : Nat) : Prop := feedD (newD m r f) s = ((feedD d (s.drop a)).1, (feedD d (s.drop a)).2 + a)
/-- What came of the text. -/
def Ends (s : List UInt8) (t : Nat) (e : Int) (dn : Bool) (B : List UInt8) (T : List Fld) : Prop :=
  (feedD (newD m r f) s).2 = t ∧ (feedD (newD m r f) s).1.err = e ∧ (feedD (newD m r f) s).1.done = dn ∧ (feedD (newD m r f) s).1.body = B ∧ (feedD (newD m r f) s).1.trailers = T
variable {m r f} {s : List UInt8} {d d1 : Dec} {a n : Nat} {b : UInt8} {B : List UInt8} {T : List Fld} {sec : Nat}
theorem fw_new : Fw m r f s (szD m r f [] 0) 0 := rfl
theorem Fw.step (h : Fw m r f s d a) (h1 : feedD d ((s.drop a).take n) = (d1, ((s.drop a).take n).length)) (hg : goD d1) (hb : s[a + n]? = some b) :
    (goD (feed1 d1 b) → Fw m r f s (feed1 d1 b) (a + n + 1)) ∧ ((feed1 d1 b).done = true ∨ (feed1 d1 b).err ≠ 0 → feedD (newD m r f) s = (feed1 d1 b, a + n + 1)) := by
  have hlt := (List.getElem?_eq_some_iff.1 hb).1
  have hlen : ((s.drop a).take n).length = n := by rw [List.length_take, List.length_drop]; omega
  have hs : s.drop a = (s.drop a).take n ++ b :: s.drop (a + n + 1) := by
    have h2 : (s.drop a).drop n = b :: s.drop (a + n + 1) := by
      rw [List.drop_drop, List.drop_eq_getElem_cons hlt]
      rw [(List.getElem?_eq_some_iff.1 hb).2]
    conv => lhs; rw [← List.take_append_drop n (s.drop a), h2]
  have hc := feedD_cat _ d d1 (b :: s.drop (a + n + 1)) h1 hg
  rw [← hs, hlen] at hc
  constructor
  · intro hg2
    unfold Fw at h ⊢
    rw [h, hc, feedD_go _ hg2]
    simp; omega
  · intro hst
    unfold Fw at h
    rw [h, hc, feedD_stop _ hst]
    simp; omega
theorem Fw.all (h : Fw m r f s d a) (ha : a ≤ s.length) (h1 : feedD d (s.drop a) = (d1, (s.drop a).length)) : Ends m r f s s.length d1.err d1.done d1.body d1.trailers := by
  unfold Fw at h
  rw [h1] at h
  unfold Ends
  rw [h]
  rw [List.length_drop]
  exact ⟨by simp only; omega, rfl, rfl, rfl, rfl⟩
theorem ends_of {t : Nat} (h : feedD (newD m r f) s = (d1, t)) : Ends m r f s t d1.err d1.done d1.body d1.trailers := by
  unfold Ends; rw [h]; exact ⟨rfl, rfl, rfl, rfl, rfl⟩
theorem not10_take {k : Nat} (h : k ≤ run not10 (s.drop a)) : ∀ c ∈ (s.drop a).take k, c ≠ 10 := by
  intro c hc
  have := List.all_eq_true.1 (run_take h) c hc
  simpa [not10] using this
theorem at10 (hj : a + n < s.length) (hn : run not10 (s.drop a) = n) : s[a + n]? = some 10 := by
  obtain ⟨c, h1, h2⟩ := run_stop (p := not10) (l := s.drop a) (by rw [List.length_drop]; omega)
  rw [hn, List.getElem?_drop] at h1
  simp [not10] at h2
  rw [h1, h2]
theorem feed1_over (d : Dec) (b : UInt8) (hs : d.st = .size) (hb : b ≠ 10) (hl : d.line.length = 255) : feed1 d b = { d with line := d.line ++ [b], total := d.total + 1, err := 100 } := by
  unfold feed1 stepD
  simp only [hs, sizeD, hb, if_pos, ne_eq, not_false_eq_true]
  rw [if_pos (by simp; omega)]
theorem sz_over (h : Fw m r f s (szD m r f B a) a) (hl : a + 255 < s.length) (hn : 256 ≤ run not10 (s.drop a)) : Ends m r f s (a + 256) 100 false B [] := by
  obtain ⟨b, hb⟩ : ∃ b, s[a + 255]? = some b := ⟨_, List.getElem?_eq_getElem hl⟩
  have hlen : ((s.drop a).take 255).length = 255 := by rw [List.length_take, List.length_drop]; omega
  have hr := run_size ((s.drop a).take 255) (szD m r f B a) rfl ⟨rfl, rfl⟩ (not10_take (by omega)) (by simp only [szD, hlen]; decide)
  have hbn : b ≠ 10 := by
    have := run_at (p := not10) (l := s.drop a) (k := 255) (by omega) (by rw [List.getElem?_drop]; exact hb)
    simpa [not10] using this
  have h1 := feed1_over { szD m r f B a with line := (szD m r f B a).line ++ (s.drop a).take 255, total := (szD m r f B a).total + ((s.drop a).take 255).length } b rfl hbn (by simp only [szD, List.nil_append]; exact hlen)
  have hst := h.step hr ⟨rfl, rfl⟩ hb
  rw [h1] at hst
  exact ends_of (hst.2 (.inr (by show (100 : Int) ≠ 0; decide)))
theorem sz_open (h : Fw m r f s (szD m r f B a) a) (ha : a ≤ s.length) (hl : s.length - a ≤ 255) (hn : s.length - a ≤ run not10 (s.drop a)) : Ends m r f s s.length 0 false B [] := by
  have hr := run_size (s.drop a) (szD m r f B a) rfl ⟨rfl, rfl⟩ (by
    have := not10_take (s := s) (a := a) (k := s.length - a) hn
    rwa [List.take_of_length_le (by rw [List.length_drop]; omega)] at this) (by rw [List.length_drop]; simp only [szD, List.length_nil]; omega)
  exact h.all ha hr
section
variable (h : Fw m r f s (szD m r f B a) a) (hj : a + n < s.length) (hn : run not10 (s.drop a) = n) (h256 : n < 256)
include h hj hn h256
theorem sz_run : (goD (feed1 { szD m r f B a with line := (s.drop a).take n, total := a + n } 10) → Fw m r f s (feed1 { szD m r f B a with line := (s.drop a).take n, total := a + n } 10) (a + n + 1)) ∧
    ((feed1 { szD m r f B a with line := (s.drop a).take n, total := a + n } 10).done = true ∨ (feed1 { szD m r f B a with line := (s.drop a).take n, total := a + n } 10).err ≠ 0 → feedD (newD m r f) s = (feed1 { szD m r f B a with line := (s.drop a).take n, total := a + n } 10, a + n + 1)) := by
  have hlen : ((s.drop a).take n).length = n := by rw [List.length_take, List.length_drop]; omega
  have hr := run_size ((s.drop a).take n) (szD m r f B a) rfl ⟨rfl, rfl⟩ (not10_take (by omega)) (by rw [hlen]; simp only [szD, List.length_nil]; omega)
  have he : ({ szD m r f B a with line := (szD m r f B a).line ++ (s.drop a).take n, total := (szD m r f B a).total + ((s.drop a).take n).length } : Dec) = { szD m r f B a with line := (s.drop a).take n, total := a + n } := by
    rw [hlen]; rfl
  rw [he] at hr
  exact h.step hr ⟨rfl, rfl⟩ (at10 hj hn)
theorem sz_none (hx : endL ((s.drop a).take n ++ [10]) = none) : Ends m r f s (a + n + 1) 100 false B [] := by
  have h1 : feed1 { szD m r f B a with line := (s.drop a).take n, total := a + n } 10 = { szD m r f B a with line := [], total := a + n + 1, err := 100 } := by
    rw [feed1_size _ rfl]
    simp only [szD]
    rw [hx]
    rfl
  have := sz_run h hj hn h256
  rw [h1] at this
  exact ends_of (this.2 (.inr (by simp)))
variable {l : List UInt8} (hx : endL ((s.drop a).take n ++ [10]) = some l)
include hx
theorem sz_bad (he : (sizeAns l).2.2 ≠ 0) : Ends m r f s (a + n + 1) (sizeAns l).2.2 false B [] := by
  have h1 : feed1 { szD m r f B a with line := (s.drop a).take n, total := a + n } 10 = { szD m r f B a with line := [], total := a + n + 1, err := (sizeAns l).2.2 } := by
    rw [feed1_size _ rfl]
    simp only [szD]
    rw [hx]
    simp only [sizeE]
    rw [if_pos he]
  have := sz_run h hj hn h256
  rw [h1] at this
  exact ends_of (this.2 (.inr he))
variable (he : (sizeAns l).2.2 = 0)
include he
theorem sz_much (hm : m - B.length < (sizeAns l).1) : Ends m r f s (a + n + 1) 102 false B [] := by
  have h1 : feed1 { szD m r f B a with line := (s.drop a).take n, total := a + n } 10 = { szD m r f B a with line := [], total := a + n + 1, err := 102 } := by
    rw [feed1_size _ rfl]
    simp only [szD]
    rw [hx]
    simp only [sizeE]
    rw [if_neg (by simpa using he), if_pos hm]
  have := sz_run h hj hn h256
  rw [h1] at this
  exact ends_of (this.2 (.inr (by simp)))
theorem sz_trail (hm : ¬ m - B.length < (sizeAns l).1) (h0 : (sizeAns l).1 = 0) : Fw m r f s (trD m r f B [] 0 (a + n + 1)) (a + n + 1) := by
  have h1 : feed1 { szD m r f B a with line := (s.drop a).take n, total := a + n } 10 = trD m r f B [] 0 (a + n + 1) := by
    rw [feed1_size _ rfl]
    simp only [szD]
    rw [hx]
    simp only [sizeE]
    rw [if_neg (by simpa using he), if_neg hm, if_pos h0]
    rfl
  have := sz_run h hj hn h256
  rw [h1] at this
  exact this.1 ⟨rfl, rfl⟩
theorem sz_data (hm : ¬ m - B.length < (sizeAns l).1) (h0 : (sizeAns l).1 ≠ 0) : Fw m r f s (daD m r f B (sizeAns l).1 (a + n + 1)) (a + n + 1) := by
  have h1 : feed1 { szD m r f B a with line := (s.drop a).take n, total := a + n } 10 = daD m r f B (sizeAns l).1 (a + n + 1) := by
    rw [feed1_size _ rfl]
    simp only [szD]
    rw [hx]
    simp only [sizeE]
    rw [if_neg (by simpa using he), if_neg hm, if_neg h0]
    rfl
  have := sz_run h hj hn h256
  rw [h1] at this
  exact this.1 ⟨rfl, rfl⟩
end
theorem da_open {k : Int} (h : Fw m r f s (daD m r f B k a) a) (ha : a ≤ s.length) (hk : ((s.length - a : Nat) : Int) < k) : Ends m r f s s.length 0 false (B ++ s.drop a) [] :=
  h.all ha (run_data (s.drop a) (daD m r f B k a) rfl ⟨rfl, rfl⟩ (by rw [List.length_drop]; exact hk))
theorem da_full {k : Nat} (h : Fw m r f s (daD m r f B (k : Int) a) a) (hk : 0 < k) (hl : a + k ≤ s.length) : Fw m r f s (phD m r f 0 (B ++ (s.drop a).take k) (a + k)) (a + k) := by
  have hlen : ((s.drop a).take k).length = k := by rw [List.length_take, List.length_drop]; omega
  have h1 := full_data ((s.drop a).take k) (daD m r f B (k : Int) a) rfl ⟨rfl, rfl⟩ (by intro e; rw [e] at hlen; simp at hlen; omega) (by rw [hlen]; rfl)
  have h2 := feedD_cat _ _ _ (s.drop (a + k)) h1 ⟨rfl, rfl⟩
  rw [show (s.drop a).take k ++ s.drop (a + k) = s.drop a by rw [← List.drop_drop, List.take_append_drop], hlen] at h2
  unfold Fw at h ⊢
  rw [h, h2]
  simp only [daD, phD, if_pos]
  refine Prod.ext rfl ?_
  show _ + k + a = _ + (a + k)
  omega
theorem ph_open {i : Nat} (h : Fw m r f s (phD m r f i B a) a) (ha : a = s.length) : Ends m r f s s.length 0 false B [] := by
  refine h.all (by omega) (d1 := phD m r f i B a) ?_
  rw [List.drop_of_length_le (by omega)]; rfl
theorem Fw.one (h : Fw m r f s d a) (hg : goD d) (hb : s[a]? = some b) : (goD (feed1 d b) → Fw m r f s (feed1 d b) (a + 1)) ∧ ((feed1 d b).done = true ∨ (feed1 d b).err ≠ 0 → feedD (newD m r f) s = (feed1 d b, a + 1)) :=
  h.step (n := 0) (by simp [feedD]) hg hb
theorem ph_bad {i : Nat} (hi : i < 2) (h : Fw m r f s (phD m r f i B a) a) (hb : s[a]? = some b) (hne : b ≠ if i = 0 then 13 else 10) : Ends m r f s (a + 1) 100 false B [] := by
  have h1 : feed1 (phD m r f i B a) b = { phD m r f i B a with total := a + 1, err := 100 } := by
    rcases (by omega : i = 0 ∨ i = 1) with rfl | rfl
    · simp at hne; simp [feed1, stepD, phD, firstD, hne]
    · simp at hne; simp [feed1, stepD, phD, secondD, hne]
  have := h.one ⟨rfl, rfl⟩ hb
  rw [h1] at this
  exact ends_of (this.2 (.inr (by simp)))
theorem ph_go {i : Nat} (hi : i < 2) (h : Fw m r f s (phD m r f i B a) a) (hb : s[a]? = some (if i = 0 then 13 else 10)) : Fw m r f s (phD m r f (i + 1) B (a + 1)) (a + 1) := by
  have h1 : feed1 (phD m r f i B a) (if i = 0 then 13 else 10) = phD m r f (i + 1) B (a + 1) := by
    rcases (by omega : i = 0 ∨ i = 1) with rfl | rfl
    · simp [feed1, stepD, phD, firstD]
    · simp [feed1, stepD, phD, secondD]
  have := h.one ⟨rfl, rfl⟩ hb
  rw [h1] at this
  exact this.1 ⟨rfl, rfl⟩
theorem ph_two : phD m r f 2 B a = szD m r f B a := rfl
theorem trailE_many (d : Dec) (l : List UInt8) (hl : l ≠ []) (hf : d.fields ≤ d.trailers.length) : trailE d (some l) = ({ d with section_ := d.section_ + 1, line := [] }, 104) := by
  simp only [trailE]; rw [if_neg hl, if_pos hf]
theorem trailE_bad (d : Dec) (l : List UInt8) (hl : l ≠ []) (hf : ¬ d.fields ≤ d.trailers.length) (hb : lineF l = none ∨ ∃ g, lineF l = some g ∧ mayB g.name = false) : trailE d (some l) = ({ d with section_ := d.section_ + 1, line := [] }, 101) := by
  simp only [trailE]
  rw [if_neg hl, if_neg hf]
  rcases hb with hb | ⟨g, hb, hg⟩
  · rw [hb]
  · rw [hb]; simp [hg]
theorem trailE_go (d : Dec) (l : List UInt8) (hl : l ≠ []) (hf : ¬ d.fields ≤ d.trailers.length) {g : Fld} (hb : lineF l = some g) (hg : mayB g.name = true) : trailE d (some l) = ({ d with section_ := d.section_ + 1, line := [], trailers := d.trailers ++ [g] }, 0) := by
  simp only [trailE]
  rw [if_neg hl, if_neg hf, hb]
  simp [hg]
theorem tr_over {k : Nat} (h : Fw m r f s (trD m r f B T sec a) a) (hk : r = (sec + k : Nat)) (hl : a + k < s.length) (hn : k ≤ run not10 (s.drop a)) : Ends m r f s (a + k + 1) 104 false B T := by
  obtain ⟨b, hb⟩ : ∃ b, s[a + k]? = some b := ⟨_, List.getElem?_eq_getElem hl⟩
  have hlen : ((s.drop a).take k).length = k := by rw [List.length_take, List.length_drop]; omega
  have hr := run_trail ((s.drop a).take k) (trD m r f B T sec a) rfl ⟨rfl, rfl⟩ (not10_take (by omega)) (by rw [hlen]; simp only [trD]; omega)
  have h1 : feed1 { trD m r f B T sec a with line := (trD m r f B T sec a).line ++ (s.drop a).take k, section_ := (trD m r f B T sec a).section_ + ((s.drop a).take k).length, total := (trD m r f B T sec a).total + ((s.drop a).take k).length } b = { trD m r f B T sec a with line := (s.drop a).take k, section_ := sec + k, total := a + k + 1, err := 104 } := by
    unfold feed1 stepD
    simp only [trD, trailerD, hlen]
    rw [if_pos (by omega)]
    rfl
  have hst := h.step hr ⟨rfl, rfl⟩ hb
  rw [h1] at hst
  exact ends_of (hst.2 (.inr (by simp)))
theorem tr_open (h : Fw m r f s (trD m r f B T sec a) a) (ha : a ≤ s.length) (hl : ((sec + (s.length - a) : Nat) : Int) ≤ r) (hn : s.length - a ≤ run not10 (s.drop a)) : Ends m r f s s.length 0 false B T := by
  have hr := run_trail (s.drop a) (trD m r f B T sec a) rfl ⟨rfl, rfl⟩ (by
    have := not10_take (s := s) (a := a) (k := s.length - a) hn
    rwa [List.take_of_length_le (by rw [List.length_drop]; omega)] at this) (by rw [List.length_drop]; simp only [trD]; omega)
  exact h.all ha hr
section
variable (h : Fw m r f s (trD m r f B T sec a) a) (hj : a + n < s.length) (hn : run not10 (s.drop a) = n) (hr : ((sec + n : Nat) : Int) < r)
include h hj hn hr
theorem tr_run : (goD (feed1 { trD m r f B T sec a with line := (s.drop a).take n, section_ := sec + n, total := a + n } 10) → Fw m r f s (feed1 { trD m r f B T sec a with line := (s.drop a).take n, section_ := sec + n, total := a + n } 10) (a + n + 1)) ∧
    ((feed1 { trD m r f B T sec a with line := (s.drop a).take n, section_ := sec + n, total := a + n } 10).done = true ∨ (feed1 { trD m r f B T sec a with line := (s.drop a).take n, section_ := sec + n, total := a + n } 10).err ≠ 0 → feedD (newD m r f) s = (feed1 { trD m r f B T sec a with line := (s.drop a).take n, section_ := sec + n, total := a + n } 10, a + n + 1)) := by
  have hlen : ((s.drop a).take n).length = n := by rw [List.length_take, List.length_drop]; omega
  have hr := run_trail ((s.drop a).take n) (trD m r f B T sec a) rfl ⟨rfl, rfl⟩ (not10_take (by omega)) (by rw [hlen]; simp only [trD]; omega)
  have he : ({ trD m r f B T sec a with line := (trD m r f B T sec a).line ++ (s.drop a).take n, section_ := (trD m r f B T sec a).section_ + ((s.drop a).take n).length, total := (trD m r f B T sec a).total + ((s.drop a).take n).length } : Dec) = { trD m r f B T sec a with line := (s.drop a).take n, section_ := sec + n, total := a + n } := by
    rw [hlen]; rfl
  rw [he] at hr
  exact h.step hr ⟨rfl, rfl⟩ (at10 hj hn)
theorem tr_ends {e : Int} {dn : Bool} {T' : List Fld} (hx : (trailE { trD m r f B T sec a with line := (s.drop a).take n, section_ := sec + n, total := a + n + 1 } (endL ((s.drop a).take n ++ [10]))).2 = e) (hd : (trailE { trD m r f B T sec a with line := (s.drop a).take n, section_ := sec + n, total := a + n + 1 } (endL ((s.drop a).take n ++ [10]))).1.done = dn)
    (hb : (trailE { trD m r f B T sec a with line := (s.drop a).take n, section_ := sec + n, total := a + n + 1 } (endL ((s.drop a).take n ++ [10]))).1.body = B) (ht : (trailE { trD m r f B T sec a with line := (s.drop a).take n, section_ := sec + n, total := a + n + 1 } (endL ((s.drop a).take n ++ [10]))).1.trailers = T') (hst : dn = true ∨ e ≠ 0) : Ends m r f s (a + n + 1) e dn B T' := by
  have h1 := feed1_trail { trD m r f B T sec a with line := (s.drop a).take n, section_ := sec + n, total := a + n } rfl hr
  have h2 := (tr_run h hj hn hr).2 (by rw [h1]; simp only; rw [hx, hd]; exact hst)
  rw [h1] at h2
  have := ends_of h2
  simp only at this
  rw [hx, hd, hb, ht] at this
  exact this
theorem tr_none (hx : endL ((s.drop a).take n ++ [10]) = none) : Ends m r f s (a + n + 1) 101 false B T := by
  refine tr_ends h hj hn hr ?_ ?_ ?_ ?_ (.inr (by simp)) <;> rw [hx] <;> rfl
theorem tr_done (hx : endL ((s.drop a).take n ++ [10]) = some []) : Ends m r f s (a + n + 1) 0 true B T := by
  refine tr_ends h hj hn hr ?_ ?_ ?_ ?_ (.inl rfl) <;> rw [hx] <;> rfl
variable {l : List UInt8} (hx : endL ((s.drop a).take n ++ [10]) = some l) (hl : l ≠ [])
include hx hl
theorem tr_many (hf : f ≤ T.length) : Ends m r f s (a + n + 1) 104 false B T := by
  refine tr_ends h hj hn hr ?_ ?_ ?_ ?_ (.inr (by simp)) <;> rw [hx, trailE_many _ l hl hf] <;> rfl
variable (hf : ¬ f ≤ T.length)
include hf
theorem tr_bad (hb : lineF l = none ∨ ∃ g, lineF l = some g ∧ mayB g.name = false) : Ends m r f s (a + n + 1) 101 false B T := by
  refine tr_ends h hj hn hr ?_ ?_ ?_ ?_ (.inr (by simp)) <;> rw [hx, trailE_bad _ l hl hf hb] <;> rfl
theorem tr_go {g : Fld} (hb : lineF l = some g) (hg : mayB g.name = true) : Fw m r f s (trD m r f B (T ++ [g]) (sec + n + 1) (a + n + 1)) (a + n + 1) := by
  have h1 := feed1_trail { trD m r f B T sec a with line := (s.drop a).take n, section_ := sec + n, total := a + n } rfl hr
  have h3 : feed1 { trD m r f B T sec a with line := (s.drop a).take n, section_ := sec + n, total := a + n } 10 = trD m r f B (T ++ [g]) (sec + n + 1) (a + n + 1) := by
    rw [h1]
    have := trailE_go { trD m r f B T sec a with line := (s.drop a).take n, section_ := sec + n, total := a + n + 1 } l hl hf hb hg
    rw [← hx] at this
    have e : ∀ (p : Dec × Int) (q : Dec × Int), p = q → ({ p.1 with err := p.2 } : Dec) = { q.1 with err := q.2 } := fun p q h => h ▸ rfl
    exact e _ _ this
  have := (tr_run h hj hn hr).1
  rw [h3] at this
  exact this ⟨rfl, rfl⟩
end
end
end Go.Proofs.YtcdkcaocfioigaaGreatDoor

set_option linter.unusedVariables false
set_option linter.unnecessarySimpa false
set_option linter.unusedSimpArgs false
set_option linter.unusedSectionVars false
set_option maxRecDepth 100000
namespace Go.Proofs.YtcdkcaocfioigaaGreatDoor
open Go Go.RowKit Go.Proofs

section
variable (E : Env) (H : Hp) (Q : AV → Hp → Prop)
def trInv (m r f : Int) (s : List UInt8) (fm : Nat) (B : List UInt8) (H : Hp) (fr : List AV) (H' : Hp) : Prop :=
  ∃ (J : Hp) (a : Nat) (T : List Fld), H' = H ++ [.int .i64 0, .int .i64 0, .bool false, .str B, .sl true 2 (flds T)] :: [.int .i64 0, .int .i64 0, .bool false, .str [], .nil] :: J ∧ fm ≤ a ∧ a ≤ s.length ∧ ((a - fm : Nat) : Int) ≤ r ∧ T.length ≤ a - fm ∧ Fw m r f s (trD m r f B T (a - fm) a) a ∧
    ∃ x : Nat → AV, fr = [x 0, .str s, .int .i64 fm, .int .i64 r, .int .i64 f, .ptr (some (H.length, 0)), x 6, x 7, x 8, x 9, .ptr (some (H.length + 1, 0)), .int .i64 a, x 12, x 13, x 14, x 15, x 16, x 17, x 18, x 19, x 20, x 21, x 22, x 23, x 24, x 25, x 26, x 27, x 28, x 29, x 30, x 31, x 32, x 33, x 34, x 35, x 36, x 37, x 38, x 39, x 40, x 41, x 42, x 43, x 44, x 45, x 46, x 47, x 48, x 49, x 50, x 51, x 52, x 53, x 54, x 55, x 56, x 57, x 58, x 59, x 60, x 61, x 62, x 63, x 64, x 65, x 66, x 67, x 68, x 69, x 70, x 71, x 72, x 73, x 74, x 75, x 76, x 77, x 78, x 79, x 80, x 81, x 82, x 83, x 84, x 85, x 86, x 87, x 88, x 89, x 90, x 91, x 92, x 93, x 94]
theorem bnd_tz {N : Nat} (T : List Fld) : Bnd N (.sl false 2 (flds T)) := bnd_flds _ _ T
set_option maxHeartbeats 2000000 in
theorem trail_pc (m f : Int) (r : Nat) (s : List UInt8) (fm : Nat) (B : List UInt8) (hs : s.length ≤ 1000000000) (hfm : fm ≤ s.length) (h0 : Fw m r f s (trD m r f B [] 0 fm) fm)
    (hQ : ∀ t e dn T, Ends m r f s t e dn B T → Q (wkA t e dn B (.sl false 2 (flds T))) H) :
    PC Tryz.prog E 129 [wkA 0 0 false B .nil, .str s, .int .i64 fm, .int .i64 r, .int .i64 f] H Q := by
  refine pc_enter Tryz.func129 rfl [88] [] (by kernel_rfl) (fun hB => ?_)
  have fin : ∀ (fr : List AV) (J : Hp) (c : List AV) (t : Nat) e dn T, Ends m r f s t e dn B T → aget fr 10 = .ptr (some (H.length + 1, 0)) → aPost Tryz.prog [ResultVar.cell 10 156] H.length Q .ret fr (H ++ c :: [.int .i64 t, .int .i64 e, .bool dn, .str B, .sl false 2 (flds T)] :: J) := fun fr J c t e dn T he h10 => by
    refine aPost_same (J := c :: [.int .i64 t, .int .i64 e, .bool dn, .str B, .sl false 2 (flds T)] :: J) hB (v0 := wkA t e dn B (.sl false 2 (flds T))) ?_ (nilV_refl _) (by simp [wkA, bnd_tz]) (hQ t e dn T he)
    simp [h10, wkA]
  simp [Tryz.ntmps129, Tryz.results129, List.replicate_succ, wkA]
  refine VL_nilH H.length _ 4 2 (by simp; rfl) (by rfl) ?_
  simp only [List.set_cons_succ, List.set_cons_zero]
  refine VL_go (trInv m r f s fm B H) (fun fr _ => s.length - (ai (aget fr 11)).toNat) ⟨[], fm, [], by simp [flds], by omega, hfm, by omega, by simp, by rw [Nat.sub_self]; exact h0, fr_intro (by simp)⟩ ?_
  rintro fr H' ⟨J, a, T, rfl, ha, hal, har, hT, hfw, x, rfl⟩
  obtain ⟨n, hn⟩ : ∃ n, run not10 (s.drop a) = n := ⟨_, rfl⟩
  have hnl := run_le not10 (s.drop a)
  rw [hn, List.length_drop] at hnl
  simp
  refine ending_pc E _ _ s a s.length hs hal hs ?_
  by_cases hj : a + n < s.length
  · have hea : endAns s a s.length = ((a + n : Nat) : Int) := by unfold endAns; rw [hn, if_pos ⟨hj, by omega⟩]
    rw [hea]
    obtain ⟨j, hjj⟩ : ∃ j, j = a + n := ⟨_, rfl⟩
    rw [← hjj]
    have hw1 : IntKind.i64.wrap ((j : Int) - fm) = ((j - fm : Nat) : Int) := by rw [wrap_in (by omega) (by omega)]; omega
    by_cases hroom : r ≤ j - fm
    · have hr' : (r : Int) ≤ ((j - fm : Nat) : Int) := by omega
      simp [hw1, hr']
      refine open_pc E _ _ 0 0 false B (.sl false 2 (flds T)) rfl rfl (bnd_tz T) s fm r 104 hs hfm (fun hlt => ?_) (fun hge => by omega)
      have h1 := tr_over (k := r - (a - fm)) hfw (by omega) (by omega) (by omega)
      rw [show a + (r - (a - fm)) + 1 = fm + r + 1 by omega] at h1
      simp [wkA, -Int.natCast_add]
      exact fin _ _ _ _ _ _ _ h1 rfl
    · have hr' : ¬ (r : Int) ≤ ((j - fm : Nat) : Int) := by omega
      have hsec : (((a - fm) + n : Nat) : Int) < r := by omega
      have hend := endL_snoc s a n (by omega)
      by_cases hz : n = 0
      · have hja : j = a := by omega
        rw [if_pos (.inl hz)] at hend
        have h1 := tr_none hfw hj hn hsec hend
        rw [← hjj] at h1
        have e0 : ((j : Int) == a) = true := by simp; omega
        simp [hw1, hr', e0]
        refine failed_pc E _ _ 0 0 false B (.sl false 2 (flds T)) rfl rfl (bnd_tz T) j 101 (by omega) ?_
        simp [wkA, -Int.natCast_add]
        exact fin _ _ _ _ _ _ _ h1 rfl
      · obtain ⟨j1, hj1⟩ : ∃ j1, j = j1 + 1 := ⟨j - 1, by omega⟩
        have hw3 : IntKind.i64.wrap ((j : Int) - 1) = (j1 : Int) := by rw [wrap_in (by omega) (by omega)]; omega
        have e0 : ((j : Int) == a) = false := by simp; omega
        obtain ⟨c, hc⟩ : ∃ c, s[j1]? = some c := ⟨_, List.getElem?_eq_getElem (by omega)⟩
        have hat := lat_eq hc
        have hj1l : j1 < s.length := by omega
        by_cases h13 : c = 13
        · subst h13
          rw [show a + n - 1 = j1 by omega, if_neg (by rw [hc]; simp; exact hz), show n - 1 = j1 - a by omega] at hend
          obtain ⟨ln, hln⟩ : ∃ ln, (s.drop a).take (j1 - a) = ln := ⟨_, rfl⟩
          have hlnl : ln.length ≤ s.length := by rw [← hln, List.length_take, List.length_drop]; omega
          rw [hln] at hend
          have haj : a ≤ j1 := by omega
          have hjl : j1 ≤ s.length := by omega
          by_cases hle : ln = []
          · subst hle
            have h1 := tr_done hfw hj hn hsec hend
            have hw4 : IntKind.i64.wrap ((j : Int) + 1) = ((a + n + 1 : Nat) : Int) := by rw [wrap_in (by omega) (by omega)]; omega
            simp [hw1, hr', e0, hw3, hat, hj1l, hln, haj, hjl, hw4, -Int.natCast_add]
            exact fin _ _ _ _ _ _ _ h1 rfl
          · have hle2 : (ln == []) = false := beq_eq_false_iff_ne.2 hle
            by_cases hf : f ≤ T.length
            · have h1 := tr_many hfw hj hn hsec hend hle hf
              rw [← hjj] at h1
              simp [hw1, hr', e0, hw3, hat, hj1l, hln, haj, hjl, hle2, hf]
              refine failed_pc E _ _ 0 0 false B (.sl false 2 (flds T)) rfl rfl (bnd_tz T) j 104 (by omega) ?_
              simp [wkA, -Int.natCast_add]
              exact fin _ _ _ _ _ _ _ h1 rfl
            · simp [hw1, hr', e0, hw3, hat, hj1l, hln, haj, hjl, hle2, hf]
              refine dline_pc E _ _ ln (by simp only [cap]; omega) (fun g hg => ?_) (fun hno pl e he => ?_)
              · have hgn : g.name.length ≤ cap := by
                  unfold lineF at hg
                  split at hg
                  · cases hg
                    simp only [List.length_take, cap]; omega
                  · cases hg
                simp
                refine ref_may_pc E _ _ g.name hgn ?_
                cases hmt : mayB g.name with
                | true =>
                  have h1 := tr_go hfw hj hn hsec hend hle hf hg hmt
                  have hw4 : IntKind.i64.wrap ((j : Int) + 1) = ((j + 1 : Nat) : Int) := by rw [wrap_in (by omega) (by omega)]; omega
                  have m3 : T.length + 1 ≤ maxLen := by unfold maxLen; omega
                  have m4 : (T.length + 1) * 32 ≤ 140737488355328 := by omega
                  simp [m3, m4, flds_snoc, hw4, -Int.natCast_add]
                  refine Kloop_normal ⟨_, j + 1, T ++ [g], by simp; rfl, by omega, by omega, by omega, by simp; omega, ?_, fr_intro (by simp)⟩ (by simp; omega)
                  rw [show a - fm + n + 1 = j + 1 - fm by omega, show a + n + 1 = j + 1 by omega] at h1
                  exact h1
                | false =>
                  have h1 := tr_bad hfw hj hn hsec hend hle hf (.inr ⟨g, hg, hmt⟩)
                  rw [← hjj] at h1
                  simp
                  refine failed_pc E _ _ 0 0 false B (.sl false 2 (flds T)) rfl rfl (bnd_tz T) j 101 (by omega) ?_
                  simp [wkA, -Int.natCast_add]
                  exact fin _ _ _ _ _ _ _ h1 rfl
              · have h1 := tr_bad hfw hj hn hsec hend hle hf (.inl hno)
                rw [← hjj] at h1
                have he2 : (e != 0) = true := by simpa using he
                simp [he2]
                refine failed_pc E _ _ 0 0 false B (.sl false 2 (flds T)) rfl rfl (bnd_tz T) j 101 (by omega) ?_
                simp [wkA, -Int.natCast_add]
                exact fin _ _ _ _ _ _ _ h1 rfl
        · rw [show a + n - 1 = j1 by omega, if_pos (.inr (by rw [hc]; simpa using h13))] at hend
          have h1 := tr_none hfw hj hn hsec hend
          rw [← hjj] at h1
          have t1 : ((c.toNat : Int) == 13) = false := byte_ne c 13 (by omega) h13
          simp [hw1, hr', e0, hw3, hat, hj1l, t1, bne]
          refine failed_pc E _ _ 0 0 false B (.sl false 2 (flds T)) rfl rfl (bnd_tz T) j 101 (by omega) ?_
          simp [wkA, -Int.natCast_add]
          exact fin _ _ _ _ _ _ _ h1 rfl
  · have hea : endAns s a s.length = -1 := by unfold endAns; rw [hn, if_neg (by omega)]
    rw [hea]
    simp
    refine open_pc E _ _ 0 0 false B (.sl false 2 (flds T)) rfl rfl (bnd_tz T) s fm r 104 hs hfm (fun hlt => ?_) (fun hge => ?_)
    · have h1 := tr_over (k := r - (a - fm)) hfw (by omega) (by omega) (by omega)
      rw [show a + (r - (a - fm)) + 1 = fm + r + 1 by omega] at h1
      simp [wkA, -Int.natCast_add]
      exact fin _ _ _ _ _ _ _ h1 rfl
    · have h1 := tr_open hfw hal (by omega) (by omega)
      simp [wkA, -Int.natCast_add]
      exact fin _ _ _ _ _ _ _ h1 rfl
end
end Go.Proofs.YtcdkcaocfioigaaGreatDoor

set_option linter.unusedVariables false
set_option linter.unnecessarySimpa false
set_option linter.unusedSimpArgs false
set_option linter.unusedSectionVars false
set_option maxRecDepth 100000
namespace Go.Proofs.YtcdkcaocfioigaaGreatDoor
open Go Go.RowKit Go.Proofs

section
variable (E : Env) (H : Hp) (Q : AV → Hp → Prop)
def wkInv (m r f : Int) (s : List UInt8) (H : Hp) (fr : List AV) (H' : Hp) : Prop :=
  ∃ (a : Nat) (B : List UInt8), H' = H ++ [[.int .i64 0, .int .i64 0, .bool false, .str [], .nil], [.int .i64 0, .int .i64 0, .bool false, .str B, .nil]] ∧ a ≤ s.length ∧ B.length ≤ a ∧ Fw m r f s (szD m r f B a) a ∧
    ∃ x : Nat → AV, fr = [.str s, .int .i64 m, .int .i64 r, .int .i64 f, x 4, x 5, x 6, x 7, .ptr (some (H.length, 0)), .ptr (some (H.length + 1, 0)), .int .i64 a, x 11, x 12, x 13, x 14, x 15, x 16, x 17, x 18, x 19, x 20, x 21, x 22, x 23, x 24, x 25, x 26, x 27, x 28, x 29, x 30, x 31, x 32, x 33, x 34, x 35, x 36, x 37, x 38, x 39, x 40, x 41, x 42, x 43, x 44, x 45, x 46, x 47, x 48, x 49, x 50, x 51, x 52, x 53, x 54, x 55, x 56, x 57, x 58, x 59, x 60, x 61, x 62, x 63, x 64, x 65, x 66, x 67, x 68, x 69, x 70, x 71, x 72, x 73, x 74, x 75, x 76, x 77, x 78, x 79, x 80, x 81, x 82, x 83, x 84, x 85, x 86, x 87, x 88, x 89, x 90, x 91, x 92, x 93, x 94, x 95, x 96, x 97, x 98, x 99, x 100, x 101, x 102, x 103, x 104, x 105, x 106, x 107, x 108, x 109, x 110, x 111, x 112, x 113, x 114, x 115, x 116, x 117, x 118, x 119, x 120, x 121, x 122, x 123, x 124, x 125, x 126, x 127, x 128, x 129]
def wkInv2 (m r f : Int) (s : List UInt8) (a0 : Nat) (B : List UInt8) (H : Hp) (fr : List AV) (H' : Hp) : Prop :=
  ∃ (i a : Nat), H' = H ++ [[.int .i64 0, .int .i64 0, .bool false, .str [], .nil], [.int .i64 0, .int .i64 0, .bool false, .str B, .nil]] ∧ i ≤ 2 ∧ a = a0 + i ∧ a ≤ s.length ∧ B.length ≤ a ∧ Fw m r f s (phD m r f i B a) a ∧
    ∃ x : Nat → AV, fr = [.str s, .int .i64 m, .int .i64 r, .int .i64 f, x 4, x 5, x 6, x 7, .ptr (some (H.length, 0)), .ptr (some (H.length + 1, 0)), .int .i64 a, x 11, x 12, x 13, x 14, x 15, x 16, x 17, x 18, x 19, x 20, x 21, x 22, x 23, x 24, x 25, x 26, x 27, x 28, x 29, x 30, x 31, x 32, x 33, x 34, x 35, x 36, x 37, x 38, x 39, x 40, x 41, x 42, x 43, x 44, x 45, x 46, x 47, x 48, x 49, x 50, x 51, x 52, x 53, x 54, x 55, x 56, x 57, x 58, x 59, x 60, x 61, x 62, x 63, x 64, x 65, x 66, x 67, x 68, x 69, x 70, x 71, x 72, x 73, x 74, x 75, x 76, x 77, x 78, x 79, x 80, x 81, x 82, x 83, x 84, x 85, x 86, x 87, x 88, x 89, x 90, x 91, x 92, x 93, x 94, x 95, x 96, x 97, x 98, x 99, x 100, x 101, x 102, x 103, x 104, x 105, .sl true 1 (bts [13, 10]), .int .i64 2, .int .i64 i, x 109, x 110, x 111, x 112, x 113, x 114, x 115, x 116, x 117, x 118, x 119, x 120, x 121, x 122, x 123, x 124, x 125, x 126, x 127, x 128, x 129]
set_option maxHeartbeats 4000000 in
theorem walk_pc' (m f : Int) (r : Nat) (s : List UInt8) (hs : s.length ≤ 1000000000) (hm : 0 ≤ m ∧ m ≤ 9223372036854775807)
    (hQ1 : ∀ t e dn B T z, Ends m r f s t e dn B T → (z = .sl false 2 (flds T) ∨ T = [] ∧ z = .nil) → Q (wkA t e dn B z) H) :
    PC Tryz.prog E 95 [.str s, .int .i64 m, .int .i64 r, .int .i64 f] H Q := by
  refine pc_enter Tryz.func95 rfl [] [] (by kernel_rfl) (fun hB => ?_)
  have fin : ∀ (fr : List AV) (J : Hp) (c : List AV) (t : Nat) e dn B T z, Ends m r f s t e dn B T → (z = .sl false 2 (flds T) ∨ T = [] ∧ z = .nil) → aget fr 8 = .ptr (some (H.length, 0)) → aPost Tryz.prog [ResultVar.cell 8 156] H.length Q .ret fr (H ++ [.int .i64 t, .int .i64 e, .bool dn, .str B, z] :: J) := fun fr J c t e dn B T z he hz h8 => by
    have hz1 : z.dis = z ∧ z.free = true ∧ ∀ N, Bnd N z := by
      rcases hz with rfl | ⟨_, rfl⟩
      · exact ⟨rfl, rfl, fun N => bnd_tz T⟩
      · exact ⟨rfl, rfl, fun N => .nil⟩
    refine aPost_same (J := [.int .i64 t, .int .i64 e, .bool dn, .str B, z] :: J) hB (v0 := wkA t e dn B z) ?_ (nilV_refl _) (by simp [wkA, hz1.2.2]) (hQ1 t e dn B T z he hz)
    simp [h8, wkA, hz1.1, hz1.2.1]
  have finN : ∀ (fr : List AV) (J : Hp) (t : Nat) e dn B, Ends m r f s t e dn B [] → aget fr 8 = .ptr (some (H.length, 0)) → aPost Tryz.prog [ResultVar.cell 8 156] H.length Q .ret fr (H ++ [.int .i64 t, .int .i64 e, .bool dn, .str B, .nil] :: J) := fun fr J t e dn B he h8 => fin fr J [] t e dn B [] .nil he (.inr ⟨rfl, rfl⟩) h8
  simp [Tryz.ntmps95, Tryz.results95, List.replicate_succ]
  refine VL_go (wkInv m r f s H) (fun fr _ => s.length - (ai (aget fr 10)).toNat) ⟨0, [], by simp, by omega, by simp, fw_new, fr_intro (by simp)⟩ ?_
  rintro fr H' ⟨a, B, rfl, hal, hBl, hfw, x, rfl⟩
  obtain ⟨n, hn⟩ : ∃ n, run not10 (s.drop a) = n := ⟨_, rfl⟩
  have hnl := run_le not10 (s.drop a)
  rw [hn, List.length_drop] at hnl
  simp
  refine ending_pc E _ _ s a 256 hs hal (by decide) ?_
  by_cases hj : a + n < s.length ∧ n < 256
  · have hea : endAns s a 256 = ((a + n : Nat) : Int) := by unfold endAns; rw [hn, if_pos hj]
    rw [hea]
    obtain ⟨hj, h256⟩ := hj
    obtain ⟨j, hjj⟩ : ∃ j, j = a + n := ⟨_, rfl⟩
    rw [← hjj]
    have hend := endL_snoc s a n (by omega)
    by_cases hz : n = 0
    · rw [if_pos (.inl hz)] at hend
      have h1 := sz_none hfw hj hn h256 hend
      rw [← hjj] at h1
      have e0 : ((j : Int) == a) = true := by simp; omega
      simp [e0]
      refine failed_pc E _ _ 0 0 false B .nil rfl rfl .nil j 100 (by omega) ?_
      simp [wkA, -Int.natCast_add]
      exact finN _ _ _ _ _ _ h1 rfl
    · obtain ⟨j1, hj1⟩ : ∃ j1, j = j1 + 1 := ⟨j - 1, by omega⟩
      have hw3 : IntKind.i64.wrap ((j : Int) - 1) = (j1 : Int) := by rw [wrap_in (by omega) (by omega)]; omega
      have e0 : ((j : Int) == a) = false := by simp; omega
      obtain ⟨c, hc⟩ : ∃ c, s[j1]? = some c := ⟨_, List.getElem?_eq_getElem (by omega)⟩
      have hat := lat_eq hc
      have hj1l : j1 < s.length := by omega
      by_cases h13 : c = 13
      · subst h13
        rw [show a + n - 1 = j1 by omega, if_neg (by rw [hc]; simp; exact hz), show n - 1 = j1 - a by omega] at hend
        obtain ⟨ln, hln⟩ : ∃ ln, (s.drop a).take (j1 - a) = ln := ⟨_, rfl⟩
        have hlnl : ln.length ≤ s.length := by rw [← hln, List.length_take, List.length_drop]; omega
        rw [hln] at hend
        have haj : a ≤ j1 := by omega
        have hjl : j1 ≤ s.length := by omega
        simp [e0, hw3, hat, hj1l, hln, haj, hjl]
        refine dsize_pc E _ _ ln (by simp only [cap]; omega) ?_
        by_cases he : (sizeAns ln).2.2 = 0
        · obtain ⟨N, hN⟩ : ∃ N, (sizeAns ln).1 = N := ⟨_, rfl⟩
          have hrng := sizeAns_rng ln he
          rw [hN] at hrng
          have hw5 : IntKind.i64.wrap (m - (B.length : Int)) = m - B.length := wrap_in (by omega) (by omega)
          by_cases hmu : m - B.length < N
          · have h1 := sz_much hfw hj hn h256 hend he (by rw [hN]; exact hmu)
            rw [← hjj] at h1
            simp [he, hN, hw5, hmu]
            refine failed_pc E _ _ 0 0 false B .nil rfl rfl .nil j 102 (by omega) ?_
            simp [wkA, -Int.natCast_add]
            exact finN _ _ _ _ _ _ h1 rfl
          · have hw4 : IntKind.i64.wrap ((j : Int) + 1) = ((j + 1 : Nat) : Int) := by rw [wrap_in (by omega) (by omega)]; omega
            by_cases hN0 : N = 0
            · have h1 := sz_trail hfw hj hn h256 hend he (by rw [hN]; exact hmu) (by rw [hN]; exact hN0)
              rw [← hjj] at h1
              subst hN0
              simp [he, hN, hw5, hmu, hw4, -Int.natCast_add]
              refine trail_pc E _ _ m f r s (j + 1) B hs (by omega) h1 (fun t e dn T hE => ?_)
              simp [wkA, -Int.natCast_add]
              exact fin _ _ [] _ _ _ _ _ _ hE (.inl rfl) rfl
            · have h1 := sz_data hfw hj hn h256 hend he (by rw [hN]; exact hmu) (by rw [hN]; exact hN0)
              rw [← hjj, hN] at h1
              obtain ⟨k, rfl⟩ : ∃ k : Nat, N = k := ⟨N.toNat, by omega⟩
              have hN2 : ((k : Int) == 0) = false := by simpa using hN0
              obtain ⟨a1, ha1⟩ : ∃ a1, a1 = j + 1 := ⟨_, rfl⟩
              rw [← ha1] at h1 hw4
              have hw6 : IntKind.i64.wrap ((s.length : Int) - a1) = ((s.length - a1 : Nat) : Int) := by rw [wrap_in (by omega) (by omega)]; omega
              have hle1 : a1 ≤ s.length := by omega
              by_cases hlt : s.length - a1 < k
              · have h2 := da_open h1 hle1 (by omega)
                have hlt' : ((s.length - a1 : Nat) : Int) < k := by omega
                have m3 : B.length + (s.length - a1) ≤ maxLen := by unfold maxLen; omega
                simp [he, hN, hw5, hmu, hw4, hN2, hw6, hlt', hle1, m3, -Int.natCast_add]
                exact finN _ _ _ _ _ _ h2 rfl
              · have hlt' : ¬ ((s.length - a1 : Nat) : Int) < k := by omega
                have h2 := da_full h1 (by omega) (by omega)
                obtain ⟨a2, ha2⟩ : ∃ a2, a2 = a1 + k := ⟨_, rfl⟩
                obtain ⟨B2, hB2⟩ : ∃ B2, B ++ (s.drop a1).take k = B2 := ⟨_, rfl⟩
                have hB2l : B2.length ≤ a2 := by rw [← hB2, List.length_append, List.length_take]; omega
                rw [← ha2, hB2] at h2
                have hw7 : IntKind.i64.wrap ((a1 : Int) + k) = a2 := by rw [wrap_in (by omega) (by omega)]; omega
                have hle2 : a1 ≤ a2 := by omega
                have hle3 : a2 ≤ s.length := by omega
                have hsl : (s.drop a1).take (a2 - a1) = (s.drop a1).take k := by rw [show a2 - a1 = k by omega]
                have m4 : B.length + min k (s.length - a1) ≤ maxLen := by unfold maxLen; omega
                simp [he, hN, hw5, hmu, hw4, hN2, hw6, hlt', hle1, hw7, hle2, hle3, hsl, hB2, m4, (by decide : ([0, 1] : List Nat) = List.range 2), -Int.natCast_add]
                refine VL_go (wkInv2 m r f s a2 B2 H) (fun fr _ => 2 - (ai (aget fr 108)).toNat) ⟨0, a2, rfl, by omega, by omega, hle3, hB2l, h2, fr_intro (by simp [bts])⟩ ?_
                rintro fr H' ⟨i, b, rfl, hi, hb, hbl, hBb, hph, y, rfl⟩
                by_cases hi2 : i < 2
                · have hi' : (i : Int) < 2 := by omega
                  have hw8 : IntKind.i64.wrap ((i : Int) + 1) = i + 1 := wrap_in (by omega) (by omega)
                  have hw9 : IntKind.i64.wrap ((b : Int) + 1) = ((b + 1 : Nat) : Int) := by rw [wrap_in (by omega) (by omega)]; omega
                  obtain ⟨q, hq⟩ : ∃ q : UInt8, q = if i = 0 then 13 else 10 := ⟨_, rfl⟩
                  have hrow : lat (bts [13, 10]) i = some [.int .u8 (q.toNat : Int)] := by
                    rcases (by omega : i = 0 ∨ i = 1) with rfl | rfl
                    · simp at hq; subst hq; rfl
                    · simp at hq; subst hq; rfl
                  by_cases hbe : b = s.length
                  · have h3 := ph_open hph hbe
                    have e1 : ((b : Int) == s.length) = true := by simp; omega
                    rw [← hbe] at h3
                    simp [hi', hrow, e1]
                    exact finN _ _ _ _ _ _ h3 rfl
                  · have e1 : ((b : Int) == s.length) = false := by simp; omega
                    obtain ⟨u, hu⟩ : ∃ u, s[b]? = some u := ⟨_, List.getElem?_eq_getElem (by omega)⟩
                    have hatu := lat_eq hu
                    have hbs : b < s.length := by omega
                    by_cases huq : u = q
                    · have h3 := ph_go hi2 hph (by rw [hu, huq, hq])
                      subst huq
                      simp [hi', hrow, e1, hatu, hbs, hw8, hw9, -Int.natCast_add]
                      exact Kloop_normal ⟨i + 1, b + 1, rfl, by omega, by omega, by omega, by omega, h3, fr_intro (by simp)⟩ (by simp; omega)
                    · have h3 := ph_bad hi2 hph hu (by rw [← hq]; exact huq)
                      have e2 : ((u.toNat : Int) == (q.toNat : Int)) = false := by
                        rw [beq_eq_false_iff_ne]
                        intro hh
                        exact huq (UInt8.toNat_inj.1 (by omega))
                      simp [hi', hrow, e1, hatu, hbs, e2, bne]
                      refine failed_pc E _ _ 0 0 false B2 .nil rfl rfl .nil b 100 (by omega) ?_
                      simp [wkA, -Int.natCast_add]
                      exact finN _ _ _ _ _ _ h3 rfl
                · obtain rfl : i = 2 := by omega
                  rw [ph_two] at hph
                  simp
                  exact Kloop_normal ⟨b, B2, rfl, by omega, hBb, hph, fr_intro (by simp)⟩ (by simp; omega)
        · have h1 := sz_bad hfw hj hn h256 hend he
          rw [← hjj] at h1
          have he2 : ((sizeAns ln).2.2 != 0) = true := by simpa using he
          simp [he2]
          refine failed_pc E _ _ 0 0 false B .nil rfl rfl .nil j (sizeAns ln).2.2 (by omega) ?_
          simp [wkA, -Int.natCast_add]
          exact finN _ _ _ _ _ _ h1 rfl
      · rw [show a + n - 1 = j1 by omega, if_pos (.inr (by rw [hc]; simpa using h13))] at hend
        have h1 := sz_none hfw hj hn h256 hend
        rw [← hjj] at h1
        have t1 : ((c.toNat : Int) == 13) = false := byte_ne c 13 (by omega) h13
        simp [e0, hw3, hat, hj1l, t1, bne]
        refine failed_pc E _ _ 0 0 false B .nil rfl rfl .nil j 100 (by omega) ?_
        simp [wkA, -Int.natCast_add]
        exact finN _ _ _ _ _ _ h1 rfl
  · have hea : endAns s a 256 = -1 := by unfold endAns; rw [hn, if_neg hj]
    rw [hea]
    simp
    refine open_pc E _ _ 0 0 false B .nil rfl rfl .nil s a 255 100 hs hal (fun hlt => ?_) (fun hge => ?_)
    · have h1 := sz_over hfw (by omega) (by omega)
      simp [wkA, -Int.natCast_add]
      exact finN _ _ _ _ _ _ h1 rfl
    · have h1 := sz_open hfw hal (by omega) (by omega)
      simp [wkA, -Int.natCast_add]
      exact finN _ _ _ _ _ _ h1 rfl
theorem walk_pc (m f : Int) (r : Nat) (s : List UInt8) (hs : s.length ≤ 1000000000) (hm : 0 ≤ m ∧ m ≤ 9223372036854775807)
    (hQ : ∀ t e dn B T, Ends m r f s t e dn B T → Q (wkA t e dn B (.sl false 2 (flds T))) H) :
    PC Tryz.prog E 95 [.str s, .int .i64 m, .int .i64 r, .int .i64 f] H Q := by
  refine PC.nilD (walk_pc' E H _ m f r s hs hm (fun t e dn B T z hE hz => ?_))
  refine ⟨wkA t e dn B (.sl false 2 (flds T)), ?_, hQ t e dn B T hE⟩
  rcases hz with rfl | ⟨rfl, rfl⟩
  · exact .same _
  · exact NilD_agg (by simp [flds])
end
end Go.Proofs.YtcdkcaocfioigaaGreatDoor

set_option linter.unusedVariables false
set_option linter.unnecessarySimpa false
set_option linter.unusedSimpArgs false
set_option linter.unusedSectionVars false
set_option maxRecDepth 100000
namespace Go.Proofs.YtcdkcaocfioigaaGreatDoor
open Go Go.RowKit Go.Proofs

theorem stepD_done (d : Dec) (b : UInt8) (h : d.done = false) : (stepD d b).1.done = true → (stepD d b).2 = 0 := by
  unfold stepD sizeD dataD firstD secondD trailerD
  (repeat' split) <;> simp [h]
theorem feed1_done (d : Dec) (b : UInt8) (h : d.done = false) (h1 : (feed1 d b).done = true) : (feed1 d b).err = 0 := stepD_done { d with total := d.total + 1 } b h h1
theorem feedD_done : ∀ (s : List UInt8) (d : Dec), d.done = false → d.err = 0 → (feedD d s).1.done = true → (feedD d s).1.err = 0
  | [], d, h, he, h1 => he
  | b :: s, d, h, he, h1 => by
    rw [feedD_cons] at h1 ⊢
    by_cases hc : (feed1 d b).done = true ∨ (feed1 d b).err ≠ 0
    · rw [if_pos hc] at h1 ⊢
      exact feed1_done d b h h1
    · rw [if_neg hc] at h1 ⊢
      exact feedD_done s (feed1 d b) (by cases hd : (feed1 d b).done; rfl; exact absurd (.inl hd) hc) (by by_cases he : (feed1 d b).err = 0; exact he; exact absurd (.inr he) hc) h1
section
variable (E : Env) (H : Hp) (Q : AV → Hp → Prop)
theorem limits_pc (m r f : Int) (hQ : Q (.int .i64 (if m < 0 ∨ r < 0 ∨ f < 0 then 1 else 0)) H) : PC Tryz.prog E 94 [.int .i64 m, .int .i64 r, .int .i64 f] H Q := by
  refine pc_enter Tryz.func94 rfl [] [] (by kernel_rfl) (fun hB => ?_)
  by_cases h1 : m < 0
  · rw [if_pos (.inl h1)] at hQ
    simp [Tryz.ntmps94, Tryz.results94, List.replicate_succ, h1]
    exact aPost_same0 hB rfl (nilV_refl _) (by simp) hQ
  · by_cases h2 : r < 0
    · rw [if_pos (.inr (.inl h2))] at hQ
      simp [Tryz.ntmps94, Tryz.results94, List.replicate_succ, h1, h2]
      exact aPost_same0 hB rfl (nilV_refl _) (by simp) hQ
    · by_cases h3 : f < 0
      · rw [if_pos (.inr (.inr h3))] at hQ
        simp [Tryz.ntmps94, Tryz.results94, List.replicate_succ, h1, h2, h3]
        exact aPost_same0 hB rfl (nilV_refl _) (by simp) hQ
      · rw [if_neg (by omega)] at hQ
        simp [Tryz.ntmps94, Tryz.results94, List.replicate_succ, h1, h2, h3]
        exact aPost_same0 hB rfl (nilV_refl _) (by simp) hQ
theorem ddecode_pc (s : List UInt8) (m r f : Int) (hs : s.length ≤ 1000000000) (hm : m ≤ 9223372036854775807)
    (hQ : Q (.tup [.str (decodeD s m r f).1, .sl false 2 (flds (decodeD s m r f).2.1), .int .i64 (decodeD s m r f).2.2.1, .int .i64 (decodeD s m r f).2.2.2]) H) : PC Tryz.prog E 59 [.str s, .int .i64 m, .int .i64 r, .int .i64 f] H Q := by
  refine pc_enter Tryz.func59 rfl [] [] (by kernel_rfl) (fun hB => ?_)
  simp [Tryz.ntmps59, Tryz.results59, List.replicate_succ]
  refine limits_pc E _ _ m r f ?_
  by_cases hneg : m < 0 ∨ r < 0 ∨ f < 0
  · unfold decodeD at hQ
    rw [if_pos hneg] at hQ
    rw [if_pos hneg]
    simp
    exact aPost_same0 hB (v0 := .tup [.str [], .nil, .int .i64 0, .int .i64 1]) (by simp) (nilV_tup4 2 _ _ _ rfl rfl rfl) (by simp) hQ
  · unfold decodeD at hQ
    rw [if_neg hneg] at hQ
    rw [if_neg hneg]
    obtain ⟨r, rfl⟩ : ∃ k : Nat, r = k := ⟨r.toNat, by omega⟩
    simp
    refine walk_pc E _ _ m f r s hs ⟨by omega, hm⟩ (fun t e dn B T hE => ?_)
    obtain ⟨h1, h2, h3, h4, h5⟩ := hE
    have hdn := feedD_done s (newD m r f) rfl rfl
    have hle := feedD_le s (newD m r f)
    rw [h1] at hle
    rw [h2, h3] at hdn
    rw [h1, h2, h3, h4, h5] at hQ
    cases dn with
    | true =>
      rw [if_neg (by simp [hdn rfl]), if_neg (by simp)] at hQ
      simp [wkA]
      exact aPost_same hB (v0 := .tup [.str B, .sl false 2 (flds T), .int .i64 t, .int .i64 0]) (by simp) (nilV_refl _) (by simp) hQ
    | false =>
      by_cases he : e = 0
      · rw [if_neg (by simp [he]), if_pos rfl] at hQ
        simp [wkA, he]
        exact aPost_same hB (v0 := .tup [.str [], .nil, .int .i64 s.length, .int .i64 105]) (by simp) (nilV_tup4 2 _ _ _ rfl rfl rfl) (by simp) hQ
      · rw [if_pos he] at hQ
        have he2 : (e != 0) = true := by simpa using he
        have hw : IntKind.i64.wrap ((t : Int) - 1) = t - 1 := wrap_in (by omega) (by omega)
        simp [wkA, he2, hw]
        exact aPost_same hB (v0 := .tup [.str [], .nil, .int .i64 ((t : Int) - 1), .int .i64 e]) (by simp) (nilV_tup4 2 _ _ _ rfl rfl rfl) (by simp) hQ
theorem decodeD_len (s : List UInt8) (m r f : Int) (hs : s.length ≤ 1000000000) (h1 : m ≤ 9223372036854775807) (h2 : r ≤ 9223372036854775807) (h3 : f ≤ 9223372036854775807) : (decodeD s m r f).2.1.length ≤ 1073741824 := by
  unfold decodeD
  split
  · simp
  · split
    · simp
    · split
      · simp
      · rename_i g _ _
        obtain ⟨hok, ht⟩ := feedD_ok s (newD m r f) (newD_ok m r f ⟨by omega, h1⟩ ⟨by omega, h2⟩ ⟨by omega, h3⟩)
        have hle := feedD_le s (newD m r f)
        have := hok.2.2.1
        have ht0 : (newD m r f).total = 0 := rfl
        simp only
        omega
end
theorem kind_i64 {x : AV} (h : KindOf (.int .i64) x) : ∃ z, x = .int .i64 z ∧ -9223372036854775808 ≤ z ∧ z ≤ 9223372036854775807 := by
  cases x <;> simp [KindOf] at h
  obtain ⟨rfl, h⟩ := h
  refine ⟨_, rfl, ?_⟩
  simpa [Lit.wf, IntKind.min, IntKind.max, IntKind.signed, IntKind.bits] using h
theorem kind_str {x : AV} (h : KindOf .str x) : ∃ z, x = .str z := by
  cases x <;> simp [KindOf] at h
  exact ⟨_, rfl⟩
end Go.Proofs.YtcdkcaocfioigaaGreatDoor

set_option linter.unusedVariables false
set_option linter.unnecessarySimpa false
set_option linter.unusedSimpArgs false
set_option linter.unusedSectionVars false
set_option maxRecDepth 100000
namespace Go.Proofs.YtcdkcaocfioigaaGreatDoor
open Go Go.RowKit Go.Proofs

/-- A decoder that is played, as the law has it. -/
def dptr (p : Option Nat) : AV := .ptr (p.map fun i => (i, 0))
def PlI (H : Hp) (p : Option Nat) (m r f : Int) (fed : List UInt8) (gone : Bool) : Prop := ∀ i, p = some i →
  H[i]? = some (feedD (newD m r f) fed).1.av ∧ (feedD (newD m r f) fed).2 = fed.length ∧ (gone = false → goD (feedD (newD m r f) fed).1) ∧ (gone = true → (feedD (newD m r f) fed).1.done = true ∨ (feedD (newD m r f) fed).1.err ≠ 0) ∧
    (0 ≤ m ∧ m ≤ 9223372036854775807) ∧ (0 ≤ r ∧ r ≤ 9223372036854775807) ∧ (0 ≤ f ∧ f ≤ 9223372036854775807)
theorem aPost_up {P : Program} {rs : List ResultVar} {n : Nat} {Q : AV → Hp → Prop} {fr : List AV} {H' : Hp} {v : AV} (h1 : ares P fr H' rs = some v) (h3 : n ≤ H'.length) (h4 : BndH H'.length H') (h5 : Bnd H'.length v) (h6 : Q v H') :
    aPost P rs n Q .ret fr H' := ⟨v, v, H', H', [], h1, nilV_refl _, nilH_refl _, (List.append_nil H').symm, h3, h4, h5, h6⟩
theorem pc_enterF {P : Program} {E : Env} (S : Nat → Prop) {f : FuncId} {fn : Func} {c : Code} (hf : P.funcs[f]? = some fn) (hb : fn.body = some c) (B : List Tmp) (ND : List (Nat × List Nat)) (hok : okB P B ND fn = true) {args : List AV} {H : Hp} {Q : AV → Hp → Prop}
    (h : ∀ E' : Env, E'.S = S → E'.w0 = E.w0 → E'.Fix = E.Fix → BndH H.length H → vc P E' B ND c (aPost P fn.results.toList H.length Q) (args ++ List.replicate (fn.ntmps - args.length) (.raw undef)) H) : PC P E f args H Q :=
  PC.env (E := E) (E' := { E with S := S }) rfl rfl (pc_enter hf hb B ND hok (h _ rfl rfl rfl))
section
variable (E : Env) (H : Hp) (Q : AV → Hp → Prop)
structure COp where
  k : Int
  s : List UInt8
def COp.av (o : COp) : List AV := [.int .i64 o.k, .str o.s]
end
end Go.Proofs.YtcdkcaocfioigaaGreatDoor

set_option linter.unusedVariables false
set_option linter.unnecessarySimpa false
set_option linter.unusedSimpArgs false
set_option linter.unusedSectionVars false
set_option maxRecDepth 100000
namespace Go.Proofs.YtcdkcaocfioigaaGreatDoor
open Go Go.RowKit Go.Proofs

@[simp] theorem dptr_dis (p : Option Nat) : (dptr p).dis = dptr p := rfl
@[simp] theorem dptr_free (p : Option Nat) : (dptr p).free = true := rfl
@[simp] theorem dptr_one (p : Option Nat) : (dptr p).one = true := rfl
theorem at_lt {α : Type} {l : List α} {i : Nat} {x : α} (h : l[i]? = some x) : i < l.length := (List.getElem?_eq_some_iff.1 h).1
theorem PlI.of_eq {H H' : Hp} {p : Option Nat} {m r f : Int} {fed : List UInt8} {gone : Bool} (h : PlI H p m r f fed gone) (he : ∀ i, p = some i → H'[i]? = H[i]?) : PlI H' p m r f fed gone := fun i hi => by
  have := h i hi
  rw [he i hi]; exact this
theorem PlI.lt {H : Hp} {p : Option Nat} {m r f : Int} {fed : List UInt8} {gone : Bool} (h : PlI H p m r f fed gone) (i : Nat) (hi : p = some i) : i < H.length := at_lt (h i hi).1
theorem PlI.app {H : Hp} {p : Option Nat} {m r f : Int} {fed : List UInt8} {gone : Bool} (h : PlI H p m r f fed gone) (J : Hp) : PlI (H ++ J) p m r f fed gone :=
  h.of_eq fun i hi => List.getElem?_append_left (h.lt i hi)
def cops (l : List COp) : List (List AV) := l.map COp.av
@[simp] theorem cops_len (l : List COp) : (cops l).length = l.length := by simp [cops]
theorem cops_at {l : List COp} {i : Nat} {o : COp} (h : l[i]? = some o) : lat (cops l) i = some o.av := by simp [lat, cops, h]
def COp.wf (o : COp) : Prop := -9223372036854775808 ≤ o.k ∧ o.k ≤ 9223372036854775807
def txs : List COp → Nat
  | [] => 0
  | o :: l => o.s.length + txs l
theorem txs_drop {l : List COp} {i : Nat} {o : COp} (h : l[i]? = some o) : txs (l.drop i) = o.s.length + txs (l.drop (i + 1)) := by
  rw [List.drop_eq_getElem_cons (at_lt h), (List.getElem?_eq_some_iff.1 h).2]; rfl
section
variable (E : Env) (H : Hp) (Q : AV → Hp → Prop)
variable {H}
variable (H)
end
end Go.Proofs.YtcdkcaocfioigaaGreatDoor

set_option linter.unusedVariables false
set_option linter.unnecessarySimpa false
set_option linter.unusedSimpArgs false
set_option linter.unusedSectionVars false
set_option maxRecDepth 100000
namespace Go.Proofs.YtcdkcaocfioigaaGreatDoor
open Go Go.RowKit Go.Proofs

def coK : List CK := [.int .i64, .str]
theorem co_of_row {r : List AV} (hl : r.length = 2) (hk : ∀ (j : Nat) k y, coK[j]? = some k → r[j]? = some y → KindOf k y) : ∃ o : COp, r = o.av ∧ o.wf ∧ o.s.length = wtA r := by
  match r, hl with
  | [a0, a1], _ =>
    obtain ⟨z0, rfl, w0⟩ := kind_i64 (hk 0 _ _ rfl rfl)
    obtain ⟨z1, rfl⟩ := kind_str (hk 1 _ _ rfl rfl)
    exact ⟨⟨z0, z1⟩, rfl, w0, by simp [wtA]⟩
theorem cops_of_rows : ∀ (rows : List (List AV)), (∀ r ∈ rows, r.length = 2 ∧ ∀ (j : Nat) k y, coK[j]? = some k → r[j]? = some y → KindOf k y) → ∃ sc : List COp, rows = cops sc ∧ (∀ o ∈ sc, o.wf) ∧ txs sc = wtA rows.flatten
  | [], _ => ⟨[], rfl, (fun o ho => by cases ho), rfl⟩
  | r :: rows, h => by
    obtain ⟨sc, rfl, hs, ht⟩ := cops_of_rows rows (fun q hq => h q (List.mem_cons_of_mem _ hq))
    obtain ⟨h1, h2⟩ := h r (List.mem_cons_self ..)
    obtain ⟨o, rfl, w, e⟩ := co_of_row h1 h2
    refine ⟨o :: sc, rfl, fun o' ho' => ?_, ?_⟩
    · rcases List.mem_cons.1 ho' with rfl | ho'
      · exact w
      · exact hs o' ho'
    · rw [List.flatten_cons, wtA_app, txs, e, ht]
end Go.Proofs.YtcdkcaocfioigaaGreatDoor

set_option linter.unusedVariables false
set_option linter.unnecessarySimpa false
set_option linter.unusedSimpArgs false
set_option linter.unusedSectionVars false
set_option maxRecDepth 100000
namespace Go.Proofs.YtcdkcaocfioigaaGreatDoor
open Go Go.RowKit Go.Proofs

def ints (l : List Int) : List (List AV) := l.map fun z => [.int .i64 z]
@[simp] theorem ints_len (l : List Int) : (ints l).length = l.length := by simp [ints]
theorem ints_at {l : List Int} {i : Nat} {z : Int} (h : l[i]? = some z) : lat (ints l) i = some [.int .i64 z] := by simp [lat, ints, h]
section
variable (E : Env) (H : Hp) (Q : AV → Hp → Prop)
end
end Go.Proofs.YtcdkcaocfioigaaGreatDoor

set_option linter.unusedVariables false
set_option linter.unnecessarySimpa false
set_option linter.unusedSimpArgs false
set_option linter.unusedSectionVars false
set_option maxRecDepth 100000
namespace Go.Proofs.YtcdkcaocfioigaaGreatDoor
open Go Go.RowKit Go.Proofs

/-- The digit that says n, and the digits. -/
def hx (n : Nat) : UInt8 := if n < 10 then UInt8.ofNat (48 + n) else UInt8.ofNat (87 + n)
def hexD (n : Nat) : List UInt8 := if h : n < 16 then [hx n] else hexD (n / 16) ++ [hx (n % 16)]
termination_by n
decreasing_by omega
theorem hexD_small {n : Nat} (h : n < 16) : hexD n = [hx n] := by rw [hexD, dif_pos h]
theorem hexD_big {n : Nat} (h : ¬ n < 16) : hexD n = hexD (n / 16) ++ [hx (n % 16)] := by rw [hexD, dif_neg h]
theorem hexD_pos (n : Nat) : 1 ≤ (hexD n).length := by
  by_cases h : n < 16
  · rw [hexD_small h]; simp
  · rw [hexD_big h]; simp
theorem hexD_len : ∀ (k n : Nat), n < 16 ^ (k + 1) → (hexD n).length ≤ k + 1
  | 0, n, h => by rw [hexD_small (by simpa using h)]; simp
  | k + 1, n, h => by
    by_cases h1 : n < 16
    · rw [hexD_small h1]; simp
    · rw [hexD_big h1, List.length_append]
      have := hexD_len k (n / 16) (by rw [Nat.pow_succ] at h; omega)
      simp; omega
theorem hexD_len11 (n : Nat) (h : n ≤ 1099511627776) : (hexD n).length ≤ 11 := hexD_len 10 n (by simp; omega)
/-- A chunk. -/
def chunkT (p : List UInt8) : List UInt8 := hexD p.length ++ [13, 10] ++ p ++ [13, 10]
/-- The chunks of pieces. -/
def chunksT (ps : List (List UInt8)) : List UInt8 := ps.flatMap chunkT
/-- A trailer's line, with its end. -/
def lineT (f : Fld) : List UInt8 := f.name ++ 58 :: (if f.value = [] then [] else 32 :: f.value)
def valueB (l : List UInt8) : Bool := decide (l.length ≤ 8192) && fldB l && decide (trimB l = l)
def rightB (f : Fld) : Bool := mayB f.name && valueB f.value
def linesT (ts : List Fld) : List UInt8 := ts.flatMap fun f => lineT f ++ [13, 10]
/-- What is encoded. -/
def encT (ps : List (List UInt8)) (ts : List Fld) : List UInt8 := chunksT ps ++ ([48, 13, 10] ++ (linesT ts ++ [13, 10]))
/-- The pieces that a body is cut into. -/
def piecesB : List UInt8 → List Int → List (List UInt8)
  | b, [] => if b = [] then [] else [b]
  | b, n :: ns => if b = [] then [] else b.take n.toNat :: piecesB (b.drop n.toNat) ns
theorem pieces_flat : ∀ (ns : List Int) (b : List UInt8), (piecesB b ns).flatten = b
  | [], b => by unfold piecesB; split <;> simp_all
  | n :: ns, b => by
    unfold piecesB
    split
    · simp_all
    · rw [List.flatten_cons, pieces_flat ns, List.take_append_drop]
theorem pieces_ne : ∀ (ns : List Int) (b : List UInt8), (∀ n ∈ ns, 1 ≤ n) → ∀ p ∈ piecesB b ns, p ≠ []
  | [], b, _, p, hp => by
    unfold piecesB at hp
    split at hp
    · cases hp
    · rename_i h; simp at hp; subst hp; exact h
  | n :: ns, b, hn, p, hp => by
    unfold piecesB at hp
    split at hp
    · cases hp
    · rename_i h
      rcases List.mem_cons.1 hp with rfl | hp
      · have h1 := hn n (by simp)
        intro e
        have := congrArg List.length e
        rw [List.length_take] at this
        have hb : b.length ≠ 0 := fun e => h (List.length_eq_zero_iff.1 e)
        have h3 : ([] : List UInt8).length = 0 := rfl
        omega
      · exact pieces_ne ns _ (fun x hx => hn x (by simp [hx])) p hp
theorem pieces_nil : ∀ (ns : List Int), piecesB [] ns = []
  | [] => rfl
  | _ :: _ => rfl
end Go.Proofs.YtcdkcaocfioigaaGreatDoor

set_option linter.unusedVariables false
set_option linter.unnecessarySimpa false
set_option linter.unusedSimpArgs false
set_option linter.unusedSectionVars false
set_option maxRecDepth 100000
namespace Go.Proofs.YtcdkcaocfioigaaGreatDoor
open Go Go.RowKit Go.Proofs

/-- What parameters weigh. -/
def psz : List Par → Nat
  | [] => 0
  | p :: l => p.name.length + p.value.length + psz l
theorem psz_take (l : List Par) (i : Nat) : psz (l.take i) ≤ psz l := by
  induction l generalizing i with
  | nil => simp
  | cons p l ih =>
    cases i with
    | zero => simp [psz]
    | succ i => have := ih i; simp [psz]; omega
theorem psz_mem {l : List Par} {i : Nat} {p : Par} (h : l[i]? = some p) : p.name.length + p.value.length ≤ psz l := by
  induction l generalizing i with
  | nil => simp at h
  | cons q l ih =>
    cases i with
    | zero => simp at h; subst h; simp [psz]
    | succ i => have := ih (i := i) (by simpa using h); simp [psz]; omega
theorem prtV_le (v : List UInt8) : (prtV signB v).length ≤ 2 * v.length + 2 := by
  unfold prtV
  have := quoted_le v
  split <;> omega
theorem prt_le (l : List Par) : (prt signB l).length ≤ 2 * psz l + 5 * l.length := by
  induction l with
  | nil => simp [prt, psz]
  | cons p l ih =>
    have e : prt signB (p :: l) = prt1 signB p ++ prt signB l := by simp [prt]
    have := prtV_le p.value
    rw [e, List.length_append]
    have h1 : (prt1 signB p).length ≤ p.name.length + 2 * p.value.length + 5 := by
      unfold prt1
      split <;> simp <;> omega
    simp [psz]; omega
theorem prt_step (l : List Par) (i : Nat) (p : Par) (h : l[i]? = some p) : prt signB (l.take (i + 1)) = prt signB (l.take i) ++ prt1 signB p := by
  rw [List.take_add_one, h]
  simp [prt]
def prtAns (l : List Par) : List UInt8 × Int := if l.all (okPar signB) = true then (prt signB l, 0) else ([], 15)
theorem tokP_tokB (l : List UInt8) : tokP signB l = tokB l := rfl
section
variable (E : Env) (H : Hp) (Q : AV → Hp → Prop)
def printInv (l : List Par) (H : Hp) (fr : List AV) (H' : Hp) : Prop := ∃ (J : Hp) (i : Nat), H' = H ++ J ∧ i ≤ l.length ∧ (l.take i).all (okPar signB) = true ∧ ∃ x : Nat → AV, fr = [x 0, x 1, x 2, x 3, .str (prt signB (l.take i)), x 5, x 6, x 7, .sl false 3 (prs l), .int .i64 l.length, .int .i64 i, x 11, x 12, x 13, x 14, x 15, x 16, x 17, x 18, x 19, x 20, x 21, x 22, x 23, x 24, x 25, x 26, x 27, x 28, x 29, x 30, x 31, x 32, x 33, x 34, x 35, x 36, x 37, x 38, x 39, x 40, x 41, x 42, x 43, x 44, x 45, x 46, x 47, x 48, x 49, x 50, x 51, x 52, x 53, x 54, x 55, x 56, x 57]
set_option maxHeartbeats 2000000 in
theorem print_pc (hE : SE E) (l : List Par) (hl : psz l + l.length ≤ 1048577) (hQ : Q (.tup [.str (prtAns l).1, .int .i64 (prtAns l).2]) H) : PC Tryz.prog E 138 [.sl false 3 (prs l)] H Q := by
  refine pc_enter Tryz.func138 rfl [] [] (by kernel_rfl) (fun hB => ?_)
  simp [Tryz.ntmps138, Tryz.results138, List.replicate_succ]
  refine VL_go (printInv l H) (fun fr _ => l.length - (ai (aget fr 10)).toNat) ⟨[], 0, by simp, by omega, by simp, fr_intro (by simp [prt])⟩ ?_
  rintro fr H' ⟨J, i, rfl, hi, hall, x, rfl⟩
  obtain ⟨out, hout⟩ : ∃ out, prt signB (l.take i) = out := ⟨_, rfl⟩
  have hol : out.length ≤ 7 * 1048577 := by
    rw [← hout]
    have h1 := prt_le (l.take i)
    have h2 := psz_take l i
    rw [List.length_take] at h1
    omega
  rw [hout]
  by_cases h : i < l.length
  · obtain ⟨p, hp⟩ : ∃ u, l[i]? = some u := ⟨_, List.getElem?_eq_getElem h⟩
    have hat := prs_at hp
    have hw : IntKind.i64.wrap ((i : Int) + 1) = i + 1 := wrap_in (by omega) (by omega)
    have hpw := psz_mem hp
    have hst := prt_step l i p hp
    rw [hout] at hst
    have hstep := all_step (okPar signB) l i p hp
    have hstop := all_stop (okPar signB) l i p hp
    obtain ⟨nm, vl, hs⟩ := p
    simp only at hat hpw hst hstep hstop
    have bad : okPar signB ⟨nm, vl, hs⟩ = false → Q (.tup [.str [], .int .i64 15]) H := fun hb => by
      have : prtAns l = ([], 15) := by unfold prtAns; rw [if_neg (by rw [hstop hb]; simp)]
      rw [this] at hQ; exact hQ
    have ncap : nm.length ≤ cap := by simp only [cap]; omega
    have vcap : vl.length ≤ cap := by simp only [cap]; omega
    simp [h, hat]
    refine isToken_pc E _ _ hE nm ncap ?_
    cases htk : tokB nm
    · simp
      exact aPost_same hB rfl (nilV_refl _) (by simp) (bad (by simp [okPar, tokP_tokB, htk]))
    · simp
      refine isField_pc E _ _ vl vcap ?_
      cases hfd : fldB vl
      · simp
        exact aPost_same hB rfl (nilV_refl _) (by simp) (bad (by simp [okPar, tokP_tokB, htk, hfd]))
      · have hm1 : nm.length + 2 ≤ maxLen ∧ 2 + nm.length ≤ maxLen ∧ nm.length + 1 + 1 ≤ maxLen ∧ out.length + (nm.length + 1 + 1) ≤ maxLen ∧ out.length + (nm.length + 2) ≤ maxLen := by unfold maxLen; omega
        cases hs with
        | false =>
          by_cases hv : vl = []
          · subst hv
            have hok : okPar signB ⟨nm, [], false⟩ = true := by simp [okPar, tokP_tokB, htk]; rfl
            have hst2 : prt signB (l.take (i + 1)) = out ++ 59 :: 32 :: nm := by rw [hst]; simp [prt1]
            simp [hm1, hw]
            exact Kloop_normal ⟨_, i + 1, by simp; rfl, by omega, by rw [hstep, hall, hok]; rfl, fr_intro (by rw [hst2]; simp)⟩ (by simp; omega)
          · have hne : (vl != []) = true := by simpa using hv
            simp [hne]
            exact aPost_same hB rfl (nilV_refl _) (by simp) (bad (by simp [okPar, hv]))
        | true =>
          have hok : okPar signB ⟨nm, vl, true⟩ = true := by simp [okPar, tokP_tokB, htk, hfd]
          have hst2 : prt signB (l.take (i + 1)) = out ++ 59 :: 32 :: (nm ++ 61 :: prtV signB vl) := by rw [hst]; simp [prt1]
          simp [hm1]
          refine isToken_pc E _ _ hE vl vcap ?_
          cases htv : tokB vl
          · have hpv : prtV signB vl = quoted vl := by unfold prtV; rw [tokP_tokB, htv]; simp
            have hqa : quoteAns vl = (quoted vl, 0) := by rw [quoteAns, if_pos hfd]
            have hql := quoted_le vl
            rw [hpv] at hst2
            have hm2 : (quoted vl).length + 1 ≤ maxLen ∧ 1 + (quoted vl).length ≤ maxLen ∧ out.length + (nm.length + 1 + 1) + ((quoted vl).length + 1) ≤ maxLen ∧ out.length + (nm.length + 1 + 1 + ((quoted vl).length + 1)) ≤ maxLen := by unfold maxLen; omega
            simp
            refine quote_pc E _ _ vl (by omega) ?_
            simp [hqa, hm2, hw]
            exact Kloop_normal ⟨_, i + 1, by simp; rfl, by omega, by rw [hstep, hall, hok]; rfl, fr_intro (by rw [hst2]; simp)⟩ (by simp; omega)
          · have hpv : prtV signB vl = vl := by unfold prtV; rw [tokP_tokB, htv]; simp
            rw [hpv] at hst2
            have hm2 : vl.length + 1 ≤ maxLen ∧ 1 + vl.length ≤ maxLen ∧ out.length + (nm.length + 1 + 1) + (vl.length + 1) ≤ maxLen ∧ out.length + (nm.length + 1 + 1 + (vl.length + 1)) ≤ maxLen := by unfold maxLen; omega
            simp [hm2, hw]
            exact Kloop_normal ⟨_, i + 1, by simp; rfl, by omega, by rw [hstep, hall, hok]; rfl, fr_intro (by rw [hst2]; simp)⟩ (by simp; omega)
  · have ha : l.take i = l := List.take_of_length_le (by omega)
    rw [ha] at hall hout
    have : prtAns l = (out, 0) := by unfold prtAns; rw [if_pos hall, hout]
    rw [this] at hQ
    simp [h]
    exact aPost_same hB rfl (nilV_refl _) (by simp) hQ
end
section
variable (E : Env) (H : Hp) (Q : AV → Hp → Prop)
end
end Go.Proofs.YtcdkcaocfioigaaGreatDoor

set_option linter.unusedVariables false
set_option linter.unnecessarySimpa false
set_option linter.unusedSimpArgs false
set_option linter.unusedSectionVars false
set_option maxRecDepth 100000
namespace Go.Proofs.YtcdkcaocfioigaaGreatDoor
open Go Go.RowKit Go.Proofs

/-- The one row of the table of trailing zeros that is asked. -/
def Tz (w : World) : Prop := w.cell? ⟨3, 15, none⟩ = some (.int .u8 4)
/-- .. and the table of tokens' signs. -/
def SZ (E : Env) : Prop := SE E ∧ E.Fix 3 ∧ Tz E.w0
theorem SZ.tz {E : Env} (h : SZ E) {w : World} (hw : ∀ b, E.Fix b → w.heap[b]? = E.w0.heap[b]?) : Tz w := by
  unfold Tz
  rw [World.cell?_of_block (a := ⟨3, 15, none⟩) (hw _ h.2.1)]
  exact h.2.2
set_option maxRecDepth 100000 in
set_option maxHeartbeats 1000000 in
theorem tz64_ok (W : World) (hT : Tz W) : Calls Tryz.prog 181 #[.int .u64 16] W fun e w' => e = .returned (.int .i64 4) ∧ w' = W := by
  unfold Tz at hT
  have hq : IntKind.u64.wrap (bits BinOp.and IntKind.u64 16 (IntKind.u64.wrap (-16)) * 285870213051353865) / 288230376151711744 = 15 := by decide
  go_enter Tryz.func181, Tryz.ntmps181
  go_wp2
  go_ret
  exact ⟨rfl, rfl⟩
@[simp] theorem tzc65 : tzc Tryz.prog 221 = some (List.replicate 65 (.int .u8 0)) := by kernel_rfl
section
variable (E : Env) (H : Hp) (Q : AV → Hp → Prop)
theorem tz64_pc (hE : SZ E) (hQ : Q (.int .i64 4) H) : PC Tryz.prog E 181 [.int .u64 16] H Q := by
  refine pc_of_calls (v := .int .i64 4) (by kernel_rfl) Tz (fun w hw => hE.tz hw) (fun w β Rd cargs hS hsz hargs => ?_) (.int _ _) rfl hQ
  obtain ⟨u, rfl, hu⟩ := args1 hsz hargs
  obtain rfl := rel_int hu
  refine (tz64_ok w hS).mono ?_
  rintro e w' ⟨rfl, rfl⟩
  exact ⟨_, rfl, Frm.refl _ _, .int _ _⟩
theorem tz_pc (hE : SZ E) (hQ : Q (.int .i64 4) H) : PC Tryz.prog E 159 [.int .u64 16] H Q := by
  refine pc_enter Tryz.func159 rfl [] [] (by kernel_rfl) (fun hB => ?_)
  simp [Tryz.ntmps159, Tryz.results159, List.replicate_succ]
  refine tz64_pc E _ _ hE ?_
  simp
  exact aPost_same0 hB rfl (nilV_refl _) (by simp) hQ
theorem pow2_pc (hQ : Q (.bool true) H) : PC Tryz.prog E 158 [.int .i64 16] H Q := by
  refine pc_enter Tryz.func158 rfl [] [] (by kernel_rfl) (fun hB => ?_)
  simp [Tryz.ntmps158, Tryz.results158, List.replicate_succ]
  exact aPost_same0 hB rfl (nilV_refl _) (by simp) hQ
def digL : List UInt8 := [48, 49, 50, 51, 52, 53, 54, 55, 56, 57, 97, 98, 99, 100, 101, 102, 103, 104, 105, 106, 107, 108, 109, 110, 111, 112, 113, 114, 115, 116, 117, 118, 119, 120, 121, 122]
theorem digL_at : ∀ k, k < 16 → digL[k]? = some (hx k) := by decide
theorem wrap_u64 {n : Int} (h0 : 0 ≤ n) (h1 : n < 18446744073709551616) : IntKind.u64.wrap n = n := by
  show n % (2 ^ 64) = n
  omega
theorem and15 (u : Nat) (h : u ≤ 1099511627776) : IntKind.u64.wrap ((u % 2 ^ IntKind.u64.bits &&& 15 % 2 ^ IntKind.u64.bits : Nat) : Int) = ((u % 16 : Nat) : Int) := by
  have e1 : u % 2 ^ IntKind.u64.bits = u := Nat.mod_eq_of_lt (by show u < 18446744073709551616; omega)
  have e2 : 15 % 2 ^ IntKind.u64.bits = 15 := rfl
  have e3 : u &&& 15 = u % 16 := Nat.and_two_pow_sub_one_eq_mod u 4
  rw [e1, e2, e3]
  exact wrap_u64 (by omega) (by omega)
def fbInv (n : Nat) (H : Hp) (fr : List AV) (H' : Hp) : Prop := ∃ (u i : Nat) (tail : List UInt8) (row : List AV), H' = H ++ [row] ∧ row.length = 65 ∧ hexD u ++ tail = hexD n ∧ u ≤ n ∧ i + tail.length = 65 ∧ row.drop i = tail.map (fun b => .int .u8 (b.toNat : Int)) ∧
  ∃ x : Nat → AV, fr = [.nil, .int .u64 u, .int .i64 16, .bool false, .bool false, x 5, x 6, x 7, x 8, x 9, .nil, .str [], .ptr (some (H.length, 0)), .int .i64 i, .int .u64 4, .int .u64 16, .int .u64 15, x 17, x 18, x 19, x 20, x 21, x 22, x 23, x 24, x 25, x 26, x 27, x 28, x 29, x 30, x 31, x 32, x 33, x 34, x 35, x 36, x 37, x 38, x 39, x 40, x 41, x 42, x 43, x 44, x 45, x 46, x 47, x 48, x 49, x 50, x 51, x 52, x 53, x 54, x 55, x 56, x 57, x 58, x 59, x 60, x 61, x 62, x 63, x 64, x 65, x 66, x 67, x 68, x 69, x 70, x 71, x 72, x 73, x 74, x 75, x 76, x 77, x 78, x 79, x 80, x 81, x 82, x 83, x 84, x 85, x 86, x 87, x 88, x 89, x 90, x 91, x 92, x 93, x 94, x 95, x 96, x 97, x 98, x 99, x 100, x 101]
theorem formatBits_pc (hE : SZ E) (n : Nat) (hn : n ≤ 1099511627776) (hQ : Q (.tup [.nil, .str (hexD n)]) H) : PC Tryz.prog E 133 [.nil, .int .u64 n, .int .i64 16, .bool false, .bool false] H Q := by
  refine pc_enter Tryz.func133 rfl [95] [(30, [0, 0, 3])] (by kernel_rfl) (fun hB => ?_)
  simp [Tryz.ntmps133, Tryz.results133, List.replicate_succ]
  refine pow2_pc E _ _ ?_
  simp
  refine tz_pc E _ _ hE ?_
  simp
  refine VL_go (fbInv n H) (fun fr _ => (ai (aget fr 1)).toNat) ⟨n, 65, [], List.replicate 65 (.int .u8 0), by simp, by simp, by simp, by omega, by simp, by simp, fr_intro (by simp; exact ⟨rfl, rfl, rfl⟩)⟩ ?_
  rintro fr H' ⟨u, i, tail, row, rfl, hrow, hu, hun, hi, hdr, x, rfl⟩
  have hlu := hexD_pos u
  have hln := hexD_len11 n hn
  have hcat := congrArg List.length hu
  rw [List.length_append] at hcat
  obtain ⟨j, rfl⟩ : ∃ j, i = j + 1 := ⟨i - 1, by omega⟩
  have hw : IntKind.i64.wrap (j : Int) = j := wrap_in (by omega) (by omega)
  have hw1 : IntKind.i64.wrap (((j + 1 : Nat) : Int) - 1) = j := by rw [wrap_in (by omega) (by omega)]; omega
  by_cases h : 16 ≤ u
  · have h' : (16 : Int) ≤ u := by omega
    have ha := and15 u (by omega)
    have hat : lat [48, 49, 50, 51, 52, 53, 54, 55, 56, 57, 97, 98, 99, 100, 101, 102, 103, 104, 105, 106, 107, 108, 109, 110, 111, 112, 113, 114, 115, 116, 117, 118, 119, 120, 121, 122] (u % 16) = some (hx (u % 16)) := digL_at _ (Nat.mod_lt _ (by omega))
    have hj : j ≤ 64 := by omega
    have hj2 : j < 65 := by omega
    simp [h', hw, hw1, ha, hat, hj, hj2, hrow, -Int.natCast_emod]
    have hsh : (u : Int).fdiv (2 ^ min 4 IntKind.u64.bits) = ((u / 16 : Nat) : Int) := by
      show (u : Int).fdiv 16 = _
      rw [Int.fdiv_eq_ediv_of_nonneg _ (by omega)]; omega
    refine Kloop_normal ⟨u / 16, j, hx (u % 16) :: tail, _, rfl, by simp [hrow]; omega, by rw [← hu, hexD_big (show ¬ u < 16 by omega)]; simp, by omega, by simp; omega, ?_, fr_intro (by simp [hsh])⟩ (by simp [hsh]; omega)
    rw [List.drop_append_of_le_length (by rw [List.length_take]; omega), List.drop_of_length_le (by rw [List.length_take]; omega), hdr]
    simp
  · have h' : ¬ (16 : Int) ≤ u := by omega
    have hat : lat [48, 49, 50, 51, 52, 53, 54, 55, 56, 57, 97, 98, 99, 100, 101, 102, 103, 104, 105, 106, 107, 108, 109, 110, 111, 112, 113, 114, 115, 116, 117, 118, 119, 120, 121, 122] u = some (hx u) := digL_at _ (by omega)
    have hj : j ≤ 64 := by omega
    have hj2 : j < 65 := by omega
    have hm : 65 - j ≤ maxLen := by unfold maxLen; omega
    have m65 : 65 ≤ maxLen := by unfold maxLen; omega
    have hj3 : j ≤ 65 := by omega
    have hj4 : ¬ 65 = j := by omega
    have e1 : 65 ≤ j + (64 - j + 1) := by omega
    have e2 : List.take (65 - j) ([AV.int .u8 (hx u).toNat] :: List.drop (j + 1) (List.map (fun x => [x]) row)) = bts (hx u :: tail) := by
      rw [← List.map_drop, hdr, List.map_map, List.take_of_length_le (by simp; omega)]
      rfl
    have e3 : hexD n = hx u :: tail := by rw [← hu, hexD_small (by omega)]; rfl
    rw [e3] at hQ
    simp [h', hw, hw1, hat, hj, hj2, hj3, hj4, m65, hrow, hm, e1, e2]
    exact aPost_same hB rfl (nilV_refl _) (by simp) hQ
theorem formatInt1_pc (hE : SZ E) (n : Nat) (hn : n ≤ 1099511627776) (hQ : Q (.str (hexD n)) H) : PC Tryz.prog E 101 [.int .i64 n, .int .i64 16] H Q := by
  refine pc_enter Tryz.func101 rfl [] [] (by kernel_rfl) (fun hB => ?_)
  have hw : IntKind.u64.wrap (n : Int) = n := wrap_u64 (by omega) (by omega)
  simp [Tryz.ntmps101, Tryz.results101, List.replicate_succ, hw]
  refine formatBits_pc E _ _ hE n hn ?_
  simp
  exact aPost_same0 hB rfl (nilV_refl _) (by simp) hQ
theorem formatInt_pc (hE : SZ E) (n : Nat) (hn : n ≤ 1099511627776) (hQ : Q (.str (hexD n)) H) : PC Tryz.prog E 139 [.int .i64 n, .int .i64 16] H Q := by
  refine pc_enter Tryz.func139 rfl [] [] (by kernel_rfl) (fun hB => ?_)
  simp [Tryz.ntmps139, Tryz.results139, List.replicate_succ]
  refine formatInt1_pc E _ _ hE n hn ?_
  simp
  exact aPost_same0 hB rfl (nilV_refl _) (by simp) hQ
/-- A size line, without its end, and the error's number. -/
def sizeP (n : Int) (l : List Par) : List UInt8 × Int :=
  if n < 0 ∨ 1099511627776 < n then ([], 1)
  else if l.all (okPar signB) = false then ([], 15)
  else if 254 < (hexD n.toNat ++ prt signB l).length then ([], 100) else (hexD n.toNat ++ prt signB l, 0)
theorem printSize_pc (hE : SZ E) (n : Int) (l : List Par) (hl : psz l + l.length ≤ 1048577) (hQ : Q (.tup [.str (sizeP n l).1, .int .i64 (sizeP n l).2]) H) : PC Tryz.prog E 108 [.int .i64 n, .sl false 3 (prs l)] H Q := by
  refine pc_enter Tryz.func108 rfl [] [] (by kernel_rfl) (fun hB => ?_)
  by_cases h1 : n < 0
  · have e : sizeP n l = ([], 1) := by unfold sizeP; rw [if_pos (.inl h1)]
    rw [e] at hQ
    simp [Tryz.ntmps108, Tryz.results108, List.replicate_succ, h1]
    exact aPost_same0 hB rfl (nilV_refl _) (by simp) hQ
  · by_cases h2 : 1099511627776 < n
    · have e : sizeP n l = ([], 1) := by unfold sizeP; rw [if_pos (.inr h2)]
      rw [e] at hQ
      simp [Tryz.ntmps108, Tryz.results108, List.replicate_succ, h1, h2]
      exact aPost_same0 hB rfl (nilV_refl _) (by simp) hQ
    · obtain ⟨m, rfl⟩ : ∃ m : Nat, n = m := ⟨n.toNat, by omega⟩
      have h3 : ¬ 1099511627776 < (m : Int) := h2
      have hln := hexD_len11 m (by omega)
      have hpl := prt_le l
      simp [Tryz.ntmps108, Tryz.results108, List.replicate_succ, h1, h3]
      refine print_pc E _ _ hE.1 l (by omega) ?_
      cases hall : l.all (okPar signB) with
      | false =>
        have e : sizeP m l = ([], 15) := by unfold sizeP; rw [if_neg (by omega), if_pos hall]
        have e2 : prtAns l = ([], 15) := by unfold prtAns; rw [if_neg (by rw [hall]; simp)]
        rw [e] at hQ
        simp [e2]
        exact aPost_same0 hB rfl (nilV_refl _) (by simp) hQ
      | true =>
        have e2 : prtAns l = (prt signB l, 0) := by unfold prtAns; rw [if_pos hall]
        have hm : (hexD m).length + (prt signB l).length ≤ maxLen := by unfold maxLen; omega
        simp [e2]
        refine formatInt_pc E _ _ hE m (by omega) ?_
        by_cases h4 : 254 < (hexD m ++ prt signB l).length
        · have e : sizeP m l = ([], 100) := by unfold sizeP; rw [if_neg (by omega), if_neg (by rw [hall]; simp), if_pos (by simpa using h4)]
          have h4' : (254 : Int) < (hexD m).length + (prt signB l).length := by rw [List.length_append] at h4; omega
          rw [e] at hQ
          simp [hm, h4']
          exact aPost_same0 hB rfl (nilV_refl _) (by simp) hQ
        · have e : sizeP m l = (hexD m ++ prt signB l, 0) := by unfold sizeP; rw [if_neg (by omega), if_neg (by rw [hall]; simp), if_neg (by simpa using h4)]; simp
          have h4' : ¬ (254 : Int) < (hexD m).length + (prt signB l).length := by rw [List.length_append] at h4; omega
          rw [e] at hQ
          simp [hm, h4']
          exact aPost_same0 hB rfl (nilV_refl _) (by simp) hQ
end
end Go.Proofs.YtcdkcaocfioigaaGreatDoor

set_option linter.unusedVariables false
set_option linter.unnecessarySimpa false
set_option linter.unusedSimpArgs false
set_option linter.unusedSectionVars false
set_option maxRecDepth 100000
namespace Go.Proofs.YtcdkcaocfioigaaGreatDoor
open Go Go.RowKit Go.Proofs

section
variable (E : Env) (H : Hp) (Q : AV → Hp → Prop)
end
end Go.Proofs.YtcdkcaocfioigaaGreatDoor

