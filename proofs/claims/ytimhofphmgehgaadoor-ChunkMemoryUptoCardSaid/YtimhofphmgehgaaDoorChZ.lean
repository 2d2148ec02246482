/- A decoder that is played: begun, walked, stepped. -/
import Derived.Test.YtimhofphmgehgaaDoorChY
set_option linter.unusedVariables false
set_option linter.unnecessarySimpa false
set_option linter.unusedSimpArgs false
set_option linter.unusedSectionVars false
set_option maxRecDepth 100000
namespace Go.Proofs.YtimhofphmgehgaaDoor
open Go Go.RowKit Go.Proofs

theorem feedD_take : ∀ (s : List UInt8) (d : Dec), feedD d (s.take (feedD d s).2) = ((feedD d s).1, (feedD d s).2)
  | [], d => rfl
  | b :: s, d => by
    rw [feedD_cons]
    by_cases hc : (feed1 d b).done = true ∨ (feed1 d b).err ≠ 0
    · rw [if_pos hc]
      rw [show (b :: s).take 1 = [b] from rfl, feedD_cons, if_pos hc]
    · rw [if_neg hc]
      simp only
      rw [List.take_succ_cons, feedD_cons, if_neg hc, feedD_take s]
/-- A decoder that is played, as the law has it. -/
def dptr (p : Option Nat) : AV := .ptr (p.map fun i => (i, 0))
def pv (p : Option Nat) (m r f : Int) (fed : List UInt8) (gone : Bool) : AV := .agg [dptr p, .int .i64 m, .int .i64 r, .int .i64 f, .str fed, .bool gone]
def PlI (H : Hp) (p : Option Nat) (m r f : Int) (fed : List UInt8) (gone : Bool) : Prop := ∀ i, p = some i →
  H[i]? = some (feedD (newD m r f) fed).1.av ∧ (feedD (newD m r f) fed).2 = fed.length ∧ (gone = false → goD (feedD (newD m r f) fed).1) ∧ (gone = true → (feedD (newD m r f) fed).1.done = true ∨ (feedD (newD m r f) fed).1.err ≠ 0) ∧
    (0 ≤ m ∧ m ≤ 9223372036854775807) ∧ (0 ≤ r ∧ r ≤ 9223372036854775807) ∧ (0 ≤ f ∧ f ≤ 9223372036854775807)
theorem aPost_up {P : Program} {rs : List ResultVar} {n : Nat} {Q : AV → Hp → Prop} {fr : List AV} {H' : Hp} {v : AV} (h1 : ares P fr H' rs = some v) (h3 : n ≤ H'.length) (h4 : BndH H'.length H') (h5 : Bnd H'.length v) (h6 : Q v H') :
    aPost P rs n Q .ret fr H' := ⟨v, v, H', H', [], h1, nilV_refl _, nilH_refl _, (List.append_nil H').symm, h3, h4, h5, h6⟩
theorem bndH_app' {N : Nat} {H J : Hp} (h : BndH N H) (h2 : ∀ l ∈ J, ∀ x ∈ l, Bnd N x) : BndH N (H ++ J) := fun l hl x hx => by
  rcases List.mem_append.1 hl with h' | h'
  · exact h l h' x hx
  · exact h2 l h' x hx
theorem bndH_mono {N M : Nat} {H : Hp} (h : BndH N H) (hm : N ≤ M) : BndH M H := fun l hl x hx => (h l hl x hx).mono hm
theorem pc_enterF {P : Program} {E : Env} (S : Nat → Prop) {f : FuncId} {fn : Func} {c : Code} (hf : P.funcs[f]? = some fn) (hb : fn.body = some c) (B : List Tmp) (ND : List (Nat × List Nat)) (hok : okB P B ND fn = true) {args : List AV} {H : Hp} {Q : AV → Hp → Prop}
    (h : ∀ E' : Env, E'.S = S → E'.w0 = E.w0 → E'.Fix = E.Fix → BndH H.length H → vc P E' B ND c (aPost P fn.results.toList H.length Q) (args ++ List.replicate (fn.ntmps - args.length) (.raw undef)) H) : PC P E f args H Q :=
  PC.env (E := E) (E' := { E with S := S }) rfl rfl (pc_enter hf hb B ND hok (h _ rfl rfl rfl))
section
variable (E : Env) (H : Hp) (Q : AV → Hp → Prop)
theorem lkind_pc (k n : Int) (hn : 1 ≤ n) (hn2 : n ≤ 2305843009213693952) (hk1 : -9223372036854775808 ≤ k) (hk2 : k ≤ 9223372036854775807) (hQ : Q (.int .i64 (k % n)) H) : PC Tryd.prog E 30 [.int .i64 k, .int .i64 n] H Q := by
  refine pc_enter Tryd.func30 rfl [] [] (by kernel_rfl) (fun hB => ?_)
  have hz : ¬ n = 0 := by omega
  have b1 := Int.lt_tmod_of_pos k (by omega : (0 : Int) < n)
  have b2 := Int.tmod_lt_of_pos k (by omega : (0 : Int) < n)
  have p : (k.tmod n + n).tmod n = k % n := by
    rw [Int.tmod_eq_emod_of_nonneg (by omega), Int.add_emod_right, Int.tmod_def, Int.sub_mul_emod_self_left]
  have w1 : IntKind.i64.wrap (k.tmod n) = k.tmod n := wrap_in (by omega) (by omega)
  have w2 : IntKind.i64.wrap (k.tmod n + n) = k.tmod n + n := wrap_in (by omega) (by omega)
  have b3 := Int.emod_lt_of_pos k (by omega : (0 : Int) < n)
  have b4 := Int.emod_nonneg k hz
  have w3 : IntKind.i64.wrap (k % n) = k % n := wrap_in (by omega) (by omega)
  simp [Tryd.ntmps30, Tryd.results30, List.replicate_succ, hz, w1, w2, p, w3]
  exact aPost_same0 hB rfl (nilV_refl _) (by simp) hQ
theorem pwalk_pc (p : Option Nat) (m r f : Int) (fed : List UInt8) (gone : Bool) (hp : p = none ∨ (0 ≤ m ∧ m ≤ 9223372036854775807) ∧ 0 ≤ r) (hl : fed.length ≤ 1000000000)
    (hQ : ∀ t e dn B T, (p = none → t = 0 ∧ e = 0 ∧ dn = false ∧ B = [] ∧ T = []) → (p ≠ none → Ends m r f fed t e dn B T) → Q (wkA t e dn B (.sl false 2 (flds T))) H) :
    PC Tryd.prog E 55 [pv p m r f fed gone] H Q := by
  cases p with
  | none =>
    refine PC.nilD ?_
    have hq := hQ 0 0 false [] [] (fun _ => ⟨rfl, rfl, rfl, rfl, rfl⟩) (fun h => absurd rfl h)
    refine pc_enter Tryd.func55 rfl [] [] (by kernel_rfl) (fun hB => ?_)
    simp [Tryd.ntmps55, Tryd.results55, List.replicate_succ, pv, dptr]
    exact aPost_same hB (v0 := wkA 0 0 false [] .nil) (by simp [wkA]) (nilV_refl _) (by simp [wkA]) ⟨_, NilD_agg (by simp [flds]), hq⟩
  | some i =>
    have hp := hp.resolve_left (by simp)
    obtain ⟨r, rfl⟩ : ∃ k : Nat, r = k := ⟨r.toNat, by omega⟩
    refine pc_enter Tryd.func55 rfl [] [] (by kernel_rfl) (fun hB => ?_)
    simp [Tryd.ntmps55, Tryd.results55, List.replicate_succ, pv, dptr]
    refine walk_pc E _ _ m f r fed hl hp.1 (fun t e dn B T hE => ?_)
    simp [wkA]
    exact aPost_same hB (v0 := wkA t e dn B (.sl false 2 (flds T))) (by simp [wkA]) (nilV_refl _) (by simp [wkA]) (hQ t e dn B T (fun h => by cases h) (fun _ => hE))
theorem begun_pc (m r f : Int) (h1 : m ≤ 9223372036854775807) (h2 : r ≤ 9223372036854775807) (h3 : f ≤ 9223372036854775807)
    (hQ : ∀ p H', PlI H' p m r f [] false → (∀ i, p = some i → H.length ≤ i) → (∀ i, p = some i → i < H'.length) → H.length ≤ H'.length → (∀ j, j < H.length → H'[j]? = H[j]?) → BndH H'.length H' → Q (.tup [pv p m r f [] false, .bool true]) H') :
    PC Tryd.prog E 24 [.agg [.int .i64 m, .int .i64 r, .int .i64 f]] H Q := by
  refine PC.bnd ?_
  refine pc_enter Tryd.func24 rfl [] [] (by kernel_rfl) (fun hB => ?_)
  simp [Tryd.ntmps24, Tryd.results24, List.replicate_succ]
  refine cnew_pc E _ _ m r f (fun g1 g2 g3 => ?_) (fun hneg => ?_)
  · have hneg : ¬ (m < 0 ∨ r < 0 ∨ f < 0) := by omega
    simp
    refine limits_pc E _ _ m r f ?_
    rw [if_neg hneg]
    simp
    have hbn : BndH (H.length + 3) (H ++ [[.int .i64 m, .int .i64 r, .int .i64 f], [.ptr (some (H.length + 2, 0)), .int .i64 m, .int .i64 r, .int .i64 f, .str [], .bool false], (newD m r f).av]) := bndH_app' (bndH_mono hB (by omega)) (fun l hl x hx => by
      simp at hl
      rcases hl with rfl | rfl | rfl
      · simp at hx; rcases hx with rfl | rfl | rfl <;> exact .int _ _
      · simp at hx; rcases hx with rfl | rfl | rfl | rfl | rfl | rfl <;> simp
      · exact (newD m r f).bnd _ x hx)
    refine aPost_up (v := .tup [pv (some (H.length + 2)) m r f [] false, .bool true]) (by simp [pv, dptr]) (by simp) (by simpa using hbn) (by simp [pv, dptr]) (fun hb _ => hQ (some (H.length + 2)) _ ?_ ?_ ?_ ?_ ?_ hb)
    · intro i hi
      cases hi
      exact ⟨by simp [feedD], rfl, fun _ => ⟨rfl, rfl⟩, (fun h => by cases h), ⟨g1, h1⟩, ⟨g2, h2⟩, ⟨g3, h3⟩⟩
    · intro i hi; cases hi; omega
    · intro i hi; cases hi; simp
    · simp
    · intro j hj; exact List.getElem?_append_left hj
  · simp
    refine limits_pc E _ _ m r f ?_
    rw [if_pos hneg]
    simp
    refine aPost_same hB (v0 := .tup [pv none m r f [] false, .bool true]) (by simp [pv, dptr]) (nilV_refl _) (by simp [pv, dptr]) (fun hb _ => hQ none H ?_ ?_ ?_ ?_ ?_ hb)
    · intro i hi; cases hi
    · intro i hi; cases hi
    · intro i hi; cases hi
    · exact Nat.le_refl _
    · intro j hj; rfl
structure COp where
  k : Int
  s : List UInt8
def COp.av (o : COp) : List AV := [.int .i64 o.k, .str o.s]
/-- What a step leaves. -/
def StI (H H' : Hp) (p : Option Nat) : Prop := H'.length = H.length ∧ ∀ j, p ≠ some j → H'[j]? = H[j]?
theorem step0_pc (m r f : Int) (fed : List UInt8) (gone : Bool) (o : COp) (hk : -9223372036854775808 ≤ o.k ∧ o.k ≤ 9223372036854775807) (hl : fed.length + o.s.length ≤ 1000000000)
    (hQ : Q (.tup [pv none m r f fed gone, .bool true]) H) :
    PC Tryd.prog E 25 [pv none m r f fed gone, .agg o.av] H Q := by
  obtain ⟨kd, S⟩ := o
  refine pc_enterF (fun i => i = H.length ∨ i = H.length + 3 ∨ i = H.length + 4) Tryd.func25 rfl [] [(4, [2, 0, 0, 2, 0, 2, 0, 2]), (6, [2, 0, 0, 2, 0, 2, 0, 2]), (8, [2, 0, 0, 2, 0, 2, 0, 2]), (10, [2, 0, 0, 2, 0, 2, 2]), (12, [2, 0, 0, 2, 0, 2, 0, 2]), (21, [0, 0, 0, 0, 0, 0, 0, 0, 0, 0, 2, 0, 0, 2])] (by kernel_rfl) (fun E' hS h0 hF hB => ?_)
  have fin : ∀ (fr : List AV) (J : Hp) (c1 c2 : List AV), aget fr 4 = .ptr (some (H.length + 2, 0)) → aget fr 5 = .bool true → aPost Tryd.prog [ResultVar.cell 4 45, ResultVar.tmp 5] H.length Q .ret fr (H ++ c1 :: c2 :: [.ptr none, .int .i64 m, .int .i64 r, .int .i64 f, .str fed, .bool gone] :: J) := fun fr J c1 c2 h1 h2 =>
    aPost_same hB (v0 := .tup [pv none m r f fed gone, .bool true]) (by simp [h1, h2, pv, dptr]) (nilV_refl _) (by simp [pv, dptr]) hQ
  simp [Tryd.ntmps25, Tryd.results25, List.replicate_succ, pv, dptr, COp.av]
  refine pwalk_pc E' _ _ none m r f fed gone (.inl rfl) (by omega) (fun t e dn B T hE _ => ?_)
  obtain ⟨rfl, rfl, rfl, rfl, rfl⟩ := hE rfl
  simp [wkA, hS]
  refine lkind_pc E' _ _ kd 6 (by omega) (by omega) hk.1 hk.2 ?_
  obtain ⟨k, hk, hk6⟩ : ∃ k : Nat, kd % 6 = k ∧ k < 6 := ⟨(kd % 6).toNat, by omega, by omega⟩
  rw [hk]
  clear hk
  rcases (by omega : k = 0 ∨ k = 1 ∨ k = 2 ∨ k = 3 ∨ k = 4 ∨ k = 5) with rfl | rfl | rfl | rfl | rfl | rfl
  all_goals simp [hS]
  · refine feed0_pc E' _ _ S ?_
    simp [hS]
    exact fin _ _ _ _ rfl rfl
  · refine done0_pc E' _ _ ?_
    simp [hS]
    exact fin _ _ _ _ rfl rfl
  · refine err0_pc E' _ _ ?_
    simp [hS]
    exact fin _ _ _ _ rfl rfl
  · refine body0_pc E' _ _ ?_
    simp [hS]
    exact fin _ _ _ _ rfl rfl
  · refine trailers0_pc E' _ _ ?_
    simp [hS]
    refine same_pc E' _ _ [] (by simp) ?_
    simp [hS]
    exact fin _ _ _ _ rfl rfl
  · refine total0_pc E' _ _ ?_
    simp [hS]
    exact fin _ _ _ _ rfl rfl
set_option maxHeartbeats 4000000 in
theorem step1_pc (hE : SE E) (i : Nat) (m r f : Int) (fed : List UInt8) (gone : Bool) (o : COp) (hI : PlI H (some i) m r f fed gone) (hk : -9223372036854775808 ≤ o.k ∧ o.k ≤ 9223372036854775807) (hl : fed.length + o.s.length ≤ 1000000000)
    (hQ : ∀ H' fed' gone', PlI H' (some i) m r f fed' gone' → StI H H' (some i) → fed'.length ≤ fed.length + o.s.length → BndH H'.length H' → Q (.tup [pv (some i) m r f fed' gone', .bool true]) H') :
    PC Tryd.prog E 25 [pv (some i) m r f fed gone, .agg o.av] H Q := by
  obtain ⟨kd, S⟩ := o
  refine PC.bnd ?_
  refine pc_enterF (fun i => i = H.length ∨ i = H.length + 3 ∨ i = H.length + 4) Tryd.func25 rfl [] [(4, [2, 0, 0, 2, 0, 2, 0, 2]), (6, [2, 0, 0, 2, 0, 2, 0, 2]), (8, [2, 0, 0, 2, 0, 2, 0, 2]), (10, [2, 0, 0, 2, 0, 2, 2]), (12, [2, 0, 0, 2, 0, 2, 0, 2]), (21, [0, 0, 0, 0, 0, 0, 0, 0, 0, 0, 2, 0, 0, 2])] (by kernel_rfl) (fun E' hS h0 hF hB => ?_)
  have hE' : SE E' := ⟨by rw [hF]; exact hE.1, by rw [h0]; exact hE.2⟩
  obtain ⟨hd, hn, hg1, hg2, hm, hr, hf⟩ := hI i rfl
  have hok := feedD_ok fed (newD m r f) (newD_ok m r f hm hr hf)
  have same := hQ H fed gone hI ⟨rfl, fun _ _ => rfl⟩ (by omega) hB
  have hend : ∀ t e dn B T, Ends m r f fed t e dn B T → t = fed.length ∧ e = (feedD (newD m r f) fed).1.err ∧ dn = (feedD (newD m r f) fed).1.done ∧ B = (feedD (newD m r f) fed).1.body ∧ T = (feedD (newD m r f) fed).1.trailers := fun t e dn B T h => ⟨by rw [← h.1, hn], h.2.1.symm, h.2.2.1.symm, h.2.2.2.1.symm, h.2.2.2.2.symm⟩
  have hcat : ∀ (d : Dec), (feedD (newD m r f) fed).1 = d → goD d → feedD (newD m r f) (fed ++ S) = ((feedD d S).1, (feedD d S).2 + fed.length) := fun d e h => feedD_cat fed (newD m r f) d S (Prod.ext e hn) h
  obtain ⟨d, hdd⟩ : ∃ d, (feedD (newD m r f) fed).1 = d := ⟨_, rfl⟩
  rw [hdd] at hd hg1 hg2 hok hend
  have htot : d.total = fed.length := by have := hok.2; rw [hn] at this; simpa [newD] using this
  obtain ⟨a1, a2, a3, a4, a5, a6, a7, a8⟩ := hok.1
  simp only at hl
  have hlt : i < H.length := (List.getElem?_eq_some_iff.1 hd).1
  have fin : ∀ (fr : List AV) (J : Hp) (c1 c2 : List AV), aget fr 4 = .ptr (some (H.length + 2, 0)) → aget fr 5 = .bool true → aPost Tryd.prog [ResultVar.cell 4 45, ResultVar.tmp 5] H.length (fun v H' => BndH H'.length H' → Bnd H'.length v → Q v H') .ret fr (H ++ c1 :: c2 :: [.ptr (some (i, 0)), .int .i64 m, .int .i64 r, .int .i64 f, .str fed, .bool gone] :: J) := fun fr J c1 c2 h1 h2 =>
    aPost_same hB (v0 := .tup [pv (some i) m r f fed gone, .bool true]) (by simp [h1, h2, pv, dptr]) (nilV_refl _) (by simp [pv, dptr]; omega) (fun _ _ => same)
  simp [Tryd.ntmps25, Tryd.results25, List.replicate_succ, pv, dptr, COp.av]
  refine pwalk_pc E' _ _ (some i) m r f fed gone (.inr ⟨hm, hr.1⟩) (by omega) (fun t e dn B T _ hEn => ?_)
  obtain ⟨rfl, rfl, rfl, rfl, rfl⟩ := hend t e dn B T (hEn (by simp))
  simp [wkA, hS]
  refine lkind_pc E' _ _ kd 6 (by omega) (by omega) hk.1 hk.2 ?_
  obtain ⟨k, hk, hk6⟩ : ∃ k : Nat, kd % 6 = k ∧ k < 6 := ⟨(kd % 6).toNat, by omega, by omega⟩
  rw [hk]
  clear hk
  rcases (by omega : k = 0 ∨ k = 1 ∨ k = 2 ∨ k = 3 ∨ k = 4 ∨ k = 5) with rfl | rfl | rfl | rfl | rfl | rfl
  all_goals simp [hS]
  · refine feed_pc E' _ _ i d ((hs0 hlt _).trans hd) hE' S hok.1 (by omega) (fun hd1 he1 => ?_) (fun hdone => ?_)
    · cases hgn : gone with
      | true => exact absurd (hg2 hgn) (by rw [hd1, he1]; simp)
      | false =>
        have hc := hcat d hdd (hg1 hgn)
        obtain ⟨⟨d2, n2⟩, hf2⟩ : ∃ q, feedD d S = q := ⟨_, rfl⟩
        have hle2 := feedD_le S d
        have htk := feedD_take (fed ++ S) (newD m r f)
        rw [hf2] at hc hle2
        rw [hc] at htk
        simp only at hc hle2 htk
        have m1 : fed.length + S.length ≤ maxLen := by unfold maxLen; omega
        obtain ⟨W, hW⟩ : ∃ W, fed ++ S = W := ⟨_, rfl⟩
        have hWl : W.length = fed.length + S.length := by rw [← hW, List.length_append]
        rw [hW] at hc htk
        obtain ⟨T, hT⟩ : ∃ T, T = n2 + fed.length := ⟨_, rfl⟩
        rw [← hT] at hc htk
        simp [hS, hf2, hs3 hlt, m1, hW]
        refine pwalk_pc E' _ _ (some i) m r f W false (.inr ⟨hm, hr.1⟩) (by omega) (fun t e dn B T' _ hEn => ?_)
        have hEn := hEn (by simp)
        unfold Ends at hEn
        rw [hc] at hEn
        obtain ⟨rfl, rfl, rfl, rfl, rfl⟩ := hEn
        have hTW : T ≤ W.length := by omega
        have hw : IntKind.i64.wrap ((T : Int) - fed.length) = n2 := by rw [wrap_in (by omega) (by omega)]; omega
        have hset : ∀ (l : List AV), (H.set i d2.av ++ l :: []).length = H.length + 1 := by simp
        obtain ⟨gn, hgn2⟩ : ∃ gn : Bool, gn = (d2.done || d2.err != 0) := ⟨_, rfl⟩
        have hPl : PlI (H.set i d2.av) (some i) m r f (W.take T) gn := by
          intro j hj
          cases hj
          rw [htk]
          refine ⟨List.getElem?_set_self hlt, by simp only [List.length_take]; omega, fun h => ?_, fun h => ?_, hm, hr, hf⟩
          · rw [hgn2, Bool.or_eq_false_iff] at h
            exact ⟨h.1, by simpa using h.2⟩
          · rw [hgn2, Bool.or_eq_true] at h
            simpa using h
        have hq := hQ (H.set i d2.av) (W.take T) gn hPl ⟨by simp, fun j hj => List.getElem?_set_ne (fun e => hj (by rw [e]))⟩ (by rw [List.length_take]; simp only; omega)
        have fin2 : ∀ (fr : List AV) (J : Hp) (c1 c2 : List AV), aget fr 4 = .ptr (some (H.length + 2, 0)) → aget fr 5 = .bool true → aPost Tryd.prog [ResultVar.cell 4 45, ResultVar.tmp 5] H.length (fun v H' => BndH H'.length H' → Bnd H'.length v → Q v H') .ret fr (H.set i d2.av ++ c1 :: c2 :: [.ptr (some (i, 0)), .int .i64 m, .int .i64 r, .int .i64 f, .str (W.take T), .bool gn] :: J) := fun fr J c1 c2 h1 h2 =>
          aPost_set hB (v0 := .tup [pv (some i) m r f (W.take T) gn, .bool true]) (by simp [h1, h2, pv, dptr]) (nilV_refl _) (d2.bnd _) (by simp [pv, dptr]; omega) (fun hb _ => hq hb)
        cases hdn : d2.done with
        | true =>
          have hg : gn = true := by rw [hgn2, hdn]; rfl
          rw [hg] at fin2
          simp [wkA, hS, hdn, hTW, hw]
          exact fin2 _ _ _ _ rfl rfl
        | false =>
          have hg : gn = (d2.err != 0) := by rw [hgn2, hdn]; rfl
          rw [hg] at fin2
          simp [wkA, hS, hdn, hTW, hw]
          exact fin2 _ _ _ _ rfl rfl
    · cases hgn : gone with
      | false =>
        have h3 := hg1 hgn
        rcases hdone with h4 | h4
        · rw [h3.1] at h4; cases h4
        · exact absurd h3.2 h4
      | true =>
        subst hgn
        simp [hS]
        exact fin _ _ _ _ rfl rfl
  · refine done_pc E' _ _ i d ((hs0 hlt _).trans hd) ?_
    simp [hS]
    exact fin _ _ _ _ rfl rfl
  · refine err_pc E' _ _ i d ((hs0 hlt _).trans hd) ?_
    simp [hS]
    exact fin _ _ _ _ rfl rfl
  · refine body_pc E' _ _ i d ((hs0 hlt _).trans hd) (by omega) ?_
    simp [hS]
    exact fin _ _ _ _ rfl rfl
  · refine trailers_pc E' _ _ i d ((hs0 hlt _).trans hd) (by omega) ?_
    simp [hS]
    refine same_pc E' _ _ _ (by omega) ?_
    simp [hS]
    exact fin _ _ _ _ rfl rfl
  · refine total_pc E' _ _ i d ((hs0 hlt _).trans hd) ?_
    simp [hS, htot]
    exact fin _ _ _ _ rfl rfl
end
end Go.Proofs.YtimhofphmgehgaaDoor
