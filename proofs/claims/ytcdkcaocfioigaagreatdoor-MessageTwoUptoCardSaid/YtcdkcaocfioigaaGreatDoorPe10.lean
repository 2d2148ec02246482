/- Part 10 of the texts below the law: the abstract machine, the functions that it walks, what they compute. -/
import Derived.Test.YtcdkcaocfioigaaGreatDoorPe9
set_option linter.unusedVariables false
set_option linter.unnecessarySimpa false
set_option linter.unusedSimpArgs false
set_option linter.unusedSectionVars false
set_option maxRecDepth 100000
namespace Go.Proofs.YtcdkcaocfioigaaGreatDoor
open Go Go.RowKit Go.Proofs

/-- Nils in a struct that comes back ahead of others are seen as empty lists. -/
theorem nilT_rel {w : World} {β : Nat → Nat} {Rd : Nat → Nat → Prop} {N : Nat} {l l' rest : List AV} {u : Value} (hB : Bnd N (.tup (.agg l :: rest))) (h : Rel w β Rd (.tup (.agg l :: rest)) u) (hn : nilL l l') (hf' : ∀ x ∈ l', x.free = true) :
    Rel w β Rd (.tup (.agg l' :: rest)) u ∧ Bnd N (.tup (.agg l' :: rest)) := by
  obtain ⟨hlen, hat⟩ := nilL_at hn
  have hB2 : ∀ x ∈ l, Bnd N x := by
    cases hB with
    | tup _ hB =>
      have := hB (.agg l) (by simp)
      cases this with
      | agg _ h => exact h
  cases h with
  | tup _ vs hl hf hr =>
    have h0 : ∀ u, vs[0]? = some u → Rel w β Rd (.agg l') u ∧ Bnd N (.agg l') := fun u hu => by
      have h0 := hr 0 (.agg l) u rfl hu
      cases h0 with
      | agg _ vs' hl' hf0 hr0 =>
        have key : ∀ (i : Nat) (y : AV) (c : Value), l'[i]? = some y → vs'[i]? = some c → Rel w β Rd y c ∧ Bnd N y := fun i y c hy hc => by
          obtain ⟨x, hx, h1⟩ := hat i y hy
          obtain ⟨r1, r2, _⟩ := nil1_rel h1 (hr0 i x c hx hc) (hB2 x (mem_at hx))
          exact ⟨r1, r2⟩
        refine ⟨.agg _ vs' (by omega) (fun y hy => ⟨hf' y hy, ?_⟩) (fun i y c hy hc => (key i y c hy hc).1), .agg _ fun y hy => ?_⟩
        · obtain ⟨i, hi⟩ := List.getElem?_of_mem hy
          obtain ⟨x, hx, h1⟩ := hat i y hi
          rcases h1 with rfl | ⟨rfl, b, k, rfl⟩
          · exact (hf0 _ (mem_at hx)).2
          · rfl
        · obtain ⟨i, hi⟩ := List.getElem?_of_mem hy
          have hi2 : i < vs'.size := by have := (List.getElem?_eq_some_iff.1 hi).1; omega
          exact (key i y _ hi (Array.getElem?_eq_getElem hi2)).2
    have hv0 : vs[0]? = some vs[0]! := by
      have : 0 < vs.size := by simp at hl; omega
      simp [this]
    refine ⟨.tup _ vs (by simpa using hl) (fun x hx => ?_) (fun j x u hx hu => ?_), .tup _ fun x hx => ?_⟩
    · rcases List.mem_cons.1 hx with rfl | hx
      · rfl
      · exact hf x (List.mem_cons_of_mem _ hx)
    · cases j with
      | zero => simp at hx; subst hx; exact (h0 u hu).1
      | succ j => exact hr (j + 1) x u (by simpa using hx) hu
    · rcases List.mem_cons.1 hx with rfl | hx
      · exact (h0 _ hv0).2
      · cases hB with
        | tup _ hB => exact hB x (List.mem_cons_of_mem _ hx)
theorem PC.nilT {P : Program} {E : Env} {f : FuncId} {args : List AV} {H : Hp} {Q : AV → Hp → Prop} (h : PC P E f args H (fun v H' => ∃ l l' rest, v = .tup (.agg l :: rest) ∧ nilL l l' ∧ (∀ x ∈ l', x.free = true) ∧ Q (.tup (.agg l' :: rest)) H')) : PC P E f args H Q :=
  ⟨h.1, fun w β Rd Ow cargs h1 h2 h3 h4 => (h.2 w β Rd Ow cargs h1 h2 h3 h4).mono fun e w' ⟨u, v, H', β', Rd', Ow', he, hQ, hp⟩ => by
    obtain ⟨l, l', rest, rfl, hn, hf, hQ⟩ := hQ
    obtain ⟨k1, k2⟩ := nilT_rel hp.bnd hp.rel hn hf
    exact ⟨u, _, H', β', Rd', Ow', he, hQ, ⟨k1, k2, fun g hg => (by cases hg), rfl, hp.hr, hp.old, hp.len, hp.keep, hp.frame, hp.os, hp.tape, hp.output, hp.size⟩⟩⟩
/-- A reply's cells. -/
def Rep.avs (r : Rep) : List AV := [.int .i64 r.status, .str r.reason, .sl false 2 (flds r.fields), .str r.body, .int .i64 r.minor, .sl false 2 (flds r.trailers), .int .i64 r.kind, .int .i64 r.length, .bool r.persist]
/-- .. of a variable's own. -/
def rcellsF (st : Int) (re : List UInt8) (fs : List Fld) (mi : Int) (ki le : Int) (pe : Bool) : List AV := [.int .i64 st, .str re, .sl true 2 (flds fs), .str [], .int .i64 mi, .sl true 2 [], .int .i64 ki, .int .i64 le, .bool pe]
theorem lineX_sz {l : List UInt8} (h : (lineX l).2.2 = 0) : (lineX l).1.name.length + (lineX l).1.value.length + 1 ≤ l.length := by
  unfold lineX at h ⊢
  split at h
  · simp at h
  split at h
  · simp at h
  split at h
  · simp at h
  split at h
  · simp at h
  split at h
  · simp at h
  split at h
  · simp at h
  rename_i h1 h2 h3 h4 h5 h6
  rw [if_neg h1, if_neg h2, if_neg h3, if_neg h4, if_neg h5, if_neg h6]
  have := trimB_len (l.drop (run ncol l + 1))
  rw [List.length_drop] at this
  simp only [List.length_take]
  omega
theorem lineX_rng (l : List UInt8) : 0 ≤ (lineX l).2.1 ∧ (lineX l).2.1 ≤ l.length + 8192 := by
  have h1 := run_le ncol l
  have h2 := run_le blankB (l.drop (run ncol l + 1))
  have h3 := run_le fcB (l.drop (run ncol l + 1))
  have h4 := run_le signB l
  rw [List.length_drop] at h2 h3
  unfold lineX
  (repeat' split) <;> simp only <;> omega
theorem fsz_snoc (l : List Fld) (f : Fld) : fsz (l ++ [f]) = fsz l + (f.name.length + f.value.length) := by rw [fsz_app]; simp [fsz]
section
variable (E : Env) (H : Hp) (Q : AV → Hp → Prop)
theorem parseLineX_pc' (hE : SE E) (l : List UInt8) (hl : l.length ≤ cap) (hQ : Q (.tup [.agg [.str (lineX l).1.name, .str (lineX l).1.value], .int .i64 (lineX l).2.1, .int .i64 (lineX l).2.2]) H) :
    PC Tryz.prog E 114 [.str l] H Q := parseLineX_pc E H Q hE l hl hQ
def hdO (mi st : Int) (re : List UInt8) : HD → Option (Rep × Int × Int)
  | .part => none
  | .bad n e => some (rep0, n, e)
  | .ok fs e => some (⟨mi, st, re, fs, [], [], (framingA fs (decide (mi = 0))).1, (framingA fs (decide (mi = 0))).2.1, persistA fs (decide (mi = 0))⟩, (e : Int), 0)
def hdInv (s : List UInt8) (st mi : Int) (re : List UInt8) (F : HD) (H : Hp) (fr : List AV) (H' : Hp) : Prop := ∃ (J : Hp) (a n : Nat) (fs : List Fld), a ≤ s.length ∧ s.length < a + n ∧ fieldsR s (decide (mi = 0)) n a fs = F ∧ fsz fs + fs.length ≤ a ∧
  H' = H ++ ([rcells 0 [] 0, [.int .i64 0, .int .i64 0], rcellsF st re fs mi 0 0 false, [.int .i64 0, .int .i64 0]] ++ J) ∧
  ∃ x : Nat → AV, fr = [.str s, x 1, .ptr (some (H.length, 0)), x 3, .ptr (some (H.length + 1, 0)), .ptr (some (H.length + 2, 0)), .int .i64 a, .ptr (some (H.length + 3, 0)), x 8, x 9, x 10, x 11, x 12, x 13, x 14, x 15, x 16, x 17, x 18, x 19, x 20, x 21, x 22, x 23, x 24, x 25, x 26, x 27, x 28, x 29, x 30, x 31, x 32, x 33, x 34, x 35, x 36, x 37, x 38, x 39, x 40, x 41, x 42, x 43, x 44, x 45, x 46, x 47, x 48, x 49, x 50, x 51, x 52, x 53, x 54, x 55, x 56, x 57, x 58, x 59, x 60, x 61, x 62, x 63, x 64, x 65, x 66, x 67, x 68, x 69, x 70, x 71, x 72, x 73, x 74, x 75, x 76, x 77, x 78, x 79, x 80, x 81, x 82, x 83, x 84, x 85, x 86, x 87, x 88, x 89, x 90, x 91, x 92, x 93, x 94, x 95, x 96, x 97, x 98, x 99, x 100]
set_option maxHeartbeats 2000000 in
theorem rhead_pc (hE : SE E) (s : List UInt8) (hl : s.length ≤ 65536)
    (hQ1 : ∀ (r : Rep) (n : Nat), headO s = some (r, (n : Int), 0) → Q (.tup [.agg r.avs, .int .i64 n, .agg [.int .i64 0, .int .i64 0]]) H)
    (hQ2 : ∀ (r : Rep) (n e : Int), headO s = some (rep0, n, e) → e ≠ 0 → Q (.tup [.agg r.avs, .int .i64 0, .agg [.int .i64 n, .int .i64 e]]) H)
    (hQ3 : ∀ (r : Rep), headO s = none → Q (.tup [.agg r.avs, .int .i64 0, .agg [.int .i64 s.length, .int .i64 124]]) H) : PC Tryz.prog E 83 [.str s] H Q := by
  refine PC.nilT ?_
  have hnil : ∀ (st : Int) (re : List UInt8) (mi : Int), nilL (rcells st re mi) (Rep.avs ⟨mi, st, re, [], [], [], 0, 0, false⟩) := fun st re mi =>
    ⟨.inl rfl, .inl rfl, .inr ⟨rfl, false, 2, rfl⟩, .inl rfl, .inl rfl, .inr ⟨rfl, false, 2, rfl⟩, .inl rfl, .inl rfl, .inl rfl, trivial⟩
  have hfree : ∀ r : Rep, ∀ x ∈ r.avs, x.free = true := fun r => by simp [Rep.avs, AV.free]
  have hrefl : ∀ r : Rep, nilL r.avs r.avs := fun r => nilL_refl _
  refine pc_enterF (fun i => H.length + 2 ≤ i) Tryz.func83 rfl [94] [(3, [2, 2, 2, 0, 2]), (6, [2, 2, 2, 0, 2]), (12, [0, 0, 0, 0, 0, 1])] (by kernel_rfl) (fun E' hS' h0' hF' hB => ?_)
  have hE' : SE E' := ⟨by rw [hF']; exact hE.1, by rw [h0']; exact hE.2⟩
  simp [Tryz.ntmps83, Tryz.results83, List.replicate_succ]
  refine statusLine_pc E' _ _ s (by omega) (fun a0 hst => ?_) (fun st re mi n hst => ?_) (fun st re mi hst => ?_)
  rotate_left
  · have hO : headO s = some (rep0, (n : Int), 122) := by unfold headO; rw [hst]
    simp [rcells, hS']
    exact aPost_same hB (v0 := .tup [.agg (rcells st re mi), .int .i64 0, .agg [.int .i64 n, .int .i64 122]]) (by simp [rcells]) (nilV_refl _) (by simp [rcells]) ⟨_, _, _, rfl, hnil _ _ _, hfree _, hQ2 _ _ _ hO (by decide)⟩
  · have hO : headO s = none := by unfold headO; rw [hst]
    simp [rcells, hS']
    exact aPost_same hB (v0 := .tup [.agg (rcells st re mi), .int .i64 0, .agg [.int .i64 s.length, .int .i64 124]]) (by simp [rcells]) (nilV_refl _) (by simp [rcells]) ⟨_, _, _, rfl, hnil _ _ _, hfree _, hQ3 _ hO⟩
  obtain ⟨_, h13, _, ha15, ha⟩ := stR_pre hst
  obtain ⟨st, hst2⟩ : ∃ st, 100 * dg s 9 + 10 * dg s 10 + dg s 11 = st := ⟨_, rfl⟩
  obtain ⟨re, hre⟩ : ∃ re, (s.drop 13).take (a0 - 2 - 13) = re := ⟨_, rfl⟩
  obtain ⟨mi, hmi⟩ : ∃ mi, dg s 7 = mi := ⟨_, rfl⟩
  obtain ⟨F, hF⟩ : ∃ F, fieldsR s (decide (mi = 0)) (s.length + 1) a0 [] = F := ⟨_, rfl⟩
  have hO : headO s = hdO mi st re F := by
    unfold headO
    rw [hst]
    simp only
    rw [hmi, hF, hst2, hre]
    cases F <;> rfl
  rw [hst2, hre, hmi]
  clear hst2 hre hmi
  simp [rcells, hS']
  refine VL_nilH (H.length + 2) _ 2 2 (by simp; rfl) rfl ?_
  simp
  refine VL_nilH (H.length + 2) _ 5 2 (by simp; rfl) rfl ?_
  simp
  refine VL_go (hdInv s st mi re F H) (fun fr _ => s.length - (ai (aget fr 6)).toNat) ⟨[], a0, s.length + 1, [], ha, by omega, hF, by simp [fsz], by simp [rcells, rcellsF, flds], fr_intro (by simp)⟩ ?_
  rintro fr H' ⟨J, a, n, fs, ha, hn, hF, hfz, rfl, x, rfl⟩
  obtain ⟨m, rfl⟩ : ∃ m, n = m + 1 := ⟨n - 1, by omega⟩
  rw [fieldsR_next] at hF
  simp [rcellsF, rcells]
  refine line_pc E' _ _ s a ha (by omega) (fun i hai hi2 hL => ?_) (fun i hL => ?_) (fun hL => ?_)
  rotate_left
  · have hx : nextR s (decide (mi = 0)) a fs = .inl (.bad i 122) := by unfold nextR; rw [hL]
    rw [hx] at hF
    simp only at hF
    subst hF
    simp [hS']
    exact aPost_same hB (v0 := .tup [.agg (Rep.avs ⟨mi, st, re, fs, [], [], 0, 0, false⟩), .int .i64 0, .agg [.int .i64 i, .int .i64 122]]) (by simp [Rep.avs, flds]) (nilV_refl _) (by simp [Rep.avs, bnd_flds]) ⟨_, _, _, rfl, hrefl _, hfree _, hQ2 _ _ _ hO (by decide)⟩
  · have hx : nextR s (decide (mi = 0)) a fs = .inl .part := by unfold nextR; rw [hL]
    rw [hx] at hF
    simp only at hF
    subst hF
    simp [hS']
    exact aPost_same hB (v0 := .tup [.agg (Rep.avs ⟨mi, st, re, fs, [], [], 0, 0, false⟩), .int .i64 0, .agg [.int .i64 s.length, .int .i64 124]]) (by simp [Rep.avs, flds]) (nilV_refl _) (by simp [Rep.avs, bnd_flds]) ⟨_, _, _, rfl, hrefl _, hfree _, hQ3 _ hO⟩
  obtain ⟨l, hl⟩ : ∃ l, (s.drop a).take (i - a) = l := ⟨_, rfl⟩
  have hll : l.length = i - a := by rw [← hl, List.length_take, List.length_drop]; omega
  rw [hl]
  have hi2' : (s.drop a).take (i + 2 - 2 - a) = l := by rw [show i + 2 - 2 - a = i - a by omega]; exact hl
  have hsz : fsz fs + fs.length ≤ 4194304 := by omega
  by_cases hle : l = []
  · have hx : nextR s (decide (mi = 0)) a fs = .inl (if (framingA fs (decide (mi = 0))).2.2 ≠ 0 then .bad a (framingA fs (decide (mi = 0))).2.2 else .ok fs (i + 2)) := by
      unfold nextR
      rw [hL]
      simp only
      rw [hi2', if_pos hle]
    rw [hx] at hF
    simp only at hF
    subst hF
    have hmb : (mi == 0) = decide (mi = 0) := rfl
    simp [hle]
    refine framing_pc E' _ _ hE' fs (decide (mi = 0)) hsz ?_
    by_cases he : (framingA fs (decide (mi = 0))).2.2 = 0
    · rw [if_neg (by simpa using he)] at hO
      simp [he, hS']
      refine persist_pc E' _ _ hE' fs (decide (mi = 0)) hsz ?_
      have hq := hQ1 _ _ hO
      simp
      exact aPost_same hB (v0 := .tup [.agg (Rep.avs ⟨mi, st, re, fs, [], [], (framingA fs (decide (mi = 0))).1, (framingA fs (decide (mi = 0))).2.1, persistA fs (decide (mi = 0))⟩), .int .i64 ((i + 2 : Nat) : Int), .agg [.int .i64 0, .int .i64 0]]) (by simp [Rep.avs, flds]) (nilV_refl _) (by simp [Rep.avs, bnd_flds]) ⟨_, _, _, rfl, hrefl _, hfree _, hq⟩
    · rw [if_pos he] at hO
      have he2 : ((framingA fs (decide (mi = 0))).2.2 != 0) = true := by simpa using he
      simp [he2, hS']
      exact aPost_same hB (v0 := .tup [.agg (Rep.avs ⟨mi, st, re, fs, [], [], 0, 0, false⟩), .int .i64 0, .agg [.int .i64 a, .int .i64 (framingA fs (decide (mi = 0))).2.2]]) (by simp [Rep.avs, flds]) (nilV_refl _) (by simp [Rep.avs, bnd_flds]) ⟨_, _, _, rfl, hrefl _, hfree _, hQ2 _ _ _ hO he⟩
  · have hle2 : (l == []) = false := by simpa using hle
    by_cases h100 : 100 ≤ fs.length
    · have hx : nextR s (decide (mi = 0)) a fs = .inl (.bad a 65) := by
        unfold nextR
        rw [hL]
        simp only
        rw [hi2', if_neg hle, if_pos h100]
      rw [hx] at hF
      simp only at hF
      subst hF
      have h100' : (100 : Int) ≤ fs.length := by omega
      simp [hle2, h100', hS']
      exact aPost_same hB (v0 := .tup [.agg (Rep.avs ⟨mi, st, re, fs, [], [], 0, 0, false⟩), .int .i64 0, .agg [.int .i64 a, .int .i64 65]]) (by simp [Rep.avs, flds]) (nilV_refl _) (by simp [Rep.avs, bnd_flds]) ⟨_, _, _, rfl, hrefl _, hfree _, hQ2 _ _ _ hO (by decide)⟩
    · have h100' : ¬ (100 : Int) ≤ fs.length := by omega
      simp [hle2, h100']
      refine parseLineX_pc' E' _ _ hE' l (by simp only [cap]; omega) ?_
      by_cases he : (lineX l).2.2 = 0
      · have hx : nextR s (decide (mi = 0)) a fs = .inr (i + 2, fs ++ [(lineX l).1]) := by
          unfold nextR
          rw [hL]
          simp only
          rw [hi2', if_neg hle, if_neg h100, if_neg (by simpa using he)]
        rw [hx] at hF
        simp only at hF
        have hls := lineX_sz he
        have hsn := fsz_snoc fs (lineX l).1
        have hfs : flds fs ++ [[.str (lineX l).1.name, .str (lineX l).1.value]] = flds (fs ++ [(lineX l).1]) := by simp [flds]
        have m1 : fs.length + 1 ≤ maxLen := by unfold maxLen; omega
        have m2 : (fs.length + 1) * 32 ≤ 140737488355328 := by omega
        simp [he, m1, m2, hfs]
        exact Kloop_normal ⟨_, i + 2, m, _, by omega, by omega, hF, by rw [hsn]; simp; omega, by simp [rcellsF, rcells]; rfl, fr_intro (by simp)⟩ (by simp; omega)
      · have hx : nextR s (decide (mi = 0)) a fs = .inl (.bad (a + (lineX l).2.1) (lineX l).2.2) := by
          unfold nextR
          rw [hL]
          simp only
          rw [hi2', if_neg hle, if_neg h100, if_pos he]
        rw [hx] at hF
        simp only at hF
        subst hF
        have he2 : ((lineX l).2.2 != 0) = true := by simpa using he
        have hrg := lineX_rng l
        have hw : IntKind.i64.wrap ((a : Int) + (lineX l).2.1) = a + (lineX l).2.1 := wrap_in (by omega) (by omega)
        simp [he2, hw, hS']
        exact aPost_same hB (v0 := .tup [.agg (Rep.avs ⟨mi, st, re, fs, [], [], 0, 0, false⟩), .int .i64 0, .agg [.int .i64 (a + (lineX l).2.1), .int .i64 (lineX l).2.2]]) (by simp [Rep.avs, flds]) (nilV_refl _) (by simp [Rep.avs, bnd_flds]) ⟨_, _, _, rfl, hrefl _, hfree _, hQ2 _ _ _ hO he⟩
end
end Go.Proofs.YtcdkcaocfioigaaGreatDoor

set_option linter.unusedVariables false
set_option linter.unnecessarySimpa false
set_option linter.unusedSimpArgs false
set_option linter.unusedSectionVars false
set_option maxRecDepth 100000
namespace Go.Proofs.YtcdkcaocfioigaaGreatDoor
open Go Go.RowKit Go.Proofs

theorem lineX_code (l : List UInt8) : (lineX l).2.2 ≠ 124 := by
  unfold lineX
  (repeat' split) <;> simp
theorem lengthA_code (l : List Fld) : (lengthA l).2.2 = 0 ∨ (lengthA l).2.2 = 66 := by
  unfold lengthA
  (repeat' split) <;> simp
theorem framingA_code (l : List Fld) (old : Bool) : (framingA l old).2.2 ≠ 124 := by
  have := lengthA_code l
  unfold framingA
  (repeat' split) <;> simp <;> omega
theorem fieldsR_code {t : List UInt8} {old : Bool} : ∀ (n a : Nat) (fs : List Fld) (i e : Int), fieldsR t old n a fs = .bad i e → e ≠ 124
  | 0, a, fs, i, e, h => by rw [fieldsR] at h; cases h
  | n + 1, a, fs, i, e, h => by
    rw [fieldsR_next] at h
    cases hx : nextR t old a fs with
    | inl x =>
      rw [hx] at h
      simp only at h
      subst h
      unfold nextR at hx
      cases he : lineR t a with
      | part => rw [he] at hx; cases hx
      | bad i => rw [he] at hx; injection hx with hx; injection hx with _ hx; rw [← hx]; decide
      | ok e' =>
        rw [he] at hx
        simp only at hx
        split at hx
        · split at hx
          · injection hx with hx
            injection hx with _ hx
            rw [← hx]; exact framingA_code _ _
          · cases hx
        · split at hx
          · injection hx with hx
            injection hx with _ hx
            rw [← hx]; decide
          · split at hx
            · injection hx with hx
              injection hx with _ hx
              rw [← hx]; exact lineX_code _
            · cases hx
    | inr p =>
      obtain ⟨e', gs'⟩ := p
      rw [hx] at h
      exact fieldsR_code n e' gs' i e h
theorem headO_code {t : List UInt8} {r : Rep} {n e : Int} (h : headO t = some (r, n, e)) : e ≠ 124 := by
  unfold headO at h
  cases hs : stR t with
  | part => rw [hs] at h; cases h
  | bad i => rw [hs] at h; cases h; decide
  | ok a =>
    rw [hs] at h
    simp only at h
    cases hf : fieldsR t (decide (dg t 7 = 0)) (t.length + 1) a [] with
    | part => rw [hf] at h; cases h
    | bad n e => rw [hf] at h; cases h; exact fieldsR_code _ _ _ _ _ hf
    | ok fs e => rw [hf] at h; cases h; decide
theorem decodeD_at (s : List UInt8) (m r f : Int) : -1 ≤ (decodeD s m r f).2.2.1 ∧ (decodeD s m r f).2.2.1 ≤ s.length := by
  have := feedD_le s (newD m r f)
  unfold decodeD
  (repeat' split) <;> simp only <;> omega
/-- The cells of no reply. -/
def rzero : List AV := [.int .i64 0, .str [], .nil, .str [], .int .i64 0, .nil, .int .i64 0, .int .i64 0, .bool false]
theorem rzero_nil : nilL rzero rep0.avs := ⟨.inl rfl, .inl rfl, .inr ⟨rfl, false, 2, rfl⟩, .inl rfl, .inl rfl, .inr ⟨rfl, false, 2, rfl⟩, .inl rfl, .inl rfl, .inl rfl, trivial⟩
theorem avs_free (r : Rep) : ∀ x ∈ r.avs, x.free = true := by simp [Rep.avs, AV.free]
theorem avs_bnd (r : Rep) (N : Nat) : ∀ x ∈ r.avs, Bnd N x := by simp [Rep.avs, bnd_flds]
section
variable (E : Env) (H : Hp) (Q : AV → Hp → Prop)
set_option maxHeartbeats 1000000 in
theorem parseHead_pc (hE : SE E) (s : List UInt8) (hl : s.length ≤ 1000000000) (hQ : Q (.tup [.agg (headM s).1.avs, .int .i64 (headM s).2.1, .int .i64 (headM s).2.2]) H) : PC Tryz.prog E 56 [.str s] H Q := by
  refine PC.nilT ?_
  refine pc_enterF (fun i => i = H.length + 2) Tryz.func56 rfl [] [(5, [0, 0, 2, 0, 2, 2])] (by kernel_rfl) (fun E' hS' h0' hF' hB => ?_)
  have hE' : SE E' := ⟨by rw [hF']; exact hE.1, by rw [h0']; exact hE.2⟩
  have fin : ∀ a : Rep × Int × Int, headM s = a → Q (.tup [.agg a.1.avs, .int .i64 a.2.1, .int .i64 a.2.2]) H := fun a ha => ha ▸ hQ
  have hM := headM_eq s
  by_cases hs : 65536 < s.length
  · have hs' : (65536 : Int) < s.length := by omega
    have hle : 65536 ≤ s.length := by omega
    rw [if_pos hs] at hM
    simp [Tryz.ntmps56, Tryz.results56, List.replicate_succ, hs', hle]
    refine rhead_pc E' _ _ hE' (s.take 65536) (by rw [List.length_take]; omega) (fun r n hO => ?_) (fun r n e hO he => ?_) (fun r hO => ?_)
    · rw [hO] at hM
      simp [Rep.avs]
      exact aPost_same hB (v0 := .tup [.agg r.avs, .int .i64 n, .int .i64 0]) (by simp [Rep.avs]) (nilV_refl _) (by simp [Rep.avs, bnd_flds]) ⟨_, _, _, rfl, nilL_refl _, avs_free _, fin _ hM⟩
    · rw [hO] at hM
      have he1 : (e == 124) = false := by simpa using headO_code hO
      have he2 : (e != 0) = true := by simpa using he
      simp [Rep.avs, he1, he2, hS']
      exact aPost_same hB (v0 := .tup [.agg rzero, .int .i64 n, .int .i64 e]) (by simp [rzero]) (nilV_refl _) (by simp [rzero]) ⟨_, _, _, rfl, rzero_nil, avs_free _, fin _ hM⟩
    · rw [hO] at hM
      simp [Rep.avs, hs', hS']
      exact aPost_same hB (v0 := .tup [.agg rzero, .int .i64 65536, .int .i64 125]) (by simp [rzero]) (nilV_refl _) (by simp [rzero]) ⟨_, _, _, rfl, rzero_nil, avs_free _, fin _ hM⟩
  · have hs' : ¬ (65536 : Int) < s.length := by omega
    rw [if_neg hs, List.take_of_length_le (by omega)] at hM
    have htk : List.take s.length s = s := List.take_of_length_le (Nat.le_refl _)
    simp [Tryz.ntmps56, Tryz.results56, List.replicate_succ, hs', htk]
    refine rhead_pc E' _ _ hE' s (by omega) (fun r n hO => ?_) (fun r n e hO he => ?_) (fun r hO => ?_)
    · rw [hO] at hM
      simp [Rep.avs]
      exact aPost_same hB (v0 := .tup [.agg r.avs, .int .i64 n, .int .i64 0]) (by simp [Rep.avs]) (nilV_refl _) (by simp [Rep.avs, bnd_flds]) ⟨_, _, _, rfl, nilL_refl _, avs_free _, fin _ hM⟩
    · rw [hO] at hM
      have he1 : (e == 124) = false := by simpa using headO_code hO
      have he2 : (e != 0) = true := by simpa using he
      simp [Rep.avs, he1, he2, hS']
      exact aPost_same hB (v0 := .tup [.agg rzero, .int .i64 n, .int .i64 e]) (by simp [rzero]) (nilV_refl _) (by simp [rzero]) ⟨_, _, _, rfl, rzero_nil, avs_free _, fin _ hM⟩
    · rw [hO] at hM
      simp [Rep.avs, hs', hS']
      exact aPost_same hB (v0 := .tup [.agg rzero, .int .i64 s.length, .int .i64 124]) (by simp [rzero]) (nilV_refl _) (by simp [rzero]) ⟨_, _, _, rfl, rzero_nil, avs_free _, fin _ hM⟩
set_option maxHeartbeats 2000000 in
theorem parse_pc (hE : SE E) (m s : List UInt8) (most : Int) (ended : Bool) (hl : s.length ≤ 1000000000) (hm : -9223372036854775808 ≤ most ∧ most ≤ 9223372036854775807)
    (hQ : Q (.tup [.agg (parseM m s most ended).1.avs, .int .i64 (parseM m s most ended).2.1, .int .i64 (parseM m s most ended).2.2]) H) : PC Tryz.prog E 23 [.str m, .str s, .int .i64 most, .bool ended] H Q := by
  refine PC.nilT ?_
  refine pc_enterF (fun i => i = H.length + 1) Tryz.func23 rfl [] [(27, [2, 0, 0, 0, 2, 0, 2])] (by kernel_rfl) (fun E' hS' h0' hF' hB => ?_)
  have hE' : SE E' := ⟨by rw [hF']; exact hE.1, by rw [h0']; exact hE.2⟩
  have fin : ∀ a : Rep × Int × Int, parseM m s most ended = a → Q (.tup [.agg a.1.avs, .int .i64 a.2.1, .int .i64 a.2.2]) H := fun a ha => ha ▸ hQ
  by_cases h0 : most < 0
  · simp [Tryz.ntmps23, Tryz.results23, List.replicate_succ, h0]
    exact aPost_same hB (v0 := .tup [.agg rzero, .int .i64 0, .int .i64 1]) (by simp [rzero]) (nilV_refl _) (by simp [rzero]) ⟨_, _, _, rfl, rzero_nil, avs_free _, fin _ (parseM_neg m s ended h0)⟩
  simp [Tryz.ntmps23, Tryz.results23, List.replicate_succ, h0]
  refine parseHead_pc E' _ _ hE' s hl ?_
  by_cases h1 : (headM s).2.2 = 0
  rotate_left
  · have h1' : ((headM s).2.2 != 0) = true := by simpa using h1
    simp [Rep.avs, h1']
    exact aPost_same hB (v0 := .tup [.agg rzero, .int .i64 (headM s).2.1, .int .i64 (headM s).2.2]) (by simp [rzero]) (nilV_refl _) (by simp [rzero]) ⟨_, _, _, rfl, rzero_nil, avs_free _, fin _ (parseM_bad ended h0 h1)⟩
  simp [Rep.avs, h1]
  refine bodyless_pc E' _ _ m _ ?_
  cases h2 : bodylessB m (headM s).1.status with
  | true =>
    have hP := parseM_none ended h0 h1 h2
    simp
    exact aPost_same hB (v0 := .tup [.agg (headM s).1.avs, .int .i64 (headM s).2.1, .int .i64 0]) (by simp [Rep.avs]) (nilV_refl _) (by simp [Rep.avs, bnd_flds]) ⟨_, _, _, rfl, nilL_refl _, avs_free _, by have := fin _ hP; rw [h1] at this; exact this⟩
  | false =>
    obtain ⟨n, hn, h17, hnl, hn2⟩ := headM_rng h1
    have hP := parseM_body ended h0 h1 h2 hn
    have hlen := headM_len s
    obtain ⟨r, hr⟩ : ∃ r, (headM s).1 = r := ⟨_, rfl⟩
    rw [hr] at hP hlen ⊢
    rw [hn]
    have hgt : n ≤ s.length := hnl
    have hrl : (s.drop n).length = s.length - n := List.length_drop
    have htl : List.take (s.length - n) (s.drop n) = s.drop n := List.take_of_length_le (by omega)
    simp [hgt, htl]
    obtain ⟨rest, hrest⟩ : ∃ rest, s.drop n = rest := ⟨_, rfl⟩
    rw [hrest] at hP hrl ⊢
    have hE2 : n + rest.length = s.length := by omega
    unfold bodyM at hP
    by_cases k2 : r.kind = 2
    · rw [if_pos k2] at hP
      simp [k2]
      refine decode_pc E' _ _ hE' rest most 65536 100 (by omega) (by omega) (by omega) (by omega) ?_
      have hat := decodeD_at rest most 65536 100
      obtain ⟨⟨db, dt, dk, de⟩, hd⟩ : ∃ d, decodeD rest most 65536 100 = d := ⟨_, rfl⟩
      rw [hd] at hP hat ⊢
      simp only at hP hat ⊢
      have hw : IntKind.i64.wrap ((n : Int) + dk) = n + dk := wrap_in (by omega) (by omega)
      by_cases d0 : de = 0
      · rw [if_pos d0] at hP
        simp [d0, hw]
        exact aPost_same hB (v0 := .tup [.agg (Rep.avs { r with body := db, trailers := dt }), .int .i64 (n + dk), .int .i64 0]) (by simp [Rep.avs, k2]) (nilV_refl _) (by simp [Rep.avs, bnd_flds]) ⟨_, _, _, rfl, nilL_refl _, avs_free _, fin _ hP⟩
      · rw [if_neg d0] at hP
        have d0' : (de == 0) = false := by simpa using d0
        by_cases d1 : de = 105
        · rw [if_pos d1] at hP
          simp [d1, hw]
          exact aPost_same hB (v0 := .tup [.agg rzero, .int .i64 (n + dk), .int .i64 124]) (by simp [rzero]) (nilV_refl _) (by simp [rzero]) ⟨_, _, _, rfl, rzero_nil, avs_free _, fin _ hP⟩
        · rw [if_neg d1] at hP
          have d1' : (de == 105) = false := by simpa using d1
          by_cases d2 : de = 102
          · rw [if_pos d2] at hP
            simp [d2, hw]
            exact aPost_same hB (v0 := .tup [.agg rzero, .int .i64 (n + dk), .int .i64 125]) (by simp [rzero]) (nilV_refl _) (by simp [rzero]) ⟨_, _, _, rfl, rzero_nil, avs_free _, fin _ hP⟩
          · rw [if_neg d2] at hP
            have d2' : (de == 102) = false := by simpa using d2
            simp [d0', d1', d2', hw]
            exact aPost_same hB (v0 := .tup [.agg rzero, .int .i64 (n + dk), .int .i64 de]) (by simp [rzero]) (nilV_refl _) (by simp [rzero]) ⟨_, _, _, rfl, rzero_nil, avs_free _, fin _ hP⟩
    · rw [if_neg k2] at hP
      have k2' : (r.kind == 2) = false := by simpa using k2
      by_cases k1 : r.kind = 1
      · rw [if_pos k1] at hP
        simp [k1]
        by_cases c1 : most < r.length
        · rw [if_pos c1] at hP
          simp [c1]
          exact aPost_same hB (v0 := .tup [.agg rzero, .int .i64 n, .int .i64 125]) (by simp [rzero]) (nilV_refl _) (by simp [rzero]) ⟨_, _, _, rfl, rzero_nil, avs_free _, fin _ hP⟩
        · rw [if_neg c1] at hP
          by_cases c2 : (rest.length : Int) < r.length
          · rw [if_pos c2] at hP
            simp [c1, c2]
            exact aPost_same hB (v0 := .tup [.agg rzero, .int .i64 s.length, .int .i64 124]) (by simp [rzero]) (nilV_refl _) (by simp [rzero]) ⟨_, _, _, rfl, rzero_nil, avs_free _, fin _ hP⟩
          · rw [if_neg c2] at hP
            have c3 : r.length.toNat ≤ rest.length := by omega
            have hw : IntKind.i64.wrap ((n : Int) + r.length) = n + r.length := wrap_in (by omega) (by omega)
            simp [c1, c2, c3, hlen, hw, hS']
            exact aPost_same hB (v0 := .tup [.agg (Rep.avs { r with body := rest.take r.length.toNat }), .int .i64 (n + r.length), .int .i64 0]) (by simp [Rep.avs, k1]) (nilV_refl _) (by simp [Rep.avs, bnd_flds]) ⟨_, _, _, rfl, nilL_refl _, avs_free _, fin _ hP⟩
      · rw [if_neg k1] at hP
        have k1' : (r.kind == 1) = false := by simpa using k1
        simp [k1', k2']
        by_cases c1 : most < rest.length
        · rw [if_pos c1] at hP
          have hw : IntKind.i64.wrap ((n : Int) + most) = n + most := wrap_in (by omega) (by omega)
          simp [c1, hw]
          exact aPost_same hB (v0 := .tup [.agg rzero, .int .i64 (n + most), .int .i64 125]) (by simp [rzero]) (nilV_refl _) (by simp [rzero]) ⟨_, _, _, rfl, rzero_nil, avs_free _, fin _ hP⟩
        · rw [if_neg c1] at hP
          cases he : ended with
          | false =>
            rw [if_pos he] at hP
            simp [c1]
            exact aPost_same hB (v0 := .tup [.agg rzero, .int .i64 s.length, .int .i64 124]) (by simp [rzero]) (nilV_refl _) (by simp [rzero]) ⟨_, _, _, rfl, rzero_nil, avs_free _, fin _ hP⟩
          | true =>
            rw [if_neg (by rw [he]; simp)] at hP
            simp [c1]
            exact aPost_same hB (v0 := .tup [.agg (Rep.avs { r with body := rest, persist := false }), .int .i64 s.length, .int .i64 0]) (by simp [Rep.avs]) (nilV_refl _) (by simp [Rep.avs, bnd_flds]) ⟨_, _, _, rfl, nilL_refl _, avs_free _, fin _ hP⟩
end
end Go.Proofs.YtcdkcaocfioigaaGreatDoor

set_option linter.unusedVariables false
set_option linter.unnecessarySimpa false
set_option linter.unusedSimpArgs false
set_option linter.unusedSectionVars false
set_option maxRecDepth 100000
namespace Go.Proofs.YtcdkcaocfioigaaGreatDoor
open Go Go.RowKit Go.Proofs

theorem u8_lit {b : UInt8} {n : Nat} (hn : n < 256) : ((b.toNat : Int) == (n : Int)) = (b == UInt8.ofNat n) := by
  have h2 : (UInt8.ofNat n).toNat = n := by rw [UInt8.toNat_ofNat']; omega
  by_cases h : b = UInt8.ofNat n
  · subst h
    rw [h2]; simp
  · have h' : b.toNat ≠ n := fun e => h (UInt8.toNat_inj.1 (by omega))
    rw [beq_eq_false_iff_ne.2 (by omega : (b.toNat : Int) ≠ n), beq_eq_false_iff_ne.2 h]
section
variable (E : Env) (H : Hp) (Q : AV → Hp → Prop)
theorem dstB_pc (i : Nat) (b : UInt8) (hi : i < 13) (hQ : Q (.bool (stB i b)) H) : PC Tryz.prog E 116 [.int .i64 i, .int .u8 (b.toNat : Int)] H Q := by
  have fin : ∀ a : Bool, stB i b = a → Q (.bool a) H := fun a ha => ha ▸ hQ
  have hbn := b.toNat_lt
  refine pc_enter Tryz.func116 rfl [] [] (by kernel_rfl) (fun hB => ?_)
  by_cases h7 : i < 7
  · obtain ⟨v, hv⟩ : ∃ v, verT[i]? = some v := ⟨_, List.getElem?_eq_getElem (by simp [verT]; omega)⟩
    have hvl : lat [72, 84, 84, 80, 47, 49, 46] i = some v := lat_eq hv
    have h7' : (i : Int) < 7 := by omega
    simp [Tryz.ntmps116, Tryz.results116, List.replicate_succ, h7', h7, hvl]
    refine aPost_same0 hB rfl (nilV_refl _) (by simp) (fin _ ?_)
    unfold stB
    rw [if_pos h7, hv]
    by_cases e : v = b
    · subst e; simp
    · have : b.toNat ≠ v.toNat := fun h => e (UInt8.toNat_inj.1 h.symm)
      rw [decide_eq_false (by simpa using e), eq_comm, beq_eq_false_iff_ne]
      omega
  have h7' : ¬ (i : Int) < 7 := by omega
  by_cases e7 : i = 7
  · subst e7
    by_cases h1 : b.toNat = 48
    · have t1 : ((b.toNat : Int) == 48) = true := by rw [beq_iff_eq]; omega
      simp [Tryz.ntmps116, Tryz.results116, List.replicate_succ, t1]
      exact aPost_same0 hB rfl (nilV_refl _) (by simp) (fin _ (by have : b = 48 := UInt8.toNat_inj.1 h1; subst this; decide))
    · have t1 : ((b.toNat : Int) == 48) = false := by rw [beq_eq_false_iff_ne]; omega
      simp [Tryz.ntmps116, Tryz.results116, List.replicate_succ, t1]
      refine aPost_same0 hB rfl (nilV_refl _) (by simp) (fin _ ?_)
      have hb48 : (b == 48) = false := by rw [beq_eq_false_iff_ne]; intro e; subst e; exact h1 rfl
      unfold stB
      rw [if_neg (by omega), if_pos rfl, hb48]
      have := u8_lit (b := b) (n := 49) (by omega)
      simpa using this.symm
  have e7' : ((i : Int) == 7) = false := by rw [beq_eq_false_iff_ne]; omega
  by_cases e9 : i = 9
  · subst e9
    by_cases h1 : 49 ≤ b.toNat
    · have t1 : (49 : Int) ≤ b.toNat := by omega
      simp [Tryz.ntmps116, Tryz.results116, List.replicate_succ, t1]
      refine aPost_same0 hB rfl (nilV_refl _) (by simp) (fin _ ?_)
      unfold stB
      rw [if_neg (by omega), if_neg (by omega), if_pos rfl]
      rw [Bool.eq_iff_iff]
      simp
      omega
    · have t1 : ¬ (49 : Int) ≤ b.toNat := by omega
      simp [Tryz.ntmps116, Tryz.results116, List.replicate_succ, t1]
      refine aPost_same0 hB rfl (nilV_refl _) (by simp) (fin _ ?_)
      unfold stB
      rw [if_neg (by omega), if_neg (by omega), if_pos rfl, decide_eq_false (by omega)]
  have e9' : ((i : Int) == 9) = false := by rw [beq_eq_false_iff_ne]; omega
  by_cases e1 : i = 10 ∨ i = 11
  · have hst : stB i b = isDig b := by unfold stB; rw [if_neg h7, if_neg e7, if_neg e9, if_pos e1]
    have hdg : isDig b = (decide (48 ≤ b.toNat) && decide (b.toNat ≤ 57)) := by
      unfold isDig
      rw [Bool.eq_iff_iff]; simp
    by_cases h1 : 48 ≤ b.toNat
    · have t1 : (48 : Int) ≤ b.toNat := by omega
      rw [hdg, decide_eq_true h1, Bool.true_and] at hst
      have hd : decide ((b.toNat : Int) ≤ 57) = decide (b.toNat ≤ 57) := by rw [Bool.eq_iff_iff]; simp; omega
      rcases e1 with rfl | rfl
      · simp [Tryz.ntmps116, Tryz.results116, List.replicate_succ, t1]
        exact aPost_same0 hB rfl (nilV_refl _) (by simp) (fin _ (by rw [hst]; simp; omega))
      · simp [Tryz.ntmps116, Tryz.results116, List.replicate_succ, t1]
        exact aPost_same0 hB rfl (nilV_refl _) (by simp) (fin _ (by rw [hst]; simp; omega))
    · have t1 : ¬ (48 : Int) ≤ b.toNat := by omega
      rw [hdg, decide_eq_false h1, Bool.false_and] at hst
      rcases e1 with rfl | rfl
      · simp [Tryz.ntmps116, Tryz.results116, List.replicate_succ, t1]
        exact aPost_same0 hB rfl (nilV_refl _) (by simp) (fin _ hst)
      · simp [Tryz.ntmps116, Tryz.results116, List.replicate_succ, t1]
        exact aPost_same0 hB rfl (nilV_refl _) (by simp) (fin _ hst)
  · have f1 : ((i : Int) == 10) = false := by rw [beq_eq_false_iff_ne]; omega
    have f2 : ((i : Int) == 11) = false := by rw [beq_eq_false_iff_ne]; omega
    have hst : stB i b = (b == 32) := by unfold stB; rw [if_neg h7, if_neg e7, if_neg e9, if_neg e1]
    simp [Tryz.ntmps116, Tryz.results116, List.replicate_succ, h7, h7', e7', e9', f1, f2]
    refine aPost_same0 hB rfl (nilV_refl _) (by simp) (fin _ ?_)
    rw [hst]
    have := u8_lit (b := b) (n := 32) (by omega)
    simpa using this.symm
/-- The byte ahead of a place is a carriage return of the line. -/
def bkA (s : List UInt8) (a i : Nat) : Bool := decide (a < i) && (s[i - 1]? == some 13)
def lnA (s : List UInt8) (a : Nat) : Int × Int × Bool := match lineR (s.take 65536) a with
  | .ok n => (n, 0, true)
  | .bad n => (n, 122, false)
  | .part => if 65536 < s.length then (65536, 125, false) else (s.length, 124, false)
def dlnI (s : List UInt8) (a : Nat) (H : Hp) (fr : List AV) (H' : Hp) : Prop := H' = H ∧ ∃ i : Nat, a ≤ i ∧ i ≤ s.length ∧ i ≤ 65536 ∧ lineS (bkA s a i) ((s.take 65536).drop i) i = lineR (s.take 65536) a ∧
  ∃ x : Nat → AV, fr = [.str s, .int .i64 a, x 2, x 3, x 4, x 5, x 6, .int .i64 i, x 8, x 9, x 10, x 11, x 12, x 13, x 14, x 15, x 16, x 17, x 18, x 19, x 20, x 21, x 22, x 23, x 24, x 25, x 26, x 27, x 28, x 29, x 30, x 31, x 32, x 33, x 34, x 35, x 36, x 37, x 38, x 39, x 40]
theorem bkA_go {s : List UInt8} {a i : Nat} {b : UInt8} (ha : a ≤ i) (hb : s[i]? = some b) : bkA s a (i + 1) = decide (b = 13) := by
  unfold bkA
  rw [decide_eq_true (by omega), Nat.add_sub_cancel, hb, Bool.true_and]
  by_cases h : b = 13
  · subst h; rfl
  · rw [decide_eq_false h, beq_eq_false_iff_ne]; simpa using h
theorem dhline_pc (s : List UInt8) (a : Nat) (ha : a ≤ s.length) (ha2 : a ≤ 65536) (hl : s.length ≤ 1073741824) (hQ : Q (.tup [.int .i64 (lnA s a).1, .int .i64 (lnA s a).2.1, .bool (lnA s a).2.2]) H) : PC Tryz.prog E 90 [.str s, .int .i64 a] H Q := by
  have fin : ∀ p : Int × Int × Bool, lnA s a = p → Q (.tup [.int .i64 p.1, .int .i64 p.2.1, .bool p.2.2]) H := fun p hp => hp ▸ hQ
  refine pc_enter Tryz.func90 rfl [] [] (by kernel_rfl) (fun hB => ?_)
  simp [Tryz.ntmps90, Tryz.results90, List.replicate_succ]
  refine VL_go (dlnI s a H) (fun fr _ => s.length - (ai (aget fr 7)).toNat) ⟨rfl, a, by omega, ha, ha2, by unfold bkA lineR; rw [decide_eq_false (by omega)]; rfl, fr_intro (by simp)⟩ ?_
  rintro fr H' ⟨rfl, i, hai, hi, hi2, hS, x, rfl⟩
  by_cases h : i < s.length
  rotate_left
  · obtain rfl : i = s.length := by omega
    rw [List.drop_of_length_le (by rw [List.length_take]; omega), lineS_nil] at hS
    have e : lnA s a = ((s.length : Int), 124, false) := by unfold lnA; rw [← hS]; simp only; rw [if_neg (by omega)]
    simp
    exact aPost_same0 hB rfl (nilV_refl _) (by simp) (fin _ e)
  by_cases h65 : i = 65536
  · have t1 : ((i : Int) == 65536) = true := by rw [beq_iff_eq]; omega
    rw [List.drop_of_length_le (by rw [List.length_take]; omega), lineS_nil] at hS
    have e : lnA s a = ((i : Int), 125, false) := by unfold lnA; rw [← hS]; simp only; rw [if_pos (by omega), h65]; rfl
    simp [h, t1]
    exact aPost_same0 hB rfl (nilV_refl _) (by simp) (fin _ e)
  have t1 : ((i : Int) == 65536) = false := by rw [beq_eq_false_iff_ne]; omega
  obtain ⟨b, hb⟩ : ∃ b, s[i]? = some b := ⟨_, List.getElem?_eq_getElem h⟩
  have hbt : (s.take 65536)[i]? = some b := by rw [List.getElem?_take_of_lt (by omega)]; exact hb
  have hat := lat_eq hb
  rw [drop_at _ i b hbt] at hS
  have hw : IntKind.i64.wrap ((i : Int) + 1) = i + 1 := wrap_in (by omega) (by omega)
  have t10 := u8_lit (b := b) (n := 10) (by omega)
  have hgo := bkA_go hai hb
  cases hbk : bkA s a i
  · -- no carriage return ahead
    rw [hbk, lineS_go] at hS
    by_cases hgt : a < i
    · have hgt' : (a : Int) < i := by omega
      obtain ⟨c, hc⟩ : ∃ c, s[i - 1]? = some c := ⟨_, List.getElem?_eq_getElem (by omega)⟩
      have hc13 : ((c.toNat : Int) == 13) = false := by
        have := u8_lit (b := c) (n := 13) (by omega)
        unfold bkA at hbk
        rw [decide_eq_true hgt, Bool.true_and, hc] at hbk
        have h2 : (c == 13) = false := by
          rw [beq_eq_false_iff_ne] at hbk ⊢
          intro e; exact hbk (by rw [e])
        exact this.trans h2
      have w1 : IntKind.i64.wrap ((i : Int) - 1) = ((i - 1 : Nat) : Int) := by rw [wrap_in (by omega) (by omega)]; omega
      have hlt1 : i - 1 < s.length := by omega
      have hat1 := lat_eq hc
      by_cases h10 : b = 10
      · subst h10
        rw [if_pos rfl] at hS
        have e : lnA s a = ((i : Int), 122, false) := by unfold lnA; rw [← hS]
        have hne : (false != true) = true := rfl
        simp [h, t1, hgt, hgt', w1, hlt1, hat1, hc13, hat]
        exact aPost_same0 hB rfl (nilV_refl _) (by simp) (fin _ e)
      · rw [if_neg h10, ← hgo] at hS
        have t10' : ((b.toNat : Int) == 10) = false := t10.trans (by rw [beq_eq_false_iff_ne]; exact h10)
        simp [h, t1, hgt, hgt', w1, hlt1, hat1, hc13, hat, t10', hw]
        exact Kloop_normal ⟨rfl, i + 1, by omega, by omega, by omega, hS, fr_intro (by simp)⟩ (by simp; omega)
    · have hgt' : ¬ (a : Int) < i := by omega
      by_cases h10 : b = 10
      · subst h10
        rw [if_pos rfl] at hS
        have e : lnA s a = ((i : Int), 122, false) := by unfold lnA; rw [← hS]
        simp [h, t1, hgt, hgt', hat]
        exact aPost_same0 hB rfl (nilV_refl _) (by simp) (fin _ e)
      · rw [if_neg h10, ← hgo] at hS
        have t10' : ((b.toNat : Int) == 10) = false := t10.trans (by rw [beq_eq_false_iff_ne]; exact h10)
        simp [h, t1, hgt, hgt', hat, t10', hw]
        exact Kloop_normal ⟨rfl, i + 1, by omega, by omega, by omega, hS, fr_intro (by simp)⟩ (by simp; omega)
  · rw [hbk, lineS_back] at hS
    unfold bkA at hbk
    rw [Bool.and_eq_true] at hbk
    have hgt := of_decide_eq_true hbk.1
    have hgt' : (a : Int) < i := by omega
    have hc : s[i - 1]? = some 13 := by simpa using hbk.2
    have w1 : IntKind.i64.wrap ((i : Int) - 1) = ((i - 1 : Nat) : Int) := by rw [wrap_in (by omega) (by omega)]; omega
    have hlt1 : i - 1 < s.length := by omega
    have hat1 := lat_eq hc
    by_cases h10 : b = 10
    · subst h10
      rw [if_pos rfl] at hS
      have e : lnA s a = (((i + 1 : Nat) : Int), 0, true) := by unfold lnA; rw [← hS]
      simp [h, t1, hgt, hgt', w1, hlt1, hat1, hat, hw]
      exact aPost_same0 hB rfl (nilV_refl _) (by simp) (fin _ e)
    · rw [if_neg h10] at hS
      have e : lnA s a = ((i : Int), 122, false) := by unfold lnA; rw [← hS]
      have t10' : ((b.toNat : Int) == 10) = false := t10.trans (by rw [beq_eq_false_iff_ne]; exact h10)
      simp [h, t1, hgt, hgt', w1, hlt1, hat1, hat, t10']
      exact aPost_same0 hB rfl (nilV_refl _) (by simp) (fin _ e)
def stA (s : List UInt8) : Int × Int × Bool := match stR s with
  | .ok n => (n, 0, true)
  | .bad n => (n, 122, false)
  | .part => (s.length, 124, false)
def dstI1 (s : List UInt8) (H : Hp) (fr : List AV) (H' : Hp) : Prop := H' = H ∧ ∃ i : Nat, i ≤ 13 ∧ i ≤ s.length ∧ preR s (13 - i) i = preR s 13 0 ∧ ∃ x : Nat → AV, fr = [.str s, x 1, x 2, x 3, x 4, .int .i64 i, x 6, x 7, x 8, x 9, x 10, x 11, x 12, x 13, x 14, x 15, x 16, x 17, x 18, x 19, x 20, x 21, x 22, x 23, x 24, x 25, x 26, x 27, x 28, x 29, x 30, x 31, x 32, x 33, x 34, x 35, x 36, x 37, x 38, x 39, x 40, x 41, x 42, x 43, x 44, x 45, x 46, x 47, x 48, x 49, x 50, x 51, x 52, x 53, x 54, x 55, x 56, x 57, x 58, x 59, x 60, x 61]
def dstI2 (s : List UInt8) (H : Hp) (fr : List AV) (H' : Hp) : Prop := H' = H ∧ ∃ i : Nat, 13 ≤ i ∧ i ≤ s.length ∧ i ≤ 269 ∧ reasonR (s.drop i) (i - 13) i = stR s ∧ ∃ x : Nat → AV, fr = [.str s, x 1, x 2, x 3, x 4, x 5, .int .i64 i, x 7, x 8, x 9, x 10, x 11, x 12, x 13, x 14, x 15, x 16, x 17, x 18, x 19, x 20, x 21, x 22, x 23, x 24, x 25, x 26, x 27, x 28, x 29, x 30, x 31, x 32, x 33, x 34, x 35, x 36, x 37, x 38, x 39, x 40, x 41, x 42, x 43, x 44, x 45, x 46, x 47, x 48, x 49, x 50, x 51, x 52, x 53, x 54, x 55, x 56, x 57, x 58, x 59, x 60, x 61]
theorem dstatus_pc (s : List UInt8) (hl : s.length ≤ 1073741824) (hQ : Q (.tup [.int .i64 (stA s).1, .int .i64 (stA s).2.1, .bool (stA s).2.2]) H) : PC Tryz.prog E 89 [.str s] H Q := by
  have fin : ∀ p : Int × Int × Bool, stA s = p → Q (.tup [.int .i64 p.1, .int .i64 p.2.1, .bool p.2.2]) H := fun p hp => hp ▸ hQ
  refine pc_enter Tryz.func89 rfl [] [] (by kernel_rfl) (fun hB => ?_)
  simp [Tryz.ntmps89, Tryz.results89, List.replicate_succ]
  refine VL_go (dstI1 s H) (fun fr _ => 13 - (ai (aget fr 5)).toNat) ⟨rfl, 0, by omega, by omega, rfl, fr_intro (by simp)⟩ ?_
  rintro fr H' ⟨rfl, i, hi, hil, hS, x, rfl⟩
  by_cases h : i < 13
  · have h13 : (i : Int) < 13 := by omega
    obtain ⟨m, hm⟩ : ∃ m, 13 - i = m + 1 := ⟨12 - i, by omega⟩
    rw [hm] at hS
    by_cases he : i = s.length
    · have t1 : ((i : Int) == s.length) = true := by rw [beq_iff_eq]; omega
      rw [preR_end s m i (List.getElem?_eq_none (by omega))] at hS
      have e : stA s = ((i : Int), 124, false) := by unfold stA; rw [stR_part hS.symm, he]
      simp [h13, t1]
      exact aPost_same0 hB rfl (nilV_refl _) (by simp) (fin _ e)
    have t1 : ((i : Int) == s.length) = false := by rw [beq_eq_false_iff_ne]; omega
    have hlt : i < s.length := by omega
    obtain ⟨b, hb⟩ : ∃ b, s[i]? = some b := ⟨_, List.getElem?_eq_getElem hlt⟩
    have hat := lat_eq hb
    have hw : IntKind.i64.wrap ((i : Int) + 1) = i + 1 := wrap_in (by omega) (by omega)
    simp [h13, t1, hlt, hat]
    refine dstB_pc E _ _ i b h ?_
    cases hst : stB i b
    · rw [preR_bad hb hst] at hS
      have e : stA s = ((i : Int), 122, false) := by unfold stA; rw [stR_bad hS.symm]
      simp
      exact aPost_same0 hB rfl (nilV_refl _) (by simp) (fin _ e)
    · rw [preR_ok hb hst] at hS
      simp [hw]
      exact Kloop_normal ⟨rfl, i + 1, by omega, by omega, by rw [show 13 - (i + 1) = m by omega]; exact hS, fr_intro (by simp)⟩ (by simp; omega)
  · obtain rfl : i = 13 := by omega
    have hpre : preR s 13 0 = .ok 13 := hS.symm
    have hR := stR_ok hpre
    simp
    refine VL_go (dstI2 s H') (fun fr _ => s.length - (ai (aget fr 6)).toNat) ⟨rfl, 13, by omega, hil, by omega, by rw [hR], fr_intro (by simp)⟩ ?_
    rintro fr H' ⟨rfl, i, hi13, hil, hi2, hS, x, rfl⟩
    by_cases h : i < s.length
    rotate_left
    · obtain rfl : i = s.length := by omega
      rw [List.drop_of_length_le (Nat.le_refl _), reasonR_nil] at hS
      have e : stA s = ((s.length : Int), 124, false) := by unfold stA; rw [← hS]
      simp
      exact aPost_same0 hB rfl (nilV_refl _) (by simp) (fin _ e)
    obtain ⟨b, hb⟩ : ∃ b, s[i]? = some b := ⟨_, List.getElem?_eq_getElem h⟩
    have hat := lat_eq hb
    have hw : IntKind.i64.wrap ((i : Int) + 1) = i + 1 := wrap_in (by omega) (by omega)
    rw [drop_at s i b hb] at hS
    have t13 := u8_lit (b := b) (n := 13) (by omega)
    by_cases h13 : b = 13
    · subst h13
      by_cases he : i + 1 = s.length
      · rw [List.drop_of_length_le (by omega), reasonR_cr1] at hS
        have t1 : ((i : Int) + 1 == s.length) = true := by rw [beq_iff_eq]; omega
        have e : stA s = ((i : Int) + 1, 124, false) := by unfold stA; rw [← hS]; simp only; rw [← he]; simp
        simp [h, hat, hw, t1]
        exact aPost_same0 hB rfl (nilV_refl _) (by simp) (fin _ e)
      have t1 : ((i : Int) + 1 == s.length) = false := by rw [beq_eq_false_iff_ne]; omega
      have hlt2 : i + 1 < s.length := by omega
      obtain ⟨c, hc⟩ : ∃ c, s[i + 1]? = some c := ⟨_, List.getElem?_eq_getElem hlt2⟩
      have hat2 := lat_eq hc
      have tn : ((i : Int) + 1).toNat = i + 1 := by omega
      have hge : (0 : Int) ≤ (i : Int) + 1 := by omega
      have hlt3 : (i : Int) + 1 < s.length := by omega
      rw [drop_at s (i + 1) c hc, reasonR_cr] at hS
      have t10 := u8_lit (b := c) (n := 10) (by omega)
      have hw2 : IntKind.i64.wrap ((i : Int) + 2) = i + 2 := wrap_in (by omega) (by omega)
      by_cases h10 : c = 10
      · subst h10
        rw [if_pos rfl] at hS
        have e : stA s = ((i : Int) + 2, 0, true) := by unfold stA; rw [← hS]; rfl
        simp [h, hat, hw, t1, tn, hge, hlt3, hat2, hw2]
        exact aPost_same0 hB rfl (nilV_refl _) (by simp) (fin _ e)
      · rw [if_neg h10] at hS
        have e : stA s = ((i : Int) + 1, 122, false) := by unfold stA; rw [← hS]; rfl
        have t10' : ((c.toNat : Int) == 10) = false := t10.trans (by rw [beq_eq_false_iff_ne]; exact h10)
        have t10n : ((c.toNat : Int) != 10) = true := by rw [bne, t10']; rfl
        simp [h, hat, hw, t1, tn, hge, hlt3, hat2, t10n]
        exact aPost_same0 hB rfl (nilV_refl _) (by simp) (fin _ e)
    have t13' : ((b.toNat : Int) == 13) = false := t13.trans (by rw [beq_eq_false_iff_ne]; exact h13)
    have w13 : IntKind.i64.wrap ((i : Int) - 13) = (i : Int) - 13 := wrap_in (by omega) (by omega)
    by_cases h256 : i = 269
    · have t2 : ((i : Int) - 13 == 256) = true := by rw [beq_iff_eq]; omega
      rw [reasonR_bad b _ _ _ h13 (.inl (by omega))] at hS
      have e : stA s = ((i : Int), 122, false) := by unfold stA; rw [← hS]
      simp [h, hat, t13', w13, t2]
      exact aPost_same0 hB rfl (nilV_refl _) (by simp) (fin _ e)
    have t2 : ((i : Int) - 13 == 256) = false := by rw [beq_eq_false_iff_ne]; omega
    simp [h, hat, t13', w13, t2]
    refine inside_pc E _ _ b ?_
    cases hf : fcB b
    · rw [reasonR_bad b _ _ _ h13 (.inr hf)] at hS
      have e : stA s = ((i : Int), 122, false) := by unfold stA; rw [← hS]
      simp
      exact aPost_same0 hB rfl (nilV_refl _) (by simp) (fin _ e)
    · rw [reasonR_go b _ _ _ h13 (by rintro (h | h); omega; rw [hf] at h; cases h)] at hS
      simp [hw]
      exact Kloop_normal ⟨rfl, i + 1, by omega, by omega, by omega, by rw [show i + 1 - 13 = i - 13 + 1 by omega]; exact hS, fr_intro (by simp)⟩ (by simp; omega)
end
end Go.Proofs.YtcdkcaocfioigaaGreatDoor

set_option linter.unusedVariables false
set_option linter.unnecessarySimpa false
set_option linter.unusedSimpArgs false
set_option linter.unusedSectionVars false
set_option maxRecDepth 100000
namespace Go.Proofs.YtcdkcaocfioigaaGreatDoor
open Go Go.RowKit Go.Proofs

section
variable (E : Env) (H : Hp) (Q : AV → Hp → Prop)
set_option maxHeartbeats 1000000 in
theorem dlineX_pc (l : List UInt8) (hl : l.length ≤ cap) (hQ : Q (.tup [.agg [.str (lineX l).1.name, .str (lineX l).1.value], .int .i64 (lineX l).2.1, .int .i64 (lineX l).2.2]) H) :
    PC Tryz.prog E 93 [.str l] H Q := by
  refine pc_enter Tryz.func93 rfl [] [] (by kernel_rfl) (fun hB => ?_)
  have hl' := hl
  simp only [cap] at hl'
  have bad : ∀ (fr : List AV) (pl e : Int), lineX l = ((⟨[], []⟩ : Fld), pl, e) → aget fr 2 = .ptr (some (H.length, 0)) → aget fr 3 = .int .i64 pl → aget fr 4 = .int .i64 e → aPost Tryz.prog [ResultVar.cell 2 102, ResultVar.tmp 3, ResultVar.tmp 4] H.length Q .ret fr (H ++ [[.str [], .str []]]) := fun fr pl e h0 h2 h3 h4 =>
    aPost_same hB (v0 := .tup [.agg [.str [], .str []], .int .i64 pl, .int .i64 e]) (by simp [h2, h3, h4]) (nilV_refl _) (by simp) (by rw [h0] at hQ; exact hQ)
  obtain ⟨c, hc⟩ : ∃ c, run ncol l = c := ⟨_, rfl⟩
  have hcl := run_le ncol l
  rw [hc] at hcl
  have hib := indexByte_run l
  rw [hc] at hib
  have hcase : (∃ a r, l = a :: r ∧ blankB a = true) ∨ (l = [] ∨ ∃ a r, l = a :: r ∧ blankB a = false) := by
    cases l with
    | nil => exact .inr (.inl rfl)
    | cons a r =>
      cases hb : blankB a
      · exact .inr (.inr ⟨a, r, rfl, hb⟩)
      · exact .inl ⟨a, r, rfl, hb⟩
  have key : ∀ fr : List AV, (∃ x : Nat → AV, fr = [.str l, x 1, .ptr (some (H.length, 0)), x 3, x 4, x 5, x 6, x 7, x 8, x 9, x 10, x 11, x 12, x 13, x 14, x 15, x 16, x 17, x 18, x 19, x 20, x 21, x 22, x 23, x 24, x 25, x 26, x 27, x 28, x 29, x 30, x 31, x 32, x 33, x 34, x 35, x 36, x 37, x 38, x 39, x 40, x 41, x 42, x 43, x 44, x 45, x 46, x 47, x 48, x 49, x 50, x 51, x 52, x 53, x 54, x 55, x 56, x 57, x 58, x 59, x 60, x 61, x 62, x 63, x 64, x 65, x 66, x 67, x 68, x 69, x 70, x 71, x 72, x 73, x 74, x 75, x 76, x 77, x 78, x 79, x 80, x 81, x 82]) → True := fun _ _ => trivial
  rcases hcase with ⟨a, r, rfl, hb⟩ | hcase
  · have hc0 := lineX_fold a r hb
    have hne : (a :: r != []) = true := rfl
    simp [Tryz.ntmps93, Tryz.results93, List.replicate_succ, hne]
    refine ref_blank_pc E _ _ a ?_
    simp [hb]
    exact bad _ 0 63 hc0 rfl rfl rfl
  case' inr =>
    rcases hcase with rfl | ⟨a, r, hl0, hb⟩
    case' inl =>
      simp [Tryz.ntmps93, Tryz.results93, List.replicate_succ]
    case' inr =>
      have hne : (l != []) = true := by rw [hl0]; rfl
      have hl1 : 0 < l.length := by rw [hl0]; simp
      have hla : lat l 0 = some a := by rw [hl0]; rfl
      simp [Tryz.ntmps93, Tryz.results93, List.replicate_succ, hne, hl1, hla]
      refine ref_blank_pc E _ _ a ?_
      simp [hb]
      have hnf : lnb l = false := by rw [hl0]; exact hb
      clear hne hla hl0
  rotate_left
  · refine find_pc E _ _ [] 58 (by simp [cap]) ?_
    rw [show Lib.indexByte [] 58 = -1 from rfl]
    simp
    exact bad _ 0 62 lineX_nil rfl rfl rfl
  · refine find_pc E _ _ l 58 hl ?_
    rw [hib]
    by_cases hcc : c < l.length
    rotate_left
    · have hno := lineX_nocol hnf (by omega)
      simp [hcc]
      exact bad _ l.length 62 hno rfl rfl rfl
    · by_cases hz : c = 0
      · have hno := lineX_zero hnf (by omega) (by omega)
        subst hz
        simp [hcc]
        exact bad _ 0 60 hno rfl rfl rfl
      · have hz2 : ((c : Int) == 0) = false := by simp; omega
        simp [hcc, hz, hz2]
        refine VL_go (dlInv1 l c H) (fun fr _ => c - (ai (aget fr 6)).toNat) ⟨rfl, 0, by omega, by omega, by simp, fr_intro (by simp)⟩ ?_
        rintro fr H' ⟨rfl, i, hi, hi2, hall, x, rfl⟩
        by_cases h : i < c
        · obtain ⟨b, hbi⟩ : ∃ b, l[i]? = some b := ⟨_, List.getElem?_eq_getElem (by omega)⟩
          have hat := lat_eq hbi
          by_cases h128 : i = 128
          · have hno := lineX_long hnf (by omega) (by omega) hall (by omega) (by omega) (by omega)
            subst h128
            have h' : (128 : Int) < c := by omega
            simp [h']
            exact bad _ 128 60 hno rfl rfl rfl
          · have h128' : ((i : Int) == 128) = false := by simp; omega
            have hw : IntKind.i64.wrap ((i : Int) + 1) = i + 1 := wrap_in (by omega) (by omega)
            have hil : i < l.length := by omega
            simp [h, h128', hat, hil]
            refine ref_sign_pc E _ _ b ?_
            cases hs : signB b with
            | false =>
              have hno := lineX_bad hnf (by omega) (by omega) hall (by omega) (by omega) hbi hs
              simp
              exact bad _ i 60 hno rfl rfl rfl
            | true =>
              simp [hw]
              exact Kloop_normal ⟨rfl, i + 1, by omega, by omega, by rw [all_take signB l i b hbi, hall, hs]; rfl, fr_intro (by simp)⟩ (by simp; omega)
        · obtain rfl : i = c := by omega
          have hnm : nameB (l.take i) = true := by
            have : l.take i ≠ [] := by intro e; have h2 := congrArg List.length e; rw [List.length_take] at h2; have h3 : min i l.length = 0 := h2; omega
            unfold nameB tokB
            rw [hall, decide_eq_true (by rw [List.length_take]; omega)]
            simpa using this
          have hw : IntKind.i64.wrap ((i : Int) + 1) = ((i + 1 : Nat) : Int) := by rw [wrap_in (by omega) (by omega)]; omega
          simp [hw, -Int.natCast_add]
          refine VL_go (dlInv2 l i H) (fun fr _ => l.length - (ai (aget fr 7)).toNat) ⟨rfl, i + 1, by omega, by omega, by simp [fldB], fr_intro (by simp)⟩ ?_
          rintro fr H' ⟨rfl, k, hk, hk2, hfl, y, rfl⟩
          by_cases hkl : k < l.length
          · obtain ⟨b, hbk⟩ : ∃ b, l[k]? = some b := ⟨_, List.getElem?_eq_getElem hkl⟩
            have hat := lat_eq hbk
            have hwk : IntKind.i64.wrap ((k : Int) + 1) = k + 1 := wrap_in (by omega) (by omega)
            have hdk : (l.drop (i + 1))[k - (i + 1)]? = some b := by rw [List.getElem?_drop, show i + 1 + (k - (i + 1)) = k by omega]; exact hbk
            simp [hkl, hat]
            refine inside_pc E _ _ b ?_
            cases hs : fcB b with
            | false =>
              have hno := lineX_val hnf (by omega) (by rw [hc]; exact hnm) (i := k) (by omega) (by rw [hc]; exact hfl) (by rw [hc]; exact hdk) hs
              simp
              exact bad _ k 61 (by rw [hno]; congr 2; omega) rfl rfl rfl
            | true =>
              simp [hwk]
              refine Kloop_normal ⟨rfl, k + 1, by omega, by omega, ?_, fr_intro (by simp)⟩ (by simp; omega)
              rw [show k + 1 - (i + 1) = k - (i + 1) + 1 by omega, fldB, all_take fcB _ _ b hdk]
              rw [fldB] at hfl
              rw [hfl, hs]; rfl
          · have hfl' : fldB (l.drop (i + 1)) = true := by
              rw [List.take_of_length_le (by rw [List.length_drop]; omega)] at hfl; exact hfl
            have hi1 : i + 1 ≤ l.length := by omega
            simp [hkl, hw, hi1, -Int.natCast_add]
            refine ref_trim_pc E _ _ (l.drop (i + 1)) (by rw [List.length_drop]; omega) ?_
            have htl := trimB_len (l.drop (i + 1))
            rw [List.length_drop] at htl
            by_cases hbig : 8192 < (trimB (l.drop (i + 1))).length
            · have hno := lineX_big hnf (by omega) (by rw [hc]; exact hnm) (by rw [hc]; exact hfl') (by rw [hc]; exact hbig)
              have hbig' : (8192 : Int) < (trimB (l.drop (i + 1))).length := by omega
              simp [hbig', hw, -Int.natCast_add]
              refine VL_go (dlInv3 l i H) (fun fr _ => l.length - (ai (aget fr 9)).toNat) ⟨rfl, i + 1, by omega, by omega, by simp, fr_intro (by simp)⟩ ?_
              rintro fr H' ⟨rfl, m, hm, hm2, hbl, z, rfl⟩
              have hml : m < l.length := by
                apply Nat.lt_of_not_le
                intro hge
                rw [List.take_of_length_le (by rw [List.length_drop]; omega)] at hbl
                rw [trimB_all _ hbl] at hbig
                simp at hbig
              obtain ⟨b, hbm⟩ : ∃ b, l[m]? = some b := ⟨_, List.getElem?_eq_getElem hml⟩
              have hat := lat_eq hbm
              have hwm : IntKind.i64.wrap ((m : Int) + 1) = m + 1 := wrap_in (by omega) (by omega)
              have hwm2 : IntKind.i64.wrap ((m : Int) + 8192) = m + 8192 := wrap_in (by omega) (by omega)
              have hdm : (l.drop (i + 1))[m - (i + 1)]? = some b := by rw [List.getElem?_drop, show i + 1 + (m - (i + 1)) = m by omega]; exact hbm
              simp [hml, hat]
              refine ref_blank_pc E _ _ b ?_
              cases hs : blankB b with
              | false =>
                simp [hwm2]
                have hrb := run_step blankB (l.drop (i + 1)) _ hbl (by rw [List.length_drop]; omega) (fun c hc => by rw [hdm] at hc; cases hc; exact hs)
                exact bad _ (m + 8192) 61 (by rw [hno, hc, hrb]; congr 2; omega) rfl rfl rfl
              | true =>
                simp [hwm]
                refine Kloop_normal ⟨rfl, m + 1, by omega, by omega, ?_, fr_intro (by simp)⟩ (by simp; omega)
                rw [show m + 1 - (i + 1) = m - (i + 1) + 1 by omega, all_take blankB _ _ b hdm, hbl, hs]; rfl
            · have hbig' : ¬ (8192 : Int) < (trimB (l.drop (i + 1))).length := by omega
              have hf := lineX_yes hnf (by omega) (by rw [hc]; exact hnm) (by rw [hc]; exact hfl') (by rw [hc]; exact hbig)
              rw [hc] at hf
              rw [hf] at hQ
              have hil : i ≤ l.length := by omega
              simp [hbig', hil]
              exact aPost_same hB (v0 := .tup [.agg [.str (l.take i), .str (trimB (l.drop (i + 1)))], .int .i64 0, .int .i64 0]) (by simp) (nilV_refl _) (by simp) hQ
end
end Go.Proofs.YtcdkcaocfioigaaGreatDoor

set_option linter.unusedVariables false
set_option linter.unnecessarySimpa false
set_option linter.unusedSimpArgs false
set_option linter.unusedSectionVars false
set_option maxRecDepth 100000
namespace Go.Proofs.YtcdkcaocfioigaaGreatDoor
open Go Go.RowKit Go.Proofs

theorem preR_partlen (s : List UInt8) : ∀ (n i : Nat), preR s n i = .part → s.length < i + n
  | 0, i, h => by rw [preR] at h; cases h
  | n + 1, i, h => by
    cases hb : s[i]? with
    | none =>
      have := List.getElem?_eq_none_iff.1 hb
      omega
    | some b =>
      cases hs : stB i b with
      | false => rw [preR_bad hb hs] at h; cases h
      | true =>
        rw [preR_ok hb hs] at h
        have := preR_partlen s n (i + 1) h
        omega
theorem preR_all (s : List UInt8) : ∀ (n i j : Nat), preR s n i = .ok j → ∀ k, i ≤ k → k < i + n → ∃ b, s[k]? = some b ∧ stB k b = true
  | 0, i, j, h, k, h1, h2 => by omega
  | n + 1, i, j, h, k, h1, h2 => by
    cases hb : s[i]? with
    | none => rw [preR_end s n i hb] at h; cases h
    | some b =>
      cases hs : stB i b with
      | false => rw [preR_bad hb hs] at h; cases h
      | true =>
        rw [preR_ok hb hs] at h
        by_cases hk : k = i
        · subst hk; exact ⟨b, hb, hs⟩
        · exact preR_all s n (i + 1) j h k (by omega) (by omega)
theorem reasonR_partlen : ∀ (l : List UInt8) (k i : Nat), k ≤ 256 → reasonR l k i = .part → l.length + k ≤ 258
  | [], k, i, hk, h => by simp; omega
  | b :: r, k, i, hk, h => by
    by_cases h13 : b = 13
    · subst h13
      cases r with
      | nil => simp; omega
      | cons c r => rw [reasonR_cr] at h; split at h <;> cases h
    · by_cases hb : 256 ≤ k ∨ fcB b = false
      · rw [reasonR_bad b r k i h13 hb] at h; cases h
      · rw [reasonR_go b r k i h13 hb] at h
        have := reasonR_partlen r (k + 1) (i + 1) (by omega) h
        simp only [List.length_cons]
        omega
theorem stR_partlen {s : List UInt8} (h : stR s = .part) : s.length ≤ 271 := by
  cases hp : preR s 13 0 with
  | part => have := preR_partlen s 13 0 hp; omega
  | bad n => rw [stR_bad hp] at h; cases h
  | ok n =>
    rw [stR_ok hp] at h
    have := reasonR_partlen _ _ _ (by omega) h
    rw [List.length_drop] at this
    omega
theorem stR_cut (s : List UInt8) : stR (s.take 65536) = stR s := by
  by_cases hl : s.length ≤ 65536
  · rw [List.take_of_length_le hl]
  cases h : stR (s.take 65536) with
  | part =>
    have := stR_partlen h
    rw [List.length_take] at this
    omega
  | bad n =>
    have := stR_ext (s := s.take 65536) (s.drop 65536) (by rw [h]; simp)
    rw [List.take_append_drop] at this
    rw [this, h]
  | ok n =>
    have := stR_ext (s := s.take 65536) (s.drop 65536) (by rw [h]; simp)
    rw [List.take_append_drop] at this
    rw [this, h]
section
variable (E : Env) (H : Hp) (Q : AV → Hp → Prop)
def dhdI (s : List UInt8) (st mi : Int) (re : List UInt8) (F : HD) (H : Hp) (fr : List AV) (H' : Hp) : Prop := ∃ (J : Hp) (a n : Nat) (fs : List Fld), a ≤ (s.take 65536).length ∧ (s.take 65536).length < a + n ∧ fieldsR (s.take 65536) (decide (mi = 0)) n a fs = F ∧ fsz fs + fs.length ≤ a ∧ fs.length ≤ 100 ∧
  H' = H ++ ([rcells 0 [] 0, rcellsF st re fs mi 0 0 false] ++ J) ∧
  ∃ x : Nat → AV, fr = [.str s, x 1, .ptr (some (H.length, 0)), x 3, x 4, .int .i64 a, x 6, x 7, .ptr (some (H.length + 1, 0)), x 9, x 10, x 11, x 12, x 13, x 14, x 15, x 16, x 17, x 18, x 19, x 20, x 21, x 22, x 23, x 24, x 25, x 26, x 27, x 28, x 29, x 30, x 31, x 32, x 33, x 34, x 35, x 36, x 37, x 38, x 39, x 40, x 41, x 42, x 43, x 44, x 45, x 46, x 47, x 48, x 49, x 50, x 51, x 52, x 53, x 54, x 55, x 56, x 57, x 58, x 59, x 60, x 61, x 62, x 63, x 64, x 65, x 66, x 67, x 68, x 69, x 70, x 71, x 72, x 73, x 74, x 75, x 76, x 77, x 78, x 79, x 80, x 81, x 82, x 83, x 84, x 85, x 86, x 87, x 88, x 89, x 90, x 91, x 92, x 93, x 94, x 95, x 96, x 97, x 98, x 99, x 100, x 101, x 102, x 103, x 104, x 105, x 106, x 107, x 108, x 109, x 110, x 111, x 112, x 113, x 114, x 115, x 116, x 117, x 118, x 119, x 120, x 121, x 122, x 123, x 124, x 125, x 126, x 127, x 128, x 129, x 130, x 131, x 132, x 133, x 134, x 135]
set_option maxHeartbeats 2000000 in
theorem dphead_pc (s : List UInt8) (hl : s.length ≤ 1073741824) (hQ : Q (.tup [.agg (headM s).1.avs, .int .i64 (headM s).2.1, .int .i64 (headM s).2.2]) H) : PC Tryz.prog E 58 [.str s] H Q := by
  refine PC.nilT ?_
  have hnil : nilL (rcells 0 [] 0) rep0.avs := ⟨.inl rfl, .inl rfl, .inr ⟨rfl, false, 2, rfl⟩, .inl rfl, .inl rfl, .inr ⟨rfl, false, 2, rfl⟩, .inl rfl, .inl rfl, .inl rfl, trivial⟩
  have hfree : ∀ r : Rep, ∀ x ∈ r.avs, x.free = true := fun r => by simp [Rep.avs, AV.free]
  have fin : ∀ p : Rep × Int × Int, headM s = p → Q (.tup [.agg p.1.avs, .int .i64 p.2.1, .int .i64 p.2.2]) H := fun p hp => hp ▸ hQ
  have bad : ∀ a e : Int, headM s = (rep0, a, e) → Q (.tup [.agg rep0.avs, .int .i64 a, .int .i64 e]) H := fun a e h => fin _ h
  have hM := headM_eq s
  have hcut := stR_cut s
  have htl : (s.take 65536).length ≤ s.length ∧ (s.take 65536).length ≤ 65536 := by rw [List.length_take]; omega
  refine pc_enter Tryz.func58 rfl [129] [] (by kernel_rfl) (fun hB => ?_)
  simp [Tryz.ntmps58, Tryz.results58, List.replicate_succ]
  refine dstatus_pc E _ _ s hl ?_
  cases hst : stR s with
  | part =>
    have e : stA s = ((s.length : Int), 124, false) := by unfold stA; rw [hst]
    have hO : headO (s.take 65536) = none := by unfold headO; rw [hcut, hst]
    have hlen := stR_partlen hst
    rw [hO, if_neg (by omega)] at hM
    rw [e]
    simp
    exact aPost_same hB (v0 := .tup [.agg (rcells 0 [] 0), .int .i64 s.length, .int .i64 124]) (by simp [rcells]) (nilV_refl _) (by simp [rcells]) ⟨_, _, _, rfl, hnil, hfree _, bad _ _ hM⟩
  | bad n =>
    have e : stA s = ((n : Int), 122, false) := by unfold stA; rw [hst]
    have hO : headO (s.take 65536) = some (rep0, (n : Int), 122) := by unfold headO; rw [hcut, hst]
    rw [hO] at hM
    rw [e]
    simp
    exact aPost_same hB (v0 := .tup [.agg (rcells 0 [] 0), .int .i64 n, .int .i64 122]) (by simp [rcells]) (nilV_refl _) (by simp [rcells]) ⟨_, _, _, rfl, hnil, hfree _, bad _ _ hM⟩
  | ok a0 =>
    have e : stA s = ((a0 : Int), 0, true) := by unfold stA; rw [hst]
    rw [e]
    obtain ⟨hpre, h13, _, ha15, ha⟩ := stR_pre hst
    obtain ⟨_, _, _, _, haT⟩ := stR_pre (hcut.trans hst)
    have hall := preR_all s 13 0 13 hpre
    have dgs : ∀ k, k = 7 ∨ k = 9 ∨ k = 10 ∨ k = 11 → ∃ b : UInt8, s[k]? = some b ∧ lat s k = some b ∧ k < s.length ∧ 48 ≤ b.toNat ∧ b.toNat ≤ 57 ∧ dg s k = (b.toNat : Int) - 48 ∧ dg (s.take 65536) k = (b.toNat : Int) - 48 := fun k hk => by
      obtain ⟨b, hb, hs⟩ := hall k (by omega) (by omega)
      have hlt := (List.getElem?_eq_some_iff.1 hb).1
      have hr := may_dig' (b := b) (by rcases hk with rfl | rfl | rfl | rfl <;> simp [hs])
      exact ⟨b, hb, lat_eq hb, hlt, hr.1, hr.2, dg_at hb, dg_at (by rw [List.getElem?_take_of_lt (by omega)]; exact hb)⟩
    obtain ⟨b7, g7, l7, k7, r7, q7, d7, e7⟩ := dgs 7 (by omega)
    obtain ⟨b9, g9, l9, k9, r9, q9, d9, e9⟩ := dgs 9 (by omega)
    obtain ⟨b10, g10, l10, k10, r10, q10, d10, e10⟩ := dgs 10 (by omega)
    obtain ⟨b11, g11, l11, k11, r11, q11, d11, e11⟩ := dgs 11 (by omega)
    have u7 := u8_sub48 b7.toNat b7.toNat_lt r7
    have u9 := u8_sub48 b9.toNat b9.toNat_lt r9
    have u10 := u8_sub48 b10.toNat b10.toNat_lt r10
    have u11 := u8_sub48 b11.toNat b11.toNat_lt r11
    have w7 : IntKind.i64.wrap ((b7.toNat : Int) - 48) = (b7.toNat : Int) - 48 := wrap_in (by omega) (by omega)
    have w9 : IntKind.i64.wrap ((b9.toNat : Int) - 48) = (b9.toNat : Int) - 48 := wrap_in (by omega) (by omega)
    have w10 : IntKind.i64.wrap ((b10.toNat : Int) - 48) = (b10.toNat : Int) - 48 := wrap_in (by omega) (by omega)
    have w11 : IntKind.i64.wrap ((b11.toNat : Int) - 48) = (b11.toNat : Int) - 48 := wrap_in (by omega) (by omega)
    have v9 : IntKind.i64.wrap (100 * ((b9.toNat : Int) - 48)) = 100 * ((b9.toNat : Int) - 48) := wrap_in (by omega) (by omega)
    have v10 : IntKind.i64.wrap (10 * ((b10.toNat : Int) - 48)) = 10 * ((b10.toNat : Int) - 48) := wrap_in (by omega) (by omega)
    have v1 : IntKind.i64.wrap (100 * ((b9.toNat : Int) - 48) + 10 * ((b10.toNat : Int) - 48)) = 100 * ((b9.toNat : Int) - 48) + 10 * ((b10.toNat : Int) - 48) := wrap_in (by omega) (by omega)
    have v2 : IntKind.i64.wrap (100 * ((b9.toNat : Int) - 48) + 10 * ((b10.toNat : Int) - 48) + ((b11.toNat : Int) - 48)) = 100 * ((b9.toNat : Int) - 48) + 10 * ((b10.toNat : Int) - 48) + ((b11.toNat : Int) - 48) := wrap_in (by omega) (by omega)
    have wa : IntKind.i64.wrap ((a0 : Int) - 2) = ((a0 - 2 : Nat) : Int) := by rw [wrap_in (by omega) (by omega)]; omega
    have sl1 : (13 : Nat) ≤ a0 - 2 := by omega
    have sl2 : a0 - 2 ≤ s.length := by omega
    simp [l7, k7, u7, w7, l9, k9, u9, w9, v9, l10, k10, u10, w10, v10, l11, k11, u11, w11, v1, v2, wa, sl1, sl2]
    obtain ⟨st, hst2⟩ : ∃ st, 100 * ((b9.toNat : Int) - 48) + 10 * ((b10.toNat : Int) - 48) + ((b11.toNat : Int) - 48) = st := ⟨_, rfl⟩
    obtain ⟨re, hre⟩ : ∃ re, (s.drop 13).take (a0 - 2 - 13) = re := ⟨_, rfl⟩
    obtain ⟨mi, hmi⟩ : ∃ mi, (b7.toNat : Int) - 48 = mi := ⟨_, rfl⟩
    obtain ⟨F, hF⟩ : ∃ F, fieldsR (s.take 65536) (decide (mi = 0)) ((s.take 65536).length + 1) a0 [] = F := ⟨_, rfl⟩
    have hre2 : ((s.take 65536).drop 13).take (a0 - 2 - 13) = re := by
      rw [← hre, List.drop_take, List.take_take, Nat.min_eq_left (by omega)]
    have hO : headO (s.take 65536) = hdO mi st re F := by
      unfold headO
      rw [hcut, hst]
      simp only
      rw [e7, hmi, hF, e9, e10, e11, hst2, hre2]
      cases F <;> rfl
    rw [hO] at hM
    have hre3 : List.take (a0 - 2 - 13) (List.drop 13 s) = re := hre
    rw [hst2, hmi, hre3]
    clear hst2 hmi hre hre2 hre3 hO dgs hall u7 u9 u10 u11 w7 w9 w10 w11 v9 v10 v1 v2 wa
    refine VL_nilH (H.length + 1) _ 2 2 (by simp; rfl) rfl ?_
    simp
    refine VL_nilH (H.length + 1) _ 5 2 (by simp; rfl) rfl ?_
    simp
    refine VL_go (dhdI s st mi re F H) (fun fr _ => (s.take 65536).length - (ai (aget fr 5)).toNat) ⟨[], a0, (s.take 65536).length + 1, [], haT, by omega, hF, by simp [fsz], by simp, by simp [rcells, rcellsF, flds], fr_intro (by simp)⟩ ?_
    rintro fr H' ⟨J, a, n, fs, ha2, hn, hF, hfz, hf100, rfl, x, rfl⟩
    obtain ⟨m, rfl⟩ : ∃ m, n = m + 1 := ⟨n - 1, by omega⟩
    rw [fieldsR_next] at hF
    simp [rcellsF, rcells]
    refine dhline_pc E _ _ s a (by omega) (by omega) hl ?_
    have hsz : fsz fs + fs.length ≤ 4194304 := by omega
    have hmb : (mi == 0) = decide (mi = 0) := rfl
    cases hL : lineR (s.take 65536) a with
    | part =>
      have hx : nextR (s.take 65536) (decide (mi = 0)) a fs = .inl .part := by unfold nextR; rw [hL]
      rw [hx] at hF
      simp only at hF
      subst hF
      have eL : lnA s a = if 65536 < s.length then (65536, 125, false) else ((s.length : Int), 124, false) := by unfold lnA; rw [hL]
      rw [eL]
      simp only [hdO, Option.getD_none] at hM
      by_cases h65 : 65536 < s.length
      · rw [if_pos h65] at hM ⊢
        simp
        exact aPost_same hB (v0 := .tup [.agg (rcells 0 [] 0), .int .i64 65536, .int .i64 125]) (by simp [rcells]) (nilV_refl _) (by simp [rcells]) ⟨_, _, _, rfl, hnil, hfree _, bad _ _ hM⟩
      · rw [if_neg h65] at hM ⊢
        simp
        exact aPost_same hB (v0 := .tup [.agg (rcells 0 [] 0), .int .i64 s.length, .int .i64 124]) (by simp [rcells]) (nilV_refl _) (by simp [rcells]) ⟨_, _, _, rfl, hnil, hfree _, bad _ _ hM⟩
    | bad i =>
      have hx : nextR (s.take 65536) (decide (mi = 0)) a fs = .inl (.bad i 122) := by unfold nextR; rw [hL]
      rw [hx] at hF
      simp only at hF
      subst hF
      have eL : lnA s a = ((i : Int), 122, false) := by unfold lnA; rw [hL]
      rw [eL]
      simp
      exact aPost_same hB (v0 := .tup [.agg (rcells 0 [] 0), .int .i64 i, .int .i64 122]) (by simp [rcells]) (nilV_refl _) (by simp [rcells]) ⟨_, _, _, rfl, hnil, hfree _, bad _ _ hM⟩
    | ok e =>
      have eL : lnA s a = ((e : Int), 0, true) := by unfold lnA; rw [hL]
      rw [eL]
      obtain ⟨he1, he2⟩ := lineR_rng hL
      have he2 := he2 ha2
      obtain ⟨l, hl2⟩ : ∃ l, (s.drop a).take (e - 2 - a) = l := ⟨_, rfl⟩
      have hl3 : ((s.take 65536).drop a).take (e - 2 - a) = l := by
        rw [← hl2, List.drop_take, List.take_take, Nat.min_eq_left (by omega)]
      have hll : l.length = e - 2 - a := by rw [← hl2, List.length_take, List.length_drop]; omega
      have we : IntKind.i64.wrap ((e : Int) - 2) = ((e - 2 : Nat) : Int) := by rw [wrap_in (by omega) (by omega)]; omega
      have sl3 : a ≤ e - 2 := by omega
      have sl4 : e - 2 ≤ s.length := by omega
      by_cases hle : l = []
      · have hx : nextR (s.take 65536) (decide (mi = 0)) a fs = .inl (if (framingA fs (decide (mi = 0))).2.2 ≠ 0 then .bad a (framingA fs (decide (mi = 0))).2.2 else .ok fs e) := by
          unfold nextR
          rw [hL]
          simp only
          rw [hl3, if_pos hle]
        rw [hx] at hF
        simp only at hF
        subst hF
        have hle2 : (l == []) = true := by rw [hle]; rfl
        simp [we, sl3, sl4, hl2, hle2]
        refine dframing_pc E _ _ fs (decide (mi = 0)) hsz ?_
        by_cases he : (framingA fs (decide (mi = 0))).2.2 = 0
        · rw [if_neg (by simpa using he)] at hM
          simp [he]
          refine dpersist_pc E _ _ fs (decide (mi = 0)) hsz ?_
          have hq := fin _ hM
          simp
          exact aPost_same hB (v0 := .tup [.agg (Rep.avs ⟨mi, st, re, fs, [], [], (framingA fs (decide (mi = 0))).1, (framingA fs (decide (mi = 0))).2.1, persistA fs (decide (mi = 0))⟩), .int .i64 e, .int .i64 0]) (by simp [Rep.avs, flds]) (nilV_refl _) (by simp [Rep.avs, bnd_flds]) ⟨_, _, _, rfl, nilL_refl _, hfree _, hq⟩
        · rw [if_pos he] at hM
          have he2 : ((framingA fs (decide (mi = 0))).2.2 != 0) = true := by simpa using he
          simp [he2]
          exact aPost_same hB (v0 := .tup [.agg (rcells 0 [] 0), .int .i64 a, .int .i64 (framingA fs (decide (mi = 0))).2.2]) (by simp [rcells]) (nilV_refl _) (by simp [rcells]) ⟨_, _, _, rfl, hnil, hfree _, bad _ _ hM⟩
      · have hle2 : (l == []) = false := by simpa using hle
        by_cases h100 : fs.length = 100
        · have hx : nextR (s.take 65536) (decide (mi = 0)) a fs = .inl (.bad a 65) := by
            unfold nextR
            rw [hL]
            simp only
            rw [hl3, if_neg hle, if_pos (by omega)]
          rw [hx] at hF
          simp only at hF
          subst hF
          have h100' : ((fs.length : Int) == 100) = true := by rw [beq_iff_eq]; omega
          simp [we, sl3, sl4, hl2, hle2, h100']
          exact aPost_same hB (v0 := .tup [.agg (rcells 0 [] 0), .int .i64 a, .int .i64 65]) (by simp [rcells]) (nilV_refl _) (by simp [rcells]) ⟨_, _, _, rfl, hnil, hfree _, bad _ _ hM⟩
        · have h100' : ((fs.length : Int) == 100) = false := by rw [beq_eq_false_iff_ne]; omega
          simp [we, sl3, sl4, hl2, hle2, h100']
          refine dlineX_pc E _ _ l (by simp only [cap]; omega) ?_
          by_cases he : (lineX l).2.2 = 0
          · have hx : nextR (s.take 65536) (decide (mi = 0)) a fs = .inr (e, fs ++ [(lineX l).1]) := by
              unfold nextR
              rw [hL]
              simp only
              rw [hl3, if_neg hle, if_neg (by omega), if_neg (by simpa using he)]
            rw [hx] at hF
            simp only at hF
            have hls := lineX_sz he
            have hsn := fsz_snoc fs (lineX l).1
            have hfs : flds fs ++ [[.str (lineX l).1.name, .str (lineX l).1.value]] = flds (fs ++ [(lineX l).1]) := by simp [flds]
            have m1 : fs.length + 1 ≤ maxLen := by unfold maxLen; omega
            have m2 : (fs.length + 1) * 32 ≤ 140737488355328 := by omega
            simp [he, m1, m2, hfs]
            exact Kloop_normal ⟨_, e, m, _, he2, by omega, hF, by rw [hsn]; simp; omega, by simp; omega, by simp [rcellsF, rcells]; rfl, fr_intro (by simp)⟩ (by simp; omega)
          · have hx : nextR (s.take 65536) (decide (mi = 0)) a fs = .inl (.bad (a + (lineX l).2.1) (lineX l).2.2) := by
              unfold nextR
              rw [hL]
              simp only
              rw [hl3, if_neg hle, if_neg (by omega), if_pos he]
            rw [hx] at hF
            simp only at hF
            subst hF
            have he2' : ((lineX l).2.2 != 0) = true := by simpa using he
            have hrg := lineX_rng l
            have hw : IntKind.i64.wrap ((a : Int) + (lineX l).2.1) = a + (lineX l).2.1 := wrap_in (by omega) (by omega)
            simp [he2', hw]
            exact aPost_same hB (v0 := .tup [.agg (rcells 0 [] 0), .int .i64 (a + (lineX l).2.1), .int .i64 (lineX l).2.2]) (by simp [rcells]) (nilV_refl _) (by simp [rcells]) ⟨_, _, _, rfl, hnil, hfree _, bad _ _ hM⟩
end
end Go.Proofs.YtcdkcaocfioigaaGreatDoor

set_option linter.unusedVariables false
set_option linter.unnecessarySimpa false
set_option linter.unusedSimpArgs false
set_option linter.unusedSectionVars false
set_option maxRecDepth 100000
namespace Go.Proofs.YtcdkcaocfioigaaGreatDoor
open Go Go.RowKit Go.Proofs

section
variable (E : Env) (H : Hp) (Q : AV → Hp → Prop)
set_option maxHeartbeats 2000000 in
theorem dparse_pc (m s : List UInt8) (most : Int) (ended : Bool) (hl : s.length ≤ 1000000000) (hm : -9223372036854775808 ≤ most ∧ most ≤ 9223372036854775807)
    (hQ : Q (.tup [.agg (parseM m s most ended).1.avs, .int .i64 (parseM m s most ended).2.1, .int .i64 (parseM m s most ended).2.2]) H) : PC Tryz.prog E 25 [.str m, .str s, .int .i64 most, .bool ended] H Q := by
  refine PC.nilT ?_
  refine pc_enterF (fun i => i = H.length + 1) Tryz.func25 rfl [] [(26, [2, 0, 0, 2, 0, 2])] (by kernel_rfl) (fun E' hS' h0' hF' hB => ?_)
  have fin : ∀ a : Rep × Int × Int, parseM m s most ended = a → Q (.tup [.agg a.1.avs, .int .i64 a.2.1, .int .i64 a.2.2]) H := fun a ha => ha ▸ hQ
  by_cases h0 : most < 0
  · simp [Tryz.ntmps25, Tryz.results25, List.replicate_succ, h0]
    exact aPost_same hB (v0 := .tup [.agg rzero, .int .i64 0, .int .i64 1]) (by simp [rzero]) (nilV_refl _) (by simp [rzero]) ⟨_, _, _, rfl, rzero_nil, avs_free _, fin _ (parseM_neg m s ended h0)⟩
  simp [Tryz.ntmps25, Tryz.results25, List.replicate_succ, h0]
  refine dphead_pc E' _ _ s (by omega) ?_
  by_cases h1 : (headM s).2.2 = 0
  rotate_left
  · have h1' : ((headM s).2.2 != 0) = true := by simpa using h1
    simp [Rep.avs, h1']
    exact aPost_same hB (v0 := .tup [.agg rzero, .int .i64 (headM s).2.1, .int .i64 (headM s).2.2]) (by simp [rzero]) (nilV_refl _) (by simp [rzero]) ⟨_, _, _, rfl, rzero_nil, avs_free _, fin _ (parseM_bad ended h0 h1)⟩
  obtain ⟨n, hn, h17, hnl, hn2⟩ := headM_rng h1
  have hgt : n ≤ s.length := hnl
  have htl : List.take (s.length - n) (s.drop n) = s.drop n := List.take_of_length_le (by rw [List.length_drop]; omega)
  simp [Rep.avs, h1, hn, hgt, htl]
  refine dbodyless_pc E' _ _ m _ ?_
  cases h2 : bodylessB m (headM s).1.status with
  | true =>
    have hP := parseM_none ended h0 h1 h2
    rw [← hn]
    simp
    exact aPost_same hB (v0 := .tup [.agg (headM s).1.avs, .int .i64 (headM s).2.1, .int .i64 0]) (by simp [Rep.avs]) (nilV_refl _) (by simp [Rep.avs, bnd_flds]) ⟨_, _, _, rfl, nilL_refl _, avs_free _, by have := fin _ hP; rw [h1] at this; exact this⟩
  | false =>
    have hP := parseM_body ended h0 h1 h2 hn
    have hlen := headM_len s
    obtain ⟨r, hr⟩ : ∃ r, (headM s).1 = r := ⟨_, rfl⟩
    rw [hr] at hP hlen ⊢
    have hrl : (s.drop n).length = s.length - n := List.length_drop
    obtain ⟨rest, hrest⟩ : ∃ rest, s.drop n = rest := ⟨_, rfl⟩
    rw [hrest] at hP hrl ⊢
    have hE2 : n + rest.length = s.length := by omega
    unfold bodyM at hP
    by_cases k2 : r.kind = 2
    · rw [if_pos k2] at hP
      simp [k2]
      refine ddecode_pc E' _ _ rest most 65536 100 (by omega) (by omega) ?_
      have hat := decodeD_at rest most 65536 100
      obtain ⟨⟨db, dt, dk, de⟩, hd⟩ : ∃ d, decodeD rest most 65536 100 = d := ⟨_, rfl⟩
      rw [hd] at hP hat ⊢
      simp only at hP hat ⊢
      have hw : IntKind.i64.wrap ((n : Int) + dk) = n + dk := wrap_in (by omega) (by omega)
      by_cases d0 : de = 0
      · rw [if_pos d0] at hP
        simp [d0, hw]
        exact aPost_same hB (v0 := .tup [.agg (Rep.avs { r with body := db, trailers := dt }), .int .i64 (n + dk), .int .i64 0]) (by simp [Rep.avs, k2]) (nilV_refl _) (by simp [Rep.avs, bnd_flds]) ⟨_, _, _, rfl, nilL_refl _, avs_free _, fin _ hP⟩
      · rw [if_neg d0] at hP
        have d0' : (de == 0) = false := by simpa using d0
        have d0n : (de != 0) = true := by simpa using d0
        by_cases d1 : de = 105
        · rw [if_pos d1] at hP
          simp [d1, hw]
          exact aPost_same hB (v0 := .tup [.agg rzero, .int .i64 (n + dk), .int .i64 124]) (by simp [rzero]) (nilV_refl _) (by simp [rzero]) ⟨_, _, _, rfl, rzero_nil, avs_free _, fin _ hP⟩
        · rw [if_neg d1] at hP
          have d1' : (de == 105) = false := by simpa using d1
          by_cases d2 : de = 102
          · rw [if_pos d2] at hP
            simp [d2, hw]
            exact aPost_same hB (v0 := .tup [.agg rzero, .int .i64 (n + dk), .int .i64 125]) (by simp [rzero]) (nilV_refl _) (by simp [rzero]) ⟨_, _, _, rfl, rzero_nil, avs_free _, fin _ hP⟩
          · rw [if_neg d2] at hP
            have d2' : (de == 102) = false := by simpa using d2
            simp [d0', d0n, d1', d2', hw]
            exact aPost_same hB (v0 := .tup [.agg rzero, .int .i64 (n + dk), .int .i64 de]) (by simp [rzero]) (nilV_refl _) (by simp [rzero]) ⟨_, _, _, rfl, rzero_nil, avs_free _, fin _ hP⟩
    · rw [if_neg k2] at hP
      have k2' : (r.kind == 2) = false := by simpa using k2
      by_cases k1 : r.kind = 1
      · rw [if_pos k1] at hP
        simp [k1]
        by_cases c1 : most < r.length
        · rw [if_pos c1] at hP
          simp [c1]
          exact aPost_same hB (v0 := .tup [.agg rzero, .int .i64 n, .int .i64 125]) (by simp [rzero]) (nilV_refl _) (by simp [rzero]) ⟨_, _, _, rfl, rzero_nil, avs_free _, fin _ hP⟩
        · rw [if_neg c1] at hP
          by_cases c2 : (rest.length : Int) < r.length
          · rw [if_pos c2] at hP
            simp [c1, c2]
            exact aPost_same hB (v0 := .tup [.agg rzero, .int .i64 s.length, .int .i64 124]) (by simp [rzero]) (nilV_refl _) (by simp [rzero]) ⟨_, _, _, rfl, rzero_nil, avs_free _, fin _ hP⟩
          · rw [if_neg c2] at hP
            have c3 : r.length.toNat ≤ rest.length := by omega
            have hw : IntKind.i64.wrap ((n : Int) + r.length) = n + r.length := wrap_in (by omega) (by omega)
            simp [c1, c2, c3, hlen, hw, hS']
            exact aPost_same hB (v0 := .tup [.agg (Rep.avs { r with body := rest.take r.length.toNat }), .int .i64 (n + r.length), .int .i64 0]) (by simp [Rep.avs, k1]) (nilV_refl _) (by simp [Rep.avs, bnd_flds]) ⟨_, _, _, rfl, nilL_refl _, avs_free _, fin _ hP⟩
      · rw [if_neg k1] at hP
        have k1' : (r.kind == 1) = false := by simpa using k1
        simp [k1', k2']
        by_cases c1 : most < rest.length
        · rw [if_pos c1] at hP
          have hw : IntKind.i64.wrap ((n : Int) + most) = n + most := wrap_in (by omega) (by omega)
          simp [c1, hw]
          exact aPost_same hB (v0 := .tup [.agg rzero, .int .i64 (n + most), .int .i64 125]) (by simp [rzero]) (nilV_refl _) (by simp [rzero]) ⟨_, _, _, rfl, rzero_nil, avs_free _, fin _ hP⟩
        · rw [if_neg c1] at hP
          cases he : ended with
          | false =>
            rw [if_pos he] at hP
            simp [c1]
            exact aPost_same hB (v0 := .tup [.agg rzero, .int .i64 s.length, .int .i64 124]) (by simp [rzero]) (nilV_refl _) (by simp [rzero]) ⟨_, _, _, rfl, rzero_nil, avs_free _, fin _ hP⟩
          | true =>
            rw [if_neg (by rw [he]; simp)] at hP
            simp [c1]
            exact aPost_same hB (v0 := .tup [.agg (Rep.avs { r with body := rest, persist := false }), .int .i64 s.length, .int .i64 0]) (by simp [Rep.avs]) (nilV_refl _) (by simp [Rep.avs, bnd_flds]) ⟨_, _, _, rfl, nilL_refl _, avs_free _, fin _ hP⟩
end
end Go.Proofs.YtcdkcaocfioigaaGreatDoor

set_option linter.unusedVariables false
set_option linter.unnecessarySimpa false
set_option linter.unusedSimpArgs false
set_option linter.unusedSectionVars false
set_option maxRecDepth 100000
namespace Go.Proofs.YtcdkcaocfioigaaGreatDoor
open Go Go.RowKit Go.Proofs

/-! ### Two boxes, one behind the other -/
@[irreducible] def put2 (H : Hp) (c : Nat) (a b : List AV) : Hp := (H.set c a).set (c + 1) b
@[simp] theorem put2_len (H : Hp) (c : Nat) (a b : List AV) : (put2 H c a b).length = H.length := by unfold put2; simp
section
variable {H : Hp} {c : Nat} (h : c + 1 < H.length)
include h
theorem p2a (a b : List AV) : (put2 H c a b)[c]? = some a := by
  unfold put2; rw [List.getElem?_set_ne (by omega), List.getElem?_set_self (by omega)]
theorem p2b (a b : List AV) : (put2 H c a b)[c + 1]? = some b := by
  unfold put2; rw [List.getElem?_set_self (by simpa using h)]
theorem p2aJ (a b : List AV) (J : Hp) : (put2 H c a b ++ J)[c]? = some a := by rw [List.getElem?_append_left (by simp; omega), p2a h]
theorem p2bJ (a b : List AV) (J : Hp) : (put2 H c a b ++ J)[c + 1]? = some b := by rw [List.getElem?_append_left (by simp; omega), p2b h]
theorem p2sa (a b x : List AV) : (put2 H c a b).set c x = put2 H c x b := by
  unfold put2; rw [List.set_comm _ _ (show c + 1 ≠ c by omega), List.set_set]
theorem p2sb (a b x : List AV) : (put2 H c a b).set (c + 1) x = put2 H c a x := by
  unfold put2; rw [List.set_set]
theorem p2saJ (a b x : List AV) (J : Hp) : (put2 H c a b ++ J).set c x = put2 H c x b ++ J := by rw [List.set_append_left _ _ (by simp; omega), p2sa h]
theorem p2sbJ (a b x : List AV) (J : Hp) : (put2 H c a b ++ J).set (c + 1) x = put2 H c a x ++ J := by rw [List.set_append_left _ _ (by simp; omega), p2sb h]
end
theorem put2_bnd {H : Hp} {c n : Nat} {a b a' b' : List AV} (hc : c + 1 < H.length) (hB : BndH n (put2 H c a b)) (ha : ∀ x ∈ a', Bnd n x) (hb : ∀ x ∈ b', Bnd n x) : BndH n (put2 H c a' b') := by
  intro l hl x hx
  obtain ⟨j, hj⟩ := List.getElem?_of_mem hl
  by_cases h1 : j = c
  · subst h1; rw [p2a hc] at hj; cases hj; exact ha x hx
  · by_cases h2 : j = c + 1
    · subst h2; rw [p2b hc] at hj; cases hj; exact hb x hx
    · have : (put2 H c a b)[j]? = some l := by
        unfold put2 at hj ⊢
        rw [List.getElem?_set_ne (Ne.symm h2), List.getElem?_set_ne (Ne.symm h1)] at hj ⊢
        exact hj
      exact hB l (List.mem_of_getElem? this) x hx
theorem aPost_put2 {P : Program} {rs : List ResultVar} {Q : AV → Hp → Prop} {fr : List AV} {H J : Hp} {v0 v : AV} {c : Nat} {a b a' b' : List AV} (hc : c + 1 < H.length) (hB : BndH (put2 H c a b).length (put2 H c a b)) (h1 : ares P fr (put2 H c a' b' ++ J) rs = some v0) (h2 : nilV v0 v)
    (ha : ∀ x ∈ a', Bnd H.length x) (hb : ∀ x ∈ b', Bnd H.length x) (h5 : Bnd H.length v) (h6 : Q v (put2 H c a' b')) : aPost P rs H.length Q .ret fr (put2 H c a' b' ++ J) :=
  aPost_end h1 h2 (by simp) (by rw [put2_len] at hB ⊢; exact put2_bnd hc hB ha hb) (by simpa using h5) h6
theorem aPost_put20 {P : Program} {rs : List ResultVar} {Q : AV → Hp → Prop} {fr : List AV} {H : Hp} {v0 v : AV} {c : Nat} {a b a' b' : List AV} (hc : c + 1 < H.length) (hB : BndH (put2 H c a b).length (put2 H c a b)) (h1 : ares P fr (put2 H c a' b') rs = some v0) (h2 : nilV v0 v)
    (ha : ∀ x ∈ a', Bnd H.length x) (hb : ∀ x ∈ b', Bnd H.length x) (h5 : Bnd H.length v) (h6 : Q v (put2 H c a' b')) : aPost P rs H.length Q .ret fr (put2 H c a' b') := by
  have := aPost_put2 (J := []) (P := P) (rs := rs) (Q := Q) (fr := fr) hc hB (by rw [List.append_nil]; exact h1) h2 ha hb h5 h6
  rwa [List.append_nil] at this
theorem aPost_put2K {P : Program} {rs : List ResultVar} {Q : AV → Hp → Prop} {fr : List AV} {H : Hp} {c : Nat} {a b a' b' : List AV} (hc : c + 1 < H.length) (hB : BndH (put2 H c a b).length (put2 H c a b)) (v : AV) (h1 : ares P fr (put2 H c a' b') rs = some v)
    (ha : ∀ x ∈ a', Bnd H.length x) (hb : ∀ x ∈ b', Bnd H.length x) (h5 : Bnd H.length v) (h6 : Q v (put2 H c a' b')) : aPost P rs H.length Q .ret fr (put2 H c a' b') := aPost_put20 hc hB h1 (nilV_refl _) ha hb h5 h6

/-! ### A reader's boxes -/
def repsA (l : List Rep) : List (List AV) := l.map Rep.avs
@[simp] theorem repsA_length (l : List Rep) : (repsA l).length = l.length := by simp [repsA]
theorem repsA_snoc (l : List Rep) (r : Rep) : repsA l ++ [r.avs] = repsA (l ++ [r]) := by simp [repsA]
theorem bnd_reps {N : Nat} (o k) (l : List Rep) : Bnd N (.sl o k (repsA l)) := .sl _ _ _ fun r hr x hx => by
  obtain ⟨y, _, rfl⟩ := List.mem_map.1 hr
  exact avs_bnd y N x hx
@[simp] theorem bnd_reps' {N : Nat} (l : List Rep) : (∀ r ∈ repsA l, ∀ x ∈ r, Bnd N x) = True := eq_true fun r hr x hx => by
  obtain ⟨y, _, rfl⟩ := List.mem_map.1 hr
  exact avs_bnd y N x hx
def smB (r : RM) : List AV := [.str r.bytes, .int .i64 r.err, .bool r.over, .bool r.ended]
def rmB (c : Nat) (r : RM) : List AV := [.ptr (some (c, 0)), .int .i64 r.most, .sl true 1 (strs r.asked), .sl true 9 (repsA r.done)]
theorem smB_bnd (r : RM) (N : Nat) : ∀ x ∈ smB r, Bnd N x := by simp [smB]
theorem rmB_bnd (r : RM) {c N : Nat} (h : c < N) : ∀ x ∈ rmB c r, Bnd N x := by
  intro x hx
  simp [rmB] at hx
  rcases hx with rfl | rfl | rfl | rfl
  · exact .ptr _ _ h
  · exact .int _ _
  · exact bnd_strs _ _ _
  · exact bnd_reps _ _ _
theorem fieldsR_len {t : List UInt8} {old : Bool} : ∀ (n a : Nat) (fs gs : List Fld) (e : Nat), fs.length ≤ 100 → fieldsR t old n a fs = .ok gs e → gs.length ≤ 100
  | 0, a, fs, gs, e, _, h => by rw [fieldsR] at h; cases h
  | n + 1, a, fs, gs, e, hl, h => by
    rw [fieldsR_next] at h
    cases hx : nextR t old a fs with
    | inl x =>
      rw [hx] at h
      simp only at h
      subst h
      unfold nextR at hx
      cases he : lineR t a with
      | part => rw [he] at hx; cases hx
      | bad i => rw [he] at hx; cases hx
      | ok e' =>
        rw [he] at hx
        simp only at hx
        split at hx
        · split at hx
          · cases hx
          · cases hx; exact hl
        · split at hx
          · cases hx
          · split at hx <;> cases hx
    | inr p =>
      obtain ⟨e', gs'⟩ := p
      rw [hx] at h
      obtain ⟨_, _, _, _, h5, _, h7⟩ := nextR_go hx
      exact fieldsR_len n e' gs' gs e (by rw [h7]; simp; omega) h
theorem headM_fields (s : List UInt8) : (headM s).1.fields.length ≤ 100 ∧ (headM s).1.trailers = [] := by
  rw [headM_eq]
  cases hx : headO (s.take 65536) with
  | none => simp only [Option.getD_none]; split <;> exact ⟨Nat.zero_le _, rfl⟩
  | some x =>
    simp only [Option.getD_some]
    unfold headO at hx
    cases hs : stR (s.take 65536) with
    | part => rw [hs] at hx; cases hx
    | bad i => rw [hs] at hx; cases hx; exact ⟨Nat.zero_le _, rfl⟩
    | ok a =>
      rw [hs] at hx
      simp only at hx
      cases hf : fieldsR (s.take 65536) (decide (dg (s.take 65536) 7 = 0)) ((s.take 65536).length + 1) a [] with
      | part => rw [hf] at hx; cases hx
      | bad n e => rw [hf] at hx; cases hx; exact ⟨Nat.zero_le _, rfl⟩
      | ok fs e => rw [hf] at hx; cases hx; exact ⟨fieldsR_len _ _ _ _ _ (by simp) hf, rfl⟩
theorem parseM_lens {m s : List UInt8} {most : Int} {ended : Bool} (hs : s.length ≤ 1000000000) (hm : most ≤ 9223372036854775807) : (parseM m s most ended).1.fields.length ≤ 1073741824 ∧ (parseM m s most ended).1.trailers.length ≤ 1073741824 := by
  obtain ⟨f1, f2⟩ := headM_fields s
  by_cases h0 : most < 0
  · rw [parseM_neg _ _ _ h0]; exact ⟨Nat.zero_le _, Nat.zero_le _⟩
  by_cases h1 : (headM s).2.2 = 0
  · cases h2 : bodylessB m (headM s).1.status with
    | true => rw [parseM_none _ h0 h1 h2, f2]; exact ⟨by omega, Nat.zero_le _⟩
    | false =>
      obtain ⟨n, hn, _⟩ := headM_rng h1
      rw [parseM_body _ h0 h1 h2 hn]
      have hdl := decodeD_len (s.drop n) most 65536 100 (by rw [List.length_drop]; omega) hm (by decide) (by decide)
      have f2' : (headM s).1.trailers.length ≤ 1073741824 := by rw [f2]; exact Nat.zero_le _
      unfold bodyM
      (repeat' split) <;> first | exact ⟨Nat.zero_le _, Nat.zero_le _⟩ | exact ⟨by simp only; omega, hdl⟩ | exact ⟨by simp only; omega, f2'⟩
  · rw [parseM_bad _ h0 h1]; exact ⟨Nat.zero_le _, Nat.zero_le _⟩
/-- A reader's sizes. -/
def okM (r : RM) : Prop := r.bytes.length + r.done.length ≤ 100000000 ∧ r.asked.length ≤ 64 ∧ (0 ≤ r.most ∧ r.most ≤ 9223372036854775807) ∧ ∀ x ∈ r.done, x.fields.length ≤ 1073741824 ∧ x.trailers.length ≤ 1073741824
def newM (most : Int) : RM := ⟨[], 0, false, false, most, [], []⟩
theorem oneR_none {r : RM} (h : r.bytes = [] ∨ r.over = true) : oneR r = (r, false) := by unfold oneR; rw [if_pos h]
theorem oneR_ask {r : RM} (h : ¬ (r.bytes = [] ∨ r.over = true)) (ha : r.asked = []) : oneR r = ({ r with err := 126 }, false) := by unfold oneR; rw [if_neg h, ha]
theorem oneR_cons {r : RM} {m : List UInt8} {ms : List (List UInt8)} {p : Rep × Int × Int} (h : ¬ (r.bytes = [] ∨ r.over = true)) (ha : r.asked = m :: ms) (hp : parseM m r.bytes r.most r.ended = p) : oneR r =
    if p.2.2 = 124 then (r, false) else if p.2.2 ≠ 0 then ({ r with err := p.2.2 }, false)
    else if interimB p.1.status = true then ({ r with bytes := r.bytes.drop p.2.1.toNat, done := r.done ++ [p.1] }, true)
    else if p.1.persist = false ∨ turnedB m p.1.status = true then ({ r with bytes := [], over := true, asked := ms, done := r.done ++ [p.1] }, true)
    else ({ r with bytes := r.bytes.drop p.2.1.toNat, asked := ms, done := r.done ++ [p.1] }, true) := by
  unfold oneR
  rw [if_neg h, ha]
  simp only
  rw [hp]
theorem oneR_ok {r : RM} (h : okM r) : okM (oneR r).1 := by
  obtain ⟨h1, h2, h3, h4⟩ := id h
  by_cases h0 : r.bytes = [] ∨ r.over = true
  · rw [oneR_none h0]; exact h
  cases ha : r.asked with
  | nil => rw [oneR_ask h0 ha]; exact h
  | cons m ms =>
    have hb : 0 < r.bytes.length := by
      rcases Nat.eq_zero_or_pos r.bytes.length with h | h
      · exact absurd (.inl (List.length_eq_zero_iff.1 h)) h0
      · exact h
    obtain ⟨p, hp⟩ : ∃ p, parseM m r.bytes r.most r.ended = p := ⟨_, rfl⟩
    rw [oneR_cons h0 ha hp]
    have h2' := h2
    rw [ha] at h2'
    simp only [List.length_cons] at h2'
    by_cases g1 : p.2.2 = 124
    · rw [if_pos g1]; exact h
    rw [if_neg g1]
    by_cases g2 : p.2.2 = 0
    · rw [if_neg (by simpa using g2)]
      obtain ⟨n, hn, h17, hl⟩ := parseM_rng (by rw [hp]; exact g2 : (parseM m r.bytes r.most r.ended).2.2 = 0)
      rw [hp] at hn
      have h5 : ∀ x ∈ r.done ++ [p.1], x.fields.length ≤ 1073741824 ∧ x.trailers.length ≤ 1073741824 := fun x hx => by
        rcases List.mem_append.1 hx with hx | hx
        · exact h4 x hx
        · simp at hx
          subst hx
          rw [← hp]
          exact parseM_lens (by omega) h3.2
      split
      · refine ⟨?_, h2, h3, h5⟩
        simp only [List.length_drop, List.length_append, List.length_cons, List.length_nil]; omega
      · split
        · refine ⟨?_, by simp only; omega, h3, h5⟩
          simp only [List.length_nil, List.length_append, List.length_cons]; omega
        · refine ⟨?_, by simp only; omega, h3, h5⟩
          simp only [List.length_drop, List.length_append, List.length_cons, List.length_nil]; omega
    · rw [if_pos g2]; exact h
section
variable (E : Env) (H : Hp) (Q : AV → Hp → Prop)
theorem rnew_pc (most : Int) (hQ1 : 0 ≤ most → Q (.tup [.ptr (some (H.length + 1, 0)), .int .i64 0]) (H ++ [smB (newM most), rmB H.length (newM most)])) (hQ2 : most < 0 → Q (.tup [.ptr none, .int .i64 1]) H) : PC Tryz.prog E 32 [.int .i64 most] H Q := by
  refine pc_enter Tryz.func32 rfl [] [] (by kernel_rfl) (fun hB => ?_)
  by_cases h : most < 0
  · simp [Tryz.ntmps32, Tryz.results32, List.replicate_succ, h]
    exact aPost_same0 hB rfl (nilV_refl _) (by simp) (hQ2 h)
  · simp [Tryz.ntmps32, Tryz.results32, List.replicate_succ, h]
    have hQ := hQ1 (by omega)
    have hbn : BndH (H.length + 2) (H ++ [smB (newM most), rmB H.length (newM most)]) := fun l hl x hx => by
      rcases List.mem_append.1 hl with h' | h'
      · exact (hB l h' x hx).mono (by omega)
      · simp at h'
        rcases h' with rfl | rfl
        · exact smB_bnd _ _ x hx
        · exact rmB_bnd _ (by omega) x hx
    exact ⟨.tup [.ptr (some (H.length + 1, 0)), .int .i64 0], _, H ++ [smB (newM most), rmB H.length (newM most)], H ++ [smB (newM most), rmB H.length (newM most)], [], rfl, nilV_refl _,
      nilH_app H ⟨⟨.inl rfl, .inl rfl, .inl rfl, .inl rfl, trivial⟩, ⟨.inl rfl, .inl rfl, .inr ⟨rfl, true, 1, rfl⟩, .inr ⟨rfl, true, 9, rfl⟩, trivial⟩, trivial⟩,
      (List.append_nil _).symm, by simp, by simpa using hbn, by simp, hQ⟩
theorem rask0_pc (m : List UInt8) (hQ : Q (.int .i64 0) H) : PC Tryz.prog E 33 [.ptr none, .str m] H Q := by
  refine pc_enter Tryz.func33 rfl [17] [] (by kernel_rfl) (fun hB => ?_)
  simp [Tryz.ntmps33, Tryz.results33, List.replicate_succ]
  exact aPost_same0 hB rfl (nilV_refl _) (by simp) hQ
theorem rasked0_pc (hQ : Q (.int .i64 0) H) : PC Tryz.prog E 42 [.ptr none] H Q := by
  refine pc_enter Tryz.func42 rfl [] [] (by kernel_rfl) (fun hB => ?_)
  simp [Tryz.ntmps42, Tryz.results42, List.replicate_succ]
  exact aPost_same0 hB rfl (nilV_refl _) (by simp) hQ
theorem rerr0_pc (hQ : Q (.int .i64 0) H) : PC Tryz.prog E 36 [.ptr none] H Q := by
  refine pc_enter Tryz.func36 rfl [] [] (by kernel_rfl) (fun hB => ?_)
  simp [Tryz.ntmps36, Tryz.results36, List.replicate_succ]
  exact aPost_same0 hB rfl (nilV_refl _) (by simp) hQ
theorem rover0_pc (hQ : Q (.bool false) H) : PC Tryz.prog E 41 [.ptr none] H Q := by
  refine pc_enter Tryz.func41 rfl [] [] (by kernel_rfl) (fun hB => ?_)
  simp [Tryz.ntmps41, Tryz.results41, List.replicate_succ]
  exact aPost_same0 hB rfl (nilV_refl _) (by simp) hQ
theorem rfeed0_pc (s : List UInt8) (hQ : Q (.int .i64 0) H) : PC Tryz.prog E 34 [.ptr none, .str s] H Q := by
  refine pc_enter Tryz.func34 rfl [] [] (by kernel_rfl) (fun hB => ?_)
  simp [Tryz.ntmps34, Tryz.results34, List.replicate_succ]
  exact aPost_same0 hB rfl (nilV_refl _) (by simp) hQ
theorem rend0_pc (hQ : Q (.int .i64 0) H) : PC Tryz.prog E 40 [.ptr none] H Q := by
  refine pc_enter Tryz.func40 rfl [] [] (by kernel_rfl) (fun hB => ?_)
  simp [Tryz.ntmps40, Tryz.results40, List.replicate_succ]
  exact aPost_same0 hB rfl (nilV_refl _) (by simp) hQ
theorem rnext0_pc (hQ : Q (.tup [.agg rep0.avs, .bool false]) H) : PC Tryz.prog E 35 [.ptr none] H Q := by
  refine PC.nilT ?_
  refine pc_enter Tryz.func35 rfl [26] [(4, [0, 0, 0, 0, 0, 3]), (5, [0, 0, 0, 1])] (by kernel_rfl) (fun hB => ?_)
  simp [Tryz.ntmps35, Tryz.results35, List.replicate_succ]
  exact aPost_same hB (v0 := .tup [.agg rzero, .bool false]) (by simp [rzero]) (nilV_refl _) (by simp [rzero]) ⟨_, _, _, rfl, rzero_nil, avs_free _, hQ⟩
variable (c : Nat) (r : RM) (hc : c + 1 < H.length)
include hc
theorem rask_pc (hok : okM r) (m : List UInt8) (hQ1 : 64 ≤ r.asked.length → Q (.int .i64 65) (put2 H c (smB r) (rmB c r))) (hQ2 : r.asked.length < 64 → Q (.int .i64 0) (put2 H c (smB r) (rmB c { r with asked := r.asked ++ [m] }))) :
    PC Tryz.prog E 33 [.ptr (some (c + 1, 0)), .str m] (put2 H c (smB r) (rmB c r)) Q := by
  obtain ⟨h1, h2, h3, _⟩ := hok
  have m1 : r.asked.length + 1 ≤ maxLen := by unfold maxLen; omega
  have m2 : (r.asked.length + 1) * 16 ≤ 140737488355328 := by omega
  refine pc_enter Tryz.func33 rfl [17] [] (by kernel_rfl) (fun hB => ?_)
  by_cases h : 64 ≤ r.asked.length
  · have h' : (64 : Int) ≤ r.asked.length := by omega
    simp [Tryz.ntmps33, Tryz.results33, List.replicate_succ, p2a hc, p2b hc, p2sa hc, p2sb hc, smB, rmB, h']
    exact aPost_put2K hc hB (.int .i64 65) rfl (smB_bnd r _) (rmB_bnd r (by omega)) (by simp) (hQ1 h)
  · have h' : ¬ (64 : Int) ≤ r.asked.length := by omega
    have hsn := strs_snoc r.asked m
    simp [Tryz.ntmps33, Tryz.results33, List.replicate_succ, p2a hc, p2b hc, p2sa hc, p2sb hc, smB, rmB, h', m1, m2, hsn]
    exact aPost_put2K hc hB (.int .i64 0) rfl (smB_bnd r _) (rmB_bnd { r with asked := r.asked ++ [m] } (by omega)) (by simp) (hQ2 (by omega))
theorem rasked_pc (hQ : Q (.int .i64 r.asked.length) (put2 H c (smB r) (rmB c r))) : PC Tryz.prog E 42 [.ptr (some (c + 1, 0))] (put2 H c (smB r) (rmB c r)) Q := by
  refine pc_enter Tryz.func42 rfl [] [] (by kernel_rfl) (fun hB => ?_)
  simp [Tryz.ntmps42, Tryz.results42, List.replicate_succ, p2a hc, p2b hc, rmB]
  exact aPost_put2K hc hB (.int .i64 r.asked.length) rfl (smB_bnd r _) (rmB_bnd r (by omega)) (by simp) hQ
theorem serr_pc (hQ : Q (.int .i64 r.err) (put2 H c (smB r) (rmB c r))) : PC Tryz.prog E 63 [.ptr (some (c, 0))] (put2 H c (smB r) (rmB c r)) Q := by
  refine pc_enter Tryz.func63 rfl [] [] (by kernel_rfl) (fun hB => ?_)
  simp [Tryz.ntmps63, Tryz.results63, List.replicate_succ, p2a hc, p2b hc, smB]
  exact aPost_put2K hc hB (.int .i64 r.err) rfl (smB_bnd r _) (rmB_bnd r (by omega)) (by simp) hQ
theorem rerr_pc (hQ : Q (.int .i64 r.err) (put2 H c (smB r) (rmB c r))) : PC Tryz.prog E 36 [.ptr (some (c + 1, 0))] (put2 H c (smB r) (rmB c r)) Q := by
  refine pc_enter Tryz.func36 rfl [] [] (by kernel_rfl) (fun hB => ?_)
  simp [Tryz.ntmps36, Tryz.results36, List.replicate_succ, p2a hc, p2b hc, rmB]
  refine serr_pc E H _ c r hc ?_
  simp
  exact aPost_put2K hc hB (.int .i64 r.err) rfl (smB_bnd r _) (rmB_bnd r (by omega)) (by simp) hQ
theorem sover_pc (hQ : Q (.bool (r.over || r.ended)) (put2 H c (smB r) (rmB c r))) : PC Tryz.prog E 69 [.ptr (some (c, 0))] (put2 H c (smB r) (rmB c r)) Q := by
  refine pc_enter Tryz.func69 rfl [] [] (by kernel_rfl) (fun hB => ?_)
  cases ho : r.over
  · rw [ho, Bool.false_or] at hQ
    simp [Tryz.ntmps69, Tryz.results69, List.replicate_succ, p2a hc, p2b hc, smB, ho]
    exact aPost_put2K hc hB (.bool r.ended) rfl (by simp) (rmB_bnd r (by omega)) (by simp) (by have := hQ; simp only [smB, ho] at this; exact this)
  · rw [ho, Bool.true_or] at hQ
    simp [Tryz.ntmps69, Tryz.results69, List.replicate_succ, p2a hc, p2b hc, smB, ho]
    exact aPost_put2K hc hB (.bool true) rfl (by simp) (rmB_bnd r (by omega)) (by simp) (by have := hQ; simp only [smB, ho] at this; exact this)
theorem rover_pc (hQ : Q (.bool (r.over || r.ended)) (put2 H c (smB r) (rmB c r))) : PC Tryz.prog E 41 [.ptr (some (c + 1, 0))] (put2 H c (smB r) (rmB c r)) Q := by
  refine pc_enter Tryz.func41 rfl [] [] (by kernel_rfl) (fun hB => ?_)
  simp [Tryz.ntmps41, Tryz.results41, List.replicate_succ, p2a hc, p2b hc, rmB]
  refine sover_pc E H _ c r hc ?_
  simp
  exact aPost_put2K hc hB (.bool (r.over || r.ended)) rfl (smB_bnd r _) (rmB_bnd r (by omega)) (by simp) hQ
end
end Go.Proofs.YtcdkcaocfioigaaGreatDoor

set_option linter.unusedVariables false
set_option linter.unnecessarySimpa false
set_option linter.unusedSimpArgs false
set_option linter.unusedSectionVars false
set_option maxRecDepth 100000
namespace Go.Proofs.YtcdkcaocfioigaaGreatDoor
open Go Go.RowKit Go.Proofs

attribute [simp] axsub
@[simp] theorem bnd_strsR {N : Nat} (l : List (List UInt8)) : (∀ r ∈ strs l, ∀ x ∈ r, Bnd N x) = True := eq_true fun r hr x hx => by
  obtain ⟨y, _, rfl⟩ := List.mem_map.1 hr
  simp at hx
  subst hx
  exact .str _
section
variable (E : Env) (H : Hp) (Q : AV → Hp → Prop) (c : Nat) (r : RM) (hc : c + 1 < H.length)
include hc
set_option maxHeartbeats 4000000 in
theorem rone_pc (hE : SE E) (hok : okM r) (hQ : Q (.bool (oneR r).2) (put2 H c (smB (oneR r).1) (rmB c (oneR r).1))) : PC Tryz.prog E 97 [.ptr (some (c + 1, 0))] (put2 H c (smB r) (rmB c r)) Q := by
  obtain ⟨o1, o2, o3, _⟩ := id hok
  have hok' := oneR_ok hok
  have fin : ∀ a : RM × Bool, oneR r = a → Q (.bool a.2) (put2 H c (smB a.1) (rmB c a.1)) := fun a ha => ha ▸ hQ
  have hcl : c < H.length := by omega
  refine pc_enter Tryz.func97 rfl [96, 116] [(6, [0, 0, 0, 0, 0, 0, 0, 0, 0, 0, 0, 0, 0, 0, 0, 0, 0, 0, 0, 0, 0, 0, 0, 0, 4]), (17, [0, 0, 0, 0, 0, 3])] (by kernel_rfl) (fun hB => ?_)
  by_cases hb : r.bytes = []
  · have hq := fin _ (oneR_none (.inl hb))
    simp [Tryz.ntmps97, Tryz.results97, List.replicate_succ, p2a hc, p2b hc, smB, rmB, hb]
    exact aPost_put2K hc hB (.bool false) rfl (by simp) (rmB_bnd r hcl) (by simp) (by have := hq; simp only [smB, hb] at this; exact this)
  have hb' : (r.bytes == []) = false := by simpa using hb
  cases ho : r.over
  case true =>
    have hq := fin _ (oneR_none (.inr ho))
    simp [Tryz.ntmps97, Tryz.results97, List.replicate_succ, p2a hc, p2b hc, smB, rmB, hb', ho]
    exact aPost_put2K hc hB (.bool false) rfl (by simp) (rmB_bnd r hcl) (by simp) (by have := hq; simp only [smB, ho] at this; exact this)
  have h0 : ¬ (r.bytes = [] ∨ r.over = true) := by rw [ho]; simpa using hb
  cases ha : r.asked with
  | nil =>
    have hq := fin _ (oneR_ask h0 ha)
    have hs0 : strs ([] : List (List UInt8)) = [] := rfl
    simp [Tryz.ntmps97, Tryz.results97, List.replicate_succ, p2a hc, p2b hc, p2sa hc, p2sb hc, smB, rmB, hb', ho, ha, hs0]
    exact aPost_put2K hc hB (.bool false) rfl (by simp) (by simp [bnd_strs, hcl]) (by simp) (by have := hq; simp only [smB, rmB, ho, ha, hs0] at this; exact this)
  | cons m ms =>
    have hstr : strs (m :: ms) = [.str m] :: strs ms := rfl
    have hlat : lat ([AV.str m] :: strs ms) 0 = some [.str m] := rfl
    obtain ⟨p, hp⟩ : ∃ p, parseM m r.bytes r.most r.ended = p := ⟨_, rfl⟩
    have hO := oneR_cons h0 ha hp
    have hlen0 : (((ms.length : Int) + 1) == 0) = false := by rw [beq_eq_false_iff_ne]; omega
    simp [Tryz.ntmps97, Tryz.results97, List.replicate_succ, p2a hc, p2b hc, p2aJ hc, p2bJ hc, smB, rmB, hb', ho, ha, hstr, hlat, hlen0]
    refine VCall4_intro fun J => ?_
    refine parse_pc E _ _ hE m r.bytes r.most r.ended (by omega) (by omega) ?_
    rw [hp]
    refine ⟨rfl, ?_⟩
    by_cases h124 : p.2.2 = 124
    · rw [if_pos h124] at hO
      have hq := fin _ hO
      simp [Rep.avs, h124]
      exact aPost_put2 hc hB (v0 := .bool false) (by simp) (nilV_refl _) (by simp) (by simp [bnd_strs, hcl]) (by simp) (by have := hq; simp only [smB, rmB, ho, ha, hstr] at this; exact this)
    rw [if_neg h124] at hO
    have h124' : (p.2.2 == 124) = false := by simpa using h124
    by_cases he : p.2.2 = 0
    rotate_left
    · rw [if_pos he] at hO
      have hq := fin _ hO
      have he' : (p.2.2 != 0) = true := by simpa using he
      simp [Rep.avs, h124', he', p2aJ hc, p2bJ hc, p2saJ hc, p2sbJ hc]
      exact aPost_put2 hc hB (v0 := .bool false) (by simp) (nilV_refl _) (by simp) (by simp [bnd_strs, hcl]) (by simp) (by have := hq; simp only [smB, rmB, ho, ha, hstr] at this; exact this)
    rw [if_neg (by simpa using he)] at hO
    obtain ⟨n, hn, h17, hnl⟩ := parseM_rng (by rw [hp]; exact he : (parseM m r.bytes r.most r.ended).2.2 = 0)
    rw [hp] at hn
    have hnt : p.2.1.toNat = n := by omega
    rw [hnt] at hO
    have htl : List.take (r.bytes.length - n) (r.bytes.drop n) = r.bytes.drop n := List.take_of_length_le (by rw [List.length_drop]; omega)
    have m1 : r.done.length + 1 ≤ maxLen := by unfold maxLen; omega
    have m2 : (r.done.length + 1) * 120 ≤ 140737488355328 := by omega
    have hsn : repsA r.done ++ [[.int .i64 p.1.status, .str p.1.reason, .sl false 2 (flds p.1.fields), .str p.1.body, .int .i64 p.1.minor, .sl false 2 (flds p.1.trailers), .int .i64 p.1.kind, .int .i64 p.1.length, .bool p.1.persist]] = repsA (r.done ++ [p.1]) := repsA_snoc r.done p.1
    simp [Rep.avs, he, hn, hnl, htl, m1, m2, hsn, p2aJ hc, p2bJ hc, p2saJ hc, p2sbJ hc]
    refine interim_pc E _ _ p.1.status ?_
    cases hi : interimB p.1.status with
    | true =>
      rw [if_pos hi] at hO
      have hq := fin _ hO
      simp
      exact aPost_put2 hc hB (v0 := .bool true) (by simp) (nilV_refl _) (by simp) (by simp [bnd_strs, hcl]) (by simp) (by have := hq; simp only [smB, rmB, ho, ha, hstr] at this; exact this)
    | false =>
      rw [if_neg (by rw [hi]; simp)] at hO
      have hdr : ([AV.str m] :: strs ms).drop 1 = strs ms := rfl
      obtain ⟨st, hst⟩ : ∃ st, p.1.status = st := ⟨_, rfl⟩
      have hcn : (m == [67, 79, 78, 78, 69, 67, 84]) = (m == vConnect) := rfl
      have hT : ∀ b, turnedB m st = b → (if p.1.persist = false ∨ turnedB m p.1.status = true then (({ r with bytes := [], over := true, asked := ms, done := r.done ++ [p.1] } : RM), true) else ({ r with bytes := r.bytes.drop n, asked := ms, done := r.done ++ [p.1] }, true)) =
          if (!p.1.persist || b) = true then (({ r with bytes := [], over := true, asked := ms, done := r.done ++ [p.1] } : RM), true) else ({ r with bytes := r.bytes.drop n, asked := ms, done := r.done ++ [p.1] }, true) := fun b hb => by
        rw [hst, hb]
        cases p.1.persist <;> cases b <;> rfl
      simp [hlat, hdr, p2aJ hc, p2bJ hc, p2saJ hc, p2sbJ hc]
      rw [hst]
      by_cases q1 : st = 101
      case' pos =>
        rw [hT true (by unfold turnedB; rw [q1]; rfl), Bool.or_true, if_pos rfl] at hO
        have q1' : (st == 101) = true := by simpa using q1
        simp [q1']
      case' neg =>
        have q1' : (st == 101) = false := by simpa using q1
        cases q2 : (m == vConnect)
        case' false =>
          rw [hT false (by unfold turnedB; rw [q1', q2]; rfl), Bool.or_false] at hO
          simp [q1', hcn, q2]
        case' true =>
          by_cases q3 : 200 ≤ st
          case' neg =>
            rw [hT false (by unfold turnedB; rw [q1', q2, decide_eq_false q3]; rfl), Bool.or_false] at hO
            simp [q1', hcn, q2, q3]
          case' pos =>
            by_cases q4 : st ≤ 299
            case' neg =>
              rw [hT false (by unfold turnedB; rw [q1', q2, decide_eq_true q3, decide_eq_false q4]; rfl), Bool.or_false] at hO
              simp [q1', hcn, q2, q3, q4]
            case' pos =>
              rw [hT true (by unfold turnedB; rw [q1', q2, decide_eq_true q3, decide_eq_true q4]; rfl), Bool.or_true, if_pos rfl] at hO
              simp [q1', hcn, q2, q3, q4]
      all_goals
        cases hpe : p.1.persist
        all_goals
          try simp only [hpe, Bool.not_true, Bool.not_false, Bool.false_eq_true, if_true, if_false] at hO
          have hq := fin _ hO
          simp [p2aJ hc, p2bJ hc, p2saJ hc, p2sbJ hc]
          exact aPost_put2 hc hB (v0 := .bool true) (by simp) (nilV_refl _) (by simp) (by simp [hcl]) (by simp) (by have := hq; simp only [smB, rmB, ho, hpe] at this ⊢; exact this)
end
end Go.Proofs.YtcdkcaocfioigaaGreatDoor

set_option linter.unusedVariables false
set_option linter.unnecessarySimpa false
set_option linter.unusedSimpArgs false
set_option linter.unusedSectionVars false
set_option maxRecDepth 100000
namespace Go.Proofs.YtcdkcaocfioigaaGreatDoor
open Go Go.RowKit Go.Proofs

/-- What comes. -/
def feedM (r : RM) (s : List UInt8) : RM × Int := if r.err ≠ 0 ∨ r.ended = true then (r, 126) else if r.over = true then (r, 0) else (readA (r.put s), (readA (r.put s)).err)
/-- Behind the end: what is left is wrong. -/
def restM (r : RM) : RM := if r.err = 0 ∧ r.over = false ∧ r.bytes ≠ [] then { r with err := 124 } else r
def endM (r : RM) : RM × Int := if r.err ≠ 0 ∨ r.ended = true then (r, 126) else
  (restM (if r.over = true then { r with ended := true } else readA { r with ended := true }), (restM (if r.over = true then { r with ended := true } else readA { r with ended := true })).err)
def nextM (r : RM) : RM × Rep × Bool := match r.done with
  | [] => (r, rep0, false)
  | x :: d => ({ r with done := d }, x, true)
theorem readR_ok : ∀ (n : Nat) (r : RM), okM r → okM (readR n r)
  | 0, r, h => h
  | n + 1, r, h => by
    rw [readR]
    split
    · exact readR_ok n _ (oneR_ok h)
    · exact oneR_ok h
theorem readA_ok {r : RM} (h : okM r) : okM (readA r) := readR_ok _ r h
def rrInv (H : Hp) (c : Nat) (r : RM) (fr : List AV) (H' : Hp) : Prop := ∃ r' : RM, okM r' ∧ readA r' = readA r ∧ H' = put2 H c (smB r') (rmB c r') ∧ ∃ x : Nat → AV, fr = [.ptr (some (c + 1, 0)), x 1, x 2, x 3]
/-- The length of the bytes that the reader's boxes hold. -/
def bytesAt (H : Hp) (c : Nat) : Nat := match H[c]? with
  | some (.str l :: _) => l.length
  | _ => 0
section
variable (E : Env) (H : Hp) (Q : AV → Hp → Prop) (c : Nat) (r : RM) (hc : c + 1 < H.length)
include hc
theorem rread_pc (hE : SE E) (hok : okM r) (hQ : Q (.tup []) (put2 H c (smB (readA r)) (rmB c (readA r)))) : PC Tryz.prog E 62 [.ptr (some (c + 1, 0))] (put2 H c (smB r) (rmB c r)) Q := by
  refine pc_enter Tryz.func62 rfl [] [] (by kernel_rfl) (fun hB => ?_)
  simp [Tryz.ntmps62, Tryz.results62, List.replicate_succ]
  refine VL_go (rrInv H c r) (fun _ H' => bytesAt H' c) ⟨r, hok, rfl, rfl, fr_intro (by simp)⟩ ?_
  rintro fr H' ⟨r', hk, hr, rfl, x, rfl⟩
  have hm : bytesAt (put2 H c (smB r') (rmB c r')) c = r'.bytes.length := by unfold bytesAt; rw [p2a hc]; rfl
  simp
  refine rone_pc E H _ c r' hc hE hk ?_
  cases h : (oneR r').2 with
  | true =>
    have hm2 : bytesAt (put2 H c (smB (oneR r').1) (rmB c (oneR r').1)) c = (oneR r').1.bytes.length := by unfold bytesAt; rw [p2a hc]; rfl
    simp
    exact Kloop_normal ⟨_, oneR_ok hk, by rw [← readA_go h]; exact hr, rfl, fr_intro (by simp)⟩ (by rw [hm, hm2]; exact oneR_less h)
  | false =>
    have e : readA r = (oneR r').1 := by rw [← hr, readA_stop h]
    rw [e] at hQ
    simp
    exact aPost_put20 hc hB (v0 := .tup []) rfl (nilV_refl _) (smB_bnd _ _) (rmB_bnd _ (by omega)) (by simp) hQ
theorem rfeed_pc (hE : SE E) (s : List UInt8) (hok : okM (r.put s)) (hQ : Q (.int .i64 (feedM r s).2) (put2 H c (smB (feedM r s).1) (rmB c (feedM r s).1))) : PC Tryz.prog E 34 [.ptr (some (c + 1, 0)), .str s] (put2 H c (smB r) (rmB c r)) Q := by
  have hcl : c < H.length := by omega
  have fin : ∀ a : RM × Int, feedM r s = a → Q (.int .i64 a.2) (put2 H c (smB a.1) (rmB c a.1)) := fun a ha => ha ▸ hQ
  have hm : r.bytes.length + s.length ≤ maxLen := by
    have h1 := hok.1
    simp only [RM.put, List.length_append] at h1
    unfold maxLen; omega
  refine pc_enter Tryz.func34 rfl [] [] (by kernel_rfl) (fun hB => ?_)
  by_cases he : r.err = 0
  rotate_left
  · have hq := fin (r, 126) (by unfold feedM; rw [if_pos (.inl he)])
    have he' : (r.err != 0) = true := by simpa using he
    simp [Tryz.ntmps34, Tryz.results34, List.replicate_succ, p2a hc, p2b hc, smB, rmB, he']
    exact aPost_put2K hc hB (.int .i64 126) rfl (smB_bnd r _) (rmB_bnd r hcl) (by simp) hq
  cases hn : r.ended
  case true =>
    have hq := fin (r, 126) (by unfold feedM; rw [if_pos (.inr hn)])
    simp [Tryz.ntmps34, Tryz.results34, List.replicate_succ, p2a hc, p2b hc, smB, rmB, he, hn]
    exact aPost_put2K hc hB (.int .i64 126) rfl (by simp) (rmB_bnd r hcl) (by simp) (by have := hq; simp only [smB, he, hn] at this; exact this)
  have hne : ¬ (r.err ≠ 0 ∨ r.ended = true) := by rw [he, hn]; simp
  cases ho : r.over
  case true =>
    have hq := fin (r, 0) (by unfold feedM; rw [if_neg hne, if_pos ho])
    simp [Tryz.ntmps34, Tryz.results34, List.replicate_succ, p2a hc, p2b hc, smB, rmB, he, hn, ho]
    exact aPost_put2K hc hB (.int .i64 0) rfl (by simp) (rmB_bnd r hcl) (by simp) (by have := hq; simp only [smB, he, hn, ho] at this; exact this)
  have hq := fin (readA (r.put s), (readA (r.put s)).err) (by unfold feedM; rw [if_neg hne, if_neg (by rw [ho]; simp)])
  simp [Tryz.ntmps34, Tryz.results34, List.replicate_succ, p2a hc, p2b hc, p2sa hc, p2sb hc, smB, rmB, he, hn, ho, hm]
  have e : put2 H c [.str (r.bytes ++ s), .int .i64 0, .bool false, .bool false] [.ptr (some (c, 0)), .int .i64 r.most, .sl true 1 (strs r.asked), .sl true 9 (repsA r.done)] = put2 H c (smB (r.put s)) (rmB c (r.put s)) := by simp [smB, rmB, RM.put, he, hn, ho]
  rw [e]
  refine rread_pc E H _ c (r.put s) hc hE hok ?_
  simp [p2a hc, p2b hc, smB, rmB]
  exact aPost_put2K hc hB (.int .i64 (readA (r.put s)).err) rfl (smB_bnd (readA (r.put s)) _) (rmB_bnd (readA (r.put s)) hcl) (by simp) hq
theorem rend_pc (hE : SE E) (hok : okM r) (hQ : Q (.int .i64 (endM r).2) (put2 H c (smB (endM r).1) (rmB c (endM r).1))) : PC Tryz.prog E 40 [.ptr (some (c + 1, 0))] (put2 H c (smB r) (rmB c r)) Q := by
  have hcl : c < H.length := by omega
  have fin : ∀ a : RM × Int, endM r = a → Q (.int .i64 a.2) (put2 H c (smB a.1) (rmB c a.1)) := fun a ha => ha ▸ hQ
  refine pc_enter Tryz.func40 rfl [] [] (by kernel_rfl) (fun hB => ?_)
  by_cases he : r.err = 0
  rotate_left
  · have hq := fin (r, 126) (by unfold endM; rw [if_pos (.inl he)])
    have he' : (r.err != 0) = true := by simpa using he
    simp [Tryz.ntmps40, Tryz.results40, List.replicate_succ, p2a hc, p2b hc, smB, rmB, he']
    exact aPost_put2K hc hB (.int .i64 126) rfl (smB_bnd r _) (rmB_bnd r hcl) (by simp) hq
  cases hn : r.ended
  case true =>
    have hq := fin (r, 126) (by unfold endM; rw [if_pos (.inr hn)])
    simp [Tryz.ntmps40, Tryz.results40, List.replicate_succ, p2a hc, p2b hc, smB, rmB, he, hn]
    exact aPost_put2K hc hB (.int .i64 126) rfl (by simp) (rmB_bnd r hcl) (by simp) (by have := hq; simp only [smB, he, hn] at this; exact this)
  have hne : ¬ (r.err ≠ 0 ∨ r.ended = true) := by rw [he, hn]; simp
  have hE2 : endM r = (restM (if r.over = true then { r with ended := true } else readA { r with ended := true }), (restM (if r.over = true then { r with ended := true } else readA { r with ended := true })).err) := by unfold endM; rw [if_neg hne]
  obtain ⟨r1, hr1⟩ : ∃ r1, (if r.over = true then { r with ended := true } else readA { r with ended := true }) = r1 := ⟨_, rfl⟩
  rw [hr1] at hE2
  have hq := fin _ hE2
  cases ho : r.over
  case' true =>
    rw [if_pos ho] at hr1
    have e : put2 H c [.str r.bytes, .int .i64 0, .bool true, .bool true] [.ptr (some (c, 0)), .int .i64 r.most, .sl true 1 (strs r.asked), .sl true 9 (repsA r.done)] = put2 H c (smB r1) (rmB c r1) := by rw [← hr1]; simp [smB, rmB, he, ho]
    simp [Tryz.ntmps40, Tryz.results40, List.replicate_succ, p2a hc, p2b hc, p2sa hc, p2sb hc, smB, rmB, he, hn, ho]
    have hov : r1.over = true := by rw [← hr1]; exact ho
    have her : r1.err = 0 := by rw [← hr1]; exact he
    have hR : restM r1 = r1 := by unfold restM; rw [if_neg (fun h => by rw [hov] at h; cases h.2.1)]
    rw [hR, her] at hq
    rw [e]
    exact aPost_put2K hc hB (.int .i64 0) rfl (smB_bnd r1 _) (rmB_bnd r1 hcl) (by simp) hq
  case' false =>
    rw [if_neg (by rw [ho]; simp)] at hr1
    have e : put2 H c [.str r.bytes, .int .i64 0, .bool false, .bool true] [.ptr (some (c, 0)), .int .i64 r.most, .sl true 1 (strs r.asked), .sl true 9 (repsA r.done)] = put2 H c (smB { r with ended := true }) (rmB c { r with ended := true }) := by simp [smB, rmB, he, ho]
    simp [Tryz.ntmps40, Tryz.results40, List.replicate_succ, p2a hc, p2b hc, p2sa hc, p2sb hc, smB, rmB, he, hn, ho]
    rw [e]
    refine rread_pc E H _ c { r with ended := true } hc hE hok ?_
    rw [hr1]
    by_cases h1 : r1.err = 0
    rotate_left
    · have h1' : (r1.err == 0) = false := by simpa using h1
      have hR : restM r1 = r1 := by unfold restM; rw [if_neg (fun h => h1 h.1)]
      rw [hR] at hq
      simp [p2a hc, p2b hc, smB, rmB, h1']
      exact aPost_put2K hc hB (.int .i64 r1.err) rfl (smB_bnd r1 _) (rmB_bnd r1 hcl) (by simp) hq
    · cases h2 : r1.over
      case true =>
        have hR : restM r1 = r1 := by unfold restM; rw [if_neg (fun h => by rw [h2] at h; cases h.2.1)]
        rw [hR, h1] at hq
        simp [p2a hc, p2b hc, smB, rmB, h1, h2]
        exact aPost_put2K hc hB (.int .i64 0) rfl (by simp) (rmB_bnd r1 hcl) (by simp) (by have := hq; simp only [smB, h1, h2] at this; exact this)
      by_cases h3 : r1.bytes = []
      · have hR : restM r1 = r1 := by unfold restM; rw [if_neg (fun h => h.2.2 h3)]
        rw [hR, h1] at hq
        simp [p2a hc, p2b hc, smB, rmB, h1, h2, h3]
        exact aPost_put2K hc hB (.int .i64 0) rfl (by simp) (rmB_bnd r1 hcl) (by simp) (by have := hq; simp only [smB, h1, h2, h3] at this; exact this)
      · have h3' : (r1.bytes != []) = true := by simpa using h3
        have hR : restM r1 = { r1 with err := 124 } := by unfold restM; rw [if_pos ⟨h1, h2, h3⟩]
        rw [hR] at hq
        simp [p2a hc, p2b hc, p2sa hc, p2sb hc, smB, rmB, h1, h2, h3']
        exact aPost_put2K hc hB (.int .i64 124) rfl (by simp) (rmB_bnd { r1 with err := 124 } hcl) (by simp) (by have := hq; simp only [smB, h2] at this; exact this)
theorem rnext_pc (hok : okM r) (hQ : Q (.tup [.agg (nextM r).2.1.avs, .bool (nextM r).2.2]) (put2 H c (smB (nextM r).1) (rmB c (nextM r).1))) : PC Tryz.prog E 35 [.ptr (some (c + 1, 0))] (put2 H c (smB r) (rmB c r)) Q := by
  have hcl : c < H.length := by omega
  have fin : ∀ a : RM × Rep × Bool, nextM r = a → Q (.tup [.agg a.2.1.avs, .bool a.2.2]) (put2 H c (smB a.1) (rmB c a.1)) := fun a ha => ha ▸ hQ
  refine PC.nilT ?_
  refine pc_enter Tryz.func35 rfl [26] [(4, [0, 0, 0, 0, 0, 3]), (5, [0, 0, 0, 1])] (by kernel_rfl) (fun hB => ?_)
  cases hd : r.done with
  | nil =>
    have hq := fin (r, rep0, false) (by unfold nextM; rw [hd])
    have hs0 : repsA ([] : List Rep) = [] := rfl
    simp [Tryz.ntmps35, Tryz.results35, List.replicate_succ, p2a hc, p2b hc, p2aJ hc, p2bJ hc, smB, rmB, hd, hs0]
    exact aPost_put2 hc hB (v0 := .tup [.agg rzero, .bool false]) (by simp [rzero]) (nilV_refl _) (by simp) (by simp [hcl]) (by simp [rzero]) ⟨_, _, _, rfl, rzero_nil, avs_free _, by have := hq; simp only [smB, rmB, hd, hs0] at this; exact this⟩
  | cons y d =>
    have hq := fin ({ r with done := d }, y, true) (by unfold nextM; rw [hd])
    obtain ⟨hf1, hf2⟩ := hok.2.2.2 y (by rw [hd]; simp)
    have hrs : repsA (y :: d) = y.avs :: repsA d := rfl
    have hlat : lat (y.avs :: repsA d) 0 = some y.avs := rfl
    have hdr : (y.avs :: repsA d).drop 1 = repsA d := rfl
    have hl0 : (((d.length : Int) + 1) == 0) = false := by rw [beq_eq_false_iff_ne]; omega
    simp [Tryz.ntmps35, Tryz.results35, List.replicate_succ, p2a hc, p2b hc, p2aJ hc, p2bJ hc, p2saJ hc, p2sbJ hc, smB, rmB, hd, hrs, hlat, hl0, hdr, Rep.avs]
    refine clone_pc E _ _ false y.fields hf1 rfl ?_
    simp
    refine clone_pc E _ _ false y.trailers hf2 rfl ?_
    simp
    exact aPost_put2 hc hB (v0 := .tup [.agg y.avs, .bool true]) (by simp [Rep.avs]) (nilV_refl _) (by simp) (by simp [hcl]) (by simp [Rep.avs]) ⟨_, _, _, rfl, nilL_refl _, avs_free _, by have := hq; simp only [smB, rmB] at this; exact this⟩
end
end Go.Proofs.YtcdkcaocfioigaaGreatDoor

set_option linter.unusedVariables false
set_option linter.unnecessarySimpa false
set_option linter.unusedSimpArgs false
set_option linter.unusedSectionVars false
set_option maxRecDepth 100000
namespace Go.Proofs.YtcdkcaocfioigaaGreatDoor
open Go Go.RowKit Go.Proofs

/-- The document's reader as a value. -/
def drA (r : RM) : List AV := [.int .i64 r.most, .sl false 1 (strs r.asked), .str r.bytes, .sl false 9 (repsA r.done), .int .i64 r.err, .bool r.over, .bool r.ended]
/-- .. as a variable's cells. -/
def drO (o1 o2 : Bool) (r : RM) : List AV := [.int .i64 r.most, .sl o1 1 (strs r.asked), .str r.bytes, .sl o2 9 (repsA r.done), .int .i64 r.err, .bool r.over, .bool r.ended]
def dr0 (m : Int) : List AV := [.int .i64 m, .nil, .str [], .nil, .int .i64 0, .bool false, .bool false]
theorem drA_free (r : RM) : ∀ x ∈ drA r, x.free = true := by simp [drA, AV.free]
theorem drA_bnd (r : RM) (N : Nat) : ∀ x ∈ drA r, Bnd N x := by
  intro x hx
  simp [drA] at hx
  rcases hx with rfl | rfl | rfl | rfl | rfl | rfl | rfl <;> simp [bnd_strs, bnd_reps]
theorem dr0_nil (m : Int) : nilL (dr0 m) (drA (newM m)) := ⟨.inl rfl, .inr ⟨rfl, false, 1, rfl⟩, .inl rfl, .inr ⟨rfl, false, 9, rfl⟩, .inl rfl, .inl rfl, .inl rfl, trivial⟩
/-- What the document's read makes of a reader. -/
def drdM (r : RM) : RM := if r.over = true then { r with bytes := [] } else if r.ended = true then restM (readA r) else readA r
theorem drd_go {r s : RM} (hr : r.over = false) (hg : oneR r = (s, true)) (hov : s.over = true → s.bytes = []) : drdM s = drdM r := by
  have h1 : readA r = readA s := by rw [readA_go (by rw [hg]), hg]
  have he : s.ended = r.ended := by have := (oneR_keeps r).1; rw [hg] at this; exact this
  have hR : drdM r = if r.ended = true then restM (readA s) else readA s := by
    unfold drdM
    rw [if_neg (by rw [hr]; simp), h1]
  rw [hR]
  cases ho : s.over with
  | false =>
    unfold drdM
    rw [if_neg (by rw [ho]; simp), he]
  | true =>
    have hb := hov ho
    have h2 : readA s = s := by rw [readA_stop (by rw [oneR_none (.inr ho)]), oneR_none (.inr ho)]
    have h3 : ({ s with bytes := [] } : RM) = s := by rw [← hb]
    have h4 : restM s = s := by unfold restM; rw [if_neg (by rw [ho]; simp)]
    unfold drdM
    rw [if_pos ho, h2, h3, h4]
    split <;> rfl
theorem drd_stop {r s : RM} (hr : r.over = false) (hg : oneR r = (s, false)) : drdM r = if r.ended = true then restM s else s := by
  have h1 : readA r = s := by rw [readA_stop (by rw [hg]), hg]
  unfold drdM
  rw [if_neg (by rw [hr]; simp), h1]
theorem restM_err {r : RM} (h : r.err ≠ 0) : restM r = r := by unfold restM; rw [if_neg (fun e => h e.1)]
theorem one_over {r s : RM} {b : Bool} (h : oneR r = (s, b)) (hr : r.over = true → r.bytes = []) : s.over = true → s.bytes = [] := by
  by_cases h0 : r.bytes = [] ∨ r.over = true
  · rw [oneR_none h0] at h; cases h; exact hr
  have hov : r.over = false := by cases ho : r.over with
    | true => exact absurd (.inr ho) h0
    | false => rfl
  cases ha : r.asked with
  | nil => rw [oneR_ask h0 ha] at h; cases h; exact hr
  | cons m ms =>
    rw [oneR_cons h0 ha rfl] at h
    split at h
    · cases h; exact hr
    · split at h
      · cases h; exact hr
      · split at h
        · cases h; intro e; simp only at e; rw [hov] at e; cases e
        · split at h
          · cases h; intro _; rfl
          · cases h; intro e; simp only at e; rw [hov] at e; cases e
theorem readR_over : ∀ (n : Nat) (r : RM), (r.over = true → r.bytes = []) → (readR n r).over = true → (readR n r).bytes = []
  | 0, r, h => h
  | n + 1, r, h => by
    have := one_over (r := r) (s := (oneR r).1) (b := (oneR r).2) rfl h
    rw [readR]
    split
    · exact readR_over n _ this
    · exact this
def dByt (H : Hp) (c : Nat) : Nat := match H[c]? with
  | some l => (match (l : List AV)[2]? with
    | some (AV.str b) => b.length
    | _ => 0)
  | none => 0
section
variable (E : Env) (H : Hp) (Q : AV → Hp → Prop)
theorem drnew_pc (most : Int) (hQ : Q (.tup [.agg (drA (newM (if most < 0 then -1 else most))), .int .i64 (if most < 0 then 1 else 0)]) H) : PC Tryz.prog E 64 [.int .i64 most] H Q := by
  refine PC.nilT ?_
  refine pc_enter Tryz.func64 rfl [] [] (by kernel_rfl) (fun hB => ?_)
  by_cases h : most < 0
  · rw [if_pos h, if_pos h] at hQ
    simp [Tryz.ntmps64, Tryz.results64, List.replicate_succ, h]
    exact aPost_same hB (v0 := .tup [.agg (dr0 (-1)), .int .i64 1]) (by simp [dr0]) (nilV_refl _) (by simp [dr0]) ⟨_, _, _, rfl, dr0_nil _, drA_free _, hQ⟩
  · rw [if_neg h, if_neg h] at hQ
    simp [Tryz.ntmps64, Tryz.results64, List.replicate_succ, h]
    exact aPost_same hB (v0 := .tup [.agg (dr0 most), .int .i64 0]) (by simp [dr0]) (nilV_refl _) (by simp [dr0]) ⟨_, _, _, rfl, dr0_nil _, drA_free _, hQ⟩
def daskM (r : RM) (m : List UInt8) : RM × Int := if r.most < 0 then (r, 0) else if 64 ≤ r.asked.length then (r, 65) else ({ r with asked := r.asked ++ [m] }, 0)
theorem drask_pc (r : RM) (m : List UInt8) (hok : r.asked.length ≤ 64) (hQ : Q (.tup [.agg (drA (daskM r m).1), .int .i64 (daskM r m).2]) H) : PC Tryz.prog E 66 [.agg (drA r), .str m] H Q := by
  have fin : ∀ a : RM × Int, daskM r m = a → Q (.tup [.agg (drA a.1), .int .i64 a.2]) H := fun a ha => ha ▸ hQ
  refine pc_enter Tryz.func66 rfl [15, 18] [] (by kernel_rfl) (fun hB => ?_)
  by_cases h : r.most < 0
  · have e : daskM r m = (r, 0) := by unfold daskM; rw [if_pos h]
    simp [Tryz.ntmps66, Tryz.results66, List.replicate_succ, drA, h]
    exact aPost_same hB (v0 := .tup [.agg (drA r), .int .i64 0]) (by simp [drA]) (nilV_refl _) (by simp [drA, bnd_strs, bnd_reps]) (fin _ e)
  by_cases h2 : 64 ≤ r.asked.length
  · have h2' : (64 : Int) ≤ r.asked.length := by omega
    have e : daskM r m = (r, 65) := by unfold daskM; rw [if_neg h, if_pos h2]
    simp [Tryz.ntmps66, Tryz.results66, List.replicate_succ, drA, h, h2']
    exact aPost_same hB (v0 := .tup [.agg (drA r), .int .i64 65]) (by simp [drA]) (nilV_refl _) (by simp [drA, bnd_strs, bnd_reps]) (fin _ e)
  · have h2' : ¬ (64 : Int) ≤ r.asked.length := by omega
    have e : daskM r m = ({ r with asked := r.asked ++ [m] }, 0) := by unfold daskM; rw [if_neg h, if_neg h2]
    have m1 : r.asked.length ≤ maxLen := by unfold maxLen; omega
    have m2 : r.asked.length * 16 ≤ 140737488355328 := by omega
    have m3 : r.asked.length + 1 ≤ maxLen := by unfold maxLen; omega
    have m4 : (r.asked.length + 1) * 16 ≤ 140737488355328 := by omega
    have hsn := strs_snoc r.asked m
    simp [Tryz.ntmps66, Tryz.results66, List.replicate_succ, drA, h, h2', m1, m2, m3, m4, hsn]
    exact aPost_same hB (v0 := .tup [.agg (drA { r with asked := r.asked ++ [m] }), .int .i64 0]) (by simp [drA]) (nilV_refl _) (by simp [drA, bnd_strs, bnd_reps]) (fin _ e)
def drdI (r : RM) (H : Hp) (fr : List AV) (H' : Hp) : Prop := ∃ (s : RM) (o : Bool) (J : Hp), okM s ∧ s.err = 0 ∧ s.ended = r.ended ∧ (s.over = true → s.bytes = [] ∨ s = r) ∧ drdM s = drdM r ∧ H' = H ++ (drO false o s :: dr0 0 :: J) ∧
  ∃ x : Nat → AV, fr = [x 0, .bool r.ended, .ptr (some (H.length, 0)), x 3, .ptr (some (H.length + 1, 0)), x 5, x 6, x 7, x 8, x 9, x 10, x 11, x 12, x 13, x 14, x 15, x 16, x 17, x 18, x 19, x 20, x 21, x 22, x 23, x 24, x 25, x 26, x 27, x 28, x 29, x 30, x 31, x 32, x 33, x 34, x 35, x 36, x 37, x 38, x 39, x 40, x 41, x 42, x 43, x 44, x 45, x 46, x 47, x 48, x 49, x 50, x 51, x 52, x 53, x 54, x 55, x 56, x 57, x 58, x 59, x 60, x 61, x 62, x 63, x 64, x 65, x 66, x 67, x 68, x 69, x 70, x 71, x 72, x 73, x 74, x 75, x 76, x 77, x 78, x 79, x 80, x 81, x 82, x 83, x 84, x 85, x 86, x 87, x 88, x 89, x 90, x 91, x 92, x 93, x 94, x 95, x 96, x 97, x 98, x 99, x 100, x 101, x 102]
set_option maxHeartbeats 4000000 in
theorem drread_pc (r : RM) (hok : okM r) (he : r.err = 0) (hQ : Q (.tup [.agg (drA (drdM r)), .int .i64 (drdM r).err]) H) : PC Tryz.prog E 98 [.agg (drA r), .bool r.ended] H Q := by
  have fin : ∀ a : RM, drdM r = a → Q (.tup [.agg (drA a), .int .i64 a.err]) H := fun a ha => ha ▸ hQ
  refine pc_enter Tryz.func98 rfl [59, 62] [(5, [0, 0, 0, 0, 0, 0, 0, 0, 0, 4])] (by kernel_rfl) (fun hB => ?_)
  simp [Tryz.ntmps98, Tryz.results98, List.replicate_succ, drA]
  refine VL_go (drdI r H) (fun fr H' => dByt H' H.length) ⟨r, false, [], hok, he, rfl, fun _ => .inr rfl, rfl, by simp [drO, dr0], fr_intro (by simp)⟩ ?_
  rintro fr H' ⟨s, o, J, hoks, hse, hsn, hso, hsd, rfl, x, rfl⟩
  obtain ⟨o1, o2, o3, _⟩ := id hoks
  have hget : dByt (H ++ (drO false o s :: dr0 0 :: J)) H.length = s.bytes.length := by
    unfold dByt
    rw [List.getElem?_append_right (Nat.le_refl _), Nat.sub_self]
    rfl
  have hget' : ∀ (a b c d e f g : AV) (K : Hp) (u : List UInt8), c = .str u → dByt (H ++ ([a, b, c, d, e, f, g] :: K)) H.length = u.length := fun a b c d e f g K u hc => by
    unfold dByt
    rw [List.getElem?_append_right (Nat.le_refl _), Nat.sub_self, hc]
    rfl
  cases hov : s.over with
  | true =>
    have e : drdM r = { s with bytes := [] } := by rw [← hsd]; unfold drdM; rw [if_pos hov]
    simp [drO, dr0, hov]
    exact aPost_same hB (v0 := .tup [.agg (drA { s with bytes := [] }), .int .i64 s.err]) (by simp [drA, hov, hse]) (nilV_refl _) (by simp [drA, bnd_strs, bnd_reps]) (fin _ e)
  | false =>
    by_cases hb : s.bytes = []
    · have hO := oneR_none (r := s) (.inl hb)
      have hrest : restM s = s := by unfold restM; rw [if_neg (fun h => h.2.2 hb)]
      have e : drdM r = s := by rw [← hsd, drd_stop hov hO, hrest]; split <;> rfl
      have hb' : (s.bytes != []) = false := by rw [hb]; rfl
      simp [drO, dr0, hov, hb']
      exact aPost_same hB (v0 := .tup [.agg (drA s), .int .i64 0]) (by simp [drA, hov]) (nilV_refl _) (by simp [drA, bnd_strs, bnd_reps]) (by have := fin _ e; rw [hse] at this; exact this)
    have hb' : (s.bytes != []) = true := by simpa using hb
    have h0 : ¬ (s.bytes = [] ∨ s.over = true) := by rw [hov]; simpa using hb
    cases ha : s.asked with
    | nil =>
      have hO := oneR_ask h0 ha
      have e : drdM r = { s with err := 126 } := by rw [← hsd, drd_stop hov hO, restM_err (by show (126 : Int) ≠ 0; decide)]; split <;> rfl
      have hs0 : strs ([] : List (List UInt8)) = [] := rfl
      simp [drO, dr0, hov, hb', ha, hs0]
      exact aPost_same hB (v0 := .tup [.agg (drA { s with err := 126 }), .int .i64 126]) (by simp [drA, hov, ha, hs0]) (nilV_refl _) (by simp [drA, bnd_strs, bnd_reps]) (fin _ e)
    | cons m ms =>
      have hstr : strs (m :: ms) = [.str m] :: strs ms := rfl
      have hlat : lat ([AV.str m] :: strs ms) 0 = some [.str m] := rfl
      have hlen0 : (((ms.length : Int) + 1) == 0) = false := by rw [beq_eq_false_iff_ne]; omega
      obtain ⟨p, hp⟩ : ∃ p, parseM m s.bytes s.most s.ended = p := ⟨_, rfl⟩
      have hO := oneR_cons h0 ha hp
      simp [drO, dr0, hov, hb', ha, hstr, hlat, hlen0]
      refine VCall4_intro fun J2 => ?_
      rw [← hsn]
      refine dparse_pc E _ _ m s.bytes s.most s.ended (by omega) (by omega) ?_
      rw [hp]
      refine ⟨rfl, ?_⟩
      by_cases h124 : p.2.2 = 124
      · simp only [h124, if_true] at hO
        have hst := drd_stop hov hO
        rw [hsd] at hst
        cases hen : s.ended with
        | true =>
          have e : drdM r = { s with err := 124 } := by
            rw [hst, if_pos hen]; unfold restM; rw [if_pos ⟨hse, hov, hb⟩]
          simp [Rep.avs, h124, hov]
          exact aPost_same hB (v0 := .tup [.agg (drA { s with err := 124 }), .int .i64 124]) (by simp [drA, hov, ha, hstr, hen]) (nilV_refl _) (by simp [drA, bnd_strs, bnd_reps]) (fin _ e)
        | false =>
          have e : drdM r = s := by rw [hst, if_neg (by rw [hen]; simp)]
          simp [Rep.avs, h124, hov]
          exact aPost_same hB (v0 := .tup [.agg (drA s), .int .i64 0]) (by simp [drA, hov, ha, hstr, hen]) (nilV_refl _) (by simp [drA, bnd_strs, bnd_reps]) (by have := fin _ e; rw [hse] at this; exact this)
      rw [if_neg h124] at hO
      have h124' : (p.2.2 == 124) = false := by simpa using h124
      by_cases hee : p.2.2 = 0
      rotate_left
      · rw [if_pos hee] at hO
        have hst := drd_stop hov hO
        rw [hsd, restM_err (r := { s with err := p.2.2 }) hee] at hst
        have e : drdM r = { s with err := p.2.2 } := by rw [hst]; split <;> rfl
        have hee' : (p.2.2 != 0) = true := by simpa using hee
        simp [Rep.avs, h124', hee', hov]
        exact aPost_same hB (v0 := .tup [.agg (drA { s with err := p.2.2 }), .int .i64 p.2.2]) (by simp [drA, hov, ha, hstr]) (nilV_refl _) (by simp [drA, bnd_strs, bnd_reps]) (fin _ e)
      rw [if_neg (by simpa using hee)] at hO
      obtain ⟨n, hn, h17, hnl⟩ := parseM_rng (by rw [hp]; exact hee : (parseM m s.bytes s.most s.ended).2.2 = 0)
      rw [hp] at hn
      have hnt : p.2.1.toNat = n := by omega
      rw [hnt] at hO
      have htl : List.take (s.bytes.length - n) (s.bytes.drop n) = s.bytes.drop n := List.take_of_length_le (by rw [List.length_drop]; omega)
      have m1 : s.done.length + 1 ≤ maxLen := by unfold maxLen; omega
      have m2 : (s.done.length + 1) * 120 ≤ 140737488355328 := by omega
      have m3 : s.done.length ≤ maxLen := by unfold maxLen; omega
      have m4 : s.done.length * 120 ≤ 140737488355328 := by omega
      have hsn2 : repsA s.done ++ [[.int .i64 p.1.status, .str p.1.reason, .sl false 2 (flds p.1.fields), .str p.1.body, .int .i64 p.1.minor, .sl false 2 (flds p.1.trailers), .int .i64 p.1.kind, .int .i64 p.1.length, .bool p.1.persist]] = repsA (s.done ++ [p.1]) := repsA_snoc s.done p.1
      have hdr : ([AV.str m] :: strs ms).drop 1 = strs ms := rfl
      have htks : List.take ms.length (strs ms) = strs ms := List.take_of_length_le (by simp)
      have hdl : (s.bytes.drop n).length < s.bytes.length := by rw [List.length_drop]; omega
      simp [Rep.avs, hee, hn, hnl, htl, m1, m2, m3, m4, hsn2, hov, hlat]
      refine dinterim_pc E _ _ p.1.status ?_
      cases hi : interimB p.1.status with
      | true =>
        rw [if_pos hi] at hO
        have hk := oneR_ok hoks
        rw [hO] at hk
        have hg := drd_go hov hO (fun e => by simp only at e; rw [hov] at e; cases e)
        simp
        refine Kloop_normal ⟨_, true, _, hk, hse, hsn, fun e => (by simp only at e; rw [hov] at e; cases e), hg.trans hsd, by simp [drO, dr0, ha, hstr, hov]; rfl, fr_intro (by simp [hsn])⟩ ?_
        rw [hget' _ _ _ _ _ _ _ _ _ rfl, hget' _ _ _ _ _ _ _ _ _ rfl]
        exact hdl
      | false =>
        rw [if_neg (by rw [hi]; simp)] at hO
        obtain ⟨st, hst⟩ : ∃ st, p.1.status = st := ⟨_, rfl⟩
        have hcn : (m == [67, 79, 78, 78, 69, 67, 84]) = (m == vConnect) := rfl
        have hT : ∀ b, turnedB m st = b → oneR s = if (!p.1.persist || b) = true then (({ s with bytes := [], over := true, asked := ms, done := s.done ++ [p.1] } : RM), true) else ({ s with bytes := s.bytes.drop n, asked := ms, done := s.done ++ [p.1] }, true) := fun b hb => by
          rw [hO, hst, hb]
          cases p.1.persist <;> cases b <;> rfl
        simp [hdr, htks]
        rw [hst]
        cases hpe : p.1.persist
        case' false =>
          have hO2 := hT (turnedB m st) rfl
          rw [hpe, Bool.not_false, Bool.true_or, if_pos rfl] at hO2
          simp
        case' true =>
          by_cases q1 : st = 101
          case' pos =>
            have hO2 := hT true (by unfold turnedB; rw [q1]; rfl)
            rw [hpe, Bool.or_true, if_pos rfl] at hO2
            have q1' : (st == 101) = true := by simpa using q1
            simp [q1']
          case' neg =>
            have q1' : (st == 101) = false := by simpa using q1
            cases q2 : (m == vConnect)
            case' false =>
              have hO2 := hT false (by unfold turnedB; rw [q1', q2]; rfl)
              rw [hpe, if_neg (by simp)] at hO2
              simp [q1', hcn, q2]
            case' true =>
              by_cases q3 : 200 ≤ st
              case' neg =>
                have hO2 := hT false (by unfold turnedB; rw [q1', q2, decide_eq_false q3]; rfl)
                rw [hpe, if_neg (by simp)] at hO2
                simp [q1', hcn, q2, q3]
              case' pos =>
                by_cases q4 : st ≤ 299
                case' neg =>
                  have hO2 := hT false (by unfold turnedB; rw [q1', q2, decide_eq_true q3, decide_eq_false q4]; rfl)
                  rw [hpe, if_neg (by simp)] at hO2
                  simp [q1', hcn, q2, q3, q4]
                case' pos =>
                  have hO2 := hT true (by unfold turnedB; rw [q1', q2, decide_eq_true q3, decide_eq_true q4]; rfl)
                  rw [hpe, Bool.or_true, if_pos rfl] at hO2
                  simp [q1', hcn, q2, q3, q4]
        all_goals
          have hk := oneR_ok hoks
          rw [hO2] at hk
          have hov2 := one_over hO2 (fun e => by rw [hov] at e; cases e)
          have hg := drd_go hov hO2 hov2
          refine Kloop_normal ⟨_, true, _, hk, hse, hsn, fun e => .inl (hov2 e), hg.trans hsd, by simp [drO, dr0, hov]; rfl, fr_intro (by simp [hsn])⟩ ?_
          rw [hget' _ _ _ _ _ _ _ _ _ rfl, hget' _ _ _ _ _ _ _ _ _ rfl]
          first
            | exact hdl
            | exact Nat.lt_of_le_of_lt (Nat.zero_le _) hdl
def dfeedM (r : RM) (s : List UInt8) : RM × Int := if r.most < 0 then (r, 0) else if r.err ≠ 0 ∨ r.ended = true then (r, 126) else (drdM (r.put s), (drdM (r.put s)).err)
def dendM (r : RM) : RM × Int := if r.most < 0 then (r, 0) else if r.err ≠ 0 ∨ r.ended = true then (r, 126) else (drdM { r with ended := true }, (drdM { r with ended := true }).err)
theorem drfeed_pc (r : RM) (s : List UInt8) (hok : 0 ≤ r.most → okM (r.put s)) (hQ : Q (.tup [.agg (drA (dfeedM r s).1), .int .i64 (dfeedM r s).2]) H) : PC Tryz.prog E 65 [.agg (drA r), .str s] H Q := by
  have fin : ∀ a : RM × Int, dfeedM r s = a → Q (.tup [.agg (drA a.1), .int .i64 a.2]) H := fun a ha => ha ▸ hQ
  refine pc_enter Tryz.func65 rfl [] [] (by kernel_rfl) (fun hB => ?_)
  by_cases h : r.most < 0
  · have e : dfeedM r s = (r, 0) := by unfold dfeedM; rw [if_pos h]
    simp [Tryz.ntmps65, Tryz.results65, List.replicate_succ, drA, h]
    exact aPost_same hB (v0 := .tup [.agg (drA r), .int .i64 0]) (by simp [drA]) (nilV_refl _) (by simp [drA, bnd_strs, bnd_reps]) (fin _ e)
  by_cases he : r.err = 0
  rotate_left
  · have e : dfeedM r s = (r, 126) := by unfold dfeedM; rw [if_neg h, if_pos (.inl he)]
    have he' : (r.err != 0) = true := by simpa using he
    simp [Tryz.ntmps65, Tryz.results65, List.replicate_succ, drA, h, he']
    exact aPost_same hB (v0 := .tup [.agg (drA r), .int .i64 126]) (by simp [drA]) (nilV_refl _) (by simp [drA, bnd_strs, bnd_reps]) (fin _ e)
  cases hen : r.ended with
  | true =>
    have e : dfeedM r s = (r, 126) := by unfold dfeedM; rw [if_neg h, if_pos (.inr hen)]
    simp [Tryz.ntmps65, Tryz.results65, List.replicate_succ, drA, h, he, hen]
    exact aPost_same hB (v0 := .tup [.agg (drA r), .int .i64 126]) (by simp [drA, hen, he]) (nilV_refl _) (by simp [drA, bnd_strs, bnd_reps]) (fin _ e)
  | false =>
    have e : dfeedM r s = (drdM (r.put s), (drdM (r.put s)).err) := by unfold dfeedM; rw [if_neg h, if_neg (by rw [he, hen]; simp)]
    have hk := hok (by omega)
    have hlen := hk.1
    simp only [RM.put, List.length_append] at hlen
    have m1 : r.bytes.length + s.length ≤ maxLen := by unfold maxLen; omega
    have hR := drread_pc (r := r.put s)
    simp [Tryz.ntmps65, Tryz.results65, List.replicate_succ, drA, h, he, hen, m1]
    have hd : [AV.int .i64 r.most, .sl false 1 (strs r.asked), .str (r.bytes ++ s), .sl false 9 (repsA r.done), .int .i64 0, .bool r.over, .bool false] = drA (r.put s) := by simp [drA, RM.put, he, hen]
    rw [hd, show (false : Bool) = (r.put s).ended from hen.symm]
    refine drread_pc E _ _ (r.put s) hk he ?_
    simp [drA]
    exact aPost_same hB (v0 := .tup [.agg (drA (drdM (r.put s))), .int .i64 (drdM (r.put s)).err]) (by simp [drA]) (nilV_refl _) (by simp [drA, bnd_strs, bnd_reps]) (fin _ e)
theorem drend_pc (r : RM) (hok : 0 ≤ r.most → okM r) (hQ : Q (.tup [.agg (drA (dendM r).1), .int .i64 (dendM r).2]) H) : PC Tryz.prog E 67 [.agg (drA r)] H Q := by
  have fin : ∀ a : RM × Int, dendM r = a → Q (.tup [.agg (drA a.1), .int .i64 a.2]) H := fun a ha => ha ▸ hQ
  refine pc_enter Tryz.func67 rfl [] [] (by kernel_rfl) (fun hB => ?_)
  by_cases h : r.most < 0
  · have e : dendM r = (r, 0) := by unfold dendM; rw [if_pos h]
    simp [Tryz.ntmps67, Tryz.results67, List.replicate_succ, drA, h]
    exact aPost_same hB (v0 := .tup [.agg (drA r), .int .i64 0]) (by simp [drA]) (nilV_refl _) (by simp [drA, bnd_strs, bnd_reps]) (fin _ e)
  by_cases he : r.err = 0
  rotate_left
  · have e : dendM r = (r, 126) := by unfold dendM; rw [if_neg h, if_pos (.inl he)]
    have he' : (r.err != 0) = true := by simpa using he
    simp [Tryz.ntmps67, Tryz.results67, List.replicate_succ, drA, h, he']
    exact aPost_same hB (v0 := .tup [.agg (drA r), .int .i64 126]) (by simp [drA]) (nilV_refl _) (by simp [drA, bnd_strs, bnd_reps]) (fin _ e)
  cases hen : r.ended with
  | true =>
    have e : dendM r = (r, 126) := by unfold dendM; rw [if_neg h, if_pos (.inr hen)]
    simp [Tryz.ntmps67, Tryz.results67, List.replicate_succ, drA, h, he, hen]
    exact aPost_same hB (v0 := .tup [.agg (drA r), .int .i64 126]) (by simp [drA, hen, he]) (nilV_refl _) (by simp [drA, bnd_strs, bnd_reps]) (fin _ e)
  | false =>
    have e : dendM r = (drdM { r with ended := true }, (drdM { r with ended := true }).err) := by unfold dendM; rw [if_neg h, if_neg (by rw [he, hen]; simp)]
    simp [Tryz.ntmps67, Tryz.results67, List.replicate_succ, drA, h, he, hen]
    have hd : [AV.int .i64 r.most, .sl false 1 (strs r.asked), .str r.bytes, .sl false 9 (repsA r.done), .int .i64 0, .bool r.over, .bool true] = drA { r with ended := true } := by simp [drA, he]
    rw [hd]
    refine drread_pc E _ _ { r with ended := true } (hok (by omega)) he ?_
    simp [drA]
    exact aPost_same hB (v0 := .tup [.agg (drA (drdM { r with ended := true })), .int .i64 (drdM { r with ended := true }).err]) (by simp [drA]) (nilV_refl _) (by simp [drA, bnd_strs, bnd_reps]) (fin _ e)
end
end Go.Proofs.YtcdkcaocfioigaaGreatDoor

set_option linter.unusedVariables false
set_option linter.unnecessarySimpa false
set_option linter.unusedSimpArgs false
set_option linter.unusedSectionVars false
set_option maxRecDepth 100000
namespace Go.Proofs.YtcdkcaocfioigaaGreatDoor
open Go Go.RowKit Go.Proofs

section
variable (E : Env) (H : Hp) (Q : AV → Hp → Prop)
end
end Go.Proofs.YtcdkcaocfioigaaGreatDoor

set_option linter.unusedVariables false
set_option linter.unnecessarySimpa false
set_option linter.unusedSimpArgs false
set_option linter.unusedSectionVars false
set_option maxRecDepth 100000
namespace Go.Proofs.YtcdkcaocfioigaaGreatDoor
open Go Go.RowKit Go.Proofs

@[simp] theorem bnd_ints {N : Nat} (l : List Int) : (∀ r ∈ ints l, ∀ x ∈ r, Bnd N x) = True := eq_true fun r hr x hx => by
  obtain ⟨z, _, rfl⟩ := List.mem_map.1 hr
  simp at hx
  subst hx
  exact .int _ _
section
variable (E : Env) (H : Hp) (Q : AV → Hp → Prop)
def same12Inv (a : List Fld) (H : Hp) (fr : List AV) (H' : Hp) : Prop := H' = H ∧ ∃ i : Nat, i ≤ a.length ∧ ∃ x : Nat → AV, fr = [.sl false 2 (flds a), .sl false 2 (flds a), x 2, x 3, x 4, x 5, x 6, x 7, x 8, x 9, x 10, x 11, .int .i64 a.length, .int .i64 i, x 14, x 15, x 16, x 17, x 18, x 19, x 20, x 21, x 22, x 23, x 24, x 25, x 26, x 27, x 28, x 29, x 30, x 31, x 32, x 33, x 34, x 35, x 36, x 37, x 38, x 39, x 40]
theorem same12_pc (a : List Fld) (ha : a.length ≤ 1073741824) (hQ : Q (.bool true) H) : PC Tryz.prog E 20 [.sl false 2 (flds a), .sl false 2 (flds a)] H Q := by
  refine pc_enter Tryz.func20 rfl [] [] (by kernel_rfl) (fun hB => ?_)
  simp [Tryz.ntmps20, Tryz.results20, List.replicate_succ]
  refine VL_go (same12Inv a H) (fun fr _ => a.length - (ai (aget fr 13)).toNat) ⟨rfl, 0, by omega, fr_intro (by simp)⟩ ?_
  rintro fr H' ⟨rfl, i, hi, x, rfl⟩
  by_cases h : i < a.length
  · obtain ⟨u, hu⟩ : ∃ u, a[i]? = some u := ⟨_, List.getElem?_eq_getElem h⟩
    have hat1 := flds_at hu
    have hw : IntKind.i64.wrap ((i : Int) + 1) = i + 1 := wrap_in (by omega) (by omega)
    obtain ⟨n1, v1⟩ := u
    simp only at hat1
    simp [h, hat1, hw]
    exact Kloop_normal ⟨rfl, i + 1, by omega, fr_intro (by simp)⟩ (by simp; omega)
  · simp [h]
    exact aPost_same0 hB rfl (nilV_refl _) (by simp) hQ
end
end Go.Proofs.YtcdkcaocfioigaaGreatDoor

set_option linter.unusedVariables false
set_option linter.unnecessarySimpa false
set_option linter.unusedSimpArgs false
set_option linter.unusedSectionVars false
set_option maxRecDepth 100000
namespace Go.Proofs.YtcdkcaocfioigaaGreatDoor
open Go Go.RowKit Go.Proofs

/-- Nils in a struct are seen as empty lists. -/
theorem aggNil_rel {w : World} {β : Nat → Nat} {Rd : Nat → Nat → Prop} {N : Nat} {l l' : List AV} {u : Value} (hB : Bnd N (.agg l)) (h : Rel w β Rd (.agg l) u) (hn : nilL l l') (hf' : ∀ x ∈ l', x.free = true) :
    Rel w β Rd (.agg l') u ∧ Bnd N (.agg l') := by
  have h1 : Rel w β Rd (.tup [.agg l]) (.tuple #[u]) := .tup _ _ rfl (fun x hx => by simp at hx; subst hx; rfl) (fun j x v hx hv => by
    match j with
    | 0 => simp at hx hv; subst hx; subst hv; exact h
    | j + 1 => simp at hx)
  obtain ⟨k1, k2⟩ := nilT_rel (.tup _ fun x hx => by simp at hx; subst hx; exact hB) h1 hn hf'
  constructor
  · cases k1 with
    | tup _ _ _ _ hr => exact hr 0 _ u rfl rfl
  · cases k2 with
    | tup _ h => exact h _ (by simp)
theorem PC.agg2 {P : Program} {E : Env} {f : FuncId} {a l l' : List AV} {H : Hp} {Q : AV → Hp → Prop} (hn : nilL l l') (hf : ∀ x ∈ l', x.free = true) (h : PC P E f [.agg a, .agg l'] H Q) : PC P E f [.agg a, .agg l] H Q :=
  ⟨h.1, fun w β Rd Ow cargs h1 h2 h3 h4 => h.2 w β Rd Ow cargs h1 h2 h3 fun t x u hx hu => by
    match t with
    | 0 => exact h4 0 x u hx hu
    | 1 =>
      simp at hx
      subst hx
      obtain ⟨r1, r2, _⟩ := h4 1 (.agg l) u rfl hu
      obtain ⟨k1, k2⟩ := aggNil_rel r2 r1 hn hf
      exact ⟨k1, k2, rfl⟩
    | t + 2 => simp at hx⟩
def awR12 : Resp := ⟨200, [], [⟨[65], [49]⟩], [104, 105]⟩
def awM12 : Mann := ⟨[71, 69, 84], false, false, false, [], []⟩
def awT12 : List UInt8 := [72, 84, 84, 80, 47, 49, 46, 49, 32, 50, 48, 48, 32, 79, 75, 13, 10, 65, 58, 32, 49, 13, 10, 67, 111, 110, 116, 101, 110, 116, 45, 76, 101, 110, 103, 116, 104, 58, 32, 50, 13, 10, 13, 10, 104, 105]
theorem aw_print : printP awR12 awM12 = (awT12, 0) := by decide +kernel
theorem aw_parse : (parseM [71, 69, 84] (awT12 ++ [120]) 2 false).1.body = [104, 105] ∧ (parseM [71, 69, 84] (awT12 ++ [120]) 2 false).2.1 = 46 ∧ (parseM [71, 69, 84] (awT12 ++ [120]) 2 false).2.2 = 0 := by decide +kernel
theorem aw_ok : okR awR12 awM12 := by
  refine ⟨by decide, by decide, by decide, by decide, by decide, by decide, by decide, ?_⟩
  intro z hz
  cases hz
section
variable (E : Env) (H : Hp) (Q : AV → Hp → Prop)
theorem awake12_pc (hE : SM E) (hQ : Q (.bool true) H) : PC Tryz.prog E 12 [] H Q := by
  obtain ⟨p1, p2, p3⟩ := aw_parse
  refine pc_enter Tryz.func12 rfl [] [] (by kernel_rfl) (fun hB => ?_)
  simp [Tryz.ntmps12, Tryz.results12, List.replicate_succ]
  refine PC.agg2 (a := awR12.avs) (l := [.str [71, 69, 84], .bool false, .bool false, .bool false, .nil, .nil]) (l' := awM12.avs) ⟨.inl rfl, .inl rfl, .inl rfl, .inl rfl, .inr ⟨rfl, false, 1, rfl⟩, .inr ⟨rfl, false, 2, rfl⟩, trivial⟩ (by simp [Mann.avs, AV.free]) ?_
  refine mprint_pc E _ _ hE awR12 awM12 aw_ok ?_
  rw [aw_print]
  have m1 : awT12.length + 1 ≤ maxLen := by decide
  have e1 : (awT12 != [72, 84, 84, 80, 47, 49, 46, 49, 32, 50, 48, 48, 32, 79, 75, 13, 10, 65, 58, 32, 49, 13, 10, 67, 111, 110, 116, 101, 110, 116, 45, 76, 101, 110, 103, 116, 104, 58, 32, 50, 13, 10, 13, 10, 104, 105]) = false := by decide
  simp [e1, m1]
  refine parse_pc E _ _ hE.1.1 [71, 69, 84] (awT12 ++ [120]) 2 false (by decide) (by decide) ?_
  rw [p2, p3]
  have e2 : awT12.length = 46 := rfl
  simp [Rep.avs, p1, e2]
  exact aPost_same hB rfl (nilV_refl _) (by simp) hQ
end
end Go.Proofs.YtcdkcaocfioigaaGreatDoor

