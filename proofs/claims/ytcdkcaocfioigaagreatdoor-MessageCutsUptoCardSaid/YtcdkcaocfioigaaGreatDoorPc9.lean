/- Part 9 of the texts below the law: the abstract machine, the functions that it walks, what they compute. -/
import Derived.Test.YtcdkcaocfioigaaGreatDoorPc8
import Derived.Test.YtcdkcaocfioigaaGreatDoorCards
import Derived.Test.YtcdkcaocfioigaaGreatDoorTie
import Derived.Deep.DeepHandedRow
import Derived.Lib.LaidTab
import Derived.ChangeMaps5
import Derived.Lay
import Derived.Stop.LaidErr
import Derived.JoinedCond
set_option linter.unusedVariables false
set_option linter.unnecessarySimpa false
set_option linter.unusedSimpArgs false
set_option linter.unusedSectionVars false
set_option maxRecDepth 100000
namespace Go.Proofs.YtcdkcaocfioigaaGreatDoor
open Go Go.RowKit Go.Proofs

/-! ### Two boxes, one behind the other -/
@[irreducible] def put2 (H : Hp) (c : Nat) (a b : List AV) : Hp := (H.set c a).set (c + 1) b
@[simp] theorem put2_len (H : Hp) (c : Nat) (a b : List AV) : (put2 H c a b).length = H.length := by unfold put2; simp
section
variable {H : Hp} {c : Nat} (h : c + 1 < H.length)
include h
theorem p2a (a b : List AV) : (put2 H c a b)[c]? = some a := by
  unfold put2; rw [List.getElem?_set_ne (by omega), List.getElem?_set_self (by omega)]
theorem p2b (a b : List AV) : (put2 H c a b)[c + 1]? = some b := by
  unfold put2; rw [List.getElem?_set_self (by simpa using h)]
theorem p2aJ (a b : List AV) (J : Hp) : (put2 H c a b ++ J)[c]? = some a := by rw [List.getElem?_append_left (by simp; omega), p2a h]
theorem p2bJ (a b : List AV) (J : Hp) : (put2 H c a b ++ J)[c + 1]? = some b := by rw [List.getElem?_append_left (by simp; omega), p2b h]
theorem p2sa (a b x : List AV) : (put2 H c a b).set c x = put2 H c x b := by
  unfold put2; rw [List.set_comm _ _ (show c + 1 ≠ c by omega), List.set_set]
theorem p2sb (a b x : List AV) : (put2 H c a b).set (c + 1) x = put2 H c a x := by
  unfold put2; rw [List.set_set]
theorem p2saJ (a b x : List AV) (J : Hp) : (put2 H c a b ++ J).set c x = put2 H c x b ++ J := by rw [List.set_append_left _ _ (by simp; omega), p2sa h]
theorem p2sbJ (a b x : List AV) (J : Hp) : (put2 H c a b ++ J).set (c + 1) x = put2 H c a x ++ J := by rw [List.set_append_left _ _ (by simp; omega), p2sb h]
end
theorem put2_bnd {H : Hp} {c n : Nat} {a b a' b' : List AV} (hc : c + 1 < H.length) (hB : BndH n (put2 H c a b)) (ha : ∀ x ∈ a', Bnd n x) (hb : ∀ x ∈ b', Bnd n x) : BndH n (put2 H c a' b') := by
  intro l hl x hx
  obtain ⟨j, hj⟩ := List.getElem?_of_mem hl
  by_cases h1 : j = c
  · subst h1; rw [p2a hc] at hj; cases hj; exact ha x hx
  · by_cases h2 : j = c + 1
    · subst h2; rw [p2b hc] at hj; cases hj; exact hb x hx
    · have : (put2 H c a b)[j]? = some l := by
        unfold put2 at hj ⊢
        rw [List.getElem?_set_ne (Ne.symm h2), List.getElem?_set_ne (Ne.symm h1)] at hj ⊢
        exact hj
      exact hB l (List.mem_of_getElem? this) x hx
theorem aPost_put2 {P : Program} {rs : List ResultVar} {Q : AV → Hp → Prop} {fr : List AV} {H J : Hp} {v0 v : AV} {c : Nat} {a b a' b' : List AV} (hc : c + 1 < H.length) (hB : BndH (put2 H c a b).length (put2 H c a b)) (h1 : ares P fr (put2 H c a' b' ++ J) rs = some v0) (h2 : nilV v0 v)
    (ha : ∀ x ∈ a', Bnd H.length x) (hb : ∀ x ∈ b', Bnd H.length x) (h5 : Bnd H.length v) (h6 : Q v (put2 H c a' b')) : aPost P rs H.length Q .ret fr (put2 H c a' b' ++ J) :=
  aPost_end h1 h2 (by simp) (by rw [put2_len] at hB ⊢; exact put2_bnd hc hB ha hb) (by simpa using h5) h6
theorem aPost_put20 {P : Program} {rs : List ResultVar} {Q : AV → Hp → Prop} {fr : List AV} {H : Hp} {v0 v : AV} {c : Nat} {a b a' b' : List AV} (hc : c + 1 < H.length) (hB : BndH (put2 H c a b).length (put2 H c a b)) (h1 : ares P fr (put2 H c a' b') rs = some v0) (h2 : nilV v0 v)
    (ha : ∀ x ∈ a', Bnd H.length x) (hb : ∀ x ∈ b', Bnd H.length x) (h5 : Bnd H.length v) (h6 : Q v (put2 H c a' b')) : aPost P rs H.length Q .ret fr (put2 H c a' b') := by
  have := aPost_put2 (J := []) (P := P) (rs := rs) (Q := Q) (fr := fr) hc hB (by rw [List.append_nil]; exact h1) h2 ha hb h5 h6
  rwa [List.append_nil] at this
theorem aPost_put2K {P : Program} {rs : List ResultVar} {Q : AV → Hp → Prop} {fr : List AV} {H : Hp} {c : Nat} {a b a' b' : List AV} (hc : c + 1 < H.length) (hB : BndH (put2 H c a b).length (put2 H c a b)) (v : AV) (h1 : ares P fr (put2 H c a' b') rs = some v)
    (ha : ∀ x ∈ a', Bnd H.length x) (hb : ∀ x ∈ b', Bnd H.length x) (h5 : Bnd H.length v) (h6 : Q v (put2 H c a' b')) : aPost P rs H.length Q .ret fr (put2 H c a' b') := aPost_put20 hc hB h1 (nilV_refl _) ha hb h5 h6

/-! ### A reader's boxes -/
def repsA (l : List Rep) : List (List AV) := l.map Rep.avs
@[simp] theorem repsA_length (l : List Rep) : (repsA l).length = l.length := by simp [repsA]
theorem repsA_snoc (l : List Rep) (r : Rep) : repsA l ++ [r.avs] = repsA (l ++ [r]) := by simp [repsA]
theorem bnd_reps {N : Nat} (o k) (l : List Rep) : Bnd N (.sl o k (repsA l)) := .sl _ _ _ fun r hr x hx => by
  obtain ⟨y, _, rfl⟩ := List.mem_map.1 hr
  exact avs_bnd y N x hx
@[simp] theorem bnd_reps' {N : Nat} (l : List Rep) : (∀ r ∈ repsA l, ∀ x ∈ r, Bnd N x) = True := eq_true fun r hr x hx => by
  obtain ⟨y, _, rfl⟩ := List.mem_map.1 hr
  exact avs_bnd y N x hx
def smB (r : RM) : List AV := [.str r.bytes, .int .i64 r.err, .bool r.over, .bool r.ended]
def rmB (c : Nat) (r : RM) : List AV := [.ptr (some (c, 0)), .int .i64 r.most, .sl true 1 (strs r.asked), .sl true 9 (repsA r.done)]
theorem smB_bnd (r : RM) (N : Nat) : ∀ x ∈ smB r, Bnd N x := by simp [smB]
theorem rmB_bnd (r : RM) {c N : Nat} (h : c < N) : ∀ x ∈ rmB c r, Bnd N x := by
  intro x hx
  simp [rmB] at hx
  rcases hx with rfl | rfl | rfl | rfl
  · exact .ptr _ _ h
  · exact .int _ _
  · exact bnd_strs _ _ _
  · exact bnd_reps _ _ _
theorem fieldsR_len {t : List UInt8} {old : Bool} : ∀ (n a : Nat) (fs gs : List Fld) (e : Nat), fs.length ≤ 100 → fieldsR t old n a fs = .ok gs e → gs.length ≤ 100
  | 0, a, fs, gs, e, _, h => by rw [fieldsR] at h; cases h
  | n + 1, a, fs, gs, e, hl, h => by
    rw [fieldsR_next] at h
    cases hx : nextR t old a fs with
    | inl x =>
      rw [hx] at h
      simp only at h
      subst h
      unfold nextR at hx
      cases he : lineR t a with
      | part => rw [he] at hx; cases hx
      | bad i => rw [he] at hx; cases hx
      | ok e' =>
        rw [he] at hx
        simp only at hx
        split at hx
        · split at hx
          · cases hx
          · cases hx; exact hl
        · split at hx
          · cases hx
          · split at hx <;> cases hx
    | inr p =>
      obtain ⟨e', gs'⟩ := p
      rw [hx] at h
      obtain ⟨_, _, _, _, h5, _, h7⟩ := nextR_go hx
      exact fieldsR_len n e' gs' gs e (by rw [h7]; simp; omega) h
theorem headM_fields (s : List UInt8) : (headM s).1.fields.length ≤ 100 ∧ (headM s).1.trailers = [] := by
  rw [headM_eq]
  cases hx : headO (s.take 65536) with
  | none => simp only [Option.getD_none]; split <;> exact ⟨Nat.zero_le _, rfl⟩
  | some x =>
    simp only [Option.getD_some]
    unfold headO at hx
    cases hs : stR (s.take 65536) with
    | part => rw [hs] at hx; cases hx
    | bad i => rw [hs] at hx; cases hx; exact ⟨Nat.zero_le _, rfl⟩
    | ok a =>
      rw [hs] at hx
      simp only at hx
      cases hf : fieldsR (s.take 65536) (decide (dg (s.take 65536) 7 = 0)) ((s.take 65536).length + 1) a [] with
      | part => rw [hf] at hx; cases hx
      | bad n e => rw [hf] at hx; cases hx; exact ⟨Nat.zero_le _, rfl⟩
      | ok fs e => rw [hf] at hx; cases hx; exact ⟨fieldsR_len _ _ _ _ _ (by simp) hf, rfl⟩
theorem parseM_lens {m s : List UInt8} {most : Int} {ended : Bool} (hs : s.length ≤ 1000000000) (hm : most ≤ 9223372036854775807) : (parseM m s most ended).1.fields.length ≤ 1073741824 ∧ (parseM m s most ended).1.trailers.length ≤ 1073741824 := by
  obtain ⟨f1, f2⟩ := headM_fields s
  by_cases h0 : most < 0
  · rw [parseM_neg _ _ _ h0]; exact ⟨Nat.zero_le _, Nat.zero_le _⟩
  by_cases h1 : (headM s).2.2 = 0
  · cases h2 : bodylessB m (headM s).1.status with
    | true => rw [parseM_none _ h0 h1 h2, f2]; exact ⟨by omega, Nat.zero_le _⟩
    | false =>
      obtain ⟨n, hn, _⟩ := headM_rng h1
      rw [parseM_body _ h0 h1 h2 hn]
      have hdl := decodeD_len (s.drop n) most 65536 100 (by rw [List.length_drop]; omega) hm (by decide) (by decide)
      have f2' : (headM s).1.trailers.length ≤ 1073741824 := by rw [f2]; exact Nat.zero_le _
      unfold bodyM
      (repeat' split) <;> first | exact ⟨Nat.zero_le _, Nat.zero_le _⟩ | exact ⟨by simp only; omega, hdl⟩ | exact ⟨by simp only; omega, f2'⟩
  · rw [parseM_bad _ h0 h1]; exact ⟨Nat.zero_le _, Nat.zero_le _⟩
/-- A reader's sizes. -/
def okM (r : RM) : Prop := r.bytes.length + r.done.length ≤ 100000000 ∧ r.asked.length ≤ 64 ∧ (0 ≤ r.most ∧ r.most ≤ 9223372036854775807) ∧ ∀ x ∈ r.done, x.fields.length ≤ 1073741824 ∧ x.trailers.length ≤ 1073741824
def newM (most : Int) : RM := ⟨[], 0, false, false, most, [], []⟩
theorem oneR_none {r : RM} (h : r.bytes = [] ∨ r.over = true) : oneR r = (r, false) := by unfold oneR; rw [if_pos h]
theorem oneR_ask {r : RM} (h : ¬ (r.bytes = [] ∨ r.over = true)) (ha : r.asked = []) : oneR r = ({ r with err := 126 }, false) := by unfold oneR; rw [if_neg h, ha]
theorem oneR_cons {r : RM} {m : List UInt8} {ms : List (List UInt8)} {p : Rep × Int × Int} (h : ¬ (r.bytes = [] ∨ r.over = true)) (ha : r.asked = m :: ms) (hp : parseM m r.bytes r.most r.ended = p) : oneR r =
    if p.2.2 = 124 then (r, false) else if p.2.2 ≠ 0 then ({ r with err := p.2.2 }, false)
    else if interimB p.1.status = true then ({ r with bytes := r.bytes.drop p.2.1.toNat, done := r.done ++ [p.1] }, true)
    else if p.1.persist = false ∨ turnedB m p.1.status = true then ({ r with bytes := [], over := true, asked := ms, done := r.done ++ [p.1] }, true)
    else ({ r with bytes := r.bytes.drop p.2.1.toNat, asked := ms, done := r.done ++ [p.1] }, true) := by
  unfold oneR
  rw [if_neg h, ha]
  simp only
  rw [hp]
theorem oneR_ok {r : RM} (h : okM r) : okM (oneR r).1 := by
  obtain ⟨h1, h2, h3, h4⟩ := id h
  by_cases h0 : r.bytes = [] ∨ r.over = true
  · rw [oneR_none h0]; exact h
  cases ha : r.asked with
  | nil => rw [oneR_ask h0 ha]; exact h
  | cons m ms =>
    have hb : 0 < r.bytes.length := by
      rcases Nat.eq_zero_or_pos r.bytes.length with h | h
      · exact absurd (.inl (List.length_eq_zero_iff.1 h)) h0
      · exact h
    obtain ⟨p, hp⟩ : ∃ p, parseM m r.bytes r.most r.ended = p := ⟨_, rfl⟩
    rw [oneR_cons h0 ha hp]
    have h2' := h2
    rw [ha] at h2'
    simp only [List.length_cons] at h2'
    by_cases g1 : p.2.2 = 124
    · rw [if_pos g1]; exact h
    rw [if_neg g1]
    by_cases g2 : p.2.2 = 0
    · rw [if_neg (by simpa using g2)]
      obtain ⟨n, hn, h17, hl⟩ := parseM_rng (by rw [hp]; exact g2 : (parseM m r.bytes r.most r.ended).2.2 = 0)
      rw [hp] at hn
      have h5 : ∀ x ∈ r.done ++ [p.1], x.fields.length ≤ 1073741824 ∧ x.trailers.length ≤ 1073741824 := fun x hx => by
        rcases List.mem_append.1 hx with hx | hx
        · exact h4 x hx
        · simp at hx
          subst hx
          rw [← hp]
          exact parseM_lens (by omega) h3.2
      split
      · refine ⟨?_, h2, h3, h5⟩
        simp only [List.length_drop, List.length_append, List.length_cons, List.length_nil]; omega
      · split
        · refine ⟨?_, by simp only; omega, h3, h5⟩
          simp only [List.length_nil, List.length_append, List.length_cons]; omega
        · refine ⟨?_, by simp only; omega, h3, h5⟩
          simp only [List.length_drop, List.length_append, List.length_cons, List.length_nil]; omega
    · rw [if_pos g2]; exact h
section
variable (E : Env) (H : Hp) (Q : AV → Hp → Prop)
theorem rnew_pc (most : Int) (hQ1 : 0 ≤ most → Q (.tup [.ptr (some (H.length + 1, 0)), .int .i64 0]) (H ++ [smB (newM most), rmB H.length (newM most)])) (hQ2 : most < 0 → Q (.tup [.ptr none, .int .i64 1]) H) : PC Tryz.prog E 32 [.int .i64 most] H Q := by
  refine pc_enter Tryz.func32 rfl [] [] (by kernel_rfl) (fun hB => ?_)
  by_cases h : most < 0
  · simp [Tryz.ntmps32, Tryz.results32, List.replicate_succ, h]
    exact aPost_same0 hB rfl (nilV_refl _) (by simp) (hQ2 h)
  · simp [Tryz.ntmps32, Tryz.results32, List.replicate_succ, h]
    have hQ := hQ1 (by omega)
    have hbn : BndH (H.length + 2) (H ++ [smB (newM most), rmB H.length (newM most)]) := fun l hl x hx => by
      rcases List.mem_append.1 hl with h' | h'
      · exact (hB l h' x hx).mono (by omega)
      · simp at h'
        rcases h' with rfl | rfl
        · exact smB_bnd _ _ x hx
        · exact rmB_bnd _ (by omega) x hx
    exact ⟨.tup [.ptr (some (H.length + 1, 0)), .int .i64 0], _, H ++ [smB (newM most), rmB H.length (newM most)], H ++ [smB (newM most), rmB H.length (newM most)], [], rfl, nilV_refl _,
      nilH_app H ⟨⟨.inl rfl, .inl rfl, .inl rfl, .inl rfl, trivial⟩, ⟨.inl rfl, .inl rfl, .inr ⟨rfl, true, 1, rfl⟩, .inr ⟨rfl, true, 9, rfl⟩, trivial⟩, trivial⟩,
      (List.append_nil _).symm, by simp, by simpa using hbn, by simp, hQ⟩
variable (c : Nat) (r : RM) (hc : c + 1 < H.length)
include hc
theorem rask_pc (hok : okM r) (m : List UInt8) (hQ1 : 64 ≤ r.asked.length → Q (.int .i64 65) (put2 H c (smB r) (rmB c r))) (hQ2 : r.asked.length < 64 → Q (.int .i64 0) (put2 H c (smB r) (rmB c { r with asked := r.asked ++ [m] }))) :
    PC Tryz.prog E 33 [.ptr (some (c + 1, 0)), .str m] (put2 H c (smB r) (rmB c r)) Q := by
  obtain ⟨h1, h2, h3, _⟩ := hok
  have m1 : r.asked.length + 1 ≤ maxLen := by unfold maxLen; omega
  have m2 : (r.asked.length + 1) * 16 ≤ 140737488355328 := by omega
  refine pc_enter Tryz.func33 rfl [17] [] (by kernel_rfl) (fun hB => ?_)
  by_cases h : 64 ≤ r.asked.length
  · have h' : (64 : Int) ≤ r.asked.length := by omega
    simp [Tryz.ntmps33, Tryz.results33, List.replicate_succ, p2a hc, p2b hc, p2sa hc, p2sb hc, smB, rmB, h']
    exact aPost_put2K hc hB (.int .i64 65) rfl (smB_bnd r _) (rmB_bnd r (by omega)) (by simp) (hQ1 h)
  · have h' : ¬ (64 : Int) ≤ r.asked.length := by omega
    have hsn := strs_snoc r.asked m
    simp [Tryz.ntmps33, Tryz.results33, List.replicate_succ, p2a hc, p2b hc, p2sa hc, p2sb hc, smB, rmB, h', m1, m2, hsn]
    exact aPost_put2K hc hB (.int .i64 0) rfl (smB_bnd r _) (rmB_bnd { r with asked := r.asked ++ [m] } (by omega)) (by simp) (hQ2 (by omega))
theorem rasked_pc (hQ : Q (.int .i64 r.asked.length) (put2 H c (smB r) (rmB c r))) : PC Tryz.prog E 42 [.ptr (some (c + 1, 0))] (put2 H c (smB r) (rmB c r)) Q := by
  refine pc_enter Tryz.func42 rfl [] [] (by kernel_rfl) (fun hB => ?_)
  simp [Tryz.ntmps42, Tryz.results42, List.replicate_succ, p2a hc, p2b hc, rmB]
  exact aPost_put2K hc hB (.int .i64 r.asked.length) rfl (smB_bnd r _) (rmB_bnd r (by omega)) (by simp) hQ
theorem serr_pc (hQ : Q (.int .i64 r.err) (put2 H c (smB r) (rmB c r))) : PC Tryz.prog E 63 [.ptr (some (c, 0))] (put2 H c (smB r) (rmB c r)) Q := by
  refine pc_enter Tryz.func63 rfl [] [] (by kernel_rfl) (fun hB => ?_)
  simp [Tryz.ntmps63, Tryz.results63, List.replicate_succ, p2a hc, p2b hc, smB]
  exact aPost_put2K hc hB (.int .i64 r.err) rfl (smB_bnd r _) (rmB_bnd r (by omega)) (by simp) hQ
theorem rerr_pc (hQ : Q (.int .i64 r.err) (put2 H c (smB r) (rmB c r))) : PC Tryz.prog E 36 [.ptr (some (c + 1, 0))] (put2 H c (smB r) (rmB c r)) Q := by
  refine pc_enter Tryz.func36 rfl [] [] (by kernel_rfl) (fun hB => ?_)
  simp [Tryz.ntmps36, Tryz.results36, List.replicate_succ, p2a hc, p2b hc, rmB]
  refine serr_pc E H _ c r hc ?_
  simp
  exact aPost_put2K hc hB (.int .i64 r.err) rfl (smB_bnd r _) (rmB_bnd r (by omega)) (by simp) hQ
theorem sover_pc (hQ : Q (.bool (r.over || r.ended)) (put2 H c (smB r) (rmB c r))) : PC Tryz.prog E 69 [.ptr (some (c, 0))] (put2 H c (smB r) (rmB c r)) Q := by
  refine pc_enter Tryz.func69 rfl [] [] (by kernel_rfl) (fun hB => ?_)
  cases ho : r.over
  · rw [ho, Bool.false_or] at hQ
    simp [Tryz.ntmps69, Tryz.results69, List.replicate_succ, p2a hc, p2b hc, smB, ho]
    exact aPost_put2K hc hB (.bool r.ended) rfl (by simp) (rmB_bnd r (by omega)) (by simp) (by have := hQ; simp only [smB, ho] at this; exact this)
  · rw [ho, Bool.true_or] at hQ
    simp [Tryz.ntmps69, Tryz.results69, List.replicate_succ, p2a hc, p2b hc, smB, ho]
    exact aPost_put2K hc hB (.bool true) rfl (by simp) (rmB_bnd r (by omega)) (by simp) (by have := hQ; simp only [smB, ho] at this; exact this)
theorem rover_pc (hQ : Q (.bool (r.over || r.ended)) (put2 H c (smB r) (rmB c r))) : PC Tryz.prog E 41 [.ptr (some (c + 1, 0))] (put2 H c (smB r) (rmB c r)) Q := by
  refine pc_enter Tryz.func41 rfl [] [] (by kernel_rfl) (fun hB => ?_)
  simp [Tryz.ntmps41, Tryz.results41, List.replicate_succ, p2a hc, p2b hc, rmB]
  refine sover_pc E H _ c r hc ?_
  simp
  exact aPost_put2K hc hB (.bool (r.over || r.ended)) rfl (smB_bnd r _) (rmB_bnd r (by omega)) (by simp) hQ
end
end Go.Proofs.YtcdkcaocfioigaaGreatDoor

set_option linter.unusedVariables false
set_option linter.unnecessarySimpa false
set_option linter.unusedSimpArgs false
set_option linter.unusedSectionVars false
set_option maxRecDepth 100000
namespace Go.Proofs.YtcdkcaocfioigaaGreatDoor
open Go Go.RowKit Go.Proofs

attribute [simp] axsub
@[simp] theorem bnd_strsR {N : Nat} (l : List (List UInt8)) : (∀ r ∈ strs l, ∀ x ∈ r, Bnd N x) = True := eq_true fun r hr x hx => by
  obtain ⟨y, _, rfl⟩ := List.mem_map.1 hr
  simp at hx
  subst hx
  exact .str _
section
variable (E : Env) (H : Hp) (Q : AV → Hp → Prop) (c : Nat) (r : RM) (hc : c + 1 < H.length)
include hc
set_option maxHeartbeats 4000000 in
theorem rone_pc (hE : SE E) (hok : okM r) (hQ : Q (.bool (oneR r).2) (put2 H c (smB (oneR r).1) (rmB c (oneR r).1))) : PC Tryz.prog E 97 [.ptr (some (c + 1, 0))] (put2 H c (smB r) (rmB c r)) Q := by
  obtain ⟨o1, o2, o3, _⟩ := id hok
  have hok' := oneR_ok hok
  have fin : ∀ a : RM × Bool, oneR r = a → Q (.bool a.2) (put2 H c (smB a.1) (rmB c a.1)) := fun a ha => ha ▸ hQ
  have hcl : c < H.length := by omega
  refine pc_enter Tryz.func97 rfl [96, 116] [(6, [0, 0, 0, 0, 0, 0, 0, 0, 0, 0, 0, 0, 0, 0, 0, 0, 0, 0, 0, 0, 0, 0, 0, 0, 4]), (17, [0, 0, 0, 0, 0, 3])] (by kernel_rfl) (fun hB => ?_)
  by_cases hb : r.bytes = []
  · have hq := fin _ (oneR_none (.inl hb))
    simp [Tryz.ntmps97, Tryz.results97, List.replicate_succ, p2a hc, p2b hc, smB, rmB, hb]
    exact aPost_put2K hc hB (.bool false) rfl (by simp) (rmB_bnd r hcl) (by simp) (by have := hq; simp only [smB, hb] at this; exact this)
  have hb' : (r.bytes == []) = false := by simpa using hb
  cases ho : r.over
  case true =>
    have hq := fin _ (oneR_none (.inr ho))
    simp [Tryz.ntmps97, Tryz.results97, List.replicate_succ, p2a hc, p2b hc, smB, rmB, hb', ho]
    exact aPost_put2K hc hB (.bool false) rfl (by simp) (rmB_bnd r hcl) (by simp) (by have := hq; simp only [smB, ho] at this; exact this)
  have h0 : ¬ (r.bytes = [] ∨ r.over = true) := by rw [ho]; simpa using hb
  cases ha : r.asked with
  | nil =>
    have hq := fin _ (oneR_ask h0 ha)
    have hs0 : strs ([] : List (List UInt8)) = [] := rfl
    simp [Tryz.ntmps97, Tryz.results97, List.replicate_succ, p2a hc, p2b hc, p2sa hc, p2sb hc, smB, rmB, hb', ho, ha, hs0]
    exact aPost_put2K hc hB (.bool false) rfl (by simp) (by simp [bnd_strs, hcl]) (by simp) (by have := hq; simp only [smB, rmB, ho, ha, hs0] at this; exact this)
  | cons m ms =>
    have hstr : strs (m :: ms) = [.str m] :: strs ms := rfl
    have hlat : lat ([AV.str m] :: strs ms) 0 = some [.str m] := rfl
    obtain ⟨p, hp⟩ : ∃ p, parseM m r.bytes r.most r.ended = p := ⟨_, rfl⟩
    have hO := oneR_cons h0 ha hp
    have hlen0 : (((ms.length : Int) + 1) == 0) = false := by rw [beq_eq_false_iff_ne]; omega
    simp [Tryz.ntmps97, Tryz.results97, List.replicate_succ, p2a hc, p2b hc, p2aJ hc, p2bJ hc, smB, rmB, hb', ho, ha, hstr, hlat, hlen0]
    refine VCall4_intro fun J => ?_
    refine parse_pc E _ _ hE m r.bytes r.most r.ended (by omega) (by omega) ?_
    rw [hp]
    refine ⟨rfl, ?_⟩
    by_cases h124 : p.2.2 = 124
    · rw [if_pos h124] at hO
      have hq := fin _ hO
      simp [Rep.avs, h124]
      exact aPost_put2 hc hB (v0 := .bool false) (by simp) (nilV_refl _) (by simp) (by simp [bnd_strs, hcl]) (by simp) (by have := hq; simp only [smB, rmB, ho, ha, hstr] at this; exact this)
    rw [if_neg h124] at hO
    have h124' : (p.2.2 == 124) = false := by simpa using h124
    by_cases he : p.2.2 = 0
    rotate_left
    · rw [if_pos he] at hO
      have hq := fin _ hO
      have he' : (p.2.2 != 0) = true := by simpa using he
      simp [Rep.avs, h124', he', p2aJ hc, p2bJ hc, p2saJ hc, p2sbJ hc]
      exact aPost_put2 hc hB (v0 := .bool false) (by simp) (nilV_refl _) (by simp) (by simp [bnd_strs, hcl]) (by simp) (by have := hq; simp only [smB, rmB, ho, ha, hstr] at this; exact this)
    rw [if_neg (by simpa using he)] at hO
    obtain ⟨n, hn, h17, hnl⟩ := parseM_rng (by rw [hp]; exact he : (parseM m r.bytes r.most r.ended).2.2 = 0)
    rw [hp] at hn
    have hnt : p.2.1.toNat = n := by omega
    rw [hnt] at hO
    have htl : List.take (r.bytes.length - n) (r.bytes.drop n) = r.bytes.drop n := List.take_of_length_le (by rw [List.length_drop]; omega)
    have m1 : r.done.length + 1 ≤ maxLen := by unfold maxLen; omega
    have m2 : (r.done.length + 1) * 120 ≤ 140737488355328 := by omega
    have hsn : repsA r.done ++ [[.int .i64 p.1.status, .str p.1.reason, .sl false 2 (flds p.1.fields), .str p.1.body, .int .i64 p.1.minor, .sl false 2 (flds p.1.trailers), .int .i64 p.1.kind, .int .i64 p.1.length, .bool p.1.persist]] = repsA (r.done ++ [p.1]) := repsA_snoc r.done p.1
    simp [Rep.avs, he, hn, hnl, htl, m1, m2, hsn, p2aJ hc, p2bJ hc, p2saJ hc, p2sbJ hc]
    refine interim_pc E _ _ p.1.status ?_
    cases hi : interimB p.1.status with
    | true =>
      rw [if_pos hi] at hO
      have hq := fin _ hO
      simp
      exact aPost_put2 hc hB (v0 := .bool true) (by simp) (nilV_refl _) (by simp) (by simp [bnd_strs, hcl]) (by simp) (by have := hq; simp only [smB, rmB, ho, ha, hstr] at this; exact this)
    | false =>
      rw [if_neg (by rw [hi]; simp)] at hO
      have hdr : ([AV.str m] :: strs ms).drop 1 = strs ms := rfl
      obtain ⟨st, hst⟩ : ∃ st, p.1.status = st := ⟨_, rfl⟩
      have hcn : (m == [67, 79, 78, 78, 69, 67, 84]) = (m == vConnect) := rfl
      have hT : ∀ b, turnedB m st = b → (if p.1.persist = false ∨ turnedB m p.1.status = true then (({ r with bytes := [], over := true, asked := ms, done := r.done ++ [p.1] } : RM), true) else ({ r with bytes := r.bytes.drop n, asked := ms, done := r.done ++ [p.1] }, true)) =
          if (!p.1.persist || b) = true then (({ r with bytes := [], over := true, asked := ms, done := r.done ++ [p.1] } : RM), true) else ({ r with bytes := r.bytes.drop n, asked := ms, done := r.done ++ [p.1] }, true) := fun b hb => by
        rw [hst, hb]
        cases p.1.persist <;> cases b <;> rfl
      simp [hlat, hdr, p2aJ hc, p2bJ hc, p2saJ hc, p2sbJ hc]
      rw [hst]
      by_cases q1 : st = 101
      case' pos =>
        rw [hT true (by unfold turnedB; rw [q1]; rfl), Bool.or_true, if_pos rfl] at hO
        have q1' : (st == 101) = true := by simpa using q1
        simp [q1']
      case' neg =>
        have q1' : (st == 101) = false := by simpa using q1
        cases q2 : (m == vConnect)
        case' false =>
          rw [hT false (by unfold turnedB; rw [q1', q2]; rfl), Bool.or_false] at hO
          simp [q1', hcn, q2]
        case' true =>
          by_cases q3 : 200 ≤ st
          case' neg =>
            rw [hT false (by unfold turnedB; rw [q1', q2, decide_eq_false q3]; rfl), Bool.or_false] at hO
            simp [q1', hcn, q2, q3]
          case' pos =>
            by_cases q4 : st ≤ 299
            case' neg =>
              rw [hT false (by unfold turnedB; rw [q1', q2, decide_eq_true q3, decide_eq_false q4]; rfl), Bool.or_false] at hO
              simp [q1', hcn, q2, q3, q4]
            case' pos =>
              rw [hT true (by unfold turnedB; rw [q1', q2, decide_eq_true q3, decide_eq_true q4]; rfl), Bool.or_true, if_pos rfl] at hO
              simp [q1', hcn, q2, q3, q4]
      all_goals
        cases hpe : p.1.persist
        all_goals
          try simp only [hpe, Bool.not_true, Bool.not_false, Bool.false_eq_true, if_true, if_false] at hO
          have hq := fin _ hO
          simp [p2aJ hc, p2bJ hc, p2saJ hc, p2sbJ hc]
          exact aPost_put2 hc hB (v0 := .bool true) (by simp) (nilV_refl _) (by simp) (by simp [hcl]) (by simp) (by have := hq; simp only [smB, rmB, ho, hpe] at this ⊢; exact this)
end
end Go.Proofs.YtcdkcaocfioigaaGreatDoor

set_option linter.unusedVariables false
set_option linter.unnecessarySimpa false
set_option linter.unusedSimpArgs false
set_option linter.unusedSectionVars false
set_option maxRecDepth 100000
namespace Go.Proofs.YtcdkcaocfioigaaGreatDoor
open Go Go.RowKit Go.Proofs

/-- What comes. -/
def feedM (r : RM) (s : List UInt8) : RM × Int := if r.err ≠ 0 ∨ r.ended = true then (r, 126) else if r.over = true then (r, 0) else (readA (r.put s), (readA (r.put s)).err)
/-- Behind the end: what is left is wrong. -/
def restM (r : RM) : RM := if r.err = 0 ∧ r.over = false ∧ r.bytes ≠ [] then { r with err := 124 } else r
def endM (r : RM) : RM × Int := if r.err ≠ 0 ∨ r.ended = true then (r, 126) else
  (restM (if r.over = true then { r with ended := true } else readA { r with ended := true }), (restM (if r.over = true then { r with ended := true } else readA { r with ended := true })).err)
def nextM (r : RM) : RM × Rep × Bool := match r.done with
  | [] => (r, rep0, false)
  | x :: d => ({ r with done := d }, x, true)
theorem readR_ok : ∀ (n : Nat) (r : RM), okM r → okM (readR n r)
  | 0, r, h => h
  | n + 1, r, h => by
    rw [readR]
    split
    · exact readR_ok n _ (oneR_ok h)
    · exact oneR_ok h
theorem readA_ok {r : RM} (h : okM r) : okM (readA r) := readR_ok _ r h
def rrInv (H : Hp) (c : Nat) (r : RM) (fr : List AV) (H' : Hp) : Prop := ∃ r' : RM, okM r' ∧ readA r' = readA r ∧ H' = put2 H c (smB r') (rmB c r') ∧ ∃ x : Nat → AV, fr = [.ptr (some (c + 1, 0)), x 1, x 2, x 3]
/-- The length of the bytes that the reader's boxes hold. -/
def bytesAt (H : Hp) (c : Nat) : Nat := match H[c]? with
  | some (.str l :: _) => l.length
  | _ => 0
section
variable (E : Env) (H : Hp) (Q : AV → Hp → Prop) (c : Nat) (r : RM) (hc : c + 1 < H.length)
include hc
theorem rread_pc (hE : SE E) (hok : okM r) (hQ : Q (.tup []) (put2 H c (smB (readA r)) (rmB c (readA r)))) : PC Tryz.prog E 62 [.ptr (some (c + 1, 0))] (put2 H c (smB r) (rmB c r)) Q := by
  refine pc_enter Tryz.func62 rfl [] [] (by kernel_rfl) (fun hB => ?_)
  simp [Tryz.ntmps62, Tryz.results62, List.replicate_succ]
  refine VL_go (rrInv H c r) (fun _ H' => bytesAt H' c) ⟨r, hok, rfl, rfl, fr_intro (by simp)⟩ ?_
  rintro fr H' ⟨r', hk, hr, rfl, x, rfl⟩
  have hm : bytesAt (put2 H c (smB r') (rmB c r')) c = r'.bytes.length := by unfold bytesAt; rw [p2a hc]; rfl
  simp
  refine rone_pc E H _ c r' hc hE hk ?_
  cases h : (oneR r').2 with
  | true =>
    have hm2 : bytesAt (put2 H c (smB (oneR r').1) (rmB c (oneR r').1)) c = (oneR r').1.bytes.length := by unfold bytesAt; rw [p2a hc]; rfl
    simp
    exact Kloop_normal ⟨_, oneR_ok hk, by rw [← readA_go h]; exact hr, rfl, fr_intro (by simp)⟩ (by rw [hm, hm2]; exact oneR_less h)
  | false =>
    have e : readA r = (oneR r').1 := by rw [← hr, readA_stop h]
    rw [e] at hQ
    simp
    exact aPost_put20 hc hB (v0 := .tup []) rfl (nilV_refl _) (smB_bnd _ _) (rmB_bnd _ (by omega)) (by simp) hQ
theorem rfeed_pc (hE : SE E) (s : List UInt8) (hok : okM (r.put s)) (hQ : Q (.int .i64 (feedM r s).2) (put2 H c (smB (feedM r s).1) (rmB c (feedM r s).1))) : PC Tryz.prog E 34 [.ptr (some (c + 1, 0)), .str s] (put2 H c (smB r) (rmB c r)) Q := by
  have hcl : c < H.length := by omega
  have fin : ∀ a : RM × Int, feedM r s = a → Q (.int .i64 a.2) (put2 H c (smB a.1) (rmB c a.1)) := fun a ha => ha ▸ hQ
  have hm : r.bytes.length + s.length ≤ maxLen := by
    have h1 := hok.1
    simp only [RM.put, List.length_append] at h1
    unfold maxLen; omega
  refine pc_enter Tryz.func34 rfl [] [] (by kernel_rfl) (fun hB => ?_)
  by_cases he : r.err = 0
  rotate_left
  · have hq := fin (r, 126) (by unfold feedM; rw [if_pos (.inl he)])
    have he' : (r.err != 0) = true := by simpa using he
    simp [Tryz.ntmps34, Tryz.results34, List.replicate_succ, p2a hc, p2b hc, smB, rmB, he']
    exact aPost_put2K hc hB (.int .i64 126) rfl (smB_bnd r _) (rmB_bnd r hcl) (by simp) hq
  cases hn : r.ended
  case true =>
    have hq := fin (r, 126) (by unfold feedM; rw [if_pos (.inr hn)])
    simp [Tryz.ntmps34, Tryz.results34, List.replicate_succ, p2a hc, p2b hc, smB, rmB, he, hn]
    exact aPost_put2K hc hB (.int .i64 126) rfl (by simp) (rmB_bnd r hcl) (by simp) (by have := hq; simp only [smB, he, hn] at this; exact this)
  have hne : ¬ (r.err ≠ 0 ∨ r.ended = true) := by rw [he, hn]; simp
  cases ho : r.over
  case true =>
    have hq := fin (r, 0) (by unfold feedM; rw [if_neg hne, if_pos ho])
    simp [Tryz.ntmps34, Tryz.results34, List.replicate_succ, p2a hc, p2b hc, smB, rmB, he, hn, ho]
    exact aPost_put2K hc hB (.int .i64 0) rfl (by simp) (rmB_bnd r hcl) (by simp) (by have := hq; simp only [smB, he, hn, ho] at this; exact this)
  have hq := fin (readA (r.put s), (readA (r.put s)).err) (by unfold feedM; rw [if_neg hne, if_neg (by rw [ho]; simp)])
  simp [Tryz.ntmps34, Tryz.results34, List.replicate_succ, p2a hc, p2b hc, p2sa hc, p2sb hc, smB, rmB, he, hn, ho, hm]
  have e : put2 H c [.str (r.bytes ++ s), .int .i64 0, .bool false, .bool false] [.ptr (some (c, 0)), .int .i64 r.most, .sl true 1 (strs r.asked), .sl true 9 (repsA r.done)] = put2 H c (smB (r.put s)) (rmB c (r.put s)) := by simp [smB, rmB, RM.put, he, hn, ho]
  rw [e]
  refine rread_pc E H _ c (r.put s) hc hE hok ?_
  simp [p2a hc, p2b hc, smB, rmB]
  exact aPost_put2K hc hB (.int .i64 (readA (r.put s)).err) rfl (smB_bnd (readA (r.put s)) _) (rmB_bnd (readA (r.put s)) hcl) (by simp) hq
theorem rend_pc (hE : SE E) (hok : okM r) (hQ : Q (.int .i64 (endM r).2) (put2 H c (smB (endM r).1) (rmB c (endM r).1))) : PC Tryz.prog E 40 [.ptr (some (c + 1, 0))] (put2 H c (smB r) (rmB c r)) Q := by
  have hcl : c < H.length := by omega
  have fin : ∀ a : RM × Int, endM r = a → Q (.int .i64 a.2) (put2 H c (smB a.1) (rmB c a.1)) := fun a ha => ha ▸ hQ
  refine pc_enter Tryz.func40 rfl [] [] (by kernel_rfl) (fun hB => ?_)
  by_cases he : r.err = 0
  rotate_left
  · have hq := fin (r, 126) (by unfold endM; rw [if_pos (.inl he)])
    have he' : (r.err != 0) = true := by simpa using he
    simp [Tryz.ntmps40, Tryz.results40, List.replicate_succ, p2a hc, p2b hc, smB, rmB, he']
    exact aPost_put2K hc hB (.int .i64 126) rfl (smB_bnd r _) (rmB_bnd r hcl) (by simp) hq
  cases hn : r.ended
  case true =>
    have hq := fin (r, 126) (by unfold endM; rw [if_pos (.inr hn)])
    simp [Tryz.ntmps40, Tryz.results40, List.replicate_succ, p2a hc, p2b hc, smB, rmB, he, hn]
    exact aPost_put2K hc hB (.int .i64 126) rfl (by simp) (rmB_bnd r hcl) (by simp) (by have := hq; simp only [smB, he, hn] at this; exact this)
  have hne : ¬ (r.err ≠ 0 ∨ r.ended = true) := by rw [he, hn]; simp
  have hE2 : endM r = (restM (if r.over = true then { r with ended := true } else readA { r with ended := true }), (restM (if r.over = true then { r with ended := true } else readA { r with ended := true })).err) := by unfold endM; rw [if_neg hne]
  obtain ⟨r1, hr1⟩ : ∃ r1, (if r.over = true then { r with ended := true } else readA { r with ended := true }) = r1 := ⟨_, rfl⟩
  rw [hr1] at hE2
  have hq := fin _ hE2
  cases ho : r.over
  case' true =>
    rw [if_pos ho] at hr1
    have e : put2 H c [.str r.bytes, .int .i64 0, .bool true, .bool true] [.ptr (some (c, 0)), .int .i64 r.most, .sl true 1 (strs r.asked), .sl true 9 (repsA r.done)] = put2 H c (smB r1) (rmB c r1) := by rw [← hr1]; simp [smB, rmB, he, ho]
    simp [Tryz.ntmps40, Tryz.results40, List.replicate_succ, p2a hc, p2b hc, p2sa hc, p2sb hc, smB, rmB, he, hn, ho]
    have hov : r1.over = true := by rw [← hr1]; exact ho
    have her : r1.err = 0 := by rw [← hr1]; exact he
    have hR : restM r1 = r1 := by unfold restM; rw [if_neg (fun h => by rw [hov] at h; cases h.2.1)]
    rw [hR, her] at hq
    rw [e]
    exact aPost_put2K hc hB (.int .i64 0) rfl (smB_bnd r1 _) (rmB_bnd r1 hcl) (by simp) hq
  case' false =>
    rw [if_neg (by rw [ho]; simp)] at hr1
    have e : put2 H c [.str r.bytes, .int .i64 0, .bool false, .bool true] [.ptr (some (c, 0)), .int .i64 r.most, .sl true 1 (strs r.asked), .sl true 9 (repsA r.done)] = put2 H c (smB { r with ended := true }) (rmB c { r with ended := true }) := by simp [smB, rmB, he, ho]
    simp [Tryz.ntmps40, Tryz.results40, List.replicate_succ, p2a hc, p2b hc, p2sa hc, p2sb hc, smB, rmB, he, hn, ho]
    rw [e]
    refine rread_pc E H _ c { r with ended := true } hc hE hok ?_
    rw [hr1]
    by_cases h1 : r1.err = 0
    rotate_left
    · have h1' : (r1.err == 0) = false := by simpa using h1
      have hR : restM r1 = r1 := by unfold restM; rw [if_neg (fun h => h1 h.1)]
      rw [hR] at hq
      simp [p2a hc, p2b hc, smB, rmB, h1']
      exact aPost_put2K hc hB (.int .i64 r1.err) rfl (smB_bnd r1 _) (rmB_bnd r1 hcl) (by simp) hq
    · cases h2 : r1.over
      case true =>
        have hR : restM r1 = r1 := by unfold restM; rw [if_neg (fun h => by rw [h2] at h; cases h.2.1)]
        rw [hR, h1] at hq
        simp [p2a hc, p2b hc, smB, rmB, h1, h2]
        exact aPost_put2K hc hB (.int .i64 0) rfl (by simp) (rmB_bnd r1 hcl) (by simp) (by have := hq; simp only [smB, h1, h2] at this; exact this)
      by_cases h3 : r1.bytes = []
      · have hR : restM r1 = r1 := by unfold restM; rw [if_neg (fun h => h.2.2 h3)]
        rw [hR, h1] at hq
        simp [p2a hc, p2b hc, smB, rmB, h1, h2, h3]
        exact aPost_put2K hc hB (.int .i64 0) rfl (by simp) (rmB_bnd r1 hcl) (by simp) (by have := hq; simp only [smB, h1, h2, h3] at this; exact this)
      · have h3' : (r1.bytes != []) = true := by simpa using h3
        have hR : restM r1 = { r1 with err := 124 } := by unfold restM; rw [if_pos ⟨h1, h2, h3⟩]
        rw [hR] at hq
        simp [p2a hc, p2b hc, p2sa hc, p2sb hc, smB, rmB, h1, h2, h3']
        exact aPost_put2K hc hB (.int .i64 124) rfl (by simp) (rmB_bnd { r1 with err := 124 } hcl) (by simp) (by have := hq; simp only [smB, h2] at this; exact this)
theorem rnext_pc (hok : okM r) (hQ : Q (.tup [.agg (nextM r).2.1.avs, .bool (nextM r).2.2]) (put2 H c (smB (nextM r).1) (rmB c (nextM r).1))) : PC Tryz.prog E 35 [.ptr (some (c + 1, 0))] (put2 H c (smB r) (rmB c r)) Q := by
  have hcl : c < H.length := by omega
  have fin : ∀ a : RM × Rep × Bool, nextM r = a → Q (.tup [.agg a.2.1.avs, .bool a.2.2]) (put2 H c (smB a.1) (rmB c a.1)) := fun a ha => ha ▸ hQ
  refine PC.nilT ?_
  refine pc_enter Tryz.func35 rfl [26] [(4, [0, 0, 0, 0, 0, 3]), (5, [0, 0, 0, 1])] (by kernel_rfl) (fun hB => ?_)
  cases hd : r.done with
  | nil =>
    have hq := fin (r, rep0, false) (by unfold nextM; rw [hd])
    have hs0 : repsA ([] : List Rep) = [] := rfl
    simp [Tryz.ntmps35, Tryz.results35, List.replicate_succ, p2a hc, p2b hc, p2aJ hc, p2bJ hc, smB, rmB, hd, hs0]
    exact aPost_put2 hc hB (v0 := .tup [.agg rzero, .bool false]) (by simp [rzero]) (nilV_refl _) (by simp) (by simp [hcl]) (by simp [rzero]) ⟨_, _, _, rfl, rzero_nil, avs_free _, by have := hq; simp only [smB, rmB, hd, hs0] at this; exact this⟩
  | cons y d =>
    have hq := fin ({ r with done := d }, y, true) (by unfold nextM; rw [hd])
    obtain ⟨hf1, hf2⟩ := hok.2.2.2 y (by rw [hd]; simp)
    have hrs : repsA (y :: d) = y.avs :: repsA d := rfl
    have hlat : lat (y.avs :: repsA d) 0 = some y.avs := rfl
    have hdr : (y.avs :: repsA d).drop 1 = repsA d := rfl
    have hl0 : (((d.length : Int) + 1) == 0) = false := by rw [beq_eq_false_iff_ne]; omega
    simp [Tryz.ntmps35, Tryz.results35, List.replicate_succ, p2a hc, p2b hc, p2aJ hc, p2bJ hc, p2saJ hc, p2sbJ hc, smB, rmB, hd, hrs, hlat, hl0, hdr, Rep.avs]
    refine clone_pc E _ _ false y.fields hf1 rfl ?_
    simp
    refine clone_pc E _ _ false y.trailers hf2 rfl ?_
    simp
    exact aPost_put2 hc hB (v0 := .tup [.agg y.avs, .bool true]) (by simp [Rep.avs]) (nilV_refl _) (by simp) (by simp [hcl]) (by simp [Rep.avs]) ⟨_, _, _, rfl, nilL_refl _, avs_free _, by have := hq; simp only [smB, rmB] at this; exact this⟩
end
end Go.Proofs.YtcdkcaocfioigaaGreatDoor

set_option linter.unusedVariables false
set_option linter.unnecessarySimpa false
set_option linter.unusedSimpArgs false
set_option linter.unusedSectionVars false
set_option maxRecDepth 100000
namespace Go.Proofs.YtcdkcaocfioigaaGreatDoor
open Go Go.RowKit Go.Proofs Go.Deep

/-- Two readers that are told alike. -/
structure Alik (a b : RM) : Prop where
  err : a.err = b.err
  over : a.over = b.over
  ended : a.ended = b.ended
  most : a.most = b.most
  asked : a.asked = b.asked
  done : a.done = b.done
  bytes : a.err = 0 → a.bytes = b.bytes
theorem Alik.refl (a : RM) : Alik a a := ⟨rfl, rfl, rfl, rfl, rfl, rfl, fun _ => rfl⟩
theorem Alik.symm {a b : RM} (h : Alik a b) : Alik b a := ⟨h.err.symm, h.over.symm, h.ended.symm, h.most.symm, h.asked.symm, h.done.symm, fun e => (h.bytes (h.err.trans e)).symm⟩
theorem Alik.trans {a b c : RM} (h : Alik a b) (k : Alik b c) : Alik a c :=
  ⟨h.err.trans k.err, h.over.trans k.over, h.ended.trans k.ended, h.most.trans k.most, h.asked.trans k.asked, h.done.trans k.done, fun e => (h.bytes e).trans (k.bytes (h.err.symm.trans e))⟩
theorem Alik.eq {a b : RM} (h : Alik a b) (he : a.err = 0) : a = b := by
  obtain ⟨h1, h2, h3, h4, h5, h6, h7⟩ := h
  cases a; cases b
  simp only at h1 h2 h3 h4 h5 h6 h7 he
  simp only [h1, h2, h3, h4, h5, h6, h7 he]
theorem put_like {r : RM} (u : List UInt8) (h : r.err ≠ 0) : Alik (r.put u) r := ⟨rfl, rfl, rfl, rfl, rfl, rfl, fun e => absurd e h⟩
theorem put_put (r : RM) (u v : List UInt8) : (r.put u).put v = r.put (u ++ v) := by simp [RM.put]
/-- A reader that is fed a piece, and then the rest, if nothing was wrong: as if it were fed at once. -/
theorem feed_cut {r : RM} (he : r.err = 0) (hn : r.ended = false) (u v : List UInt8) :
    ((feedM r u).2 = 0 → (feedM r u).1.err = 0 ∧ (feedM r u).1.ended = false ∧ feedM (feedM r u).1 v = feedM r (u ++ v)) ∧
    ((feedM r u).2 ≠ 0 → Alik (feedM r (u ++ v)).1 (feedM r u).1 ∧ (feedM r (u ++ v)).2 = (feedM r u).2) := by
  have hne : ¬ (r.err ≠ 0 ∨ r.ended = true) := by rw [he, hn]; simp
  cases ho : r.over with
  | true =>
    have e : ∀ w, feedM r w = (r, 0) := fun w => by unfold feedM; rw [if_neg hne, if_pos ho]
    rw [e u, e (u ++ v)]
    exact ⟨fun _ => ⟨he, hn, e v⟩, fun h => absurd rfl h⟩
  | false =>
    have e : ∀ w, feedM r w = (readA (r.put w), (readA (r.put w)).err) := fun w => by unfold feedM; rw [if_neg hne, if_neg (by rw [ho]; simp)]
    have hk : (readA (r.put u)).ended = r.ended := by
      have key : ∀ (n : Nat) (a : RM), (readR n a).ended = a.ended := fun n => by
        induction n with
        | zero => intro a; rfl
        | succ n ih =>
          intro a
          rw [readR]
          split
          · rw [ih]; exact (oneR_keeps a).1
          · exact (oneR_keeps a).1
      exact key _ _
    obtain ⟨c1, c2, c3⟩ := readA_cut v ((r.put u).bytes.length + 1) (r.put u) (by omega) hn he
    rw [put_put] at c1 c2 c3
    rw [e u, e (u ++ v)]
    refine ⟨fun h => ?_, fun h => ?_⟩
    · simp only at h ⊢
      refine ⟨h, by rw [hk]; exact hn, ?_⟩
      have hne2 : ¬ ((readA (r.put u)).err ≠ 0 ∨ (readA (r.put u)).ended = true) := by rw [h, hk, hn]; simp
      cases ho2 : (readA (r.put u)).over with
      | true =>
        have e2 : readA (r.put (u ++ v)) = readA (r.put u) := (c2 h ho2).resolve_right (by show ¬ r.over = true; rw [ho]; simp)
        have e3 : feedM (readA (r.put u)) v = (readA (r.put u), 0) := by unfold feedM; rw [if_neg hne2, if_pos ho2]
        rw [e2, e3, h]
      | false =>
        have e2 := c3 h ho2
        have e3 : feedM (readA (r.put u)) v = (readA ((readA (r.put u)).put v), (readA ((readA (r.put u)).put v)).err) := by unfold feedM; rw [if_neg hne2, if_neg (by rw [ho2]; simp)]
        rw [e2, e3]
    · simp only at h ⊢
      rw [c1 h]
      exact ⟨put_like v h, rfl⟩
/-- Feeding as long as nothing is wrong. f: what the last feeding said. -/
structure CutI (A : RM) (e : Int) (B : RM) (f : Int) (rest : List UInt8) : Prop where
  go : f = 0 → B.err = 0 ∧ B.ended = false ∧ Alik (feedM B rest).1 A ∧ (feedM B rest).2 = e
  stop : f ≠ 0 → Alik B A ∧ f = e
theorem CutI.step {A B : RM} {e f : Int} {rest : List UInt8} (h : CutI A e B f rest) (hf : f = 0) (n : Nat) : CutI A e (feedM B (rest.take n)).1 (feedM B (rest.take n)).2 (rest.drop n) := by
  obtain ⟨h1, h2, h3, h4⟩ := h.go hf
  obtain ⟨c1, c2⟩ := feed_cut h1 h2 (rest.take n) (rest.drop n)
  rw [List.take_append_drop] at c1 c2
  refine ⟨fun hz => ?_, fun hz => ?_⟩
  · obtain ⟨d1, d2, d3⟩ := c1 hz
    exact ⟨d1, d2, by rw [d3]; exact h3, by rw [d3]; exact h4⟩
  · obtain ⟨d1, d2⟩ := c2 hz
    exact ⟨d1.symm.trans h3, by rw [← d2]; exact h4⟩
theorem CutI.skip {A B : RM} {e f : Int} {rest : List UInt8} (h : CutI A e B f rest) (hf : f ≠ 0) (rest' : List UInt8) : CutI A e B f rest' := ⟨fun e => absurd e hf, h.stop⟩
/-- What a reader holds never grows beyond what was fed. -/
def heldM (r : RM) : Nat := r.bytes.length + r.done.length
theorem oneR_held (r : RM) : heldM (oneR r).1 ≤ heldM r := by
  unfold heldM
  by_cases h0 : r.bytes = [] ∨ r.over = true
  · rw [oneR_none h0]; exact Nat.le_refl _
  cases ha : r.asked with
  | nil => rw [oneR_ask h0 ha]; exact Nat.le_refl _
  | cons m ms =>
    have hb : 0 < r.bytes.length := by
      rcases Nat.eq_zero_or_pos r.bytes.length with h | h
      · exact absurd (.inl (List.length_eq_zero_iff.1 h)) h0
      · exact h
    obtain ⟨p, hp⟩ : ∃ p, parseM m r.bytes r.most r.ended = p := ⟨_, rfl⟩
    rw [oneR_cons h0 ha hp]
    by_cases g1 : p.2.2 = 124
    · rw [if_pos g1]; exact Nat.le_refl _
    rw [if_neg g1]
    by_cases g2 : p.2.2 = 0
    · rw [if_neg (by simpa using g2)]
      obtain ⟨n, hn, h17, hl⟩ := parseM_rng (by rw [hp]; exact g2 : (parseM m r.bytes r.most r.ended).2.2 = 0)
      rw [hp] at hn
      split
      · simp only [List.length_drop, List.length_append, List.length_cons, List.length_nil]; omega
      · split
        · simp only [List.length_nil, List.length_append, List.length_cons]; omega
        · simp only [List.length_drop, List.length_append, List.length_cons, List.length_nil]; omega
    · rw [if_pos g2]; exact Nat.le_refl _
theorem readR_held : ∀ (n : Nat) (r : RM), heldM (readR n r) ≤ heldM r
  | 0, r => Nat.le_refl _
  | n + 1, r => by
    rw [readR]
    split
    · exact Nat.le_trans (readR_held n _) (oneR_held r)
    · exact oneR_held r
theorem feedM_held (r : RM) (s : List UInt8) : heldM (feedM r s).1 ≤ heldM r + s.length := by
  unfold feedM
  split
  · simp only; omega
  · split
    · simp only; omega
    · have := readR_held ((r.put s).bytes.length + 1) (r.put s)
      show heldM (readA (r.put s)) ≤ _
      unfold readA
      have e : heldM (r.put s) = heldM r + s.length := by unfold heldM; simp [RM.put]; omega
      omega
theorem endM_held (r : RM) : heldM (endM r).1 ≤ heldM r := by
  unfold endM
  split
  · exact Nat.le_refl _
  · simp only
    have hr : ∀ a, heldM (restM a) = heldM a := fun a => by unfold restM; split <;> rfl
    rw [hr]
    split
    · exact Nat.le_refl _
    · exact readR_held _ _
theorem feedM_ok {r : RM} {s : List UInt8} (h : okM (r.put s)) : okM (feedM r s).1 := by
  obtain ⟨h1, h2, h3, h4⟩ := id h
  have hr : okM r := ⟨by simp only [RM.put, List.length_append] at h1; omega, h2, h3, h4⟩
  unfold feedM
  split
  · exact hr
  · split
    · exact hr
    · exact readA_ok h
theorem endM_ok {r : RM} (h : okM r) : okM (endM r).1 := by
  have hr : ∀ a, okM a → okM (restM a) := fun a ha => by unfold restM; split <;> exact ha
  unfold endM
  split
  · exact h
  · refine hr _ ?_
    split
    · exact h
    · exact readA_ok h
end Go.Proofs.YtcdkcaocfioigaaGreatDoor

set_option linter.unusedVariables false
set_option linter.unnecessarySimpa false
set_option linter.unusedSimpArgs false
set_option linter.unusedSectionVars false
set_option maxRecDepth 100000
namespace Go.Proofs.YtcdkcaocfioigaaGreatDoor
open Go Go.RowKit Go.Proofs Go.Deep

/-! ### Two readers behind a box -/
section
variable {H : Hp} {S x y z w : List AV} {J : Hp}
theorem p5a (a b : List AV) : put2 (H ++ (S :: x :: y :: z :: w :: J)) (H.length + 1) a b = H ++ (S :: a :: b :: z :: w :: J) := by
  unfold put2
  rw [List.set_append_right _ _ (by omega), List.set_append_right _ _ (by omega), show H.length + 1 - H.length = 1 by omega, show H.length + 1 + 1 - H.length = 2 by omega]
  rfl
theorem p5b (a b : List AV) : put2 (H ++ (S :: x :: y :: z :: w :: J)) (H.length + 3) a b = H ++ (S :: x :: y :: a :: b :: J) := by
  unfold put2
  rw [List.set_append_right _ _ (by omega), List.set_append_right _ _ (by omega), show H.length + 3 - H.length = 3 by omega, show H.length + 3 + 1 - H.length = 4 by omega]
  rfl
theorem PC.at5a {P : Program} {E : Env} {f : FuncId} {args : List AV} {Q : AV → Hp → Prop} (h : PC P E f args (put2 (H ++ (S :: x :: y :: z :: w :: J)) (H.length + 1) x y) Q) : PC P E f args (H ++ (S :: x :: y :: z :: w :: J)) Q := by
  rw [p5a] at h; exact h
theorem PC.at5b {P : Program} {E : Env} {f : FuncId} {args : List AV} {Q : AV → Hp → Prop} (h : PC P E f args (put2 (H ++ (S :: x :: y :: z :: w :: J)) (H.length + 3) z w) Q) : PC P E f args (H ++ (S :: x :: y :: z :: w :: J)) Q := by
  rw [p5b] at h; exact h
end
theorem kind12_pc (E : Env) (H : Hp) (Q : AV → Hp → Prop) (k n : Int) (hn : 1 ≤ n) (hn2 : n ≤ 2305843009213693952) (hk1 : -9223372036854775808 ≤ k) (hk2 : k ≤ 9223372036854775807) (hQ : Q (.int .i64 (k % n)) H) : PC Tryz.prog E 39 [.int .i64 k, .int .i64 n] H Q := by
  refine pc_enter Tryz.func39 rfl [] [] (by kernel_rfl) (fun hB => ?_)
  have hz : ¬ n = 0 := by omega
  have b1 := Int.lt_tmod_of_pos k (by omega : (0 : Int) < n)
  have b2 := Int.tmod_lt_of_pos k (by omega : (0 : Int) < n)
  have p : (k.tmod n + n).tmod n = k % n := by
    rw [Int.tmod_eq_emod_of_nonneg (by omega), Int.add_emod_right, Int.tmod_def, Int.sub_mul_emod_self_left]
  have w1 : IntKind.i64.wrap (k.tmod n) = k.tmod n := wrap_in (by omega) (by omega)
  have w2 : IntKind.i64.wrap (k.tmod n + n) = k.tmod n + n := wrap_in (by omega) (by omega)
  have b3 := Int.emod_lt_of_pos k (by omega : (0 : Int) < n)
  have b4 := Int.emod_nonneg k hz
  have w3 : IntKind.i64.wrap (k % n) = k % n := wrap_in (by omega) (by omega)
  simp [Tryz.ntmps39, Tryz.results39, List.replicate_succ, hz, w1, w2, p, w3]
  exact aPost_same0 hB rfl (nilV_refl _) (by simp) hQ
theorem okM_put {r : RM} (h : okM r) (s : List UInt8) (hl : r.bytes.length + r.done.length + s.length ≤ 100000000) : okM (r.put s) := by
  obtain ⟨h1, h2, h3, h4⟩ := h
  exact ⟨by simp only [RM.put, List.length_append]; omega, h2, h3, h4⟩
theorem okM_done {r : RM} (h : okM r) (d : List Rep) (hd : ∀ y ∈ d, y ∈ r.done) (hl : d.length ≤ r.done.length) : okM { r with done := d } := by
  obtain ⟨h1, h2, h3, h4⟩ := h
  exact ⟨by simp only; omega, h2, h3, fun x hx => h4 x (hd x hx)⟩
/-- A stream that is handed in. -/
structure StrA where
  m : List UInt8
  t : List UInt8
  most : Int
  ended : Bool
def StrA.avs (s : StrA) : List AV := [.str s.m, .str s.t, .int .i64 s.most, .bool s.ended]
section
variable (E : Env) (H : Hp) (Q : AV → Hp → Prop)
def askM (most : Int) (l : List (List UInt8)) : RM := { newM most with asked := l }
def mctI1 (s : StrA) (ms : List (List UInt8)) (cs : List Int) (H : Hp) (fr : List AV) (H' : Hp) : Prop := ∃ (l : List (List UInt8)) (i : Nat), l.length ≤ 64 ∧ i ≤ ms.length ∧
  H' = H ++ (s.avs :: smB (askM s.most l) :: rmB (H.length + 1) (askM s.most l) :: smB (askM s.most l) :: rmB (H.length + 3) (askM s.most l) :: []) ∧
  ∃ x : Nat → AV, fr = [x 0, .sl false 1 (strs ms), .sl false 1 (ints cs), .ptr (some (H.length, 0)), x 4, x 5, x 6, .ptr (some (H.length + 2, 0)), .int .i64 0, .ptr (some (H.length + 4, 0)), .int .i64 0, x 11, x 12, x 13, x 14, x 15, x 16, x 17, x 18, x 19, x 20, x 21, x 22, x 23, x 24, x 25, x 26, x 27, x 28, x 29, x 30, x 31, x 32, x 33, x 34, x 35, x 36, x 37, x 38, x 39, x 40, x 41, x 42, x 43, x 44, x 45, x 46, x 47, x 48, x 49, x 50, x 51, .sl false 1 (strs ms), .int .i64 ms.length, .int .i64 i, x 55, x 56, x 57, x 58, x 59, x 60, x 61, x 62, x 63, x 64, x 65, x 66, x 67, x 68, x 69, x 70, x 71, x 72, x 73, x 74, x 75, x 76, x 77, x 78, x 79, x 80, x 81, x 82, x 83, x 84, x 85, x 86, x 87, x 88, x 89, x 90, x 91, x 92, x 93, x 94, x 95, x 96, x 97, x 98, x 99, x 100, x 101, x 102, x 103, x 104, x 105, x 106, x 107, x 108, x 109, x 110, x 111, x 112, x 113, x 114, x 115, x 116, x 117, x 118, x 119, x 120, x 121, x 122, x 123, x 124, x 125, x 126, x 127, x 128, x 129, x 130, x 131, x 132, x 133, x 134, x 135, x 136, x 137, x 138, x 139, x 140, x 141, x 142, x 143, x 144, x 145, x 146, x 147, x 148, x 149, x 150, x 151, x 152, x 153, x 154, x 155, x 156, x 157, x 158, x 159, x 160, x 161, x 162, x 163, x 164, x 165, x 166, x 167, x 168, x 169, x 170, x 171, x 172, x 173, x 174, x 175, x 176, x 177, x 178, x 179, x 180, x 181, x 182, x 183, x 184, x 185, x 186, x 187]
def mctI2 (s : StrA) (cs : List Int) (A : RM) (e : Int) (H : Hp) (fr : List AV) (H' : Hp) : Prop := ∃ (B : RM) (f : Int) (rest : List UInt8) (i : Nat), i ≤ cs.length ∧ CutI A e B f rest ∧ okM (B.put rest) ∧
  H' = H ++ (s.avs :: smB A :: rmB (H.length + 1) A :: smB B :: rmB (H.length + 3) B :: []) ∧
  ∃ x : Nat → AV, fr = [x 0, x 1, x 2, .ptr (some (H.length, 0)), x 4, x 5, x 6, .ptr (some (H.length + 2, 0)), .int .i64 e, .ptr (some (H.length + 4, 0)), .int .i64 f, x 11, x 12, .str rest, x 14, x 15, x 16, x 17, x 18, x 19, x 20, x 21, x 22, x 23, x 24, x 25, x 26, x 27, x 28, x 29, x 30, x 31, x 32, x 33, x 34, x 35, x 36, x 37, x 38, x 39, x 40, x 41, x 42, x 43, x 44, x 45, x 46, x 47, x 48, x 49, x 50, x 51, x 52, x 53, x 54, x 55, x 56, x 57, x 58, x 59, x 60, x 61, x 62, x 63, x 64, x 65, x 66, x 67, x 68, x 69, x 70, x 71, .sl false 1 (ints cs), .int .i64 cs.length, .int .i64 i, x 75, x 76, x 77, x 78, x 79, x 80, x 81, x 82, x 83, x 84, x 85, x 86, x 87, x 88, x 89, x 90, x 91, x 92, x 93, x 94, x 95, x 96, x 97, x 98, x 99, x 100, x 101, x 102, x 103, x 104, x 105, x 106, x 107, x 108, x 109, x 110, x 111, x 112, x 113, x 114, x 115, x 116, x 117, x 118, x 119, x 120, x 121, x 122, x 123, x 124, x 125, x 126, x 127, x 128, x 129, x 130, x 131, x 132, x 133, x 134, x 135, x 136, x 137, x 138, x 139, x 140, x 141, x 142, x 143, x 144, x 145, x 146, x 147, x 148, x 149, x 150, x 151, x 152, x 153, x 154, x 155, x 156, x 157, x 158, x 159, x 160, x 161, x 162, x 163, x 164, x 165, x 166, x 167, x 168, x 169, x 170, x 171, x 172, x 173, x 174, x 175, x 176, x 177, x 178, x 179, x 180, x 181, x 182, x 183, x 184, x 185, x 186, x 187]
def mctI3 (s : StrA) (H : Hp) (fr : List AV) (H' : Hp) : Prop := ∃ (A B : RM) (i : Nat) (J : Hp), Alik B A ∧ okM A ∧ okM B ∧ A.done.length + i ≤ s.t.length ∧
  H' = H ++ (s.avs :: smB A :: rmB (H.length + 1) A :: smB B :: rmB (H.length + 3) B :: J) ∧
  ∃ x : Nat → AV, fr = [x 0, x 1, x 2, .ptr (some (H.length, 0)), x 4, x 5, x 6, .ptr (some (H.length + 2, 0)), x 8, .ptr (some (H.length + 4, 0)), x 10, x 11, x 12, x 13, x 14, x 15, x 16, x 17, x 18, x 19, x 20, x 21, x 22, x 23, x 24, x 25, x 26, x 27, x 28, x 29, x 30, x 31, x 32, x 33, x 34, x 35, x 36, x 37, x 38, x 39, x 40, x 41, x 42, x 43, x 44, x 45, x 46, x 47, x 48, x 49, x 50, x 51, x 52, x 53, x 54, x 55, x 56, x 57, x 58, x 59, x 60, x 61, x 62, x 63, x 64, x 65, x 66, x 67, x 68, x 69, x 70, x 71, x 72, x 73, x 74, x 75, x 76, x 77, x 78, x 79, x 80, x 81, x 82, x 83, x 84, x 85, x 86, x 87, x 88, x 89, x 90, x 91, x 92, x 93, x 94, x 95, x 96, x 97, x 98, x 99, x 100, x 101, x 102, x 103, x 104, x 105, x 106, x 107, x 108, x 109, x 110, x 111, x 112, x 113, x 114, x 115, x 116, x 117, x 118, x 119, x 120, x 121, x 122, x 123, x 124, x 125, x 126, x 127, x 128, x 129, x 130, x 131, x 132, x 133, x 134, x 135, x 136, x 137, x 138, x 139, .int .i64 ((s.t.length + 1 : Nat) : Int), .int .i64 i, x 142, x 143, x 144, x 145, x 146, x 147, x 148, x 149, x 150, x 151, x 152, x 153, x 154, x 155, x 156, x 157, x 158, x 159, x 160, x 161, x 162, x 163, x 164, x 165, x 166, x 167, x 168, x 169, x 170, x 171, x 172, x 173, x 174, x 175, x 176, x 177, x 178, x 179, x 180, x 181, x 182, x 183, x 184, x 185, x 186, x 187]
set_option maxHeartbeats 4000000 in
theorem mcuts_pc (hE : SM E) (s : StrA) (ms : List (List UInt8)) (cs : List Int) (ht : s.t.length ≤ 1048576) (hm : -9223372036854775808 ≤ s.most ∧ s.most ≤ 9223372036854775807) (hl : ms.length ≤ 1048576) (hcl : cs.length ≤ 1048576)
    (hok : ∀ z ∈ cs, -9223372036854775808 ≤ z ∧ z ≤ 9223372036854775807) (hQ : Q (.bool true) H) : PC Tryz.prog E 11 [.agg s.avs, .sl false 1 (strs ms), .sl false 1 (ints cs)] H Q := by
  refine pc_enter Tryz.func11 rfl [] [(35, [0, 0, 0, 0, 0, 0, 0, 0, 0, 0, 0, 0, 0, 0, 0, 0, 0, 0, 0, 0, 0, 0, 0, 0, 0, 0, 0, 0, 1])] (by kernel_rfl) (fun hB => ?_)
  simp [Tryz.ntmps11, Tryz.results11, List.replicate_succ, StrA.avs]
  refine awake12_pc E _ _ hE ?_
  by_cases h0 : s.most < 0
  · simp [h0]
    exact aPost_same hB rfl (nilV_refl _) (by simp) hQ
  simp [h0]
  refine rnew_pc E _ _ s.most (fun _ => ?_) (fun h => absurd h h0)
  simp
  refine rnew_pc E _ _ s.most (fun _ => ?_) (fun h => absurd h h0)
  simp
  refine VL_go (mctI1 s ms cs H) (fun fr _ => ms.length - (ai (aget fr 54)).toNat) ⟨[], 0, by simp, by omega, by simp [StrA.avs]; exact ⟨rfl, rfl, rfl, rfl⟩, fr_intro (by simp)⟩ ?_
  rintro fr H' ⟨l, i, hll, hi, rfl, x, rfl⟩
  by_cases hil : i < ms.length
  · obtain ⟨u, hu⟩ : ∃ u, ms[i]? = some u := ⟨_, List.getElem?_eq_getElem hil⟩
    have hat := strs_at hu
    have hw : IntKind.i64.wrap ((i : Int) + 1) = i + 1 := wrap_in (by omega) (by omega)
    have hoka : okM (askM s.most l) := ⟨by simp [askM, newM], hll, ⟨by show 0 ≤ s.most; omega, hm.2⟩, by simp [askM, newM]⟩
    simp [hil, hat]
    refine PC.at5a ?_
    refine rask_pc E _ _ (H.length + 1) (askM s.most l) (by simp) hoka u (fun h64 => ?_) (fun h64 => ?_)
    · rw [p5a]
      simp
      refine PC.at5b ?_
      refine rask_pc E _ _ (H.length + 3) (askM s.most l) (by simp) hoka u (fun _ => ?_) (fun h => absurd h (by omega))
      rw [p5b]
      simp [hw]
      exact Kloop_normal ⟨l, i + 1, hll, by omega, rfl, fr_intro (by simp)⟩ (by simp; omega)
    · rw [p5a]
      simp
      refine PC.at5b ?_
      refine rask_pc E _ _ (H.length + 3) (askM s.most l) (by simp) hoka u (fun h => absurd h (by omega)) (fun _ => ?_)
      rw [p5b]
      simp [hw]
      exact Kloop_normal ⟨l ++ [u], i + 1, by simp; simp [askM] at h64; omega, by omega, rfl, fr_intro (by simp)⟩ (by simp; omega)
  · have hokL : okM ((askM s.most l).put s.t) := ⟨by simp [askM, newM, RM.put]; omega, hll, ⟨by show 0 ≤ s.most; omega, hm.2⟩, by simp [askM, newM, RM.put]⟩
    simp [hil, StrA.avs]
    refine PC.at5a ?_
    refine rfeed_pc E _ _ (H.length + 1) (askM s.most l) (by simp) hE.1.1 s.t hokL ?_
    rw [p5a]
    obtain ⟨⟨A, e⟩, hA⟩ : ∃ p, feedM (askM s.most l) s.t = p := ⟨_, rfl⟩
    have hokA := feedM_ok hokL
    have hheld := feedM_held (askM s.most l) s.t
    have hAe : e = A.err := by
      unfold feedM at hA
      rw [if_neg (by simp [askM, newM]), if_neg (by simp [askM, newM])] at hA
      cases hA; rfl
    rw [hA] at hokA hheld ⊢
    have hheld0 : heldM (askM s.most l) = 0 := rfl
    rw [hheld0] at hheld
    simp only at hokA hheld ⊢
    simp
    refine VL_go (mctI2 s cs A e H) (fun fr _ => cs.length - (ai (aget fr 74)).toNat) ⟨askM s.most l, 0, s.t, 0, by omega, ⟨fun _ => ⟨rfl, rfl, by rw [hA]; exact Alik.refl _, by rw [hA]⟩, fun h => absurd rfl h⟩, hokL, by simp [StrA.avs], fr_intro (by simp)⟩ ?_
    rintro fr H' ⟨B, f, rest, i, hi, hI, hokB, rfl, x, rfl⟩
    have hrl : B.bytes.length + B.done.length + rest.length ≤ 100000000 := by
      have := hokB.1
      simp only [RM.put, List.length_append] at this
      omega
    by_cases hil2 : i < cs.length
    · obtain ⟨z, hz⟩ : ∃ z, cs[i]? = some z := ⟨_, List.getElem?_eq_getElem hil2⟩
      have hat := ints_at hz
      have hzr := hok z (List.mem_of_getElem? hz)
      have hw : IntKind.i64.wrap ((i : Int) + 1) = i + 1 := wrap_in (by omega) (by omega)
      have hw1 : IntKind.i64.wrap ((rest.length : Int) + 1) = rest.length + 1 := wrap_in (by omega) (by omega)
      obtain ⟨n, hn⟩ : ∃ n : Nat, z % ((rest.length : Int) + 1) = n := ⟨(z % ((rest.length : Int) + 1)).toNat, by have := Int.emod_nonneg z (show ((rest.length : Int) + 1) ≠ 0 by omega); omega⟩
      have hnl : n ≤ rest.length := by have := Int.emod_lt_of_pos z (show (0 : Int) < (rest.length : Int) + 1 by omega); omega
      have htl : List.take (rest.length - n) (rest.drop n) = rest.drop n := List.take_of_length_le (by rw [List.length_drop]; omega)
      simp [hil2, hat, hw1]
      refine kind12_pc E _ _ z ((rest.length : Int) + 1) (by omega) (by omega) hzr.1 hzr.2 ?_
      rw [hn]
      by_cases hf : f = 0
      · have hB1 : okM B := ⟨by omega, hokB.2.1, hokB.2.2.1, hokB.2.2.2⟩
        have hokT : okM (B.put (rest.take n)) := okM_put hB1 _ (by rw [List.length_take]; omega)
        have hst := hI.step hf n
        have hh := feedM_held B (rest.take n)
        have hokF := feedM_ok hokT
        subst hf
        simp [hnl]
        refine PC.at5b ?_
        refine rfeed_pc E _ _ (H.length + 3) B (by simp) hE.1.1 (rest.take n) hokT ?_
        rw [p5b]
        generalize feedM B (rest.take n) = p at *
        obtain ⟨B1, f1⟩ := p
        simp only at hst hh hokF ⊢
        unfold heldM at hh
        rw [List.length_take] at hh
        simp [hnl, htl, hw]
        exact Kloop_normal ⟨B1, f1, rest.drop n, i + 1, by omega, hst, okM_put hokF _ (by rw [List.length_drop]; omega), rfl, fr_intro (by simp)⟩ (by simp; omega)
      · have hf' : (f == 0) = false := by simpa using hf
        have hB1 : okM B := ⟨by omega, hokB.2.1, hokB.2.2.1, hokB.2.2.2⟩
        simp [hf', hnl, htl, hw]
        exact Kloop_normal ⟨B, f, rest.drop n, i + 1, by omega, hI.skip hf _, okM_put hB1 _ (by rw [List.length_drop]; omega), rfl, fr_intro (by simp)⟩ (by simp; omega)
    · have hB1 : okM B := ⟨by omega, hokB.2.1, hokB.2.2.1, hokB.2.2.2⟩
      by_cases hf : f = 0
      case' pos =>
        obtain ⟨g1, g2, g3, g4⟩ := hI.go hf
        have hokF := feedM_ok hokB
        subst hf
        simp [hil2]
        refine PC.at5b ?_
        refine rfeed_pc E _ _ (H.length + 3) B (by simp) hE.1.1 rest hokB ?_
        rw [p5b, g4]
        generalize (feedM B rest).1 = B2 at *
        simp [StrA.avs]
      case' neg =>
        obtain ⟨g3, g4⟩ := hI.stop hf
        have hokF := hB1
        have hf' : (f == 0) = false := by simpa using hf
        simp [hil2, hf', StrA.avs]
        rw [g4]
        generalize B = B2 at *
      all_goals
        have hadl : A.done.length ≤ s.t.length := by unfold heldM at hheld; omega
        have hwt : IntKind.i64.wrap ((s.t.length : Int) + 1) = s.t.length + 1 := wrap_in (by omega) (by omega)
        have hcase : (s.ended = true ∧ e = 0) ∨ (s.ended = false ∨ e ≠ 0) := by
          by_cases h1 : s.ended = true
          · by_cases h2 : e = 0
            · exact .inl ⟨h1, h2⟩
            · exact .inr (.inr h2)
          · exact .inr (.inl (by simpa using h1))
        rcases hcase with ⟨h1, h2⟩ | hcase
        case' inl =>
          have heq : B2 = A := g3.eq (by rw [g3.err, ← hAe]; exact h2)
          subst heq
          simp [h1, h2]
          refine PC.at5a ?_
          refine rend_pc E _ _ (H.length + 1) B2 (by simp) hE.1.1 hokA ?_
          rw [p5a]
          simp
          refine PC.at5b ?_
          refine rend_pc E _ _ (H.length + 3) B2 (by simp) hE.1.1 hokA ?_
          rw [p5b]
          have hokE := endM_ok hokA
          have hheldE := endM_held B2
          have hdl2 : (endM B2).1.done.length ≤ s.t.length := by unfold heldM at hheld hheldE; omega
          simp
          refine PC.at5a ?_
          refine rerr_pc E _ _ (H.length + 1) _ (by simp) ?_
          rw [p5a]
          simp
          refine PC.at5b ?_
          refine rerr_pc E _ _ (H.length + 3) _ (by simp) ?_
          rw [p5b]
          simp
          refine PC.at5a ?_
          refine rover_pc E _ _ (H.length + 1) _ (by simp) ?_
          rw [p5a]
          simp
          refine PC.at5b ?_
          refine rover_pc E _ _ (H.length + 3) _ (by simp) ?_
          rw [p5b]
          simp
          refine PC.at5a ?_
          refine rasked_pc E _ _ (H.length + 1) _ (by simp) ?_
          rw [p5a]
          simp
          refine PC.at5b ?_
          refine rasked_pc E _ _ (H.length + 3) _ (by simp) ?_
          rw [p5b]
          simp [hwt]
          refine VL_go (mctI3 s H) (fun fr _ => s.t.length + 1 - (ai (aget fr 141)).toNat) ⟨_, _, 0, [], Alik.refl _, hokE, hokE, hdl2, by simp [StrA.avs, h1], fr_intro (by simp)⟩ ?_
        case' inr =>
          have hcond : ∀ K : Prop, K → K := fun _ h => h
          rcases Bool.eq_false_or_eq_true s.ended with hse | hse
          case' inl =>
            have he0 : e ≠ 0 := hcase.resolve_left (by rw [hse]; simp)
            have he0' : (e == 0) = false := by simpa using he0
            simp [hse, he0']
          case' inr =>
            simp [hse]
          all_goals
            refine PC.at5a ?_
            refine rerr_pc E _ _ (H.length + 1) _ (by simp) ?_
            rw [p5a]
            simp
            refine PC.at5b ?_
            refine rerr_pc E _ _ (H.length + 3) _ (by simp) ?_
            rw [p5b]
            simp [g3.err]
            refine PC.at5a ?_
            refine rover_pc E _ _ (H.length + 1) _ (by simp) ?_
            rw [p5a]
            simp
            refine PC.at5b ?_
            refine rover_pc E _ _ (H.length + 3) _ (by simp) ?_
            rw [p5b]
            simp [g3.over, g3.ended]
            refine PC.at5a ?_
            refine rasked_pc E _ _ (H.length + 1) _ (by simp) ?_
            rw [p5a]
            simp
            refine PC.at5b ?_
            refine rasked_pc E _ _ (H.length + 3) _ (by simp) ?_
            rw [p5b]
            simp [g3.asked, hwt]
            refine VL_go (mctI3 s H) (fun fr _ => s.t.length + 1 - (ai (aget fr 141)).toNat) ⟨A, B2, 0, [], g3, hokA, hokF, hadl, by simp [StrA.avs, hse], fr_intro (by simp)⟩ ?_
        all_goals
          rintro fr H' ⟨A, B, i, J, hAB, hokA, hokB, hdi, rfl, x, rfl⟩
          have hlt : (i : Int) < s.t.length + 1 := by omega
          have hw : IntKind.i64.wrap ((i : Int) + 1) = i + 1 := wrap_in (by omega) (by omega)
          simp [hlt]
          refine PC.at5a ?_
          refine rnext_pc E _ _ (H.length + 1) A (by simp; omega) hokA ?_
          rw [p5a]
          simp [Rep.avs]
          refine PC.at5b ?_
          refine rnext_pc E _ _ (H.length + 3) B (by simp; omega) hokB ?_
          rw [p5b]
          have hdn := hAB.done
          cases hd : A.done with
          | nil =>
            have e1 : nextM A = (A, rep0, false) := by unfold nextM; rw [hd]
            have e2 : nextM B = (B, rep0, false) := by unfold nextM; rw [hdn, hd]
            rw [e1, e2]
            simp [Rep.avs]
            refine plain12_pc E _ _ rep0.fields (by decide) ?_
            simp
            refine same12_pc E _ _ rep0.fields (by decide) ?_
            simp
            exact aPost_same hB rfl (nilV_refl _) (by simp) hQ
          | cons y d =>
            have e1 : nextM A = ({ A with done := d }, y, true) := by unfold nextM; rw [hd]
            have e2 : nextM B = ({ B with done := d }, y, true) := by unfold nextM; rw [hdn, hd]
            have hyf := (hokA.2.2.2 y (by rw [hd]; simp)).1
            rw [hd] at hdi
            simp only [List.length_cons] at hdi
            rw [e1, e2]
            simp [Rep.avs]
            refine plain12_pc E _ _ y.fields hyf ?_
            simp
            refine same12_pc E _ _ y.fields hyf ?_
            simp [hw]
            refine Kloop_normal ⟨{ A with done := d }, { B with done := d }, i + 1, _, ⟨hAB.err, hAB.over, hAB.ended, hAB.most, hAB.asked, rfl, hAB.bytes⟩, okM_done hokA d (fun z hz => by rw [hd]; simp [hz]) (by rw [hd]; simp), okM_done hokB d (fun z hz => by rw [hdn, hd]; simp [hz]) (by rw [hdn, hd]; simp), by simp only; omega, rfl, fr_intro (by simp)⟩ (by simp; omega)
end
end Go.Proofs.YtcdkcaocfioigaaGreatDoor

set_option linter.unusedVariables false
set_option linter.unnecessarySimpa false
set_option linter.unusedSimpArgs false
set_option linter.unusedSectionVars false
set_option maxRecDepth 100000
namespace Go.Proofs.YtcdkcaocfioigaaGreatDoor
open Go Go.RowKit Go.Proofs Go.Deep
theorem strs_of_rows {rows : List (List AV)} (hk : ∀ r ∈ rows, r.length = 1 ∧ ∀ (j : Nat) k y, ([.str] : List CK)[j]? = some k → r[j]? = some y → KindOf k y) : ∃ l : List (List UInt8), rows = strs l := by
  induction rows with
  | nil => exact ⟨[], rfl⟩
  | cons r rows ih =>
    obtain ⟨l, rfl⟩ := ih (fun q hq => hk q (List.mem_cons_of_mem _ hq))
    obtain ⟨h1, h2⟩ := hk r (List.mem_cons_self ..)
    match r, h1 with
    | [a0], _ =>
      obtain ⟨z, rfl⟩ := kind_str (h2 0 _ _ rfl rfl)
      exact ⟨z :: l, rfl⟩
theorem rel_stream {W : World} {cs : Array Value} {ks : List AV} (op : Opened W [.str, .str, .int .i64, .bool] cs.toList ks) : ∃ s : StrA, ks = s.avs ∧ (-9223372036854775808 ≤ s.most ∧ s.most ≤ 9223372036854775807) ∧ s.m.length + s.t.length ≤ wtA ks ∧
    Rel W (fun _ => 0) (old W) (.agg s.avs) (.agg cs) ∧ Bnd 0 (.agg s.avs) ∧ (AV.agg s.avs).free = true := by
  match ks, op.len with
  | [y0, y1, y2, y3], _ =>
    obtain ⟨z0, rfl⟩ := kind_str (op.kind 0 _ _ rfl rfl)
    obtain ⟨z1, rfl⟩ := kind_str (op.kind 1 _ _ rfl rfl)
    obtain ⟨z2, rfl, w2⟩ := kind_i64 (op.kind 2 _ _ rfl rfl)
    obtain ⟨z3, rfl⟩ := kind_bool (op.kind 3 _ _ rfl rfl)
    refine ⟨⟨z0, z1, z2, z3⟩, rfl, w2, by simp [wtA]; try omega, .agg _ _ (by have := op.clen; simpa [StrA.avs] using this) (fun x hx => ?_) (fun j x u hx hu => ?_), .agg _ (fun x hx => ?_), rfl⟩
    · simp [StrA.avs] at hx
      rcases hx with rfl | rfl | rfl | rfl <;> exact ⟨rfl, rfl⟩
    · exact (op.rel j x u hx (by simpa using hu)).2.2.1
    · simp [StrA.avs] at hx
      rcases hx with rfl | rfl | rfl | rfl
      · exact .str _
      · exact .str _
      · exact .int _ _
      · exact .bool _
theorem mcuts_true (W : World) (cs : Array Value) (ks : List AV) (op : Opened W [.str, .str, .int .i64, .bool] cs.toList ks) (hw : wtA ks + 1 ≤ 1048576)
    (bo : Option Addr) (len cap : Nat) (rows : List (List AV)) (hr : Rel W (fun _ => 0) (old W) (.sl false 1 rows) (.slice bo len cap)) (hn : Bnd 0 (.sl false 1 rows))
    (hk : ∀ r ∈ rows, r.length = 1 ∧ ∀ (j : Nat) k y, ([.str] : List CK)[j]? = some k → r[j]? = some y → KindOf k y) (e : rows.length = len) (hb : wtA rows.flatten + len ≤ 1048576)
    (bo2 : Option Addr) (len2 cap2 : Nat) (rows2 : List (List AV)) (hr2 : Rel W (fun _ => 0) (old W) (.sl false 1 rows2) (.slice bo2 len2 cap2)) (hn2 : Bnd 0 (.sl false 1 rows2))
    (hk2 : ∀ r ∈ rows2, r.length = 1 ∧ ∀ (j : Nat) k y, ([.int .i64] : List CK)[j]? = some k → r[j]? = some y → KindOf k y) (e2 : rows2.length = len2) (hb2 : wtA rows2.flatten + len2 ≤ 1048576) (hT : Tabs W) :
    Calls Tryz.prog 11 #[.agg cs, .slice bo len cap, .slice bo2 len2 cap2] W fun e w' => e = .returned (.bool true) ∧ Frm (fun _ => False) W w' := by
  obtain ⟨s, rfl, hm, hsl, hrl⟩ := rel_stream op
  obtain ⟨ms, rfl⟩ := strs_of_rows hk
  obtain ⟨zs, rfl, hz⟩ := kind_int1 hk2
  refine calls_sm (args := [.agg s.avs, .sl false 1 (strs ms), .sl false 1 (ints zs)]) hT rfl (fun t x u hx hu => ?_) (fun E Q hE h => mcuts_pc E [] Q hE s ms zs (by omega) hm (by simp at e; omega) (by simp at e2; omega) hz h)
  match t with
  | 0 => simp at hx hu; subst hx; subst hu; exact hrl
  | 1 => simp at hx hu; subst hx; subst hu; exact ⟨hr, hn, rfl⟩
  | 2 => simp at hx hu; subst hx; subst hu; exact ⟨hr2, hn2, rfl⟩
  | t + 3 => simp at hx
end Go.Proofs.YtcdkcaocfioigaaGreatDoor

set_option linter.unusedVariables false
set_option linter.unusedSimpArgs false
namespace Go.Proofs.YtcdkcaocfioigaaGreatDoor
open Go Go.ChangeShapes Go.WideShapes Go.ChangeAt Go.RowKit Go.Deep

theorem signsNamed : Tryz.prog.globalNamed "turnpike/octet.signs" = some 1 := by kernel_rfl
theorem signsType : (Tryz.prog.globals[1]?).map (·.type) = some 244 := by kernel_rfl
theorem signs_of_row {W : World} {rest : List (String × DataW Unit)} (h : laidMet Tryz.prog (("turnpike/octet.signs", Rows.laid_turnpike_octet_signs) :: rest) W) : Signs W := by
  have ht : Lib.TabIs Tryz.prog W "turnpike/octet.signs" .u32 signTab := Lib.tabIs_of_head (rest := rest) signsNamed signsType Tryz.underlying244 Tryz.underlying220 (by kernel_rfl) (by kernel_rfl) h
  intro j z hz
  have hj := (List.getElem?_eq_some_iff.1 hz).1
  have := ht.cell signsNamed j hj
  rw [List.getD, hz] at this
  exact this
end Go.Proofs.YtcdkcaocfioigaaGreatDoor

set_option linter.unusedVariables false
set_option linter.unusedSimpArgs false
namespace Go.Proofs.YtcdkcaocfioigaaGreatDoor
open Go Go.ChangeShapes Go.WideShapes Go.ChangeAt Go.RowKit Go.Deep

theorem dbNamed : Tryz.prog.globalNamed "math/bits.deBruijn64tab" = some 3 := by kernel_rfl
theorem dbType : (Tryz.prog.globals[3]?).map (·.type) = some 256 := by kernel_rfl
def dbTab : List Int := [0, 1, 56, 2, 57, 49, 28, 3, 61, 58, 42, 50, 38, 29, 17, 4, 62, 47, 59, 36, 45, 43, 51, 22, 53, 39, 33, 30, 24, 18, 12, 5, 63, 55, 48, 27, 60, 41, 37, 16, 46, 35, 44, 21, 52, 32, 23, 11, 54, 26, 40, 15, 34, 20, 31, 10, 25, 14, 19, 9, 13, 8, 7, 6]
theorem tz_of_row {W : World} {rest : List (String × DataW Unit)} (h : laidMet Tryz.prog (("math/bits.deBruijn64tab", Rows.laid_math_bits_deBruijn64tab) :: rest) W) : Tz W := by
  have ht : Lib.TabIs Tryz.prog W "math/bits.deBruijn64tab" .u8 dbTab := Lib.tabIs_of_head (rest := rest) dbNamed dbType Tryz.underlying256 Tryz.underlying5 (by kernel_rfl) (by kernel_rfl) h
  exact ht.cell dbNamed 15 (by decide)
end Go.Proofs.YtcdkcaocfioigaaGreatDoor

