/- Part 10 of the texts below the law: the abstract machine, the functions that it walks, what they compute. -/
import Derived.Test.YtcdkcaocfioigaaGreatDoorPf9
set_option linter.unusedVariables false
set_option linter.unnecessarySimpa false
set_option linter.unusedSimpArgs false
set_option linter.unusedSectionVars false
set_option maxRecDepth 100000
namespace Go.Proofs.YtcdkcaocfioigaaGreatDoor
open Go Go.RowKit Go.Proofs

theorem FB.fcells {K : Hp} {N i : Nat} (g : Fld) (l : List Fld) (n : Nat) (hi : N ≤ i) (hK : K[i]? = some (fcells (g :: l) n)) (hn : l.length + 1 + n ≤ maxLen) : FB K N (.bx i 0 (l.length + 1) (l.length + 1 + n) 2) (g :: l) :=
  .inr ⟨i, l.length + 1 + n, _, hi, by simp, hK, by rw [fcells_length]; simp, by simp, hn, by
    unfold Go.Proofs.YtcdkcaocfioigaaGreatDoor.fcells
    rw [List.take_left' (flds_flat_len _)], fcells_str _ _⟩
section
variable (E : Env) (H : Hp) (Q : AV → Hp → Prop)
theorem trailersB_pc (i : Nat) (d : Dec) (hd : H[i]? = some d.av) (hl : d.trailers.length ≤ 1073741823) (hQ : ∀ t J, FB (H ++ J) H.length t d.trailers → Q t (H ++ J)) : PC Tryz.prog E 88 [.ptr (some (i, 0))] H Q := by
  refine PC.bnd ?_
  cases ht : d.trailers with
  | nil =>
    rw [ht] at hQ
    refine pc_enter Tryz.func88 rfl [] [] (by kernel_rfl) (fun hB => ?_)
    simp [Dec.av, ht] at hd
    simp [Tryz.ntmps88, Tryz.results88, List.replicate_succ, hd]
    refine clone0x_pc E _ _ ?_ ?_
    · have hq := hQ .nil [] .nil
      rw [List.append_nil] at hq
      simp
      exact aPost_same0 hB (v0 := .nil) rfl (nilV_refl _) (by simp) (fun _ _ => hq)
    · have hq := hQ (.bx H.length 0 0 0 2) [[]] (.inr ⟨H.length, 0, [], Nat.le_refl _, rfl, by simp, rfl, Nat.le_refl _, Nat.zero_le _, rfl, by simp⟩)
      simp
      exact aPost_up (v := .bx H.length 0 0 0 2) rfl (by simp) (bndH_app2 (bndH_up hB (by simp)) (by simp)) (.bx _ _ _ _ _ (by simp)) (fun _ _ => hq)
  | cons g l =>
    rw [ht] at hQ hl
    refine trailers_bx E _ _ i d hd g l ht (by simp at hl; omega) (fun n hn hb hv => ?_)
    exact hQ _ [[], fcells (g :: l) n] (.fcells g l n (by omega) (by rw [List.getElem?_append_right (by omega)]; simp) hn)
theorem decodeB_pc (hE : SE E) (s : List UInt8) (m r f : Int) (hs : s.length ≤ 1000000000) (h1 : 0 ≤ m ∧ m ≤ 9223372036854775807) (h2 : 0 ≤ r ∧ r ≤ 9223372036854775807) (h3 : 0 ≤ f ∧ f ≤ 9223372036854775807) (db : List UInt8) (dt : List Fld) (dk : Int)
    (hd : decodeD s m r f = (db, dt, dk, 0))
    (hQ : ∀ t K, H.length ≤ K.length → (∀ j, j < H.length → K[j]? = H[j]?) → FB K H.length t dt → Q (.tup [.str db, t, .int .i64 dk, .int .i64 0]) K) :
    PC Tryz.prog E 57 [.str s, .int .i64 m, .int .i64 r, .int .i64 f] H Q := by
  refine pc_enter Tryz.func57 rfl [] [] (by kernel_rfl) (fun hB => ?_)
  simp [Tryz.ntmps57, Tryz.results57, List.replicate_succ]
  refine cnew_pc E _ _ m r f (fun g1 g2 g3 => ?_) (fun hneg => by omega)
  have hnew := newD_ok m r f h1 h2 h3
  have hat : (H ++ [(newD m r f).av])[H.length]? = some (newD m r f).av := by simp
  have hle := feedD_le s (newD m r f)
  obtain ⟨hok, htot⟩ := feedD_ok s (newD m r f) hnew
  simp
  refine feed_pc E _ _ H.length _ hat hE s hnew (by simp [newD]; exact hs) (fun _ _ => ?_) (fun h => absurd h (by simp [newD]))
  obtain ⟨⟨d, k⟩, hf⟩ : ∃ p, feedD (newD m r f) s = p := ⟨_, rfl⟩
  unfold decodeD at hd
  rw [hf] at hle hok htot hd ⊢
  simp only at hle hok htot hd
  rw [if_neg (by omega)] at hd
  by_cases he : d.err = 0
  rotate_left
  · rw [if_pos he] at hd
    injection hd with _ hd; injection hd with _ hd; injection hd with _ hd
    exact absurd hd he
  rw [if_neg (by simpa using he)] at hd
  cases hdn : d.done with
  | false =>
    rw [if_pos hdn] at hd
    injection hd with _ hd; injection hd with _ hd; injection hd with _ hd
    cases hd
  | true =>
    rw [if_neg (by rw [hdn]; simp)] at hd
    injection hd with e1 hd; injection hd with e2 hd; injection hd with e3 hd
    subst e1; subst e2; subst e3
    have ht0 : (newD m r f).total = 0 := rfl
    rw [ht0] at htot
    obtain ⟨a1, a2, a3, a4, a5, a6, a7, a8⟩ := hok
    have hse : (H ++ [(newD m r f).av]).set H.length d.av = H ++ [d.av] := by simp
    rw [hse]
    have hat2 : (H ++ [d.av])[H.length]? = some d.av := by simp
    simp [he]
    refine done_pc E _ _ H.length d hat2 ?_
    rw [hdn]
    simp
    refine body_pc E _ _ H.length d hat2 (by omega) ?_
    simp
    refine PC.bnd ?_
    refine trailersB_pc E _ _ H.length d hat2 (by omega) (fun t J hJ hb hbt => ?_)
    obtain ⟨tf, to, td, tb⟩ := hJ.free
    have hq := hQ t ((H ++ [d.av]) ++ J) (by simp) (fun j hj => by rw [List.append_assoc, List.getElem?_append_left hj]) (hJ.of_eq (fun _ _ _ _ _ _ => rfl) (fun i _ _ _ _ e => by have := (hJ.lt _ _ _ _ _ e).1; simp at this; omega))
    simp [td]
    have hK : (H ++ [d.av]) ++ J = H ++ d.av :: J := by simp
    rw [hK] at hq hb hbt
    refine aPost_up (v := .tup [.str d.body, t, .int .i64 k, .int .i64 0]) (by simp [td]) (by simp) hb (.tup _ (fun x hx => ?_)) hq
    simp at hx
    rcases hx with rfl | rfl | rfl | rfl
    · exact .str _
    · exact hbt
    · exact .int _ _
    · exact .int _ _
theorem rcellsV_bnd {st : Int} {re : List UInt8} {v : AV} {bo : List UInt8} {mi : Int} {t : AV} {ki le : Int} {pe : Bool} {N : Nat} (hv : Bnd N v) (ht : Bnd N t) : ∀ x ∈ rcellsV st re v bo mi t ki le pe, Bnd N x := by simp [rcellsV, hv, ht]
set_option maxHeartbeats 1000000 in
theorem parseHead_bx (hE : SE E) (s : List UInt8) (hl : s.length ≤ 1000000000) (r : Rep) (n : Nat) (hM : headM s = (r, (n : Int), 0))
    (hQ : ∀ (v : AV) (K : Hp), H.length ≤ K.length → (∀ j, j < H.length → K[j]? = H[j]?) → FB K H.length v r.fields → Q (.tup [.agg (rcellsV r.status r.reason v [] r.minor .nil r.kind r.length r.persist), .int .i64 n, .int .i64 0]) K) : PC Tryz.prog E 56 [.str s] H Q := by
  refine pc_enterF (fun i => i = H.length + 2) Tryz.func56 rfl [] [(5, [0, 0, 2, 0, 2, 2])] (by kernel_rfl) (fun E' hS' h0' hF' hB => ?_)
  have hE' : SE E' := ⟨by rw [hF']; exact hE.1, by rw [h0']; exact hE.2⟩
  have hM2 := headM_eq s
  rw [hM] at hM2
  by_cases hs : 65536 < s.length
  · have hs' : (65536 : Int) < s.length := by omega
    have hle : 65536 ≤ s.length := by omega
    rw [if_pos hs] at hM2
    simp [Tryz.ntmps56, Tryz.results56, List.replicate_succ, hs', hle]
    have hO : headO (s.take 65536) = some (r, (n : Int), 0) := by
      cases hh : headO (s.take 65536) with
      | none => rw [hh] at hM2; simp at hM2
      | some y => rw [hh] at hM2; exact congrArg some hM2.symm
    refine PC.bnd ?_
    refine rhead_bx E' _ _ hE' (s.take 65536) (by rw [List.length_take]; omega) r n hO (fun v K h1 h2 hv hK hb => ?_)
    have k0 : K[H.length]? = some rzero := by rw [h2 _ (by simp)]; simp [rzero]
    have hc0 := at_lt k0
    have e0 := k0
    simp only [rzero] at e0
    obtain ⟨vf, vo, vd, vb⟩ := hv.free
    simp only [List.length_append, List.length_cons, List.length_nil] at h1
    simp [rcellsV, hs', vd, vf, vo, setL hc0, getL hc0, getS hc0, e0, hS']
    have hv' : FB (K.set H.length (rcellsV r.status r.reason v [] r.minor .nil r.kind r.length r.persist)) H.length v r.fields := hv.of_eq (fun j _ _ _ _ e => by have := (hv.lt _ _ _ _ _ e).1; simp at this; exact getN (by omega) _) (fun j _ _ _ _ e => by have := (hv.lt _ _ _ _ _ e).1; simp at this; omega)
    have hq := hQ v ((K.set H.length (rcellsV r.status r.reason v [] r.minor .nil r.kind r.length r.persist)) ++ [rcellsV r.status r.reason v [] r.minor .nil r.kind r.length r.persist, [.int .i64 0, .int .i64 0]]) (by simp; omega) (fun j hj => by rw [List.getElem?_append_left (by simp; omega), getN (by omega), h2 j (by simp; omega), List.getElem?_append_left hj]) (hv'.app _)
    simp only [rcellsV] at hq
    refine aPost_up (v := .tup [.agg (rcellsV r.status r.reason v [] r.minor .nil r.kind r.length r.persist), .int .i64 n, .int .i64 0]) (by simp [getL hc0, getS hc0, rcellsV, vd, vf, vo]) (by simp; omega) (bndH_app2 (bndH_put (bndH_up hK (by simp)) _ (by simp [vb.mono (Nat.le_add_right _ _)])) (by simp [vb.mono (Nat.le_add_right _ _)])) ?_ hq
    simp [rcellsV]
    exact vb.mono (by omega)
  · have hs' : ¬ (65536 : Int) < s.length := by omega
    rw [if_neg hs, List.take_of_length_le (by omega)] at hM2
    have htk : List.take s.length s = s := List.take_of_length_le (Nat.le_refl _)
    simp [Tryz.ntmps56, Tryz.results56, List.replicate_succ, hs', htk]
    have hO : headO s = some (r, (n : Int), 0) := by
      cases hh : headO s with
      | none => rw [hh] at hM2; simp at hM2
      | some y => rw [hh] at hM2; exact congrArg some hM2.symm
    refine PC.bnd ?_
    refine rhead_bx E' _ _ hE' s (by omega) r n hO (fun v K h1 h2 hv hK hb => ?_)
    have k0 : K[H.length]? = some rzero := by rw [h2 _ (by simp)]; simp [rzero]
    have hc0 := at_lt k0
    have e0 := k0
    simp only [rzero] at e0
    obtain ⟨vf, vo, vd, vb⟩ := hv.free
    simp only [List.length_append, List.length_cons, List.length_nil] at h1
    simp [rcellsV, hs', vd, vf, vo, setL hc0, getL hc0, getS hc0, e0, hS']
    have hv' : FB (K.set H.length (rcellsV r.status r.reason v [] r.minor .nil r.kind r.length r.persist)) H.length v r.fields := hv.of_eq (fun j _ _ _ _ e => by have := (hv.lt _ _ _ _ _ e).1; simp at this; exact getN (by omega) _) (fun j _ _ _ _ e => by have := (hv.lt _ _ _ _ _ e).1; simp at this; omega)
    have hq := hQ v ((K.set H.length (rcellsV r.status r.reason v [] r.minor .nil r.kind r.length r.persist)) ++ [rcellsV r.status r.reason v [] r.minor .nil r.kind r.length r.persist, [.int .i64 0, .int .i64 0]]) (by simp; omega) (fun j hj => by rw [List.getElem?_append_left (by simp; omega), getN (by omega), h2 j (by simp; omega), List.getElem?_append_left hj]) (hv'.app _)
    simp only [rcellsV] at hq
    refine aPost_up (v := .tup [.agg (rcellsV r.status r.reason v [] r.minor .nil r.kind r.length r.persist), .int .i64 n, .int .i64 0]) (by simp [getL hc0, getS hc0, rcellsV, vd, vf, vo]) (by simp; omega) (bndH_app2 (bndH_put (bndH_up hK (by simp)) _ (by simp [vb.mono (Nat.le_add_right _ _)])) (by simp [vb.mono (Nat.le_add_right _ _)])) ?_ hq
    simp [rcellsV]
    exact vb.mono (by omega)
theorem FB.put {K : Hp} {N : Nat} {v : AV} {l : List Fld} (h : FB K (N + 1) v l) (row : List AV) : FB (K.set N row) N v l :=
  h.of_eq (fun i _ _ _ _ e => getN (by have := (h.lt _ _ _ _ _ e).1; omega) _) (fun i _ _ _ _ e => by have := (h.lt _ _ _ _ _ e).1; omega)
/-- Two slices of boxes that are not one. -/
def apartB (v t : AV) : Prop := ∀ i o n c k i' o' n' c' k', v = .bx i o n c k → t = .bx i' o' n' c' k' → i ≠ i'
theorem headM_clean (s : List UInt8) : (headM s).1.body = [] ∧ (headM s).1.trailers = [] := by
  rw [headM_eq]
  cases hx : headO (s.take 65536) with
  | none => simp only [Option.getD_none]; split <;> simp [rep0]
  | some x =>
    simp only [Option.getD_some]
    unfold headO at hx
    cases hs : stR (s.take 65536) with
    | part => rw [hs] at hx; cases hx
    | bad i => rw [hs] at hx; cases hx; simp [rep0]
    | ok a =>
      rw [hs] at hx
      simp only at hx
      cases hf : fieldsR (s.take 65536) (decide (dg (s.take 65536) 7 = 0)) ((s.take 65536).length + 1) a [] with
      | part => rw [hf] at hx; cases hx
      | bad n e => rw [hf] at hx; cases hx; simp [rep0]
      | ok fs e => rw [hf] at hx; cases hx; simp
/-- The end of Parse: the reply's cells are read into the result's box. -/
theorem parse_end {K : Hp} (hlen : H.length + 2 ≤ K.length) (hkeep : ∀ j, j < H.length → K[j]? = H[j]?) {v t : AV} {fs ts : List Fld} (hv : FB K (H.length + 1) v fs) (ht : FB K (H.length + 1) t ts) (hK : BndH K.length K) {p : Nat} (hp1 : H.length < p) (hpv : ∀ i o n c k, v = .bx i o n c k → i ≠ p) (hpt : ∀ i o n c k, t = .bx i o n c k → i ≠ p)
    (row : List AV) (hrow : ∀ x ∈ row, Bnd K.length x) :
    H.length ≤ ((K.set p row).set H.length row).length ∧ (∀ j, j < H.length → ((K.set p row).set H.length row)[j]? = H[j]?) ∧ FB ((K.set p row).set H.length row) H.length v fs ∧ FB ((K.set p row).set H.length row) H.length t ts ∧ BndH ((K.set p row).set H.length row).length ((K.set p row).set H.length row) ∧ ((K.set p row).set H.length row)[H.length]? = some row := by
  have key : ∀ (u : AV) (l : List Fld), FB K (H.length + 1) u l → (∀ i o n c k, u = .bx i o n c k → i ≠ p) → FB ((K.set p row).set H.length row) H.length u l := fun u l hu hup =>
    hu.of_eq (fun i _ _ _ _ e => by rw [getN (by have := (hu.lt _ _ _ _ _ e).1; omega), getN (Ne.symm (hup _ _ _ _ _ e))]) (fun i _ _ _ _ e => by have := (hu.lt _ _ _ _ _ e).1; omega)
  refine ⟨by simp; omega, fun j hj => by rw [getN (by omega), getN (by omega)]; exact hkeep j hj, key v fs hv hpv, key t ts ht hpt, ?_, List.getElem?_set_self (by simp; omega)⟩
  simp only [List.length_set]
  exact bndH_put (bndH_put hK _ hrow) _ hrow
set_option maxHeartbeats 2000000 in
theorem parse_bx (hE : SE E) (m s : List UInt8) (most : Int) (ended : Bool) (hl : s.length ≤ 1000000000) (hm : -9223372036854775808 ≤ most ∧ most ≤ 9223372036854775807) (R : Rep) (k : Int) (hP : parseM m s most ended = (R, k, 0))
    (hQ : ∀ (v t : AV) (K : Hp), H.length ≤ K.length → (∀ j, j < H.length → K[j]? = H[j]?) → FB K H.length v R.fields → FB K H.length t R.trailers → apartB v t → Q (.tup [.agg (rcellsV R.status R.reason v R.body R.minor t R.kind R.length R.persist), .int .i64 k, .int .i64 0]) K) : PC Tryz.prog E 23 [.str m, .str s, .int .i64 most, .bool ended] H Q := by
  refine pc_enterF (fun i => H.length + 1 ≤ i) Tryz.func23 rfl [] [(27, [2, 0, 0, 0, 2, 0, 2])] (by kernel_rfl) (fun E' hS' h0' hF' hB => ?_)
  have hE' : SE E' := ⟨by rw [hF']; exact hE.1, by rw [h0']; exact hE.2⟩
  by_cases h0 : most < 0
  · rw [parseM_neg m s ended h0] at hP
    injection hP with _ hP; injection hP with _ hP; cases hP
  by_cases h1 : (headM s).2.2 = 0
  rotate_left
  · rw [parseM_bad ended h0 h1] at hP
    injection hP with _ hP; injection hP with _ hP; exact absurd hP h1
  obtain ⟨n, hn, h17, hnl, hn2⟩ := headM_rng h1
  obtain ⟨hcb, hct⟩ := headM_clean s
  have hlen := headM_len s
  obtain ⟨r, hr⟩ : ∃ r, (headM s).1 = r := ⟨_, rfl⟩
  have hM : headM s = (r, (n : Int), 0) := by
    rw [← hr, ← hn, ← h1]
  simp [Tryz.ntmps23, Tryz.results23, List.replicate_succ, h0]
  refine PC.bnd ?_
  refine parseHead_bx E' _ _ hE' s hl r n hM (fun v K g1 g2 hv hK hb => ?_)
  have k0 : K[H.length]? = some rzero := by rw [g2 _ (by simp)]; simp [rzero]
  have hc0 := at_lt k0
  have e0 := k0
  simp only [rzero] at e0
  simp only [List.length_append, List.length_cons, List.length_nil] at g1 hv
  have hkeep : ∀ j, j < H.length → K[j]? = H[j]? := fun j hj => by rw [g2 j (by simp; omega), List.getElem?_append_left hj]
  obtain ⟨vf, vo, vd, vb⟩ := hv.free
  have hvlt := hv.lt
  simp [rcellsV, vd, vf, vo]
  refine bodyless_pc E' _ _ m _ ?_
  rw [hr] at hcb hct hlen
  have hf0 : FB K (H.length + 1) .nil ([] : List Fld) := .nil
  cases h2 : bodylessB m r.status with
  | true =>
    rw [parseM_none ended h0 h1 (by rw [hr]; exact h2), hM] at hP
    injection hP with e1 hP; injection hP with e2 _
    subst e1; subst e2
    simp [setL hc0, getL hc0, e0, vd, vf, vo]
    rw [hcb, hct] at hQ
    have hq := hQ v .nil (K.set H.length (rcellsV r.status r.reason v [] r.minor .nil r.kind r.length r.persist) ++ [(rcellsV r.status r.reason v [] r.minor .nil r.kind r.length r.persist)]) (by simp; omega) (fun j hj => by rw [List.getElem?_append_left (by simp; omega), getN (by omega)]; exact hkeep j hj) ((hv.put _).app _) .nil (fun _ _ _ _ _ _ _ _ _ _ _ e => by cases e)
    simp only [rcellsV] at hq
    refine aPost_up (v := .tup [.agg (rcellsV r.status r.reason v [] r.minor .nil r.kind r.length r.persist), .int .i64 n, .int .i64 0]) (by simp [getL hc0, getS hc0, rcellsV, vd, vf, vo]) (by simp; omega) (bndH_app2 (bndH_put (bndH_up hK (by simp)) _ (by simp [vb.mono (Nat.le_add_right _ _)])) (by simp [vb.mono (Nat.le_add_right _ _)])) ?_ hq
    simp [rcellsV]
    exact vb.mono (by omega)
  | false =>
    rw [parseM_body ended h0 h1 (by rw [hr]; exact h2) hn, hr] at hP
    have hrl : (s.drop n).length = s.length - n := List.length_drop
    have htl : List.take (s.length - n) (s.drop n) = s.drop n := List.take_of_length_le (by omega)
    simp [hnl, htl]
    obtain ⟨rest, hrest⟩ : ∃ rest, s.drop n = rest := ⟨_, rfl⟩
    rw [hrest] at hP hrl ⊢
    have hE2 : n + rest.length = s.length := by omega
    unfold bodyM at hP
    by_cases k2 : r.kind = 2
    · rw [if_pos k2] at hP
      obtain ⟨⟨db, dt, dk, de⟩, hd⟩ : ∃ d, decodeD rest most 65536 100 = d := ⟨_, rfl⟩
      have hat := decodeD_at rest most 65536 100
      rw [hd] at hP hat
      simp only at hP hat
      by_cases d0 : de = 0
      rotate_left
      · rw [if_neg d0] at hP
        injection hP with _ hP; injection hP with _ hP
        split at hP
        · cases hP
        · split at hP
          · cases hP
          · exact absurd hP d0
      rw [if_pos d0] at hP
      injection hP with e1 hP; injection hP with e2 _
      subst e1; subst e2; subst d0
      have hw : IntKind.i64.wrap ((n : Int) + dk) = n + dk := wrap_in (by omega) (by omega)
      simp [k2]
      refine PC.bnd ?_
      refine decodeB_pc E' _ _ hE' rest most 65536 100 (by omega) (by omega) (by omega) (by omega) db dt dk hd (fun t K2 q1 q2 ht hK2 hb2 => ?_)
      simp only [List.length_append, List.length_cons, List.length_nil] at q1 ht
      have hp : K2[K.length]? = some (rcellsV r.status r.reason v [] r.minor .nil r.kind r.length r.persist) := by rw [q2 _ (by simp)]; simp [rcellsV, k2]
      have hp1 := at_lt hp
      have hk2 : K2[H.length]? = some rzero := by rw [q2 _ (by simp; omega), List.getElem?_append_left hc0]; exact k0
      have hc2 := at_lt hk2
      have ep := hp
      have e2 := hk2
      simp only [rcellsV, k2] at ep
      simp only [rzero] at e2
      obtain ⟨tf, to, td, tb⟩ := ht.free
      have ne1 : K.length ≠ H.length := by omega
      have ne2 : H.length ≠ K.length := by omega
      have hl2 : H.length ≤ K2.length := by omega
      have hkeep2 : ∀ j, j < H.length → K2[j]? = H[j]? := fun j hj => by rw [q2 j (by simp; omega), List.getElem?_append_left (by omega)]; exact hkeep j hj
      have hv2 : FB K2 (H.length + 1) v r.fields := hv.of_eq (fun i _ _ _ _ e => by have := (hvlt _ _ _ _ _ e).2; rw [q2 i (by simp; omega), List.getElem?_append_left this]) (fun i _ _ _ _ e => (hvlt _ _ _ _ _ e).1)
      have ht2 : FB K2 (H.length + 1) t dt := ht.of_eq (fun _ _ _ _ _ _ => rfl) (fun i _ _ _ _ e => by have := (ht.lt _ _ _ _ _ e).1; omega)
      have hvt : apartB v t := fun i _ _ _ _ i' _ _ _ _ e e' => by
        have h3 := (hvlt _ _ _ _ _ e).2
        have h4 := (ht.lt _ _ _ _ _ e').1
        omega
      have vb2 : Bnd K2.length v := vb.mono (by omega)
      obtain ⟨row, hrow⟩ : ∃ row, rcellsV r.status r.reason v db r.minor t r.kind r.length r.persist = row := ⟨_, rfl⟩
      obtain ⟨f1, f2, f3, f4, f5, f6⟩ := parse_end (H := H) (p := K.length) (by omega) hkeep2 hv2 ht2 hK2 (by omega) (fun i _ _ _ _ e => by have := (hvlt _ _ _ _ _ e).2; omega) (fun i _ _ _ _ e => by have := (ht.lt _ _ _ _ _ e).1; omega) row (by rw [← hrow]; exact rcellsV_bnd vb2 tb)
      have hq := hQ v t _ f1 f2 f3 f4 hvt
      rw [← hrow] at f1 f5 f6 hq
      simp only [rcellsV, k2] at f1 f5 f6 hq
      have htc : t = .nil ∨ ∃ i n c, t = .bx i 0 n c 2 := by
        rcases ht with ⟨_, rfl⟩ | ⟨i, c, A, _, rfl, _⟩
        · exact .inl rfl
        · exact .inr ⟨_, _, _, rfl⟩
      rcases htc with rfl | ⟨ti, tn, tc, rfl⟩
      · simp [hw, setL hp1, setL hc2, getL hp1, getL hc2, getS hp1, getS hc2, getN, ne1, ne2, ep, e2, vd, vf, vo]
        refine aPost_up (by simp [f6, vd, vf, vo]) f1 f5 ?_ hq
        simp
        exact vb2
      · simp [hw, setL hp1, setL hc2, getL hp1, getL hc2, getS hp1, getS hc2, getN, ne1, ne2, ep, e2, vd, vf, vo]
        refine aPost_up (by simp [f6, vd, vf, vo]) f1 f5 ?_ hq
        simp
        exact ⟨vb2, by simpa using tb⟩
    · rw [if_neg k2] at hP
      have k2' : (r.kind == 2) = false := by simpa using k2
      by_cases k1 : r.kind = 1
      · rw [if_pos k1] at hP
        by_cases c1 : most < r.length
        · rw [if_pos c1] at hP
          injection hP with _ hP; injection hP with _ hP; cases hP
        rw [if_neg c1] at hP
        by_cases c2 : (rest.length : Int) < r.length
        · rw [if_pos c2] at hP
          injection hP with _ hP; injection hP with _ hP; cases hP
        rw [if_neg c2] at hP
        injection hP with e1 hP; injection hP with e2 _
        subst e1; subst e2
        have c3 : r.length.toNat ≤ rest.length := by omega
        have hw : IntKind.i64.wrap ((n : Int) + r.length) = n + r.length := wrap_in (by omega) (by omega)
        simp [k1, c1, c2, c3, hlen, hw, hS', setL hc0, getL hc0, getS hc0, e0, vd, vf, vo]
        rw [hct] at hQ
        rw [k1] at hQ
        refine ⟨by omega, ?_⟩
        have hq := hQ v .nil (K.set H.length (rcellsV r.status r.reason v (rest.take r.length.toNat) r.minor .nil 1 r.length r.persist) ++ [(rcellsV r.status r.reason v (rest.take r.length.toNat) r.minor .nil 1 r.length r.persist)]) (by simp; omega) (fun j hj => by rw [List.getElem?_append_left (by simp; omega), getN (by omega)]; exact hkeep j hj) ((hv.put _).app _) .nil (fun _ _ _ _ _ _ _ _ _ _ _ e => by cases e)
        simp only [rcellsV] at hq
        refine aPost_up (v := .tup [.agg (rcellsV r.status r.reason v (rest.take r.length.toNat) r.minor .nil 1 r.length r.persist), .int .i64 (n + r.length), .int .i64 0]) (by simp [getL hc0, getS hc0, rcellsV, vd, vf, vo]) (by simp; omega) (bndH_app2 (bndH_put (bndH_up hK (by simp)) _ (by simp [vb.mono (Nat.le_add_right _ _)])) (by simp [vb.mono (Nat.le_add_right _ _)])) ?_ hq
        simp [rcellsV]
        exact vb.mono (by omega)
      · rw [if_neg k1] at hP
        have k1' : (r.kind == 1) = false := by simpa using k1
        by_cases c1 : most < rest.length
        · rw [if_pos c1] at hP
          injection hP with _ hP; injection hP with e2 hP; cases hP
        rw [if_neg c1] at hP
        cases he : ended with
        | false =>
          rw [if_pos he] at hP
          injection hP with _ hP; injection hP with e2 hP; cases hP
        | true =>
          rw [if_neg (by rw [he]; simp)] at hP
          injection hP with e1 hP; injection hP with e2 _
          subst e1; subst e2
          simp [k1', k2', c1, setL hc0, getL hc0, getS hc0, e0, vd, vf, vo]
          rw [hct] at hQ
          have hq := hQ v .nil (K.set H.length (rcellsV r.status r.reason v rest r.minor .nil r.kind r.length false) ++ [(rcellsV r.status r.reason v rest r.minor .nil r.kind r.length false)]) (by simp; omega) (fun j hj => by rw [List.getElem?_append_left (by simp; omega), getN (by omega)]; exact hkeep j hj) ((hv.put _).app _) .nil (fun _ _ _ _ _ _ _ _ _ _ _ e => by cases e)
          simp only [rcellsV] at hq
          refine aPost_up (v := .tup [.agg (rcellsV r.status r.reason v rest r.minor .nil r.kind r.length false), .int .i64 s.length, .int .i64 0]) (by simp [getL hc0, getS hc0, rcellsV, vd, vf, vo]) (by simp; omega) (bndH_app2 (bndH_put (bndH_up hK (by simp)) _ (by simp [vb.mono (Nat.le_add_right _ _)])) (by simp [vb.mono (Nat.le_add_right _ _)])) ?_ hq
          simp [rcellsV]
          exact vb.mono (by omega)
end
end Go.Proofs.YtcdkcaocfioigaaGreatDoor

set_option linter.unusedVariables false
set_option linter.unnecessarySimpa false
set_option linter.unusedSimpArgs false
set_option linter.unusedSectionVars false
set_option maxRecDepth 100000
namespace Go.Proofs.YtcdkcaocfioigaaGreatDoor
open Go Go.RowKit Go.Proofs

/-- A slice of n pairs of texts, nil or a box's, the names of some known. -/
def MB (K : Hp) (G : Nat → Prop) (v : AV) (n : Nat) (nm : Nat → Option (List UInt8)) : Prop := (n = 0 ∧ v = .nil) ∨ ∃ i c A, G i ∧ v = .bx i 0 n c 2 ∧ K[i]? = some A ∧ A.length = c * 2 ∧ n ≤ c ∧ c ≤ maxLen ∧ (∀ y ∈ A, ∃ s, y = .str s) ∧ ∀ j s, j < n → nm j = some s → A[j * 2]? = some (.str s)
theorem FB.mb {K : Hp} {N : Nat} {v : AV} {l : List Fld} (h : FB K N v l) {G : Nat → Prop} (hG : ∀ i o n c k, v = .bx i o n c k → G i) : MB K G v l.length (fun _ => none) := by
  rcases h with ⟨rfl, rfl⟩ | ⟨i, c, A, h1, rfl, h2, h3, h4, h5, h6, h7⟩
  · exact .inl ⟨rfl, rfl⟩
  · exact .inr ⟨i, c, A, hG _ _ _ _ _ rfl, rfl, h2, h3, h4, h5, h7, fun j s _ e => by cases e⟩
section
variable {K : Hp} {G : Nat → Prop} {v t : AV} {n n' : Nat} {nm nm' : Nat → Option (List UInt8)}
theorem MB.lt (h : MB K G v n nm) : ∀ i o n c k, v = .bx i o n c k → G i ∧ i < K.length := fun i o n c k e => by
  rcases h with ⟨_, rfl⟩ | ⟨i', c', A, h1, rfl, h2, _⟩
  · cases e
  · cases e; exact ⟨h1, (List.getElem?_eq_some_iff.1 h2).1⟩
theorem MB.of_eq {K' : Hp} (h : MB K G v n nm) (he : ∀ i o n c k, v = .bx i o n c k → K'[i]? = K[i]?) (hn : ∀ j s, j < n → nm' j = some s → nm j = some s) : MB K' G v n nm' := by
  rcases h with h | ⟨i, c, A, h1, rfl, h2, h3, h4, h5, h6, h7⟩
  · exact .inl h
  · exact .inr ⟨i, c, A, h1, rfl, (he _ _ _ _ _ rfl).trans h2, h3, h4, h5, h6, fun j s hj e => h7 j s hj (hn j s hj e)⟩
theorem MB.facts (h : MB K G v n nm) : v.free = true ∧ v.one = true ∧ v.dis = v ∧ Bnd K.length v := by
  rcases h with ⟨_, rfl⟩ | ⟨i, c, A, h1, rfl, h2, _⟩
  · exact ⟨rfl, rfl, rfl, .nil⟩
  · exact ⟨rfl, rfl, rfl, .bx _ _ _ _ _ (List.getElem?_eq_some_iff.1 h2).1⟩
theorem MB.alen {P : Program} {t : TypeId} (h : MB K G v n nm) (ht : (tsl P t).isSome = true) : Go.Proofs.YtcdkcaocfioigaaGreatDoor.alen P t v = some (.int .i64 n) := by
  rcases h with ⟨rfl, rfl⟩ | ⟨i, c, A, h1, rfl, _⟩ <;> simp [Go.Proofs.YtcdkcaocfioigaaGreatDoor.alen, ht]
theorem put_at {A : List AV} {j : Nat} (hj : j * 2 + 2 ≤ A.length) (x y : AV) (k : Nat) : (A.take (j * 2) ++ x :: y :: A.drop (j * 2 + 2))[k * 2]? = if k = j then some x else A[k * 2]? := by
  have hl : (A.take (j * 2)).length = j * 2 := by simp; omega
  by_cases h1 : k < j
  · rw [List.getElem?_append_left (by omega), List.getElem?_take_of_lt (by omega), if_neg (by omega)]
  · rw [List.getElem?_append_right (by omega), hl]
    by_cases h2 : k = j
    · subst h2; simp
    · rw [if_neg h2, show k * 2 - j * 2 = (k * 2 - j * 2 - 2) + 2 by omega]
      simp only [List.getElem?_cons_succ, List.getElem?_drop]
      congr 1; omega
theorem grow_at {A : List AV} {j : Nat} (hj : j * 2 ≤ A.length) (x y : AV) (l : List AV) (k : Nat) (hk : k ≤ j) : (A.take (j * 2) ++ x :: y :: l)[k * 2]? = if k = j then some x else A[k * 2]? := by
  have hl : (A.take (j * 2)).length = j * 2 := by simp; omega
  by_cases h1 : k < j
  · rw [List.getElem?_append_left (by omega), List.getElem?_take_of_lt (by omega), if_neg (by omega)]
  · rw [List.getElem?_append_right (by omega), hl]
    have h2 : k = j := by omega
    subst h2; simp
theorem cell2_at {A : List AV} {j : Nat} {x y : AV} (h0 : A[j]? = some x) (h1 : A[j + 1]? = some y) : (A.drop j).take 2 = [x, y] := by
  obtain ⟨g0, rfl⟩ := List.getElem?_eq_some_iff.1 h0
  obtain ⟨g1, rfl⟩ := List.getElem?_eq_some_iff.1 h1
  rw [List.drop_eq_getElem_cons g0, List.drop_eq_getElem_cons g1]
  rfl
theorem cell2_at' {A : List AV} {j : Nat} {x y : List UInt8} (h0 : A[j]? = some (.str x)) (h1 : A[j + 1]? = some (.str y)) : ((A.map AV.dis).drop j).take 2 = [.str x, .str y] := by
  rw [← List.map_drop, ← List.map_take, cell2_at h0 h1]; rfl
/-- The state of the law. -/
structure MM (H K : Hp) (a : Nat) (st : List AV) (R : Rep) (v0 t0 : AV) : Prop where
  len : H.length < a
  keep : ∀ j, j < H.length → K[j]? = H[j]?
  k1 : K[H.length]? = some st
  ka : K[a]? = some (rcellsV R.status R.reason v0 R.body R.minor t0 R.kind R.length R.persist)
  kb : K[a + 1]? = some R.avs
  kc : K[a + 2]? = some R.avs
/-- The boxes that may be written. -/
def gd (H : Hp) (a i : Nat) : Prop := H.length < i ∧ i ≠ a ∧ i ≠ a + 1 ∧ i ≠ a + 2
variable {H : Hp} {a : Nat} {st : List AV} {R : Rep} {v0 t0 : AV}
theorem MM.put (h : MM H K a st R v0 t0) {i : Nat} (hi : gd H a i) (A : List AV) : MM H (K.set i A) a st R v0 t0 := by
  obtain ⟨g1, g2, g3, g4⟩ := hi
  exact ⟨h.len, fun j hj => by rw [getN (by omega)]; exact h.keep j hj, by rw [getN (by omega)]; exact h.k1, by rw [getN (by omega)]; exact h.ka, by rw [getN (by omega)]; exact h.kb, by rw [getN (by omega)]; exact h.kc⟩
theorem MM.app (h : MM H K a st R v0 t0) (J : Hp) : MM H (K ++ J) a st R v0 t0 := by
  have hc := at_lt h.kc
  have hl := h.len
  exact ⟨h.len, fun j hj => by rw [List.getElem?_append_left (by omega)]; exact h.keep j hj, by rw [List.getElem?_append_left (by omega)]; exact h.k1, by rw [List.getElem?_append_left (by omega)]; exact h.ka, by rw [List.getElem?_append_left (by omega)]; exact h.kb, by rw [List.getElem?_append_left (by omega)]; exact h.kc⟩
structure GS (H K : Hp) (a : Nat) (st : List AV) (R : Rep) (v0 t0 v t : AV) (n n' : Nat) (nm nm' : Nat → Option (List UInt8)) : Prop where
  mm : MM H K a st R v0 t0
  mv : MB K (gd H a) v n nm
  mt : MB K (gd H a) t n' nm'
  ap : apartB v t
  bd : BndH K.length K
theorem GS.swap (h : GS H K a st R v0 t0 v t n n' nm nm') : GS H K a st R v0 t0 t v n' n nm' nm :=
  ⟨h.mm, h.mt, h.mv, fun i o n c k i' o' n' c' k' e e' => Ne.symm (h.ap _ _ _ _ _ _ _ _ _ _ e' e), h.bd⟩
theorem GS.app (h : GS H K a st R v0 t0 v t n n' nm nm') (J : Hp) (hJ : ∀ l ∈ J, ∀ y ∈ l, ∃ s, y = AV.str s) : GS H (K ++ J) a st R v0 t0 v t n n' nm nm' :=
  ⟨h.mm.app J, h.mv.of_eq (fun i _ _ _ _ e => List.getElem?_append_left (h.mv.lt _ _ _ _ _ e).2) (fun _ _ _ e => e), h.mt.of_eq (fun i _ _ _ _ e => List.getElem?_append_left (h.mt.lt _ _ _ _ _ e).2) (fun _ _ _ e => e), h.ap, bndH_app2 (bndH_up h.bd (by simp)) (fun l hl x hx => by obtain ⟨s, rfl⟩ := hJ l hl x hx; exact .str _)⟩
theorem GS.fresh (h : GS H K a st R v0 t0 v t n n' nm nm') {i : Nat} (hi : K.length ≤ i) : gd H a i ∧ ∀ i' o m c k, t = .bx i' o m c k → i ≠ i' := by
  have hc := at_lt h.mm.kc
  have hl := h.mm.len
  exact ⟨⟨by omega, by omega, by omega, by omega⟩, fun i' o m c k e => by have := (h.mt.lt _ _ _ _ _ e).2; omega⟩
/-- A pair is stored. -/
theorem GS.mark {i c : Nat} {A : List AV} (h : GS H K a st R v0 t0 (.bx i 0 n c 2) t n n' nm nm') (hA : K[i]? = some A) {j : Nat} (hj : j < n) (x y : List UInt8) {nm2 : Nat → Option (List UInt8)} (hn : ∀ k s, k < n → nm2 k = some s → (k = j ∧ s = x) ∨ (k ≠ j ∧ nm k = some s)) :
    GS H (K.set i (A.take (j * 2) ++ .str x :: .str y :: A.drop (j * 2 + 2))) a st R v0 t0 (.bx i 0 n c 2) t n n' nm2 nm' := by
  have hi := h.mv.lt _ _ _ _ _ rfl
  rcases h.mv with ⟨h0, _⟩ | ⟨i', c', A', h1, e, h2, h3, h4, h5, h6, h7⟩
  · omega
  · cases e
    rw [hA] at h2; cases h2
    refine ⟨h.mm.put hi.1 _, ?_, h.mt.of_eq (fun i' _ _ _ _ e => getN (h.ap _ _ _ _ _ _ _ _ _ _ rfl e) _) (fun _ _ _ e => e), h.ap, by rw [List.length_set]; exact bndH_put h.bd _ (strs_bnd (str_put h6 _ _ _ _) _)⟩
    refine .inr ⟨i, c, _, h1, rfl, List.getElem?_set_self hi.2, (len_put _ (by omega) _ _).trans h3, h4, h5, str_put h6 _ _ _ _, fun k s hk e => ?_⟩
    rw [put_at (by omega)]
    rcases hn k s hk e with ⟨rfl, rfl⟩ | ⟨h8, h9⟩
    · rw [if_pos rfl]
    · rw [if_neg h8]; exact h7 k s hk h9
/-- A pair more: a new box. -/
theorem GS.first {c : Nat} (h : GS H K a st R v0 t0 .nil t n n' nm nm') (x y : List UInt8) (hc1 : 1 ≤ c) (hc2 : c ≤ maxLen) (hn : nm 0 = some x) :
    GS H (K ++ [.str x :: .str y :: (List.replicate (c - 1) [AV.str [], AV.str []]).flatten]) a st R v0 t0 (.bx K.length 0 1 c 2) t 1 n' nm nm' := by
  obtain ⟨f1, f2⟩ := h.fresh (Nat.le_refl _)
  obtain ⟨q1, q2, q3⟩ := FB.grown (l := []) (A := []) (c := 0) (c' := c) rfl (by simp) rfl ⟨x, y⟩ (by simp) (by simpa using hc1)
  simp only [List.length_nil, Nat.zero_mul, List.take_nil, List.nil_append, Nat.zero_add] at q1 q2
  have hg := h.app [.str x :: .str y :: (List.replicate (c - 1) [AV.str [], AV.str []]).flatten] (fun l hl => by simp only [List.mem_cons, List.not_mem_nil, or_false] at hl; subst hl; exact q2)
  refine ⟨hg.mm, ?_, hg.mt, fun i _ _ _ _ i' _ _ _ _ e e' => by cases e; exact f2 _ _ _ _ _ e', hg.bd⟩
  refine .inr ⟨K.length, c, _, f1, rfl, by simp, q1, hc1, hc2, q2, fun k s hk e => ?_⟩
  obtain rfl : k = 0 := by omega
  rw [hn] at e; cases e; rfl
theorem GS.room {i c : Nat} {A : List AV} (h : GS H K a st R v0 t0 (.bx i 0 n c 2) t n n' nm nm') (hA : K[i]? = some A) (hr : n + 1 ≤ c) (x y : List UInt8) (hn : nm n = some x) :
    GS H (K.set i (A.take (n * 2) ++ .str x :: .str y :: A.drop (n * 2 + 2))) a st R v0 t0 (.bx i 0 (n + 1) c 2) t (n + 1) n' nm nm' := by
  have hi := h.mv.lt _ _ _ _ _ rfl
  rcases h.mv with ⟨h0, e⟩ | ⟨i', c', A', h1, e, h2, h3, h4, h5, h6, h7⟩
  · cases e
  · cases e
    rw [hA] at h2; cases h2
    refine ⟨h.mm.put hi.1 _, ?_, h.mt.of_eq (fun i' _ _ _ _ e => getN (h.ap _ _ _ _ _ _ _ _ _ _ rfl e) _) (fun _ _ _ e => e), fun _ _ _ _ _ _ _ _ _ _ e e' => by cases e; exact h.ap _ _ _ _ _ _ _ _ _ _ rfl e', by rw [List.length_set]; exact bndH_put h.bd _ (strs_bnd (str_put h6 _ _ _ _) _)⟩
    refine .inr ⟨i, c, _, h1, rfl, List.getElem?_set_self hi.2, (len_put _ (by omega) _ _).trans h3, hr, h5, str_put h6 _ _ _ _, fun k s hk e => ?_⟩
    rw [put_at (by omega)]
    by_cases h8 : k = n
    · subst h8; rw [if_pos rfl]; rw [hn] at e; cases e; rfl
    · rw [if_neg h8]; exact h7 k s (by omega) e
theorem GS.grow {i c c' : Nat} {A : List AV} (h : GS H K a st R v0 t0 (.bx i 0 n c 2) t n n' nm nm') (hA : K[i]? = some A) (hc1 : n + 1 ≤ c') (hc2 : c' ≤ maxLen) (x y : List UInt8) (hn : nm n = some x) :
    GS H (K ++ [A.take (n * 2) ++ .str x :: .str y :: (List.replicate (c' - (n + 1)) [AV.str [], AV.str []]).flatten]) a st R v0 t0 (.bx K.length 0 (n + 1) c' 2) t (n + 1) n' nm nm' := by
  obtain ⟨f1, f2⟩ := h.fresh (Nat.le_refl _)
  rcases h.mv with ⟨h0, e⟩ | ⟨i', c'', A', h1, e, h2, h3, h4, h5, h6, h7⟩
  · cases e
  · cases e
    rw [hA] at h2; cases h2
    have hl : (A.take (n * 2)).length = n * 2 := by simp; omega
    have hs2 : ∀ y' ∈ A.take (n * 2) ++ .str x :: .str y :: (List.replicate (c' - (n + 1)) [AV.str [], AV.str []]).flatten, ∃ s, y' = AV.str s := fun y' hy => by
      rcases List.mem_append.1 hy with h8 | h8
      · exact h6 y' (List.mem_of_mem_take h8)
      · rcases List.mem_cons.1 h8 with rfl | h8
        · exact ⟨_, rfl⟩
        · rcases List.mem_cons.1 h8 with rfl | h8
          · exact ⟨_, rfl⟩
          · obtain ⟨r, hr1, hr2⟩ := List.mem_flatten.1 h8
            rw [(List.mem_replicate.1 hr1).2] at hr2
            simp at hr2
            exact ⟨_, hr2⟩
    have hg := h.app [A.take (n * 2) ++ .str x :: .str y :: (List.replicate (c' - (n + 1)) [AV.str [], AV.str []]).flatten] (fun l hl => by simp only [List.mem_cons, List.not_mem_nil, or_false] at hl; subst hl; exact hs2)
    refine ⟨hg.mm, ?_, hg.mt, fun i _ _ _ _ i' _ _ _ _ e e' => by cases e; exact f2 _ _ _ _ _ e', hg.bd⟩
    refine .inr ⟨K.length, c', A.take (n * 2) ++ .str x :: .str y :: (List.replicate (c' - (n + 1)) [AV.str [], AV.str []]).flatten, f1, rfl, by simp, ?_, hc1, hc2, hs2, fun k s hk e => ?_⟩
    · simp [hl]; omega
    · rw [grow_at (by omega) _ _ _ _ (by omega)]
      by_cases h8 : k = n
      · subst h8; rw [if_pos rfl]; rw [hn] at e; cases e; rfl
      · rw [if_neg h8]; exact h7 k s (by omega) e
end
end Go.Proofs.YtcdkcaocfioigaaGreatDoor

set_option linter.unusedVariables false
set_option linter.unusedSimpArgs false
set_option maxRecDepth 100000
namespace Go.Proofs.YtcdkcaocfioigaaGreatDoor
open Go Go.RowKit Go.Lib

def dgB (k : Nat) : UInt8 := UInt8.ofNat (48 + k)
end Go.Proofs.YtcdkcaocfioigaaGreatDoor

set_option linter.unusedVariables false
set_option linter.unnecessarySimpa false
set_option linter.unusedSimpArgs false
set_option linter.unusedSectionVars false
set_option maxRecDepth 100000
namespace Go.Proofs.YtcdkcaocfioigaaGreatDoor
open Go Go.RowKit Go.Proofs Go.Lib

/-- A number below a thousand in three digits. -/
def d3 (n : Int) : List UInt8 := [dgB (n.toNat / 100), dgB (n.toNat / 10 % 10), dgB (n.toNat % 10)]
end Go.Proofs.YtcdkcaocfioigaaGreatDoor

set_option linter.unusedVariables false
set_option linter.unnecessarySimpa false
set_option linter.unusedSimpArgs false
set_option linter.unusedSectionVars false
set_option maxRecDepth 100000
namespace Go.Proofs.YtcdkcaocfioigaaGreatDoor
open Go Go.RowKit Go.Proofs Go.Lib

section
variable (E : Env) (H : Hp) (Q : AV → Hp → Prop)
theorem dempty_pc (s : Int) (hQ : Q (.bool (neverS s)) H) : PC Tryz.prog E 61 [.int .i64 s] H Q := by
  refine pc_enter Tryz.func61 rfl [] [] (by kernel_rfl) (fun hB => ?_)
  have fin : ∀ c : Bool, neverS s = c → Q (.bool c) H := fun c hc => hc ▸ hQ
  by_cases h1 : 100 ≤ s
  · by_cases h2 : s ≤ 199
    · simp [Tryz.ntmps61, Tryz.results61, List.replicate_succ, h1, h2]
      exact aPost_same0 hB rfl (nilV_refl _) (by simp) (fin _ (by simp [neverS, h1, h2]))
    · simp [Tryz.ntmps61, Tryz.results61, List.replicate_succ, h1, h2]
      by_cases h3 : s = 204
      · subst h3
        simp
        exact aPost_same0 hB rfl (nilV_refl _) (by simp) (fin _ (by simp [neverS]))
      · have b3 : (s == 204) = false := by simpa using h3
        simp [b3]
        exact aPost_same0 hB rfl (nilV_refl _) (by simp) (fin _ (by simp [neverS, h1, h2, b3]))
  · simp [Tryz.ntmps61, Tryz.results61, List.replicate_succ, h1]
    by_cases h3 : s = 204
    · omega
    · have b3 : (s == 204) = false := by simpa using h3
      simp [b3]
      exact aPost_same0 hB rfl (nilV_refl _) (by simp) (fin _ (by simp [neverS, h1, b3]))
theorem dbodyless_pc (m : List UInt8) (s : Int) (hQ : Q (.bool (bodylessB m s)) H) : PC Tryz.prog E 29 [.str m, .int .i64 s] H Q := by
  refine pc_enter Tryz.func29 rfl [] [] (by kernel_rfl) (fun hB => ?_)
  have fin : ∀ c : Bool, bodylessB m s = c → Q (.bool c) H := fun c hc => hc ▸ hQ
  simp [Tryz.ntmps29, Tryz.results29, List.replicate_succ]
  refine dempty_pc E _ _ s ?_
  cases hn : neverS s with
  | true =>
    simp
    exact aPost_same0 hB rfl (nilV_refl _) (by simp) (fin _ (by simp [bodylessB, hn]))
  | false =>
    cases hh : (m == [72, 69, 65, 68]) with
    | true =>
      simp [hh]
      exact aPost_same0 hB rfl (nilV_refl _) (by simp) (fin _ (by simp [bodylessB, vHead, hn, hh]))
    | false =>
      cases hc : (m == [67, 79, 78, 78, 69, 67, 84]) with
      | false =>
        simp [hh, hc]
        exact aPost_same0 hB rfl (nilV_refl _) (by simp) (fin _ (by simp [bodylessB, vHead, vConnect, hn, hh, hc]))
      | true =>
        by_cases h1 : 200 ≤ s
        · simp [hh, hc, h1]
          exact aPost_same0 hB rfl (nilV_refl _) (by simp) (fin _ (by simp [bodylessB, vHead, vConnect, hn, hh, hc, h1]))
        · simp [hh, hc, h1]
          exact aPost_same0 hB rfl (nilV_refl _) (by simp) (fin _ (by simp [bodylessB, vHead, vConnect, hn, hh, hc, h1]))
end
end Go.Proofs.YtcdkcaocfioigaaGreatDoor

set_option linter.unusedVariables false
set_option linter.unnecessarySimpa false
set_option linter.unusedSimpArgs false
set_option linter.unusedSectionVars false
set_option maxRecDepth 100000
namespace Go.Proofs.YtcdkcaocfioigaaGreatDoor
open Go Go.RowKit Go.Proofs

@[simp] theorem strRows_length (l : List (List UInt8)) : (strRows l).length = l.length := by simp [strRows]
section
variable (E : Env) (H : Hp) (Q : AV → Hp → Prop)
end
end Go.Proofs.YtcdkcaocfioigaaGreatDoor

set_option linter.unusedVariables false
set_option linter.unnecessarySimpa false
set_option linter.unusedSimpArgs false
set_option linter.unusedSectionVars false
set_option maxRecDepth 100000
namespace Go.Proofs.YtcdkcaocfioigaaGreatDoor
open Go Go.RowKit Go.Proofs

section
variable (E : Env) (H : Hp) (Q : AV → Hp → Prop)
theorem dalike_pc (a b : List UInt8) (ha : a.length ≤ cap) (hb : b.length ≤ cap) (hQ : Q (.bool (lowEq a b)) H) : PC Tryz.prog E 77 [.str a, .str b] H Q := by
  refine pc_enter Tryz.func77 rfl [] [] (by kernel_rfl) (fun hB => ?_)
  simp [Tryz.ntmps77, Tryz.results77, List.replicate_succ]
  refine ref_lower_pc E _ _ a ha ?_
  simp
  refine ref_lower_pc E _ _ b hb ?_
  simp
  exact aPost_same0 hB rfl (nilV_refl _) (by simp) hQ
end
end Go.Proofs.YtcdkcaocfioigaaGreatDoor

set_option linter.unusedVariables false
set_option linter.unnecessarySimpa false
set_option linter.unusedSimpArgs false
set_option linter.unusedSectionVars false
set_option maxRecDepth 100000
namespace Go.Proofs.YtcdkcaocfioigaaGreatDoor
open Go Go.RowKit Go.Proofs

section
variable (E : Env) (H : Hp) (Q : AV → Hp → Prop)
end
end Go.Proofs.YtcdkcaocfioigaaGreatDoor

set_option linter.unusedVariables false
set_option linter.unnecessarySimpa false
set_option linter.unusedSimpArgs false
set_option linter.unusedSectionVars false
set_option maxRecDepth 100000
namespace Go.Proofs.YtcdkcaocfioigaaGreatDoor
open Go Go.RowKit Go.Proofs

@[simp] theorem bnd_ints {N : Nat} (l : List Int) : (∀ r ∈ ints l, ∀ x ∈ r, Bnd N x) = True := eq_true fun r hr x hx => by
  obtain ⟨z, _, rfl⟩ := List.mem_map.1 hr
  simp at hx
  subst hx
  exact .int _ _
section
variable (E : Env) (H : Hp) (Q : AV → Hp → Prop)
def same12Inv (a : List Fld) (H : Hp) (fr : List AV) (H' : Hp) : Prop := H' = H ∧ ∃ i : Nat, i ≤ a.length ∧ ∃ x : Nat → AV, fr = [.sl false 2 (flds a), .sl false 2 (flds a), x 2, x 3, x 4, x 5, x 6, x 7, x 8, x 9, x 10, x 11, .int .i64 a.length, .int .i64 i, x 14, x 15, x 16, x 17, x 18, x 19, x 20, x 21, x 22, x 23, x 24, x 25, x 26, x 27, x 28, x 29, x 30, x 31, x 32, x 33, x 34, x 35, x 36, x 37, x 38, x 39, x 40]
theorem same12_pc (a : List Fld) (ha : a.length ≤ 1073741824) (hQ : Q (.bool true) H) : PC Tryz.prog E 20 [.sl false 2 (flds a), .sl false 2 (flds a)] H Q := by
  refine pc_enter Tryz.func20 rfl [] [] (by kernel_rfl) (fun hB => ?_)
  simp [Tryz.ntmps20, Tryz.results20, List.replicate_succ]
  refine VL_go (same12Inv a H) (fun fr _ => a.length - (ai (aget fr 13)).toNat) ⟨rfl, 0, by omega, fr_intro (by simp)⟩ ?_
  rintro fr H' ⟨rfl, i, hi, x, rfl⟩
  by_cases h : i < a.length
  · obtain ⟨u, hu⟩ : ∃ u, a[i]? = some u := ⟨_, List.getElem?_eq_getElem h⟩
    have hat1 := flds_at hu
    have hw : IntKind.i64.wrap ((i : Int) + 1) = i + 1 := wrap_in (by omega) (by omega)
    obtain ⟨n1, v1⟩ := u
    simp only at hat1
    simp [h, hat1, hw]
    exact Kloop_normal ⟨rfl, i + 1, by omega, fr_intro (by simp)⟩ (by simp; omega)
  · simp [h]
    exact aPost_same0 hB rfl (nilV_refl _) (by simp) hQ
end
end Go.Proofs.YtcdkcaocfioigaaGreatDoor

set_option linter.unusedVariables false
set_option linter.unnecessarySimpa false
set_option linter.unusedSimpArgs false
set_option linter.unusedSectionVars false
set_option maxRecDepth 100000
namespace Go.Proofs.YtcdkcaocfioigaaGreatDoor
open Go Go.RowKit Go.Proofs

/-- Nils in a struct are seen as empty lists. -/
theorem aggNil_rel {w : World} {β : Nat → Nat} {Rd : Nat → Nat → Prop} {N : Nat} {l l' : List AV} {u : Value} (hB : Bnd N (.agg l)) (h : Rel w β Rd (.agg l) u) (hn : nilL l l') (hf' : ∀ x ∈ l', x.free = true) :
    Rel w β Rd (.agg l') u ∧ Bnd N (.agg l') := by
  have h1 : Rel w β Rd (.tup [.agg l]) (.tuple #[u]) := .tup _ _ rfl (fun x hx => by simp at hx; subst hx; rfl) (fun j x v hx hv => by
    match j with
    | 0 => simp at hx hv; subst hx; subst hv; exact h
    | j + 1 => simp at hx)
  obtain ⟨k1, k2⟩ := nilT_rel (.tup _ fun x hx => by simp at hx; subst hx; exact hB) h1 hn hf'
  constructor
  · cases k1 with
    | tup _ _ _ _ hr => exact hr 0 _ u rfl rfl
  · cases k2 with
    | tup _ h => exact h _ (by simp)
theorem PC.agg2 {P : Program} {E : Env} {f : FuncId} {a l l' : List AV} {H : Hp} {Q : AV → Hp → Prop} (hn : nilL l l') (hf : ∀ x ∈ l', x.free = true) (h : PC P E f [.agg a, .agg l'] H Q) : PC P E f [.agg a, .agg l] H Q :=
  ⟨h.1, fun w β Rd Ow cargs h1 h2 h3 h4 => h.2 w β Rd Ow cargs h1 h2 h3 fun t x u hx hu => by
    match t with
    | 0 => exact h4 0 x u hx hu
    | 1 =>
      simp at hx
      subst hx
      obtain ⟨r1, r2, _⟩ := h4 1 (.agg l) u rfl hu
      obtain ⟨k1, k2⟩ := aggNil_rel r2 r1 hn hf
      exact ⟨k1, k2, rfl⟩
    | t + 2 => simp at hx⟩
def awR12 : Resp := ⟨200, [], [⟨[65], [49]⟩], [104, 105]⟩
def awM12 : Mann := ⟨[71, 69, 84], false, false, false, [], []⟩
def awT12 : List UInt8 := [72, 84, 84, 80, 47, 49, 46, 49, 32, 50, 48, 48, 32, 79, 75, 13, 10, 65, 58, 32, 49, 13, 10, 67, 111, 110, 116, 101, 110, 116, 45, 76, 101, 110, 103, 116, 104, 58, 32, 50, 13, 10, 13, 10, 104, 105]
theorem aw_print : printP awR12 awM12 = (awT12, 0) := by decide +kernel
theorem aw_parse : (parseM [71, 69, 84] (awT12 ++ [120]) 2 false).1.body = [104, 105] ∧ (parseM [71, 69, 84] (awT12 ++ [120]) 2 false).2.1 = 46 ∧ (parseM [71, 69, 84] (awT12 ++ [120]) 2 false).2.2 = 0 := by decide +kernel
theorem aw_ok : okR awR12 awM12 := by
  refine ⟨by decide, by decide, by decide, by decide, by decide, by decide, by decide, ?_⟩
  intro z hz
  cases hz
section
variable (E : Env) (H : Hp) (Q : AV → Hp → Prop)
theorem awake12_pc (hE : SM E) (hQ : Q (.bool true) H) : PC Tryz.prog E 12 [] H Q := by
  obtain ⟨p1, p2, p3⟩ := aw_parse
  refine pc_enter Tryz.func12 rfl [] [] (by kernel_rfl) (fun hB => ?_)
  simp [Tryz.ntmps12, Tryz.results12, List.replicate_succ]
  refine PC.agg2 (a := awR12.avs) (l := [.str [71, 69, 84], .bool false, .bool false, .bool false, .nil, .nil]) (l' := awM12.avs) ⟨.inl rfl, .inl rfl, .inl rfl, .inl rfl, .inr ⟨rfl, false, 1, rfl⟩, .inr ⟨rfl, false, 2, rfl⟩, trivial⟩ (by simp [Mann.avs, AV.free]) ?_
  refine mprint_pc E _ _ hE awR12 awM12 aw_ok ?_
  rw [aw_print]
  have m1 : awT12.length + 1 ≤ maxLen := by decide
  have e1 : (awT12 != [72, 84, 84, 80, 47, 49, 46, 49, 32, 50, 48, 48, 32, 79, 75, 13, 10, 65, 58, 32, 49, 13, 10, 67, 111, 110, 116, 101, 110, 116, 45, 76, 101, 110, 103, 116, 104, 58, 32, 50, 13, 10, 13, 10, 104, 105]) = false := by decide
  simp [e1, m1]
  refine parse_pc E _ _ hE.1.1 [71, 69, 84] (awT12 ++ [120]) 2 false (by decide) (by decide) ?_
  rw [p2, p3]
  have e2 : awT12.length = 46 := rfl
  simp [Rep.avs, p1, e2]
  exact aPost_same hB rfl (nilV_refl _) (by simp) hQ
end
end Go.Proofs.YtcdkcaocfioigaaGreatDoor

set_option linter.unusedVariables false
set_option linter.unnecessarySimpa false
set_option linter.unusedSimpArgs false
set_option linter.unusedSectionVars false
set_option maxRecDepth 100000
namespace Go.Proofs.YtcdkcaocfioigaaGreatDoor
open Go Go.RowKit Go.Proofs Go.Deep

section
variable (E : Env) (H : Hp) (Q : AV → Hp → Prop)
end
end Go.Proofs.YtcdkcaocfioigaaGreatDoor

set_option linter.unusedVariables false
set_option linter.unnecessarySimpa false
set_option linter.unusedSimpArgs false
set_option linter.unusedSectionVars false
set_option maxRecDepth 100000
namespace Go.Proofs.YtcdkcaocfioigaaGreatDoor
open Go Go.RowKit Go.Proofs Go.Deep

/-- The three tables. -/
def Tabs (W : World) : Prop := Signs W ∧ Tz W ∧ Lib.TabIs Tryz.prog W "internal/strconv.uint64pow10" .u64 Lib.pow10Tab
theorem tab_lt {W : World} (hT : Lib.TabIs Tryz.prog W "internal/strconv.uint64pow10" .u64 Lib.pow10Tab) : 0 < W.heap.size := by
  have := hT
  unfold Lib.TabIs World.var? at this
  rw [pow10Named] at this
  simp only [Option.bind_some] at this
  by_cases h : 0 < W.heap.size
  · exact h
  · rw [Array.getElem?_eq_none (by omega)] at this; cases this
theorem calls_sm {f : FuncId} {args : List AV} {cargs : Array Value} {W : World} (hT : Tabs W) (hsz : cargs.size = args.length)
    (hargs : ∀ (t : Nat) x u, args[t]? = some x → cargs[t]? = some u → Rel W (fun _ => 0) (old W) x u ∧ Bnd 0 x ∧ x.free = true)
    (h : ∀ (E : Env) (Q : AV → Hp → Prop), SM E → Q (.bool true) [] → PC Tryz.prog E f args [] Q) : Calls Tryz.prog f cargs W fun e w' => e = .returned (.bool true) ∧ Frm (fun _ => False) W w' :=
  calls_of_pcF (fun b => b = 1 ∨ b = 3 ∨ b = 0)
    (fun b hb => hb.elim (law_fix W hT.1 b) (fun h => h.elim (fun h => h ▸ World.block_lt_of_cell? _ _ hT.2.1) (fun h => h ▸ tab_lt hT.2.2))) (old W) (fun _ _ h => h) hsz hargs
    (fun E Q h0 hf hq => h E Q ⟨⟨⟨by rw [hf]; exact .inl rfl, by rw [h0]; exact hT.1⟩, by rw [hf]; exact .inr (.inl rfl), by rw [h0]; exact hT.2.1⟩, ⟨by rw [hf]; exact .inl rfl, by rw [h0]; exact hT.1⟩, by rw [hf]; exact .inr (.inr rfl), by rw [h0]; exact hT.2.2⟩ hq)
end Go.Proofs.YtcdkcaocfioigaaGreatDoor

set_option linter.unusedVariables false
set_option linter.unnecessarySimpa false
set_option linter.unusedSimpArgs false
set_option linter.unusedSectionVars false
set_option maxRecDepth 100000
namespace Go.Proofs.YtcdkcaocfioigaaGreatDoor
open Go Go.RowKit Go.Proofs

/-! ### Two boxes, one behind the other -/
@[irreducible] def put2 (H : Hp) (c : Nat) (a b : List AV) : Hp := (H.set c a).set (c + 1) b
@[simp] theorem put2_len (H : Hp) (c : Nat) (a b : List AV) : (put2 H c a b).length = H.length := by unfold put2; simp
section
variable {H : Hp} {c : Nat} (h : c + 1 < H.length)
include h
end
/-! ### A reader's boxes -/
def repsA (l : List Rep) : List (List AV) := l.map Rep.avs
@[simp] theorem repsA_length (l : List Rep) : (repsA l).length = l.length := by simp [repsA]
@[simp] theorem bnd_reps' {N : Nat} (l : List Rep) : (∀ r ∈ repsA l, ∀ x ∈ r, Bnd N x) = True := eq_true fun r hr x hx => by
  obtain ⟨y, _, rfl⟩ := List.mem_map.1 hr
  exact avs_bnd y N x hx
theorem fieldsR_len {t : List UInt8} {old : Bool} : ∀ (n a : Nat) (fs gs : List Fld) (e : Nat), fs.length ≤ 100 → fieldsR t old n a fs = .ok gs e → gs.length ≤ 100
  | 0, a, fs, gs, e, _, h => by rw [fieldsR] at h; cases h
  | n + 1, a, fs, gs, e, hl, h => by
    rw [fieldsR_next] at h
    cases hx : nextR t old a fs with
    | inl x =>
      rw [hx] at h
      simp only at h
      subst h
      unfold nextR at hx
      cases he : lineR t a with
      | part => rw [he] at hx; cases hx
      | bad i => rw [he] at hx; cases hx
      | ok e' =>
        rw [he] at hx
        simp only at hx
        split at hx
        · split at hx
          · cases hx
          · cases hx; exact hl
        · split at hx
          · cases hx
          · split at hx <;> cases hx
    | inr p =>
      obtain ⟨e', gs'⟩ := p
      rw [hx] at h
      obtain ⟨_, _, _, _, h5, _, h7⟩ := nextR_go hx
      exact fieldsR_len n e' gs' gs e (by rw [h7]; simp; omega) h
theorem headM_fields (s : List UInt8) : (headM s).1.fields.length ≤ 100 ∧ (headM s).1.trailers = [] := by
  rw [headM_eq]
  cases hx : headO (s.take 65536) with
  | none => simp only [Option.getD_none]; split <;> exact ⟨Nat.zero_le _, rfl⟩
  | some x =>
    simp only [Option.getD_some]
    unfold headO at hx
    cases hs : stR (s.take 65536) with
    | part => rw [hs] at hx; cases hx
    | bad i => rw [hs] at hx; cases hx; exact ⟨Nat.zero_le _, rfl⟩
    | ok a =>
      rw [hs] at hx
      simp only at hx
      cases hf : fieldsR (s.take 65536) (decide (dg (s.take 65536) 7 = 0)) ((s.take 65536).length + 1) a [] with
      | part => rw [hf] at hx; cases hx
      | bad n e => rw [hf] at hx; cases hx; exact ⟨Nat.zero_le _, rfl⟩
      | ok fs e => rw [hf] at hx; cases hx; exact ⟨fieldsR_len _ _ _ _ _ (by simp) hf, rfl⟩
theorem parseM_lens {m s : List UInt8} {most : Int} {ended : Bool} (hs : s.length ≤ 1000000000) (hm : most ≤ 9223372036854775807) : (parseM m s most ended).1.fields.length ≤ 1073741824 ∧ (parseM m s most ended).1.trailers.length ≤ 1073741824 := by
  obtain ⟨f1, f2⟩ := headM_fields s
  by_cases h0 : most < 0
  · rw [parseM_neg _ _ _ h0]; exact ⟨Nat.zero_le _, Nat.zero_le _⟩
  by_cases h1 : (headM s).2.2 = 0
  · cases h2 : bodylessB m (headM s).1.status with
    | true => rw [parseM_none _ h0 h1 h2, f2]; exact ⟨by omega, Nat.zero_le _⟩
    | false =>
      obtain ⟨n, hn, _⟩ := headM_rng h1
      rw [parseM_body _ h0 h1 h2 hn]
      have hdl := decodeD_len (s.drop n) most 65536 100 (by rw [List.length_drop]; omega) hm (by decide) (by decide)
      have f2' : (headM s).1.trailers.length ≤ 1073741824 := by rw [f2]; exact Nat.zero_le _
      unfold bodyM
      (repeat' split) <;> first | exact ⟨Nat.zero_le _, Nat.zero_le _⟩ | exact ⟨by simp only; omega, hdl⟩ | exact ⟨by simp only; omega, f2'⟩
  · rw [parseM_bad _ h0 h1]; exact ⟨Nat.zero_le _, Nat.zero_le _⟩
section
variable (E : Env) (H : Hp) (Q : AV → Hp → Prop)
variable (c : Nat) (r : RM) (hc : c + 1 < H.length)
include hc
end
end Go.Proofs.YtcdkcaocfioigaaGreatDoor

set_option linter.unusedVariables false
set_option linter.unnecessarySimpa false
set_option linter.unusedSimpArgs false
set_option linter.unusedSectionVars false
set_option maxRecDepth 100000
namespace Go.Proofs.YtcdkcaocfioigaaGreatDoor
open Go Go.RowKit Go.Proofs

attribute [simp] axsub
@[simp] theorem bnd_strsR {N : Nat} (l : List (List UInt8)) : (∀ r ∈ strs l, ∀ x ∈ r, Bnd N x) = True := eq_true fun r hr x hx => by
  obtain ⟨y, _, rfl⟩ := List.mem_map.1 hr
  simp at hx
  subst hx
  exact .str _
section
variable (E : Env) (H : Hp) (Q : AV → Hp → Prop) (c : Nat) (r : RM) (hc : c + 1 < H.length)
include hc
end
end Go.Proofs.YtcdkcaocfioigaaGreatDoor

set_option linter.unusedVariables false
set_option linter.unnecessarySimpa false
set_option linter.unusedSimpArgs false
set_option linter.unusedSectionVars false
set_option maxRecDepth 100000
namespace Go.Proofs.YtcdkcaocfioigaaGreatDoor
open Go Go.RowKit Go.Proofs

/-- What comes. -/
def feedM (r : RM) (s : List UInt8) : RM × Int := if r.err ≠ 0 ∨ r.ended = true then (r, 126) else if r.over = true then (r, 0) else (readA (r.put s), (readA (r.put s)).err)
section
variable (E : Env) (H : Hp) (Q : AV → Hp → Prop) (c : Nat) (r : RM) (hc : c + 1 < H.length)
include hc
end
end Go.Proofs.YtcdkcaocfioigaaGreatDoor

set_option linter.unusedVariables false
set_option linter.unnecessarySimpa false
set_option linter.unusedSimpArgs false
set_option linter.unusedSectionVars false
set_option maxRecDepth 100000
namespace Go.Proofs.YtcdkcaocfioigaaGreatDoor
open Go Go.RowKit Go.Proofs Go.Deep

/-- Two readers that are told alike. -/
structure Alik (a b : RM) : Prop where
  err : a.err = b.err
  over : a.over = b.over
  ended : a.ended = b.ended
  most : a.most = b.most
  asked : a.asked = b.asked
  done : a.done = b.done
  bytes : a.err = 0 → a.bytes = b.bytes
theorem Alik.refl (a : RM) : Alik a a := ⟨rfl, rfl, rfl, rfl, rfl, rfl, fun _ => rfl⟩
theorem Alik.symm {a b : RM} (h : Alik a b) : Alik b a := ⟨h.err.symm, h.over.symm, h.ended.symm, h.most.symm, h.asked.symm, h.done.symm, fun e => (h.bytes (h.err.trans e)).symm⟩
theorem Alik.trans {a b c : RM} (h : Alik a b) (k : Alik b c) : Alik a c :=
  ⟨h.err.trans k.err, h.over.trans k.over, h.ended.trans k.ended, h.most.trans k.most, h.asked.trans k.asked, h.done.trans k.done, fun e => (h.bytes e).trans (k.bytes (h.err.symm.trans e))⟩
theorem Alik.eq {a b : RM} (h : Alik a b) (he : a.err = 0) : a = b := by
  obtain ⟨h1, h2, h3, h4, h5, h6, h7⟩ := h
  cases a; cases b
  simp only at h1 h2 h3 h4 h5 h6 h7 he
  simp only [h1, h2, h3, h4, h5, h6, h7 he]
theorem put_like {r : RM} (u : List UInt8) (h : r.err ≠ 0) : Alik (r.put u) r := ⟨rfl, rfl, rfl, rfl, rfl, rfl, fun e => absurd e h⟩
theorem put_put (r : RM) (u v : List UInt8) : (r.put u).put v = r.put (u ++ v) := by simp [RM.put]
/-- A reader that is fed a piece, and then the rest, if nothing was wrong: as if it were fed at once. -/
theorem feed_cut {r : RM} (he : r.err = 0) (hn : r.ended = false) (u v : List UInt8) :
    ((feedM r u).2 = 0 → (feedM r u).1.err = 0 ∧ (feedM r u).1.ended = false ∧ feedM (feedM r u).1 v = feedM r (u ++ v)) ∧
    ((feedM r u).2 ≠ 0 → Alik (feedM r (u ++ v)).1 (feedM r u).1 ∧ (feedM r (u ++ v)).2 = (feedM r u).2) := by
  have hne : ¬ (r.err ≠ 0 ∨ r.ended = true) := by rw [he, hn]; simp
  cases ho : r.over with
  | true =>
    have e : ∀ w, feedM r w = (r, 0) := fun w => by unfold feedM; rw [if_neg hne, if_pos ho]
    rw [e u, e (u ++ v)]
    exact ⟨fun _ => ⟨he, hn, e v⟩, fun h => absurd rfl h⟩
  | false =>
    have e : ∀ w, feedM r w = (readA (r.put w), (readA (r.put w)).err) := fun w => by unfold feedM; rw [if_neg hne, if_neg (by rw [ho]; simp)]
    have hk : (readA (r.put u)).ended = r.ended := by
      have key : ∀ (n : Nat) (a : RM), (readR n a).ended = a.ended := fun n => by
        induction n with
        | zero => intro a; rfl
        | succ n ih =>
          intro a
          rw [readR]
          split
          · rw [ih]; exact (oneR_keeps a).1
          · exact (oneR_keeps a).1
      exact key _ _
    obtain ⟨c1, c2, c3⟩ := readA_cut v ((r.put u).bytes.length + 1) (r.put u) (by omega) hn he
    rw [put_put] at c1 c2 c3
    rw [e u, e (u ++ v)]
    refine ⟨fun h => ?_, fun h => ?_⟩
    · simp only at h ⊢
      refine ⟨h, by rw [hk]; exact hn, ?_⟩
      have hne2 : ¬ ((readA (r.put u)).err ≠ 0 ∨ (readA (r.put u)).ended = true) := by rw [h, hk, hn]; simp
      cases ho2 : (readA (r.put u)).over with
      | true =>
        have e2 : readA (r.put (u ++ v)) = readA (r.put u) := (c2 h ho2).resolve_right (by show ¬ r.over = true; rw [ho]; simp)
        have e3 : feedM (readA (r.put u)) v = (readA (r.put u), 0) := by unfold feedM; rw [if_neg hne2, if_pos ho2]
        rw [e2, e3, h]
      | false =>
        have e2 := c3 h ho2
        have e3 : feedM (readA (r.put u)) v = (readA ((readA (r.put u)).put v), (readA ((readA (r.put u)).put v)).err) := by unfold feedM; rw [if_neg hne2, if_neg (by rw [ho2]; simp)]
        rw [e2, e3]
    · simp only at h ⊢
      rw [c1 h]
      exact ⟨put_like v h, rfl⟩
/-- Feeding as long as nothing is wrong. f: what the last feeding said. -/
structure CutI (A : RM) (e : Int) (B : RM) (f : Int) (rest : List UInt8) : Prop where
  go : f = 0 → B.err = 0 ∧ B.ended = false ∧ Alik (feedM B rest).1 A ∧ (feedM B rest).2 = e
  stop : f ≠ 0 → Alik B A ∧ f = e
theorem CutI.step {A B : RM} {e f : Int} {rest : List UInt8} (h : CutI A e B f rest) (hf : f = 0) (n : Nat) : CutI A e (feedM B (rest.take n)).1 (feedM B (rest.take n)).2 (rest.drop n) := by
  obtain ⟨h1, h2, h3, h4⟩ := h.go hf
  obtain ⟨c1, c2⟩ := feed_cut h1 h2 (rest.take n) (rest.drop n)
  rw [List.take_append_drop] at c1 c2
  refine ⟨fun hz => ?_, fun hz => ?_⟩
  · obtain ⟨d1, d2, d3⟩ := c1 hz
    exact ⟨d1, d2, by rw [d3]; exact h3, by rw [d3]; exact h4⟩
  · obtain ⟨d1, d2⟩ := c2 hz
    exact ⟨d1.symm.trans h3, by rw [← d2]; exact h4⟩
theorem CutI.skip {A B : RM} {e f : Int} {rest : List UInt8} (h : CutI A e B f rest) (hf : f ≠ 0) (rest' : List UInt8) : CutI A e B f rest' := ⟨fun e => absurd e hf, h.stop⟩
end Go.Proofs.YtcdkcaocfioigaaGreatDoor

set_option linter.unusedVariables false
set_option linter.unnecessarySimpa false
set_option linter.unusedSimpArgs false
set_option linter.unusedSectionVars false
set_option maxRecDepth 100000
namespace Go.Proofs.YtcdkcaocfioigaaGreatDoor
open Go Go.RowKit Go.Proofs Go.Deep

/-! ### Two readers behind a box -/
section
variable {H : Hp} {S x y z w : List AV} {J : Hp}
end
/-- A stream that is handed in. -/
structure StrA where
  m : List UInt8
  t : List UInt8
  most : Int
  ended : Bool
def StrA.avs (s : StrA) : List AV := [.str s.m, .str s.t, .int .i64 s.most, .bool s.ended]
section
variable (E : Env) (H : Hp) (Q : AV → Hp → Prop)
end
end Go.Proofs.YtcdkcaocfioigaaGreatDoor

set_option linter.unusedVariables false
set_option linter.unnecessarySimpa false
set_option linter.unusedSimpArgs false
set_option linter.unusedSectionVars false
set_option maxRecDepth 100000
namespace Go.Proofs.YtcdkcaocfioigaaGreatDoor
open Go Go.RowKit Go.Proofs Go.Deep
theorem rel_stream {W : World} {cs : Array Value} {ks : List AV} (op : Opened W [.str, .str, .int .i64, .bool] cs.toList ks) : ∃ s : StrA, ks = s.avs ∧ (-9223372036854775808 ≤ s.most ∧ s.most ≤ 9223372036854775807) ∧ s.m.length + s.t.length ≤ wtA ks ∧
    Rel W (fun _ => 0) (old W) (.agg s.avs) (.agg cs) ∧ Bnd 0 (.agg s.avs) ∧ (AV.agg s.avs).free = true := by
  match ks, op.len with
  | [y0, y1, y2, y3], _ =>
    obtain ⟨z0, rfl⟩ := kind_str (op.kind 0 _ _ rfl rfl)
    obtain ⟨z1, rfl⟩ := kind_str (op.kind 1 _ _ rfl rfl)
    obtain ⟨z2, rfl, w2⟩ := kind_i64 (op.kind 2 _ _ rfl rfl)
    obtain ⟨z3, rfl⟩ := kind_bool (op.kind 3 _ _ rfl rfl)
    refine ⟨⟨z0, z1, z2, z3⟩, rfl, w2, by simp [wtA]; try omega, .agg _ _ (by have := op.clen; simpa [StrA.avs] using this) (fun x hx => ?_) (fun j x u hx hu => ?_), .agg _ (fun x hx => ?_), rfl⟩
    · simp [StrA.avs] at hx
      rcases hx with rfl | rfl | rfl | rfl <;> exact ⟨rfl, rfl⟩
    · exact (op.rel j x u hx (by simpa using hu)).2.2.1
    · simp [StrA.avs] at hx
      rcases hx with rfl | rfl | rfl | rfl
      · exact .str _
      · exact .str _
      · exact .int _ _
      · exact .bool _
end Go.Proofs.YtcdkcaocfioigaaGreatDoor

set_option linter.unusedVariables false
set_option linter.unnecessarySimpa false
set_option linter.unusedSimpArgs false
set_option linter.unusedSectionVars false
set_option maxRecDepth 100000
namespace Go.Proofs.YtcdkcaocfioigaaGreatDoor
open Go Go.RowKit Go.Proofs

theorem keep_snoc (out : List (List UInt8)) (x : List UInt8) : keepB (out ++ [x]) = keepB out ++ (if (trimB x).isEmpty then [] else [trimB x]) := by
  cases h : (trimB x).isEmpty <;> simp [keepB, h]
section
variable (E : Env) (H : Hp) (Q : AV → Hp → Prop)
theorem dall_pc (l : List Fld) (n : List UInt8) (hl : fsz l + l.length ≤ 16777216) (hn : n.length ≤ cap) (hQ : Q (.sl false 1 (strs (allB l n))) H) : PC Tryz.prog E 150 [.sl false 2 (flds l), .str n] H Q := by
  refine pc_enter Tryz.func150 rfl [18] [] (by kernel_rfl) (fun hB => ?_)
  simp [Tryz.ntmps150, Tryz.results150, List.replicate_succ]
  refine VL_nil 5 1 (by rfl) ?_
  simp only [List.set_cons_succ, List.set_cons_zero]
  refine VL_go (allInv l n H) (fun fr _ => l.length - (ai (aget fr 10)).toNat) ⟨[], 0, by simp, by omega, fr_intro (by simp [allB, strs])⟩ ?_
  rintro fr H' ⟨J, i, rfl, hi, x, rfl⟩
  by_cases h : i < l.length
  · obtain ⟨f, hf⟩ : ∃ f, l[i]? = some f := ⟨_, List.getElem?_eq_getElem h⟩
    have hat := flds_at hf
    have hfm := fsz_mem hf
    have hw : IntKind.i64.wrap ((i : Int) + 1) = i + 1 := wrap_in (by omega) (by omega)
    have hst := allB_step l n i f hf
    have hal := allB_len (l.take i) n
    rw [List.length_take] at hal
    simp [h, hat]
    refine dalike_pc E _ _ f.name n (by simp only [cap]; omega) hn ?_
    cases he : lowEq f.name n with
    | false =>
      rw [if_neg (by rw [he]; simp), List.append_nil] at hst
      simp [hw]
      exact Kloop_normal ⟨_, i + 1, rfl, by omega, fr_intro (by simp [hst])⟩ (by simp; omega)
    | true =>
      rw [if_pos he] at hst
      have m1 : (allB (l.take i) n).length + 1 ≤ maxLen := by unfold maxLen; omega
      have m2 : ((allB (l.take i) n).length + 1) * 16 ≤ 140737488355328 := by omega
      have hsn := strs_snoc (allB (l.take i) n) f.value
      rw [← hst] at hsn
      simp [m1, m2, hsn, hw]
      exact Kloop_normal ⟨_, i + 1, rfl, by omega, fr_intro (by simp)⟩ (by simp; omega)
  · obtain rfl : i = l.length := by omega
    simp
    exact aPost_same hB (v0 := .sl false 1 (strs (allB l n))) (by simp) (nilV_refl _) (by simp [bnd_strs]) hQ
def elInv (l : List UInt8) (H : Hp) (fr : List AV) (H' : Hp) : Prop := H' = H ∧ ∃ (f i : Nat) (out : List (List UInt8)), ((f ≤ i ∧ i ≤ l.length ∧ out.length ≤ i ∧ cutIs l out f i) ∨ (i = l.length + 1 ∧ cut [] l = some out)) ∧
  ∃ x : Nat → AV, fr = [.str l, x 1, x 2, x 3, .sl true 1 (strs (keepB out)), .int .i64 f, .int .i64 i, x 7, x 8, x 9, x 10, x 11, x 12, x 13, x 14, x 15, x 16, x 17, x 18, x 19, x 20, x 21, x 22, x 23, x 24, x 25, x 26, x 27, x 28, x 29, x 30, x 31, x 32, x 33, x 34, x 35, x 36, x 37, x 38, x 39, x 40, x 41, x 42, x 43, x 44, x 45, x 46, x 47, x 48, x 49, x 50, x 51, x 52, x 53, x 54, x 55, x 56, x 57, x 58]
set_option maxHeartbeats 1000000 in
theorem delems_pc (l : List UInt8) (hl : l.length ≤ 16777216) (hQ1 : listB l = none → Q (.tup [.sl false 1 [], .bool false]) H) (hQ2 : ∀ y, listB l = some y → Q (.tup [.sl false 1 (strs y), .bool true]) H) : PC Tryz.prog E 175 [.str l] H Q := by
  refine pc_enter Tryz.func175 rfl [52] [] (by kernel_rfl) (fun hB => ?_)
  simp [Tryz.ntmps175, Tryz.results175, List.replicate_succ]
  refine VL_nil 4 1 (by rfl) ?_
  simp only [List.set_cons_succ, List.set_cons_zero]
  refine VL_go (elInv l H) (fun fr _ => l.length + 1 - (ai (aget fr 6)).toNat) ⟨rfl, 0, 0, [], .inl ⟨by omega, by omega, by simp, cutIs_start l⟩, fr_intro (by simp [strs, keepB])⟩ ?_
  rintro fr H' ⟨rfl, f, i, out, ⟨hf, hi, hout, hc⟩ | ⟨rfl, hc⟩, x, rfl⟩
  · have hkl := keepB_le out
    have hm : (keepB out).length + 1 ≤ maxLen ∧ ((keepB out).length + 1) * 16 ≤ 140737488355328 := by unfold maxLen; omega
    have hle : (i : Int) ≤ l.length := by omega
    have hw : IntKind.i64.wrap ((i : Int) + 1) = i + 1 := wrap_in (by omega) (by omega)
    have pl : ((l.drop f).take (i - f)).length ≤ cap := by rw [List.length_take, List.length_drop]; simp only [cap]; omega
    have hst := keep_snoc out ((l.drop f).take (i - f))
    by_cases h : i < l.length
    rotate_left
    · obtain rfl : i = l.length := by omega
      have hcut := cutIs_end hc hf (Nat.le_refl _)
      have hsl : (l.drop f).take (l.length - f) = l.drop f := List.take_of_length_le (by rw [List.length_drop]; omega)
      rw [hsl] at hcut pl hst
      simp [hf, hsl]
      refine ref_trim_pc E _ _ _ pl ?_
      cases ht : (trimB (l.drop f)).isEmpty
      · have hne : (trimB (l.drop f) != []) = true := by rw [len_ne _ 0, ht]; rfl
        rw [ht] at hst
        have hsn := strs_snoc (keepB out) (trimB (l.drop f))
        simp [hne, hm, hw]
        exact Kloop_normal ⟨rfl, l.length + 1, l.length + 1, _, .inr ⟨rfl, hcut⟩, fr_intro (by rw [hst]; simp [strs])⟩ (by simp)
      · have hne : (trimB (l.drop f) != []) = false := by rw [len_ne _ 0, ht]; rfl
        rw [ht] at hst
        simp [hne, hw]
        exact Kloop_normal ⟨rfl, l.length + 1, l.length + 1, _, .inr ⟨rfl, hcut⟩, fr_intro (by rw [hst]; simp [strs])⟩ (by simp)
    obtain ⟨b, hb⟩ : ∃ b, l[i]? = some b := ⟨_, List.getElem?_eq_getElem h⟩
    have hat := lat_eq hb
    have hbn := b.toNat_lt
    have t1 : ((i : Int) == (l.length : Int)) = false := by simp; omega
    by_cases b34 : b.toNat = 34
    · have hx34 : b = 34 := UInt8.toNat_inj.1 b34
      have hb' : l[i]? = some 34 := by rw [hb, hx34]
      have t2 : ((b.toNat : Int) == 34) = true := by simp; omega
      have hd : (l.drop i).take (l.length - i) = l.drop i := List.take_of_length_le (by rw [List.length_drop]; omega)
      simp [h, hat, t2, hd, hi]
      refine quoted_pc E _ _ (l.drop i) (by rw [List.length_drop]; omega) (by rw [List.getElem?_drop]; exact hb') ?_
      cases hu : unquote (l.drop i) with
      | none =>
        have ha : unqAns (l.drop i) = ([], 0, 13) := by unfold unqAns; rw [hu]
        have hbad := cutIs_bad hc hf hb' hu
        simp [ha]
        exact aPost_same0 hB (v0 := .tup [.nil, .bool false]) (by simp) (nilV_tup2 1 _ rfl) (by simp) (hQ1 (by unfold listB; rw [hbad]; rfl))
      | some p =>
        obtain ⟨y, k⟩ := p
        have ha : unqAns (l.drop i) = (y, (k : Int), 0) := by unfold unqAns; rw [hu]
        have hk := unquote_le hu
        rw [List.length_drop] at hk
        have hk0 : ((k : Int) == 0) = false := by rw [beq_eq_false_iff_ne]; omega
        have hw1 : IntKind.i64.wrap ((k : Int) - 1) = (k : Int) - 1 := wrap_in (by omega) (by omega)
        have hw2 : IntKind.i64.wrap ((i : Int) + ((k : Int) - 1)) = (i : Int) + ((k : Int) - 1) := wrap_in (by omega) (by omega)
        have hw3 : IntKind.i64.wrap ((i : Int) + ((k : Int) - 1) + 1) = ((i + k : Nat) : Int) := by rw [wrap_in (by omega) (by omega)]; omega
        simp [ha, hk0, hw1, hw2, hw3]
        exact Kloop_normal ⟨rfl, f, i + k, out, .inl ⟨by omega, by omega, by omega, cutIs_quote hc hf hb' hu⟩, fr_intro (by simp)⟩ (by simp; omega)
    · have t2 : ((b.toNat : Int) == 34) = false := by simp; omega
      have ne34 : b ≠ 34 := by rintro rfl; exact b34 rfl
      by_cases b44 : b.toNat = 44
      · have hx44 : b = 44 := UInt8.toNat_inj.1 b44
        have hb' : l[i]? = some 44 := by rw [hb, hx44]
        have t3 : ((b.toNat : Int) == 44) = true := by simp; omega
        have hcm := cutIs_comma hc hf hb'
        simp [h, hat, t1, t2, t3, hf, hi]
        refine ref_trim_pc E _ _ _ pl ?_
        cases ht : (trimB ((l.drop f).take (i - f))).isEmpty
        · have hne : (trimB ((l.drop f).take (i - f)) != []) = true := by rw [len_ne _ 0, ht]; rfl
          rw [ht] at hst
          simp [hne, hm, hw]
          exact Kloop_normal ⟨rfl, i + 1, i + 1, _, .inl ⟨by omega, by omega, by simp; omega, hcm⟩, fr_intro (by rw [hst]; simp [strs])⟩ (by simp; omega)
        · have hne : (trimB ((l.drop f).take (i - f)) != []) = false := by rw [len_ne _ 0, ht]; rfl
          rw [ht] at hst
          simp [hne, hw]
          exact Kloop_normal ⟨rfl, i + 1, i + 1, _, .inl ⟨by omega, by omega, by simp; omega, hcm⟩, fr_intro (by rw [hst]; simp [strs])⟩ (by simp; omega)
      · have t3 : ((b.toNat : Int) == 44) = false := by simp; omega
        have ne44 : b ≠ 44 := by rintro rfl; exact b44 rfl
        simp [h, hi, hat, t1, t2, t3, hw]
        exact Kloop_normal ⟨rfl, f, i + 1, out, .inl ⟨by omega, by omega, by omega, cutIs_plain hc hf hb ne44 ne34⟩, fr_intro (by simp)⟩ (by simp; omega)
  · have hgt : ¬ ((l.length : Int) + 1 ≤ l.length) := by omega
    have hq := hQ2 (keepB out) (by unfold listB; rw [hc]; rfl)
    simp [hgt]
    exact aPost_same0 hB (v0 := .tup [.sl false 1 (strs (keepB out)), .bool true]) (by simp) (nilV_refl _) (by simp [bnd_strs]) hq
def dlInv (vs : List (List UInt8)) (H : Hp) (fr : List AV) (H' : Hp) : Prop := H' = H ∧ ∃ (i : Nat) (acc : List (List UInt8)), i ≤ vs.length ∧ listsB (vs.take i) = some acc ∧
  ∃ x : Nat → AV, fr = [x 0, x 1, x 2, x 3, x 4, x 5, .sl true 1 (strs acc), x 7, x 8, x 9, x 10, x 11, x 12, .sl false 1 (strs vs), .int .i64 vs.length, .int .i64 i, x 16, x 17, x 18, x 19, x 20, x 21, x 22, x 23, x 24, x 25, x 26, x 27, x 28, x 29, x 30]
theorem dlist_pc (l : List Fld) (n : List UInt8) (hl : fsz l + l.length ≤ 4194304) (hn : n.length ≤ cap) (hQ : Q (.tup [.sl false 1 (strs (flistA l n).1), .int .i64 (flistA l n).2]) H) : PC Tryz.prog E 151 [.sl false 2 (flds l), .str n] H Q := by
  have hvz := vsz_allB l n
  have q1 : listsB (allB l n) = none → Q (.tup [.sl false 1 [], .int .i64 14]) H := fun h => by
    have : flistA l n = ([], 14) := by unfold flistA; rw [h]
    rw [this] at hQ; exact hQ
  have q2 : ∀ acc, listsB (allB l n) = some acc → Q (.tup [.sl false 1 (strs acc), .int .i64 0]) H := fun acc h => by
    have : flistA l n = (acc, 0) := by unfold flistA; rw [h]
    rw [this] at hQ; exact hQ
  refine pc_enter Tryz.func151 rfl [26] [] (by kernel_rfl) (fun hB => ?_)
  simp [Tryz.ntmps151, Tryz.results151, List.replicate_succ]
  refine dall_pc E _ _ l n (by omega) hn ?_
  generalize allB l n = vs at *
  have hvl := vsz_len vs
  simp
  refine VL_nil 6 1 (by rfl) ?_
  simp only [List.set_cons_succ, List.set_cons_zero]
  refine VL_go (dlInv vs H) (fun fr _ => vs.length - (ai (aget fr 15)).toNat) ⟨rfl, 0, [], by omega, rfl, fr_intro (by simp [strs])⟩ ?_
  rintro fr H' ⟨rfl, i, acc, hi, hacc, x, rfl⟩
  have hlen := listsB_len _ _ hacc
  have hvt := vsz_take vs i
  by_cases h : i < vs.length
  · obtain ⟨s, hs⟩ : ∃ s, vs[i]? = some s := ⟨_, List.getElem?_eq_getElem h⟩
    have hat := strs_at hs
    have hsz := vsz_mem hs
    have hw : IntKind.i64.wrap ((i : Int) + 1) = i + 1 := wrap_in (by omega) (by omega)
    simp [h, hat]
    refine delems_pc E _ _ s (by omega) (fun hb => ?_) (fun y hb => ?_)
    · simp
      exact aPost_same0 hB (v0 := .tup [.nil, .int .i64 14]) (by simp) (nilV_tup2 1 _ rfl) (by simp) (q1 (listsB_stop hs hb))
    · have hyl := listB_len hb
      have hst := listsB_step hs hacc hb
      have m1 : acc.length + y.length ≤ maxLen := by unfold maxLen; omega
      have m2 : (acc.length + y.length) * 16 ≤ 140737488355328 := by omega
      have hsa : strs acc ++ strs y = strs (acc ++ y) := by simp [strs]
      simp [m1, m2, hsa, hw]
      exact Kloop_normal ⟨rfl, i + 1, acc ++ y, by omega, hst, fr_intro (by simp)⟩ (by simp; omega)
  · obtain rfl : i = vs.length := by omega
    rw [List.take_of_length_le (Nat.le_refl _)] at hacc
    simp
    exact aPost_same0 hB (v0 := .tup [.sl false 1 (strs acc), .int .i64 0]) (by simp) (nilV_refl _) (by simp [bnd_strs]) (q2 acc hacc)
def dtInv (acc : List (List UInt8)) (H : Hp) (fr : List AV) (H' : Hp) : Prop := H' = H ∧ ∃ i : Nat, i ≤ acc.length ∧ (acc.take i).all tokB = true ∧
  ∃ x : Nat → AV, fr = [x 0, x 1, x 2, x 3, x 4, x 5, x 6, x 7, .sl true 1 (strs ((acc.take i).map low)), x 9, x 10, x 11, x 12, x 13, x 14, x 15, x 16, x 17, x 18, x 19, .sl false 1 (strs acc), .int .i64 acc.length, .int .i64 i, x 23, x 24, x 25, x 26, x 27, x 28, x 29, x 30, x 31, x 32, x 33, x 34, x 35]
theorem dtokens_pc (l : List Fld) (n : List UInt8) (hl : fsz l + l.length ≤ 4194304) (hn : n.length ≤ cap) (hQ : Q (.tup [.sl false 1 (strs (toksA l n).1), .int .i64 (toksA l n).2]) H) : PC Tryz.prog E 119 [.sl false 2 (flds l), .str n] H Q := by
  have hvz := vsz_allB l n
  refine pc_enter Tryz.func119 rfl [29] [] (by kernel_rfl) (fun hB => ?_)
  simp [Tryz.ntmps119, Tryz.results119, List.replicate_succ]
  refine dlist_pc E _ _ l n hl hn ?_
  cases hacc : listsB (allB l n) with
  | none =>
    have e1 : flistA l n = ([], 14) := by unfold flistA; rw [hacc]
    have e2 : toksA l n = ([], 14) := by unfold toksA; rw [hacc]
    rw [e2] at hQ
    rw [e1]
    simp
    exact aPost_same0 hB (v0 := .tup [.nil, .int .i64 14]) (by simp) (nilV_tup2 1 _ rfl) (by simp) hQ
  | some acc =>
    have e1 : flistA l n = (acc, 0) := by unfold flistA; rw [hacc]
    have e2 : toksA l n = if acc.all tokB = true then (acc.map low, 0) else ([], 10) := by unfold toksA; rw [hacc]
    have hmem := listsB_mem _ _ hacc
    have hlen := listsB_len _ _ hacc
    rw [e2] at hQ
    rw [e1]
    clear e1 e2 hacc
    simp
    refine VL_nil 8 1 (by rfl) ?_
    simp only [List.set_cons_succ, List.set_cons_zero]
    refine VL_go (dtInv acc H) (fun fr _ => acc.length - (ai (aget fr 22)).toNat) ⟨rfl, 0, by omega, by simp, fr_intro (by simp [strs])⟩ ?_
    rintro fr H' ⟨rfl, i, hi, hall, x, rfl⟩
    by_cases h : i < acc.length
    · obtain ⟨u, hu⟩ : ∃ u, acc[i]? = some u := ⟨_, List.getElem?_eq_getElem h⟩
      have hat := strs_at hu
      have hw : IntKind.i64.wrap ((i : Int) + 1) = i + 1 := wrap_in (by omega) (by omega)
      have hul := hmem u (List.mem_of_getElem? hu)
      simp [h, hat]
      refine ref_token_pc E _ _ u (by simp only [cap]; omega) ?_
      cases ht : tokB u with
      | false =>
        have e : acc.all tokB = false := all_stop tokB acc i u hu ht
        rw [if_neg (by rw [e]; simp)] at hQ
        simp
        exact aPost_same0 hB (v0 := .tup [.nil, .int .i64 10]) (by simp) (nilV_tup2 1 _ rfl) (by simp) hQ
      | true =>
        simp
        refine ref_lower_pc E _ _ u (by simp only [cap]; omega) ?_
        have m1 : (List.take i acc).length + 1 ≤ maxLen := by rw [List.length_take]; unfold maxLen; omega
        have m2 : ((List.take i acc).length + 1) * 16 ≤ 140737488355328 := by rw [List.length_take]; omega
        rw [List.length_take, Nat.min_eq_left hi] at m1 m2
        have hst : strs ((acc.take i).map low) ++ [[.str (low u)]] = strs ((acc.take (i + 1)).map low) := by
          rw [List.take_add_one, hu]; simp [strs]
        have hmin : min i acc.length = i := Nat.min_eq_left hi
        simp [m1, m2, hmin, hw]
        exact Kloop_normal ⟨rfl, i + 1, by omega, by rw [all_step tokB acc i u hu, hall, ht]; rfl, fr_intro (by rw [← hst]; simp)⟩ (by simp; omega)
    · obtain rfl : i = acc.length := by omega
      rw [List.take_of_length_le (Nat.le_refl _)] at hall
      rw [if_pos hall] at hQ
      simp
      exact aPost_same0 hB (v0 := .tup [.sl false 1 (strs (acc.map low)), .int .i64 0]) (by simp) (nilV_refl _) (by simp [bnd_strs]) hQ
end
end Go.Proofs.YtcdkcaocfioigaaGreatDoor

set_option linter.unusedVariables false
set_option linter.unnecessarySimpa false
set_option linter.unusedSimpArgs false
set_option linter.unusedSectionVars false
set_option maxRecDepth 100000
namespace Go.Proofs.YtcdkcaocfioigaaGreatDoor
open Go Go.RowKit Go.Proofs

set_option maxRecDepth 100000 in
theorem digd_all : ∀ n, n < 256 → (let b := UInt8.ofNat n; (48 ≤ b.toNat ∧ b.toNat ≤ 57 → dig b = (b.toNat : Int) - 48) ∧ (¬ (48 ≤ b.toNat ∧ b.toNat ≤ 57) → ¬ (0 ≤ dig b ∧ dig b < 10))) := by decide
theorem dig_yes {b : UInt8} (h : 48 ≤ b.toNat ∧ b.toNat ≤ 57) : dig b = (b.toNat : Int) - 48 := by
  have := digd_all b.toNat b.toNat_lt
  simp at this
  exact this.1 h.1 h.2
theorem dig_no {b : UInt8} (h : ¬ (48 ≤ b.toNat ∧ b.toNat ≤ 57)) : ¬ (0 ≤ dig b ∧ dig b < 10) := by
  have := (digd_all b.toNat b.toNat_lt).2 (by simpa using h)
  simpa using this
/-- What is reckoned so far: the number, or that it is too much. -/
def decIs (p : List UInt8) (n : Int) : Prop := okDigs 10 p = true ∧ ((n ≤ 1099511627776 ∧ n = numOf 10 p) ∨ (1099511627776 < n ∧ 1099511627776 < numOf 10 p)) ∧ 0 ≤ n ∧ n ≤ 10995116277769
theorem decIs_step {l : List UInt8} {i : Nat} {b : UInt8} {n : Int} (h : decIs (l.take i) n) (hb : l[i]? = some b) (hd : 48 ≤ b.toNat ∧ b.toNat ≤ 57) :
    decIs (l.take (i + 1)) (if n ≤ 1099511627776 then 10 * n + ((b.toNat : Int) - 48) else n) := by
  obtain ⟨h1, h2, h3, h4⟩ := h
  have hs := numOf_step 10 l i b hb
  have ho := okDigs_step 10 l i b hb
  have hdg := dig_yes hd
  have hn0 := numOf_nonneg 10 (by omega) (l.take i) h1
  rw [hdg] at hs ho
  refine ⟨?_, ?_, ?_, ?_⟩
  · rw [ho, h1, decide_eq_true (by omega)]; rfl
  · rcases h2 with ⟨h5, h6⟩ | ⟨h5, h6⟩
    · rw [if_pos h5]
      by_cases hm : 10 * n + ((b.toNat : Int) - 48) ≤ 1099511627776
      · exact .inl ⟨hm, by rw [hs, ← h6]; omega⟩
      · exact .inr ⟨by omega, by rw [hs, ← h6]; omega⟩
    · rw [if_neg (by omega)]
      exact .inr ⟨h5, by rw [hs]; omega⟩
  · split <;> omega
  · split <;> omega
theorem decIs_end {l : List UInt8} {n : Int} (h : decIs l n) : decA l = if l = [] ∨ 1099511627776 < n then -1 else n := by
  obtain ⟨h1, h2, h3, h4⟩ := h
  by_cases hl : l = []
  · rw [if_pos (.inl hl), hl]
    decide
  rcases h2 with ⟨h5, h6⟩ | ⟨h5, h6⟩
  · have e : numAns 10 1099511627776 l = (numOf 10 l, 0) := by
      unfold numAns
      rw [if_neg hl, if_neg (by rw [h1]; simp), if_neg (by omega)]
    rw [decA_ok (by rw [e]), e, if_neg (by rintro (h | h); exact hl h; omega), h6]
  · have e : numAns 10 1099511627776 l = (0, 12) := by
      unfold numAns
      rw [if_neg hl, if_neg (by rw [h1]; simp), if_pos (.inr h6)]
    rw [decA_bad (by rw [e]; decide), if_pos (.inr h5)]
theorem dec_stop {l : List UInt8} {i : Nat} {b : UInt8} (hb : l[i]? = some b) (hd : ¬ (48 ≤ b.toNat ∧ b.toNat ≤ 57)) : decA l = -1 := by
  apply decA_bad
  have hne : l ≠ [] := fun e => by rw [e] at hb; simp at hb
  unfold numAns
  rw [if_neg hne, if_pos (okDigs_bad 10 l i b hb (dig_no hd))]
  decide
section
variable (E : Env) (H : Hp) (Q : AV → Hp → Prop)
def ddcInv (l : List UInt8) (H : Hp) (fr : List AV) (H' : Hp) : Prop := H' = H ∧ ∃ (i : Nat) (n : Int), i ≤ l.length ∧ decIs (l.take i) n ∧ ∃ x : Nat → AV, fr = [.str l, x 1, x 2, .int .i64 n, .int .i64 i, x 5, x 6, x 7, x 8, x 9, x 10, x 11, x 12, x 13, x 14, x 15, x 16, x 17, x 18, x 19, x 20, x 21, x 22, x 23, x 24, x 25, x 26, x 27, x 28, x 29, x 30, x 31, x 32, x 33, x 34, x 35, x 36, x 37]
theorem ddecimal_pc (l : List UInt8) (hl : l.length ≤ cap) (hQ : Q (.int .i64 (decA l)) H) : PC Tryz.prog E 152 [.str l] H Q := by
  simp only [cap] at hl
  have fin : ∀ a : Int, decA l = a → Q (.int .i64 a) H := fun a ha => ha ▸ hQ
  refine pc_enter Tryz.func152 rfl [] [] (by kernel_rfl) (fun hB => ?_)
  simp [Tryz.ntmps152, Tryz.results152, List.replicate_succ]
  refine VL_go (ddcInv l H) (fun fr _ => l.length - (ai (aget fr 4)).toNat) ⟨rfl, 0, 0, by omega, ⟨rfl, .inl ⟨by omega, rfl⟩, by omega, by omega⟩, fr_intro (by simp)⟩ ?_
  rintro fr H' ⟨rfl, i, n, hi, hn, x, rfl⟩
  obtain ⟨_, _, n0, n1⟩ := id hn
  by_cases h : i < l.length
  · obtain ⟨b, hb⟩ : ∃ b, l[i]? = some b := ⟨_, List.getElem?_eq_getElem h⟩
    have hat := lat_eq hb
    have hbn := b.toNat_lt
    have hw : IntKind.i64.wrap ((i : Int) + 1) = i + 1 := wrap_in (by omega) (by omega)
    by_cases h48 : (b.toNat : Int) < 48
    · simp [h, hat, h48]
      exact aPost_same0 hB rfl (nilV_refl _) (by simp) (fin _ (dec_stop hb (by omega)))
    by_cases h57 : (57 : Int) < b.toNat
    · simp [h, hat, h48, h57]
      exact aPost_same0 hB rfl (nilV_refl _) (by simp) (fin _ (dec_stop hb (by omega)))
    have hst := decIs_step hn hb (by omega)
    have w1 : IntKind.u8.wrap ((b.toNat : Int) - 48) = (b.toNat : Int) - 48 := by
      unfold IntKind.wrap
      simp [IntKind.signed, IntKind.bits, IntKind.min]
      omega
    by_cases hM : n ≤ 1099511627776
    · rw [if_pos hM] at hst
      have w2 : IntKind.i64.wrap (10 * n) = 10 * n := wrap_in (by omega) (by omega)
      have w3 : IntKind.i64.wrap ((b.toNat : Int) - 48) = (b.toNat : Int) - 48 := wrap_in (by omega) (by omega)
      have w4 : IntKind.i64.wrap (10 * n + ((b.toNat : Int) - 48)) = 10 * n + ((b.toNat : Int) - 48) := wrap_in (by omega) (by omega)
      simp [h, hat, h48, h57, hM, w1, w2, w3, w4, hw]
      exact Kloop_normal ⟨rfl, i + 1, _, by omega, hst, fr_intro (by simp)⟩ (by simp; omega)
    · rw [if_neg hM] at hst
      simp [h, hat, h48, h57, hM, hw]
      exact Kloop_normal ⟨rfl, i + 1, _, by omega, hst, fr_intro (by simp)⟩ (by simp; omega)
  · obtain rfl : i = l.length := by omega
    rw [List.take_of_length_le (Nat.le_refl _)] at hn
    have he := decIs_end hn
    by_cases h0 : l = []
    · rw [if_pos (.inl h0)] at he
      have h0' : (l == []) = true := by rw [h0]; rfl
      simp [h0']
      exact aPost_same0 hB rfl (nilV_refl _) (by simp) (fin _ he)
    have h0' : (l == []) = false := by simpa using h0
    by_cases hM : 1099511627776 < n
    · rw [if_pos (.inr hM)] at he
      simp [h0', hM]
      exact aPost_same0 hB rfl (nilV_refl _) (by simp) (fin _ he)
    · rw [if_neg (by rintro (h | h); exact h0 h; exact hM h)] at he
      simp [h0', hM]
      exact aPost_same0 hB rfl (nilV_refl _) (by simp) (fin _ he)
def dlnInv (acc : List (List UInt8)) (m : Int) (H : Hp) (fr : List AV) (H' : Hp) : Prop := H' = H ∧ ∃ i : Nat, i ≤ acc.length ∧ (∀ y ∈ acc.take i, decA y = m) ∧ (0 < i → 0 ≤ m) ∧
  ∃ x : Nat → AV, fr = [x 0, x 1, x 2, x 3, x 4, .sl false 1 (strs acc), x 6, x 7, x 8, x 9, x 10, x 11, x 12, x 13, x 14, x 15, x 16, x 17, x 18, x 19, x 20, x 21, x 22, x 23, x 24, .sl false 1 (strs acc), .int .i64 acc.length, .int .i64 i, x 28, x 29, x 30, x 31, x 32, x 33, x 34, x 35, x 36, x 37, x 38, x 39, x 40, x 41, x 42, x 43, x 44, x 45, x 46, x 47]
set_option maxHeartbeats 1000000 in
theorem dlength_pc (l : List Fld) (hl : fsz l + l.length ≤ 4194304) (hQ : Q (.tup [.int .i64 (lengthA l).1, .bool (lengthA l).2.1, .int .i64 (lengthA l).2.2]) H) : PC Tryz.prog E 118 [.sl false 2 (flds l)] H Q := by
  have fin : ∀ a : Int × Bool × Int, lengthA l = a → Q (.tup [.int .i64 a.1, .bool a.2.1, .int .i64 a.2.2]) H := fun a ha => ha ▸ hQ
  have hcn : nCL.length ≤ cap := by simp [nCL, cap]
  have hvz := vsz_allB l nCL
  refine pc_enter Tryz.func118 rfl [] [(9, [0, 0, 0, 0, 0, 1])] (by kernel_rfl) (fun hB => ?_)
  simp [Tryz.ntmps118, Tryz.results118, List.replicate_succ]
  refine dall_pc E _ _ l nCL (by omega) hcn ?_
  by_cases h0 : allB l nCL = []
  · have hs0 : strs ([] : List (List UInt8)) = [] := rfl
    simp [h0, hs0]
    exact aPost_same0 hB rfl (nilV_refl _) (by simp) (fin _ (by unfold lengthA; rw [if_pos h0] : lengthA l = (0, false, 0)))
  have h0' : (((allB l nCL).length : Int) == 0) = false := by
    rw [beq_eq_false_iff_ne]
    intro e
    exact h0 (List.length_eq_zero_iff.1 (by omega))
  simp [h0']
  refine dlist_pc E _ _ l nCL hl hcn ?_
  cases hacc : listsB (allB l nCL) with
  | none =>
    have e1 : flistA l nCL = ([], 14) := by unfold flistA; rw [hacc]
    have e2 : lengthA l = (0, false, 66) := by unfold lengthA; rw [if_neg h0, hacc]
    rw [e1]
    simp
    exact aPost_same0 hB rfl (nilV_refl _) (by simp) (fin _ e2)
  | some acc =>
    have e1 : flistA l nCL = (acc, 0) := by unfold flistA; rw [hacc]
    have hmem := listsB_mem _ _ hacc
    have hlen := listsB_len _ _ hacc
    rw [e1]
    cases acc with
    | nil =>
      have e2 : lengthA l = (0, false, 66) := by unfold lengthA; rw [if_neg h0, hacc]
      have hs0 : strs ([] : List (List UInt8)) = [] := rfl
      simp [hs0]
      exact aPost_same0 hB rfl (nilV_refl _) (by simp) (fin _ e2)
    | cons w r =>
      have e2 : lengthA l = if decA w < 0 ∨ (r.all fun y => decide (decA y = decA w)) = false then (0, false, 66) else (decA w, true, 0) := by unfold lengthA; rw [if_neg h0, hacc]
      obtain ⟨acc, ha⟩ : ∃ acc, w :: r = acc := ⟨_, rfl⟩
      have hw0 : acc[0]? = some w := by rw [← ha]; rfl
      have hat0 := strs_at hw0
      have hpos : 0 < acc.length := by rw [← ha]; simp
      have hne : ((acc.length : Int) == 0) = false := by rw [beq_eq_false_iff_ne]; omega
      have hbad : ∀ y ∈ acc, (decA y < 0 ∨ decA y ≠ decA w) → lengthA l = (0, false, 66) := fun y hy hb => by
        rw [e2]
        apply if_pos
        by_cases hlt : decA w < 0
        · exact .inl hlt
        right
        rw [← ha] at hy
        rcases List.mem_cons.1 hy with rfl | hy
        · rcases hb with hb | hb
          · exact absurd hb hlt
          · exact absurd rfl hb
        · rw [List.all_eq_false]
          refine ⟨y, hy, ?_⟩
          simp only [decide_eq_true_eq]
          rcases hb with hb | hb
          · omega
          · exact hb
      have hgood : (∀ y ∈ acc, decA y = decA w) → 0 ≤ decA w → lengthA l = (decA w, true, 0) := fun h1 h2 => by
        rw [e2]
        apply if_neg
        rintro (h | h)
        · omega
        · rw [List.all_eq_false] at h
          obtain ⟨y, hy, hh⟩ := h
          exact hh (by simpa using h1 y (by rw [← ha]; exact List.mem_cons_of_mem _ hy))
      rw [ha] at hmem hlen ⊢
      have hwl := hmem w (List.mem_of_getElem? hw0)
      clear e2 hacc e1
      simp [hne]
      refine VL_go (dlnInv acc (decA w) H) (fun fr _ => acc.length - (ai (aget fr 27)).toNat) ⟨rfl, 0, by omega, by simp, by omega, fr_intro (by simp)⟩ ?_
      rintro fr H' ⟨rfl, i, hi, hall, hm0, x, rfl⟩
      by_cases h : i < acc.length
      · obtain ⟨u, hu⟩ : ∃ u, acc[i]? = some u := ⟨_, List.getElem?_eq_getElem h⟩
        have hat := strs_at hu
        have hum := List.mem_of_getElem? hu
        have hul := hmem u hum
        have hw : IntKind.i64.wrap ((i : Int) + 1) = i + 1 := wrap_in (by omega) (by omega)
        simp [h, hat, hat0, hpos]
        refine ddecimal_pc E _ _ u (by simp only [cap]; omega) ?_
        by_cases hneg : decA u < 0
        · simp [hneg]
          exact aPost_same0 hB rfl (nilV_refl _) (by simp) (fin _ (hbad u hum (.inl hneg)))
        simp [hneg, hat0, hpos]
        refine ddecimal_pc E _ _ u (by simp only [cap]; omega) ?_
        simp [hat0, hpos]
        refine ddecimal_pc E _ _ w (by simp only [cap]; omega) ?_
        by_cases heq : decA u = decA w
        · simp [heq, hw]
          refine Kloop_normal ⟨rfl, i + 1, by omega, fun y hy => ?_, fun _ => by omega, fr_intro (by simp)⟩ (by simp; omega)
          rw [List.take_add_one, hu] at hy
          rcases List.mem_append.1 hy with hy | hy
          · exact hall y hy
          · simp at hy; subst hy; exact heq
        · have heq' : (decA u != decA w) = true := by simpa using heq
          simp [heq']
          exact aPost_same0 hB rfl (nilV_refl _) (by simp) (fin _ (hbad u hum (.inr heq)))
      · obtain rfl : i = acc.length := by omega
        rw [List.take_of_length_le (Nat.le_refl _)] at hall
        have hres := hgood hall (hm0 hpos)
        simp [hat0, hpos]
        refine ddecimal_pc E _ _ w (by simp only [cap]; omega) ?_
        simp
        exact aPost_same0 hB rfl (nilV_refl _) (by simp) (fin _ hres)
theorem dcodings_pc (l : List Fld) (hl : fsz l + l.length ≤ 4194304) (hQ : Q (.tup [.sl false 1 (strs (codingsA l).1), .bool (codingsA l).2.1, .int .i64 (codingsA l).2.2]) H) : PC Tryz.prog E 117 [.sl false 2 (flds l)] H Q := by
  refine pc_enter Tryz.func117 rfl [] [] (by kernel_rfl) (fun hB => ?_)
  have fin : ∀ a : List (List UInt8) × Bool × Int, codingsA l = a → Q (.tup [.sl false 1 (strs a.1), .bool a.2.1, .int .i64 a.2.2]) H := fun a ha => ha ▸ hQ
  have hcn : nTE.length ≤ cap := by simp [nTE, cap]
  simp [Tryz.ntmps117, Tryz.results117, List.replicate_succ]
  refine dall_pc E _ _ l nTE (by omega) hcn ?_
  by_cases h0 : allB l nTE = []
  · have e : codingsA l = ([], false, 0) := by unfold codingsA; rw [if_pos h0]
    have hs0 : strs ([] : List (List UInt8)) = [] := rfl
    simp [h0, hs0]
    exact aPost_same0 hB (v0 := .tup [.nil, .bool false, .int .i64 0]) (by simp) (nilV_tup3 1 _ _ rfl rfl) (by simp) (fin _ e)
  have h0' : (((allB l nTE).length : Int) == 0) = false := by
    rw [beq_eq_false_iff_ne]
    intro e
    exact h0 (List.length_eq_zero_iff.1 (by omega))
  simp [h0']
  refine dtokens_pc E _ _ l nTE hl hcn ?_
  by_cases he : (toksA l nTE).2 = 0
  · have e : codingsA l = ((toksA l nTE).1, true, 0) := by unfold codingsA; rw [if_neg h0, if_pos he]
    simp [he]
    exact aPost_same0 hB (v0 := .tup [.sl false 1 (strs (toksA l nTE).1), .bool true, .int .i64 0]) (by simp) (nilV_refl _) (by simp [bnd_strs]) (fin _ e)
  · have e : codingsA l = ([], false, 67) := by unfold codingsA; rw [if_neg h0, if_neg he]
    have he2 : ((toksA l nTE).2 != 0) = true := by simpa using he
    simp [he2]
    exact aPost_same0 hB (v0 := .tup [.nil, .bool false, .int .i64 67]) (by simp) (nilV_tup3 1 _ _ rfl rfl) (by simp) (fin _ e)
theorem dpersist_pc (l : List Fld) (old : Bool) (hl : fsz l + l.length ≤ 4194304) (hQ : Q (.bool (persistA l old)) H) : PC Tryz.prog E 92 [.sl false 2 (flds l), .bool old] H Q := by
  refine pc_enter Tryz.func92 rfl [] [] (by kernel_rfl) (fun hB => ?_)
  have hcn : nCO.length ≤ cap := by simp [nCO, cap]
  have fin : ∀ a : Bool, persistA l old = a → Q (.bool a) H := fun a ha => ha ▸ hQ
  have htl := toksA_len l nCO
  simp [Tryz.ntmps92, Tryz.results92, List.replicate_succ]
  refine dtokens_pc E _ _ l nCO hl hcn ?_
  by_cases he : (toksA l nCO).2 = 0
  · simp [he]
    refine in_pc E _ _ (toksA l nCO).1 vClose (by simp only [cap]; omega) ?_
    cases hc : (toksA l nCO).1.contains vClose with
    | true =>
      simp
      exact aPost_same0 hB rfl (nilV_refl _) (by simp) (fin _ (by unfold persistA; rw [hc]; simp))
    | false =>
      cases old with
      | false =>
        simp
        exact aPost_same0 hB rfl (nilV_refl _) (by simp) (fin _ (by unfold persistA; rw [hc, he]; simp))
      | true =>
        simp
        refine in_pc E _ _ (toksA l nCO).1 vKeep (by simp only [cap]; omega) ?_
        simp
        exact aPost_same0 hB rfl (nilV_refl _) (by simp) (fin _ (by unfold persistA; rw [hc, he]; simp))
  · have he2 : ((toksA l nCO).2 != 0) = true := by simpa using he
    simp [he2]
    exact aPost_same0 hB rfl (nilV_refl _) (by simp) (fin _ (by unfold persistA; rw [decide_eq_false he]; rfl))
set_option maxHeartbeats 1000000 in
theorem dframing_pc (l : List Fld) (old : Bool) (hl : fsz l + l.length ≤ 4194304) (hQ : Q (.tup [.int .i64 (framingA l old).1, .int .i64 (framingA l old).2.1, .int .i64 (framingA l old).2.2]) H) : PC Tryz.prog E 91 [.sl false 2 (flds l), .bool old] H Q := by
  have fin : ∀ a : Int × Int × Int, framingA l old = a → Q (.tup [.int .i64 a.1, .int .i64 a.2.1, .int .i64 a.2.2]) H := fun a ha => ha ▸ hQ
  have hcl := codA_len l hl
  refine pc_enter Tryz.func91 rfl [] [] (by kernel_rfl) (fun hB => ?_)
  simp [Tryz.ntmps91, Tryz.results91, List.replicate_succ]
  refine dcodings_pc E _ _ l hl ?_
  obtain ⟨⟨cs, cd, ce⟩, hC⟩ : ∃ c, codingsA l = c := ⟨_, rfl⟩
  obtain ⟨⟨n, tl, f⟩, hL⟩ : ∃ c, lengthA l = c := ⟨_, rfl⟩
  have hF := framing_of (old := old) hC hL
  rw [hC] at hcl
  rw [hC]
  simp only at hcl ⊢
  by_cases h1 : ce = 0
  rotate_left
  · rw [if_pos (.inl h1)] at hF
    have h1' : (ce != 0) = true := by simpa using h1
    simp [h1']
    exact aPost_same0 hB rfl (nilV_refl _) (by simp) (fin _ hF)
  subst h1
  cases cd with
  | true =>
    cases old with
    | true =>
      rw [if_pos (.inr ⟨rfl, .inl rfl⟩)] at hF
      simp
      exact aPost_same0 hB rfl (nilV_refl _) (by simp) (fin _ hF)
    | false =>
      by_cases h2 : cs = [vChunked]
      · subst h2
        rw [if_neg (by simp)] at hF
        have hat : lat (strs [vChunked]) 0 = some [.str vChunked] := rfl
        have hv : (vChunked != [99, 104, 117, 110, 107, 101, 100]) = false := by decide
        simp [hat, hv]
        refine dlength_pc E _ _ l hl ?_
        rw [hL]
        simp only
        by_cases h3 : f = 0
        · subst h3
          rw [if_neg (by simp)] at hF
          cases tl with
          | true =>
            rw [if_pos ⟨rfl, rfl⟩] at hF
            simp
            exact aPost_same0 hB rfl (nilV_refl _) (by simp) (fin _ hF)
          | false =>
            rw [if_neg (by simp), if_pos rfl] at hF
            simp
            exact aPost_same0 hB rfl (nilV_refl _) (by simp) (fin _ hF)
        · rw [if_pos h3] at hF
          have h3' : (f != 0) = true := by simpa using h3
          simp [h3']
          exact aPost_same0 hB rfl (nilV_refl _) (by simp) (fin _ hF)
      · rw [if_pos (.inr ⟨rfl, .inr h2⟩)] at hF
        match cs, h2 with
        | [], _ =>
          simp
          exact aPost_same0 hB rfl (nilV_refl _) (by simp) (fin _ hF)
        | [c], h2 =>
          have hat : lat (strs [c]) 0 = some [.str c] := rfl
          have hv : (c != [99, 104, 117, 110, 107, 101, 100]) = true := by simpa [vChunked] using h2
          simp [hat, hv]
          exact aPost_same0 hB rfl (nilV_refl _) (by simp) (fin _ hF)
        | c :: d :: r, _ =>
          have hl : ((r.length : Int) + 1 + 1 != 1) = true := by rw [bne_iff_ne]; omega
          simp [hl]
          exact aPost_same0 hB rfl (nilV_refl _) (by simp) (fin _ hF)
  | false =>
    simp
    refine dlength_pc E _ _ l hl ?_
    rw [hL]
    simp only
    by_cases h3 : f = 0
    · subst h3
      cases tl with
      | true =>
        rw [if_neg (by simp), if_neg (by simp), if_neg (by simp), if_neg (by simp), if_pos rfl] at hF
        simp
        exact aPost_same0 hB rfl (nilV_refl _) (by simp) (fin _ hF)
      | false =>
        rw [if_neg (by simp), if_neg (by simp), if_neg (by simp), if_neg (by simp), if_neg (by simp)] at hF
        simp
        exact aPost_same0 hB rfl (nilV_refl _) (by simp) (fin _ hF)
    · rw [if_neg (by simp), if_pos h3] at hF
      have h3' : (f != 0) = true := by simpa using h3
      simp [h3']
      exact aPost_same0 hB rfl (nilV_refl _) (by simp) (fin _ hF)
end
end Go.Proofs.YtcdkcaocfioigaaGreatDoor

set_option linter.unusedVariables false
set_option linter.unnecessarySimpa false
set_option linter.unusedSimpArgs false
set_option linter.unusedSectionVars false
set_option maxRecDepth 100000
namespace Go.Proofs.YtcdkcaocfioigaaGreatDoor
open Go Go.RowKit Go.Proofs

theorem u8_lit {b : UInt8} {n : Nat} (hn : n < 256) : ((b.toNat : Int) == (n : Int)) = (b == UInt8.ofNat n) := by
  have h2 : (UInt8.ofNat n).toNat = n := by rw [UInt8.toNat_ofNat']; omega
  by_cases h : b = UInt8.ofNat n
  · subst h
    rw [h2]; simp
  · have h' : b.toNat ≠ n := fun e => h (UInt8.toNat_inj.1 (by omega))
    rw [beq_eq_false_iff_ne.2 (by omega : (b.toNat : Int) ≠ n), beq_eq_false_iff_ne.2 h]
section
variable (E : Env) (H : Hp) (Q : AV → Hp → Prop)
theorem dstB_pc (i : Nat) (b : UInt8) (hi : i < 13) (hQ : Q (.bool (stB i b)) H) : PC Tryz.prog E 116 [.int .i64 i, .int .u8 (b.toNat : Int)] H Q := by
  have fin : ∀ a : Bool, stB i b = a → Q (.bool a) H := fun a ha => ha ▸ hQ
  have hbn := b.toNat_lt
  refine pc_enter Tryz.func116 rfl [] [] (by kernel_rfl) (fun hB => ?_)
  by_cases h7 : i < 7
  · obtain ⟨v, hv⟩ : ∃ v, verT[i]? = some v := ⟨_, List.getElem?_eq_getElem (by simp [verT]; omega)⟩
    have hvl : lat [72, 84, 84, 80, 47, 49, 46] i = some v := lat_eq hv
    have h7' : (i : Int) < 7 := by omega
    simp [Tryz.ntmps116, Tryz.results116, List.replicate_succ, h7', h7, hvl]
    refine aPost_same0 hB rfl (nilV_refl _) (by simp) (fin _ ?_)
    unfold stB
    rw [if_pos h7, hv]
    by_cases e : v = b
    · subst e; simp
    · have : b.toNat ≠ v.toNat := fun h => e (UInt8.toNat_inj.1 h.symm)
      rw [decide_eq_false (by simpa using e), eq_comm, beq_eq_false_iff_ne]
      omega
  have h7' : ¬ (i : Int) < 7 := by omega
  by_cases e7 : i = 7
  · subst e7
    by_cases h1 : b.toNat = 48
    · have t1 : ((b.toNat : Int) == 48) = true := by rw [beq_iff_eq]; omega
      simp [Tryz.ntmps116, Tryz.results116, List.replicate_succ, t1]
      exact aPost_same0 hB rfl (nilV_refl _) (by simp) (fin _ (by have : b = 48 := UInt8.toNat_inj.1 h1; subst this; decide))
    · have t1 : ((b.toNat : Int) == 48) = false := by rw [beq_eq_false_iff_ne]; omega
      simp [Tryz.ntmps116, Tryz.results116, List.replicate_succ, t1]
      refine aPost_same0 hB rfl (nilV_refl _) (by simp) (fin _ ?_)
      have hb48 : (b == 48) = false := by rw [beq_eq_false_iff_ne]; intro e; subst e; exact h1 rfl
      unfold stB
      rw [if_neg (by omega), if_pos rfl, hb48]
      have := u8_lit (b := b) (n := 49) (by omega)
      simpa using this.symm
  have e7' : ((i : Int) == 7) = false := by rw [beq_eq_false_iff_ne]; omega
  by_cases e9 : i = 9
  · subst e9
    by_cases h1 : 49 ≤ b.toNat
    · have t1 : (49 : Int) ≤ b.toNat := by omega
      simp [Tryz.ntmps116, Tryz.results116, List.replicate_succ, t1]
      refine aPost_same0 hB rfl (nilV_refl _) (by simp) (fin _ ?_)
      unfold stB
      rw [if_neg (by omega), if_neg (by omega), if_pos rfl]
      rw [Bool.eq_iff_iff]
      simp
      omega
    · have t1 : ¬ (49 : Int) ≤ b.toNat := by omega
      simp [Tryz.ntmps116, Tryz.results116, List.replicate_succ, t1]
      refine aPost_same0 hB rfl (nilV_refl _) (by simp) (fin _ ?_)
      unfold stB
      rw [if_neg (by omega), if_neg (by omega), if_pos rfl, decide_eq_false (by omega)]
  have e9' : ((i : Int) == 9) = false := by rw [beq_eq_false_iff_ne]; omega
  by_cases e1 : i = 10 ∨ i = 11
  · have hst : stB i b = isDig b := by unfold stB; rw [if_neg h7, if_neg e7, if_neg e9, if_pos e1]
    have hdg : isDig b = (decide (48 ≤ b.toNat) && decide (b.toNat ≤ 57)) := by
      unfold isDig
      rw [Bool.eq_iff_iff]; simp
    by_cases h1 : 48 ≤ b.toNat
    · have t1 : (48 : Int) ≤ b.toNat := by omega
      rw [hdg, decide_eq_true h1, Bool.true_and] at hst
      have hd : decide ((b.toNat : Int) ≤ 57) = decide (b.toNat ≤ 57) := by rw [Bool.eq_iff_iff]; simp; omega
      rcases e1 with rfl | rfl
      · simp [Tryz.ntmps116, Tryz.results116, List.replicate_succ, t1]
        exact aPost_same0 hB rfl (nilV_refl _) (by simp) (fin _ (by rw [hst]; simp; omega))
      · simp [Tryz.ntmps116, Tryz.results116, List.replicate_succ, t1]
        exact aPost_same0 hB rfl (nilV_refl _) (by simp) (fin _ (by rw [hst]; simp; omega))
    · have t1 : ¬ (48 : Int) ≤ b.toNat := by omega
      rw [hdg, decide_eq_false h1, Bool.false_and] at hst
      rcases e1 with rfl | rfl
      · simp [Tryz.ntmps116, Tryz.results116, List.replicate_succ, t1]
        exact aPost_same0 hB rfl (nilV_refl _) (by simp) (fin _ hst)
      · simp [Tryz.ntmps116, Tryz.results116, List.replicate_succ, t1]
        exact aPost_same0 hB rfl (nilV_refl _) (by simp) (fin _ hst)
  · have f1 : ((i : Int) == 10) = false := by rw [beq_eq_false_iff_ne]; omega
    have f2 : ((i : Int) == 11) = false := by rw [beq_eq_false_iff_ne]; omega
    have hst : stB i b = (b == 32) := by unfold stB; rw [if_neg h7, if_neg e7, if_neg e9, if_neg e1]
    simp [Tryz.ntmps116, Tryz.results116, List.replicate_succ, h7, h7', e7', e9', f1, f2]
    refine aPost_same0 hB rfl (nilV_refl _) (by simp) (fin _ ?_)
    rw [hst]
    have := u8_lit (b := b) (n := 32) (by omega)
    simpa using this.symm
/-- The byte ahead of a place is a carriage return of the line. -/
def bkA (s : List UInt8) (a i : Nat) : Bool := decide (a < i) && (s[i - 1]? == some 13)
def lnA (s : List UInt8) (a : Nat) : Int × Int × Bool := match lineR (s.take 65536) a with
  | .ok n => (n, 0, true)
  | .bad n => (n, 122, false)
  | .part => if 65536 < s.length then (65536, 125, false) else (s.length, 124, false)
def dlnI (s : List UInt8) (a : Nat) (H : Hp) (fr : List AV) (H' : Hp) : Prop := H' = H ∧ ∃ i : Nat, a ≤ i ∧ i ≤ s.length ∧ i ≤ 65536 ∧ lineS (bkA s a i) ((s.take 65536).drop i) i = lineR (s.take 65536) a ∧
  ∃ x : Nat → AV, fr = [.str s, .int .i64 a, x 2, x 3, x 4, x 5, x 6, .int .i64 i, x 8, x 9, x 10, x 11, x 12, x 13, x 14, x 15, x 16, x 17, x 18, x 19, x 20, x 21, x 22, x 23, x 24, x 25, x 26, x 27, x 28, x 29, x 30, x 31, x 32, x 33, x 34, x 35, x 36, x 37, x 38, x 39, x 40]
theorem bkA_go {s : List UInt8} {a i : Nat} {b : UInt8} (ha : a ≤ i) (hb : s[i]? = some b) : bkA s a (i + 1) = decide (b = 13) := by
  unfold bkA
  rw [decide_eq_true (by omega), Nat.add_sub_cancel, hb, Bool.true_and]
  by_cases h : b = 13
  · subst h; rfl
  · rw [decide_eq_false h, beq_eq_false_iff_ne]; simpa using h
theorem dhline_pc (s : List UInt8) (a : Nat) (ha : a ≤ s.length) (ha2 : a ≤ 65536) (hl : s.length ≤ 1073741824) (hQ : Q (.tup [.int .i64 (lnA s a).1, .int .i64 (lnA s a).2.1, .bool (lnA s a).2.2]) H) : PC Tryz.prog E 90 [.str s, .int .i64 a] H Q := by
  have fin : ∀ p : Int × Int × Bool, lnA s a = p → Q (.tup [.int .i64 p.1, .int .i64 p.2.1, .bool p.2.2]) H := fun p hp => hp ▸ hQ
  refine pc_enter Tryz.func90 rfl [] [] (by kernel_rfl) (fun hB => ?_)
  simp [Tryz.ntmps90, Tryz.results90, List.replicate_succ]
  refine VL_go (dlnI s a H) (fun fr _ => s.length - (ai (aget fr 7)).toNat) ⟨rfl, a, by omega, ha, ha2, by unfold bkA lineR; rw [decide_eq_false (by omega)]; rfl, fr_intro (by simp)⟩ ?_
  rintro fr H' ⟨rfl, i, hai, hi, hi2, hS, x, rfl⟩
  by_cases h : i < s.length
  rotate_left
  · obtain rfl : i = s.length := by omega
    rw [List.drop_of_length_le (by rw [List.length_take]; omega), lineS_nil] at hS
    have e : lnA s a = ((s.length : Int), 124, false) := by unfold lnA; rw [← hS]; simp only; rw [if_neg (by omega)]
    simp
    exact aPost_same0 hB rfl (nilV_refl _) (by simp) (fin _ e)
  by_cases h65 : i = 65536
  · have t1 : ((i : Int) == 65536) = true := by rw [beq_iff_eq]; omega
    rw [List.drop_of_length_le (by rw [List.length_take]; omega), lineS_nil] at hS
    have e : lnA s a = ((i : Int), 125, false) := by unfold lnA; rw [← hS]; simp only; rw [if_pos (by omega), h65]; rfl
    simp [h, t1]
    exact aPost_same0 hB rfl (nilV_refl _) (by simp) (fin _ e)
  have t1 : ((i : Int) == 65536) = false := by rw [beq_eq_false_iff_ne]; omega
  obtain ⟨b, hb⟩ : ∃ b, s[i]? = some b := ⟨_, List.getElem?_eq_getElem h⟩
  have hbt : (s.take 65536)[i]? = some b := by rw [List.getElem?_take_of_lt (by omega)]; exact hb
  have hat := lat_eq hb
  rw [drop_at _ i b hbt] at hS
  have hw : IntKind.i64.wrap ((i : Int) + 1) = i + 1 := wrap_in (by omega) (by omega)
  have t10 := u8_lit (b := b) (n := 10) (by omega)
  have hgo := bkA_go hai hb
  cases hbk : bkA s a i
  · -- no carriage return ahead
    rw [hbk, lineS_go] at hS
    by_cases hgt : a < i
    · have hgt' : (a : Int) < i := by omega
      obtain ⟨c, hc⟩ : ∃ c, s[i - 1]? = some c := ⟨_, List.getElem?_eq_getElem (by omega)⟩
      have hc13 : ((c.toNat : Int) == 13) = false := by
        have := u8_lit (b := c) (n := 13) (by omega)
        unfold bkA at hbk
        rw [decide_eq_true hgt, Bool.true_and, hc] at hbk
        have h2 : (c == 13) = false := by
          rw [beq_eq_false_iff_ne] at hbk ⊢
          intro e; exact hbk (by rw [e])
        exact this.trans h2
      have w1 : IntKind.i64.wrap ((i : Int) - 1) = ((i - 1 : Nat) : Int) := by rw [wrap_in (by omega) (by omega)]; omega
      have hlt1 : i - 1 < s.length := by omega
      have hat1 := lat_eq hc
      by_cases h10 : b = 10
      · subst h10
        rw [if_pos rfl] at hS
        have e : lnA s a = ((i : Int), 122, false) := by unfold lnA; rw [← hS]
        have hne : (false != true) = true := rfl
        simp [h, t1, hgt, hgt', w1, hlt1, hat1, hc13, hat]
        exact aPost_same0 hB rfl (nilV_refl _) (by simp) (fin _ e)
      · rw [if_neg h10, ← hgo] at hS
        have t10' : ((b.toNat : Int) == 10) = false := t10.trans (by rw [beq_eq_false_iff_ne]; exact h10)
        simp [h, t1, hgt, hgt', w1, hlt1, hat1, hc13, hat, t10', hw]
        exact Kloop_normal ⟨rfl, i + 1, by omega, by omega, by omega, hS, fr_intro (by simp)⟩ (by simp; omega)
    · have hgt' : ¬ (a : Int) < i := by omega
      by_cases h10 : b = 10
      · subst h10
        rw [if_pos rfl] at hS
        have e : lnA s a = ((i : Int), 122, false) := by unfold lnA; rw [← hS]
        simp [h, t1, hgt, hgt', hat]
        exact aPost_same0 hB rfl (nilV_refl _) (by simp) (fin _ e)
      · rw [if_neg h10, ← hgo] at hS
        have t10' : ((b.toNat : Int) == 10) = false := t10.trans (by rw [beq_eq_false_iff_ne]; exact h10)
        simp [h, t1, hgt, hgt', hat, t10', hw]
        exact Kloop_normal ⟨rfl, i + 1, by omega, by omega, by omega, hS, fr_intro (by simp)⟩ (by simp; omega)
  · rw [hbk, lineS_back] at hS
    unfold bkA at hbk
    rw [Bool.and_eq_true] at hbk
    have hgt := of_decide_eq_true hbk.1
    have hgt' : (a : Int) < i := by omega
    have hc : s[i - 1]? = some 13 := by simpa using hbk.2
    have w1 : IntKind.i64.wrap ((i : Int) - 1) = ((i - 1 : Nat) : Int) := by rw [wrap_in (by omega) (by omega)]; omega
    have hlt1 : i - 1 < s.length := by omega
    have hat1 := lat_eq hc
    by_cases h10 : b = 10
    · subst h10
      rw [if_pos rfl] at hS
      have e : lnA s a = (((i + 1 : Nat) : Int), 0, true) := by unfold lnA; rw [← hS]
      simp [h, t1, hgt, hgt', w1, hlt1, hat1, hat, hw]
      exact aPost_same0 hB rfl (nilV_refl _) (by simp) (fin _ e)
    · rw [if_neg h10] at hS
      have e : lnA s a = ((i : Int), 122, false) := by unfold lnA; rw [← hS]
      have t10' : ((b.toNat : Int) == 10) = false := t10.trans (by rw [beq_eq_false_iff_ne]; exact h10)
      simp [h, t1, hgt, hgt', w1, hlt1, hat1, hat, t10']
      exact aPost_same0 hB rfl (nilV_refl _) (by simp) (fin _ e)
def stA (s : List UInt8) : Int × Int × Bool := match stR s with
  | .ok n => (n, 0, true)
  | .bad n => (n, 122, false)
  | .part => (s.length, 124, false)
def dstI1 (s : List UInt8) (H : Hp) (fr : List AV) (H' : Hp) : Prop := H' = H ∧ ∃ i : Nat, i ≤ 13 ∧ i ≤ s.length ∧ preR s (13 - i) i = preR s 13 0 ∧ ∃ x : Nat → AV, fr = [.str s, x 1, x 2, x 3, x 4, .int .i64 i, x 6, x 7, x 8, x 9, x 10, x 11, x 12, x 13, x 14, x 15, x 16, x 17, x 18, x 19, x 20, x 21, x 22, x 23, x 24, x 25, x 26, x 27, x 28, x 29, x 30, x 31, x 32, x 33, x 34, x 35, x 36, x 37, x 38, x 39, x 40, x 41, x 42, x 43, x 44, x 45, x 46, x 47, x 48, x 49, x 50, x 51, x 52, x 53, x 54, x 55, x 56, x 57, x 58, x 59, x 60, x 61]
def dstI2 (s : List UInt8) (H : Hp) (fr : List AV) (H' : Hp) : Prop := H' = H ∧ ∃ i : Nat, 13 ≤ i ∧ i ≤ s.length ∧ i ≤ 269 ∧ reasonR (s.drop i) (i - 13) i = stR s ∧ ∃ x : Nat → AV, fr = [.str s, x 1, x 2, x 3, x 4, x 5, .int .i64 i, x 7, x 8, x 9, x 10, x 11, x 12, x 13, x 14, x 15, x 16, x 17, x 18, x 19, x 20, x 21, x 22, x 23, x 24, x 25, x 26, x 27, x 28, x 29, x 30, x 31, x 32, x 33, x 34, x 35, x 36, x 37, x 38, x 39, x 40, x 41, x 42, x 43, x 44, x 45, x 46, x 47, x 48, x 49, x 50, x 51, x 52, x 53, x 54, x 55, x 56, x 57, x 58, x 59, x 60, x 61]
theorem dstatus_pc (s : List UInt8) (hl : s.length ≤ 1073741824) (hQ : Q (.tup [.int .i64 (stA s).1, .int .i64 (stA s).2.1, .bool (stA s).2.2]) H) : PC Tryz.prog E 89 [.str s] H Q := by
  have fin : ∀ p : Int × Int × Bool, stA s = p → Q (.tup [.int .i64 p.1, .int .i64 p.2.1, .bool p.2.2]) H := fun p hp => hp ▸ hQ
  refine pc_enter Tryz.func89 rfl [] [] (by kernel_rfl) (fun hB => ?_)
  simp [Tryz.ntmps89, Tryz.results89, List.replicate_succ]
  refine VL_go (dstI1 s H) (fun fr _ => 13 - (ai (aget fr 5)).toNat) ⟨rfl, 0, by omega, by omega, rfl, fr_intro (by simp)⟩ ?_
  rintro fr H' ⟨rfl, i, hi, hil, hS, x, rfl⟩
  by_cases h : i < 13
  · have h13 : (i : Int) < 13 := by omega
    obtain ⟨m, hm⟩ : ∃ m, 13 - i = m + 1 := ⟨12 - i, by omega⟩
    rw [hm] at hS
    by_cases he : i = s.length
    · have t1 : ((i : Int) == s.length) = true := by rw [beq_iff_eq]; omega
      rw [preR_end s m i (List.getElem?_eq_none (by omega))] at hS
      have e : stA s = ((i : Int), 124, false) := by unfold stA; rw [stR_part hS.symm, he]
      simp [h13, t1]
      exact aPost_same0 hB rfl (nilV_refl _) (by simp) (fin _ e)
    have t1 : ((i : Int) == s.length) = false := by rw [beq_eq_false_iff_ne]; omega
    have hlt : i < s.length := by omega
    obtain ⟨b, hb⟩ : ∃ b, s[i]? = some b := ⟨_, List.getElem?_eq_getElem hlt⟩
    have hat := lat_eq hb
    have hw : IntKind.i64.wrap ((i : Int) + 1) = i + 1 := wrap_in (by omega) (by omega)
    simp [h13, t1, hlt, hat]
    refine dstB_pc E _ _ i b h ?_
    cases hst : stB i b
    · rw [preR_bad hb hst] at hS
      have e : stA s = ((i : Int), 122, false) := by unfold stA; rw [stR_bad hS.symm]
      simp
      exact aPost_same0 hB rfl (nilV_refl _) (by simp) (fin _ e)
    · rw [preR_ok hb hst] at hS
      simp [hw]
      exact Kloop_normal ⟨rfl, i + 1, by omega, by omega, by rw [show 13 - (i + 1) = m by omega]; exact hS, fr_intro (by simp)⟩ (by simp; omega)
  · obtain rfl : i = 13 := by omega
    have hpre : preR s 13 0 = .ok 13 := hS.symm
    have hR := stR_ok hpre
    simp
    refine VL_go (dstI2 s H') (fun fr _ => s.length - (ai (aget fr 6)).toNat) ⟨rfl, 13, by omega, hil, by omega, by rw [hR], fr_intro (by simp)⟩ ?_
    rintro fr H' ⟨rfl, i, hi13, hil, hi2, hS, x, rfl⟩
    by_cases h : i < s.length
    rotate_left
    · obtain rfl : i = s.length := by omega
      rw [List.drop_of_length_le (Nat.le_refl _), reasonR_nil] at hS
      have e : stA s = ((s.length : Int), 124, false) := by unfold stA; rw [← hS]
      simp
      exact aPost_same0 hB rfl (nilV_refl _) (by simp) (fin _ e)
    obtain ⟨b, hb⟩ : ∃ b, s[i]? = some b := ⟨_, List.getElem?_eq_getElem h⟩
    have hat := lat_eq hb
    have hw : IntKind.i64.wrap ((i : Int) + 1) = i + 1 := wrap_in (by omega) (by omega)
    rw [drop_at s i b hb] at hS
    have t13 := u8_lit (b := b) (n := 13) (by omega)
    by_cases h13 : b = 13
    · subst h13
      by_cases he : i + 1 = s.length
      · rw [List.drop_of_length_le (by omega), reasonR_cr1] at hS
        have t1 : ((i : Int) + 1 == s.length) = true := by rw [beq_iff_eq]; omega
        have e : stA s = ((i : Int) + 1, 124, false) := by unfold stA; rw [← hS]; simp only; rw [← he]; simp
        simp [h, hat, hw, t1]
        exact aPost_same0 hB rfl (nilV_refl _) (by simp) (fin _ e)
      have t1 : ((i : Int) + 1 == s.length) = false := by rw [beq_eq_false_iff_ne]; omega
      have hlt2 : i + 1 < s.length := by omega
      obtain ⟨c, hc⟩ : ∃ c, s[i + 1]? = some c := ⟨_, List.getElem?_eq_getElem hlt2⟩
      have hat2 := lat_eq hc
      have tn : ((i : Int) + 1).toNat = i + 1 := by omega
      have hge : (0 : Int) ≤ (i : Int) + 1 := by omega
      have hlt3 : (i : Int) + 1 < s.length := by omega
      rw [drop_at s (i + 1) c hc, reasonR_cr] at hS
      have t10 := u8_lit (b := c) (n := 10) (by omega)
      have hw2 : IntKind.i64.wrap ((i : Int) + 2) = i + 2 := wrap_in (by omega) (by omega)
      by_cases h10 : c = 10
      · subst h10
        rw [if_pos rfl] at hS
        have e : stA s = ((i : Int) + 2, 0, true) := by unfold stA; rw [← hS]; rfl
        simp [h, hat, hw, t1, tn, hge, hlt3, hat2, hw2]
        exact aPost_same0 hB rfl (nilV_refl _) (by simp) (fin _ e)
      · rw [if_neg h10] at hS
        have e : stA s = ((i : Int) + 1, 122, false) := by unfold stA; rw [← hS]; rfl
        have t10' : ((c.toNat : Int) == 10) = false := t10.trans (by rw [beq_eq_false_iff_ne]; exact h10)
        have t10n : ((c.toNat : Int) != 10) = true := by rw [bne, t10']; rfl
        simp [h, hat, hw, t1, tn, hge, hlt3, hat2, t10n]
        exact aPost_same0 hB rfl (nilV_refl _) (by simp) (fin _ e)
    have t13' : ((b.toNat : Int) == 13) = false := t13.trans (by rw [beq_eq_false_iff_ne]; exact h13)
    have w13 : IntKind.i64.wrap ((i : Int) - 13) = (i : Int) - 13 := wrap_in (by omega) (by omega)
    by_cases h256 : i = 269
    · have t2 : ((i : Int) - 13 == 256) = true := by rw [beq_iff_eq]; omega
      rw [reasonR_bad b _ _ _ h13 (.inl (by omega))] at hS
      have e : stA s = ((i : Int), 122, false) := by unfold stA; rw [← hS]
      simp [h, hat, t13', w13, t2]
      exact aPost_same0 hB rfl (nilV_refl _) (by simp) (fin _ e)
    have t2 : ((i : Int) - 13 == 256) = false := by rw [beq_eq_false_iff_ne]; omega
    simp [h, hat, t13', w13, t2]
    refine inside_pc E _ _ b ?_
    cases hf : fcB b
    · rw [reasonR_bad b _ _ _ h13 (.inr hf)] at hS
      have e : stA s = ((i : Int), 122, false) := by unfold stA; rw [← hS]
      simp
      exact aPost_same0 hB rfl (nilV_refl _) (by simp) (fin _ e)
    · rw [reasonR_go b _ _ _ h13 (by rintro (h | h); omega; rw [hf] at h; cases h)] at hS
      simp [hw]
      exact Kloop_normal ⟨rfl, i + 1, by omega, by omega, by omega, by rw [show i + 1 - 13 = i - 13 + 1 by omega]; exact hS, fr_intro (by simp)⟩ (by simp; omega)
end
end Go.Proofs.YtcdkcaocfioigaaGreatDoor

set_option linter.unusedVariables false
set_option linter.unnecessarySimpa false
set_option linter.unusedSimpArgs false
set_option linter.unusedSectionVars false
set_option maxRecDepth 100000
namespace Go.Proofs.YtcdkcaocfioigaaGreatDoor
open Go Go.RowKit Go.Proofs

section
variable (E : Env) (H : Hp) (Q : AV → Hp → Prop)
set_option maxHeartbeats 1000000 in
theorem dlineX_pc (l : List UInt8) (hl : l.length ≤ cap) (hQ : Q (.tup [.agg [.str (lineX l).1.name, .str (lineX l).1.value], .int .i64 (lineX l).2.1, .int .i64 (lineX l).2.2]) H) :
    PC Tryz.prog E 93 [.str l] H Q := by
  refine pc_enter Tryz.func93 rfl [] [] (by kernel_rfl) (fun hB => ?_)
  have hl' := hl
  simp only [cap] at hl'
  have bad : ∀ (fr : List AV) (pl e : Int), lineX l = ((⟨[], []⟩ : Fld), pl, e) → aget fr 2 = .ptr (some (H.length, 0)) → aget fr 3 = .int .i64 pl → aget fr 4 = .int .i64 e → aPost Tryz.prog [ResultVar.cell 2 102, ResultVar.tmp 3, ResultVar.tmp 4] H.length Q .ret fr (H ++ [[.str [], .str []]]) := fun fr pl e h0 h2 h3 h4 =>
    aPost_same hB (v0 := .tup [.agg [.str [], .str []], .int .i64 pl, .int .i64 e]) (by simp [h2, h3, h4]) (nilV_refl _) (by simp) (by rw [h0] at hQ; exact hQ)
  obtain ⟨c, hc⟩ : ∃ c, run ncol l = c := ⟨_, rfl⟩
  have hcl := run_le ncol l
  rw [hc] at hcl
  have hib := indexByte_run l
  rw [hc] at hib
  have hcase : (∃ a r, l = a :: r ∧ blankB a = true) ∨ (l = [] ∨ ∃ a r, l = a :: r ∧ blankB a = false) := by
    cases l with
    | nil => exact .inr (.inl rfl)
    | cons a r =>
      cases hb : blankB a
      · exact .inr (.inr ⟨a, r, rfl, hb⟩)
      · exact .inl ⟨a, r, rfl, hb⟩
  have key : ∀ fr : List AV, (∃ x : Nat → AV, fr = [.str l, x 1, .ptr (some (H.length, 0)), x 3, x 4, x 5, x 6, x 7, x 8, x 9, x 10, x 11, x 12, x 13, x 14, x 15, x 16, x 17, x 18, x 19, x 20, x 21, x 22, x 23, x 24, x 25, x 26, x 27, x 28, x 29, x 30, x 31, x 32, x 33, x 34, x 35, x 36, x 37, x 38, x 39, x 40, x 41, x 42, x 43, x 44, x 45, x 46, x 47, x 48, x 49, x 50, x 51, x 52, x 53, x 54, x 55, x 56, x 57, x 58, x 59, x 60, x 61, x 62, x 63, x 64, x 65, x 66, x 67, x 68, x 69, x 70, x 71, x 72, x 73, x 74, x 75, x 76, x 77, x 78, x 79, x 80, x 81, x 82]) → True := fun _ _ => trivial
  rcases hcase with ⟨a, r, rfl, hb⟩ | hcase
  · have hc0 := lineX_fold a r hb
    have hne : (a :: r != []) = true := rfl
    simp [Tryz.ntmps93, Tryz.results93, List.replicate_succ, hne]
    refine ref_blank_pc E _ _ a ?_
    simp [hb]
    exact bad _ 0 63 hc0 rfl rfl rfl
  case' inr =>
    rcases hcase with rfl | ⟨a, r, hl0, hb⟩
    case' inl =>
      simp [Tryz.ntmps93, Tryz.results93, List.replicate_succ]
    case' inr =>
      have hne : (l != []) = true := by rw [hl0]; rfl
      have hl1 : 0 < l.length := by rw [hl0]; simp
      have hla : lat l 0 = some a := by rw [hl0]; rfl
      simp [Tryz.ntmps93, Tryz.results93, List.replicate_succ, hne, hl1, hla]
      refine ref_blank_pc E _ _ a ?_
      simp [hb]
      have hnf : lnb l = false := by rw [hl0]; exact hb
      clear hne hla hl0
  rotate_left
  · refine find_pc E _ _ [] 58 (by simp [cap]) ?_
    rw [show Lib.indexByte [] 58 = -1 from rfl]
    simp
    exact bad _ 0 62 lineX_nil rfl rfl rfl
  · refine find_pc E _ _ l 58 hl ?_
    rw [hib]
    by_cases hcc : c < l.length
    rotate_left
    · have hno := lineX_nocol hnf (by omega)
      simp [hcc]
      exact bad _ l.length 62 hno rfl rfl rfl
    · by_cases hz : c = 0
      · have hno := lineX_zero hnf (by omega) (by omega)
        subst hz
        simp [hcc]
        exact bad _ 0 60 hno rfl rfl rfl
      · have hz2 : ((c : Int) == 0) = false := by simp; omega
        simp [hcc, hz, hz2]
        refine VL_go (dlInv1 l c H) (fun fr _ => c - (ai (aget fr 6)).toNat) ⟨rfl, 0, by omega, by omega, by simp, fr_intro (by simp)⟩ ?_
        rintro fr H' ⟨rfl, i, hi, hi2, hall, x, rfl⟩
        by_cases h : i < c
        · obtain ⟨b, hbi⟩ : ∃ b, l[i]? = some b := ⟨_, List.getElem?_eq_getElem (by omega)⟩
          have hat := lat_eq hbi
          by_cases h128 : i = 128
          · have hno := lineX_long hnf (by omega) (by omega) hall (by omega) (by omega) (by omega)
            subst h128
            have h' : (128 : Int) < c := by omega
            simp [h']
            exact bad _ 128 60 hno rfl rfl rfl
          · have h128' : ((i : Int) == 128) = false := by simp; omega
            have hw : IntKind.i64.wrap ((i : Int) + 1) = i + 1 := wrap_in (by omega) (by omega)
            have hil : i < l.length := by omega
            simp [h, h128', hat, hil]
            refine ref_sign_pc E _ _ b ?_
            cases hs : signB b with
            | false =>
              have hno := lineX_bad hnf (by omega) (by omega) hall (by omega) (by omega) hbi hs
              simp
              exact bad _ i 60 hno rfl rfl rfl
            | true =>
              simp [hw]
              exact Kloop_normal ⟨rfl, i + 1, by omega, by omega, by rw [all_take signB l i b hbi, hall, hs]; rfl, fr_intro (by simp)⟩ (by simp; omega)
        · obtain rfl : i = c := by omega
          have hnm : nameB (l.take i) = true := by
            have : l.take i ≠ [] := by intro e; have h2 := congrArg List.length e; rw [List.length_take] at h2; have h3 : min i l.length = 0 := h2; omega
            unfold nameB tokB
            rw [hall, decide_eq_true (by rw [List.length_take]; omega)]
            simpa using this
          have hw : IntKind.i64.wrap ((i : Int) + 1) = ((i + 1 : Nat) : Int) := by rw [wrap_in (by omega) (by omega)]; omega
          simp [hw, -Int.natCast_add]
          refine VL_go (dlInv2 l i H) (fun fr _ => l.length - (ai (aget fr 7)).toNat) ⟨rfl, i + 1, by omega, by omega, by simp [fldB], fr_intro (by simp)⟩ ?_
          rintro fr H' ⟨rfl, k, hk, hk2, hfl, y, rfl⟩
          by_cases hkl : k < l.length
          · obtain ⟨b, hbk⟩ : ∃ b, l[k]? = some b := ⟨_, List.getElem?_eq_getElem hkl⟩
            have hat := lat_eq hbk
            have hwk : IntKind.i64.wrap ((k : Int) + 1) = k + 1 := wrap_in (by omega) (by omega)
            have hdk : (l.drop (i + 1))[k - (i + 1)]? = some b := by rw [List.getElem?_drop, show i + 1 + (k - (i + 1)) = k by omega]; exact hbk
            simp [hkl, hat]
            refine inside_pc E _ _ b ?_
            cases hs : fcB b with
            | false =>
              have hno := lineX_val hnf (by omega) (by rw [hc]; exact hnm) (i := k) (by omega) (by rw [hc]; exact hfl) (by rw [hc]; exact hdk) hs
              simp
              exact bad _ k 61 (by rw [hno]; congr 2; omega) rfl rfl rfl
            | true =>
              simp [hwk]
              refine Kloop_normal ⟨rfl, k + 1, by omega, by omega, ?_, fr_intro (by simp)⟩ (by simp; omega)
              rw [show k + 1 - (i + 1) = k - (i + 1) + 1 by omega, fldB, all_take fcB _ _ b hdk]
              rw [fldB] at hfl
              rw [hfl, hs]; rfl
          · have hfl' : fldB (l.drop (i + 1)) = true := by
              rw [List.take_of_length_le (by rw [List.length_drop]; omega)] at hfl; exact hfl
            have hi1 : i + 1 ≤ l.length := by omega
            simp [hkl, hw, hi1, -Int.natCast_add]
            refine ref_trim_pc E _ _ (l.drop (i + 1)) (by rw [List.length_drop]; omega) ?_
            have htl := trimB_len (l.drop (i + 1))
            rw [List.length_drop] at htl
            by_cases hbig : 8192 < (trimB (l.drop (i + 1))).length
            · have hno := lineX_big hnf (by omega) (by rw [hc]; exact hnm) (by rw [hc]; exact hfl') (by rw [hc]; exact hbig)
              have hbig' : (8192 : Int) < (trimB (l.drop (i + 1))).length := by omega
              simp [hbig', hw, -Int.natCast_add]
              refine VL_go (dlInv3 l i H) (fun fr _ => l.length - (ai (aget fr 9)).toNat) ⟨rfl, i + 1, by omega, by omega, by simp, fr_intro (by simp)⟩ ?_
              rintro fr H' ⟨rfl, m, hm, hm2, hbl, z, rfl⟩
              have hml : m < l.length := by
                apply Nat.lt_of_not_le
                intro hge
                rw [List.take_of_length_le (by rw [List.length_drop]; omega)] at hbl
                rw [trimB_all _ hbl] at hbig
                simp at hbig
              obtain ⟨b, hbm⟩ : ∃ b, l[m]? = some b := ⟨_, List.getElem?_eq_getElem hml⟩
              have hat := lat_eq hbm
              have hwm : IntKind.i64.wrap ((m : Int) + 1) = m + 1 := wrap_in (by omega) (by omega)
              have hwm2 : IntKind.i64.wrap ((m : Int) + 8192) = m + 8192 := wrap_in (by omega) (by omega)
              have hdm : (l.drop (i + 1))[m - (i + 1)]? = some b := by rw [List.getElem?_drop, show i + 1 + (m - (i + 1)) = m by omega]; exact hbm
              simp [hml, hat]
              refine ref_blank_pc E _ _ b ?_
              cases hs : blankB b with
              | false =>
                simp [hwm2]
                have hrb := run_step blankB (l.drop (i + 1)) _ hbl (by rw [List.length_drop]; omega) (fun c hc => by rw [hdm] at hc; cases hc; exact hs)
                exact bad _ (m + 8192) 61 (by rw [hno, hc, hrb]; congr 2; omega) rfl rfl rfl
              | true =>
                simp [hwm]
                refine Kloop_normal ⟨rfl, m + 1, by omega, by omega, ?_, fr_intro (by simp)⟩ (by simp; omega)
                rw [show m + 1 - (i + 1) = m - (i + 1) + 1 by omega, all_take blankB _ _ b hdm, hbl, hs]; rfl
            · have hbig' : ¬ (8192 : Int) < (trimB (l.drop (i + 1))).length := by omega
              have hf := lineX_yes hnf (by omega) (by rw [hc]; exact hnm) (by rw [hc]; exact hfl') (by rw [hc]; exact hbig)
              rw [hc] at hf
              rw [hf] at hQ
              have hil : i ≤ l.length := by omega
              simp [hbig', hil]
              exact aPost_same hB (v0 := .tup [.agg [.str (l.take i), .str (trimB (l.drop (i + 1)))], .int .i64 0, .int .i64 0]) (by simp) (nilV_refl _) (by simp) hQ
end
end Go.Proofs.YtcdkcaocfioigaaGreatDoor

set_option linter.unusedVariables false
set_option linter.unnecessarySimpa false
set_option linter.unusedSimpArgs false
set_option linter.unusedSectionVars false
set_option maxRecDepth 100000
namespace Go.Proofs.YtcdkcaocfioigaaGreatDoor
open Go Go.RowKit Go.Proofs

theorem preR_partlen (s : List UInt8) : ∀ (n i : Nat), preR s n i = .part → s.length < i + n
  | 0, i, h => by rw [preR] at h; cases h
  | n + 1, i, h => by
    cases hb : s[i]? with
    | none =>
      have := List.getElem?_eq_none_iff.1 hb
      omega
    | some b =>
      cases hs : stB i b with
      | false => rw [preR_bad hb hs] at h; cases h
      | true =>
        rw [preR_ok hb hs] at h
        have := preR_partlen s n (i + 1) h
        omega
theorem preR_all (s : List UInt8) : ∀ (n i j : Nat), preR s n i = .ok j → ∀ k, i ≤ k → k < i + n → ∃ b, s[k]? = some b ∧ stB k b = true
  | 0, i, j, h, k, h1, h2 => by omega
  | n + 1, i, j, h, k, h1, h2 => by
    cases hb : s[i]? with
    | none => rw [preR_end s n i hb] at h; cases h
    | some b =>
      cases hs : stB i b with
      | false => rw [preR_bad hb hs] at h; cases h
      | true =>
        rw [preR_ok hb hs] at h
        by_cases hk : k = i
        · subst hk; exact ⟨b, hb, hs⟩
        · exact preR_all s n (i + 1) j h k (by omega) (by omega)
theorem reasonR_partlen : ∀ (l : List UInt8) (k i : Nat), k ≤ 256 → reasonR l k i = .part → l.length + k ≤ 258
  | [], k, i, hk, h => by simp; omega
  | b :: r, k, i, hk, h => by
    by_cases h13 : b = 13
    · subst h13
      cases r with
      | nil => simp; omega
      | cons c r => rw [reasonR_cr] at h; split at h <;> cases h
    · by_cases hb : 256 ≤ k ∨ fcB b = false
      · rw [reasonR_bad b r k i h13 hb] at h; cases h
      · rw [reasonR_go b r k i h13 hb] at h
        have := reasonR_partlen r (k + 1) (i + 1) (by omega) h
        simp only [List.length_cons]
        omega
theorem stR_partlen {s : List UInt8} (h : stR s = .part) : s.length ≤ 271 := by
  cases hp : preR s 13 0 with
  | part => have := preR_partlen s 13 0 hp; omega
  | bad n => rw [stR_bad hp] at h; cases h
  | ok n =>
    rw [stR_ok hp] at h
    have := reasonR_partlen _ _ _ (by omega) h
    rw [List.length_drop] at this
    omega
theorem stR_cut (s : List UInt8) : stR (s.take 65536) = stR s := by
  by_cases hl : s.length ≤ 65536
  · rw [List.take_of_length_le hl]
  cases h : stR (s.take 65536) with
  | part =>
    have := stR_partlen h
    rw [List.length_take] at this
    omega
  | bad n =>
    have := stR_ext (s := s.take 65536) (s.drop 65536) (by rw [h]; simp)
    rw [List.take_append_drop] at this
    rw [this, h]
  | ok n =>
    have := stR_ext (s := s.take 65536) (s.drop 65536) (by rw [h]; simp)
    rw [List.take_append_drop] at this
    rw [this, h]
section
variable (E : Env) (H : Hp) (Q : AV → Hp → Prop)
def dhdI (s : List UInt8) (st mi : Int) (re : List UInt8) (F : HD) (H : Hp) (fr : List AV) (H' : Hp) : Prop := ∃ (J : Hp) (a n : Nat) (fs : List Fld), a ≤ (s.take 65536).length ∧ (s.take 65536).length < a + n ∧ fieldsR (s.take 65536) (decide (mi = 0)) n a fs = F ∧ fsz fs + fs.length ≤ a ∧ fs.length ≤ 100 ∧
  H' = H ++ ([rcells 0 [] 0, rcellsF st re fs mi 0 0 false] ++ J) ∧
  ∃ x : Nat → AV, fr = [.str s, x 1, .ptr (some (H.length, 0)), x 3, x 4, .int .i64 a, x 6, x 7, .ptr (some (H.length + 1, 0)), x 9, x 10, x 11, x 12, x 13, x 14, x 15, x 16, x 17, x 18, x 19, x 20, x 21, x 22, x 23, x 24, x 25, x 26, x 27, x 28, x 29, x 30, x 31, x 32, x 33, x 34, x 35, x 36, x 37, x 38, x 39, x 40, x 41, x 42, x 43, x 44, x 45, x 46, x 47, x 48, x 49, x 50, x 51, x 52, x 53, x 54, x 55, x 56, x 57, x 58, x 59, x 60, x 61, x 62, x 63, x 64, x 65, x 66, x 67, x 68, x 69, x 70, x 71, x 72, x 73, x 74, x 75, x 76, x 77, x 78, x 79, x 80, x 81, x 82, x 83, x 84, x 85, x 86, x 87, x 88, x 89, x 90, x 91, x 92, x 93, x 94, x 95, x 96, x 97, x 98, x 99, x 100, x 101, x 102, x 103, x 104, x 105, x 106, x 107, x 108, x 109, x 110, x 111, x 112, x 113, x 114, x 115, x 116, x 117, x 118, x 119, x 120, x 121, x 122, x 123, x 124, x 125, x 126, x 127, x 128, x 129, x 130, x 131, x 132, x 133, x 134, x 135]
set_option maxHeartbeats 2000000 in
theorem dphead_pc (s : List UInt8) (hl : s.length ≤ 1073741824) (hQ : Q (.tup [.agg (headM s).1.avs, .int .i64 (headM s).2.1, .int .i64 (headM s).2.2]) H) : PC Tryz.prog E 58 [.str s] H Q := by
  refine PC.nilT ?_
  have hnil : nilL (rcells 0 [] 0) rep0.avs := ⟨.inl rfl, .inl rfl, .inr ⟨rfl, false, 2, rfl⟩, .inl rfl, .inl rfl, .inr ⟨rfl, false, 2, rfl⟩, .inl rfl, .inl rfl, .inl rfl, trivial⟩
  have hfree : ∀ r : Rep, ∀ x ∈ r.avs, x.free = true := fun r => by simp [Rep.avs, AV.free]
  have fin : ∀ p : Rep × Int × Int, headM s = p → Q (.tup [.agg p.1.avs, .int .i64 p.2.1, .int .i64 p.2.2]) H := fun p hp => hp ▸ hQ
  have bad : ∀ a e : Int, headM s = (rep0, a, e) → Q (.tup [.agg rep0.avs, .int .i64 a, .int .i64 e]) H := fun a e h => fin _ h
  have hM := headM_eq s
  have hcut := stR_cut s
  have htl : (s.take 65536).length ≤ s.length ∧ (s.take 65536).length ≤ 65536 := by rw [List.length_take]; omega
  refine pc_enter Tryz.func58 rfl [129] [] (by kernel_rfl) (fun hB => ?_)
  simp [Tryz.ntmps58, Tryz.results58, List.replicate_succ]
  refine dstatus_pc E _ _ s hl ?_
  cases hst : stR s with
  | part =>
    have e : stA s = ((s.length : Int), 124, false) := by unfold stA; rw [hst]
    have hO : headO (s.take 65536) = none := by unfold headO; rw [hcut, hst]
    have hlen := stR_partlen hst
    rw [hO, if_neg (by omega)] at hM
    rw [e]
    simp
    exact aPost_same hB (v0 := .tup [.agg (rcells 0 [] 0), .int .i64 s.length, .int .i64 124]) (by simp [rcells]) (nilV_refl _) (by simp [rcells]) ⟨_, _, _, rfl, hnil, hfree _, bad _ _ hM⟩
  | bad n =>
    have e : stA s = ((n : Int), 122, false) := by unfold stA; rw [hst]
    have hO : headO (s.take 65536) = some (rep0, (n : Int), 122) := by unfold headO; rw [hcut, hst]
    rw [hO] at hM
    rw [e]
    simp
    exact aPost_same hB (v0 := .tup [.agg (rcells 0 [] 0), .int .i64 n, .int .i64 122]) (by simp [rcells]) (nilV_refl _) (by simp [rcells]) ⟨_, _, _, rfl, hnil, hfree _, bad _ _ hM⟩
  | ok a0 =>
    have e : stA s = ((a0 : Int), 0, true) := by unfold stA; rw [hst]
    rw [e]
    obtain ⟨hpre, h13, _, ha15, ha⟩ := stR_pre hst
    obtain ⟨_, _, _, _, haT⟩ := stR_pre (hcut.trans hst)
    have hall := preR_all s 13 0 13 hpre
    have dgs : ∀ k, k = 7 ∨ k = 9 ∨ k = 10 ∨ k = 11 → ∃ b : UInt8, s[k]? = some b ∧ lat s k = some b ∧ k < s.length ∧ 48 ≤ b.toNat ∧ b.toNat ≤ 57 ∧ dg s k = (b.toNat : Int) - 48 ∧ dg (s.take 65536) k = (b.toNat : Int) - 48 := fun k hk => by
      obtain ⟨b, hb, hs⟩ := hall k (by omega) (by omega)
      have hlt := (List.getElem?_eq_some_iff.1 hb).1
      have hr := may_dig' (b := b) (by rcases hk with rfl | rfl | rfl | rfl <;> simp [hs])
      exact ⟨b, hb, lat_eq hb, hlt, hr.1, hr.2, dg_at hb, dg_at (by rw [List.getElem?_take_of_lt (by omega)]; exact hb)⟩
    obtain ⟨b7, g7, l7, k7, r7, q7, d7, e7⟩ := dgs 7 (by omega)
    obtain ⟨b9, g9, l9, k9, r9, q9, d9, e9⟩ := dgs 9 (by omega)
    obtain ⟨b10, g10, l10, k10, r10, q10, d10, e10⟩ := dgs 10 (by omega)
    obtain ⟨b11, g11, l11, k11, r11, q11, d11, e11⟩ := dgs 11 (by omega)
    have u7 := u8_sub48 b7.toNat b7.toNat_lt r7
    have u9 := u8_sub48 b9.toNat b9.toNat_lt r9
    have u10 := u8_sub48 b10.toNat b10.toNat_lt r10
    have u11 := u8_sub48 b11.toNat b11.toNat_lt r11
    have w7 : IntKind.i64.wrap ((b7.toNat : Int) - 48) = (b7.toNat : Int) - 48 := wrap_in (by omega) (by omega)
    have w9 : IntKind.i64.wrap ((b9.toNat : Int) - 48) = (b9.toNat : Int) - 48 := wrap_in (by omega) (by omega)
    have w10 : IntKind.i64.wrap ((b10.toNat : Int) - 48) = (b10.toNat : Int) - 48 := wrap_in (by omega) (by omega)
    have w11 : IntKind.i64.wrap ((b11.toNat : Int) - 48) = (b11.toNat : Int) - 48 := wrap_in (by omega) (by omega)
    have v9 : IntKind.i64.wrap (100 * ((b9.toNat : Int) - 48)) = 100 * ((b9.toNat : Int) - 48) := wrap_in (by omega) (by omega)
    have v10 : IntKind.i64.wrap (10 * ((b10.toNat : Int) - 48)) = 10 * ((b10.toNat : Int) - 48) := wrap_in (by omega) (by omega)
    have v1 : IntKind.i64.wrap (100 * ((b9.toNat : Int) - 48) + 10 * ((b10.toNat : Int) - 48)) = 100 * ((b9.toNat : Int) - 48) + 10 * ((b10.toNat : Int) - 48) := wrap_in (by omega) (by omega)
    have v2 : IntKind.i64.wrap (100 * ((b9.toNat : Int) - 48) + 10 * ((b10.toNat : Int) - 48) + ((b11.toNat : Int) - 48)) = 100 * ((b9.toNat : Int) - 48) + 10 * ((b10.toNat : Int) - 48) + ((b11.toNat : Int) - 48) := wrap_in (by omega) (by omega)
    have wa : IntKind.i64.wrap ((a0 : Int) - 2) = ((a0 - 2 : Nat) : Int) := by rw [wrap_in (by omega) (by omega)]; omega
    have sl1 : (13 : Nat) ≤ a0 - 2 := by omega
    have sl2 : a0 - 2 ≤ s.length := by omega
    simp [l7, k7, u7, w7, l9, k9, u9, w9, v9, l10, k10, u10, w10, v10, l11, k11, u11, w11, v1, v2, wa, sl1, sl2]
    obtain ⟨st, hst2⟩ : ∃ st, 100 * ((b9.toNat : Int) - 48) + 10 * ((b10.toNat : Int) - 48) + ((b11.toNat : Int) - 48) = st := ⟨_, rfl⟩
    obtain ⟨re, hre⟩ : ∃ re, (s.drop 13).take (a0 - 2 - 13) = re := ⟨_, rfl⟩
    obtain ⟨mi, hmi⟩ : ∃ mi, (b7.toNat : Int) - 48 = mi := ⟨_, rfl⟩
    obtain ⟨F, hF⟩ : ∃ F, fieldsR (s.take 65536) (decide (mi = 0)) ((s.take 65536).length + 1) a0 [] = F := ⟨_, rfl⟩
    have hre2 : ((s.take 65536).drop 13).take (a0 - 2 - 13) = re := by
      rw [← hre, List.drop_take, List.take_take, Nat.min_eq_left (by omega)]
    have hO : headO (s.take 65536) = hdO mi st re F := by
      unfold headO
      rw [hcut, hst]
      simp only
      rw [e7, hmi, hF, e9, e10, e11, hst2, hre2]
      cases F <;> rfl
    rw [hO] at hM
    have hre3 : List.take (a0 - 2 - 13) (List.drop 13 s) = re := hre
    rw [hst2, hmi, hre3]
    clear hst2 hmi hre hre2 hre3 hO dgs hall u7 u9 u10 u11 w7 w9 w10 w11 v9 v10 v1 v2 wa
    refine VL_nilH (H.length + 1) _ 2 2 (by simp; rfl) rfl ?_
    simp
    refine VL_nilH (H.length + 1) _ 5 2 (by simp; rfl) rfl ?_
    simp
    refine VL_go (dhdI s st mi re F H) (fun fr _ => (s.take 65536).length - (ai (aget fr 5)).toNat) ⟨[], a0, (s.take 65536).length + 1, [], haT, by omega, hF, by simp [fsz], by simp, by simp [rcells, rcellsF, flds], fr_intro (by simp)⟩ ?_
    rintro fr H' ⟨J, a, n, fs, ha2, hn, hF, hfz, hf100, rfl, x, rfl⟩
    obtain ⟨m, rfl⟩ : ∃ m, n = m + 1 := ⟨n - 1, by omega⟩
    rw [fieldsR_next] at hF
    simp [rcellsF, rcells]
    refine dhline_pc E _ _ s a (by omega) (by omega) hl ?_
    have hsz : fsz fs + fs.length ≤ 4194304 := by omega
    have hmb : (mi == 0) = decide (mi = 0) := rfl
    cases hL : lineR (s.take 65536) a with
    | part =>
      have hx : nextR (s.take 65536) (decide (mi = 0)) a fs = .inl .part := by unfold nextR; rw [hL]
      rw [hx] at hF
      simp only at hF
      subst hF
      have eL : lnA s a = if 65536 < s.length then (65536, 125, false) else ((s.length : Int), 124, false) := by unfold lnA; rw [hL]
      rw [eL]
      simp only [hdO, Option.getD_none] at hM
      by_cases h65 : 65536 < s.length
      · rw [if_pos h65] at hM ⊢
        simp
        exact aPost_same hB (v0 := .tup [.agg (rcells 0 [] 0), .int .i64 65536, .int .i64 125]) (by simp [rcells]) (nilV_refl _) (by simp [rcells]) ⟨_, _, _, rfl, hnil, hfree _, bad _ _ hM⟩
      · rw [if_neg h65] at hM ⊢
        simp
        exact aPost_same hB (v0 := .tup [.agg (rcells 0 [] 0), .int .i64 s.length, .int .i64 124]) (by simp [rcells]) (nilV_refl _) (by simp [rcells]) ⟨_, _, _, rfl, hnil, hfree _, bad _ _ hM⟩
    | bad i =>
      have hx : nextR (s.take 65536) (decide (mi = 0)) a fs = .inl (.bad i 122) := by unfold nextR; rw [hL]
      rw [hx] at hF
      simp only at hF
      subst hF
      have eL : lnA s a = ((i : Int), 122, false) := by unfold lnA; rw [hL]
      rw [eL]
      simp
      exact aPost_same hB (v0 := .tup [.agg (rcells 0 [] 0), .int .i64 i, .int .i64 122]) (by simp [rcells]) (nilV_refl _) (by simp [rcells]) ⟨_, _, _, rfl, hnil, hfree _, bad _ _ hM⟩
    | ok e =>
      have eL : lnA s a = ((e : Int), 0, true) := by unfold lnA; rw [hL]
      rw [eL]
      obtain ⟨he1, he2⟩ := lineR_rng hL
      have he2 := he2 ha2
      obtain ⟨l, hl2⟩ : ∃ l, (s.drop a).take (e - 2 - a) = l := ⟨_, rfl⟩
      have hl3 : ((s.take 65536).drop a).take (e - 2 - a) = l := by
        rw [← hl2, List.drop_take, List.take_take, Nat.min_eq_left (by omega)]
      have hll : l.length = e - 2 - a := by rw [← hl2, List.length_take, List.length_drop]; omega
      have we : IntKind.i64.wrap ((e : Int) - 2) = ((e - 2 : Nat) : Int) := by rw [wrap_in (by omega) (by omega)]; omega
      have sl3 : a ≤ e - 2 := by omega
      have sl4 : e - 2 ≤ s.length := by omega
      by_cases hle : l = []
      · have hx : nextR (s.take 65536) (decide (mi = 0)) a fs = .inl (if (framingA fs (decide (mi = 0))).2.2 ≠ 0 then .bad a (framingA fs (decide (mi = 0))).2.2 else .ok fs e) := by
          unfold nextR
          rw [hL]
          simp only
          rw [hl3, if_pos hle]
        rw [hx] at hF
        simp only at hF
        subst hF
        have hle2 : (l == []) = true := by rw [hle]; rfl
        simp [we, sl3, sl4, hl2, hle2]
        refine dframing_pc E _ _ fs (decide (mi = 0)) hsz ?_
        by_cases he : (framingA fs (decide (mi = 0))).2.2 = 0
        · rw [if_neg (by simpa using he)] at hM
          simp [he]
          refine dpersist_pc E _ _ fs (decide (mi = 0)) hsz ?_
          have hq := fin _ hM
          simp
          exact aPost_same hB (v0 := .tup [.agg (Rep.avs ⟨mi, st, re, fs, [], [], (framingA fs (decide (mi = 0))).1, (framingA fs (decide (mi = 0))).2.1, persistA fs (decide (mi = 0))⟩), .int .i64 e, .int .i64 0]) (by simp [Rep.avs, flds]) (nilV_refl _) (by simp [Rep.avs, bnd_flds]) ⟨_, _, _, rfl, nilL_refl _, hfree _, hq⟩
        · rw [if_pos he] at hM
          have he2 : ((framingA fs (decide (mi = 0))).2.2 != 0) = true := by simpa using he
          simp [he2]
          exact aPost_same hB (v0 := .tup [.agg (rcells 0 [] 0), .int .i64 a, .int .i64 (framingA fs (decide (mi = 0))).2.2]) (by simp [rcells]) (nilV_refl _) (by simp [rcells]) ⟨_, _, _, rfl, hnil, hfree _, bad _ _ hM⟩
      · have hle2 : (l == []) = false := by simpa using hle
        by_cases h100 : fs.length = 100
        · have hx : nextR (s.take 65536) (decide (mi = 0)) a fs = .inl (.bad a 65) := by
            unfold nextR
            rw [hL]
            simp only
            rw [hl3, if_neg hle, if_pos (by omega)]
          rw [hx] at hF
          simp only at hF
          subst hF
          have h100' : ((fs.length : Int) == 100) = true := by rw [beq_iff_eq]; omega
          simp [we, sl3, sl4, hl2, hle2, h100']
          exact aPost_same hB (v0 := .tup [.agg (rcells 0 [] 0), .int .i64 a, .int .i64 65]) (by simp [rcells]) (nilV_refl _) (by simp [rcells]) ⟨_, _, _, rfl, hnil, hfree _, bad _ _ hM⟩
        · have h100' : ((fs.length : Int) == 100) = false := by rw [beq_eq_false_iff_ne]; omega
          simp [we, sl3, sl4, hl2, hle2, h100']
          refine dlineX_pc E _ _ l (by simp only [cap]; omega) ?_
          by_cases he : (lineX l).2.2 = 0
          · have hx : nextR (s.take 65536) (decide (mi = 0)) a fs = .inr (e, fs ++ [(lineX l).1]) := by
              unfold nextR
              rw [hL]
              simp only
              rw [hl3, if_neg hle, if_neg (by omega), if_neg (by simpa using he)]
            rw [hx] at hF
            simp only at hF
            have hls := lineX_sz he
            have hsn := fsz_snoc fs (lineX l).1
            have hfs : flds fs ++ [[.str (lineX l).1.name, .str (lineX l).1.value]] = flds (fs ++ [(lineX l).1]) := by simp [flds]
            have m1 : fs.length + 1 ≤ maxLen := by unfold maxLen; omega
            have m2 : (fs.length + 1) * 32 ≤ 140737488355328 := by omega
            simp [he, m1, m2, hfs]
            exact Kloop_normal ⟨_, e, m, _, he2, by omega, hF, by rw [hsn]; simp; omega, by simp; omega, by simp [rcellsF, rcells]; rfl, fr_intro (by simp)⟩ (by simp; omega)
          · have hx : nextR (s.take 65536) (decide (mi = 0)) a fs = .inl (.bad (a + (lineX l).2.1) (lineX l).2.2) := by
              unfold nextR
              rw [hL]
              simp only
              rw [hl3, if_neg hle, if_neg (by omega), if_pos he]
            rw [hx] at hF
            simp only at hF
            subst hF
            have he2' : ((lineX l).2.2 != 0) = true := by simpa using he
            have hrg := lineX_rng l
            have hw : IntKind.i64.wrap ((a : Int) + (lineX l).2.1) = a + (lineX l).2.1 := wrap_in (by omega) (by omega)
            simp [he2', hw]
            exact aPost_same hB (v0 := .tup [.agg (rcells 0 [] 0), .int .i64 (a + (lineX l).2.1), .int .i64 (lineX l).2.2]) (by simp [rcells]) (nilV_refl _) (by simp [rcells]) ⟨_, _, _, rfl, hnil, hfree _, bad _ _ hM⟩
end
end Go.Proofs.YtcdkcaocfioigaaGreatDoor

set_option linter.unusedVariables false
set_option linter.unnecessarySimpa false
set_option linter.unusedSimpArgs false
set_option linter.unusedSectionVars false
set_option maxRecDepth 100000
namespace Go.Proofs.YtcdkcaocfioigaaGreatDoor
open Go Go.RowKit Go.Proofs

section
variable (E : Env) (H : Hp) (Q : AV → Hp → Prop)
set_option maxHeartbeats 2000000 in
theorem dparse_pc (m s : List UInt8) (most : Int) (ended : Bool) (hl : s.length ≤ 1000000000) (hm : -9223372036854775808 ≤ most ∧ most ≤ 9223372036854775807)
    (hQ : Q (.tup [.agg (parseM m s most ended).1.avs, .int .i64 (parseM m s most ended).2.1, .int .i64 (parseM m s most ended).2.2]) H) : PC Tryz.prog E 25 [.str m, .str s, .int .i64 most, .bool ended] H Q := by
  refine PC.nilT ?_
  refine pc_enterF (fun i => i = H.length + 1) Tryz.func25 rfl [] [(26, [2, 0, 0, 2, 0, 2])] (by kernel_rfl) (fun E' hS' h0' hF' hB => ?_)
  have fin : ∀ a : Rep × Int × Int, parseM m s most ended = a → Q (.tup [.agg a.1.avs, .int .i64 a.2.1, .int .i64 a.2.2]) H := fun a ha => ha ▸ hQ
  by_cases h0 : most < 0
  · simp [Tryz.ntmps25, Tryz.results25, List.replicate_succ, h0]
    exact aPost_same hB (v0 := .tup [.agg rzero, .int .i64 0, .int .i64 1]) (by simp [rzero]) (nilV_refl _) (by simp [rzero]) ⟨_, _, _, rfl, rzero_nil, avs_free _, fin _ (parseM_neg m s ended h0)⟩
  simp [Tryz.ntmps25, Tryz.results25, List.replicate_succ, h0]
  refine dphead_pc E' _ _ s (by omega) ?_
  by_cases h1 : (headM s).2.2 = 0
  rotate_left
  · have h1' : ((headM s).2.2 != 0) = true := by simpa using h1
    simp [Rep.avs, h1']
    exact aPost_same hB (v0 := .tup [.agg rzero, .int .i64 (headM s).2.1, .int .i64 (headM s).2.2]) (by simp [rzero]) (nilV_refl _) (by simp [rzero]) ⟨_, _, _, rfl, rzero_nil, avs_free _, fin _ (parseM_bad ended h0 h1)⟩
  obtain ⟨n, hn, h17, hnl, hn2⟩ := headM_rng h1
  have hgt : n ≤ s.length := hnl
  have htl : List.take (s.length - n) (s.drop n) = s.drop n := List.take_of_length_le (by rw [List.length_drop]; omega)
  simp [Rep.avs, h1, hn, hgt, htl]
  refine dbodyless_pc E' _ _ m _ ?_
  cases h2 : bodylessB m (headM s).1.status with
  | true =>
    have hP := parseM_none ended h0 h1 h2
    rw [← hn]
    simp
    exact aPost_same hB (v0 := .tup [.agg (headM s).1.avs, .int .i64 (headM s).2.1, .int .i64 0]) (by simp [Rep.avs]) (nilV_refl _) (by simp [Rep.avs, bnd_flds]) ⟨_, _, _, rfl, nilL_refl _, avs_free _, by have := fin _ hP; rw [h1] at this; exact this⟩
  | false =>
    have hP := parseM_body ended h0 h1 h2 hn
    have hlen := headM_len s
    obtain ⟨r, hr⟩ : ∃ r, (headM s).1 = r := ⟨_, rfl⟩
    rw [hr] at hP hlen ⊢
    have hrl : (s.drop n).length = s.length - n := List.length_drop
    obtain ⟨rest, hrest⟩ : ∃ rest, s.drop n = rest := ⟨_, rfl⟩
    rw [hrest] at hP hrl ⊢
    have hE2 : n + rest.length = s.length := by omega
    unfold bodyM at hP
    by_cases k2 : r.kind = 2
    · rw [if_pos k2] at hP
      simp [k2]
      refine ddecode_pc E' _ _ rest most 65536 100 (by omega) (by omega) ?_
      have hat := decodeD_at rest most 65536 100
      obtain ⟨⟨db, dt, dk, de⟩, hd⟩ : ∃ d, decodeD rest most 65536 100 = d := ⟨_, rfl⟩
      rw [hd] at hP hat ⊢
      simp only at hP hat ⊢
      have hw : IntKind.i64.wrap ((n : Int) + dk) = n + dk := wrap_in (by omega) (by omega)
      by_cases d0 : de = 0
      · rw [if_pos d0] at hP
        simp [d0, hw]
        exact aPost_same hB (v0 := .tup [.agg (Rep.avs { r with body := db, trailers := dt }), .int .i64 (n + dk), .int .i64 0]) (by simp [Rep.avs, k2]) (nilV_refl _) (by simp [Rep.avs, bnd_flds]) ⟨_, _, _, rfl, nilL_refl _, avs_free _, fin _ hP⟩
      · rw [if_neg d0] at hP
        have d0' : (de == 0) = false := by simpa using d0
        have d0n : (de != 0) = true := by simpa using d0
        by_cases d1 : de = 105
        · rw [if_pos d1] at hP
          simp [d1, hw]
          exact aPost_same hB (v0 := .tup [.agg rzero, .int .i64 (n + dk), .int .i64 124]) (by simp [rzero]) (nilV_refl _) (by simp [rzero]) ⟨_, _, _, rfl, rzero_nil, avs_free _, fin _ hP⟩
        · rw [if_neg d1] at hP
          have d1' : (de == 105) = false := by simpa using d1
          by_cases d2 : de = 102
          · rw [if_pos d2] at hP
            simp [d2, hw]
            exact aPost_same hB (v0 := .tup [.agg rzero, .int .i64 (n + dk), .int .i64 125]) (by simp [rzero]) (nilV_refl _) (by simp [rzero]) ⟨_, _, _, rfl, rzero_nil, avs_free _, fin _ hP⟩
          · rw [if_neg d2] at hP
            have d2' : (de == 102) = false := by simpa using d2
            simp [d0', d0n, d1', d2', hw]
            exact aPost_same hB (v0 := .tup [.agg rzero, .int .i64 (n + dk), .int .i64 de]) (by simp [rzero]) (nilV_refl _) (by simp [rzero]) ⟨_, _, _, rfl, rzero_nil, avs_free _, fin _ hP⟩
    · rw [if_neg k2] at hP
      have k2' : (r.kind == 2) = false := by simpa using k2
      by_cases k1 : r.kind = 1
      · rw [if_pos k1] at hP
        simp [k1]
        by_cases c1 : most < r.length
        · rw [if_pos c1] at hP
          simp [c1]
          exact aPost_same hB (v0 := .tup [.agg rzero, .int .i64 n, .int .i64 125]) (by simp [rzero]) (nilV_refl _) (by simp [rzero]) ⟨_, _, _, rfl, rzero_nil, avs_free _, fin _ hP⟩
        · rw [if_neg c1] at hP
          by_cases c2 : (rest.length : Int) < r.length
          · rw [if_pos c2] at hP
            simp [c1, c2]
            exact aPost_same hB (v0 := .tup [.agg rzero, .int .i64 s.length, .int .i64 124]) (by simp [rzero]) (nilV_refl _) (by simp [rzero]) ⟨_, _, _, rfl, rzero_nil, avs_free _, fin _ hP⟩
          · rw [if_neg c2] at hP
            have c3 : r.length.toNat ≤ rest.length := by omega
            have hw : IntKind.i64.wrap ((n : Int) + r.length) = n + r.length := wrap_in (by omega) (by omega)
            simp [c1, c2, c3, hlen, hw, hS']
            exact aPost_same hB (v0 := .tup [.agg (Rep.avs { r with body := rest.take r.length.toNat }), .int .i64 (n + r.length), .int .i64 0]) (by simp [Rep.avs, k1]) (nilV_refl _) (by simp [Rep.avs, bnd_flds]) ⟨_, _, _, rfl, nilL_refl _, avs_free _, fin _ hP⟩
      · rw [if_neg k1] at hP
        have k1' : (r.kind == 1) = false := by simpa using k1
        simp [k1', k2']
        by_cases c1 : most < rest.length
        · rw [if_pos c1] at hP
          have hw : IntKind.i64.wrap ((n : Int) + most) = n + most := wrap_in (by omega) (by omega)
          simp [c1, hw]
          exact aPost_same hB (v0 := .tup [.agg rzero, .int .i64 (n + most), .int .i64 125]) (by simp [rzero]) (nilV_refl _) (by simp [rzero]) ⟨_, _, _, rfl, rzero_nil, avs_free _, fin _ hP⟩
        · rw [if_neg c1] at hP
          cases he : ended with
          | false =>
            rw [if_pos he] at hP
            simp [c1]
            exact aPost_same hB (v0 := .tup [.agg rzero, .int .i64 s.length, .int .i64 124]) (by simp [rzero]) (nilV_refl _) (by simp [rzero]) ⟨_, _, _, rfl, rzero_nil, avs_free _, fin _ hP⟩
          | true =>
            rw [if_neg (by rw [he]; simp)] at hP
            simp [c1]
            exact aPost_same hB (v0 := .tup [.agg (Rep.avs { r with body := rest, persist := false }), .int .i64 s.length, .int .i64 0]) (by simp [Rep.avs]) (nilV_refl _) (by simp [Rep.avs, bnd_flds]) ⟨_, _, _, rfl, nilL_refl _, avs_free _, fin _ hP⟩
end
end Go.Proofs.YtcdkcaocfioigaaGreatDoor

set_option linter.unusedVariables false
set_option linter.unnecessarySimpa false
set_option linter.unusedSimpArgs false
set_option linter.unusedSectionVars false
set_option maxRecDepth 100000
namespace Go.Proofs.YtcdkcaocfioigaaGreatDoor
open Go Go.RowKit Go.Proofs

section
variable (E : Env) (H : Hp) (Q : AV → Hp → Prop)
end
end Go.Proofs.YtcdkcaocfioigaaGreatDoor

set_option linter.unusedVariables false
set_option linter.unnecessarySimpa false
set_option linter.unusedSimpArgs false
set_option linter.unusedSectionVars false
set_option maxRecDepth 100000
namespace Go.Proofs.YtcdkcaocfioigaaGreatDoor
open Go Go.RowKit Go.Proofs

section
variable (E : Env) (H : Hp) (Q : AV → Hp → Prop)
end
end Go.Proofs.YtcdkcaocfioigaaGreatDoor

