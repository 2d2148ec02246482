/- Part 10 of the texts below the law: the abstract machine, the functions that it walks, what they compute. -/
import Derived.Test.YtcdkcaocfioigaaGreatDoorPd9
import Derived.Test.YtcdkcaocfioigaaGreatDoorCards
import Derived.Test.YtcdkcaocfioigaaGreatDoorTie
import Derived.Deep.DeepHandedRow
import Derived.Lib.LaidTab
import Derived.ChangeMaps5
import Derived.Lay
import Derived.Stop.LaidErr
import Derived.JoinedCond
set_option linter.unusedVariables false
set_option linter.unnecessarySimpa false
set_option linter.unusedSimpArgs false
set_option linter.unusedSectionVars false
set_option maxRecDepth 100000
namespace Go.Proofs.YtcdkcaocfioigaaGreatDoor
open Go Go.RowKit Go.Proofs

attribute [simp] axsub
@[simp] theorem bnd_strsR {N : Nat} (l : List (List UInt8)) : (∀ r ∈ strs l, ∀ x ∈ r, Bnd N x) = True := eq_true fun r hr x hx => by
  obtain ⟨y, _, rfl⟩ := List.mem_map.1 hr
  simp at hx
  subst hx
  exact .str _
section
variable (E : Env) (H : Hp) (Q : AV → Hp → Prop) (c : Nat) (r : RM) (hc : c + 1 < H.length)
include hc
set_option maxHeartbeats 4000000 in
theorem rone_pc (hE : SE E) (hok : okM r) (hQ : Q (.bool (oneR r).2) (put2 H c (smB (oneR r).1) (rmB c (oneR r).1))) : PC Tryz.prog E 97 [.ptr (some (c + 1, 0))] (put2 H c (smB r) (rmB c r)) Q := by
  obtain ⟨o1, o2, o3, _⟩ := id hok
  have hok' := oneR_ok hok
  have fin : ∀ a : RM × Bool, oneR r = a → Q (.bool a.2) (put2 H c (smB a.1) (rmB c a.1)) := fun a ha => ha ▸ hQ
  have hcl : c < H.length := by omega
  refine pc_enter Tryz.func97 rfl [96, 116] [(6, [0, 0, 0, 0, 0, 0, 0, 0, 0, 0, 0, 0, 0, 0, 0, 0, 0, 0, 0, 0, 0, 0, 0, 0, 4]), (17, [0, 0, 0, 0, 0, 3])] (by kernel_rfl) (fun hB => ?_)
  by_cases hb : r.bytes = []
  · have hq := fin _ (oneR_none (.inl hb))
    simp [Tryz.ntmps97, Tryz.results97, List.replicate_succ, p2a hc, p2b hc, smB, rmB, hb]
    exact aPost_put2K hc hB (.bool false) rfl (by simp) (rmB_bnd r hcl) (by simp) (by have := hq; simp only [smB, hb] at this; exact this)
  have hb' : (r.bytes == []) = false := by simpa using hb
  cases ho : r.over
  case true =>
    have hq := fin _ (oneR_none (.inr ho))
    simp [Tryz.ntmps97, Tryz.results97, List.replicate_succ, p2a hc, p2b hc, smB, rmB, hb', ho]
    exact aPost_put2K hc hB (.bool false) rfl (by simp) (rmB_bnd r hcl) (by simp) (by have := hq; simp only [smB, ho] at this; exact this)
  have h0 : ¬ (r.bytes = [] ∨ r.over = true) := by rw [ho]; simpa using hb
  cases ha : r.asked with
  | nil =>
    have hq := fin _ (oneR_ask h0 ha)
    have hs0 : strs ([] : List (List UInt8)) = [] := rfl
    simp [Tryz.ntmps97, Tryz.results97, List.replicate_succ, p2a hc, p2b hc, p2sa hc, p2sb hc, smB, rmB, hb', ho, ha, hs0]
    exact aPost_put2K hc hB (.bool false) rfl (by simp) (by simp [bnd_strs, hcl]) (by simp) (by have := hq; simp only [smB, rmB, ho, ha, hs0] at this; exact this)
  | cons m ms =>
    have hstr : strs (m :: ms) = [.str m] :: strs ms := rfl
    have hlat : lat ([AV.str m] :: strs ms) 0 = some [.str m] := rfl
    obtain ⟨p, hp⟩ : ∃ p, parseM m r.bytes r.most r.ended = p := ⟨_, rfl⟩
    have hO := oneR_cons h0 ha hp
    have hlen0 : (((ms.length : Int) + 1) == 0) = false := by rw [beq_eq_false_iff_ne]; omega
    simp [Tryz.ntmps97, Tryz.results97, List.replicate_succ, p2a hc, p2b hc, p2aJ hc, p2bJ hc, smB, rmB, hb', ho, ha, hstr, hlat, hlen0]
    refine VCall4_intro fun J => ?_
    refine parse_pc E _ _ hE m r.bytes r.most r.ended (by omega) (by omega) ?_
    rw [hp]
    refine ⟨rfl, ?_⟩
    by_cases h124 : p.2.2 = 124
    · rw [if_pos h124] at hO
      have hq := fin _ hO
      simp [Rep.avs, h124]
      exact aPost_put2 hc hB (v0 := .bool false) (by simp) (nilV_refl _) (by simp) (by simp [bnd_strs, hcl]) (by simp) (by have := hq; simp only [smB, rmB, ho, ha, hstr] at this; exact this)
    rw [if_neg h124] at hO
    have h124' : (p.2.2 == 124) = false := by simpa using h124
    by_cases he : p.2.2 = 0
    rotate_left
    · rw [if_pos he] at hO
      have hq := fin _ hO
      have he' : (p.2.2 != 0) = true := by simpa using he
      simp [Rep.avs, h124', he', p2aJ hc, p2bJ hc, p2saJ hc, p2sbJ hc]
      exact aPost_put2 hc hB (v0 := .bool false) (by simp) (nilV_refl _) (by simp) (by simp [bnd_strs, hcl]) (by simp) (by have := hq; simp only [smB, rmB, ho, ha, hstr] at this; exact this)
    rw [if_neg (by simpa using he)] at hO
    obtain ⟨n, hn, h17, hnl⟩ := parseM_rng (by rw [hp]; exact he : (parseM m r.bytes r.most r.ended).2.2 = 0)
    rw [hp] at hn
    have hnt : p.2.1.toNat = n := by omega
    rw [hnt] at hO
    have htl : List.take (r.bytes.length - n) (r.bytes.drop n) = r.bytes.drop n := List.take_of_length_le (by rw [List.length_drop]; omega)
    have m1 : r.done.length + 1 ≤ maxLen := by unfold maxLen; omega
    have m2 : (r.done.length + 1) * 120 ≤ 140737488355328 := by omega
    have hsn : repsA r.done ++ [[.int .i64 p.1.status, .str p.1.reason, .sl false 2 (flds p.1.fields), .str p.1.body, .int .i64 p.1.minor, .sl false 2 (flds p.1.trailers), .int .i64 p.1.kind, .int .i64 p.1.length, .bool p.1.persist]] = repsA (r.done ++ [p.1]) := repsA_snoc r.done p.1
    simp [Rep.avs, he, hn, hnl, htl, m1, m2, hsn, p2aJ hc, p2bJ hc, p2saJ hc, p2sbJ hc]
    refine interim_pc E _ _ p.1.status ?_
    cases hi : interimB p.1.status with
    | true =>
      rw [if_pos hi] at hO
      have hq := fin _ hO
      simp
      exact aPost_put2 hc hB (v0 := .bool true) (by simp) (nilV_refl _) (by simp) (by simp [bnd_strs, hcl]) (by simp) (by have := hq; simp only [smB, rmB, ho, ha, hstr] at this; exact this)
    | false =>
      rw [if_neg (by rw [hi]; simp)] at hO
      have hdr : ([AV.str m] :: strs ms).drop 1 = strs ms := rfl
      obtain ⟨st, hst⟩ : ∃ st, p.1.status = st := ⟨_, rfl⟩
      have hcn : (m == [67, 79, 78, 78, 69, 67, 84]) = (m == vConnect) := rfl
      have hT : ∀ b, turnedB m st = b → (if p.1.persist = false ∨ turnedB m p.1.status = true then (({ r with bytes := [], over := true, asked := ms, done := r.done ++ [p.1] } : RM), true) else ({ r with bytes := r.bytes.drop n, asked := ms, done := r.done ++ [p.1] }, true)) =
          if (!p.1.persist || b) = true then (({ r with bytes := [], over := true, asked := ms, done := r.done ++ [p.1] } : RM), true) else ({ r with bytes := r.bytes.drop n, asked := ms, done := r.done ++ [p.1] }, true) := fun b hb => by
        rw [hst, hb]
        cases p.1.persist <;> cases b <;> rfl
      simp [hlat, hdr, p2aJ hc, p2bJ hc, p2saJ hc, p2sbJ hc]
      rw [hst]
      by_cases q1 : st = 101
      case' pos =>
        rw [hT true (by unfold turnedB; rw [q1]; rfl), Bool.or_true, if_pos rfl] at hO
        have q1' : (st == 101) = true := by simpa using q1
        simp [q1']
      case' neg =>
        have q1' : (st == 101) = false := by simpa using q1
        cases q2 : (m == vConnect)
        case' false =>
          rw [hT false (by unfold turnedB; rw [q1', q2]; rfl), Bool.or_false] at hO
          simp [q1', hcn, q2]
        case' true =>
          by_cases q3 : 200 ≤ st
          case' neg =>
            rw [hT false (by unfold turnedB; rw [q1', q2, decide_eq_false q3]; rfl), Bool.or_false] at hO
            simp [q1', hcn, q2, q3]
          case' pos =>
            by_cases q4 : st ≤ 299
            case' neg =>
              rw [hT false (by unfold turnedB; rw [q1', q2, decide_eq_true q3, decide_eq_false q4]; rfl), Bool.or_false] at hO
              simp [q1', hcn, q2, q3, q4]
            case' pos =>
              rw [hT true (by unfold turnedB; rw [q1', q2, decide_eq_true q3, decide_eq_true q4]; rfl), Bool.or_true, if_pos rfl] at hO
              simp [q1', hcn, q2, q3, q4]
      all_goals
        cases hpe : p.1.persist
        all_goals
          try simp only [hpe, Bool.not_true, Bool.not_false, Bool.false_eq_true, if_true, if_false] at hO
          have hq := fin _ hO
          simp [p2aJ hc, p2bJ hc, p2saJ hc, p2sbJ hc]
          exact aPost_put2 hc hB (v0 := .bool true) (by simp) (nilV_refl _) (by simp) (by simp [hcl]) (by simp) (by have := hq; simp only [smB, rmB, ho, hpe] at this ⊢; exact this)
end
end Go.Proofs.YtcdkcaocfioigaaGreatDoor

set_option linter.unusedVariables false
set_option linter.unnecessarySimpa false
set_option linter.unusedSimpArgs false
set_option linter.unusedSectionVars false
set_option maxRecDepth 100000
namespace Go.Proofs.YtcdkcaocfioigaaGreatDoor
open Go Go.RowKit Go.Proofs

/-- What comes. -/
def feedM (r : RM) (s : List UInt8) : RM × Int := if r.err ≠ 0 ∨ r.ended = true then (r, 126) else if r.over = true then (r, 0) else (readA (r.put s), (readA (r.put s)).err)
def nextM (r : RM) : RM × Rep × Bool := match r.done with
  | [] => (r, rep0, false)
  | x :: d => ({ r with done := d }, x, true)
theorem readR_ok : ∀ (n : Nat) (r : RM), okM r → okM (readR n r)
  | 0, r, h => h
  | n + 1, r, h => by
    rw [readR]
    split
    · exact readR_ok n _ (oneR_ok h)
    · exact oneR_ok h
theorem readA_ok {r : RM} (h : okM r) : okM (readA r) := readR_ok _ r h
def rrInv (H : Hp) (c : Nat) (r : RM) (fr : List AV) (H' : Hp) : Prop := ∃ r' : RM, okM r' ∧ readA r' = readA r ∧ H' = put2 H c (smB r') (rmB c r') ∧ ∃ x : Nat → AV, fr = [.ptr (some (c + 1, 0)), x 1, x 2, x 3]
/-- The length of the bytes that the reader's boxes hold. -/
def bytesAt (H : Hp) (c : Nat) : Nat := match H[c]? with
  | some (.str l :: _) => l.length
  | _ => 0
section
variable (E : Env) (H : Hp) (Q : AV → Hp → Prop) (c : Nat) (r : RM) (hc : c + 1 < H.length)
include hc
theorem rread_pc (hE : SE E) (hok : okM r) (hQ : Q (.tup []) (put2 H c (smB (readA r)) (rmB c (readA r)))) : PC Tryz.prog E 62 [.ptr (some (c + 1, 0))] (put2 H c (smB r) (rmB c r)) Q := by
  refine pc_enter Tryz.func62 rfl [] [] (by kernel_rfl) (fun hB => ?_)
  simp [Tryz.ntmps62, Tryz.results62, List.replicate_succ]
  refine VL_go (rrInv H c r) (fun _ H' => bytesAt H' c) ⟨r, hok, rfl, rfl, fr_intro (by simp)⟩ ?_
  rintro fr H' ⟨r', hk, hr, rfl, x, rfl⟩
  have hm : bytesAt (put2 H c (smB r') (rmB c r')) c = r'.bytes.length := by unfold bytesAt; rw [p2a hc]; rfl
  simp
  refine rone_pc E H _ c r' hc hE hk ?_
  cases h : (oneR r').2 with
  | true =>
    have hm2 : bytesAt (put2 H c (smB (oneR r').1) (rmB c (oneR r').1)) c = (oneR r').1.bytes.length := by unfold bytesAt; rw [p2a hc]; rfl
    simp
    exact Kloop_normal ⟨_, oneR_ok hk, by rw [← readA_go h]; exact hr, rfl, fr_intro (by simp)⟩ (by rw [hm, hm2]; exact oneR_less h)
  | false =>
    have e : readA r = (oneR r').1 := by rw [← hr, readA_stop h]
    rw [e] at hQ
    simp
    exact aPost_put20 hc hB (v0 := .tup []) rfl (nilV_refl _) (smB_bnd _ _) (rmB_bnd _ (by omega)) (by simp) hQ
theorem rfeed_pc (hE : SE E) (s : List UInt8) (hok : okM (r.put s)) (hQ : Q (.int .i64 (feedM r s).2) (put2 H c (smB (feedM r s).1) (rmB c (feedM r s).1))) : PC Tryz.prog E 34 [.ptr (some (c + 1, 0)), .str s] (put2 H c (smB r) (rmB c r)) Q := by
  have hcl : c < H.length := by omega
  have fin : ∀ a : RM × Int, feedM r s = a → Q (.int .i64 a.2) (put2 H c (smB a.1) (rmB c a.1)) := fun a ha => ha ▸ hQ
  have hm : r.bytes.length + s.length ≤ maxLen := by
    have h1 := hok.1
    simp only [RM.put, List.length_append] at h1
    unfold maxLen; omega
  refine pc_enter Tryz.func34 rfl [] [] (by kernel_rfl) (fun hB => ?_)
  by_cases he : r.err = 0
  rotate_left
  · have hq := fin (r, 126) (by unfold feedM; rw [if_pos (.inl he)])
    have he' : (r.err != 0) = true := by simpa using he
    simp [Tryz.ntmps34, Tryz.results34, List.replicate_succ, p2a hc, p2b hc, smB, rmB, he']
    exact aPost_put2K hc hB (.int .i64 126) rfl (smB_bnd r _) (rmB_bnd r hcl) (by simp) hq
  cases hn : r.ended
  case true =>
    have hq := fin (r, 126) (by unfold feedM; rw [if_pos (.inr hn)])
    simp [Tryz.ntmps34, Tryz.results34, List.replicate_succ, p2a hc, p2b hc, smB, rmB, he, hn]
    exact aPost_put2K hc hB (.int .i64 126) rfl (by simp) (rmB_bnd r hcl) (by simp) (by have := hq; simp only [smB, he, hn] at this; exact this)
  have hne : ¬ (r.err ≠ 0 ∨ r.ended = true) := by rw [he, hn]; simp
  cases ho : r.over
  case true =>
    have hq := fin (r, 0) (by unfold feedM; rw [if_neg hne, if_pos ho])
    simp [Tryz.ntmps34, Tryz.results34, List.replicate_succ, p2a hc, p2b hc, smB, rmB, he, hn, ho]
    exact aPost_put2K hc hB (.int .i64 0) rfl (by simp) (rmB_bnd r hcl) (by simp) (by have := hq; simp only [smB, he, hn, ho] at this; exact this)
  have hq := fin (readA (r.put s), (readA (r.put s)).err) (by unfold feedM; rw [if_neg hne, if_neg (by rw [ho]; simp)])
  simp [Tryz.ntmps34, Tryz.results34, List.replicate_succ, p2a hc, p2b hc, p2sa hc, p2sb hc, smB, rmB, he, hn, ho, hm]
  have e : put2 H c [.str (r.bytes ++ s), .int .i64 0, .bool false, .bool false] [.ptr (some (c, 0)), .int .i64 r.most, .sl true 1 (strs r.asked), .sl true 9 (repsA r.done)] = put2 H c (smB (r.put s)) (rmB c (r.put s)) := by simp [smB, rmB, RM.put, he, hn, ho]
  rw [e]
  refine rread_pc E H _ c (r.put s) hc hE hok ?_
  simp [p2a hc, p2b hc, smB, rmB]
  exact aPost_put2K hc hB (.int .i64 (readA (r.put s)).err) rfl (smB_bnd (readA (r.put s)) _) (rmB_bnd (readA (r.put s)) hcl) (by simp) hq
theorem rnext_pc (hok : okM r) (hQ : Q (.tup [.agg (nextM r).2.1.avs, .bool (nextM r).2.2]) (put2 H c (smB (nextM r).1) (rmB c (nextM r).1))) : PC Tryz.prog E 35 [.ptr (some (c + 1, 0))] (put2 H c (smB r) (rmB c r)) Q := by
  have hcl : c < H.length := by omega
  have fin : ∀ a : RM × Rep × Bool, nextM r = a → Q (.tup [.agg a.2.1.avs, .bool a.2.2]) (put2 H c (smB a.1) (rmB c a.1)) := fun a ha => ha ▸ hQ
  refine PC.nilT ?_
  refine pc_enter Tryz.func35 rfl [26] [(4, [0, 0, 0, 0, 0, 3]), (5, [0, 0, 0, 1])] (by kernel_rfl) (fun hB => ?_)
  cases hd : r.done with
  | nil =>
    have hq := fin (r, rep0, false) (by unfold nextM; rw [hd])
    have hs0 : repsA ([] : List Rep) = [] := rfl
    simp [Tryz.ntmps35, Tryz.results35, List.replicate_succ, p2a hc, p2b hc, p2aJ hc, p2bJ hc, smB, rmB, hd, hs0]
    exact aPost_put2 hc hB (v0 := .tup [.agg rzero, .bool false]) (by simp [rzero]) (nilV_refl _) (by simp) (by simp [hcl]) (by simp [rzero]) ⟨_, _, _, rfl, rzero_nil, avs_free _, by have := hq; simp only [smB, rmB, hd, hs0] at this; exact this⟩
  | cons y d =>
    have hq := fin ({ r with done := d }, y, true) (by unfold nextM; rw [hd])
    obtain ⟨hf1, hf2⟩ := hok.2.2.2 y (by rw [hd]; simp)
    have hrs : repsA (y :: d) = y.avs :: repsA d := rfl
    have hlat : lat (y.avs :: repsA d) 0 = some y.avs := rfl
    have hdr : (y.avs :: repsA d).drop 1 = repsA d := rfl
    have hl0 : (((d.length : Int) + 1) == 0) = false := by rw [beq_eq_false_iff_ne]; omega
    simp [Tryz.ntmps35, Tryz.results35, List.replicate_succ, p2a hc, p2b hc, p2aJ hc, p2bJ hc, p2saJ hc, p2sbJ hc, smB, rmB, hd, hrs, hlat, hl0, hdr, Rep.avs]
    refine clone_pc E _ _ false y.fields hf1 rfl ?_
    simp
    refine clone_pc E _ _ false y.trailers hf2 rfl ?_
    simp
    exact aPost_put2 hc hB (v0 := .tup [.agg y.avs, .bool true]) (by simp [Rep.avs]) (nilV_refl _) (by simp) (by simp [hcl]) (by simp [Rep.avs]) ⟨_, _, _, rfl, nilL_refl _, avs_free _, by have := hq; simp only [smB, rmB] at this; exact this⟩
end
end Go.Proofs.YtcdkcaocfioigaaGreatDoor

set_option linter.unusedVariables false
set_option linter.unnecessarySimpa false
set_option linter.unusedSimpArgs false
set_option linter.unusedSectionVars false
set_option maxRecDepth 100000
namespace Go.Proofs.YtcdkcaocfioigaaGreatDoor
open Go Go.RowKit Go.Proofs Go.Deep

/-- Two readers that are told alike. -/
structure Alik (a b : RM) : Prop where
  err : a.err = b.err
  over : a.over = b.over
  ended : a.ended = b.ended
  most : a.most = b.most
  asked : a.asked = b.asked
  done : a.done = b.done
  bytes : a.err = 0 → a.bytes = b.bytes
theorem Alik.refl (a : RM) : Alik a a := ⟨rfl, rfl, rfl, rfl, rfl, rfl, fun _ => rfl⟩
theorem Alik.symm {a b : RM} (h : Alik a b) : Alik b a := ⟨h.err.symm, h.over.symm, h.ended.symm, h.most.symm, h.asked.symm, h.done.symm, fun e => (h.bytes (h.err.trans e)).symm⟩
theorem Alik.trans {a b c : RM} (h : Alik a b) (k : Alik b c) : Alik a c :=
  ⟨h.err.trans k.err, h.over.trans k.over, h.ended.trans k.ended, h.most.trans k.most, h.asked.trans k.asked, h.done.trans k.done, fun e => (h.bytes e).trans (k.bytes (h.err.symm.trans e))⟩
theorem Alik.eq {a b : RM} (h : Alik a b) (he : a.err = 0) : a = b := by
  obtain ⟨h1, h2, h3, h4, h5, h6, h7⟩ := h
  cases a; cases b
  simp only at h1 h2 h3 h4 h5 h6 h7 he
  simp only [h1, h2, h3, h4, h5, h6, h7 he]
theorem put_like {r : RM} (u : List UInt8) (h : r.err ≠ 0) : Alik (r.put u) r := ⟨rfl, rfl, rfl, rfl, rfl, rfl, fun e => absurd e h⟩
theorem put_put (r : RM) (u v : List UInt8) : (r.put u).put v = r.put (u ++ v) := by simp [RM.put]
/-- A reader that is fed a piece, and then the rest, if nothing was wrong: as if it were fed at once. -/
theorem feed_cut {r : RM} (he : r.err = 0) (hn : r.ended = false) (u v : List UInt8) :
    ((feedM r u).2 = 0 → (feedM r u).1.err = 0 ∧ (feedM r u).1.ended = false ∧ feedM (feedM r u).1 v = feedM r (u ++ v)) ∧
    ((feedM r u).2 ≠ 0 → Alik (feedM r (u ++ v)).1 (feedM r u).1 ∧ (feedM r (u ++ v)).2 = (feedM r u).2) := by
  have hne : ¬ (r.err ≠ 0 ∨ r.ended = true) := by rw [he, hn]; simp
  cases ho : r.over with
  | true =>
    have e : ∀ w, feedM r w = (r, 0) := fun w => by unfold feedM; rw [if_neg hne, if_pos ho]
    rw [e u, e (u ++ v)]
    exact ⟨fun _ => ⟨he, hn, e v⟩, fun h => absurd rfl h⟩
  | false =>
    have e : ∀ w, feedM r w = (readA (r.put w), (readA (r.put w)).err) := fun w => by unfold feedM; rw [if_neg hne, if_neg (by rw [ho]; simp)]
    have hk : (readA (r.put u)).ended = r.ended := by
      have key : ∀ (n : Nat) (a : RM), (readR n a).ended = a.ended := fun n => by
        induction n with
        | zero => intro a; rfl
        | succ n ih =>
          intro a
          rw [readR]
          split
          · rw [ih]; exact (oneR_keeps a).1
          · exact (oneR_keeps a).1
      exact key _ _
    obtain ⟨c1, c2, c3⟩ := readA_cut v ((r.put u).bytes.length + 1) (r.put u) (by omega) hn he
    rw [put_put] at c1 c2 c3
    rw [e u, e (u ++ v)]
    refine ⟨fun h => ?_, fun h => ?_⟩
    · simp only at h ⊢
      refine ⟨h, by rw [hk]; exact hn, ?_⟩
      have hne2 : ¬ ((readA (r.put u)).err ≠ 0 ∨ (readA (r.put u)).ended = true) := by rw [h, hk, hn]; simp
      cases ho2 : (readA (r.put u)).over with
      | true =>
        have e2 : readA (r.put (u ++ v)) = readA (r.put u) := (c2 h ho2).resolve_right (by show ¬ r.over = true; rw [ho]; simp)
        have e3 : feedM (readA (r.put u)) v = (readA (r.put u), 0) := by unfold feedM; rw [if_neg hne2, if_pos ho2]
        rw [e2, e3, h]
      | false =>
        have e2 := c3 h ho2
        have e3 : feedM (readA (r.put u)) v = (readA ((readA (r.put u)).put v), (readA ((readA (r.put u)).put v)).err) := by unfold feedM; rw [if_neg hne2, if_neg (by rw [ho2]; simp)]
        rw [e2, e3]
    · simp only at h ⊢
      rw [c1 h]
      exact ⟨put_like v h, rfl⟩
/-- Feeding as long as nothing is wrong. f: what the last feeding said. -/
structure CutI (A : RM) (e : Int) (B : RM) (f : Int) (rest : List UInt8) : Prop where
  go : f = 0 → B.err = 0 ∧ B.ended = false ∧ Alik (feedM B rest).1 A ∧ (feedM B rest).2 = e
  stop : f ≠ 0 → Alik B A ∧ f = e
theorem CutI.step {A B : RM} {e f : Int} {rest : List UInt8} (h : CutI A e B f rest) (hf : f = 0) (n : Nat) : CutI A e (feedM B (rest.take n)).1 (feedM B (rest.take n)).2 (rest.drop n) := by
  obtain ⟨h1, h2, h3, h4⟩ := h.go hf
  obtain ⟨c1, c2⟩ := feed_cut h1 h2 (rest.take n) (rest.drop n)
  rw [List.take_append_drop] at c1 c2
  refine ⟨fun hz => ?_, fun hz => ?_⟩
  · obtain ⟨d1, d2, d3⟩ := c1 hz
    exact ⟨d1, d2, by rw [d3]; exact h3, by rw [d3]; exact h4⟩
  · obtain ⟨d1, d2⟩ := c2 hz
    exact ⟨d1.symm.trans h3, by rw [← d2]; exact h4⟩
theorem CutI.skip {A B : RM} {e f : Int} {rest : List UInt8} (h : CutI A e B f rest) (hf : f ≠ 0) (rest' : List UInt8) : CutI A e B f rest' := ⟨fun e => absurd e hf, h.stop⟩
/-- What a reader holds never grows beyond what was fed. -/
def heldM (r : RM) : Nat := r.bytes.length + r.done.length
theorem oneR_held (r : RM) : heldM (oneR r).1 ≤ heldM r := by
  unfold heldM
  by_cases h0 : r.bytes = [] ∨ r.over = true
  · rw [oneR_none h0]; exact Nat.le_refl _
  cases ha : r.asked with
  | nil => rw [oneR_ask h0 ha]; exact Nat.le_refl _
  | cons m ms =>
    have hb : 0 < r.bytes.length := by
      rcases Nat.eq_zero_or_pos r.bytes.length with h | h
      · exact absurd (.inl (List.length_eq_zero_iff.1 h)) h0
      · exact h
    obtain ⟨p, hp⟩ : ∃ p, parseM m r.bytes r.most r.ended = p := ⟨_, rfl⟩
    rw [oneR_cons h0 ha hp]
    by_cases g1 : p.2.2 = 124
    · rw [if_pos g1]; exact Nat.le_refl _
    rw [if_neg g1]
    by_cases g2 : p.2.2 = 0
    · rw [if_neg (by simpa using g2)]
      obtain ⟨n, hn, h17, hl⟩ := parseM_rng (by rw [hp]; exact g2 : (parseM m r.bytes r.most r.ended).2.2 = 0)
      rw [hp] at hn
      split
      · simp only [List.length_drop, List.length_append, List.length_cons, List.length_nil]; omega
      · split
        · simp only [List.length_nil, List.length_append, List.length_cons]; omega
        · simp only [List.length_drop, List.length_append, List.length_cons, List.length_nil]; omega
    · rw [if_pos g2]; exact Nat.le_refl _
theorem readR_held : ∀ (n : Nat) (r : RM), heldM (readR n r) ≤ heldM r
  | 0, r => Nat.le_refl _
  | n + 1, r => by
    rw [readR]
    split
    · exact Nat.le_trans (readR_held n _) (oneR_held r)
    · exact oneR_held r
theorem feedM_held (r : RM) (s : List UInt8) : heldM (feedM r s).1 ≤ heldM r + s.length := by
  unfold feedM
  split
  · simp only; omega
  · split
    · simp only; omega
    · have := readR_held ((r.put s).bytes.length + 1) (r.put s)
      show heldM (readA (r.put s)) ≤ _
      unfold readA
      have e : heldM (r.put s) = heldM r + s.length := by unfold heldM; simp [RM.put]; omega
      omega
theorem feedM_ok {r : RM} {s : List UInt8} (h : okM (r.put s)) : okM (feedM r s).1 := by
  obtain ⟨h1, h2, h3, h4⟩ := id h
  have hr : okM r := ⟨by simp only [RM.put, List.length_append] at h1; omega, h2, h3, h4⟩
  unfold feedM
  split
  · exact hr
  · split
    · exact hr
    · exact readA_ok h
end Go.Proofs.YtcdkcaocfioigaaGreatDoor

set_option linter.unusedVariables false
set_option linter.unnecessarySimpa false
set_option linter.unusedSimpArgs false
set_option linter.unusedSectionVars false
set_option maxRecDepth 100000
namespace Go.Proofs.YtcdkcaocfioigaaGreatDoor
open Go Go.RowKit Go.Proofs

/-- What is written plainly is read, for every method that makes no difference. -/
theorem print_plain {r : Resp} {h : Mann} (hok : okR r h) (h0 : (printP r h).2 = 0) (hc : h.chunked = false) (hcl : h.close = false) (most : Int) (hm : (r.body.length : Int) ≤ most) (m : List UInt8) (hme : m = h.method ∨ neverS r.status = true) (u : List UInt8) :
    ∃ x : Rep, parseM m ((printP r h).1 ++ u) most false = (x, ((printP r h).1.length : Int), 0) ∧ x.status = r.status ∧ (bodylessB h.method r.status = false → x.body = r.body) ∧ (199 < r.status → x.persist = true) := by
  obtain ⟨o1, o2, o3, o4, o5, o6, o7, o9⟩ := id hok
  obtain ⟨g1, g2, g3, gp⟩ := printP_right h0
  have hP : printP r h = (if bodylessB h.method r.status = true then (headP r h).1 else (headP r h).1 ++ (if h.chunked = true then (encAns r.body h.sizes h.trailers).1 else r.body), 0) := gp h.method
  have hn0 : ¬ most < 0 := by omega
  have hbl : bodylessB m r.status = bodylessB h.method r.status := by
    rcases hme with rfl | hn
    · rfl
    · unfold bodylessB; rw [hn]; simp
  cases hb : bodylessB h.method r.status with
  | true =>
    rw [if_pos hb] at hP
    rw [hb] at hbl
    obtain ⟨hR, hM⟩ := head_read g1 g2 (by omega) u
    refine ⟨repP r h, ?_, rfl, (fun e => by cases e), fun hs => ?_⟩
    · rw [hP, parseM_none false hn0 (by rw [hM]) (by rw [hM]; exact hbl), hM]
    · show persistA (moreM r h) false = true
      rw [more_persist hR hs, hcl]; rfl
  | false =>
    rw [if_neg (by rw [hb]; simp), hc] at hP
    simp only [Bool.false_eq_true, if_false] at hP
    rw [hb] at hbl
    have hnv := bodyless_never hb
    obtain ⟨hR, hM⟩ := head_read g1 g2 (by omega) (r.body ++ u)
    have hfr := more_framing hR (by omega)
    have hpe := more_persist hR (never_200 hnv hR.st.1)
    obtain ⟨hd, hhd⟩ : ∃ hd, (headP r h).1 = hd := ⟨_, rfl⟩
    rw [hhd] at hP hM g2
    have hrest : (hd ++ (r.body ++ u)).drop hd.length = r.body ++ u := List.drop_left
    have hk : (repP r h).kind = 1 := by
      show (framingA (moreM r h) false).1 = _
      rw [hfr, hnv, hc]; simp
    have hl2 : (repP r h).length = r.body.length := by
      show (framingA (moreM r h) false).2.1 = _
      rw [hfr, hnv, hc]; simp
    rw [hP]
    simp only [List.append_assoc]
    rw [parseM_body false hn0 (by rw [hM]) (by rw [hM]; exact hbl) (by rw [hM]), hM, hrest]
    simp only
    unfold bodyM
    rw [if_neg (by rw [hk]; simp), if_pos (by rw [hk]), hl2, if_neg (by omega), if_neg (by rw [List.length_append]; omega)]
    have htk : (r.body ++ u).take ((r.body.length : Int).toNat) = r.body := by simp
    exact ⟨{ repP r h with body := (r.body ++ u).take ((r.body.length : Int).toNat) }, by simp [hl2], rfl, fun _ => htk, fun _ => by show persistA (moreM r h) false = true; rw [hpe, hcl]; rfl⟩
/-- A response with its manner. -/
structure Sn where
  r : Resp
  h : Mann
def Sn.cut (x : Sn) : Sn := ⟨x.r, { x.h with close := false, chunked := false, sizes := [], trailers := [] }⟩
structure GoodS (x : Sn) : Prop where
  ok : okR x.r x.h
  pr : (printP x.r x.h).2 = 0
  ch : x.h.chunked = false
  cl : x.h.close = false
  sw : x.r.status ≠ 101
  tn : turnedB x.h.method x.r.status = false
def rowTx (l : List Sn) : List UInt8 := l.flatMap fun x => (printP x.r x.h).1
def rowMs (l : List Sn) : List (List UInt8) := (l.filter fun x => !interimB x.r.status).map fun x => x.h.method
/-- The reader knows of a method whenever it reads. -/
def fedS : List Sn → List (List UInt8) → Prop
  | [], _ => True
  | x :: W, tl => (interimB x.r.status = true → rowMs W ++ tl ≠ []) ∧ fedS W tl
theorem fedS_of : ∀ (W : List Sn) (tl : List (List UInt8)), (∀ x, W.getLast? = some x → interimB x.r.status = true → tl ≠ []) → fedS W tl
  | [], _, _ => trivial
  | [x], tl, h => ⟨fun hi => by simpa [rowMs] using h x rfl hi, trivial⟩
  | x :: y :: W, tl, h => by
    have ih := fedS_of (y :: W) tl (fun z hz => h z (by rw [List.getLast?_cons_cons]; exact hz))
    refine ⟨fun _ => ?_, ih⟩
    cases hy : interimB y.r.status with
    | true =>
      have e : rowMs (y :: W) = rowMs W := by simp [rowMs, hy]
      rw [e]
      exact ih.1 hy
    | false => simp [rowMs, hy]
/-- What is told of these. -/
def rowD : List Sn → List Rep → Prop
  | [], [] => True
  | x :: W, d :: D => (d.status = x.r.status ∧ (bodylessB x.h.method x.r.status = false → d.body = x.r.body)) ∧ rowD W D
  | _, _ => False
theorem rowD_len : ∀ (W : List Sn) (D : List Rep), rowD W D → D.length = W.length
  | [], [], _ => rfl
  | [], _ :: _, h => h.elim
  | _ :: _, [], h => h.elim
  | x :: W, d :: D, h => by simp [rowD_len W D h.2]
theorem rowD_at : ∀ (W : List Sn) (D : List Rep) (i : Nat) (x : Sn), rowD W D → W[i]? = some x → ∃ d, D[i]? = some d ∧ d.status = x.r.status ∧ (bodylessB x.h.method x.r.status = false → d.body = x.r.body)
  | [], _, i, x, _, hx => by simp at hx
  | _ :: _, [], _, _, h, _ => h.elim
  | y :: W, d :: D, 0, x, h, hx => by simp at hx; subst hx; exact ⟨d, rfl, h.1⟩
  | y :: W, d :: D, i + 1, x, h, hx => by
    obtain ⟨d', h1, h2⟩ := rowD_at W D i x h.2 (by simpa using hx)
    exact ⟨d', by simpa using h1, h2⟩
theorem interim_never {s : Int} (h : interimB s = true) : neverS s = true := by
  unfold interimB at h
  unfold neverS
  simp only [Bool.and_eq_true] at h
  rw [h.1, h.2.1]; rfl
theorem print_len {x : Sn} (h : GoodS x) : 17 ≤ (printP x.r x.h).1.length ∧ (printP x.r x.h).1.length ≤ 1114112 := by
  obtain ⟨X, hX, _⟩ := print_plain h.ok h.pr h.ch h.cl x.r.body.length (Int.le_refl _) x.h.method (.inl rfl) []
  obtain ⟨n, hn, h17, hnl⟩ := parseM_rng (by rw [hX] : (parseM x.h.method ((printP x.r x.h).1 ++ []) x.r.body.length false).2.2 = 0)
  rw [hX] at hn
  simp only at hn
  obtain ⟨g1, g2, g3, gp⟩ := printP_right h.pr
  have hP : printP x.r x.h = (if bodylessB x.h.method x.r.status = true then (headP x.r x.h).1 else (headP x.r x.h).1 ++ (if x.h.chunked = true then (encAns x.r.body x.h.sizes x.h.trailers).1 else x.r.body), 0) := gp x.h.method
  rw [h.ch] at hP
  obtain ⟨o1, o2, o3, o4, o5, o6, o7, o9⟩ := h.ok
  refine ⟨by omega, ?_⟩
  rw [hP]
  simp only [Bool.false_eq_true, if_false]
  split
  · omega
  · rw [List.length_append]; omega
theorem rowTx_snoc (W : List Sn) (x : Sn) : rowTx (W ++ [x]) = rowTx W ++ (printP x.r x.h).1 := by simp [rowTx]
theorem rowMs_snoc (W : List Sn) (x : Sn) : rowMs (W ++ [x]) = rowMs W ++ (if interimB x.r.status = true then [] else [x.h.method]) := by
  cases h : interimB x.r.status <;> simp [rowMs, h]
theorem rowMs_len (W : List Sn) : (rowMs W).length ≤ W.length := by
  unfold rowMs
  rw [List.length_map]
  exact List.length_filter_le _ _
theorem rowMs_last {W : List Sn} {x : Sn} (h : W.getLast? = some x) (hi : interimB x.r.status = true) : (rowMs W).length + 1 ≤ W.length := by
  obtain ⟨V, rfl⟩ : ∃ V, W = V ++ [x] := by
    have hne : W ≠ [] := fun e => by rw [e] at h; simp at h
    have := List.dropLast_concat_getLast hne
    rw [List.getLast?_eq_some_getLast hne] at h
    cases h
    exact ⟨W.dropLast, this.symm⟩
  rw [rowMs_snoc, if_pos hi, List.append_nil, List.length_append]
  have := rowMs_len V
  simp; omega
theorem rowTx_len : ∀ (W : List Sn), (∀ x ∈ W, GoodS x) → (rowTx W).length ≤ W.length * 1114112
  | [], _ => by simp [rowTx]
  | x :: W, h => by
    have ih := rowTx_len W (fun y hy => h y (List.mem_cons_of_mem _ hy))
    have := (print_len (h x (List.mem_cons_self ..))).2
    have e : rowTx (x :: W) = (printP x.r x.h).1 ++ rowTx W := by simp [rowTx]
    rw [e, List.length_append, List.length_cons]
    omega
theorem row_read : ∀ (W : List Sn) (tl : List (List UInt8)) (r : RM), (∀ x ∈ W, GoodS x) → fedS W tl → r.bytes = rowTx W → r.err = 0 → r.over = false → r.ended = false → r.most = 1048576 → r.asked = rowMs W ++ tl →
    ∃ D, readA r = { r with bytes := [], asked := tl, done := r.done ++ D } ∧ rowD W D
  | [], tl, r, _, _, hb, he, ho, hn, hm, ha => by
    have hb' : r.bytes = [] := hb
    refine ⟨[], ?_, trivial⟩
    rw [readA_stop (by rw [oneR_none (.inl hb')]), oneR_none (.inl hb')]
    have ha' : r.asked = tl := by simpa [rowMs] using ha
    cases r
    simp only at hb' ha'
    simp [hb', ha']
  | x :: W, tl, r, hg, hf, hb, he, ho, hn, hm, ha => by
    have hx := hg x (List.mem_cons_self ..)
    obtain ⟨o1, o2, o3, o4, o5, o6, o7, o9⟩ := id hx.ok
    have hT : rowTx (x :: W) = (printP x.r x.h).1 ++ rowTx W := by simp [rowTx]
    have hl := print_len hx
    have h0 : ¬ (r.bytes = [] ∨ r.over = true) := by
      rw [ho, hb, hT]
      intro h
      rcases h with h | h
      · have := congrArg List.length h
        rw [List.length_append, List.length_nil] at this
        omega
      · cases h
    have key : ∀ (m : List UInt8) (ms : List (List UInt8)), r.asked = m :: ms → (m = x.h.method ∨ neverS x.r.status = true) → ∃ X : Rep, parseM m r.bytes r.most r.ended = (X, ((printP x.r x.h).1.length : Int), 0) ∧ X.status = x.r.status ∧ (bodylessB x.h.method x.r.status = false → X.body = x.r.body) ∧ (199 < x.r.status → X.persist = true) := fun m ms _ hme => by
      rw [hb, hT, hm, hn]
      exact print_plain hx.ok hx.pr hx.ch hx.cl 1048576 (by omega) m hme (rowTx W)
    have hdrop : r.bytes.drop ((printP x.r x.h).1.length : Int).toNat = rowTx W := by rw [hb, hT]; simp
    have fin : ∀ (r1 : RM) (X : Rep) (hX1 : X.status = x.r.status) (hX2 : bodylessB x.h.method x.r.status = false → X.body = x.r.body), oneR r = (r1, true) → r1.bytes = rowTx W → r1.err = 0 → r1.over = false → r1.ended = false → r1.most = 1048576 → r1.asked = rowMs W ++ tl → r1.done = r.done ++ [X] →
        (∀ D, ({ r1 with bytes := [], asked := tl, done := r1.done ++ D } : RM) = { r with bytes := [], asked := tl, done := r.done ++ (X :: D) }) → ∃ D, readA r = { r with bytes := [], asked := tl, done := r.done ++ D } ∧ rowD (x :: W) D := fun r1 X hX1 hX2 h1 k1 k2 k3 k4 k5 k6 k7 k8 => by
      obtain ⟨D, hD, hR⟩ := row_read W tl r1 (fun y hy => hg y (List.mem_cons_of_mem _ hy)) hf.2 k1 k2 k3 k4 k5 k6
      refine ⟨X :: D, ?_, ⟨hX1, hX2⟩, hR⟩
      rw [readA_go (by rw [h1]), h1]
      simp only
      rw [hD, k8]
    cases hi : interimB x.r.status with
    | true =>
      have hM : rowMs (x :: W) = rowMs W := by simp [rowMs, hi]
      obtain ⟨m, ms, hms⟩ : ∃ m ms, rowMs W ++ tl = m :: ms := by
        have := hf.1 hi
        cases h : rowMs W ++ tl with
        | nil => exact absurd h this
        | cons m ms => exact ⟨m, ms, rfl⟩
      rw [hM, hms] at ha
      obtain ⟨X, hX, x1, x2, x3⟩ := key m ms ha (.inr (interim_never hi))
      have hO := oneR_cons h0 ha hX
      simp only at hO
      rw [if_neg (by decide), if_neg (by simp), x1, if_pos hi, hdrop] at hO
      exact fin _ X x1 x2 hO rfl he ho hn hm (by show r.asked = _; rw [ha, hms]) rfl (fun D => by simp)
    | false =>
      have hM : rowMs (x :: W) = x.h.method :: rowMs W := by simp [rowMs, hi]
      rw [hM] at ha
      obtain ⟨X, hX, x1, x2, x3⟩ := key x.h.method (rowMs W ++ tl) ha (.inl rfl)
      have hO := oneR_cons h0 ha hX
      have hst : 199 < x.r.status := by
        obtain ⟨hR, _⟩ := head_read (printP_right hx.pr).1 (printP_right hx.pr).2.1 (by omega) []
        refine Classical.byContradiction fun hn => ?_
        have := hR.st.1
        have h101 := hx.sw
        unfold interimB at hi
        rw [decide_eq_true this, decide_eq_true (show x.r.status ≤ 199 by omega)] at hi
        simp at hi
        exact h101 hi
      have hper := x3 hst
      simp only at hO
      rw [if_neg (by decide), if_neg (by simp), x1, if_neg (by rw [hi]; simp), if_neg (by rw [hper, hx.tn]; simp), hdrop] at hO
      exact fin _ X x1 x2 hO rfl he ho hn hm rfl rfl (fun D => by simp)
end Go.Proofs.YtcdkcaocfioigaaGreatDoor

set_option linter.unusedVariables false
set_option linter.unnecessarySimpa false
set_option linter.unusedSimpArgs false
set_option linter.unusedSectionVars false
set_option maxRecDepth 100000
namespace Go.Proofs.YtcdkcaocfioigaaGreatDoor
open Go Go.RowKit Go.Proofs Go.Deep

/-! ### Two readers behind a box -/
section
variable {H : Hp} {S x y z w : List AV} {J : Hp}
end
theorem okM_put {r : RM} (h : okM r) (s : List UInt8) (hl : r.bytes.length + r.done.length + s.length ≤ 100000000) : okM (r.put s) := by
  obtain ⟨h1, h2, h3, h4⟩ := h
  exact ⟨by simp only [RM.put, List.length_append]; omega, h2, h3, h4⟩
theorem okM_done {r : RM} (h : okM r) (d : List Rep) (hd : ∀ y ∈ d, y ∈ r.done) (hl : d.length ≤ r.done.length) : okM { r with done := d } := by
  obtain ⟨h1, h2, h3, h4⟩ := h
  exact ⟨by simp only; omega, h2, h3, fun x hx => h4 x (hd x hx)⟩
/-- A stream that is handed in. -/
structure StrA where
  m : List UInt8
  t : List UInt8
  most : Int
  ended : Bool
def StrA.avs (s : StrA) : List AV := [.str s.m, .str s.t, .int .i64 s.most, .bool s.ended]
section
variable (E : Env) (H : Hp) (Q : AV → Hp → Prop)
end
end Go.Proofs.YtcdkcaocfioigaaGreatDoor

set_option linter.unusedVariables false
set_option linter.unnecessarySimpa false
set_option linter.unusedSimpArgs false
set_option linter.unusedSectionVars false
set_option maxRecDepth 100000
namespace Go.Proofs.YtcdkcaocfioigaaGreatDoor
open Go Go.RowKit Go.Proofs Go.Deep

section
variable {H : Hp} {x y : List AV} {J : Hp}
theorem p2h (a b : List AV) : put2 (H ++ (x :: y :: J)) H.length a b = H ++ (a :: b :: J) := by
  unfold put2
  rw [List.set_append_right _ _ (by omega), List.set_append_right _ _ (by omega), show H.length - H.length = 0 by omega, show H.length + 1 - H.length = 1 by omega]
  rfl
theorem PC.at2 {P : Program} {E : Env} {f : FuncId} {args : List AV} {Q : AV → Hp → Prop} (h : PC P E f args (put2 (H ++ (x :: y :: J)) H.length x y) Q) : PC P E f args (H ++ (x :: y :: J)) Q := by
  rw [p2h] at h; exact h
end
def askW (l : List (List UInt8)) : RM := { newM 1048576 with asked := l }
/-- A row of the list of those that are wanted; of the list that is handed in. -/
def Sn.row (x : Sn) : List AV := [.int .i64 x.r.status, .str x.r.reason, .sl false 2 (flds x.r.fields), .str x.r.body, .str x.h.method, .bool false, .bool x.h.old, .bool false, .nil, .nil]
def Sn.raw (x : Sn) : List AV := [.int .i64 x.r.status, .str x.r.reason, .sl false 2 (flds x.r.fields), .str x.r.body, .str x.h.method, .bool x.h.close, .bool x.h.old, .bool x.h.chunked, .sl false 1 (ints x.h.sizes), .sl false 2 (flds x.h.trailers)]
def rowsR (l : List Sn) : List (List AV) := l.map Sn.row
def rowsX (l : List Sn) : List (List AV) := l.map Sn.raw
@[simp] theorem rowsR_len (l : List Sn) : (rowsR l).length = l.length := List.length_map ..
@[simp] theorem rowsX_len (l : List Sn) : (rowsX l).length = l.length := List.length_map ..
theorem rowsR_at {l : List Sn} {i : Nat} {x : Sn} (h : l[i]? = some x) : lat (rowsR l) i = some x.row := by simp [lat, rowsR, h]
theorem rowsX_at {l : List Sn} {i : Nat} {x : Sn} (h : l[i]? = some x) : lat (rowsX l) i = some x.raw := by simp [lat, rowsX, h]
theorem rowsR_snoc (l : List Sn) (x : Sn) : rowsR l ++ [x.row] = rowsR (l ++ [x]) := by simp [rowsR]
theorem okR_cut {x : Sn} (h : okR x.r x.h) : okR x.cut.r x.cut.h := by
  obtain ⟨o1, o2, o3, o4, o5, o6, o7, o9⟩ := h
  exact ⟨o1, by show fsz [] + 0 ≤ _; simp [fsz], by show 0 ≤ _; omega, o4, o5, o6, o7, fun z hz => by cases hz⟩
end Go.Proofs.YtcdkcaocfioigaaGreatDoor

set_option linter.unusedVariables false
set_option linter.unnecessarySimpa false
set_option linter.unusedSimpArgs false
set_option linter.unusedSectionVars false
set_option maxRecDepth 100000
namespace Go.Proofs.YtcdkcaocfioigaaGreatDoor
open Go Go.RowKit Go.Proofs Go.Deep

theorem shareT {I P : List AV → Hp → Prop} {G : Prop} (main : (∀ fr H', I fr H' → P fr H') → G) (tail : ∀ fr H', I fr H' → P fr H') : G := main tail
section
variable (E : Env) (H : Hp) (Q : AV → Hp → Prop)
def rwI1 (L : List Sn) (cs : List Int) (H : Hp) (fr : List AV) (H' : Hp) : Prop := ∃ (W : List Sn) (i : Nat) (J : Hp), i ≤ L.length ∧ W.length ≤ 64 ∧ (∀ x ∈ W, GoodS x) ∧ H' = H ++ (smB (askW (rowMs W)) :: rmB H.length (askW (rowMs W)) :: J) ∧
  ∃ x : Nat → AV, fr = [x 0, .sl false 1 (ints cs), x 2, x 3, x 4, .ptr (some (H.length + 1, 0)), x 6, .str (rowTx W), .sl true 10 (rowsR W), x 9, x 10, x 11, x 12, x 13, x 14, x 15, x 16, x 17, x 18, x 19, x 20, x 21, x 22, x 23, x 24, x 25, x 26, x 27, x 28, x 29, x 30, x 31, x 32, x 33, x 34, .sl false 10 (rowsX L), .int .i64 L.length, .int .i64 i, x 38, x 39, x 40, x 41, x 42, x 43, x 44, x 45, x 46, x 47, x 48, x 49, x 50, x 51, x 52, x 53, x 54, x 55, x 56, x 57, x 58, x 59, x 60, x 61, x 62, x 63, x 64, x 65, x 66, x 67, x 68, x 69, x 70, x 71, x 72, x 73, x 74, x 75, x 76, x 77, x 78, x 79, x 80, x 81, x 82, x 83, x 84, x 85, x 86, x 87, x 88, x 89, x 90, x 91, x 92, x 93, x 94, x 95, x 96, x 97, x 98, x 99, x 100, x 101, x 102, x 103, x 104, x 105, x 106, x 107, x 108, x 109, x 110, x 111, x 112, x 113, x 114, x 115, x 116, x 117, x 118, x 119, x 120, x 121, x 122, x 123, x 124, x 125, x 126, x 127, x 128, x 129, x 130, x 131, x 132, x 133, x 134, x 135, x 136, x 137, x 138, x 139, x 140, x 141, x 142, x 143, x 144, x 145, x 146, x 147, x 148, x 149, x 150, x 151, x 152, x 153, x 154, x 155, x 156, x 157, x 158, x 159, x 160, x 161, x 162, x 163, x 164, x 165, x 166, x 167, x 168, x 169, x 170, x 171, x 172, x 173, x 174, x 175, x 176, x 177, x 178, x 179, x 180, x 181, x 182, x 183, x 184, x 185, x 186, x 187, x 188, x 189, x 190, x 191, x 192, x 193, x 194, x 195, x 196, x 197, x 198, x 199, x 200, x 201, x 202, x 203, x 204, x 205, x 206, x 207, x 208, x 209, x 210, x 211, x 212, x 213, x 214, x 215, x 216, x 217, x 218, x 219, x 220, x 221, x 222, x 223, x 224, x 225, x 226, x 227, x 228, x 229, x 230, x 231]
def rwI2 (A : RM) (W : List Sn) (cs : List Int) (H : Hp) (fr : List AV) (H' : Hp) : Prop := ∃ (B : RM) (rest : List UInt8) (i : Nat) (J : Hp), i ≤ cs.length ∧ CutI A 0 B 0 rest ∧ okM (B.put rest) ∧ rest.length ≤ 100000000 ∧ H' = H ++ (smB B :: rmB H.length B :: J) ∧
  ∃ x : Nat → AV, fr = [x 0, x 1, x 2, x 3, x 4, .ptr (some (H.length + 1, 0)), x 6, .str rest, .sl true 10 (rowsR W), x 9, x 10, x 11, x 12, x 13, x 14, x 15, x 16, x 17, x 18, x 19, x 20, x 21, x 22, x 23, x 24, x 25, x 26, x 27, x 28, x 29, x 30, x 31, x 32, x 33, x 34, x 35, x 36, x 37, x 38, x 39, x 40, x 41, x 42, x 43, x 44, x 45, x 46, x 47, x 48, x 49, x 50, x 51, x 52, x 53, x 54, x 55, x 56, x 57, x 58, x 59, x 60, x 61, x 62, x 63, x 64, x 65, x 66, x 67, x 68, x 69, x 70, x 71, x 72, x 73, x 74, x 75, x 76, x 77, x 78, x 79, x 80, x 81, x 82, x 83, x 84, x 85, x 86, x 87, x 88, x 89, x 90, x 91, x 92, x 93, x 94, x 95, x 96, x 97, x 98, x 99, x 100, x 101, x 102, x 103, x 104, x 105, x 106, x 107, x 108, x 109, x 110, x 111, x 112, x 113, x 114, x 115, x 116, x 117, x 118, x 119, x 120, x 121, x 122, x 123, x 124, x 125, x 126, x 127, x 128, x 129, x 130, x 131, x 132, x 133, x 134, x 135, x 136, x 137, x 138, x 139, x 140, x 141, x 142, x 143, x 144, x 145, x 146, x 147, x 148, .sl true 1 (ints cs), .int .i64 cs.length, .int .i64 i, x 152, x 153, x 154, x 155, x 156, x 157, x 158, x 159, x 160, x 161, x 162, x 163, x 164, x 165, x 166, x 167, x 168, x 169, x 170, x 171, x 172, x 173, x 174, x 175, x 176, x 177, x 178, x 179, x 180, x 181, x 182, x 183, x 184, x 185, x 186, x 187, x 188, x 189, x 190, x 191, x 192, x 193, x 194, x 195, x 196, x 197, x 198, x 199, x 200, x 201, x 202, x 203, x 204, x 205, x 206, x 207, x 208, x 209, x 210, x 211, x 212, x 213, x 214, x 215, x 216, x 217, x 218, x 219, x 220, x 221, x 222, x 223, x 224, x 225, x 226, x 227, x 228, x 229, x 230, x 231]
def rwI3 (A : RM) (W : List Sn) (H : Hp) (fr : List AV) (H' : Hp) : Prop := ∃ (i : Nat) (J : Hp), i ≤ W.length ∧ H' = H ++ (smB A :: rmB H.length { A with done := A.done.drop i } :: J) ∧
  ∃ x : Nat → AV, fr = [x 0, x 1, x 2, x 3, x 4, .ptr (some (H.length + 1, 0)), x 6, x 7, x 8, x 9, x 10, x 11, x 12, x 13, x 14, x 15, x 16, x 17, x 18, x 19, x 20, x 21, x 22, x 23, x 24, x 25, x 26, x 27, x 28, x 29, x 30, x 31, x 32, x 33, x 34, x 35, x 36, x 37, x 38, x 39, x 40, x 41, x 42, x 43, x 44, x 45, x 46, x 47, x 48, x 49, x 50, x 51, x 52, x 53, x 54, x 55, x 56, x 57, x 58, x 59, x 60, x 61, x 62, x 63, x 64, x 65, x 66, x 67, x 68, x 69, x 70, x 71, x 72, x 73, x 74, x 75, x 76, x 77, x 78, x 79, x 80, x 81, x 82, x 83, x 84, x 85, x 86, x 87, x 88, x 89, x 90, x 91, x 92, x 93, x 94, x 95, x 96, x 97, x 98, x 99, x 100, x 101, x 102, x 103, x 104, x 105, x 106, x 107, x 108, x 109, x 110, x 111, x 112, x 113, x 114, x 115, x 116, x 117, x 118, x 119, x 120, x 121, x 122, x 123, x 124, x 125, x 126, x 127, x 128, x 129, x 130, x 131, x 132, x 133, x 134, x 135, x 136, x 137, x 138, x 139, x 140, x 141, x 142, x 143, x 144, x 145, x 146, x 147, x 148, x 149, x 150, x 151, x 152, x 153, x 154, x 155, x 156, x 157, x 158, x 159, x 160, x 161, x 162, x 163, x 164, x 165, x 166, x 167, x 168, x 169, x 170, x 171, x 172, x 173, x 174, x 175, x 176, x 177, .sl false 10 (rowsR W), .int .i64 W.length, .int .i64 i, x 181, x 182, x 183, x 184, x 185, x 186, x 187, x 188, x 189, x 190, x 191, x 192, x 193, x 194, x 195, x 196, x 197, x 198, x 199, x 200, x 201, x 202, x 203, x 204, x 205, x 206, x 207, x 208, x 209, x 210, x 211, x 212, x 213, x 214, x 215, x 216, x 217, x 218, x 219, x 220, x 221, x 222, x 223, x 224, x 225, x 226, x 227, x 228, x 229, x 230, x 231]
set_option maxHeartbeats 16000000 in
theorem mrow_pc (hE : SM E) (L : List Sn) (cs : List Int) (hl : L.length ≤ 1048576) (hcl : cs.length ≤ 1048576) (hL : ∀ x ∈ L, okR x.r x.h)
    (hok : ∀ z ∈ cs, -9223372036854775808 ≤ z ∧ z ≤ 9223372036854775807) (hQ : Q (.bool true) H) : PC Tryz.prog E 8 [.sl false 10 (rowsX L), .sl false 1 (ints cs)] H Q := by
  refine pc_enter Tryz.func8 rfl [121, 145, 147] [] (by kernel_rfl) (fun hB => ?_)
  simp [Tryz.ntmps8, Tryz.results8, List.replicate_succ]
  refine awake12_pc E _ _ hE ?_
  simp
  refine rnew_pc E _ _ 1048576 (fun _ => ?_) (fun h => absurd h (by decide))
  simp
  refine VL_nil 8 10 rfl ?_
  refine VL_go (rwI1 L cs H) (fun fr _ => L.length - (ai (aget fr 37)).toNat) ⟨[], 0, [], by omega, by simp, by simp, rfl, fr_intro (by simp [rowTx, rowsR])⟩ ?_
  rintro fr H' ⟨W, i, J, hi, hW, hg, rfl, x, rfl⟩
  by_cases hil : i < L.length
  · obtain ⟨z, hz⟩ : ∃ z, L[i]? = some z := ⟨_, List.getElem?_eq_getElem hil⟩
    have hat := rowsX_at hz
    have hokz := hL z (List.mem_of_getElem? hz)
    have hw : IntKind.i64.wrap ((i : Int) + 1) = i + 1 := wrap_in (by omega) (by omega)
    have hokc := okR_cut hokz
    obtain ⟨tn, htn⟩ : ∃ tn, (z.h.method == vConnect && (decide (200 ≤ z.r.status) && decide (z.r.status ≤ 299))) = tn := ⟨_, rfl⟩
    have hcn : (z.h.method == [67, 79, 78, 78, 69, 67, 84]) = (z.h.method == vConnect) := rfl
    have hbod : ¬ (1048576 : Int) < z.r.body.length := by have := hokz.2.2.2.2.1; omega
    have hnil : nilL [.str z.h.method, .bool false, .bool z.h.old, .bool false, .nil, .nil] z.cut.h.avs := ⟨.inl rfl, .inl rfl, .inl rfl, .inl rfl, .inr ⟨rfl, false, 1, rfl⟩, .inr ⟨rfl, false, 2, rfl⟩, trivial⟩
    have hfre : ∀ y ∈ z.cut.h.avs, y.free = true := by simp [Mann.avs, AV.free]
    have hoka : okM (askW (rowMs W)) := ⟨by simp [askW, newM], by have := rowMs_len W; show (rowMs W).length ≤ 64; omega, ⟨by show (0 : Int) ≤ 1048576; decide, by show (1048576 : Int) ≤ 9223372036854775807; decide⟩, by simp [askW, newM]⟩
    have hrT := rowTx_len W hg
    simp [hil, hat, Sn.raw, hcn]
    cases q2 : (z.h.method == vConnect)
    case' false =>
      have ht : turnedB z.h.method z.r.status = (z.r.status == 101) := by unfold turnedB; rw [q2]; simp
      simp
    case' true =>
      by_cases q3 : 200 ≤ z.r.status
      case' neg =>
        have ht : turnedB z.h.method z.r.status = (z.r.status == 101) := by unfold turnedB; rw [decide_eq_false q3]; simp
        simp [q3]
      case' pos =>
        by_cases q4 : z.r.status ≤ 299
        case' neg =>
          have ht : turnedB z.h.method z.r.status = (z.r.status == 101) := by unfold turnedB; rw [decide_eq_false q4]; simp
          simp [q3, q4]
        case' pos =>
          simp [q3, q4]
          refine PC.agg2 (a := z.r.avs) (l' := z.cut.h.avs) hnil hfre ?_
          refine right12_pc E _ _ z.r z.cut.h hokc ?_
          cases h0 : ((printP z.r z.cut.h).2 == 0)
          case' true =>
            cases q1 : (z.r.status == 101)
            all_goals simp [q1]
          all_goals
            simp [hw]
            exact Kloop_normal ⟨W, i + 1, _, by omega, hW, hg, rfl, fr_intro (by simp)⟩ (by simp; omega)
    all_goals as_aux_lemma =>
      refine PC.agg2 (a := z.r.avs) (l' := z.cut.h.avs) hnil hfre ?_
      refine right12_pc E _ _ z.r z.cut.h hokc ?_
      cases h0 : ((printP z.r z.cut.h).2 == 0)
      · simp [hw]
        exact Kloop_normal ⟨W, i + 1, _, by omega, hW, hg, rfl, fr_intro (by simp)⟩ (by simp; omega)
      have h0' : (printP z.r z.cut.h).2 = 0 := by simpa using h0
      cases q1 : (z.r.status == 101)
      case true =>
        simp [q1, hw]
        exact Kloop_normal ⟨W, i + 1, _, by omega, hW, hg, rfl, fr_intro (by simp)⟩ (by simp; omega)
      rw [q1] at ht
      have hq1 : ¬ z.r.status = 101 := by simpa using q1
      have hgz : GoodS z.cut := ⟨hokc, h0', rfl, rfl, hq1, ht⟩
      by_cases h64 : W.length = 64
      · have h64' : (W.length : Int) = 64 := by omega
        simp [q1, hbod, h64', hw]
        exact Kloop_normal ⟨W, i + 1, _, by omega, hW, hg, rfl, fr_intro (by simp)⟩ (by simp; omega)
      have h64' : ((W.length : Int) == 64) = false := by rw [beq_eq_false_iff_ne]; omega
      have hpl := print_len hgz
      have hpl2 : (printP z.r z.cut.h).1.length ≤ 1114112 := hpl.2
      have m1 : (rowTx W).length + (printP z.r z.cut.h).1.length ≤ maxLen := by unfold maxLen; omega
      have m2 : W.length + 1 ≤ maxLen := by unfold maxLen; omega
      have m3 : (W.length + 1) * 136 ≤ 140737488355328 := by omega
      have hsn : rowsR W ++ [[.int .i64 z.r.status, .str z.r.reason, .sl false 2 (flds z.r.fields), .str z.r.body, .str z.h.method, .bool false, .bool z.h.old, .bool false, .nil, .nil]] = rowsR (W ++ [z.cut]) := rowsR_snoc W z.cut
      have hgs : ∀ x ∈ W ++ [z.cut], GoodS x := fun x hx => by
        rcases List.mem_append.1 hx with h | h
        · exact hg x h
        · simp at h; subst h; exact hgz
      have hts : rowTx (W ++ [z.cut]) = rowTx W ++ (printP z.r z.cut.h).1 := rowTx_snoc W z.cut
      simp [q1, hbod, h64']
      refine PC.agg2 (a := z.r.avs) (l' := z.cut.h.avs) hnil hfre ?_
      refine copied_pc E _ _ z.r z.cut.h (by have := hokc.1; show z.r.fields.length ≤ _; have : fsz z.r.fields + z.r.fields.length ≤ 1048577 := hokc.1; omega) (by show 0 ≤ _; omega) (by show 0 ≤ _; omega) ?_
      simp
      refine mprint_pc E _ _ hE z.r z.cut.h hokc ?_
      rw [h0']
      simp
      refine dinterim_pc E _ _ z.r.status ?_
      have hms : rowMs (W ++ [z.cut]) = rowMs W ++ (if interimB z.r.status = true then [] else [z.h.method]) := rowMs_snoc W z.cut
      cases hin : interimB z.r.status
      case true =>
        rw [hin, if_pos rfl, List.append_nil] at hms
        simp [m1, m2, m3, hsn, hw]
        exact Kloop_normal ⟨W ++ [z.cut], i + 1, _, by omega, by simp; omega, hgs, by rw [hms], fr_intro (by simp [hts])⟩ (by simp; omega)
      case false =>
        rw [hin, if_neg (by simp)] at hms
        simp
        refine PC.at2 ?_
        refine rask_pc E _ _ H.length (askW (rowMs W)) (by simp) hoka z.h.method (fun h => ?_) (fun _ => ?_)
        · have h : 64 ≤ (rowMs W).length := h
          have := rowMs_len W
          omega
        · rw [p2h]
          simp [m1, m2, m3, hsn, hw]
          exact Kloop_normal ⟨W ++ [z.cut], i + 1, _, by omega, by simp; omega, hgs, by rw [hms]; rfl, fr_intro (by simp [hts])⟩ (by simp; omega)
  · have hrT := rowTx_len W hg
    have hint : ints (cs ++ [-1]) = ints cs ++ [[.int .i64 (-1)]] := by simp [ints]
    have c1 : cs.length ≤ maxLen := by unfold maxLen; omega
    have c2 : cs.length * 8 ≤ 140737488355328 := by omega
    have c3 : cs.length + 1 ≤ maxLen := by unfold maxLen; omega
    have c4 : (cs.length + 1) * 8 ≤ 140737488355328 := by omega
    have fin : ∀ tl : List (List UInt8), tl.length ≤ 1 → (∀ x, W.getLast? = some x → interimB x.r.status = true → tl ≠ []) → (rowMs W ++ tl).length ≤ 64 → ∃ A : RM, feedM (askW (rowMs W ++ tl)) (rowTx W) = (A, 0) ∧ okM ((askW (rowMs W ++ tl)).put (rowTx W)) ∧ okM A ∧ A.err = 0 ∧ rowD W A.done := fun tl htl hlast hask => by
      have hokf : okM ((askW (rowMs W ++ tl)).put (rowTx W)) := ⟨by simp [askW, newM, RM.put]; omega, hask, ⟨by show (0 : Int) ≤ 1048576; decide, by show (1048576 : Int) ≤ 9223372036854775807; decide⟩, by simp [askW, newM, RM.put]⟩
      obtain ⟨D, hD, hR⟩ := row_read W tl ((askW (rowMs W ++ tl)).put (rowTx W)) hg (fedS_of W tl hlast) (by simp [askW, newM, RM.put]) rfl rfl rfl rfl rfl
      have hF : feedM (askW (rowMs W ++ tl)) (rowTx W) = (readA ((askW (rowMs W ++ tl)).put (rowTx W)), (readA ((askW (rowMs W ++ tl)).put (rowTx W))).err) := by
        unfold feedM
        rw [if_neg (by simp [askW, newM]), if_neg (by simp [askW, newM])]
      have hokA := feedM_ok hokf
      rw [hF, hD] at hokA
      rw [hD] at hF
      exact ⟨_, hF, hokf, hokA, rfl, by simpa [askW, newM, RM.put] using hR⟩
    have hcase : W = [] ∨ ∃ z, W.getLast? = some z ∧ lat (rowsR W) (W.length - 1) = some z.row ∧ 1 ≤ W.length := by
      rcases List.eq_nil_or_concat W with h | ⟨V, z, h⟩
      · exact .inl h
      · refine .inr ⟨z, by rw [h]; simp, rowsR_at (by rw [h]; simp), by rw [h]; simp⟩
    obtain ⟨cs2, hcs2⟩ : ∃ l, cs ++ [-1] = l := ⟨_, rfl⟩
    have hok2 : ∀ z ∈ cs2, -9223372036854775808 ≤ z ∧ z ≤ 9223372036854775807 := fun z hz => by
      rw [← hcs2] at hz
      rcases List.mem_append.1 hz with h | h
      · exact hok z h
      · simp at h; subst h; exact ⟨by decide, by decide⟩
    have hl2 : cs2.length ≤ 1048577 := by rw [← hcs2]; simp; omega
    obtain ⟨tl, htl1, hlast, htlen, htl⟩ : ∃ tl : List (List UInt8), tl.length ≤ 1 ∧ (∀ x, W.getLast? = some x → interimB x.r.status = true → tl ≠ []) ∧ (rowMs W ++ tl).length ≤ 64 ∧ ((tl = [] ∧ (∀ x, W.getLast? = some x → interimB x.r.status = false)) ∨ (tl = [[71, 69, 84]] ∧ ∃ x, W.getLast? = some x ∧ interimB x.r.status = true)) := by
      have hml := rowMs_len W
      rcases hcase with hW0 | ⟨z, hz, _, hz1⟩
      · exact ⟨[], by simp, fun x hx => by rw [hW0] at hx; simp at hx, by rw [List.append_nil]; omega, .inl ⟨rfl, fun x hx => by rw [hW0] at hx; simp at hx⟩⟩
      · cases hin : interimB z.r.status
        · exact ⟨[], by simp, fun x hx hi => (by rw [hz] at hx; cases hx; rw [hin] at hi; cases hi), by rw [List.append_nil]; omega, .inl ⟨rfl, fun x hx => by rw [hz] at hx; cases hx; exact hin⟩⟩
        · exact ⟨[[71, 69, 84]], by simp, fun x hx hi => (by simp), by rw [List.length_append]; have := rowMs_last hz hin; simp; omega, .inr ⟨rfl, z, hz, hin⟩⟩
    obtain ⟨A, hA, hokf, hokA, hA0, hR⟩ := fin tl htl1 hlast htlen
    apply shareT (I := rwI2 A W cs2 H)
    · intro hgo
      have start : ∀ fr, (∃ x : Nat → AV, fr = [x 0, x 1, x 2, x 3, x 4, .ptr (some (H.length + 1, 0)), x 6, .str (rowTx W), .sl true 10 (rowsR W), x 9, x 10, x 11, x 12, x 13, x 14, x 15, x 16, x 17, x 18, x 19, x 20, x 21, x 22, x 23, x 24, x 25, x 26, x 27, x 28, x 29, x 30, x 31, x 32, x 33, x 34, x 35, x 36, x 37, x 38, x 39, x 40, x 41, x 42, x 43, x 44, x 45, x 46, x 47, x 48, x 49, x 50, x 51, x 52, x 53, x 54, x 55, x 56, x 57, x 58, x 59, x 60, x 61, x 62, x 63, x 64, x 65, x 66, x 67, x 68, x 69, x 70, x 71, x 72, x 73, x 74, x 75, x 76, x 77, x 78, x 79, x 80, x 81, x 82, x 83, x 84, x 85, x 86, x 87, x 88, x 89, x 90, x 91, x 92, x 93, x 94, x 95, x 96, x 97, x 98, x 99, x 100, x 101, x 102, x 103, x 104, x 105, x 106, x 107, x 108, x 109, x 110, x 111, x 112, x 113, x 114, x 115, x 116, x 117, x 118, x 119, x 120, x 121, x 122, x 123, x 124, x 125, x 126, x 127, x 128, x 129, x 130, x 131, x 132, x 133, x 134, x 135, x 136, x 137, x 138, x 139, x 140, x 141, x 142, x 143, x 144, x 145, x 146, x 147, x 148, .sl true 1 (ints cs2), .int .i64 cs2.length, .int .i64 (0 : Nat), x 152, x 153, x 154, x 155, x 156, x 157, x 158, x 159, x 160, x 161, x 162, x 163, x 164, x 165, x 166, x 167, x 168, x 169, x 170, x 171, x 172, x 173, x 174, x 175, x 176, x 177, x 178, x 179, x 180, x 181, x 182, x 183, x 184, x 185, x 186, x 187, x 188, x 189, x 190, x 191, x 192, x 193, x 194, x 195, x 196, x 197, x 198, x 199, x 200, x 201, x 202, x 203, x 204, x 205, x 206, x 207, x 208, x 209, x 210, x 211, x 212, x 213, x 214, x 215, x 216, x 217, x 218, x 219, x 220, x 221, x 222, x 223, x 224, x 225, x 226, x 227, x 228, x 229, x 230, x 231]) → ∀ J, rwI2 A W cs2 H fr (H ++ (smB (askW (rowMs W ++ tl)) :: rmB H.length (askW (rowMs W ++ tl)) :: J)) := fun fr hfr J =>
        ⟨_, rowTx W, 0, J, by omega, ⟨fun _ => ⟨rfl, rfl, by rw [hA]; exact Alik.refl _, by rw [hA]⟩, fun h => absurd rfl h⟩, hokf, by omega, rfl, hfr⟩
      have hcase2 := id hcase
      rcases hcase2 with hW0 | ⟨z, hz, hzat, hz1⟩
      case' inl =>
        have ht0 : tl = [] := by
          have htl2 := id htl
          rcases htl2 with h | ⟨_, x, hx, _⟩
          · exact h.1
          · rw [hW0] at hx; simp at hx
        rw [ht0, List.append_nil] at start
        have hz0 : ¬ 0 < W.length := by rw [hW0]; simp
        simp [hil, hz0]
      case' inr =>
        have hz1' : 0 < W.length := by omega
        have w1 : IntKind.i64.wrap ((W.length : Int) - 1) = ((W.length - 1 : Nat) : Int) := by rw [wrap_in (by omega) (by omega)]; omega
        have hlt1 : W.length - 1 < W.length := by omega
        simp [hil, hz1', w1, hlt1, hzat, Sn.row]
        refine dinterim_pc E _ _ z.r.status ?_
        cases hin : interimB z.r.status
        case' false =>
          have ht0 : tl = [] := by
            have htl2 := id htl
            rcases htl2 with h | ⟨_, x, hx, hi⟩
            · exact h.1
            · rw [hz] at hx; cases hx; rw [hin] at hi; cases hi
          rw [ht0, List.append_nil] at start
          simp
        case' true =>
          have ht0 : tl = [[71, 69, 84]] := by
            have htl2 := id htl
            rcases htl2 with ⟨_, h⟩ | h
            · have := h z hz; rw [hin] at this; cases this
            · exact h.1
          rw [ht0] at start
          simp
          refine PC.at2 ?_
          refine rask_pc E _ _ H.length (askW (rowMs W)) (by simp) ⟨by simp [askW, newM], by have := rowMs_len W; show (rowMs W).length ≤ 64; omega, ⟨by show (0 : Int) ≤ 1048576; decide, by show (1048576 : Int) ≤ 9223372036854775807; decide⟩, by simp [askW, newM]⟩ [71, 69, 84] (fun h => absurd h (by have := rowMs_last hz hin; show ¬ 64 ≤ (rowMs W).length; omega)) (fun _ => ?_)
          rw [p2h, show ({ askW (rowMs W) with asked := (askW (rowMs W)).asked ++ [[71, 69, 84]] } : RM) = askW (rowMs W ++ [[71, 69, 84]]) from rfl]
      all_goals
        simp [c1, c2, c3, c4]
        exact VL_go (rwI2 A W cs2 H) (fun fr _ => cs2.length - (ai (aget fr 151)).toNat) (start _ (fr_intro (by simp [← hcs2, hint])) _) hgo
    · as_aux_lemma =>
      rintro fr H' ⟨B, rest, i, J, hi, hI, hokB, hrl, rfl, x, rfl⟩
      have hB1 : okM B := ⟨by have := hokB.1; simp only [RM.put, List.length_append] at this; omega, hokB.2.1, hokB.2.2.1, hokB.2.2.2⟩
      have hB2 : B.bytes.length + B.done.length + rest.length ≤ 100000000 := by
        have := hokB.1
        simp only [RM.put, List.length_append] at this
        omega
      by_cases hil : i < cs2.length
      · obtain ⟨z, hz⟩ : ∃ z, cs2[i]? = some z := ⟨_, List.getElem?_eq_getElem hil⟩
        have hat := ints_at hz
        have hzr := hok2 z (List.mem_of_getElem? hz)
        have hw : IntKind.i64.wrap ((i : Int) + 1) = i + 1 := wrap_in (by omega) (by omega)
        have hw1 : IntKind.i64.wrap ((rest.length : Int) + 1) = rest.length + 1 := wrap_in (by omega) (by omega)
        have main : ∀ n : Nat, okM (B.put (rest.take n)) ∧ ∃ B1, feedM B (rest.take n) = (B1, 0) ∧ CutI A 0 B1 0 (rest.drop n) ∧ okM (B1.put (rest.drop n)) := fun n => by
          have hokT : okM (B.put (rest.take n)) := okM_put hB1 _ (by rw [List.length_take]; omega)
          have hst := hI.step rfl n
          have hh := feedM_held B (rest.take n)
          have hokF := feedM_ok hokT
          obtain ⟨⟨B1, f1⟩, hf⟩ : ∃ p, feedM B (rest.take n) = p := ⟨_, rfl⟩
          rw [hf] at hst hh hokF
          simp only at hst hh hokF
          unfold heldM at hh
          rw [List.length_take] at hh
          have hf0 : f1 = 0 := Classical.byContradiction fun hn => hn (hst.stop hn).2
          subst hf0
          exact ⟨hokT, B1, hf, hst, okM_put hokF _ (by rw [List.length_drop]; omega)⟩
        by_cases hz0 : 0 ≤ z
        · obtain ⟨n, hn⟩ : ∃ n : Nat, z % ((rest.length : Int) + 1) = n := ⟨(z % ((rest.length : Int) + 1)).toNat, by have := Int.emod_nonneg z (show ((rest.length : Int) + 1) ≠ 0 by omega); omega⟩
          have hnl : n ≤ rest.length := by have := Int.emod_lt_of_pos z (show (0 : Int) < (rest.length : Int) + 1 by omega); omega
          have htl : List.take (rest.length - n) (rest.drop n) = rest.drop n := List.take_of_length_le (by rw [List.length_drop]; omega)
          have hne : ¬ ((rest.length : Int) + 1) = 0 := by omega
          have hmod : z.tmod ((rest.length : Int) + 1) = n := by rw [Int.tmod_eq_emod_of_nonneg hz0]; exact hn
          have hwn : IntKind.i64.wrap (n : Int) = n := wrap_in (by omega) (by omega)
          obtain ⟨hokT, B1, hF, hc, hok1⟩ := main n
          simp [hil, hat, hz0, hw1, hne, hmod, hwn, hnl]
          refine PC.at2 ?_
          refine rfeed_pc E _ _ H.length B (by simp) hE.1.1 (rest.take n) hokT ?_
          rw [p2h, hF]
          simp [hnl, htl, hw]
          exact Kloop_normal ⟨B1, rest.drop n, i + 1, _, by omega, hc, hok1, by rw [List.length_drop]; omega, rfl, fr_intro (by simp)⟩ (by simp; omega)
        · have htk : List.take rest.length rest = rest := List.take_of_length_le (Nat.le_refl _)
          have hdr : List.drop rest.length rest = [] := List.drop_eq_nil_of_le (Nat.le_refl _)
          obtain ⟨hokT, B1, hF, hc, hok1⟩ := main rest.length
          rw [htk] at hokT hF
          rw [hdr] at hc hok1
          simp [hil, hat, hz0]
          refine PC.at2 ?_
          refine rfeed_pc E _ _ H.length B (by simp) hE.1.1 rest hokT ?_
          rw [p2h, hF]
          simp [hw]
          exact Kloop_normal ⟨B1, [], i + 1, _, by omega, hc, hok1, by simp, rfl, fr_intro (by simp)⟩ (by simp; omega)
      · obtain ⟨g1, g2, g3, g4⟩ := hI.go rfl
        have hAB : (feedM B rest).1 = A := g3.eq (by rw [g3.err]; exact hA0)
        simp [hil]
        refine PC.at2 ?_
        refine rfeed_pc E _ _ H.length B (by simp) hE.1.1 rest hokB ?_
        rw [p2h, hAB, g4]
        simp
        refine VL_go (rwI3 A W H) (fun fr _ => W.length - (ai (aget fr 180)).toNat) ⟨0, _, by omega, rfl, fr_intro (by simp)⟩ ?_
        rintro fr H' ⟨i, J, hi, rfl, x, rfl⟩
        have hDl := rowD_len W A.done hR
        have hokD : okM { A with done := A.done.drop i } := okM_done hokA _ (fun y hy => List.mem_of_mem_drop hy) (by rw [List.length_drop]; omega)
        have hsB : smB A = smB { A with done := A.done.drop i } := rfl
        by_cases hil : i < W.length
        · obtain ⟨z, hz⟩ : ∃ z, W[i]? = some z := ⟨_, List.getElem?_eq_getElem hil⟩
          have hat := rowsR_at hz
          obtain ⟨d, hd, d1, d2⟩ := rowD_at W A.done i z hR hz
          have hw : IntKind.i64.wrap ((i : Int) + 1) = i + 1 := wrap_in (by omega) (by omega)
          have hcons : A.done.drop i = d :: A.done.drop (i + 1) := by
            obtain ⟨hl, he⟩ := List.getElem?_eq_some_iff.1 hd
            rw [List.drop_eq_getElem_cons hl, he]
          have hnx : nextM { A with done := A.done.drop i } = ({ A with done := A.done.drop (i + 1) }, d, true) := by unfold nextM; simp only; rw [hcons]
          simp [hil, hat, Sn.row]
          rw [hsB]
          refine PC.at2 ?_
          refine rnext_pc E _ _ H.length { A with done := A.done.drop i } (by simp) hokD ?_
          rw [p2h, hnx]
          simp [Rep.avs, d1]
          refine bodyless_pc E _ _ z.h.method z.r.status ?_
          cases hbl : bodylessB z.h.method z.r.status with
          | true =>
            simp [hw]
            exact Kloop_normal ⟨i + 1, _, by omega, rfl, fr_intro (by simp)⟩ (by simp; omega)
          | false =>
            have hb := d2 hbl
            simp [hb, hw]
            exact Kloop_normal ⟨i + 1, _, by omega, rfl, fr_intro (by simp)⟩ (by simp; omega)
        · have hdn : A.done.drop i = [] := List.drop_eq_nil_of_le (by omega)
          have hnx : nextM { A with done := A.done.drop i } = ({ A with done := A.done.drop i }, rep0, false) := by unfold nextM; simp only; rw [hdn]
          simp [hil]
          rw [hsB]
          refine PC.at2 ?_
          refine rnext_pc E _ _ H.length { A with done := A.done.drop i } (by simp) hokD ?_
          rw [p2h, hnx]
          simp [Rep.avs]
          refine PC.at2 ?_
          refine rerr_pc E _ _ H.length { A with done := A.done.drop i } (by simp) ?_
          rw [p2h]
          simp [hA0]
          exact aPost_same hB rfl (nilV_refl _) (by simp) hQ
end
end Go.Proofs.YtcdkcaocfioigaaGreatDoor

set_option linter.unusedVariables false
set_option linter.unnecessarySimpa false
set_option linter.unusedSimpArgs false
set_option linter.unusedSectionVars false
set_option maxRecDepth 100000
namespace Go.Proofs.YtcdkcaocfioigaaGreatDoor
open Go Go.RowKit Go.Proofs Go.Deep Go.ChangeShapes Go.WideShapes Go.ChangeAt

def Sn.bulk (z : Sn) : Nat := z.r.reason.length + z.r.body.length + (fsz z.r.fields + z.r.fields.length) + (z.h.method.length + z.h.sizes.length + (fsz z.h.trailers + z.h.trailers.length))
structure SOk (W : World) (cs : List Value) (z : Sn) (b : Nat) : Prop where
  clen : cs.length = 10
  rel : ∀ (j : Nat) y u, z.raw[j]? = some y → cs[j]? = some u → y.free = true ∧ y.one = true ∧ Rel W (fun _ => 0) (old W) y u ∧ Bnd 0 y
  st : -9223372036854775808 ≤ z.r.status ∧ z.r.status ≤ 9223372036854775807
  rng : ∀ y ∈ z.h.sizes, -9223372036854775808 ≤ y ∧ y ≤ 9223372036854775807
  bulk : z.bulk + 1 ≤ b
theorem open_sent {H : Type} {enc : TypeId × Value → H} {W : World} {spare : Nat → Bool} {held : Bool} {fuel : Nat} {cs : List Value} {x : DataW H × List MemPlace} (h : DataW.trod enc Tryz.prog W 0 spare held fuel 71 cs = some x) :
    ∃ z : Sn, SOk W cs z (Rows.uptoBulk x.1) := by
  obtain ⟨xs, n', _, rfl, hcl, hxl, hf⟩ := DataW.trod_struct Tryz.underlying71 h
  have e0 : Tryz.prog.cellsOf 71 = 10 := by kernel_rfl
  have e1 : Tryz.prog.cellsOf 24 = 4 := by kernel_rfl
  have e2 : Tryz.prog.cellsOf 27 = 6 := by kernel_rfl
  rw [e0] at hcl
  obtain ⟨c0, c1, c2, c3, c4, c5, c6, c7, c8, c9, rfl⟩ : ∃ c0 c1 c2 c3 c4 c5 c6 c7 c8 c9, cs = [c0, c1, c2, c3, c4, c5, c6, c7, c8, c9] := by
    match cs, hcl with
    | [a, b, c, d, e, f, g, i, j, k], _ => exact ⟨a, b, c, d, e, f, g, i, j, k, rfl⟩
  obtain ⟨y0, y1, rfl⟩ : ∃ y0 y1, xs = [y0, y1] := by
    match xs, hxl with
    | [a, b], _ => exact ⟨a, b, rfl⟩
  have h0 := hf 0 _ rfl
  have h1 := hf 1 _ rfl
  simp [e1] at h0
  simp [e2] at h1
  obtain ⟨r, R⟩ := open_resp h0
  obtain ⟨m, M⟩ := open_mann h1
  have hb0 := R.bulk
  have hb1 := M.bulk
  have hrel0 := R.rel
  have hrel1 := M.rel
  have hbn0 := R.bnd
  have hbn1 := M.bnd
  refine ⟨⟨r, m⟩, rfl, fun j y u hy hu => ?_, R.st, M.rng, ?_⟩
  · cases hrel0 with
    | agg _ _ _ f0 g0 =>
    cases hrel1 with
    | agg _ _ _ f1 g1 =>
    cases hbn0 with
    | agg _ b0 =>
    cases hbn1 with
    | agg _ b1 =>
    have k0 : ∀ (j : Nat) (y : AV) (u : Value), r.avs[j]? = some y → [c0, c1, c2, c3][j]? = some u → y.free = true ∧ y.one = true ∧ Rel W (fun _ => 0) (old W) y u ∧ Bnd 0 y := fun j y u hy hu =>
      ⟨(f0 y (List.mem_of_getElem? hy)).1, (f0 y (List.mem_of_getElem? hy)).2, g0 j y u hy (by simpa using hu), b0 y (List.mem_of_getElem? hy)⟩
    have k1 : ∀ (j : Nat) (y : AV) (u : Value), m.avs[j]? = some y → [c4, c5, c6, c7, c8, c9][j]? = some u → y.free = true ∧ y.one = true ∧ Rel W (fun _ => 0) (old W) y u ∧ Bnd 0 y := fun j y u hy hu =>
      ⟨(f1 y (List.mem_of_getElem? hy)).1, (f1 y (List.mem_of_getElem? hy)).2, g1 j y u hy (by simpa using hu), b1 y (List.mem_of_getElem? hy)⟩
    match j with
    | 0 => exact k0 0 y u hy hu
    | 1 => exact k0 1 y u hy hu
    | 2 => exact k0 2 y u hy hu
    | 3 => exact k0 3 y u hy hu
    | 4 => exact k1 0 y u hy hu
    | 5 => exact k1 1 y u hy hu
    | 6 => exact k1 2 y u hy hu
    | 7 => exact k1 3 y u hy hu
    | 8 => exact k1 4 y u hy hu
    | 9 => exact k1 5 y u hy hu
    | j + 10 => simp [Sn.raw] at hy
  · simp only [Sn.bulk, List.map_cons, List.map_nil, Rows.uptoBulk, Rows.uptoBulkAll]
    omega
theorem bulkAll_mem {H : Type} : ∀ (l : List (DataW H)) (d : DataW H), d ∈ l → Rows.uptoBulk d ≤ Rows.uptoBulkAll l
  | [], _, h => by cases h
  | x :: l, d, h => by
    simp only [Rows.uptoBulkAll]
    rcases List.mem_cons.1 h with rfl | h
    · omega
    · have := bulkAll_mem l d h
      omega
theorem open_sents {H : Type} {enc : TypeId × Value → H} {W : World} {spare : Nat → Bool} {held : Bool} {fuel : Nat} {cs : List Value} {x : DataW H × List MemPlace} (h : DataW.trod enc Tryz.prog W 0 spare held fuel 66 cs = some x) :
    ∃ (bo : Option Addr) (len cap : Nat) (L : List Sn), cs = [.slice bo len cap] ∧ L.length + 1 ≤ Rows.uptoBulk x.1 ∧ Rel W (fun _ => 0) (old W) (.sl false 10 (rowsX L)) (.slice bo len cap) ∧ Bnd 0 (.sl false 10 (rowsX L)) ∧
      ∀ z ∈ L, (-9223372036854775808 ≤ z.r.status ∧ z.r.status ≤ 9223372036854775807) ∧ (∀ y ∈ z.h.sizes, -9223372036854775808 ≤ y ∧ y ≤ 9223372036854775807) ∧ z.bulk + 1 ≤ Rows.uptoBulk x.1 := by
  have ht := Tryz.underlying66
  have hk : Tryz.prog.cellsOf 71 = 10 := by kernel_rfl
  rcases open_slice ht h with ⟨rfl, rfl⟩ | ⟨a, len, cap, m, n', D, Pl, rfl, hb, hl, hm, hmm, rfl, hi⟩
  · refine ⟨none, 0, 0, [], rfl, by simp [Rows.uptoBulk], ?_, .sl _ _ _ (fun r hr => by cases hr), fun z hz => by cases hz⟩
    exact rel_rows _ [] none 0 0 (fun r hr => by cases hr) (by omega) rfl (Nat.le_refl _) (Nat.zero_le _) (fun i r hr => by simp at hr)
  · have hlm : len ≤ m := by rw [hmm]; split <;> omega
    obtain ⟨L, hrl, hrx⟩ := list_lt (n := len) (p := fun i (z : Sn) => ∃ g o cs', some a = some ⟨g, o, none⟩ ∧ (∀ (j : Nat) v, cs'[j]? = some v → W.cell? ⟨g, o + i * 10 + j, none⟩ = some v) ∧ SOk W cs' z (Rows.uptoBulk (D i))) (fun i hi' => by
      obtain ⟨cs', hcs, htr⟩ := hi i (by omega)
      obtain ⟨z, ho⟩ := open_sent htr
      obtain ⟨_, hcl, hat⟩ := World.cells?_some hcs
      obtain ⟨cs0, hcs0, _⟩ := hi 0 (by omega)
      have h00 := World.cells?_some hcs0
      have hspot := World.cell?_spot ((h00.2.2 0 (by omega)).trans (List.getElem?_eq_getElem (by have := h00.2.1; omega)))
      obtain ⟨b, off, spot⟩ := a
      obtain rfl : spot = none := by simpa [Addr.add] using hspot
      refine ⟨z, b, off, cs', rfl, fun j v hj => ?_, ho⟩
      have hjl : j < 10 := by have := (List.getElem?_eq_some_iff.1 hj).1; have := ho.clen; omega
      have := hat j (by rw [hk]; exact hjl)
      rw [hk] at this
      rw [← add_plain, ← add_plain, this]; exact hj)
    have hmem : ∀ i, i < len → D i ∈ (List.range len).map D := fun i hi => List.mem_map.2 ⟨i, List.mem_range.2 hi, rfl⟩
    refine ⟨some a, len, cap, L, rfl, ?_, ?_, ?_, ?_⟩
    · have := bulk_len ((List.range len).map D)
      rw [List.length_map, List.length_range] at this
      simp only [Rows.uptoBulk]
      omega
    · refine rel_rows _ (rowsX L) _ len cap (fun r hr => ?_) (by omega) (by simpa using hrl) hl hm (fun i r hr => ?_)
      · obtain ⟨z, _, rfl⟩ := List.mem_map.1 hr; rfl
      · obtain ⟨z, hz, rfl⟩ : ∃ z, L[i]? = some z ∧ z.raw = r := by simpa [rowsX] using hr
        obtain ⟨g, o, cs', hb', hc, ho⟩ := hrx i z hz
        refine ⟨g, o, hb', fun j y hy => ?_⟩
        have hjl : j < cs'.length := by have h1 := (List.getElem?_eq_some_iff.1 hy).1; have := ho.clen; have h2 : z.raw.length = 10 := rfl; omega
        obtain ⟨h1, h2, h3, h4⟩ := ho.rel j y cs'[j] hy (List.getElem?_eq_getElem hjl)
        exact ⟨h1, h2, _, hc j _ (List.getElem?_eq_getElem hjl), h3⟩
    · refine .sl _ _ _ (fun r hr y hy => ?_)
      obtain ⟨z, hz, rfl⟩ := List.mem_map.1 hr
      obtain ⟨i, hi'⟩ := List.getElem?_of_mem hz
      obtain ⟨j, hj⟩ := List.getElem?_of_mem hy
      obtain ⟨g, o, cs', _, _, ho⟩ := hrx i z hi'
      have hjl : j < cs'.length := by have h1 := (List.getElem?_eq_some_iff.1 hj).1; have := ho.clen; have h2 : z.raw.length = 10 := rfl; omega
      exact (ho.rel j y cs'[j] hj (List.getElem?_eq_getElem hjl)).2.2.2
    · intro z hz
      obtain ⟨i, hi'⟩ := List.getElem?_of_mem hz
      obtain ⟨g, o, cs', _, _, ho⟩ := hrx i z hi'
      have hil := (List.getElem?_eq_some_iff.1 hi').1
      have h1 := ho.bulk
      have h2 := bulkAll_mem _ _ (hmem i (by omega))
      refine ⟨ho.st, ho.rng, ?_⟩
      simp only [Rows.uptoBulk]
      omega
end Go.Proofs.YtcdkcaocfioigaaGreatDoor

set_option linter.unusedVariables false
set_option linter.unnecessarySimpa false
set_option linter.unusedSimpArgs false
set_option linter.unusedSectionVars false
set_option maxRecDepth 100000
namespace Go.Proofs.YtcdkcaocfioigaaGreatDoor
open Go Go.RowKit Go.Proofs Go.Deep Go.ChangeShapes Go.WideShapes Go.ChangeAt

theorem mrow_true (W : World) (bo : Option Addr) (len cap : Nat) (L : List Sn) (hr : Rel W (fun _ => 0) (old W) (.sl false 10 (rowsX L)) (.slice bo len cap)) (hn : Bnd 0 (.sl false 10 (rowsX L))) (b : Nat) (hl : L.length + 1 ≤ b) (hb1 : b ≤ 1048576)
    (hz : ∀ z ∈ L, (-9223372036854775808 ≤ z.r.status ∧ z.r.status ≤ 9223372036854775807) ∧ (∀ y ∈ z.h.sizes, -9223372036854775808 ≤ y ∧ y ≤ 9223372036854775807) ∧ z.bulk + 1 ≤ b)
    (bo2 : Option Addr) (len2 cap2 : Nat) (rows2 : List (List AV)) (hr2 : Rel W (fun _ => 0) (old W) (.sl false 1 rows2) (.slice bo2 len2 cap2)) (hn2 : Bnd 0 (.sl false 1 rows2))
    (hk2 : ∀ r ∈ rows2, r.length = 1 ∧ ∀ (j : Nat) k y, ([.int .i64] : List CK)[j]? = some k → r[j]? = some y → KindOf k y) (e2 : rows2.length = len2) (hb2 : wtA rows2.flatten + len2 ≤ 1048576) (hT : Tabs W) :
    Calls Tryz.prog 8 #[.slice bo len cap, .slice bo2 len2 cap2] W fun e w' => e = .returned (.bool true) ∧ Frm (fun _ => False) W w' := by
  obtain ⟨zs, rfl, hzs⟩ := kind_int1 hk2
  refine calls_sm (args := [.sl false 10 (rowsX L), .sl false 1 (ints zs)]) hT rfl (fun t x u hx hu => ?_) (fun E Q hE h => mrow_pc E [] Q hE L zs (by omega) (by simp at e2; omega) (fun z hzm => ?_) hzs h)
  · match t with
    | 0 => simp at hx hu; subst hx; subst hu; exact ⟨hr, hn, rfl⟩
    | 1 => simp at hx hu; subst hx; subst hu; exact ⟨hr2, hn2, rfl⟩
    | t + 2 => simp at hx
  · obtain ⟨h1, h2, h3⟩ := hz z hzm
    unfold Sn.bulk at h3
    exact ⟨by omega, by omega, by omega, by omega, by omega, by omega, h1, h2⟩
end Go.Proofs.YtcdkcaocfioigaaGreatDoor

set_option linter.unusedVariables false
set_option linter.unusedSimpArgs false
namespace Go.Proofs.YtcdkcaocfioigaaGreatDoor
open Go Go.ChangeShapes Go.WideShapes Go.ChangeAt Go.RowKit Go.Deep

theorem signsNamed : Tryz.prog.globalNamed "turnpike/octet.signs" = some 1 := by kernel_rfl
theorem signsType : (Tryz.prog.globals[1]?).map (·.type) = some 244 := by kernel_rfl
theorem signs_of_row {W : World} {rest : List (String × DataW Unit)} (h : laidMet Tryz.prog (("turnpike/octet.signs", Rows.laid_turnpike_octet_signs) :: rest) W) : Signs W := by
  have ht : Lib.TabIs Tryz.prog W "turnpike/octet.signs" .u32 signTab := Lib.tabIs_of_head (rest := rest) signsNamed signsType Tryz.underlying244 Tryz.underlying220 (by kernel_rfl) (by kernel_rfl) h
  intro j z hz
  have hj := (List.getElem?_eq_some_iff.1 hz).1
  have := ht.cell signsNamed j hj
  rw [List.getD, hz] at this
  exact this
end Go.Proofs.YtcdkcaocfioigaaGreatDoor

set_option linter.unusedVariables false
set_option linter.unusedSimpArgs false
namespace Go.Proofs.YtcdkcaocfioigaaGreatDoor
open Go Go.ChangeShapes Go.WideShapes Go.ChangeAt Go.RowKit Go.Deep

theorem dbNamed : Tryz.prog.globalNamed "math/bits.deBruijn64tab" = some 3 := by kernel_rfl
theorem dbType : (Tryz.prog.globals[3]?).map (·.type) = some 256 := by kernel_rfl
def dbTab : List Int := [0, 1, 56, 2, 57, 49, 28, 3, 61, 58, 42, 50, 38, 29, 17, 4, 62, 47, 59, 36, 45, 43, 51, 22, 53, 39, 33, 30, 24, 18, 12, 5, 63, 55, 48, 27, 60, 41, 37, 16, 46, 35, 44, 21, 52, 32, 23, 11, 54, 26, 40, 15, 34, 20, 31, 10, 25, 14, 19, 9, 13, 8, 7, 6]
theorem tz_of_row {W : World} {rest : List (String × DataW Unit)} (h : laidMet Tryz.prog (("math/bits.deBruijn64tab", Rows.laid_math_bits_deBruijn64tab) :: rest) W) : Tz W := by
  have ht : Lib.TabIs Tryz.prog W "math/bits.deBruijn64tab" .u8 dbTab := Lib.tabIs_of_head (rest := rest) dbNamed dbType Tryz.underlying256 Tryz.underlying5 (by kernel_rfl) (by kernel_rfl) h
  exact ht.cell dbNamed 15 (by decide)
end Go.Proofs.YtcdkcaocfioigaaGreatDoor

