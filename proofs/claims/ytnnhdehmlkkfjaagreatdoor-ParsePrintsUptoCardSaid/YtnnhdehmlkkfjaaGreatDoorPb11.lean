/- Part 11 of the texts below the law: the abstract machine, the functions that it walks, what they compute. -/
import Derived.Test.YtnnhdehmlkkfjaaGreatDoorPb10
import Derived.Test.YtnnhdehmlkkfjaaGreatDoorCards
import Derived.Test.YtnnhdehmlkkfjaaGreatDoorTie
import Derived.Deep.DeepHandedRow
import Derived.Lib.LaidTab
import Derived.ChangeMaps5
import Derived.Lay
import Derived.Stop.LaidErr
import Derived.JoinedCond
set_option linter.unusedVariables false
set_option linter.unusedSimpArgs false
set_option linter.unusedSectionVars false
set_option maxRecDepth 100000
namespace Go.Proofs.YtnnhdehmlkkfjaaGreatDoor
open Go Go.RowKit
structure szQ (r : Rq) : Prop where
 m : r.meth.length ≤ 1073741824
 t : r.targ.length ≤ 1073741824
 f : fsz r.fields + r.fields.length ≤ 4194304
 b : r.body.length ≤ 1048576
 tr : fsz r.trailers + r.trailers.length ≤ 1048577
theorem printF_len (l : List Fld) : (printF l).1.length ≤ fsz l + 4 * l.length := by
 unfold printF
 repeat' split
 all_goals first
  | (simp only [List.length_nil]; omega)
  | exact linesT_le l
theorem encAns_len (b : List UInt8) (ts : List Fld) (hb : b.length ≤ 1048576) (ht : fsz ts + ts.length ≤ 1048577) : (encAns b [] ts).1.length ≤ 1073741824 := by
 unfold encAns
 repeat' split
 ·simp
 ·simp
 ·have hp : (piecesB b []).flatten = b := pieces_flat _ b
  have h1 := chunksT_le (piecesB b []) (pieces_ne [] b (by simp)) (by rw [hp]; omega)
  rw [hp] at h1
  have h2 := linesT_le ts
  unfold encT
  simp only [List.length_append, List.length_cons, List.length_nil]
  omega
section
variable (E : Env) {H : Hp} (Q : AV → Hp → Prop)
set_option maxHeartbeats 8000000 in
theorem pprint_pc (hE : PZ E) (r : Rq) (hz : szQ r) (hQ : Q (.tup [.str (printQ r).1, .int .i64 (printQ r).2]) H) : PC Tryz.prog E 35 [r.av] H Q := by
 refine pc_enter Tryz.func35 rfl [] [(22, [0, 0, 0, 0, 0, 0, 0, 0, 0, 0, 0, 1])] (by kernel_rfl) (fun hB => ?_)
 have fin : ∀ t e, printQ r = (t, e) → Q (.tup [.str t, .int .i64 e]) H := fun t e h => by rw [h] at hQ; exact hQ
 obtain ⟨z1, z2, z3, z4, z5⟩ := hz
 have hme : methB r.meth = (tokB r.meth && decide (r.meth.length ≤ 24)) := rfl
 unfold printQ at fin
 clear hQ
 simp [Tryz.ntmps35, Tryz.results35, List.replicate_succ, Rq.av, Rq.avs]
 refine pmeth_pc E _ hE.1.1.1 r.meth (by simp only [cap]; omega) ?_
 rw [← hme]
 cases h1 : methB r.meth with
 | false =>
  rw [h1, if_pos rfl] at fin
  simp
  exact aPost_same hB (by simp) (nilV_refl _) (by simp) (fin [] 110 rfl)
 | true =>
 rw [h1, if_neg (by simp)] at fin
 simp
 refine isLine_pc E _ r.targ ?_
 cases h2 : isLineB r.targ with
 | false =>
  rw [h2, if_pos rfl] at fin
  simp
  exact aPost_same hB (by simp) (nilV_refl _) (by simp) (fin [] 111 rfl)
 | true =>
 rw [h2, if_neg (by simp)] at fin
 by_cases h3 : r.major = 1
 rotate_left
 ·have h3' : (r.major == 1) = false := by simpa using h3
  have h3'' : (r.major != 1) = true := by simpa using h3
  rw [if_pos (.inl h3)] at fin
  simp [h3', h3'']
  exact aPost_same hB (by simp) (nilV_refl _) (by simp) (fin [] 117 rfl)
 by_cases h4 : r.minor = 0 ∨ r.minor = 1
 rotate_left
 ·have h40 : (r.minor == 0) = false := by simpa using fun e => h4 (.inl e)
  have h41 : (r.minor == 1) = false := by simpa using fun e => h4 (.inr e)
  have h40' : (r.minor != 0) = true := by simpa using h40
  have h41' : (r.minor != 1) = true := by simpa using h41
  rw [if_pos (.inr ⟨fun e => h4 (.inl e), fun e => h4 (.inr e)⟩)] at fin
  simp [h3, h40, h41, h40', h41']
  exact aPost_same hB (by simp) (nilV_refl _) (by simp) (fin [] 117 rfl)
 rw [if_neg (fun h => h.elim (fun h => h h3) (fun h => h4.elim h.1 h.2))] at fin
 have hmin : r.minor = 0 ∨ ((r.minor == 0) = false ∧ (r.minor != 0) = true ∧ r.minor = 1) := by
  rcases h4 with h | h
  ·exact .inl h
  ·exact .inr ⟨by rw [h]; decide, by rw [h]; decide, h⟩
 rcases hmin with hmi | ⟨hm0, hm1, hmi⟩
 ·simp [h3, hmi]
  rw [show decide (r.minor = 0) = true from by rw [hmi]; rfl] at fin
  refine fprint_pc E _ _ hE.1.1.1 r.fields (by omega) ?_
  have hfl := printF_len r.fields
  obtain ⟨ft, fe, hfp⟩ : ∃ ft fe, printF r.fields = (ft, fe) := ⟨_, _, rfl⟩
  have hpq : preQ r = r.meth ++ ([32] ++ (r.targ ++ ([32] ++ ([72, 84, 84, 80, 47] ++ ([49, 46] ++ (Go.Lib.itoa 0 ++ ([13, 10] ++ (ft ++ [13, 10])))))))) := by unfold preQ; rw [hfp, hmi]
  rw [hfp] at fin hfl ⊢
  simp only at fin hfl
  by_cases h5 : fe = 0
  rotate_left
  ·have h5' : (fe == 0) = false := by simpa using h5
   have h5'' : (fe != 0) = true := by simpa using h5
   rw [if_pos h5] at fin
   simp [h5', h5'']
   exact aPost_same hB (by simp) (nilV_refl _) (by simp) (fin [] fe rfl)
  subst h5
  rw [if_neg (by simp)] at fin
  simp [hmi]
  refine framing_pc E _ _ hE.1.1.1 r.fields _ (by omega) ?_
  obtain ⟨kd, ln, e0, hFr⟩ : ∃ kd ln e0, framingA r.fields true = (kd, ln, e0) := ⟨_, _, _, rfl⟩
  rw [hFr] at fin ⊢
  simp only at fin
  by_cases h6 : e0 = 0
  rotate_left
  ·have h6' : (e0 == 0) = false := by simpa using h6
   have h6'' : (e0 != 0) = true := by simpa using h6
   rw [if_pos h6] at fin
   simp [h6', h6'']
   exact aPost_same hB (by simp) (nilV_refl _) (by simp) (fin [] e0 rfl)
  subst h6
  rw [if_neg (by simp)] at fin
  by_cases h7 : kd = 2
  ·subst h7
   rw [if_neg (fun h => h.1 rfl), if_neg (fun h => h.1 rfl), if_pos rfl] at fin
   simp []
   refine PC.argsNil (args' := [.str r.body, .sl false 1 (ints []), .sl false 2 (flds r.trailers)]) ⟨.inl rfl, .inr ⟨rfl, false, 1, rfl⟩, .inl rfl, trivial⟩ (by simp) (encode_pc E _ _ hE.2 r.body [] r.trailers z4 (by simp) z5 (by simp) ?_)
   have hel := encAns_len r.body r.trailers z4 z5
   obtain ⟨et, ee, hen⟩ : ∃ et ee, encAns r.body [] r.trailers = (et, ee) := ⟨_, _, rfl⟩
   rw [hen] at fin hel ⊢
   simp only at fin hel
   by_cases h8 : ee = 0
   rotate_left
   ·have h8' : (ee == 0) = false := by simpa using h8
    have h8'' : (ee != 0) = true := by simpa using h8
    rw [if_pos h8] at fin
    simp [h8', h8'']
    exact aPost_same hB (by simp) (nilV_refl _) (by simp) (fin [] ee rfl)
   subst h8
   rw [if_neg (by simp)] at fin
   have hil := (itoa_le 0 (by decide) (by decide)).1
   simp []
   iterate 5 (rw [if_pos (by unfold maxLen; (try simp only [List.length_append, List.length_cons, List.length_nil]); omega)]; simp [])
   refine pdigits_pc E _ hE.1.1 0 (by omega) (by omega) ?_
   simp [KP, Kcall, preH_refl]
   iterate 5 (rw [if_pos (by unfold maxLen; (try simp only [List.length_append, List.length_cons, List.length_nil]); omega)]; simp [])
   exact aPost_same hB (v0 := .tup [.str (preQ r ++ et), .int .i64 0]) (v := .tup [.str (preQ r ++ et), .int .i64 0]) (by simp [hpq]) (nilV_refl _) (by simp) (fin _ 0 rfl)
  ·rw [if_neg h7] at fin
   have h7' : (kd == 2) = false := by simpa using h7
   have h7'' : (kd != 2) = true := by simpa using h7
   by_cases h8 : (r.body.length : Int) = ln
   rotate_left
   ·have h8' : ((r.body.length : Int) == ln) = false := by simpa using h8
    have h8'' : ((r.body.length : Int) != ln) = true := by simpa using h8
    rw [if_pos ⟨h7, h8⟩] at fin
    simp [h7', h7'', h8', h8'']
    exact aPost_same hB (by simp) (nilV_refl _) (by simp) (fin [] 114 rfl)
   rw [if_neg (fun h => h.2 h8)] at fin
   by_cases h9 : r.trailers = []
   rotate_left
   ·have h9' : 0 < r.trailers.length := List.length_pos_iff.2 h9
    have h9'' : (0 : Int) < r.trailers.length := by omega
    rw [if_pos ⟨h7, h9⟩] at fin
    simp [h7', h7'', h8, h9', h9'']
    exact aPost_same hB (by simp) (nilV_refl _) (by simp) (fin [] 113 rfl)
   rw [if_neg (fun h => h.2 h9)] at fin
   have h9' : r.trailers.length = 0 := by rw [h9]; rfl
   have hel : r.body.length ≤ 1073741824 := by omega
   simp [h7', h7'', h8, h9, h9']
   have hil := (itoa_le 0 (by decide) (by decide)).1
   iterate 5 (rw [if_pos (by unfold maxLen; (try simp only [List.length_append, List.length_cons, List.length_nil]); omega)]; simp [])
   refine pdigits_pc E _ hE.1.1 0 (by omega) (by omega) ?_
   simp [KP, Kcall, preH_refl]
   iterate 5 (rw [if_pos (by unfold maxLen; (try simp only [List.length_append, List.length_cons, List.length_nil]); omega)]; simp [])
   exact aPost_same hB (v0 := .tup [.str (preQ r ++ r.body), .int .i64 0]) (v := .tup [.str (preQ r ++ r.body), .int .i64 0]) (by simp [hpq]) (nilV_refl _) (by simp) (fin _ 0 rfl)
 ·simp [h3, hm0, hm1, hmi]
  rw [show decide (r.minor = 0) = false from by rw [hmi]; rfl] at fin
  refine fprint_pc E _ _ hE.1.1.1 r.fields (by omega) ?_
  have hfl := printF_len r.fields
  obtain ⟨ft, fe, hfp⟩ : ∃ ft fe, printF r.fields = (ft, fe) := ⟨_, _, rfl⟩
  have hpq : preQ r = r.meth ++ ([32] ++ (r.targ ++ ([32] ++ ([72, 84, 84, 80, 47] ++ ([49, 46] ++ (Go.Lib.itoa 1 ++ ([13, 10] ++ (ft ++ [13, 10])))))))) := by unfold preQ; rw [hfp, hmi]
  rw [hfp] at fin hfl ⊢
  simp only at fin hfl
  by_cases h5 : fe = 0
  rotate_left
  ·have h5' : (fe == 0) = false := by simpa using h5
   have h5'' : (fe != 0) = true := by simpa using h5
   rw [if_pos h5] at fin
   simp [h5', h5'']
   exact aPost_same hB (by simp) (nilV_refl _) (by simp) (fin [] fe rfl)
  subst h5
  rw [if_neg (by simp)] at fin
  simp [hmi]
  refine framing_pc E _ _ hE.1.1.1 r.fields _ (by omega) ?_
  obtain ⟨kd, ln, e0, hFr⟩ : ∃ kd ln e0, framingA r.fields false = (kd, ln, e0) := ⟨_, _, _, rfl⟩
  rw [hFr] at fin ⊢
  simp only at fin
  by_cases h6 : e0 = 0
  rotate_left
  ·have h6' : (e0 == 0) = false := by simpa using h6
   have h6'' : (e0 != 0) = true := by simpa using h6
   rw [if_pos h6] at fin
   simp [h6', h6'']
   exact aPost_same hB (by simp) (nilV_refl _) (by simp) (fin [] e0 rfl)
  subst h6
  rw [if_neg (by simp)] at fin
  by_cases h7 : kd = 2
  ·subst h7
   rw [if_neg (fun h => h.1 rfl), if_neg (fun h => h.1 rfl), if_pos rfl] at fin
   simp []
   refine PC.argsNil (args' := [.str r.body, .sl false 1 (ints []), .sl false 2 (flds r.trailers)]) ⟨.inl rfl, .inr ⟨rfl, false, 1, rfl⟩, .inl rfl, trivial⟩ (by simp) (encode_pc E _ _ hE.2 r.body [] r.trailers z4 (by simp) z5 (by simp) ?_)
   have hel := encAns_len r.body r.trailers z4 z5
   obtain ⟨et, ee, hen⟩ : ∃ et ee, encAns r.body [] r.trailers = (et, ee) := ⟨_, _, rfl⟩
   rw [hen] at fin hel ⊢
   simp only at fin hel
   by_cases h8 : ee = 0
   rotate_left
   ·have h8' : (ee == 0) = false := by simpa using h8
    have h8'' : (ee != 0) = true := by simpa using h8
    rw [if_pos h8] at fin
    simp [h8', h8'']
    exact aPost_same hB (by simp) (nilV_refl _) (by simp) (fin [] ee rfl)
   subst h8
   rw [if_neg (by simp)] at fin
   have hil := (itoa_le 1 (by decide) (by decide)).1
   simp []
   iterate 5 (rw [if_pos (by unfold maxLen; (try simp only [List.length_append, List.length_cons, List.length_nil]); omega)]; simp [])
   refine pdigits_pc E _ hE.1.1 1 (by omega) (by omega) ?_
   simp [KP, Kcall, preH_refl]
   iterate 5 (rw [if_pos (by unfold maxLen; (try simp only [List.length_append, List.length_cons, List.length_nil]); omega)]; simp [])
   exact aPost_same hB (v0 := .tup [.str (preQ r ++ et), .int .i64 0]) (v := .tup [.str (preQ r ++ et), .int .i64 0]) (by simp [hpq]) (nilV_refl _) (by simp) (fin _ 0 rfl)
  ·rw [if_neg h7] at fin
   have h7' : (kd == 2) = false := by simpa using h7
   have h7'' : (kd != 2) = true := by simpa using h7
   by_cases h8 : (r.body.length : Int) = ln
   rotate_left
   ·have h8' : ((r.body.length : Int) == ln) = false := by simpa using h8
    have h8'' : ((r.body.length : Int) != ln) = true := by simpa using h8
    rw [if_pos ⟨h7, h8⟩] at fin
    simp [h7', h7'', h8', h8'']
    exact aPost_same hB (by simp) (nilV_refl _) (by simp) (fin [] 114 rfl)
   rw [if_neg (fun h => h.2 h8)] at fin
   by_cases h9 : r.trailers = []
   rotate_left
   ·have h9' : 0 < r.trailers.length := List.length_pos_iff.2 h9
    have h9'' : (0 : Int) < r.trailers.length := by omega
    rw [if_pos ⟨h7, h9⟩] at fin
    simp [h7', h7'', h8, h9', h9'']
    exact aPost_same hB (by simp) (nilV_refl _) (by simp) (fin [] 113 rfl)
   rw [if_neg (fun h => h.2 h9)] at fin
   have h9' : r.trailers.length = 0 := by rw [h9]; rfl
   have hel : r.body.length ≤ 1073741824 := by omega
   simp [h7', h7'', h8, h9, h9']
   have hil := (itoa_le 1 (by decide) (by decide)).1
   iterate 5 (rw [if_pos (by unfold maxLen; (try simp only [List.length_append, List.length_cons, List.length_nil]); omega)]; simp [])
   refine pdigits_pc E _ hE.1.1 1 (by omega) (by omega) ?_
   simp [KP, Kcall, preH_refl]
   iterate 5 (rw [if_pos (by unfold maxLen; (try simp only [List.length_append, List.length_cons, List.length_nil]); omega)]; simp [])
   exact aPost_same hB (v0 := .tup [.str (preQ r ++ r.body), .int .i64 0]) (v := .tup [.str (preQ r ++ r.body), .int .i64 0]) (by simp [hpq]) (nilV_refl _) (by simp) (fin _ 0 rfl)
end
def dpI (r : Rq) (H : Hp) (fr : List AV) (K : Hp) : Prop := K = H ++ [r.avs] ∧ ∃ i : Nat, i ≤ r.targ.length ∧ (r.targ.take i).all (fun c : UInt8 => decide (33 ≤ c.toNat) && decide (c.toNat ≤ 126)) = true ∧
 ∃ x : Nat → AV, fr = [x 0, .ptr (some (H.length, 0)), x 2, x 3, .int .i64 (i : Int), x 5, x 6, x 7, x 8, x 9, x 10, x 11, x 12, x 13, x 14, x 15, x 16, x 17, x 18, x 19, x 20, x 21, x 22, x 23, x 24, x 25, x 26, x 27, x 28, x 29, x 30, x 31, x 32, x 33, x 34, x 35, x 36, x 37, x 38, x 39, x 40, x 41, x 42, x 43, x 44, x 45, x 46, x 47, x 48, x 49, x 50, x 51, x 52, x 53, x 54, x 55, x 56, x 57, x 58, x 59, x 60, x 61, x 62, x 63, x 64, x 65, x 66, x 67, x 68, x 69, x 70, x 71, x 72, x 73, x 74, x 75, x 76, x 77, x 78, x 79, x 80, x 81, x 82, x 83, x 84, x 85, x 86, x 87, x 88, x 89, x 90, x 91, x 92, x 93, x 94, x 95, x 96, x 97, x 98, x 99, x 100, x 101, x 102, x 103, x 104, x 105, x 106, x 107, x 108, x 109, x 110, x 111, x 112, x 113, x 114, x 115, x 116, x 117, x 118, x 119, x 120]
section
variable (E : Env) {H : Hp} (Q : AV → Hp → Prop)
set_option maxHeartbeats 8000000 in
theorem dprint_pc (r : Rq) (hz : szQ r) (hQ : Q (.tup [.str (printQ r).1, .int .i64 (printQ r).2]) H) : PC Tryz.prog E 36 [r.av] H Q := by
 refine pc_enter Tryz.func36 rfl [] [(27, [0, 0, 0, 0, 0, 0, 0, 0, 0, 1])] (by kernel_rfl) (fun hB => ?_)
 have fin : ∀ t e, printQ r = (t, e) → Q (.tup [.str t, .int .i64 e]) H := fun t e h => by rw [h] at hQ; exact hQ
 obtain ⟨z1, z2, z3, z4, z5⟩ := hz
 have hme : methB r.meth = (tokB r.meth && decide (r.meth.length ≤ 24)) := rfl
 unfold printQ at fin
 clear hQ
 simp [Tryz.ntmps36, Tryz.results36, List.replicate_succ, Rq.av, Rq.avs]
 refine dmeth_pc E _ r.meth (by simp only [cap]; omega) ?_
 rw [← hme]
 cases h1 : methB r.meth with
 | false =>
  rw [h1, if_pos rfl] at fin
  simp
  exact aPost_same hB (by simp) (nilV_refl _) (by simp) (fin [] 110 rfl)
 | true =>
 rw [h1, if_neg (by simp)] at fin
 simp
 refine VL_go (dpI r H) (fun fr _ => r.targ.length - (ai (aget fr 4)).toNat) ⟨rfl, 0, by omega, by simp, fr_intro (by simp)⟩ ?_
 rintro fr K ⟨rfl, i, hi, hall, x, rfl⟩
 by_cases h : i < r.targ.length
 ·obtain ⟨c, hc⟩ : ∃ c, r.targ[i]? = some c := ⟨_, List.getElem?_eq_getElem h⟩
  have la := lat_eq hc
  have w1 : IntKind.i64.wrap ((i : Int) + 1) = i + 1 := wrap_in (by omega) (by omega)
  have hst := all_step (fun c : UInt8 => decide (33 ≤ c.toNat) && decide (c.toNat ≤ 126)) r.targ i c hc
  have hsp := all_stop (fun c : UInt8 => decide (33 ≤ c.toNat) && decide (c.toNat ≤ 126)) r.targ i c hc
  by_cases g1 : c.toNat < 33
  ·have g1' : (c.toNat : Int) < 33 := by omega
   have h2 : isLineB r.targ = false := by unfold isLineB; rw [hsp (by simp; omega)]; simp
   rw [h2, if_pos rfl] at fin
   simp [h, la, g1', Rq.avs]
   exact aPost_same hB (by simp) (nilV_refl _) (by simp) (fin [] 111 rfl)
  ·have g1' : ¬ (c.toNat : Int) < 33 := by omega
   by_cases g2 : 126 < c.toNat
   ·have g2' : (126 : Int) < c.toNat := by omega
    have h2 : isLineB r.targ = false := by unfold isLineB; rw [hsp (by simp; omega)]; simp
    rw [h2, if_pos rfl] at fin
    simp [h, la, g1', g2', Rq.avs]
    exact aPost_same hB (by simp) (nilV_refl _) (by simp) (fin [] 111 rfl)
   ·have g2' : ¬ (126 : Int) < c.toNat := by omega
    simp [h, la, g1', g2', w1, Rq.avs]
    exact Kloop_normal ⟨rfl, i + 1, by omega, by rw [hst, hall]; simp; omega, fr_intro (by simp)⟩ (by simp; omega)
 have hi2 : i = r.targ.length := by omega
 subst hi2
 rw [List.take_length] at hall
 by_cases ht : r.targ = []
 ·have h2 : isLineB r.targ = false := by unfold isLineB; rw [ht]; rfl
  rw [h2, if_pos rfl] at fin
  simp [Rq.avs, ht]
  exact aPost_same hB (by simp) (nilV_refl _) (by simp) (fin [] 111 rfl)
 have h2 : isLineB r.targ = true := by unfold isLineB; rw [hall]; simpa using ht
 have ht' : (r.targ == []) = false := by simpa using ht
 rw [h2, if_neg (by simp)] at fin
 by_cases h3 : r.major = 1
 rotate_left
 ·have h3' : (r.major == 1) = false := by simpa using h3
  have h3'' : (r.major != 1) = true := by simpa using h3
  rw [if_pos (.inl h3)] at fin
  simp [Rq.avs, ht', h3', h3'']
  exact aPost_same hB (by simp) (nilV_refl _) (by simp) (fin [] 117 rfl)
 by_cases h4 : r.minor = 0 ∨ r.minor = 1
 rotate_left
 ·have h40 : (r.minor == 0) = false := by simpa using fun e => h4 (.inl e)
  have h41 : (r.minor == 1) = false := by simpa using fun e => h4 (.inr e)
  have h40' : (r.minor != 0) = true := by simpa using h40
  have h41' : (r.minor != 1) = true := by simpa using h41
  rw [if_pos (.inr ⟨fun e => h4 (.inl e), fun e => h4 (.inr e)⟩)] at fin
  simp [Rq.avs, ht', h3, h40, h41, h40', h41']
  exact aPost_same hB (by simp) (nilV_refl _) (by simp) (fin [] 117 rfl)
 rw [if_neg (fun h => h.elim (fun h => h h3) (fun h => h4.elim h.1 h.2))] at fin
 have hmin : r.minor = 0 ∨ ((r.minor == 0) = false ∧ (r.minor != 0) = true ∧ r.minor = 1) := by
  rcases h4 with h | h
  ·exact .inl h
  ·exact .inr ⟨by rw [h]; decide, by rw [h]; decide, h⟩
 rcases hmin with hmi | ⟨hm0, hm1, hmi⟩
 ·simp [Rq.avs, ht', h3, hmi]
  rw [show decide (r.minor = 0) = true from by rw [hmi]; rfl] at fin
  refine dfprint_pc E _ _ r.fields (by omega) ?_
  have hfl := printF_len r.fields
  obtain ⟨ft, fe, hfp⟩ : ∃ ft fe, printF r.fields = (ft, fe) := ⟨_, _, rfl⟩
  have hpq : preQ r = r.meth ++ ([32] ++ (r.targ ++ ([32] ++ ([72, 84, 84, 80, 47] ++ ([49, 46] ++ (Go.Lib.itoa 0 ++ ([13, 10] ++ (ft ++ [13, 10])))))))) := by unfold preQ; rw [hfp, hmi]
  rw [hfp] at fin hfl ⊢
  simp only at fin hfl
  by_cases h5 : fe = 0
  rotate_left
  ·have h5' : (fe == 0) = false := by simpa using h5
   have h5'' : (fe != 0) = true := by simpa using h5
   rw [if_pos h5] at fin
   simp [Rq.avs, ht', h5', h5'']
   exact aPost_same hB (by simp) (nilV_refl _) (by simp) (fin [] fe rfl)
  subst h5
  rw [if_neg (by simp)] at fin
  simp [Rq.avs, ht', hmi]
  refine dframing_pc E _ _ r.fields _ (by omega) ?_
  obtain ⟨kd, ln, e0, hFr⟩ : ∃ kd ln e0, framingA r.fields true = (kd, ln, e0) := ⟨_, _, _, rfl⟩
  rw [hFr] at fin ⊢
  simp only at fin
  by_cases h6 : e0 = 0
  rotate_left
  ·have h6' : (e0 == 0) = false := by simpa using h6
   have h6'' : (e0 != 0) = true := by simpa using h6
   rw [if_pos h6] at fin
   simp [Rq.avs, ht', h6', h6'']
   exact aPost_same hB (by simp) (nilV_refl _) (by simp) (fin [] e0 rfl)
  subst h6
  rw [if_neg (by simp)] at fin
  by_cases h7 : kd = 2
  ·subst h7
   rw [if_neg (fun h => h.1 rfl), if_neg (fun h => h.1 rfl), if_pos rfl] at fin
   simp [Rq.avs, ht', ]
   refine PC.argsNil (args' := [.str r.body, .sl false 1 (ints []), .sl false 2 (flds r.trailers)]) ⟨.inl rfl, .inl rfl, .inl rfl, trivial⟩ (by simp) (dencode_pc E _ _ r.body [] r.trailers z4 (by simp) z5 (by simp) ?_)
   have hel := encAns_len r.body r.trailers z4 z5
   obtain ⟨et, ee, hen⟩ : ∃ et ee, encAns r.body [] r.trailers = (et, ee) := ⟨_, _, rfl⟩
   rw [hen] at fin hel ⊢
   simp only at fin hel
   by_cases h8 : ee = 0
   rotate_left
   ·have h8' : (ee == 0) = false := by simpa using h8
    have h8'' : (ee != 0) = true := by simpa using h8
    rw [if_pos h8] at fin
    simp [Rq.avs, ht', h8', h8'']
    exact aPost_same hB (by simp) (nilV_refl _) (by simp) (fin [] ee rfl)
   subst h8
   rw [if_neg (by simp)] at fin
   have hil := (itoa_le 0 (by decide) (by decide)).1
   simp [Rq.avs, ht']
   iterate 3 (rw [if_pos (by unfold maxLen; (try simp only [List.length_append, List.length_cons, List.length_nil]); omega)]; simp [Rq.avs, ht'])
   refine r1_digits_pc E _ _ 0 (by omega) (by omega) ?_
   simp [Rq.avs, ht', KP, Kcall, preH_refl]
   iterate 5 (rw [if_pos (by unfold maxLen; (try simp only [List.length_append, List.length_cons, List.length_nil]); omega)]; simp [Rq.avs, ht'])
   exact aPost_same hB (v0 := .tup [.str (preQ r ++ et), .int .i64 0]) (v := .tup [.str (preQ r ++ et), .int .i64 0]) (by simp [hpq]) (nilV_refl _) (by simp) (fin _ 0 rfl)
  ·rw [if_neg h7] at fin
   have h7' : (kd == 2) = false := by simpa using h7
   have h7'' : (kd != 2) = true := by simpa using h7
   by_cases h8 : (r.body.length : Int) = ln
   rotate_left
   ·have h8' : ((r.body.length : Int) == ln) = false := by simpa using h8
    have h8'' : ((r.body.length : Int) != ln) = true := by simpa using h8
    rw [if_pos ⟨h7, h8⟩] at fin
    simp [Rq.avs, ht', h7', h7'', h8', h8'']
    exact aPost_same hB (by simp) (nilV_refl _) (by simp) (fin [] 114 rfl)
   rw [if_neg (fun h => h.2 h8)] at fin
   by_cases h9 : r.trailers = []
   rotate_left
   ·have h9' : 0 < r.trailers.length := List.length_pos_iff.2 h9
    have h9'' : (0 : Int) < r.trailers.length := by omega
    rw [if_pos ⟨h7, h9⟩] at fin
    simp [Rq.avs, ht', h7', h7'', h8, h9', h9'']
    exact aPost_same hB (by simp) (nilV_refl _) (by simp) (fin [] 113 rfl)
   rw [if_neg (fun h => h.2 h9)] at fin
   have h9' : r.trailers.length = 0 := by rw [h9]; rfl
   have hel : r.body.length ≤ 1073741824 := by omega
   simp [Rq.avs, ht', h7', h7'', h8, h9, h9']
   have hil := (itoa_le 0 (by decide) (by decide)).1
   iterate 3 (rw [if_pos (by unfold maxLen; (try simp only [List.length_append, List.length_cons, List.length_nil]); omega)]; simp [Rq.avs, ht'])
   refine r1_digits_pc E _ _ 0 (by omega) (by omega) ?_
   simp [Rq.avs, ht', KP, Kcall, preH_refl]
   iterate 5 (rw [if_pos (by unfold maxLen; (try simp only [List.length_append, List.length_cons, List.length_nil]); omega)]; simp [Rq.avs, ht'])
   exact aPost_same hB (v0 := .tup [.str (preQ r ++ r.body), .int .i64 0]) (v := .tup [.str (preQ r ++ r.body), .int .i64 0]) (by simp [hpq]) (nilV_refl _) (by simp) (fin _ 0 rfl)
 ·simp [Rq.avs, ht', h3, hm0, hm1, hmi]
  rw [show decide (r.minor = 0) = false from by rw [hmi]; rfl] at fin
  refine dfprint_pc E _ _ r.fields (by omega) ?_
  have hfl := printF_len r.fields
  obtain ⟨ft, fe, hfp⟩ : ∃ ft fe, printF r.fields = (ft, fe) := ⟨_, _, rfl⟩
  have hpq : preQ r = r.meth ++ ([32] ++ (r.targ ++ ([32] ++ ([72, 84, 84, 80, 47] ++ ([49, 46] ++ (Go.Lib.itoa 1 ++ ([13, 10] ++ (ft ++ [13, 10])))))))) := by unfold preQ; rw [hfp, hmi]
  rw [hfp] at fin hfl ⊢
  simp only at fin hfl
  by_cases h5 : fe = 0
  rotate_left
  ·have h5' : (fe == 0) = false := by simpa using h5
   have h5'' : (fe != 0) = true := by simpa using h5
   rw [if_pos h5] at fin
   simp [Rq.avs, ht', h5', h5'']
   exact aPost_same hB (by simp) (nilV_refl _) (by simp) (fin [] fe rfl)
  subst h5
  rw [if_neg (by simp)] at fin
  simp [Rq.avs, ht', hmi]
  refine dframing_pc E _ _ r.fields _ (by omega) ?_
  obtain ⟨kd, ln, e0, hFr⟩ : ∃ kd ln e0, framingA r.fields false = (kd, ln, e0) := ⟨_, _, _, rfl⟩
  rw [hFr] at fin ⊢
  simp only at fin
  by_cases h6 : e0 = 0
  rotate_left
  ·have h6' : (e0 == 0) = false := by simpa using h6
   have h6'' : (e0 != 0) = true := by simpa using h6
   rw [if_pos h6] at fin
   simp [Rq.avs, ht', h6', h6'']
   exact aPost_same hB (by simp) (nilV_refl _) (by simp) (fin [] e0 rfl)
  subst h6
  rw [if_neg (by simp)] at fin
  by_cases h7 : kd = 2
  ·subst h7
   rw [if_neg (fun h => h.1 rfl), if_neg (fun h => h.1 rfl), if_pos rfl] at fin
   simp [Rq.avs, ht', ]
   refine PC.argsNil (args' := [.str r.body, .sl false 1 (ints []), .sl false 2 (flds r.trailers)]) ⟨.inl rfl, .inl rfl, .inl rfl, trivial⟩ (by simp) (dencode_pc E _ _ r.body [] r.trailers z4 (by simp) z5 (by simp) ?_)
   have hel := encAns_len r.body r.trailers z4 z5
   obtain ⟨et, ee, hen⟩ : ∃ et ee, encAns r.body [] r.trailers = (et, ee) := ⟨_, _, rfl⟩
   rw [hen] at fin hel ⊢
   simp only at fin hel
   by_cases h8 : ee = 0
   rotate_left
   ·have h8' : (ee == 0) = false := by simpa using h8
    have h8'' : (ee != 0) = true := by simpa using h8
    rw [if_pos h8] at fin
    simp [Rq.avs, ht', h8', h8'']
    exact aPost_same hB (by simp) (nilV_refl _) (by simp) (fin [] ee rfl)
   subst h8
   rw [if_neg (by simp)] at fin
   have hil := (itoa_le 1 (by decide) (by decide)).1
   simp [Rq.avs, ht']
   iterate 3 (rw [if_pos (by unfold maxLen; (try simp only [List.length_append, List.length_cons, List.length_nil]); omega)]; simp [Rq.avs, ht'])
   refine r1_digits_pc E _ _ 1 (by omega) (by omega) ?_
   simp [Rq.avs, ht', KP, Kcall, preH_refl]
   iterate 5 (rw [if_pos (by unfold maxLen; (try simp only [List.length_append, List.length_cons, List.length_nil]); omega)]; simp [Rq.avs, ht'])
   exact aPost_same hB (v0 := .tup [.str (preQ r ++ et), .int .i64 0]) (v := .tup [.str (preQ r ++ et), .int .i64 0]) (by simp [hpq]) (nilV_refl _) (by simp) (fin _ 0 rfl)
  ·rw [if_neg h7] at fin
   have h7' : (kd == 2) = false := by simpa using h7
   have h7'' : (kd != 2) = true := by simpa using h7
   by_cases h8 : (r.body.length : Int) = ln
   rotate_left
   ·have h8' : ((r.body.length : Int) == ln) = false := by simpa using h8
    have h8'' : ((r.body.length : Int) != ln) = true := by simpa using h8
    rw [if_pos ⟨h7, h8⟩] at fin
    simp [Rq.avs, ht', h7', h7'', h8', h8'']
    exact aPost_same hB (by simp) (nilV_refl _) (by simp) (fin [] 114 rfl)
   rw [if_neg (fun h => h.2 h8)] at fin
   by_cases h9 : r.trailers = []
   rotate_left
   ·have h9' : 0 < r.trailers.length := List.length_pos_iff.2 h9
    have h9'' : (0 : Int) < r.trailers.length := by omega
    rw [if_pos ⟨h7, h9⟩] at fin
    simp [Rq.avs, ht', h7', h7'', h8, h9', h9'']
    exact aPost_same hB (by simp) (nilV_refl _) (by simp) (fin [] 113 rfl)
   rw [if_neg (fun h => h.2 h9)] at fin
   have h9' : r.trailers.length = 0 := by rw [h9]; rfl
   have hel : r.body.length ≤ 1073741824 := by omega
   simp [Rq.avs, ht', h7', h7'', h8, h9, h9']
   have hil := (itoa_le 1 (by decide) (by decide)).1
   iterate 3 (rw [if_pos (by unfold maxLen; (try simp only [List.length_append, List.length_cons, List.length_nil]); omega)]; simp [Rq.avs, ht'])
   refine r1_digits_pc E _ _ 1 (by omega) (by omega) ?_
   simp [Rq.avs, ht', KP, Kcall, preH_refl]
   iterate 5 (rw [if_pos (by unfold maxLen; (try simp only [List.length_append, List.length_cons, List.length_nil]); omega)]; simp [Rq.avs, ht'])
   exact aPost_same hB (v0 := .tup [.str (preQ r ++ r.body), .int .i64 0]) (v := .tup [.str (preQ r ++ r.body), .int .i64 0]) (by simp [hpq]) (nilV_refl _) (by simp) (fin _ 0 rfl)
end
end Go.Proofs.YtnnhdehmlkkfjaaGreatDoor
set_option maxRecDepth 100000
namespace Go.Proofs.YtnnhdehmlkkfjaaGreatDoor
open Go Go.RowKit Go.Proofs Go.Deep
structure QOk (W : World) (cs : Array Value) (r : Rq) (b : Nat) : Prop where
 rel : Rel W (fun _ => 0) (old W) r.av (.agg cs)
 bnd : Bnd 0 r.av
 ma : -9223372036854775808 ≤ r.major ∧ r.major ≤ 9223372036854775807
 mi : -9223372036854775808 ≤ r.minor ∧ r.minor ≤ 9223372036854775807
 bulk : r.meth.length + r.targ.length + r.body.length + (fsz r.fields + r.fields.length) + (fsz r.trailers + r.trailers.length) + 1 ≤ b
theorem QOk.sz {W : World} {cs : Array Value} {r : Rq} {b : Nat} (h : QOk W cs r b) (hb : b ≤ 1048576) : szQ r := by
 have := h.bulk
 exact ⟨by omega, by omega, by omega, by omega, by omega⟩
theorem open_req {H : Type} {enc : TypeId × Value → H} {W : World} {spare : Nat → Bool} {held : Bool} {fuel : Nat} {cs : List Value} {x : DataW H × List MemPlace} (h : DataW.trod enc Tryz.prog W 0 spare held fuel 26 cs = some x) :
  ∃ r : Rq, QOk W ⟨cs⟩ r (Rows.uptoBulk x.1) := by
 obtain ⟨xs, n', _, rfl, hcl, hxl, hf⟩ := DataW.trod_struct Tryz.underlying26 h
 have e0 : Tryz.prog.cellsOf 26 = 7 := by kernel_rfl
 have es : Tryz.prog.cellsOf 9 = 1 := by kernel_rfl
 have ei : Tryz.prog.cellsOf 3 = 1 := by kernel_rfl
 have ef : Tryz.prog.cellsOf 24 = 1 := by kernel_rfl
 rw [e0] at hcl
 obtain ⟨c0, c1, c2, c3, c4, c5, c6, rfl⟩ : ∃ c0 c1 c2 c3 c4 c5 c6, cs = [c0, c1, c2, c3, c4, c5, c6] := by
  match cs, hcl with
  | [a, b, c, d, e, f, g], _ => exact ⟨a, b, c, d, e, f, g, rfl⟩
 obtain ⟨y0, y1, y2, y3, y4, y5, y6, rfl⟩ : ∃ y0 y1 y2 y3 y4 y5 y6, xs = [y0, y1, y2, y3, y4, y5, y6] := by
  match xs, hxl with
  | [a, b, c, d, e, f, g], _ => exact ⟨a, b, c, d, e, f, g, rfl⟩
 have h0 := hf 0 _ rfl
 have h1 := hf 1 _ rfl
 have h2 := hf 2 _ rfl
 have h3 := hf 3 _ rfl
 have h4 := hf 4 _ rfl
 have h5 := hf 5 _ rfl
 have h6 := hf 6 _ rfl
 simp [es] at h0
 simp [es] at h1
 simp [ei] at h2
 simp [ei] at h3
 simp [ef] at h4
 simp [es] at h5
 simp [ef] at h6
 obtain ⟨me, hs0, hy0, hm0⟩ := DataW.trod_string Tryz.underlying9 h0
 obtain ⟨ta, hs1, hy1, hm1⟩ := DataW.trod_string Tryz.underlying9 h1
 obtain ⟨ma, hs2, hy2, hm2⟩ := DataW.trod_int Tryz.underlying3 h2
 obtain ⟨mi, hs3, hy3, hm3⟩ := DataW.trod_int Tryz.underlying3 h3
 obtain ⟨bo4, l4, k4, rows4, q41, q42, _, _, q43, q44, q45, q46⟩ := open_plain (ks := [.str, .str]) 6 Tryz.underlying24 (by kernel_rfl) (by kernel_rfl) (by decide) h4
 obtain ⟨fs, rfl, ht4⟩ := flds_of_rows rows4 q45
 obtain ⟨bo, hs5, hy5, hm5⟩ := DataW.trod_string Tryz.underlying9 h5
 obtain ⟨bo6, l6, k6, rows6, q61, q62, _, _, q63, q64, q65, q66⟩ := open_plain (ks := [.str, .str]) 6 Tryz.underlying24 (by kernel_rfl) (by kernel_rfl) (by decide) h6
 obtain ⟨ts, rfl, ht6⟩ := flds_of_rows rows6 q65
 simp at hs0 hs1 hs2 hs3 hs5 q41 q61
 subst hs0; subst hs1; subst hs2; subst hs3; subst hs5; subst q41; subst q61
 have hb0 : me.size + 1 ≤ Rows.uptoBulk y0.1 := by rw [hy0]; simp [Rows.uptoBulk, size_toList]
 have hb1 : ta.size + 1 ≤ Rows.uptoBulk y1.1 := by rw [hy1]; simp [Rows.uptoBulk, size_toList]
 have hw2 : -9223372036854775808 ≤ ma ∧ ma ≤ 9223372036854775807 := by simpa [Lit.wf, IntKind.min, IntKind.max, IntKind.signed, IntKind.bits] using hm2
 have hw3 : -9223372036854775808 ≤ mi ∧ mi ≤ 9223372036854775807 := by simpa [Lit.wf, IntKind.min, IntKind.max, IntKind.signed, IntKind.bits] using hm3
 have hb5 : bo.size + 1 ≤ Rows.uptoBulk y5.1 := by rw [hy5]; simp [Rows.uptoBulk, size_toList]
 simp at q42 q46 q62 q66
 refine ⟨⟨me.data.toList, ta.data.toList, ma, mi, fs, bo.data.toList, ts⟩, .agg _ _ rfl (fun x hx => ?_) (fun j x u hx hu => ?_), .agg _ (fun x hx => Rq.bnd _ 0 x hx), hw2, hw3, ?_⟩
 ·simp [Rq.avs] at hx; rcases hx with rfl | rfl | rfl | rfl | rfl | rfl | rfl <;> exact ⟨rfl, rfl⟩
 ·match j with
  | 0 => simp [Rq.avs] at hx hu; subst hx; subst hu; exact .str _ _ rfl hm0
  | 1 => simp [Rq.avs] at hx hu; subst hx; subst hu; exact .str _ _ rfl hm1
  | 2 => simp [Rq.avs] at hx hu; subst hx; subst hu; exact .int _ _
  | 3 => simp [Rq.avs] at hx hu; subst hx; subst hu; exact .int _ _
  | 4 => simp [Rq.avs] at hx hu; subst hx; subst hu; exact q43
  | 5 => simp [Rq.avs] at hx hu; subst hx; subst hu; exact .str _ _ rfl hm5
  | 6 => simp [Rq.avs] at hx hu; subst hx; subst hu; exact q63
  | j + 7 => simp [Rq.avs] at hx
 ·simp only [List.map_cons, List.map_nil, Rows.uptoBulk, Rows.uptoBulkAll, size_toList]
  omega
section
variable (E : Env) {H : Hp} (Q : AV → Hp → Prop)
set_option maxHeartbeats 2000000 in
theorem lprints_pc (hE : PZ E) (r : Rq) (hz : szQ r) (hQ : Q (.bool true) H) : PC Tryz.prog E 9 [r.av] H Q := by
 refine pc_enter Tryz.func9 rfl [] [] (by kernel_rfl) (fun hB => ?_)
 have z3 := hz.f
 have z5 := hz.tr
 simp [Tryz.ntmps9, Tryz.results9, List.replicate_succ, Rq.av, Rq.avs]
 refine lrequest_pc E _ r (by omega) (by omega) ?_
 simp [Rq.av, Rq.avs]
 refine pprint_pc E _ hE r hz ?_
 simp
 refine dprint_pc E _ r hz ?_
 simp
 refine lawake_pc E _ hE.1 ?_
 simp
 refine lsame_pc E _ r (by omega) (by omega) ?_
 simp
 exact aPost_same hB (v0 := .bool true) (v := .bool true) (by simp) (nilV_refl _) (by simp) hQ
end
theorem lprints_true (W : World) (cs : Array Value) (r : Rq) (b : Nat) (R : QOk W cs r b) (hb : b ≤ 1048576) (hT : Tabs W) (hM : MaxLenAt W) :
  Calls Tryz.prog 9 #[.agg cs] W fun e w' => e = .returned (.bool true) ∧ Frm (fun _ => False) W w' := by
 refine calls_pz (args := [r.av]) hT hM rfl (fun t x u hx hu => ?_) (fun E Q hE h => lprints_pc E Q hE r (R.sz hb) h)
 match t with
 | 0 => simp at hx hu; subst hx; subst hu; exact ⟨R.rel, R.bnd, rfl⟩
 | t + 1 => simp at hx
end Go.Proofs.YtnnhdehmlkkfjaaGreatDoor
namespace Go.Proofs.YtnnhdehmlkkfjaaGreatDoor
open Go Go.ChangeShapes Go.WideShapes Go.ChangeAt Go.RowKit Go.Deep
theorem signsNamed : Tryz.prog.globalNamed "turnpike/octet.signs" = some 0 := by kernel_rfl
theorem signsType : (Tryz.prog.globals[0]?).map (·.type) = some 140 := by kernel_rfl
theorem signs_of_row {W : World} {rest : List (String × DataW Unit)} (h : laidMet Tryz.prog (("turnpike/octet.signs", Rows.laid_turnpike_octet_signs) :: rest) W) : Signs W := by
 have ht : Lib.TabIs Tryz.prog W "turnpike/octet.signs" .u32 signTab := Lib.tabIs_of_head (rest := rest) signsNamed signsType Tryz.underlying140 Tryz.underlying139 (by kernel_rfl) (by kernel_rfl) h
 intro j z hz
 have hj := (List.getElem?_eq_some_iff.1 hz).1
 have := ht.cell signsNamed j hj
 rw [List.getD, hz] at this
 exact this
end Go.Proofs.YtnnhdehmlkkfjaaGreatDoor
namespace Go.Proofs.YtnnhdehmlkkfjaaGreatDoor
open Go Go.ChangeShapes Go.WideShapes Go.ChangeAt Go.RowKit Go.Deep
theorem dbNamed : Tryz.prog.globalNamed "math/bits.deBruijn64tab" = some 4 := by kernel_rfl
theorem dbType : (Tryz.prog.globals[4]?).map (·.type) = some 247 := by kernel_rfl
def dbTab : List Int := [0, 1, 56, 2, 57, 49, 28, 3, 61, 58, 42, 50, 38, 29, 17, 4, 62, 47, 59, 36, 45, 43, 51, 22, 53, 39, 33, 30, 24, 18, 12, 5, 63, 55, 48, 27, 60, 41, 37, 16, 46, 35, 44, 21, 52, 32, 23, 11, 54, 26, 40, 15, 34, 20, 31, 10, 25, 14, 19, 9, 13, 8, 7, 6]
theorem tz_of_row {W : World} {rest : List (String × DataW Unit)} (h : laidMet Tryz.prog (("math/bits.deBruijn64tab", Rows.laid_math_bits_deBruijn64tab) :: rest) W) : Tz W := by
 have ht : Lib.TabIs Tryz.prog W "math/bits.deBruijn64tab" .u8 dbTab := Lib.tabIs_of_head (rest := rest) dbNamed dbType Tryz.underlying247 Tryz.underlying5 (by kernel_rfl) (by kernel_rfl) h
 exact ht.cell dbNamed 15 (by decide)
end Go.Proofs.YtnnhdehmlkkfjaaGreatDoor
