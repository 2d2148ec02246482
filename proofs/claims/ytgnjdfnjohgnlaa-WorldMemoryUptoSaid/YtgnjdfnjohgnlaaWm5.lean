/- Part 5 of the texts below the law: the abstract machine, the functions that it walks, what they compute. -/
import Derived.Test.YtgnjdfnjohgnlaaWm4
import Derived.Test.YtgnjdfnjohgnlaaProg
import Derived.KernelRfl
import Derived.Test.YtgnjdfnjohgnlaaRows
import Derived.ProofKit
import Derived.OpenShut
import Derived.SizedLaws
import Derived.Deep.Slices
import Derived.Deep.Fields
import Derived.SliceStrings
set_option linter.unusedVariables false
namespace Go.Proofs.Ytgnjdfnjohgnlaa
open Go
@[simp] theorem tf_sz3 : tsz Try.prog 3 = some 1 := by kernel_rfl
@[simp] theorem tf_row3 : trow Try.prog 3 = some false := by kernel_rfl
@[simp] theorem tf_sz4 : tsz Try.prog 4 = some 1 := by kernel_rfl
@[simp] theorem tf_row4 : trow Try.prog 4 = some false := by kernel_rfl
@[simp] theorem tf_bool4 : tbool Try.prog 4 = true := by kernel_rfl
@[simp] theorem tf_sz5 : tsz Try.prog 5 = some 1 := by kernel_rfl
@[simp] theorem tf_by5 : tby Try.prog 5 = some 1 := by kernel_rfl
@[simp] theorem tf_zc5 : tzc Try.prog 5 = some [.int .u8 0] := by kernel_rfl
@[simp] theorem tf_sz9 : tsz Try.prog 9 = some 1 := by kernel_rfl
@[simp] theorem tf_row9 : trow Try.prog 9 = some false := by kernel_rfl
@[simp] theorem tf_str9 : tstr Try.prog 9 = true := by kernel_rfl
@[simp] theorem tf_ptr23 : tptr Try.prog 23 = true := by kernel_rfl
@[simp] theorem tf_sz28 : tsz Try.prog 28 = some 4 := by kernel_rfl
@[simp] theorem tf_row28 : trow Try.prog 28 = some true := by kernel_rfl
@[simp] theorem tf_zc28 : tzc Try.prog 28 = some [.int .i64 0, .int .i64 0, .int .i64 0, .str []] := by kernel_rfl
@[simp] theorem tf_pl28 : tplaces Try.prog 28 = some [(0, 1), (1, 1), (2, 1), (3, 1)] := by kernel_rfl
@[simp] theorem tf_fld28x0 : tfld Try.prog 28 0 = some (0, 1, false) := by kernel_rfl
@[simp] theorem tf_fld28x1 : tfld Try.prog 28 1 = some (1, 1, false) := by kernel_rfl
@[simp] theorem tf_fld28x2 : tfld Try.prog 28 2 = some (2, 1, false) := by kernel_rfl
@[simp] theorem tf_fld28x3 : tfld Try.prog 28 3 = some (3, 1, false) := by kernel_rfl
@[simp] theorem tf_sl32 : tsl Try.prog 32 = some 41 := by kernel_rfl
@[simp] theorem tf_el32 : tel Try.prog 32 = some 10 := by kernel_rfl
@[simp] theorem tf_sz37 : tsz Try.prog 37 = some 11 := by kernel_rfl
@[simp] theorem tf_row37 : trow Try.prog 37 = some true := by kernel_rfl
@[simp] theorem tf_zc37 : tzc Try.prog 37 = some [.bool false, .bool false, .bool false, .bool false, .bool false, .bool false, .int .i64 0, .int .i64 0, .int .i64 0, .int .i64 0, .int .i64 0] := by kernel_rfl
@[simp] theorem tf_pl37 : tplaces Try.prog 37 = some [(0, 1), (1, 1), (2, 1), (3, 1), (4, 1), (5, 1), (6, 1), (7, 1), (8, 1), (9, 1), (10, 1)] := by kernel_rfl
@[simp] theorem tf_fld37x0 : tfld Try.prog 37 0 = some (0, 1, false) := by kernel_rfl
@[simp] theorem tf_fld37x1 : tfld Try.prog 37 1 = some (1, 1, false) := by kernel_rfl
@[simp] theorem tf_fld37x2 : tfld Try.prog 37 2 = some (2, 1, false) := by kernel_rfl
@[simp] theorem tf_fld37x3 : tfld Try.prog 37 3 = some (3, 1, false) := by kernel_rfl
@[simp] theorem tf_fld37x4 : tfld Try.prog 37 4 = some (4, 1, false) := by kernel_rfl
@[simp] theorem tf_fld37x5 : tfld Try.prog 37 5 = some (5, 1, false) := by kernel_rfl
@[simp] theorem tf_fld37x6 : tfld Try.prog 37 6 = some (6, 1, false) := by kernel_rfl
@[simp] theorem tf_fld37x7 : tfld Try.prog 37 7 = some (7, 1, false) := by kernel_rfl
@[simp] theorem tf_fld37x8 : tfld Try.prog 37 8 = some (8, 1, false) := by kernel_rfl
@[simp] theorem tf_fld37x9 : tfld Try.prog 37 9 = some (9, 1, false) := by kernel_rfl
@[simp] theorem tf_fld37x10 : tfld Try.prog 37 10 = some (10, 1, false) := by kernel_rfl
@[simp] theorem tf_sz41 : tsz Try.prog 41 = some 10 := by kernel_rfl
@[simp] theorem tf_row41 : trow Try.prog 41 = some true := by kernel_rfl
@[simp] theorem tf_zc41 : tzc Try.prog 41 = some [.int .i64 0, .int .i64 0, .int .i64 0, .int .i64 0, .str [], .int .i64 0, .int .i64 0, .str [], .bool false, .bool false] := by kernel_rfl
@[simp] theorem tf_fld41x0 : tfld Try.prog 41 0 = some (0, 1, false) := by kernel_rfl
@[simp] theorem tf_fld41x1 : tfld Try.prog 41 1 = some (1, 4, true) := by kernel_rfl
@[simp] theorem tf_fld41x2 : tfld Try.prog 41 2 = some (5, 1, false) := by kernel_rfl
@[simp] theorem tf_fld41x3 : tfld Try.prog 41 3 = some (6, 1, false) := by kernel_rfl
@[simp] theorem tf_fld41x4 : tfld Try.prog 41 4 = some (7, 1, false) := by kernel_rfl
@[simp] theorem tf_fld41x5 : tfld Try.prog 41 5 = some (8, 1, false) := by kernel_rfl
@[simp] theorem tf_fld41x6 : tfld Try.prog 41 6 = some (9, 1, false) := by kernel_rfl
@[simp] theorem tf_sl49 : tsl Try.prog 49 = some 52 := by kernel_rfl
@[simp] theorem tf_el49 : tel Try.prog 49 = some 5 := by kernel_rfl
@[simp] theorem tf_sz52 : tsz Try.prog 52 = some 5 := by kernel_rfl
@[simp] theorem tf_by52 : tby Try.prog 52 = some 16 := by kernel_rfl
@[simp] theorem tf_row52 : trow Try.prog 52 = some true := by kernel_rfl
@[simp] theorem tf_zc52 : tzc Try.prog 52 = some [.int .i64 0, .bool false, .bool false, .bool false, .bool false] := by kernel_rfl
@[simp] theorem tf_pl52 : tplaces Try.prog 52 = some [(0, 1), (1, 1), (2, 1), (3, 1), (4, 1)] := by kernel_rfl
@[simp] theorem tf_fld52x0 : tfld Try.prog 52 0 = some (0, 1, false) := by kernel_rfl
@[simp] theorem tf_fld52x1 : tfld Try.prog 52 1 = some (1, 1, false) := by kernel_rfl
@[simp] theorem tf_fld52x2 : tfld Try.prog 52 2 = some (2, 1, false) := by kernel_rfl
@[simp] theorem tf_fld52x3 : tfld Try.prog 52 3 = some (3, 1, false) := by kernel_rfl
@[simp] theorem tf_fld52x4 : tfld Try.prog 52 4 = some (4, 1, false) := by kernel_rfl
@[simp] theorem tf_flat52 : tflat Try.prog 52 = some [0, 1, 1, 1, 1] := by kernel_rfl
@[simp] theorem tf_sz54 : tsz Try.prog 54 = some 1 := by kernel_rfl
@[simp] theorem tf_row54 : trow Try.prog 54 = some false := by kernel_rfl
@[simp] theorem tf_sl54 : tsl Try.prog 54 = some 98 := by kernel_rfl
@[simp] theorem tf_el54 : tel Try.prog 54 = some 11 := by kernel_rfl
@[simp] theorem tf_sz56 : tsz Try.prog 56 = some 2 := by kernel_rfl
@[simp] theorem tf_row56 : trow Try.prog 56 = some true := by kernel_rfl
@[simp] theorem tf_zc56 : tzc Try.prog 56 = some [.bool false, .nil] := by kernel_rfl
@[simp] theorem tf_pl56 : tplaces Try.prog 56 = some [(0, 1), (1, 1)] := by kernel_rfl
@[simp] theorem tf_fld56x0 : tfld Try.prog 56 0 = some (0, 1, false) := by kernel_rfl
@[simp] theorem tf_fld56x1 : tfld Try.prog 56 1 = some (1, 1, false) := by kernel_rfl
@[simp] theorem tf_sl62 : tsl Try.prog 62 = some 96 := by kernel_rfl
@[simp] theorem tf_el62 : tel Try.prog 62 = some 5 := by kernel_rfl
@[simp] theorem tf_sz64 : tsz Try.prog 64 = some 1 := by kernel_rfl
@[simp] theorem tf_row64 : trow Try.prog 64 = some false := by kernel_rfl
@[simp] theorem tf_sl64 : tsl Try.prog 64 = some 67 := by kernel_rfl
@[simp] theorem tf_el64 : tel Try.prog 64 = some 1 := by kernel_rfl
@[simp] theorem tf_zc66 : tzc Try.prog 66 = some [.nil] := by kernel_rfl
@[simp] theorem tf_pl66 : tplaces Try.prog 66 = some [(0, 1)] := by kernel_rfl
@[simp] theorem tf_fld66x0 : tfld Try.prog 66 0 = some (0, 1, false) := by kernel_rfl
@[simp] theorem tf_sz67 : tsz Try.prog 67 = some 1 := by kernel_rfl
@[simp] theorem tf_by67 : tby Try.prog 67 = some 8 := by kernel_rfl
@[simp] theorem tf_row67 : trow Try.prog 67 = some false := by kernel_rfl
@[simp] theorem tf_ptr67 : tptr Try.prog 67 = true := by kernel_rfl
@[simp] theorem tf_zc67 : tzc Try.prog 67 = some [.ptr none] := by kernel_rfl
@[simp] theorem tf_sz68 : tsz Try.prog 68 = some 1 := by kernel_rfl
@[simp] theorem tf_row68 : trow Try.prog 68 = some false := by kernel_rfl
@[simp] theorem tf_sl68 : tsl Try.prog 68 = some 5 := by kernel_rfl
@[simp] theorem tf_el68 : tel Try.prog 68 = some 1 := by kernel_rfl
@[simp] theorem tf_bytes68 : tbytes Try.prog 68 = true := by kernel_rfl
@[simp] theorem tf_fld70x0 : tfld Try.prog 70 0 = some (0, 1, false) := by kernel_rfl
@[simp] theorem tf_fld70x1 : tfld Try.prog 70 1 = some (1, 1, false) := by kernel_rfl
@[simp] theorem tf_fld70x2 : tfld Try.prog 70 2 = some (2, 1, false) := by kernel_rfl
@[simp] theorem tf_fld72x0 : tfld Try.prog 72 0 = some (0, 3, true) := by kernel_rfl
@[simp] theorem tf_fld73x0 : tfld Try.prog 73 0 = some (0, 3, true) := by kernel_rfl
@[simp] theorem tf_zc75 : tzc Try.prog 75 = some [.nil, .int .i64 0, .int .i64 0, .nil, .int .i64 0, .int .i64 0, .bool false, .bool false, .bool false, .bool false, .bool false, .bool false] := by kernel_rfl
@[simp] theorem tf_pl75 : tplaces Try.prog 75 = some [(0, 3), (3, 3), (6, 1), (7, 1), (8, 1), (9, 1), (10, 1), (11, 1)] := by kernel_rfl
@[simp] theorem tf_fld75x0 : tfld Try.prog 75 0 = some (0, 3, true) := by kernel_rfl
@[simp] theorem tf_fld75x1 : tfld Try.prog 75 1 = some (3, 3, true) := by kernel_rfl
@[simp] theorem tf_fld75x2 : tfld Try.prog 75 2 = some (6, 1, false) := by kernel_rfl
@[simp] theorem tf_fld75x3 : tfld Try.prog 75 3 = some (7, 1, false) := by kernel_rfl
@[simp] theorem tf_fld75x4 : tfld Try.prog 75 4 = some (8, 1, false) := by kernel_rfl
@[simp] theorem tf_fld75x5 : tfld Try.prog 75 5 = some (9, 1, false) := by kernel_rfl
@[simp] theorem tf_fld75x6 : tfld Try.prog 75 6 = some (10, 1, false) := by kernel_rfl
@[simp] theorem tf_fld75x7 : tfld Try.prog 75 7 = some (11, 1, false) := by kernel_rfl
@[simp] theorem tf_sz84 : tsz Try.prog 84 = some 4 := by kernel_rfl
@[simp] theorem tf_row84 : trow Try.prog 84 = some true := by kernel_rfl
@[simp] theorem tf_zc84 : tzc Try.prog 84 = some [.int .i64 0, .int .i64 0, .int .i64 0, .str []] := by kernel_rfl
@[simp] theorem tf_pl84 : tplaces Try.prog 84 = some [(0, 1), (1, 1), (2, 1), (3, 1)] := by kernel_rfl
@[simp] theorem tf_fld84x0 : tfld Try.prog 84 0 = some (0, 1, false) := by kernel_rfl
@[simp] theorem tf_fld84x1 : tfld Try.prog 84 1 = some (1, 1, false) := by kernel_rfl
@[simp] theorem tf_fld84x2 : tfld Try.prog 84 2 = some (2, 1, false) := by kernel_rfl
@[simp] theorem tf_fld84x3 : tfld Try.prog 84 3 = some (3, 1, false) := by kernel_rfl
@[simp] theorem tf_sz96 : tsz Try.prog 96 = some 5 := by kernel_rfl
@[simp] theorem tf_by96 : tby Try.prog 96 = some 16 := by kernel_rfl
@[simp] theorem tf_row96 : trow Try.prog 96 = some true := by kernel_rfl
@[simp] theorem tf_zc96 : tzc Try.prog 96 = some [.int .i64 0, .bool false, .bool false, .bool false, .bool false] := by kernel_rfl
@[simp] theorem tf_pl96 : tplaces Try.prog 96 = some [(0, 1), (1, 1), (2, 1), (3, 1), (4, 1)] := by kernel_rfl
@[simp] theorem tf_fld96x2 : tfld Try.prog 96 2 = some (2, 1, false) := by kernel_rfl
@[simp] theorem tf_fld96x3 : tfld Try.prog 96 3 = some (3, 1, false) := by kernel_rfl
@[simp] theorem tf_fld96x4 : tfld Try.prog 96 4 = some (4, 1, false) := by kernel_rfl
@[simp] theorem tf_flat96 : tflat Try.prog 96 = some [0, 1, 1, 1, 1] := by kernel_rfl
@[simp] theorem tf_sz98 : tsz Try.prog 98 = some 11 := by kernel_rfl
@[simp] theorem tf_by98 : tby Try.prog 98 = some 64 := by kernel_rfl
@[simp] theorem tf_row98 : trow Try.prog 98 = some true := by kernel_rfl
@[simp] theorem tf_zc98 : tzc Try.prog 98 = some [.str [], .str [], .int .i64 0, .bool false, .bool false, .bool false, .bool false, .bool false, .bool false, .int .i64 0, .int .i64 0] := by kernel_rfl
@[simp] theorem tf_pl98 : tplaces Try.prog 98 = some [(0, 1), (1, 1), (2, 1), (3, 1), (4, 1), (5, 1), (6, 1), (7, 1), (8, 1), (9, 1), (10, 1)] := by kernel_rfl
@[simp] theorem tf_fld98x0 : tfld Try.prog 98 0 = some (0, 1, false) := by kernel_rfl
@[simp] theorem tf_fld98x1 : tfld Try.prog 98 1 = some (1, 1, false) := by kernel_rfl
@[simp] theorem tf_fld98x2 : tfld Try.prog 98 2 = some (2, 1, false) := by kernel_rfl
@[simp] theorem tf_fld98x3 : tfld Try.prog 98 3 = some (3, 1, false) := by kernel_rfl
@[simp] theorem tf_fld98x4 : tfld Try.prog 98 4 = some (4, 1, false) := by kernel_rfl
@[simp] theorem tf_fld98x5 : tfld Try.prog 98 5 = some (5, 1, false) := by kernel_rfl
@[simp] theorem tf_fld98x6 : tfld Try.prog 98 6 = some (6, 1, false) := by kernel_rfl
@[simp] theorem tf_fld98x7 : tfld Try.prog 98 7 = some (7, 1, false) := by kernel_rfl
@[simp] theorem tf_fld98x8 : tfld Try.prog 98 8 = some (8, 1, false) := by kernel_rfl
@[simp] theorem tf_fld98x9 : tfld Try.prog 98 9 = some (9, 1, false) := by kernel_rfl
@[simp] theorem tf_fld98x10 : tfld Try.prog 98 10 = some (10, 1, false) := by kernel_rfl
@[simp] theorem tf_zc100 : tzc Try.prog 100 = some [.raw .nilFunc, .raw .nilFunc, .raw .nilFunc, .raw .nilFunc, .raw .nilFunc, .raw .nilFunc, .raw .nilFunc] := by kernel_rfl
@[simp] theorem tf_arr100 : tarr Try.prog 100 = some (7, 1, false) := by kernel_rfl
@[simp] theorem tf_pl100 : tplaces Try.prog 100 = some [(0, 1), (1, 1), (2, 1), (3, 1), (4, 1), (5, 1), (6, 1)] := by kernel_rfl
end Go.Proofs.Ytgnjdfnjohgnlaa

set_option linter.unusedVariables false
set_option linter.unusedSimpArgs false
set_option linter.unusedSectionVars false
set_option maxRecDepth 100000
namespace Go.Proofs.Ytgnjdfnjohgnlaa
open Go Go.RowKit

theorem bndH_set {H : Hp} (hB : BndH H.length H) (c : Nat) {l : List AV} (hl : ∀ x ∈ l, Bnd H.length x) : BndH (H.set c l).length (H.set c l) := by
  intro m hm x hx
  rw [List.length_set]
  rcases List.mem_or_eq_of_mem_set hm with h | h
  · exact hB m h x hx
  · rw [h] at hx; exact hl x hx
theorem aPost_set {P : Program} {rs : List ResultVar} {Q : AV → Hp → Prop} {fr : List AV} {H J : Hp} {v0 v : AV} {c : Nat} {l : List AV} (hB : BndH H.length H) (h1 : ares P fr (H.set c l ++ J) rs = some v0) (h2 : nilV v0 v) (hl : ∀ x ∈ l, Bnd H.length x) (h5 : Bnd H.length v) (h6 : Q v (H.set c l)) :
    aPost P rs H.length Q .ret fr (H.set c l ++ J) := aPost_end h1 h2 (by simp) (bndH_set hB c hl) (by simpa using h5) h6
theorem aPost_set0 {P : Program} {rs : List ResultVar} {Q : AV → Hp → Prop} {fr : List AV} {H : Hp} {v0 v : AV} {c : Nat} {l : List AV} (hB : BndH H.length H) (h1 : ares P fr (H.set c l) rs = some v0) (h2 : nilV v0 v) (hl : ∀ x ∈ l, Bnd H.length x) (h5 : Bnd H.length v) (h6 : Q v (H.set c l)) :
    aPost P rs H.length Q .ret fr (H.set c l) := by
  have := aPost_set (J := []) (P := P) (rs := rs) (Q := Q) (fr := fr) hB (by rw [List.append_nil]; exact h1) h2 hl h5 h6
  rwa [List.append_nil] at this

section
variable {H : Hp} {c : Nat} (h : c < H.length)
include h
theorem hs0 (J : Hp) : (H ++ J)[c]? = H[c]? := List.getElem?_append_left h
theorem hs1 (x : List AV) (J : Hp) : (H.set c x ++ J)[c]? = some x := by rw [List.getElem?_append_left (by simpa using h), List.getElem?_set_self h]
theorem hs2 (x y : List AV) (J : Hp) : (H.set c x ++ J).set c y = H.set c y ++ J := by rw [List.set_append_left _ _ (by simpa using h), List.set_set]
theorem hs3 (y : List AV) (J : Hp) : (H ++ J).set c y = H.set c y ++ J := List.set_append_left _ _ h
theorem hs4 (x : List AV) : (H.set c x)[c]? = some x := List.getElem?_set_self h

theorem hs5 (x y : List AV) : (H.set c x).set c y = H.set c y := List.set_set ..
end
/-- A connection. -/
structure Cn where
  del : List UInt8
  rd : Nat
  rg : Int
  tak : List UInt8
  wg : Int
  acc : Bool
  ended : Bool
  rst : Bool
  cls : Bool
  ri : Bool
  wi : Bool
def Cn.av (m : Cn) : List AV := [.sl true 1 (bts m.del), .int .i64 m.rd, .int .i64 m.rg, .sl true 1 (bts m.tak), .int .i64 0, .int .i64 m.wg, .bool m.acc, .bool m.ended, .bool m.rst, .bool m.cls, .bool m.ri, .bool m.wi]
theorem Cn.bnd (m : Cn) (N : Nat) : ∀ x ∈ m.av, Bnd N x := by simp [Cn.av]
def evA (k c n : Int) (d : List UInt8) : AV := .agg [.int .i64 k, .int .i64 c, .int .i64 n, .str d]
theorem at_lt {H : Hp} {c : Nat} {l : List AV} (h : H[c]? = some l) : c < H.length := (List.getElem?_eq_some_iff.1 h).1

variable (E : Env) (H : Hp) (c : Nat) (m : Cn) (Q : AV → Hp → Prop)
theorem waits_pc (hc : H[c]? = some m.av) (hQ : Q (.bool (!m.acc && !m.rst)) H) : PC Try.prog E 29 [.ptr (some (c, 0))] H Q := by
  refine pc_enter Try.func29 rfl [] [] (by kernel_rfl) (fun hB => ?_)
  unfold Cn.av at hc
  have hlt := at_lt hc
  cases ha : m.acc <;> rw [ha] at hQ hc <;> simp [Try.ntmps29, Try.results29, List.replicate_succ, hc]
  · exact aPost_same0 hB rfl (nilV_refl _) (by simp) hQ
  · exact aPost_same0 hB rfl (nilV_refl _) (by simp) hQ
theorem end_pc (ev : AV) (hc : H[c]? = some m.av) (hQ : Q (.bool (!m.ended)) (H.set c { m with ended := true }.av)) (h : ∃ k n i d, ev = evA k n i d) : PC Try.prog E 43 [.ptr (some (c, 0)), ev] H Q := by
  obtain ⟨k, n, i, d, rfl⟩ := h
  refine pc_enter Try.func43 rfl [] [] (by kernel_rfl) (fun hB => ?_)
  unfold Cn.av at hc
  have hlt := at_lt hc
  simp [Try.ntmps43, Try.results43, List.replicate_succ, hc, evA, hs0 hlt, hs1 hlt, hs2 hlt, hs3 hlt, hs4 hlt, hs5 hlt]
  exact aPost_set hB rfl (nilV_refl _) (by simp) (by simp) hQ
theorem broken_pc (ev : AV) (hc : H[c]? = some m.av) (hQ : Q (.bool true) (H.set c { m with rst := true }.av)) (h : ∃ k n i d, ev = evA k n i d) : PC Try.prog E 44 [.ptr (some (c, 0)), ev] H Q := by
  obtain ⟨k, n, i, d, rfl⟩ := h
  refine pc_enter Try.func44 rfl [] [] (by kernel_rfl) (fun hB => ?_)
  unfold Cn.av at hc
  have hlt := at_lt hc
  simp [Try.ntmps44, Try.results44, List.replicate_succ, hc, evA, hs0 hlt, hs1 hlt, hs2 hlt, hs3 hlt, hs4 hlt, hs5 hlt]
  exact aPost_set hB rfl (nilV_refl _) (by simp) (by simp) hQ
theorem cread_pc (k n i : Int) (d : List UInt8) (hc : H[c]? = some m.av) (h0 : i < 1 → Q (.bool false) H) (h1 : 1 ≤ i → Q (.bool true) (H.set c { m with rg := i }.av)) : PC Try.prog E 45 [.ptr (some (c, 0)), evA k n i d] H Q := by
  refine pc_enter Try.func45 rfl [] [] (by kernel_rfl) (fun hB => ?_)
  unfold Cn.av at hc
  have hlt := at_lt hc
  by_cases hi : i < 1 <;> simp [Try.ntmps45, Try.results45, List.replicate_succ, hc, evA, hs0 hlt, hs1 hlt, hs2 hlt, hs3 hlt, hs4 hlt, hs5 hlt, hi]
  · exact aPost_same hB rfl (nilV_refl _) (by simp) (h0 hi)
  · exact aPost_set hB rfl (nilV_refl _) (by simp) (by simp) (h1 (by omega))
theorem cwrite_pc (k n i : Int) (d : List UInt8) (hc : H[c]? = some m.av) (h0 : i < 1 → Q (.bool false) H) (h1 : 1 ≤ i → Q (.bool true) (H.set c { m with wg := i }.av)) : PC Try.prog E 46 [.ptr (some (c, 0)), evA k n i d] H Q := by
  refine pc_enter Try.func46 rfl [] [] (by kernel_rfl) (fun hB => ?_)
  unfold Cn.av at hc
  have hlt := at_lt hc
  by_cases hi : i < 1 <;> simp [Try.ntmps46, Try.results46, List.replicate_succ, hc, evA, hs0 hlt, hs1 hlt, hs2 hlt, hs3 hlt, hs4 hlt, hs5 hlt, hi]
  · exact aPost_same hB rfl (nilV_refl _) (by simp) (h0 hi)
  · exact aPost_set hB rfl (nilV_refl _) (by simp) (by simp) (h1 (by omega))
theorem data_pc (k n i : Int) (d : List UInt8) (hc : H[c]? = some m.av) (hsz : m.del.length + d.length ≤ 140737488355328) (h0 : m.ended = true → Q (.bool false) H) (h1 : m.ended = false → Q (.bool true) (H.set c { m with del := m.del ++ d }.av)) : PC Try.prog E 42 [.ptr (some (c, 0)), evA k n i d] H Q := by
  refine pc_enter Try.func42 rfl [15] [] (by kernel_rfl) (fun hB => ?_)
  unfold Cn.av at hc
  have hlt := at_lt hc
  have hm1 : m.del.length + d.length ≤ maxLen := by unfold maxLen; omega
  cases he : m.ended <;> rw [he] at hc <;> simp [Try.ntmps42, Try.results42, List.replicate_succ, hc, evA, hs0 hlt, hs1 hlt, hs2 hlt, hs3 hlt, hs4 hlt, hs5 hlt, hm1, hsz]
  · refine aPost_set hB rfl (nilV_refl _) ?_ (by simp) ?_
    · simp [bts_app]
    · have := h1 he
      simp only [Cn.av, he] at this
      simpa [bts_app] using this
  · exact aPost_same hB rfl (nilV_refl _) (by simp) (h0 he)
end Go.Proofs.Ytgnjdfnjohgnlaa

set_option linter.unusedVariables false
set_option linter.unusedSimpArgs false
set_option linter.unusedSectionVars false
set_option maxRecDepth 100000
namespace Go.Proofs.Ytgnjdfnjohgnlaa
open Go Go.RowKit

def ptrs (cs : List Nat) : List (List AV) := cs.map fun c => [.ptr (some (c, 0))]
theorem ptrs_len (cs : List Nat) : (ptrs cs).length = cs.length := by simp [ptrs]
theorem ptrs_at {cs : List Nat} {i c : Nat} (h : cs[i]? = some c) : lat (ptrs cs) i = some [.ptr (some (c, 0))] := by simp [lat, ptrs, h]
structure WAt (H : Hp) (w : Nat) (cs : List Nat) (ms : List Cn) : Prop where
  box : H[w]? = some [.sl true 1 (ptrs cs)]
  len : cs.length = ms.length
  conn : ∀ (i c : Nat) (m : Cn), cs[i]? = some c → ms[i]? = some m → H[c]? = some m.av
  nd : (w :: cs).Nodup
/-- A world, or none. -/
def WO (H : Hp) (w : Option Nat) (cs : List Nat) (ms : List Cn) : Prop := match w with
  | some w => WAt H w cs ms
  | none => cs = [] ∧ ms = []
def wpt (w : Option Nat) : AV := .ptr (w.map fun w => (w, 0))
theorem WO.len {H : Hp} {w : Option Nat} {cs : List Nat} {ms : List Cn} (h : WO H w cs ms) : cs.length = ms.length := by
  cases w with
  | none => rw [h.1, h.2]; rfl
  | some w => exact WAt.len h

section
variable (E : Env) (H : Hp) (w : Option Nat) (cs : List Nat) (ms : List Cn) (Q : AV → Hp → Prop)
theorem at_pc (n : Int) (hw : WO H w cs ms) (hl : ms.length ≤ 4096) (h0 : ¬ (0 ≤ n ∧ n < ms.length) → Q (.ptr none) H) (h1 : ∀ (i c : Nat) m, n = i → cs[i]? = some c → ms[i]? = some m → H[c]? = some m.av → Q (.ptr (some (c, 0))) H) :
    PC Try.prog E 27 [wpt w, .int .i64 n] H Q := by
  cases w with
  | none =>
    refine pc_enter Try.func27 rfl [] [] (by kernel_rfl) (fun hB => ?_)
    simp [Try.ntmps27, Try.results27, List.replicate_succ, wpt]
    refine aPost_same0 hB rfl (nilV_refl _) (by simp) (h0 ?_)
    rw [hw.2]; simp
  | some w =>
    have hbx := hw.box
    have hlen := hw.len
    by_cases hn : n < 0
    · refine pc_enter Try.func27 rfl [] [] (by kernel_rfl) (fun hB => ?_)
      simp [Try.ntmps27, Try.results27, List.replicate_succ, wpt, hn]
      exact aPost_same0 hB rfl (nilV_refl _) (by simp) (h0 (by omega))
    · obtain ⟨i, rfl⟩ : ∃ i : Nat, n = i := ⟨n.toNat, by omega⟩
      by_cases hi : i < cs.length
      · obtain ⟨c, hc⟩ : ∃ c, cs[i]? = some c := ⟨_, List.getElem?_eq_getElem hi⟩
        obtain ⟨m, hm⟩ : ∃ m, ms[i]? = some m := ⟨_, List.getElem?_eq_getElem (by omega)⟩
        have hat := ptrs_at hc
        have hcm := hw.conn i c m hc hm
        have hcl := at_lt hcm
        refine pc_enter Try.func27 rfl [] [] (by kernel_rfl) (fun hB => ?_)
        have hle : ¬ cs.length ≤ i := by omega
        simp [Try.ntmps27, Try.results27, List.replicate_succ, wpt, hbx, ptrs_len, hat, hle]
        exact aPost_same0 hB rfl (nilV_refl _) (by simp [hcl]) (h1 i c m rfl hc hm hcm)
      · refine pc_enter Try.func27 rfl [] [] (by kernel_rfl) (fun hB => ?_)
        simp [Try.ntmps27, Try.results27, List.replicate_succ, wpt, hbx, ptrs_len, (by omega : cs.length ≤ i)]
        exact aPost_same0 hB rfl (nilV_refl _) (by simp) (h0 (by omega))

/-- What is wrong with a connection that the server names. -/
def mServed (ms : List Cn) (n : Int) : Int := if 0 ≤ n ∧ n < ms.length then match ms[n.toNat]? with
  | some m => if m.acc = false then 240 else if m.cls then 242 else 0
  | none => 240 else 240
def mLive (ms : List Cn) (n : Int) : Int := if mServed ms n = 0 then match ms[n.toNat]? with
  | some m => if m.rst then 243 else 0
  | none => 240 else mServed ms n
theorem mServed_nat {ms : List Cn} {i : Nat} {m : Cn} (h : ms[i]? = some m) : mServed ms i = if m.acc = false then 240 else if m.cls then 242 else 0 := by
  have := (List.getElem?_eq_some_iff.1 h).1
  unfold mServed
  rw [if_pos (by omega), Int.toNat_natCast, h]
theorem served_pc (n : Int) (hw : WO H w cs ms) (hl : ms.length ≤ 4096) (h0 : mServed ms n ≠ 0 → Q (.tup [.ptr none, .int .i64 (mServed ms n)]) H)
    (h1 : ∀ (i c : Nat) m, n = i → cs[i]? = some c → ms[i]? = some m → H[c]? = some m.av → m.acc = true → m.cls = false → Q (.tup [.ptr (some (c, 0)), .int .i64 0]) H) :
    PC Try.prog E 32 [wpt w, .int .i64 n] H Q := by
  refine pc_enter Try.func32 rfl [] [] (by kernel_rfl) (fun hB => ?_)
  simp [Try.ntmps32, Try.results32, List.replicate_succ]
  refine at_pc E H w cs ms _ n hw hl (fun hn => ?_) (fun i c m hi hc hm hcm => ?_)
  · simp
    have e : mServed ms n = 240 := by unfold mServed; rw [if_neg hn]
    have := h0 (by rw [e]; decide)
    rw [e] at this
    exact aPost_same0 hB rfl (nilV_refl _) (by simp) this
  · subst hi
    have e := mServed_nat hm
    have hcm' := hcm
    unfold Cn.av at hcm
    cases ha : m.acc
    · rw [ha] at hcm e
      rw [if_pos rfl] at e
      simp [hcm]
      have := h0 (by rw [e]; decide)
      rw [e] at this
      exact aPost_same0 hB rfl (nilV_refl _) (by simp) this
    · cases hcl : m.cls
      · rw [ha, hcl] at hcm
        simp [hcm]
        exact aPost_same0 hB rfl (nilV_refl _) (by simp [at_lt hcm]) (h1 i c m rfl hc hm hcm' ha hcl)
      · rw [ha, hcl] at hcm e
        simp [hcm]
        have := h0 (by rw [e]; decide)
        rw [e] at this
        exact aPost_same0 hB rfl (nilV_refl _) (by simp) this
theorem live_pc (n : Int) (hw : WO H w cs ms) (hl : ms.length ≤ 4096) (h0 : mLive ms n ≠ 0 → Q (.tup [.ptr none, .int .i64 (mLive ms n)]) H)
    (h1 : ∀ (i c : Nat) m, n = i → cs[i]? = some c → ms[i]? = some m → H[c]? = some m.av → m.acc = true → m.cls = false → m.rst = false → Q (.tup [.ptr (some (c, 0)), .int .i64 0]) H) :
    PC Try.prog E 30 [wpt w, .int .i64 n] H Q := by
  refine pc_enter Try.func30 rfl [] [] (by kernel_rfl) (fun hB => ?_)
  simp [Try.ntmps30, Try.results30, List.replicate_succ]
  refine served_pc E H w cs ms _ n hw hl (fun hn => ?_) (fun i c m hi hc hm hcm ha hcl => ?_)
  · have e : mLive ms n = mServed ms n := by unfold mLive; rw [if_neg hn]
    rw [e] at h0
    have hb : (mServed ms n == 0) = false := by simp [hn]
    simp [hb]
    exact aPost_same0 hB rfl (nilV_refl _) (by simp) (h0 hn)
  · subst hi
    have e := mServed_nat hm
    rw [ha, hcl] at e
    have e2 : mLive ms i = if m.rst then 243 else 0 := by
      unfold mLive
      rw [if_pos (by rw [e]; rfl)]
      simp [hm]
    have hcm' := hcm
    unfold Cn.av at hcm
    cases hr : m.rst
    · rw [ha, hcl, hr] at hcm
      simp [hcm]
      exact aPost_same0 hB rfl (nilV_refl _) (by simp [at_lt hcm]) (h1 i c m rfl hc hm hcm' ha hcl hr)
    · rw [ha, hcl, hr] at hcm
      rw [hr] at e2
      simp [hcm]
      have := h0 (by rw [e2]; decide)
      rw [e2] at this
      exact aPost_same0 hB rfl (nilV_refl _) (by simp) this
end
end Go.Proofs.Ytgnjdfnjohgnlaa

set_option linter.unusedVariables false
set_option linter.unusedSimpArgs false
set_option linter.unusedSectionVars false
set_option maxRecDepth 100000
namespace Go.Proofs.Ytgnjdfnjohgnlaa
open Go Go.RowKit

theorem bts_drop (l : List UInt8) (k : Nat) : (bts l).drop k = bts (l.drop k) := by simp [bts]
theorem bts_take (l : List UInt8) (k : Nat) : (bts l).take k = bts (l.take k) := by simp [bts]
theorem set_same {H : Hp} {c : Nat} {l : List AV} (h : H[c]? = some l) : H.set c l = H := by
  refine List.ext_getElem? fun j => ?_
  by_cases hj : j = c
  · subst hj; rw [List.getElem?_set_self (List.getElem?_eq_some_iff.1 h).1, h]
  · rw [List.getElem?_set_ne (Ne.symm hj)]
theorem mLive_nat {ms : List Cn} {i : Nat} {m : Cn} (h : ms[i]? = some m) (ha : m.acc = true) (hc : m.cls = false) (hr : m.rst = false) : mLive ms i = 0 := by
  unfold mLive
  rw [mServed_nat h, ha, hc]
  simp [h, hr]

/-- What a connection that is live answers. -/
def cRead (m : Cn) (k : Int) : Cn × List UInt8 × Bool × Int :=
  if k < 1 then (m, [], false, 1) else if m.rg = 0 then (m, [], false, 244) else
    let n : Int := min k m.rg
    if m.rd < m.del.length then
      let s := (m.del.drop m.rd).take n.toNat
      ({ m with rg := 0, rd := m.rd + s.length }, s, false, 0)
    else if m.ended then ({ m with rg := 0 }, [], true, 0) else ({ m with rg := 0 }, [], false, 244)
def cWrite (m : Cn) (s : List UInt8) : Cn × Nat × Int :=
  if m.wg = 0 ∨ s = [] then (m, 0, 244) else
    let t := s.take m.wg.toNat
    ({ m with wg := 0, tak := m.tak ++ t }, t.length, 0)
def Cn.ok (m : Cn) : Prop := m.rd ≤ m.del.length ∧ 0 ≤ m.rg ∧ 0 ≤ m.wg ∧ m.del.length ≤ 140737488355328 ∧ m.tak.length ≤ 140737488355328

section
variable (E : Env) (H : Hp) (w : Option Nat) (cs : List Nat) (ms : List Cn) (Q : AV → Hp → Prop) (n : Int) (hw : WO H w cs ms) (hl : ms.length ≤ 4096)
include hw hl
theorem interest_pc (r i' : Bool) (h0 : mLive ms n ≠ 0 → Q (.int .i64 (mLive ms n)) H)
    (h1 : ∀ (i c : Nat) m, n = i → cs[i]? = some c → ms[i]? = some m → H[c]? = some m.av → mLive ms n = 0 → Q (.int .i64 0) (H.set c { m with ri := r, wi := i' }.av)) :
    PC Try.prog E 16 [wpt w, .int .i64 n, .bool r, .bool i'] H Q := by
  refine pc_enter Try.func16 rfl [] [] (by kernel_rfl) (fun hB => ?_)
  simp [Try.ntmps16, Try.results16, List.replicate_succ]
  refine live_pc E H w cs ms _ n hw hl (fun hn => ?_) (fun i c m hi hc hm hcm ha hcl hr => ?_)
  · have hb : (mLive ms n == 0) = false := by simp [hn]
    simp [hb]
    exact aPost_same0 hB rfl (nilV_refl _) (by simp) (h0 hn)
  · subst hi
    have hlt := at_lt hcm
    have := h1 i c m rfl hc hm hcm (mLive_nat hm ha hcl hr)
    unfold Cn.av at hcm
    simp [hcm, hs0 hlt, hs1 hlt, hs2 hlt, hs3 hlt, hs4 hlt, hs5 hlt]
    exact aPost_set0 hB rfl (nilV_refl _) (by simp) (by simp) this
theorem close_pc (h0 : mServed ms n ≠ 0 → Q (.int .i64 (mServed ms n)) H)
    (h1 : ∀ (i c : Nat) m, n = i → cs[i]? = some c → ms[i]? = some m → H[c]? = some m.av → mServed ms n = 0 → Q (.int .i64 0) (H.set c { m with cls := true, ri := false, wi := false, rg := 0, wg := 0 }.av)) :
    PC Try.prog E 20 [wpt w, .int .i64 n] H Q := by
  refine pc_enter Try.func20 rfl [] [] (by kernel_rfl) (fun hB => ?_)
  simp [Try.ntmps20, Try.results20, List.replicate_succ]
  refine served_pc E H w cs ms _ n hw hl (fun hn => ?_) (fun i c m hi hc hm hcm ha hcl => ?_)
  · have hb : (mServed ms n == 0) = false := by simp [hn]
    simp [hb]
    exact aPost_same0 hB rfl (nilV_refl _) (by simp) (h0 hn)
  · subst hi
    have hlt := at_lt hcm
    have := h1 i c m rfl hc hm hcm (by rw [mServed_nat hm, ha, hcl]; rfl)
    unfold Cn.av at hcm
    simp [hcm, hs0 hlt, hs1 hlt, hs2 hlt, hs3 hlt, hs4 hlt, hs5 hlt]
    exact aPost_set0 hB rfl (nilV_refl _) (by simp) (by simp) this
theorem delivered_pc (h0 : ¬ (0 ≤ n ∧ n < ms.length) → Q (.str []) H) (h1 : ∀ (i : Nat) m, n = i → ms[i]? = some m → Q (.str m.del) H) :
    PC Try.prog E 21 [wpt w, .int .i64 n] H Q := by
  refine pc_enter Try.func21 rfl [] [] (by kernel_rfl) (fun hB => ?_)
  simp [Try.ntmps21, Try.results21, List.replicate_succ]
  refine at_pc E H w cs ms _ n hw hl (fun hn => ?_) (fun i c m hi hc hm hcm => ?_)
  · simp
    exact aPost_same0 hB rfl (nilV_refl _) (by simp) (h0 hn)
  · unfold Cn.av at hcm
    simp [hcm]
    exact aPost_same0 hB rfl (nilV_refl _) (by simp) (h1 i m hi hm)
theorem taken_pc (h0 : ¬ (0 ≤ n ∧ n < ms.length) → Q (.str []) H) (h1 : ∀ (i : Nat) m, n = i → ms[i]? = some m → Q (.str m.tak) H) :
    PC Try.prog E 22 [wpt w, .int .i64 n] H Q := by
  refine pc_enter Try.func22 rfl [] [] (by kernel_rfl) (fun hB => ?_)
  simp [Try.ntmps22, Try.results22, List.replicate_succ]
  refine at_pc E H w cs ms _ n hw hl (fun hn => ?_) (fun i c m hi hc hm hcm => ?_)
  · simp
    exact aPost_same0 hB rfl (nilV_refl _) (by simp) (h0 hn)
  · unfold Cn.av at hcm
    simp [hcm]
    exact aPost_same0 hB rfl (nilV_refl _) (by simp) (h1 i m hi hm)
omit hl hw in
theorem granted_pc (c p : Nat) (l : List AV) (g : Int) (hc : H[c]? = some l) (hp : l[p + 2]? = some (.int .i64 g)) (hlb : BndH H.length H → ∀ x ∈ l, Bnd H.length x) (hQ : Q (.int .i64 g) (H.set c (l.set (p + 2) (.int .i64 0)))) : PC Try.prog E 31 [.ptr (some (c, p))] H Q := by
  refine pc_enter Try.func31 rfl [] [] (by kernel_rfl) (fun hB => ?_)
  have hlt := at_lt hc
  have hpl : p + 2 < l.length := (List.getElem?_eq_some_iff.1 hp).1
  have e : setR l (p + 2) [.int .i64 0] = l.set (p + 2) (.int .i64 0) := by
    rw [List.set_eq_take_append_cons_drop, if_pos hpl]; simp [setR]
  simp [Try.ntmps31, Try.results31, List.replicate_succ, hc, hp, hs0 hlt, hs1 hlt, hs2 hlt, hs3 hlt, hs4 hlt, hs5 hlt, -setR, e, (by omega : p + 2 + 1 ≤ l.length)]
  refine aPost_set0 hB rfl (nilV_refl _) (fun x hx => ?_) (by simp) hQ
  rcases List.mem_or_eq_of_mem_set hx with h | h
  · exact hlb hB x h
  · rw [h]; simp
end
end Go.Proofs.Ytgnjdfnjohgnlaa

set_option linter.unusedVariables false
set_option linter.unusedSimpArgs false
set_option linter.unusedSectionVars false
set_option maxRecDepth 100000
namespace Go.Proofs.Ytgnjdfnjohgnlaa
open Go Go.RowKit

section
variable (E : Env) (H : Hp) (w : Option Nat) (cs : List Nat) (ms : List Cn) (Q : AV → Hp → Prop) (n : Int) (hw : WO H w cs ms) (hl : ms.length ≤ 4096)
include hw hl
theorem read_pc (k : Int) (hok : ∀ (i : Nat) m, n = i → ms[i]? = some m → m.ok) (h0 : mLive ms n ≠ 0 → Q (.tup [.str [], .bool false, .int .i64 (mLive ms n)]) H)
    (h1 : ∀ (i c : Nat) m m' s b e, n = i → cs[i]? = some c → ms[i]? = some m → H[c]? = some m.av → mLive ms n = 0 → cRead m k = (m', s, b, e) → Q (.tup [.str s, .bool b, .int .i64 e]) (H.set c m'.av)) :
    PC Try.prog E 18 [wpt w, .int .i64 n, .int .i64 k] H Q := by
  refine pc_enter Try.func18 rfl [] [] (by kernel_rfl) (fun hB => ?_)
  simp [Try.ntmps18, Try.results18, List.replicate_succ]
  refine live_pc E H w cs ms _ n hw hl (fun hn => ?_) (fun i c m hi hc hm hcm ha hcl hr => ?_)
  · simp
    refine VC_split (fun _ => ?_) (fun h => absurd h (by simp [hn]))
    simp
    exact aPost_same0 hB rfl (nilV_refl _) (by simp) (h0 hn)
  · subst hi
    have hlt := at_lt hcm
    obtain ⟨o1, o2, o3, o4, o5⟩ := hok i m rfl hm
    have hq := fun m' s b e h => h1 i c m m' s b e rfl hc hm hcm (mLive_nat hm ha hcl hr) h
    have hcm' := hcm
    unfold Cn.av at hcm
    by_cases k1 : k < 1
    · simp [k1]
      have := hq m [] false 1 (by simp [cRead, k1])
      rw [set_same hcm'] at this
      exact aPost_same0 hB rfl (nilV_refl _) (by simp) this
    · by_cases k2 : m.rg = 0
      · rw [k2] at hcm
        simp [k1, hcm]
        have := hq m [] false 244 (by simp [cRead, k1, k2])
        rw [set_same hcm'] at this
        exact aPost_same0 hB rfl (nilV_refl _) (by simp) this
      · have k2' : (m.rg == 0) = false := by simp [k2]
        simp [k1, hcm, k2']
        refine granted_pc E H _ c 0 _ m.rg hcm rfl (fun _ => by simp) ?_
        have htk : (m.del.drop m.rd).take (m.del.length - m.rd) = m.del.drop m.rd := List.take_of_length_le (by simp)
        simp [hs0 hlt, hs1 hlt, hs2 hlt, hs3 hlt, hs4 hlt, hs5 hlt, bts_drop, bts_take, htk, o1]
        obtain ⟨q, hmin, hq0, hqk⟩ : ∃ q : Nat, (if m.rg < k then m.rg else k) = q ∧ 0 < q ∧ (q : Int) = min k m.rg := ⟨(min k m.rg).toNat, by split <;> omega, by omega, by omega⟩
        have htq : (min k m.rg).toNat = q := by omega
        by_cases k3 : m.rd < m.del.length
        · have hp : (0 < m.del.length - m.rd) = True := eq_true (by omega)
          by_cases k4 : m.del.length - m.rd < q
          · have hw1 : IntKind.i64.wrap ((m.rd : Int) + (m.del.length - m.rd : Nat)) = (m.rd + (m.del.length - m.rd) : Nat) := by rw [wrap_in (by omega) (by omega)]; omega
            simp [hp, hmin, k4, bts_take, htk, hs0 hlt, hs1 hlt, hs2 hlt, hs3 hlt, hs4 hlt, hs5 hlt, hw1]
            have := hq { m with rg := 0, rd := m.rd + (m.del.length - m.rd) } (m.del.drop m.rd) false 0 (by
              have e1 : (m.del.drop m.rd).take q = m.del.drop m.rd := List.take_of_length_le (by simp; omega)
              simp [cRead, k1, k2, k3, htq, e1])
            exact aPost_set0 hB rfl (nilV_refl _) (by simp) (by simp) this
          · have hw1 : IntKind.i64.wrap ((m.rd : Int) + (q : Nat)) = (m.rd + q : Nat) := by rw [wrap_in (by omega) (by omega)]; omega
            have hl1 : ((m.del.drop m.rd).take q).length = q := by rw [List.length_take, List.length_drop]; omega
            have hmq : Nat.min q (m.del.length - m.rd) = q := Nat.min_eq_left (by omega)
            simp [hp, hmin, k4, bts_take, htk, hs0 hlt, hs1 hlt, hs2 hlt, hs3 hlt, hs4 hlt, hs5 hlt, hw1, (by omega : q ≤ m.del.length - m.rd), hmq]
            have := hq { m with rg := 0, rd := m.rd + q } ((m.del.drop m.rd).take q) false 0 (by
              simp [cRead, k1, k2, k3, htq, (by omega : q ≤ m.del.length - m.rd)])
            exact aPost_set0 hB rfl (nilV_refl _) (by simp) (by simp) this
        · have hp : (0 < m.del.length - m.rd) = False := eq_false (by omega)
          simp [hp, hs0 hlt, hs1 hlt, hs2 hlt, hs3 hlt, hs4 hlt, hs5 hlt]
          cases he : m.ended
          · simp
            have := hq { m with rg := 0 } [] false 244 (by simp [cRead, k1, k2, k3, he])
            simp only [Cn.av, he] at this
            exact aPost_set0 hB rfl (nilV_refl _) (by simp) (by simp) this
          · simp
            have := hq { m with rg := 0 } [] true 0 (by simp [cRead, k1, k2, k3, he])
            simp only [Cn.av, he] at this
            exact aPost_set0 hB rfl (nilV_refl _) (by simp) (by simp) this
theorem write_pc (s : List UInt8) (hsl : ∀ (i : Nat) m, n = i → ms[i]? = some m → m.tak.length + s.length ≤ 140737488355328) (hok : ∀ (i : Nat) m, n = i → ms[i]? = some m → m.ok) (h0 : mLive ms n ≠ 0 → Q (.tup [.int .i64 0, .int .i64 (mLive ms n)]) H)
    (h1 : ∀ (i c : Nat) m m' (r : Nat) e, n = i → cs[i]? = some c → ms[i]? = some m → H[c]? = some m.av → mLive ms n = 0 → cWrite m s = (m', r, e) → Q (.tup [.int .i64 r, .int .i64 e]) (H.set c m'.av)) :
    PC Try.prog E 19 [wpt w, .int .i64 n, .str s] H Q := by
  refine pc_enter Try.func19 rfl [48] [] (by kernel_rfl) (fun hB => ?_)
  simp [Try.ntmps19, Try.results19, List.replicate_succ]
  refine live_pc E H w cs ms _ n hw hl (fun hn => ?_) (fun i c m hi hc hm hcm ha hcl hr => ?_)
  · simp
    refine VC_split (fun _ => ?_) (fun h => absurd h (by simp [hn]))
    simp
    exact aPost_same0 hB rfl (nilV_refl _) (by simp) (h0 hn)
  · subst hi
    have hlt := at_lt hcm
    obtain ⟨o1, o2, o3, o4, o5⟩ := hok i m rfl hm
    have hq := fun m' r e h => h1 i c m m' r e rfl hc hm hcm (mLive_nat hm ha hcl hr) h
    have hcm' := hcm
    replace hsl := hsl i m rfl hm
    unfold Cn.av at hcm
    by_cases k1 : m.wg = 0
    · rw [k1] at hcm
      simp [hcm]
      have := hq m 0 244 (by simp [cWrite, k1])
      rw [set_same hcm'] at this
      exact aPost_same0 hB rfl (nilV_refl _) (by simp) this
    · have k1' : (m.wg == 0) = false := by simp [k1]
      by_cases k2 : s = []
      · subst k2
        simp [hcm, k1']
        have := hq m 0 244 (by simp [cWrite])
        rw [set_same hcm'] at this
        exact aPost_same0 hB rfl (nilV_refl _) (by simp) this
      · have k2' : (s == []) = false := by simp [k2]
        simp [hcm, k1', k2']
        refine granted_pc E H _ c 3 _ m.wg hcm rfl (fun _ => by simp) ?_
        obtain ⟨g, hg⟩ : ∃ g : Nat, m.wg = g := ⟨m.wg.toNat, by omega⟩
        rw [hg]
        have hm1 : m.tak.length + (s.take g).length ≤ maxLen := by unfold maxLen; have := List.length_take_le g s; have := List.length_take_le' g s; omega
        have hm2 : m.tak.length + (s.take g).length ≤ 140737488355328 := by have := List.length_take_le' g s; omega
        have e : s.take m.wg.toNat = s.take g := by rw [hg]; rfl
        have := hq { m with wg := 0, tak := m.tak ++ s.take g } (s.take g).length 0 (by simp [cWrite, k1, k2, e])
        by_cases k3 : g < s.length
        · have hl3 : (s.take g).length = g := by rw [List.length_take]; omega
          rw [hl3] at hm1 hm2 this
          simp [hs0 hlt, hs1 hlt, hs2 hlt, hs3 hlt, hs4 hlt, hs5 hlt, k3, (by omega : g ≤ s.length), hm1, hm2, bts_app]
          exact aPost_set0 hB rfl (nilV_refl _) (by simp) (by simp) this
        · have e3 : s.take g = s := List.take_of_length_le (by omega)
          rw [e3] at hm1 hm2 this
          simp [hs0 hlt, hs1 hlt, hs2 hlt, hs3 hlt, hs4 hlt, hs5 hlt, k3, hm1, hm2, bts_app]
          exact aPost_set0 hB rfl (nilV_refl _) (by simp) (by simp) this
end
end Go.Proofs.Ytgnjdfnjohgnlaa

set_option linter.unusedVariables false
set_option linter.unusedSimpArgs false
set_option linter.unusedSectionVars false
set_option maxRecDepth 100000
namespace Go.Proofs.Ytgnjdfnjohgnlaa
open Go Go.RowKit

def mWaits (m : Cn) : Bool := !m.acc && !m.rst
def mCount (ms : List Cn) (i : Nat) : Nat := (ms.take i).countP mWaits
theorem mCount_succ {ms : List Cn} {i : Nat} {m : Cn} (h : ms[i]? = some m) : mCount ms (i + 1) = mCount ms i + if mWaits m then 1 else 0 := by
  unfold mCount
  rw [List.take_add_one, h]
  simp [List.countP_append]
theorem mCount_le (ms : List Cn) (i : Nat) : mCount ms i ≤ i := Nat.le_trans List.countP_le_length (List.length_take_le _ _)
def waitInv (w : Nat) (cs : List Nat) (ms : List Cn) (H : Hp) (fr : List AV) (H' : Hp) : Prop := H' = H ∧ ∃ i : Nat, i ≤ cs.length ∧ ∃ x : Nat → AV, fr = [.ptr (some (w, 0)), x 1, x 2, .int .i64 (mCount ms i : Nat), x 4, x 5, x 6, x 7, x 8, x 9, x 10, .sl false 1 (ptrs cs), .int .i64 cs.length, .int .i64 i,
  x 14, x 15, x 16, x 17, x 18, x 19, x 20, x 21, x 22]

section
variable (E : Env) (H : Hp) (w : Option Nat) (cs : List Nat) (ms : List Cn) (Q : AV → Hp → Prop) (hw : WO H w cs ms) (hl : ms.length ≤ 4096)
include hw hl
theorem waiting_pc (hQ : Q (.int .i64 (mCount ms ms.length : Nat)) H) : PC Try.prog E 14 [wpt w] H Q := by
  refine pc_enter Try.func14 rfl [] [] (by kernel_rfl) (fun hB => ?_)
  cases w with
  | none =>
    simp [Try.ntmps14, Try.results14, List.replicate_succ, wpt]
    rw [hw.2] at hQ
    exact aPost_same0 hB rfl (nilV_refl _) (by simp) hQ
  | some w =>
    have hbx := hw.box
    have hlen := hw.len
    simp [Try.ntmps14, Try.results14, List.replicate_succ, wpt, hbx, ptrs_len]
    refine VL_go (waitInv w cs ms H) (fun fr _ => cs.length - (ai (aget fr 13)).toNat) ⟨rfl, 0, Nat.zero_le _, fr_intro (by simp [mCount])⟩ ?_
    rintro fr H' ⟨rfl, i, hi, x, rfl⟩
    by_cases h : i < cs.length
    · obtain ⟨c, hc⟩ : ∃ c, cs[i]? = some c := ⟨_, List.getElem?_eq_getElem h⟩
      obtain ⟨m, hm⟩ : ∃ m, ms[i]? = some m := ⟨_, List.getElem?_eq_getElem (by omega)⟩
      have hat := ptrs_at hc
      have hw2 : IntKind.i64.wrap ((i : Int) + 1) = i + 1 := wrap_in (by omega) (by omega)
      have hcl := mCount_le ms i
      have hw3 : IntKind.i64.wrap ((mCount ms i : Int) + 1) = mCount ms i + 1 := wrap_in (by omega) (by omega)
      have hsucc := mCount_succ hm
      simp [h, hat]
      refine waits_pc E _ c m _ (hw.conn i c m hc hm) ?_
      cases hwt : mWaits m
      · have : (!m.acc && !m.rst) = false := hwt
        rw [this]
        rw [hwt] at hsucc
        simp [hw2]
        refine Kloop_normal ?_ ?_
        rotate_left
        · simp; omega
        exact ⟨rfl, i + 1, by omega, fr_intro (by simp [hsucc])⟩
      · have : (!m.acc && !m.rst) = true := hwt
        rw [this]
        rw [hwt] at hsucc
        simp [hw2, hw3]
        refine Kloop_normal ?_ ?_
        rotate_left
        · simp; omega
        exact ⟨rfl, i + 1, by omega, fr_intro (by simp [hsucc])⟩
    · simp [h]
      have : i = ms.length := by omega
      subst this
      exact aPost_same0 hB rfl (nilV_refl _) (by simp) hQ
theorem conns_pc (hQ : Q (.int .i64 ms.length) H) : PC Try.prog E 13 [wpt w] H Q := by
  refine pc_enter Try.func13 rfl [] [] (by kernel_rfl) (fun hB => ?_)
  cases w with
  | none =>
    simp [Try.ntmps13, Try.results13, List.replicate_succ, wpt]
    rw [hw.2] at hQ
    exact aPost_same0 hB rfl (nilV_refl _) (by simp) hQ
  | some w =>
    have hbx := hw.box
    have hlen := hw.len
    simp [Try.ntmps13, Try.results13, List.replicate_succ, wpt, hbx, ptrs_len, hlen]
    exact aPost_same0 hB rfl (nilV_refl _) (by simp) hQ
end
def accInv (w : Nat) (cs : List Nat) (ms : List Cn) (H : Hp) (fr : List AV) (H' : Hp) : Prop := H' = H ∧ ∃ i : Nat, i ≤ cs.length ∧ (∀ j m, j < i → ms[j]? = some m → mWaits m = false) ∧ ∃ x : Nat → AV, fr = [.ptr (some (w, 0)), x 1, x 2, x 3, x 4, x 5, x 6, x 7, x 8, x 9, x 10, .sl false 1 (ptrs cs), .int .i64 cs.length, .int .i64 i,
  x 14, x 15, x 16, x 17, x 18, x 19, x 20, x 21, x 22, x 23, x 24]
section
variable (E : Env) (H : Hp) (w : Option Nat) (cs : List Nat) (ms : List Cn) (Q : AV → Hp → Prop) (hw : WO H w cs ms) (hl : ms.length ≤ 4096)
include hw hl
theorem accept_pc (h0 : (∀ m ∈ ms, mWaits m = false) → Q (.tup [.int .i64 (-1), .int .i64 244]) H)
    (h1 : ∀ (i c : Nat) m, (∀ j m, j < i → ms[j]? = some m → mWaits m = false) → cs[i]? = some c → ms[i]? = some m → mWaits m = true → H[c]? = some m.av → Q (.tup [.int .i64 i, .int .i64 0]) (H.set c { m with acc := true }.av)) : PC Try.prog E 15 [wpt w] H Q := by
  refine pc_enter Try.func15 rfl [] [] (by kernel_rfl) (fun hB => ?_)
  cases w with
  | none =>
    simp [Try.ntmps15, Try.results15, List.replicate_succ, wpt]
    exact aPost_same0 hB rfl (nilV_refl _) (by simp) (h0 (by rw [hw.2]; simp))
  | some w =>
    have hbx := hw.box
    have hlen := hw.len
    simp [Try.ntmps15, Try.results15, List.replicate_succ, wpt, hbx, ptrs_len]
    refine VL_go (accInv w cs ms H) (fun fr _ => cs.length - (ai (aget fr 13)).toNat) ⟨rfl, 0, Nat.zero_le _, fun j m hj => by omega, fr_intro (by simp)⟩ ?_
    rintro fr H' ⟨rfl, i, hi, hbef, x, rfl⟩
    by_cases h : i < cs.length
    · obtain ⟨c, hc⟩ : ∃ c, cs[i]? = some c := ⟨_, List.getElem?_eq_getElem h⟩
      obtain ⟨m, hm⟩ : ∃ m, ms[i]? = some m := ⟨_, List.getElem?_eq_getElem (by omega)⟩
      have hat := ptrs_at hc
      have hw2 : IntKind.i64.wrap ((i : Int) + 1) = i + 1 := wrap_in (by omega) (by omega)
      have hcm := hw.conn i c m hc hm
      simp [h, hat]
      refine waits_pc E _ c m _ hcm ?_
      cases hwt : mWaits m
      · have : (!m.acc && !m.rst) = false := hwt
        rw [this]
        simp [hw2]
        refine Kloop_normal ?_ ?_
        rotate_left
        · simp; omega
        refine ⟨rfl, i + 1, by omega, fun j m' hj hm' => ?_, fr_intro (by simp)⟩
        by_cases hji : j < i
        · exact hbef j m' hji hm'
        · obtain rfl : j = i := by omega
          rw [hm] at hm'; cases hm'; exact hwt
      · have : (!m.acc && !m.rst) = true := hwt
        rw [this]
        have hlt := at_lt hcm
        have hq := h1 i c m hbef hc hm hwt hcm
        unfold Cn.av at hcm
        simp [hcm, hs0 hlt, hs1 hlt, hs2 hlt, hs3 hlt, hs4 hlt, hs5 hlt]
        exact aPost_set0 hB rfl (nilV_refl _) (by simp) (by simp) hq
    · simp [h]
      refine aPost_same0 hB rfl (nilV_refl _) (by simp) (h0 fun m hm => ?_)
      obtain ⟨j, hj⟩ := List.getElem?_of_mem hm
      exact hbef j m (by have := (List.getElem?_eq_some_iff.1 hj).1; omega) hj
end
end Go.Proofs.Ytgnjdfnjohgnlaa

set_option linter.unusedVariables false
set_option linter.unusedSimpArgs false
set_option linter.unusedSectionVars false
set_option maxRecDepth 100000
namespace Go.Proofs.Ytgnjdfnjohgnlaa
open Go Go.RowKit

def Cn.new : Cn := { del := [], rd := 0, rg := 0, tak := [], wg := 0, acc := false, ended := false, rst := false, cls := false, ri := false, wi := false }
def Cn.line (m : Cn) : List AV := [.bool m.acc, .bool m.ended, .bool m.rst, .bool m.cls, .bool m.ri, .bool m.wi, .int .i64 m.del.length, .int .i64 m.rd, .int .i64 m.tak.length, .int .i64 m.rg, .int .i64 m.wg]
theorem new_pc (E : Env) (H : Hp) (Q : AV → Hp → Prop) (hQ : Q (.ptr (some (H.length, 0))) (H ++ [[.sl true 1 []]])) : PC Try.prog E 10 [] H Q := by
  refine pc_enter Try.func10 rfl [] [] (by kernel_rfl) (fun hB => ?_)
  simp [Try.ntmps10, Try.results10, List.replicate_succ]
  refine ⟨.ptr (some (H.length, 0)), .ptr (some (H.length, 0)), H ++ [[.sl true 1 []]], H ++ [[.sl true 1 []]], [], rfl, nilV_refl _, nilH_app H ⟨⟨.inr ⟨rfl, _, _, rfl⟩, trivial⟩, trivial⟩, by simp, by simp, ?_, by simp, hQ⟩
  intro l hl x hx
  rcases List.mem_append.1 hl with h | h
  · exact (hB l h x hx).mono (by simp)
  · simp at h; subst h; simp at hx; subst hx; simp
section
variable (E : Env) (H : Hp) (w : Option Nat) (cs : List Nat) (ms : List Cn) (Q : AV → Hp → Prop) (n : Int) (hw : WO H w cs ms) (hl : ms.length ≤ 4096)
include hw hl
theorem line_pc (h0 : ¬ (0 ≤ n ∧ n < ms.length) → Q (.tup [.agg Cn.new.line, .int .i64 240]) H) (h1 : ∀ (i : Nat) m, n = i → ms[i]? = some m → Q (.tup [.agg m.line, .int .i64 0]) H) :
    PC Try.prog E 17 [wpt w, .int .i64 n] H Q := by
  refine pc_enter Try.func17 rfl [] [] (by kernel_rfl) (fun hB => ?_)
  simp [Try.ntmps17, Try.results17, List.replicate_succ]
  have hW : ∀ J, WO (H ++ J) w cs ms := fun J => by
    cases w with
    | none => exact hw
    | some w => exact ⟨by rw [hs0 (at_lt hw.box)]; exact hw.box, hw.len, fun i c m hc hm => by rw [hs0 (at_lt (hw.conn i c m hc hm))]; exact hw.conn i c m hc hm, hw.nd⟩
  refine at_pc E _ w cs ms _ n (hW _) hl (fun hn => ?_) (fun i c m hi hc hm hcm => ?_)
  · simp
    exact aPost_same (v0 := .tup [.agg Cn.new.line, .int .i64 240]) hB (by simp [Cn.line, Cn.new]) (nilV_refl _) (by simp [Cn.line]) (h0 hn)
  · unfold Cn.av at hcm
    simp [hcm]
    exact aPost_same (v0 := .tup [.agg m.line, .int .i64 0]) hB (by simp [Cn.line]) (nilV_refl _) (by simp [Cn.line]) (h1 i m hi hm)

/-- An event that is not a connection's coming, at one connection. -/
def cEvent (m : Cn) (k i : Int) (d : List UInt8) : Option Cn :=
  if m.rst ∨ m.cls then none
  else if k = 2 then (if m.ended then none else some { m with del := m.del ++ d })
  else if k = 3 then (if m.ended then none else some { m with ended := true })
  else if k = 4 then some { m with rst := true }
  else if k = 5 then (if i < 1 then none else some { m with rg := i })
  else if k = 6 then (if i < 1 then none else some { m with wg := i })
  else none
theorem acts_pc (k : Int) (hk : 2 ≤ k ∧ k ≤ 6) (hQ : Q (.fn (if k = 2 then 42 else if k = 3 then 43 else if k = 4 then 44 else if k = 5 then 45 else 46) []) H) :
    PC Try.prog E 28 [.int .i64 k] H Q := by
  refine pc_enter Try.func28 rfl [] [] (by kernel_rfl) (fun hB => ?_)
  have hc : k = 2 ∨ k = 3 ∨ k = 4 ∨ k = 5 ∨ k = 6 := by omega
  rcases hc with rfl | rfl | rfl | rfl | rfl
  · simp [Try.ntmps28, Try.results28, List.replicate_succ]
    exact aPost_same0 hB rfl (nilV_refl _) (by simp) hQ
  · simp [Try.ntmps28, Try.results28, List.replicate_succ]
    exact aPost_same0 hB rfl (nilV_refl _) (by simp) hQ
  · simp [Try.ntmps28, Try.results28, List.replicate_succ]
    exact aPost_same0 hB rfl (nilV_refl _) (by simp) hQ
  · simp [Try.ntmps28, Try.results28, List.replicate_succ]
    exact aPost_same0 hB rfl (nilV_refl _) (by simp) hQ
  · simp [Try.ntmps28, Try.results28, List.replicate_succ]
    exact aPost_same0 hB rfl (nilV_refl _) (by simp) hQ
end
end Go.Proofs.Ytgnjdfnjohgnlaa

set_option linter.unusedVariables false
set_option linter.unusedSimpArgs false
set_option linter.unusedSectionVars false
set_option maxRecDepth 100000
namespace Go.Proofs.Ytgnjdfnjohgnlaa
open Go Go.RowKit

theorem ptrs_snoc (cs : List Nat) (c : Nat) : ptrs cs ++ [[.ptr (some (c, 0))]] = ptrs (cs ++ [c]) := by simp [ptrs]
theorem nil1r (x : AV) : nil1 x x := .inl rfl
section
variable (E : Env) (H : Hp) (w : Option Nat) (cs : List Nat) (ms : List Cn) (Q : AV → Hp → Prop) (hw : WO H w cs ms) (hl : ms.length ≤ 4096)
include hw hl
theorem WO.app (J : Hp) : WO (H ++ J) w cs ms := by
  cases w with
  | none => exact hw
  | some w => exact ⟨by rw [hs0 (at_lt hw.box)]; exact hw.box, hw.len, fun i c m hc hm => by rw [hs0 (at_lt (hw.conn i c m hc hm))]; exact hw.conn i c m hc hm, hw.nd⟩
theorem do_pc (k n i : Int) (d : List UInt8) (hsz : ∀ (j : Nat) m, n = j → ms[j]? = some m → m.del.length + d.length ≤ 140737488355328) (h0 : w = none → Q (.int .i64 240) H) (h1 : w ≠ none → ¬ (1 ≤ k ∧ k ≤ 6) → Q (.int .i64 241) H)
    (h2 : w ≠ none → k = 1 → ms.length = 4096 → Q (.int .i64 65) H) (h3 : ∀ w', w = some w' → k = 1 → ms.length < 4096 → Q (.int .i64 0) (H.set w' [.sl true 1 (ptrs (cs ++ [H.length + 1]))] ++ [[.int .i64 k, .int .i64 n, .int .i64 i, .str d], Cn.new.av]))
    (h4 : w ≠ none → 2 ≤ k ∧ k ≤ 6 → ¬ (0 ≤ n ∧ n < ms.length) → Q (.int .i64 240) H)
    (h5 : w ≠ none → 2 ≤ k ∧ k ≤ 6 → ∀ (j : Nat) m, n = j → ms[j]? = some m → cEvent m k i d = none → Q (.int .i64 241) H)
    (h6 : w ≠ none → 2 ≤ k ∧ k ≤ 6 → ∀ (j c : Nat) m m', n = j → cs[j]? = some c → ms[j]? = some m → H[c]? = some m.av → cEvent m k i d = some m' → Q (.int .i64 0) (H.set c m'.av)) :
    PC Try.prog E 11 [wpt w, evA k n i d] H Q := by
  refine pc_enter Try.func11 rfl [32] [(13, [0, 0, 0, 0, 0, 0, 0, 0, 0, 0, 0, 0, 0, 1])] (by kernel_rfl) (fun hB => ?_)
  cases w with
  | none =>
    simp [Try.ntmps11, Try.results11, List.replicate_succ, wpt, evA]
    exact aPost_same hB rfl (nilV_refl _) (by simp) (h0 rfl)
  | some w =>
    have hbx := hw.box
    have hlen := hw.len
    have hwl := at_lt hbx
    have h1 := h1 (by simp)
    have h2 := h2 (by simp)
    have h4 := h4 (by simp)
    have h5 := h5 (by simp)
    have h6 := h6 (by simp)
    by_cases k1 : k < 1
    · simp [Try.ntmps11, Try.results11, List.replicate_succ, wpt, evA, k1]
      exact aPost_same hB rfl (nilV_refl _) (by simp) (h1 (by omega))
    · by_cases k2 : 6 < k
      · simp [Try.ntmps11, Try.results11, List.replicate_succ, wpt, evA, k1, k2]
        exact aPost_same hB rfl (nilV_refl _) (by simp) (h1 (by omega))
      · by_cases k3 : k = 1
        · subst k3
          have hm1 : cs.length + 1 ≤ maxLen := by unfold maxLen; omega
          have hm2 : (cs.length + 1) * 8 ≤ 140737488355328 := by omega
          by_cases hmax : (4096 : Int) ≤ cs.length
          · simp [Try.ntmps11, Try.results11, List.replicate_succ, wpt, evA, hbx, ptrs_len, hmax, hs0 hwl]
            exact aPost_same hB rfl (nilV_refl _) (by simp) (h2 rfl (by omega))
          · simp [Try.ntmps11, Try.results11, List.replicate_succ, wpt, evA, hbx, ptrs_len, hmax, hs0 hwl, hs1 hwl, hs2 hwl, hs3 hwl, hm1, hm2]
            rw [ptrs_snoc]
            have hq := h3 w rfl rfl (by omega)
            have h0 : nil1 .nil (.sl true 1 (bts [])) := .inr ⟨rfl, _, _, rfl⟩
            refine ⟨.int .i64 0, .int .i64 0, _, _, [], rfl, nilV_refl _, nilH_app _ (show nilH _ [[.int .i64 1, .int .i64 n, .int .i64 i, .str d], Cn.new.av] from ⟨nilL_refl _, ⟨h0, nil1r _, nil1r _, h0, nil1r _, nil1r _, nil1r _, nil1r _, nil1r _, nil1r _, nil1r _, nil1r _, trivial⟩, trivial⟩), (List.append_nil _).symm, by simp, ?_, by simp, hq⟩
            intro l hl' x hx
            rcases List.mem_append.1 hl' with h | h
            · rcases List.mem_or_eq_of_mem_set h with h | h
              · exact (hB l h x hx).mono (by simp)
              · subst h
                simp at hx; subst hx
                simp only [bnd_sl']
                intro r hr y hy
                simp only [ptrs, List.mem_map, List.mem_append] at hr
                obtain ⟨c, hc, rfl⟩ := hr
                simp at hy; subst hy
                simp only [bnd_ptr', List.length_append, List.length_set]
                rcases hc with hc | hc
                · obtain ⟨j, hj⟩ := List.getElem?_of_mem hc
                  obtain ⟨m, hm⟩ : ∃ m, ms[j]? = some m := ⟨_, List.getElem?_eq_getElem (by have := (List.getElem?_eq_some_iff.1 hj).1; omega)⟩
                  have := at_lt (hw.conn j c m hj hm)
                  simp; omega
                · simp at hc; subst hc; simp
            · simp at h
              rcases h with rfl | rfl
              · simp at hx; rcases hx with rfl | rfl | rfl | rfl <;> simp
              · exact Cn.bnd _ _ x hx
        · simp [Try.ntmps11, Try.results11, List.replicate_succ, wpt, evA, k1, k2, (by simp [k3] : (k == 1) = false)]
          refine at_pc E _ (some w) cs ms _ n (WO.app H (some w) cs ms hw hl _) hl (fun hn => ?_) (fun j c m hj hc hm hcm => ?_)
          · simp
            exact aPost_same hB rfl (nilV_refl _) (by simp) (h4 (by omega) hn)
          · subst hj
            have hcm2 := hw.conn j c m hc hm
            have hlt := at_lt hcm2
            have h5 := h5 (by omega) j m rfl hm
            have h6 := h6 (by omega) j c m
            have hsz := hsz j m rfl hm
            unfold Cn.av at hcm
            cases hr : m.rst
            · cases hcl : m.cls
              · rw [hr, hcl] at hcm
                simp [hcm]
                refine acts_pc E _ (some w) cs ms _ (WO.app H (some w) cs ms hw hl _) hl k (by omega) ?_
                have hcm3 : ∀ J, (H ++ J)[c]? = some m.av := fun J => by rw [hs0 hlt]; exact hcm2
                have hc5 : k = 2 ∨ k = 3 ∨ k = 4 ∨ k = 5 ∨ k = 6 := by omega
                have fin : ∀ (m' : Cn) fr J, cEvent m k i d = some m' → ares Try.prog fr (H.set c m'.av ++ J) [ResultVar.tmp 4] = some (.int .i64 0) → aPost Try.prog [ResultVar.tmp 4] H.length Q .ret fr (H.set c m'.av ++ J) := fun m' fr J he hr =>
                  aPost_set hB hr (nilV_refl _) (Cn.bnd _ _) (by simp) (h6 m' rfl hc hm hcm2 he)
                have fin0 : ∀ fr J, cEvent m k i d = none → ares Try.prog fr (H ++ J) [ResultVar.tmp 4] = some (.int .i64 241) → aPost Try.prog [ResultVar.tmp 4] H.length Q .ret fr (H ++ J) := fun fr J he hr =>
                  aPost_same hB hr (nilV_refl _) (by simp) (h5 he)
                rcases hc5 with rfl | rfl | rfl | rfl | rfl
                · simp
                  refine data_pc E _ c m _ _ _ _ d (hcm3 _) hsz (fun he => ?_) (fun he => ?_)
                  · simp
                    exact fin0 _ _ (by simp [cEvent, hr, hcl, he]) rfl
                  · simp [hs3 hlt]
                    exact fin _ _ _ (by simp [cEvent, hr, hcl, he]) rfl
                · simp
                  refine end_pc E _ c m _ _ (hcm3 _) ?_ ⟨_, _, _, _, rfl⟩
                  cases he : m.ended
                  · simp [hs3 hlt]
                    exact fin _ _ _ (by simp [cEvent, hr, hcl, he]) rfl
                  · simp [hs3 hlt]
                    have e : H.set c { m with ended := true }.av = H := by
                      have : { m with ended := true } = m := by rw [← he]
                      rw [this]; exact set_same hcm2
                    rw [e]
                    exact fin0 _ _ (by simp [cEvent, hr, hcl, he]) rfl
                · simp
                  refine broken_pc E _ c m _ _ (hcm3 _) ?_ ⟨_, _, _, _, rfl⟩
                  simp [hs3 hlt]
                  exact fin _ _ _ (by simp [cEvent, hr, hcl]) rfl
                · simp
                  refine cread_pc E _ c m _ _ _ _ d (hcm3 _) (fun he => ?_) (fun he => ?_)
                  · simp
                    exact fin0 _ _ (by simp [cEvent, hr, hcl, he]) rfl
                  · simp [hs3 hlt]
                    exact fin _ _ _ (by simp [cEvent, hr, hcl]; omega) rfl
                · simp
                  refine cwrite_pc E _ c m _ _ _ _ d (hcm3 _) (fun he => ?_) (fun he => ?_)
                  · simp
                    exact fin0 _ _ (by simp [cEvent, hr, hcl, he]) rfl
                  · simp [hs3 hlt]
                    exact fin _ _ _ (by simp [cEvent, hr, hcl]; omega) rfl
              · rw [hr, hcl] at hcm
                simp [hcm]
                exact aPost_same hB rfl (nilV_refl _) (by simp) (h5 (by simp [cEvent, hcl]))
            · rw [hr] at hcm
              simp [hcm]
              exact aPost_same hB rfl (nilV_refl _) (by simp) (h5 (by simp [cEvent, hr]))
end
end Go.Proofs.Ytgnjdfnjohgnlaa

set_option linter.unusedVariables false
set_option linter.unusedSimpArgs false
set_option linter.unusedSectionVars false
set_option maxRecDepth 100000
namespace Go.Proofs.Ytgnjdfnjohgnlaa
open Go Go.RowKit

/-- What a call leaves of the boxes. -/
structure Up (H : Hp) (w : Option Nat) (cs : List Nat) (H' : Hp) (cs' : List Nat) : Prop where
  len : H.length ≤ H'.length
  keep : ∀ j, j < H.length → w ≠ some j → j ∉ cs → H'[j]? = H[j]?
  new : ∀ c ∈ cs', c ∈ cs ∨ H.length ≤ c
theorem Up.refl (H : Hp) (w : Option Nat) (cs : List Nat) : Up H w cs H cs := ⟨Nat.le_refl _, fun _ _ _ _ => rfl, fun _ h => .inl h⟩
theorem Up.trans {H H1 H2 : Hp} {w : Option Nat} {cs cs1 cs2 : List Nat} (h : Up H w cs H1 cs1) (k : Up H1 w cs1 H2 cs2) : Up H w cs H2 cs2 :=
  ⟨Nat.le_trans h.len k.len, fun j hj hw hc => by
    rw [k.keep j (Nat.lt_of_lt_of_le hj h.len) hw (fun hm => by rcases h.new j hm with h' | h'; exact hc h'; omega)]
    exact h.keep j hj hw hc, fun c hc => by
    rcases k.new c hc with h' | h'
    · exact h.new c h'
    · exact .inr (Nat.le_trans h.len h')⟩
theorem WO.set {H : Hp} {w : Option Nat} {cs : List Nat} {ms : List Cn} (h : WO H w cs ms) {i c : Nat} {m : Cn} (m' : Cn) (hc : cs[i]? = some c) (hm : ms[i]? = some m) : WO (H.set c m'.av) w cs (ms.set i m') ∧ Up H w cs (H.set c m'.av) cs := by
  cases w with
  | none => rw [h.1] at hc; cases hc
  | some w =>
    have hnd := List.nodup_cons.1 h.nd
    have hlt := at_lt (h.conn i c m hc hm)
    refine ⟨⟨?_, by rw [List.length_set]; exact h.len, fun j c' m'' hc' hm' => ?_, h.nd⟩, by simp, fun j hj hw hcs => ?_, fun _ h => .inl h⟩
    · rw [List.getElem?_set_ne (fun e => hnd.1 (by rw [← e]; exact mem_at hc))]; exact h.box
    · by_cases hij : i = j
      · subst hij
        rw [hc] at hc'; cases hc'
        rw [List.getElem?_set_self (List.getElem?_eq_some_iff.1 hm).1] at hm'
        cases hm'
        exact List.getElem?_set_self hlt
      · rw [List.getElem?_set_ne hij] at hm'
        have hne : c ≠ c' := fun e => hij (by
          subst e
          exact (List.getElem?_inj (List.getElem?_eq_some_iff.1 hc).1 hnd.2).1 (hc.trans hc'.symm))
        rw [List.getElem?_set_ne hne]
        exact h.conn j c' m'' hc' hm'
    · rw [List.getElem?_set_ne (fun e => hcs (by rw [← e]; exact mem_at hc))]
theorem WO.connect {H : Hp} {w : Nat} {cs : List Nat} {ms : List Cn} (h : WO H (some w) cs ms) (ev : List AV) :
    WO (H.set w [.sl true 1 (ptrs (cs ++ [H.length + 1]))] ++ [ev, Cn.new.av]) (some w) (cs ++ [H.length + 1]) (ms ++ [Cn.new]) ∧ Up H (some w) cs (H.set w [.sl true 1 (ptrs (cs ++ [H.length + 1]))] ++ [ev, Cn.new.av]) (cs ++ [H.length + 1]) := by
  have hnd := List.nodup_cons.1 h.nd
  have hw := at_lt h.box
  have hlen := h.len
  have hcl : ∀ c ∈ cs, c < H.length := fun c hc => by
    obtain ⟨j, hj⟩ := List.getElem?_of_mem hc
    obtain ⟨m, hm⟩ : ∃ m, ms[j]? = some m := ⟨_, List.getElem?_eq_getElem (by have := (List.getElem?_eq_some_iff.1 hj).1; omega)⟩
    exact at_lt (h.conn j c m hj hm)
  refine ⟨⟨by rw [hs1 hw], by simp [hlen], fun j c m hc hm => ?_, ?_⟩, by simp, fun j hj hw' hcs => ?_, fun c hc => ?_⟩
  · by_cases hj : j < cs.length
    · rw [List.getElem?_append_left hj] at hc
      rw [List.getElem?_append_left (by omega)] at hm
      have := h.conn j c m hc hm
      rw [List.getElem?_append_left (by rw [List.length_set]; exact at_lt this), List.getElem?_set_ne (fun e => hnd.1 (by rw [e]; exact mem_at hc))]
      exact this
    · have hj' : j = cs.length := by have := (List.getElem?_eq_some_iff.1 hc).1; simp at this; omega
      subst hj'
      simp at hc
      rw [hlen] at hm
      simp at hm
      subst hc; subst hm
      rw [List.getElem?_append_right (by simp)]
      simp
  · rw [List.nodup_cons]
    refine ⟨fun hm => ?_, ?_⟩
    · rcases List.mem_append.1 hm with hm | hm
      · exact hnd.1 hm
      · simp at hm; omega
    · rw [List.nodup_append]
      refine ⟨hnd.2, by simp, fun a ha b hb => ?_⟩
      simp at hb
      have := hcl a ha
      omega
  · rw [List.getElem?_append_left (by simpa using hj), List.getElem?_set_ne (fun e => hw' (by rw [e]))]
  · rcases List.mem_append.1 hc with hc | hc
    · exact .inl hc
    · simp at hc; right; omega

/-- An event. -/
def mDo (none : Bool) (ms : List Cn) (k n i : Int) (d : List UInt8) : List Cn × Int :=
  if none then (ms, 240) else if ¬ (1 ≤ k ∧ k ≤ 6) then (ms, 241) else if k = 1 then (if ms.length = 4096 then (ms, 65) else (ms ++ [Cn.new], 0))
  else if 0 ≤ n ∧ n < ms.length then match ms[n.toNat]? with
    | some m => (match cEvent m k i d with
      | some m' => (ms.set n.toNat m', 0)
      | .none => (ms, 241))
    | .none => (ms, 240) else (ms, 240)
def mAccept (ms : List Cn) : List Cn × Int × Int := match ms.findIdx? mWaits with
  | some i => (match ms[i]? with
    | some m => (ms.set i { m with acc := true }, i, 0)
    | none => (ms, -1, 244))
  | none => (ms, -1, 244)
def mInterest (ms : List Cn) (n : Int) (r w : Bool) : List Cn × Int := if mLive ms n = 0 then match ms[n.toNat]? with
  | some m => (ms.set n.toNat { m with ri := r, wi := w }, 0)
  | none => (ms, 240) else (ms, mLive ms n)
def mRead (ms : List Cn) (n k : Int) : List Cn × List UInt8 × Bool × Int := if mLive ms n = 0 then match ms[n.toNat]? with
  | some m => (ms.set n.toNat (cRead m k).1, (cRead m k).2)
  | none => (ms, [], false, 240) else (ms, [], false, mLive ms n)
def mWrite (ms : List Cn) (n : Int) (s : List UInt8) : List Cn × Nat × Int := if mLive ms n = 0 then match ms[n.toNat]? with
  | some m => (ms.set n.toNat (cWrite m s).1, (cWrite m s).2)
  | none => (ms, 0, 240) else (ms, 0, mLive ms n)
def mClose (ms : List Cn) (n : Int) : List Cn × Int := if mServed ms n = 0 then match ms[n.toNat]? with
  | some m => (ms.set n.toNat { m with cls := true, ri := false, wi := false, rg := 0, wg := 0 }, 0)
  | none => (ms, 240) else (ms, mServed ms n)

section
variable (E : Env) (H : Hp) (w : Option Nat) (cs : List Nat) (ms : List Cn) (Q : AV → Hp → Prop) (hw : WO H w cs ms) (hl : ms.length ≤ 4096)
include hw hl
theorem do2_pc (k n i : Int) (d : List UInt8) (hsz : ∀ (j : Nat) m, n = j → ms[j]? = some m → m.del.length + d.length ≤ 140737488355328)
    (hQ : ∀ H' cs', WO H' w cs' (mDo w.isNone ms k n i d).1 → Up H w cs H' cs' → Q (.int .i64 (mDo w.isNone ms k n i d).2) H') :
    PC Try.prog E 11 [wpt w, evA k n i d] H Q := by
  have same : ∀ e, mDo w.isNone ms k n i d = (ms, e) → Q (.int .i64 e) H := fun e he => by
    have := hQ H cs
    rw [he] at this
    exact this hw (Up.refl _ _ _)
  have hsome : w ≠ none → w.isNone = false := fun h => by cases w <;> simp_all
  refine do_pc E H w cs ms Q hw hl k n i d hsz (fun h => same _ (by subst h; simp [mDo])) (fun h hk => same _ (by simp [mDo, hsome h, hk])) (fun h hk hm => same _ (by simp [mDo, hsome h, hk, hm])) (fun w' hw' hk hm => ?_)
    (fun h hk hn => same _ ?_) (fun h hk j m hj hm he => same _ ?_) (fun h hk j c m m' hj hc hm hcm he => ?_)
  · subst hw'
    have e : mDo (some w').isNone ms k n i d = (ms ++ [Cn.new], 0) := by
      have hne : ¬ ms.length = 4096 := by omega
      simp [mDo, hk, hne]
    have := hQ _ _ (by rw [e]; exact (hw.connect _).1) (hw.connect [.int .i64 k, .int .i64 n, .int .i64 i, .str d]).2
    rw [e] at this
    exact this
  · have h1 : 1 ≤ k ∧ k ≤ 6 := by omega
    have h2 : ¬ k = 1 := by omega
    simp only [mDo, hsome h, h1, h2, hn, Bool.false_eq_true, not_true_eq_false, and_self, if_false]
  · subst hj
    have h1 : 1 ≤ k ∧ k ≤ 6 := by omega
    have h2 : ¬ k = 1 := by omega
    have h3 : 0 ≤ (j : Int) ∧ (j : Int) < ms.length := by have := (List.getElem?_eq_some_iff.1 hm).1; omega
    simp only [mDo, hsome h, h1, h2, h3, Bool.false_eq_true, not_true_eq_false, and_self, if_false, if_true, Int.toNat_natCast, hm, he]
  · subst hj
    have h1 : 1 ≤ k ∧ k ≤ 6 := by omega
    have h2 : ¬ k = 1 := by omega
    have h3 : 0 ≤ (j : Int) ∧ (j : Int) < ms.length := by have := (List.getElem?_eq_some_iff.1 hm).1; omega
    have e : mDo w.isNone ms k j i d = (ms.set j m', 0) := by simp only [mDo, hsome h, h1, h2, h3, Bool.false_eq_true, not_true_eq_false, and_self, if_false, if_true, Int.toNat_natCast, hm, he]
    have := hQ _ _ (by rw [e]; exact (hw.set m' hc hm).1) (hw.set m' hc hm).2
    rw [e] at this
    exact this
theorem accept2_pc (hQ : ∀ H' cs', WO H' w cs' (mAccept ms).1 → Up H w cs H' cs' → Q (.tup [.int .i64 (mAccept ms).2.1, .int .i64 (mAccept ms).2.2]) H') : PC Try.prog E 15 [wpt w] H Q := by
  refine accept_pc E H w cs ms Q hw hl (fun h => ?_) (fun i c m hb hc hm hwt hcm => ?_)
  · have e : mAccept ms = (ms, -1, 244) := by
      unfold mAccept
      rw [List.findIdx?_eq_none_iff.2 h]
    have := hQ H cs (by rw [e]; exact hw) (Up.refl _ _ _)
    rw [e] at this; exact this
  · have e : mAccept ms = (ms.set i { m with acc := true }, (i : Int), 0) := by
      unfold mAccept
      have : ms.findIdx? mWaits = some i := by
        rw [List.findIdx?_eq_some_iff_getElem]
        obtain ⟨hlt, hg⟩ := List.getElem?_eq_some_iff.1 hm
        refine ⟨hlt, by rw [hg]; exact hwt, fun j hj => ?_⟩
        have := hb j ms[j] hj (List.getElem?_eq_getElem (by omega))
        simp [this]
      rw [this]
      simp only [hm]
    have := hQ _ _ (by rw [e]; exact (hw.set { m with acc := true } hc hm).1) (hw.set _ hc hm).2
    rw [e] at this; exact this
variable (n : Int)
theorem interest2_pc (r i' : Bool) (hQ : ∀ H' cs', WO H' w cs' (mInterest ms n r i').1 → Up H w cs H' cs' → Q (.int .i64 (mInterest ms n r i').2) H') :
    PC Try.prog E 16 [wpt w, .int .i64 n, .bool r, .bool i'] H Q := by
  refine interest_pc E H w cs ms Q n hw hl r i' (fun h => ?_) (fun i c m hi hc hm hcm he => ?_)
  · have e : mInterest ms n r i' = (ms, mLive ms n) := by unfold mInterest; rw [if_neg h]
    have := hQ H cs (by rw [e]; exact hw) (Up.refl _ _ _)
    rw [e] at this; exact this
  · subst hi
    have e : mInterest ms i r i' = (ms.set i { m with ri := r, wi := i' }, 0) := by unfold mInterest; rw [if_pos he, Int.toNat_natCast, hm]
    have := hQ _ _ (by rw [e]; exact (hw.set { m with ri := r, wi := i' } hc hm).1) (hw.set _ hc hm).2
    rw [e] at this; exact this
theorem close2_pc (hQ : ∀ H' cs', WO H' w cs' (mClose ms n).1 → Up H w cs H' cs' → Q (.int .i64 (mClose ms n).2) H') :
    PC Try.prog E 20 [wpt w, .int .i64 n] H Q := by
  refine close_pc E H w cs ms Q n hw hl (fun h => ?_) (fun i c m hi hc hm hcm he => ?_)
  · have e : mClose ms n = (ms, mServed ms n) := by unfold mClose; rw [if_neg h]
    have := hQ H cs (by rw [e]; exact hw) (Up.refl _ _ _)
    rw [e] at this; exact this
  · subst hi
    have e : mClose ms i = (ms.set i { m with cls := true, ri := false, wi := false, rg := 0, wg := 0 }, 0) := by unfold mClose; rw [if_pos he, Int.toNat_natCast, hm]
    have := hQ _ _ (by rw [e]; exact (hw.set { m with cls := true, ri := false, wi := false, rg := 0, wg := 0 } hc hm).1) (hw.set _ hc hm).2
    rw [e] at this; exact this
theorem read2_pc (k : Int) (hok : ∀ (i : Nat) m, n = i → ms[i]? = some m → m.ok) (hQ : ∀ H' cs', WO H' w cs' (mRead ms n k).1 → Up H w cs H' cs' → Q (.tup [.str (mRead ms n k).2.1, .bool (mRead ms n k).2.2.1, .int .i64 (mRead ms n k).2.2.2]) H') :
    PC Try.prog E 18 [wpt w, .int .i64 n, .int .i64 k] H Q := by
  refine read_pc E H w cs ms Q n hw hl k hok (fun h => ?_) (fun i c m m' s b er hi hc hm hcm he hr => ?_)
  · have e : mRead ms n k = (ms, [], false, mLive ms n) := by unfold mRead; rw [if_neg h]
    have := hQ H cs (by rw [e]; exact hw) (Up.refl _ _ _)
    rw [e] at this; exact this
  · subst hi
    have e : mRead ms i k = (ms.set i m', s, b, er) := by unfold mRead; rw [if_pos he, Int.toNat_natCast, hm]; dsimp only; rw [hr]
    have := hQ _ _ (by rw [e]; exact (hw.set m' hc hm).1) (hw.set _ hc hm).2
    rw [e] at this; exact this
theorem write2_pc (s : List UInt8) (hsl : ∀ (i : Nat) m, n = i → ms[i]? = some m → m.tak.length + s.length ≤ 140737488355328) (hok : ∀ (i : Nat) m, n = i → ms[i]? = some m → m.ok) (hQ : ∀ H' cs', WO H' w cs' (mWrite ms n s).1 → Up H w cs H' cs' → Q (.tup [.int .i64 (mWrite ms n s).2.1, .int .i64 (mWrite ms n s).2.2]) H') :
    PC Try.prog E 19 [wpt w, .int .i64 n, .str s] H Q := by
  refine write_pc E H w cs ms Q n hw hl s hsl hok (fun h => ?_) (fun i c m m' r er hi hc hm hcm he hr => ?_)
  · have e : mWrite ms n s = (ms, 0, mLive ms n) := by unfold mWrite; rw [if_neg h]
    have := hQ H cs (by rw [e]; exact hw) (Up.refl _ _ _)
    rw [e] at this; exact this
  · subst hi
    have e : mWrite ms i s = (ms.set i m', r, er) := by unfold mWrite; rw [if_pos he, Int.toNat_natCast, hm]; dsimp only; rw [hr]
    have := hQ _ _ (by rw [e]; exact (hw.set m' hc hm).1) (hw.set _ hc hm).2
    rw [e] at this; exact this
end
end Go.Proofs.Ytgnjdfnjohgnlaa

set_option linter.unusedVariables false
set_option linter.unusedSimpArgs false
set_option linter.unusedSectionVars false
set_option maxRecDepth 100000
namespace Go.Proofs.Ytgnjdfnjohgnlaa
open Go Go.RowKit

theorem up_drop {H H' : Hp} (h : H.length ≤ H'.length) (k : ∀ j, j < H.length → H'[j]? = H[j]?) : H' = H ++ H'.drop H.length := by
  refine List.ext_getElem? fun j => ?_
  by_cases hj : j < H.length
  · rw [List.getElem?_append_left hj, k j hj]
  · rw [List.getElem?_append_right (by omega), List.getElem?_drop]; congr 1; omega
theorem WO.new (H : Hp) : WO (H ++ [[.sl true 1 []]]) (some H.length) [] [] := ⟨by simp [ptrs], rfl, fun i c m h => by simp at h, by simp⟩
/-- Where a law ends: what it has made is dropped. -/
theorem aPost_law {P : Program} {rs : List ResultVar} {Q : AV → Hp → Prop} {fr : List AV} {H H' : Hp} {v0 : AV} (hB : BndH H.length H) (hl : H.length ≤ H'.length) (hk : ∀ j, j < H.length → H'[j]? = H[j]?) (h1 : ares P fr H' rs = some v0) (h5 : Bnd H.length v0) (h6 : Q v0 H) :
    aPost P rs H.length Q .ret fr H' := by
  have e := up_drop hl hk
  rw [e] at h1 ⊢
  exact aPost_same hB h1 (nilV_refl _) h5 h6

theorem kind_pc (E : Env) (H : Hp) (Q : AV → Hp → Prop) (k n : Int) (hn : 0 < n ∧ n ≤ 4611686018427387904) (hQ : Q (.int .i64 (k % n)) H) : PC Try.prog E 12 [.int .i64 k, .int .i64 n] H Q := by
  refine pc_enter Try.func12 rfl [] [] (by kernel_rfl) (fun hB => ?_)
  have hne : ¬ n = 0 := by omega
  have h1 : -n < k.tmod n ∧ k.tmod n < n := ⟨by have := Int.lt_tmod_of_pos k hn.1; omega, Int.tmod_lt_of_pos k hn.1⟩
  have hw1 : IntKind.i64.wrap (k.tmod n) = k.tmod n := wrap_in (by omega) (by omega)
  have hw2 : IntKind.i64.wrap (k.tmod n + n) = k.tmod n + n := wrap_in (by omega) (by omega)
  have e : (k.tmod n + n).tmod n = k % n := by
    rw [Int.tmod_eq_emod_of_nonneg (by omega), Int.add_emod_right]
    have hd : k = n * (k.tdiv n) + k.tmod n := (Int.mul_tdiv_add_tmod k n).symm
    conv => rhs; rw [hd]
    rw [Int.mul_add_emod_self_left]
  have h2 : 0 ≤ k % n ∧ k % n < n := ⟨Int.emod_nonneg _ hne, Int.emod_lt_of_pos _ hn.1⟩
  have hw3 : IntKind.i64.wrap (k % n) = k % n := wrap_in (by omega) (by omega)
  simp [Try.ntmps12, Try.results12, List.replicate_succ, hne, hw1, hw2, e, hw3]
  exact aPost_same0 hB rfl (nilV_refl _) (by simp) hQ

theorem awake_pc (E : Env) (H : Hp) (Q : AV → Hp → Prop) (hQ : Q (.bool true) H) : PC Try.prog E 9 [] H Q := by
  refine pc_enter Try.func9 rfl [] [] (by kernel_rfl) (fun hB => ?_)
  simp [Try.ntmps9, Try.results9, List.replicate_succ]
  refine new_pc E H _ ?_
  simp
  refine do2_pc E _ (some H.length) [] [] _ (WO.new H) (by simp) 1 0 0 [] (fun j m _ h => by simp at h) (fun H1 cs1 hw1 hu1 => ?_)
  have e1 : mDo false [] 1 0 0 [] = ([Cn.new], 0) := rfl
  change WO _ _ _ (Prod.fst (mDo false [] 1 0 0 [])) at hw1
  rw [e1] at hw1
  simp [e1]
  refine do2_pc E _ (some H.length) cs1 [Cn.new] _ hw1 (by simp) 2 0 0 [97] (fun j m _ h => by cases j <;> simp at h; subst h; simp [Cn.new]) (fun H2 cs2 hw2 hu2 => ?_)
  have e2 : mDo false [Cn.new] 2 0 0 [97] = ([{ Cn.new with del := [97] }], 0) := rfl
  change WO _ _ _ (Prod.fst (mDo false [Cn.new] 2 0 0 [97])) at hw2
  rw [e2] at hw2
  simp [e2]
  refine accept2_pc E _ (some H.length) cs2 _ _ hw2 (by simp) (fun H3 cs3 hw3 hu3 => ?_)
  have e3 : mAccept [{ Cn.new with del := [97] }] = ([{ Cn.new with del := [97], acc := true }], 0, 0) := rfl
  change WO _ _ _ (Prod.fst (mAccept [{ Cn.new with del := [97] }])) at hw3
  rw [e3] at hw3
  simp [e3]
  refine read2_pc E _ (some H.length) cs3 _ _ hw3 (by simp) 0 1 (fun j m _ h => by cases j <;> simp at h; subst h; simp [Cn.ok, Cn.new]) (fun H4 cs4 hw4 hu4 => ?_)
  have e4 : mRead [{ Cn.new with del := [97], acc := true }] 0 1 = ([{ Cn.new with del := [97], acc := true }], [], false, 244) := rfl
  change WO _ _ _ (Prod.fst (mRead [{ Cn.new with del := [97], acc := true }] 0 1)) at hw4
  rw [e4] at hw4
  simp [e4]
  refine do2_pc E _ (some H.length) cs4 _ _ hw4 (by simp) 5 0 5 [] (fun j m _ h => by cases j <;> simp at h; subst h; simp [Cn.new]) (fun H5 cs5 hw5 hu5 => ?_)
  have e5 : mDo false [{ Cn.new with del := [97], acc := true }] 5 0 5 [] = ([{ Cn.new with del := [97], acc := true, rg := 5 }], 0) := rfl
  change WO _ _ _ (Prod.fst (mDo false [{ Cn.new with del := [97], acc := true }] 5 0 5 [])) at hw5
  rw [e5] at hw5
  simp [e5]
  refine read2_pc E _ (some H.length) cs5 _ _ hw5 (by simp) 0 9 (fun j m _ h => by cases j <;> simp at h; subst h; simp [Cn.ok, Cn.new]) (fun H6 cs6 hw6 hu6 => ?_)
  have e6 : mRead [{ Cn.new with del := [97], acc := true, rg := 5 }] 0 9 = ([{ Cn.new with del := [97], acc := true, rd := 1 }], [97], false, 0) := rfl
  change WO _ _ _ (Prod.fst (mRead [{ Cn.new with del := [97], acc := true, rg := 5 }] 0 9)) at hw6
  rw [e6] at hw6
  simp [e6]
  have hu := ((((hu1.trans hu2).trans hu3).trans hu4).trans hu5).trans hu6
  have hlen := hu.len
  refine aPost_law hB (by simp at hlen; omega) (fun j hj => ?_) rfl (by simp) hQ
  rw [hu.keep j (by simp; omega) (by simp; omega) (by simp), List.getElem?_append_left hj]
end Go.Proofs.Ytgnjdfnjohgnlaa

set_option linter.unusedVariables false
set_option linter.unusedSimpArgs false
set_option linter.unusedSectionVars false
set_option maxRecDepth 100000
namespace Go.Proofs.Ytgnjdfnjohgnlaa
open Go Go.RowKit

def rdyRow (i : Int) (a r w b : Bool) : List AV := [.int .i64 i, .bool a, .bool r, .bool w, .bool b]
/-- What the poller tells of a connection. -/
def rdy (i : Nat) (m : Cn) : List (List AV) := if m.acc = false ∨ m.cls = true then [] else
  let b := m.rst
  let r := !b && m.ri && decide (0 < m.rg)
  let w := !b && m.wi && decide (0 < m.wg)
  if b || r || w then [rdyRow i false r w b] else []
def rdyTo (ms : List Cn) : Nat → List (List AV)
  | 0 => []
  | i + 1 => rdyTo ms i ++ (match ms[i]? with | some m => rdy i m | none => [])
def mReady (ms : List Cn) : List (List AV) := (if 0 < mCount ms ms.length then [rdyRow (-1) true false false false] else []) ++ rdyTo ms ms.length
theorem rdy_len (i : Nat) (m : Cn) : (rdy i m).length ≤ 1 := by
  unfold rdy
  split
  · simp
  · dsimp only; split <;> simp
theorem rdyTo_len (ms : List Cn) : ∀ i, (rdyTo ms i).length ≤ i
  | 0 => by simp [rdyTo]
  | i + 1 => by
    have := rdyTo_len ms i
    rw [rdyTo, List.length_append]
    cases ms[i]? with
    | none => simp; omega
    | some m => have := rdy_len i m; simp only; omega
theorem rdy_bnd (N : Nat) (i : Nat) (m : Cn) : ∀ r ∈ rdy i m, ∀ x ∈ r, Bnd N x := by
  unfold rdy
  split
  · simp
  · dsimp only
    split <;> simp [rdyRow]
theorem rdyTo_bnd (N : Nat) (ms : List Cn) : ∀ i, ∀ r ∈ rdyTo ms i, ∀ x ∈ r, Bnd N x
  | 0 => by simp [rdyTo]
  | i + 1 => by
    intro r hr x hx
    rw [rdyTo] at hr
    rcases List.mem_append.1 hr with h | h
    · exact rdyTo_bnd N ms i r h x hx
    · split at h
      · exact rdy_bnd N i _ r h x hx
      · cases h
def rdyInv (w : Nat) (cs : List Nat) (ms : List Cn) (R0 : List (List AV)) (H : Hp) (fr : List AV) (H' : Hp) : Prop := ∃ J, H' = H ++ J ∧ ∃ i : Nat, i ≤ cs.length ∧ ∃ rows, rows = R0 ++ rdyTo ms i ∧ ∃ x : Nat → AV, fr = [.ptr (some (w, 0)), x 1, x 2, .sl true 5 rows, x 4, x 5, x 6, x 7, x 8, x 9, x 10, x 11, x 12, x 13, x 14, x 15, x 16, x 17, x 18, .sl false 1 (ptrs cs), .int .i64 cs.length, .int .i64 i, x 22, x 23, x 24, x 25, x 26, x 27, x 28, x 29, x 30, x 31, x 32, x 33, x 34, x 35, x 36, x 37, x 38, x 39, x 40, x 41, x 42, x 43, x 44, x 45, x 46, x 47, x 48, x 49, x 50, x 51, x 52, x 53, x 54, x 55, x 56, x 57, x 58, x 59, x 60, x 61, x 62, x 63, x 64, x 65, x 66, x 67, x 68, x 69, x 70, x 71, x 72, x 73, x 74, x 75, x 76, x 77, x 78, x 79, x 80, x 81]
section
variable (E : Env) (H : Hp) (w : Option Nat) (cs : List Nat) (ms : List Cn) (Q : AV → Hp → Prop) (hw : WO H w cs ms) (hl : ms.length ≤ 4096)
include hw hl
set_option maxHeartbeats 8000000 in
theorem ready_pc (hQ : Q (.sl false 5 (mReady ms)) H) : PC Try.prog E 23 [wpt w] H Q := by
  cases w with
  | none =>
    refine pc_enter Try.func23 rfl [12, 76] [] (by kernel_rfl) (fun hB => ?_)
    simp [Try.ntmps23, Try.results23, List.replicate_succ, wpt]
    have e : mReady ms = [] := by rw [hw.2]; rfl
    rw [e] at hQ
    exact aPost_same0 hB rfl (nilV_nil false 5) (by simp) hQ
  | some w =>
    have hbx := hw.box
    have hlen := hw.len
    refine pc_enter Try.func23 rfl [12, 76] [] (by kernel_rfl) (fun hB => ?_)
    simp [Try.ntmps23, Try.results23, List.replicate_succ, wpt]
    refine waiting_pc E H (some w) cs ms _ hw hl ?_
    have hm1 : 1 ≤ maxLen := by unfold maxLen; omega
    obtain ⟨R0, hR0, hR1, hR2⟩ : ∃ R0, mReady ms = R0 ++ rdyTo ms ms.length ∧ R0.length ≤ 1 ∧ ∀ r ∈ R0, ∀ x ∈ r, Bnd H.length x := ⟨_, rfl, by split <;> simp, by split <;> simp [rdyRow]⟩
    by_cases hc : 0 < mCount ms ms.length
    · have e0 : R0 = [rdyRow (-1) true false false false] := by
        have : mReady ms = [rdyRow (-1) true false false false] ++ rdyTo ms ms.length := by unfold mReady; rw [if_pos hc]
        rw [hR0] at this; exact List.append_cancel_right this
      simp [hc, hbx, ptrs_len, hm1]
      refine VL_go (rdyInv w cs ms R0 H) (fun fr _ => cs.length - (ai (aget fr 21)).toNat) ⟨[], by simp, 0, by omega, _, rfl, fr_intro (by simp [e0, rdyTo, rdyRow])⟩ ?_
      clear e0
      rintro fr H' ⟨J, rfl, i, hi, rows, hrows, x, rfl⟩
      by_cases h : i < cs.length
      · obtain ⟨c, hcc⟩ : ∃ c, cs[i]? = some c := ⟨_, List.getElem?_eq_getElem h⟩
        obtain ⟨m, hm⟩ : ∃ m, ms[i]? = some m := ⟨_, List.getElem?_eq_getElem (by omega)⟩
        have hat := ptrs_at hcc
        have hw2 : IntKind.i64.wrap ((i : Int) + 1) = i + 1 := wrap_in (by omega) (by omega)
        have hcm := hw.conn i c m hcc hm
        have hlt := at_lt hcm
        have hstep : rdyTo ms (i + 1) = rdyTo ms i ++ rdy i m := by rw [rdyTo, hm]
        have hrl : rows.length ≤ i + 1 := by rw [hrows, List.length_append]; have := rdyTo_len ms i; omega
        have hm2 : rows.length + 1 ≤ maxLen := by unfold maxLen; omega
        have hm3 : (rows.length + 1) * 16 ≤ 140737488355328 := by omega
        unfold Cn.av at hcm
        cases ha : m.acc
        · rw [ha] at hcm
          have hr : rdy i m = [] := by simp [rdy, ha]
          simp [h, hat, hs0 hlt, hcm, hw2]
          refine Kloop_normal ?_ ?_
          rotate_left
          · simp; omega
          exact ⟨J, rfl, i + 1, by omega, rows, by rw [hstep, hr, List.append_nil]; exact hrows, fr_intro (by simp)⟩
        · cases hcl : m.cls
          · cases hrs : m.rst
            · have key : ∀ (r wr : Bool), r = (m.ri && decide (0 < m.rg)) → wr = (m.wi && decide (0 < m.wg)) → rdy i m = if r || wr then [rdyRow i false r wr false] else [] := by
                rintro r wr rfl rfl
                unfold rdy
                rw [if_neg (by simp [ha, hcl]), hrs]
                simp
              cases hri : m.ri <;> cases hwi : m.wi <;> by_cases hg : 0 < m.rg <;> by_cases hg2 : 0 < m.wg <;> rw [ha, hcl, hrs, hri, hwi] at hcm <;> rw [hri, hwi] at key <;>
                (have hr := key _ _ rfl rfl
                 simp [hg, hg2] at hr
                 simp [h, hat, hs0 hlt, hcm, hw2, hm2, hm3, hg, hg2]
                 refine Kloop_normal ?_ ?_
                 rotate_left
                 · simp; omega
                 exact ⟨_, rfl, i + 1, by omega, rows ++ rdy i m, by rw [hstep, ← List.append_assoc, ← hrows], fr_intro (by simp [hr, rdyRow])⟩)
            · rw [ha, hcl, hrs] at hcm
              have hr : rdy i m = [rdyRow i false false false true] := by simp [rdy, ha, hcl, hrs]
              simp [h, hat, hs0 hlt, hcm, hw2, hm2, hm3]
              refine Kloop_normal ?_ ?_
              rotate_left
              · simp; omega
              exact ⟨_, rfl, i + 1, by omega, rows ++ rdy i m, by rw [hstep, ← List.append_assoc, ← hrows], fr_intro (by simp [hr, rdyRow])⟩
          · rw [ha, hcl] at hcm
            have hr : rdy i m = [] := by simp [rdy, hcl]
            simp [h, hat, hs0 hlt, hcm, hw2]
            refine Kloop_normal ?_ ?_
            rotate_left
            · simp; omega
            exact ⟨J, rfl, i + 1, by omega, rows, by rw [hstep, hr, List.append_nil]; exact hrows, fr_intro (by simp)⟩
      · simp [h]
        have : i = ms.length := by omega
        subst this
        rw [hR0, ← hrows] at hQ
        refine aPost_same hB rfl (nilV_refl _) ?_ hQ
        rw [hrows]
        refine .sl _ _ _ ?_
        intro r hr y hy
        rcases List.mem_append.1 hr with hr | hr
        · exact hR2 r hr y hy
        · exact rdyTo_bnd _ ms _ r hr y hy
    · have e0 : R0 = [] := by
        have : mReady ms = [] ++ rdyTo ms ms.length := by unfold mReady; rw [if_neg hc]
        rw [hR0] at this; exact List.append_cancel_right this
      simp [hc, hbx, ptrs_len]
      refine VL_nil 3 5 (by rfl) ?_
      simp only [List.set_cons_succ, List.set_cons_zero]
      refine VL_go (rdyInv w cs ms R0 H) (fun fr _ => cs.length - (ai (aget fr 21)).toNat) ⟨[], by simp, 0, by omega, _, rfl, fr_intro (by simp [e0, rdyTo, rdyRow])⟩ ?_
      clear e0
      rintro fr H' ⟨J, rfl, i, hi, rows, hrows, x, rfl⟩
      by_cases h : i < cs.length
      · obtain ⟨c, hcc⟩ : ∃ c, cs[i]? = some c := ⟨_, List.getElem?_eq_getElem h⟩
        obtain ⟨m, hm⟩ : ∃ m, ms[i]? = some m := ⟨_, List.getElem?_eq_getElem (by omega)⟩
        have hat := ptrs_at hcc
        have hw2 : IntKind.i64.wrap ((i : Int) + 1) = i + 1 := wrap_in (by omega) (by omega)
        have hcm := hw.conn i c m hcc hm
        have hlt := at_lt hcm
        have hstep : rdyTo ms (i + 1) = rdyTo ms i ++ rdy i m := by rw [rdyTo, hm]
        have hrl : rows.length ≤ i + 1 := by rw [hrows, List.length_append]; have := rdyTo_len ms i; omega
        have hm2 : rows.length + 1 ≤ maxLen := by unfold maxLen; omega
        have hm3 : (rows.length + 1) * 16 ≤ 140737488355328 := by omega
        unfold Cn.av at hcm
        cases ha : m.acc
        · rw [ha] at hcm
          have hr : rdy i m = [] := by simp [rdy, ha]
          simp [h, hat, hs0 hlt, hcm, hw2]
          refine Kloop_normal ?_ ?_
          rotate_left
          · simp; omega
          exact ⟨J, rfl, i + 1, by omega, rows, by rw [hstep, hr, List.append_nil]; exact hrows, fr_intro (by simp)⟩
        · cases hcl : m.cls
          · cases hrs : m.rst
            · have key : ∀ (r wr : Bool), r = (m.ri && decide (0 < m.rg)) → wr = (m.wi && decide (0 < m.wg)) → rdy i m = if r || wr then [rdyRow i false r wr false] else [] := by
                rintro r wr rfl rfl
                unfold rdy
                rw [if_neg (by simp [ha, hcl]), hrs]
                simp
              cases hri : m.ri <;> cases hwi : m.wi <;> by_cases hg : 0 < m.rg <;> by_cases hg2 : 0 < m.wg <;> rw [ha, hcl, hrs, hri, hwi] at hcm <;> rw [hri, hwi] at key <;>
                (have hr := key _ _ rfl rfl
                 simp [hg, hg2] at hr
                 simp [h, hat, hs0 hlt, hcm, hw2, hm2, hm3, hg, hg2]
                 refine Kloop_normal ?_ ?_
                 rotate_left
                 · simp; omega
                 exact ⟨_, rfl, i + 1, by omega, rows ++ rdy i m, by rw [hstep, ← List.append_assoc, ← hrows], fr_intro (by simp [hr, rdyRow])⟩)
            · rw [ha, hcl, hrs] at hcm
              have hr : rdy i m = [rdyRow i false false false true] := by simp [rdy, ha, hcl, hrs]
              simp [h, hat, hs0 hlt, hcm, hw2, hm2, hm3]
              refine Kloop_normal ?_ ?_
              rotate_left
              · simp; omega
              exact ⟨_, rfl, i + 1, by omega, rows ++ rdy i m, by rw [hstep, ← List.append_assoc, ← hrows], fr_intro (by simp [hr, rdyRow])⟩
          · rw [ha, hcl] at hcm
            have hr : rdy i m = [] := by simp [rdy, hcl]
            simp [h, hat, hs0 hlt, hcm, hw2]
            refine Kloop_normal ?_ ?_
            rotate_left
            · simp; omega
            exact ⟨J, rfl, i + 1, by omega, rows, by rw [hstep, hr, List.append_nil]; exact hrows, fr_intro (by simp)⟩
      · simp [h]
        have : i = ms.length := by omega
        subst this
        rw [hR0, ← hrows] at hQ
        refine aPost_same hB rfl (nilV_refl _) ?_ hQ
        rw [hrows]
        refine .sl _ _ _ ?_
        intro r hr y hy
        rcases List.mem_append.1 hr with hr | hr
        · exact hR2 r hr y hy
        · exact rdyTo_bnd _ ms _ r hr y hy
end
end Go.Proofs.Ytgnjdfnjohgnlaa

set_option linter.unusedVariables false
set_option linter.unusedSimpArgs false
set_option linter.unusedSectionVars false
set_option maxRecDepth 100000
namespace Go.Proofs.Ytgnjdfnjohgnlaa
open Go Go.RowKit

def Cn.good (B : Nat) (m : Cn) : Prop := m.rd ≤ m.del.length ∧ 0 ≤ m.rg ∧ 0 ≤ m.wg ∧ m.del.length ≤ B ∧ m.tak.length ≤ B
def goods (B : Nat) (ms : List Cn) : Prop := ∀ m ∈ ms, m.good B
theorem Cn.good.mono {B B' : Nat} {m : Cn} (h : m.good B) (hb : B ≤ B') : m.good B' := ⟨h.1, h.2.1, h.2.2.1, Nat.le_trans h.2.2.2.1 hb, Nat.le_trans h.2.2.2.2 hb⟩
theorem goods.mono {B B' : Nat} {ms : List Cn} (h : goods B ms) (hb : B ≤ B') : goods B' ms := fun m hm => (h m hm).mono hb
theorem goods.set {B B' : Nat} {ms : List Cn} (h : goods B ms) (hb : B ≤ B') {m : Cn} (hm : m.good B') (i : Nat) : goods B' (ms.set i m) := fun x hx => by
  rcases List.mem_or_eq_of_mem_set hx with h' | rfl
  · exact (h x h').mono hb
  · exact hm
theorem goods.at {B : Nat} {ms : List Cn} (h : goods B ms) {i : Nat} {m : Cn} (hm : ms[i]? = some m) : m.good B := h m (List.mem_of_getElem? hm)
theorem Cn.good.ok {B : Nat} {m : Cn} (h : m.good B) (hB : B ≤ 140737488355328) : m.ok := ⟨h.1, h.2.1, h.2.2.1, Nat.le_trans h.2.2.2.1 hB, Nat.le_trans h.2.2.2.2 hB⟩
theorem cEvent_good {B : Nat} {m m' : Cn} {k i : Int} {d : List UInt8} (h : m.good B) (he : cEvent m k i d = some m') : m'.good (B + d.length) := by
  obtain ⟨h1, h2, h3, h4, h5⟩ := h
  unfold cEvent at he
  repeat' split at he
  all_goals cases he
  all_goals refine ⟨?_, ?_, ?_, ?_, ?_⟩ <;> simp <;> omega
theorem cRead_good {B : Nat} {m : Cn} (k : Int) (h : m.good B) : (cRead m k).1.good B := by
  obtain ⟨h1, h2, h3, h4, h5⟩ := h
  unfold cRead
  dsimp only
  repeat' split
  all_goals refine ⟨?_, ?_, ?_, ?_, ?_⟩ <;> simp <;> omega
theorem cWrite_good {B : Nat} {m : Cn} (s : List UInt8) (h : m.good B) : (cWrite m s).1.good (B + s.length) := by
  obtain ⟨h1, h2, h3, h4, h5⟩ := h
  unfold cWrite
  dsimp only
  repeat' split
  all_goals refine ⟨?_, ?_, ?_, ?_, ?_⟩ <;> simp <;> omega
theorem Cn.new_good (B : Nat) : Cn.new.good B := by refine ⟨?_, ?_, ?_, ?_, ?_⟩ <;> simp [Cn.new]

/-- Only one of them. -/
def Only (ms ms' : List Cn) (n : Int) : Prop := ms'.length = ms.length ∧ ∀ j : Nat, (j : Int) ≠ n → ms'[j]? = ms[j]?
theorem Only.refl (ms : List Cn) (n : Int) : Only ms ms n := ⟨rfl, fun _ _ => rfl⟩
theorem only_set (ms : List Cn) (n : Int) (h : 0 ≤ n) (m : Cn) : Only ms (ms.set n.toNat m) n := ⟨by simp, fun j hj => by rw [List.getElem?_set_ne]; omega⟩
theorem mLive_nn {ms : List Cn} {n : Int} (h : mLive ms n = 0) : 0 ≤ n := by
  by_cases hn : 0 ≤ n
  · exact hn
  · simp [mLive, mServed, hn] at h
theorem mServed_nn {ms : List Cn} {n : Int} (h : mServed ms n = 0) : 0 ≤ n := by
  by_cases hn : 0 ≤ n
  · exact hn
  · simp [mServed, hn] at h
theorem mInterest_only (ms : List Cn) (n : Int) (r w : Bool) : Only ms (mInterest ms n r w).1 n := by
  unfold mInterest
  split
  · rename_i h
    split
    · exact only_set _ _ (mLive_nn h) _
    · exact Only.refl _ _
  · exact Only.refl _ _
theorem mRead_only (ms : List Cn) (n k : Int) : Only ms (mRead ms n k).1 n := by
  unfold mRead
  split
  · rename_i h
    split
    · exact only_set _ _ (mLive_nn h) _
    · exact Only.refl _ _
  · exact Only.refl _ _
theorem mWrite_only (ms : List Cn) (n : Int) (s : List UInt8) : Only ms (mWrite ms n s).1 n := by
  unfold mWrite
  split
  · rename_i h
    split
    · exact only_set _ _ (mLive_nn h) _
    · exact Only.refl _ _
  · exact Only.refl _ _
theorem mClose_only (ms : List Cn) (n : Int) : Only ms (mClose ms n).1 n := by
  unfold mClose
  split
  · rename_i h
    split
    · exact only_set _ _ (mServed_nn h) _
    · exact Only.refl _ _
  · exact Only.refl _ _
theorem mDo_good {none : Bool} {ms : List Cn} {k n i : Int} {d : List UInt8} {B : Nat} (h : goods B ms) : goods (B + d.length) (mDo none ms k n i d).1 := by
  have h' := h.mono (Nat.le_add_right B d.length)
  unfold mDo
  split
  · exact h'
  · split
    · exact h'
    · split
      · split
        · exact h'
        · intro m hm
          rcases List.mem_append.1 hm with hm | hm
          · exact h' m hm
          · simp at hm; subst hm; exact Cn.new_good _
      · split
        · split
          · rename_i m hm
            split
            · rename_i m' he
              exact h.set (by omega) (cEvent_good (h.at hm) he) _
            · exact h'
          · exact h'
        · exact h'
theorem mInterest_good {ms : List Cn} {n : Int} {r w : Bool} {B : Nat} (h : goods B ms) : goods B (mInterest ms n r w).1 := by
  unfold mInterest
  split
  · split
    · rename_i m hm
      have hg : Cn.good B m := h.at hm
      exact h.set (m := { m with ri := r, wi := w }) (Nat.le_refl _) hg _
    · exact h
  · exact h
theorem mClose_good {ms : List Cn} {n : Int} {B : Nat} (h : goods B ms) : goods B (mClose ms n).1 := by
  unfold mClose
  split
  · split
    · rename_i m hm
      obtain ⟨h1, h2, h3, h4, h5⟩ := h.at hm
      exact h.set (m := { m with cls := true, ri := false, wi := false, rg := 0, wg := 0 }) (Nat.le_refl _) ⟨h1, Int.le_refl _, Int.le_refl _, h4, h5⟩ _
    · exact h
  · exact h
theorem mRead_good {ms : List Cn} {n k : Int} {B : Nat} (h : goods B ms) : goods B (mRead ms n k).1 := by
  unfold mRead
  split
  · split
    · rename_i m hm
      exact h.set (Nat.le_refl _) (cRead_good k (h.at hm)) _
    · exact h
  · exact h
theorem mWrite_good {ms : List Cn} {n : Int} {s : List UInt8} {B : Nat} (h : goods B ms) : goods (B + s.length) (mWrite ms n s).1 := by
  have h' := h.mono (Nat.le_add_right B s.length)
  unfold mWrite
  split
  · split
    · rename_i m hm
      exact h.set (by omega) (cWrite_good s (h.at hm)) _
    · exact h'
  · exact h'
theorem mAccept_good {ms : List Cn} {B : Nat} (h : goods B ms) : goods B (mAccept ms).1 := by
  unfold mAccept
  split
  · split
    · rename_i m hm
      have hg : Cn.good B m := h.at hm
      exact h.set (m := { m with acc := true }) (Nat.le_refl _) hg _
    · exact h
  · exact h

/-- What a script's call says. -/
structure OpA where
  kind : Int
  ek : Int
  ec : Int
  en : Int
  ed : List UInt8
  conn : Int
  n : Int
  s : List UInt8
  r : Bool
  w : Bool
def OpA.av (o : OpA) : List AV := [.int .i64 o.kind, .int .i64 o.ek, .int .i64 o.ec, .int .i64 o.en, .str o.ed, .int .i64 o.conn, .int .i64 o.n, .str o.s, .bool o.r, .bool o.w]
def ops (l : List OpA) : List (List AV) := l.map OpA.av
@[simp] theorem ops_len (l : List OpA) : (ops l).length = l.length := by simp [ops]
theorem ops_at {l : List OpA} {i : Nat} {o : OpA} (h : l[i]? = some o) : lat (ops l) i = some o.av := by simp [lat, ops, h]
/-- The bytes that the first i calls bring. -/
def opw : List OpA → Nat
  | [] => 0
  | o :: l => o.ed.length + o.s.length + opw l
theorem opw_app (l m : List OpA) : opw (l ++ m) = opw l + opw m := by
  induction l with
  | nil => simp [opw]
  | cons o l ih => simp only [List.cons_append, opw, ih]; omega
theorem opw_take {l : List OpA} {i : Nat} {o : OpA} (h : l[i]? = some o) : opw (l.take (i + 1)) = opw (l.take i) + (o.ed.length + o.s.length) := by
  rw [List.take_add_one, h, opw_app]; simp [opw]
theorem opw_le (l : List OpA) (i : Nat) : opw (l.take i) ≤ opw l := by
  have := opw_app (l.take i) (l.drop i)
  rw [List.take_append_drop] at this; omega
/-- A box that is none of the world's stays. -/
theorem Up.kept {H H' : Hp} {w : Option Nat} {cs cs' : List Nat} (hu : Up H w cs H' cs') {b : Nat} {l : List AV} (hb : H[b]? = some l) (hw : w ≠ some b) (hc : b ∉ cs) : H'[b]? = some l ∧ b ∉ cs' := by
  have := at_lt hb
  refine ⟨(hu.keep b this hw hc).trans hb, fun hm => ?_⟩
  rcases hu.new b hm with h | h
  · exact hc h
  · omega
end Go.Proofs.Ytgnjdfnjohgnlaa

set_option linter.unusedVariables false
set_option linter.unusedSimpArgs false
namespace Go.Proofs.Ytgnjdfnjohgnlaa
open Go Go.ChangeShapes Go.WideShapes Go.ChangeAt Go.RowKit Go.Deep

theorem Try.own : ownKnob Try.prog.godebug = none := by kernel_rfl
theorem Try.laidOut : laidOutB Try.prog = true := by kernel_rfl

section
variable {H : Type} {enc : TypeId × Value → H}

/-- ARGUMENTS READ AGAIN where nothing old has turned. -/
theorem Frm.trodAll {P : Program} (hl : laidOutB P = true) {W W' : World} (hF : Frm (fun _ => False) W W') (sp : Nat → Bool) : ∀ {ts : List TypeId} {vs : List Value} {ds : List (DataW H)} {ps : List MemPlace}, (∀ t ∈ ts, P.readableRec t = true ∧ t < P.types.size) → DataW.TrodAll enc P W 0 (fun _ => true) true ts vs ds ps → (∀ p ∈ ps, sp p.block = true) → (∀ p ∈ ps, p.block < W.heap.size) → DataW.TrodAll enc P W' 0 sp true ts vs ds ps
  | [], [], [], _, _, h, _, _ => h
  | _ :: _, _ :: _, _ :: _, _, hT, ⟨p, q, h1, h2, e⟩, hs, hlt =>
    ⟨p, q, WideElems.Trod_stays hl (hT _ (List.mem_cons.2 (Or.inl rfl))).1 (hT _ (List.mem_cons.2 (Or.inl rfl))).2 h1
      (fun x hx => (hF.toBelow (Nat.le_refl _) (fun _ _ => id)).same (hlt x (by rw [e]; exact List.mem_append_left _ hx))) (fun x hx => hs x (by rw [e]; exact List.mem_append_left _ hx)),
      Frm.trodAll hl hF sp (fun t ht => hT t (List.mem_cons.2 (Or.inr ht))) h2 (fun x hx => hs x (by rw [e]; exact List.mem_append_right _ hx)) (fun x hx => hlt x (by rw [e]; exact List.mem_append_right _ hx)), e⟩

/-- THE POST OF A LAW: true, and nothing old has turned. -/
theorem law_post {P : Program} (hl : laidOutB P = true) {f : Func} {s : ChangeSpec} {W W' : World} {args : Array Value} {ds gs : List (DataW H)} {before : List MemPlace} {tb : TypeId} (hb : P.underlying tb = some .bool)
    (hr : f.resultTypes = #[tb]) (hs : s.vars = []) (hT : f.params.all (fun t => P.readableRec t && decide (t < P.types.size)) = true)
    (hspec : s.fn H ds = { results := [.lit (.bool true)], args := ds })
    (hW : DataW.Whole enc P f.params.toList s.vars false W args.toList ds gs before) (hF : Frm (fun _ => False) W W') :
    s.post enc P f false true false false W args (.bool true) W' := by
  have hT' : ∀ t ∈ f.params.toList, P.readableRec t = true ∧ t < P.types.size := by
    intro t ht
    have := Array.all_eq_true_iff_forall_mem.1 hT t (by simpa using ht)
    simpa using this
  have hW' := hW
  obtain ⟨p, q, hA, hV, rfl, hfz, hnd⟩ := hW
  rw [hs] at hV
  obtain ⟨rfl, rfl⟩ := trodVars_none hV
  have hB := hF.toBelow (Nat.le_refl _) (fun _ _ => id)
  simp only [List.append_nil] at hW' hfz
  have hold : ∀ x ∈ p, decide (x.block < W.heap.size) = true := fun x hx => by simpa using hW'.lt x hx
  have hargs : ∀ sp : Nat → Bool, (∀ x ∈ p, sp x.block = true) → DataW.TrodAll enc P W' 0 sp true f.params.toList args.toList ds p := fun sp h => hF.trodAll hl sp hT' hA h (fun x hx => hW'.lt x hx)
  have hres : ∀ (b : Nat) (sp : Nat → Bool) (hd : Bool), DataW.TrodAll enc P W' b sp hd f.resultTypes.toList ((Value.bool true).resultList f.resultTypes.size) [.lit (.bool true)] [] := fun b sp hd => by
    rw [hr]; exact trodAll_mk1 (shut_bool hb true)
  have e1 : (s.fn H (ds ++ [])) = { results := [.lit (.bool true)], args := ds } := by rw [List.append_nil]; exact hspec
  refine ⟨ds, [], p, [], p, [], hW', ?_, ?_, ?_, World.keptBut_mono (fun x hx => hx) (hB.frame _), fun h => by cases h⟩
  · rw [e1]; exact hres _ _ _
  · rw [e1]; exact hargs _ hold
  · rw [e1, hs]; exact rfl

/-- From 'for each i there is' to a list. -/
theorem list_lt {α : Type} {n : Nat} {p : Nat → α → Prop} (h : ∀ i, i < n → ∃ x, p i x) : ∃ l : List α, l.length = n ∧ ∀ i x, l[i]? = some x → p i x := by
  induction n with
  | zero => exact ⟨[], rfl, fun i x hx => by simp at hx⟩
  | succ n ih =>
    obtain ⟨l, hl, hp⟩ := ih (fun i hi => h i (by omega))
    obtain ⟨y, hy⟩ := h n (by omega)
    refine ⟨l ++ [y], by simp [hl], fun i x hx => ?_⟩
    by_cases hi : i < l.length
    · exact hp i x (by rwa [List.getElem?_append_left hi] at hx)
    · rw [List.getElem?_append_right (by omega)] at hx
      have : i - l.length = 0 := by
        have := (List.getElem?_eq_some_iff.1 hx).1
        simp at this; omega
      rw [this] at hx
      simp at hx
      subst hx
      rw [show i = n by omega]; exact hy

/-- AN ARGUMENT OR A CELL THAT IS A SLICE: its rows as a list; the row's cells lie at the slice's own address, which is plain. -/
theorem open_rows {P : Program} {w : World} {base : Nat} {spare : Nat → Bool} {held : Bool} {t e : TypeId} {fuel : Nat} {cs : List Value} {x : DataW H × List MemPlace} {α : Type} (k : Nat) (hk : 0 < k) (q : Addr → α → Prop)
    (ht : P.underlying t = some (.slice e)) (hc : P.cellsOf e = k)
    (hq : ∀ a n cs' d pl, w.cells? base a k = some cs' → DataW.trod enc P w base spare held n e cs' = some (d, pl) → ∃ x, q ⟨a.block, a.off, none⟩ x)
    (h : DataW.trod enc P w base spare held fuel t cs = some x) :
    ∃ (bo : Option Addr) (len cap : Nat) (l : List α), cs = [.slice bo len cap] ∧ l.length = len ∧ len ≤ cap ∧ cap ≤ maxLen ∧ (∀ el sp, x.1 = .slice el sp → len ≤ el.length) ∧ (x.1 = .nil → len = 0) ∧ (x.1 = .nil ∨ ∃ el sp, x.1 = .slice el sp) ∧
      ∀ i x, l[i]? = some x → ∃ g o, bo = some ⟨g, o, none⟩ ∧ q ⟨g, o + i * k, none⟩ x := by
  rcases open_slice ht h with ⟨rfl, rfl⟩ | ⟨a, len, cap, m, n, D, Pl, rfl, hb, hl, hm, hmm, rfl, hi⟩
  · exact ⟨none, 0, 0, [], rfl, rfl, Nat.le_refl _, Nat.zero_le _, (fun _ _ h => by cases h), (fun _ => rfl), .inl rfl, fun i x hx => by simp at hx⟩
  · have hlm : len ≤ m := by rw [hmm]; split <;> omega
    obtain ⟨l, hll, hlx⟩ := list_lt (n := len) (p := fun i x => ∃ g o, some a = some ⟨g, o, none⟩ ∧ q ⟨g, o + i * k, none⟩ x) (fun i hi' => by
      obtain ⟨cs', hcs, htr⟩ := hi i (by omega)
      rw [hc] at hcs
      have h0 := hi 0 (by omega)
      obtain ⟨cs0, hcs0, _⟩ := h0
      rw [hc] at hcs0
      have hspot := World.cell?_spot (((World.cells?_some hcs0).2.2 0 hk).trans (List.getElem?_eq_getElem (by have := (World.cells?_some hcs0).2.1; omega)))
      obtain ⟨b, off, spot⟩ := a
      obtain rfl : spot = none := by simpa [Addr.add] using hspot
      obtain ⟨y, hy⟩ := hq _ n cs' _ _ hcs htr
      refine ⟨y, b, off, rfl, ?_⟩
      rw [add_plain] at hy
      exact hy)
    exact ⟨some a, len, cap, l, rfl, hll, hl, hm, (fun el sp h => by
      simp only [DataW.slice.injEq] at h
      rw [← h.1]; simp), (fun h => by cases h), .inr ⟨_, _, rfl⟩, hlx⟩

theorem cells_one {w : World} {base : Nat} {a : Addr} {cs : List Value} (h : w.cells? base a 1 = some cs) : ∃ v, cs = [v] ∧ w.cell? ⟨a.block, a.off, none⟩ = some v := by
  obtain ⟨_, hl, hc⟩ := World.cells?_some h
  match cs, hl with
  | [v], _ =>
    have h0 := hc 0 (by omega)
    have hs := World.cell?_spot h0
    obtain ⟨b, o, s⟩ := a
    obtain rfl : s = none := by simpa [Addr.add] using hs
    exact ⟨v, rfl, by simpa [Addr.add] using h0⟩

theorem row_int {P : Program} {w : World} {base : Nat} {spare : Nat → Bool} {held : Bool} {e : TypeId} {k : IntKind} (he : P.underlying e = some (.int k)) (a : Addr) (n : Nat) (cs : List Value) (d : DataW H) (pl : List MemPlace)
    (hc : w.cells? base a 1 = some cs) (h : DataW.trod enc P w base spare held n e cs = some (d, pl)) : ∃ z : Int, w.cell? ⟨a.block, a.off, none⟩ = some (.int k z) ∧ (Lit.int k z).wf = true := by
  obtain ⟨v, rfl, hv⟩ := cells_one hc
  obtain ⟨m, hvv, _, hw⟩ := DataW.trod_int he h
  simp only [List.cons.injEq, and_true] at hvv
  exact ⟨m, hvv ▸ hv, hw⟩
theorem row_u8 {P : Program} {w : World} {base : Nat} {spare : Nat → Bool} {held : Bool} {e : TypeId} (he : P.underlying e = some (.int .u8)) (a : Addr) (n : Nat) (cs : List Value) (d : DataW H) (pl : List MemPlace)
    (hc : w.cells? base a 1 = some cs) (h : DataW.trod enc P w base spare held n e cs = some (d, pl)) : ∃ z : UInt8, w.cell? ⟨a.block, a.off, none⟩ = some (.int .u8 (z.toNat : Int)) := by
  obtain ⟨z, hz, hw⟩ := row_int he a n cs d pl hc h
  have hr : 0 ≤ z ∧ z ≤ 255 := by simpa [Lit.wf, IntKind.min, IntKind.max, IntKind.signed, IntKind.bits] using hw
  refine ⟨UInt8.ofNat z.toNat, ?_⟩
  rw [UInt8.toNat_ofNat', Nat.mod_eq_of_lt (by omega), Int.toNat_of_nonneg hr.1]
  exact hz
theorem rsl_rows {w : World} {bo : Option Addr} {len cap : Nat} {l : List UInt8} (hl : l.length = len) (h1 : len ≤ cap) (h2 : cap ≤ maxLen) (hc : ∀ i x, l[i]? = some x → ∃ g o, bo = some ⟨g, o, none⟩ ∧ w.cell? ⟨g, o + i * 1, none⟩ = some (.int .u8 (x.toNat : Int))) :
    RSl w 1 (.slice bo len cap) len (u8s l) := by
  refine ⟨by rw [u8s_length]; omega, bo, cap, rfl, h1, h2, fun hp => ?_⟩
  obtain ⟨g, o, rfl, _⟩ := hc 0 (l[0]'(by omega)) (List.getElem?_eq_getElem (by omega))
  refine ⟨g, o, rfl, fun j hj => ?_⟩
  have hj' : j < l.length := by omega
  obtain ⟨g', o', he, hcell⟩ := hc j (l[j]'hj') (List.getElem?_eq_getElem hj')
  cases he
  rw [Nat.mul_one] at hcell
  rw [hcell, u8s_at, List.getElem?_eq_getElem hj']
  rfl
end
end Go.Proofs.Ytgnjdfnjohgnlaa

set_option linter.unusedVariables false
set_option linter.unusedSimpArgs false
namespace Go.Proofs.Ytgnjdfnjohgnlaa
open Go Go.ChangeShapes Go.WideShapes Go.ChangeAt Go.RowKit Go.Deep

inductive CK where
  | int (k : IntKind)
  | bool
  | str
  | u8s
def KindOf : CK → AV → Prop
  | .int k, .int k' z => k = k' ∧ (Lit.int k z).wf = true
  | .bool, .bool _ => True
  | .str, .str _ => True
  | .u8s, .sl false 1 rows => ∃ l, rows = bts l
  | _, _ => False
def wtA : List AV → Nat
  | [] => 0
  | .str s :: l => s.length + wtA l
  | .sl _ _ r :: l => r.length + wtA l
  | _ :: l => wtA l
theorem wtA_app (l m : List AV) : wtA (l ++ m) = wtA l + wtA m := by
  induction l with
  | nil => simp [wtA]
  | cons x l ih => cases x <;> simp only [List.cons_append, wtA, ih] <;> omega
def shapeL (g : TypeId → Option (List CK)) : Nat → List Field → Option (List CK)
  | _, [] => some []
  | off, f :: r => if f.offset = off then match g f.type with
    | some a => (shapeL g (off + a.length) r).map (a ++ ·)
    | none => none else none
def shape (P : Program) : Nat → TypeId → Option (List CK)
  | 0, _ => none
  | n + 1, t => match P.underlying t with
    | some (.int k) => some [.int k]
    | some .bool => some [.bool]
    | some .string => some [.str]
    | some (.slice e) => match P.underlying e with
      | some (.int .u8) => if P.cellsOf e = 1 then some [.u8s] else none
      | _ => none
    | some (.struct fs) => match shapeL (shape P n) 0 fs.toList with
      | some ks => if ks.length = P.cellsOf t then some ks else none
      | none => none
    | _ => none
structure Opened (W : World) (ks : List CK) (cs : List Value) (avs : List AV) : Prop where
  len : avs.length = ks.length
  clen : cs.length = ks.length
  kind : ∀ (j : Nat) k x, ks[j]? = some k → avs[j]? = some x → KindOf k x
  rel : ∀ (j : Nat) x u, avs[j]? = some x → cs[j]? = some u → x.free = true ∧ x.one = true ∧ Rel W (fun _ => 0) (old W) x u ∧ Bnd 0 x
theorem Opened.one {W : World} {k : CK} {v : Value} {x : AV} (h1 : KindOf k x) (h2 : x.free = true ∧ x.one = true ∧ Rel W (fun _ => 0) (old W) x v ∧ Bnd 0 x) : Opened W [k] [v] [x] := by
  refine ⟨rfl, rfl, fun j k' x' hk hx => ?_, fun j x' u hx hu => ?_⟩
  · cases j with
    | zero => simp at hk hx; subst hk; subst hx; exact h1
    | succ j => simp at hk
  · cases j with
    | zero => simp at hu hx; subst hu; subst hx; exact h2
    | succ j => simp at hu
theorem Opened.app {W : World} {ks ms : List CK} {cs ds : List Value} {av1 bs : List AV} (h : Opened W ks cs av1) (k : Opened W ms ds bs) : Opened W (ks ++ ms) (cs ++ ds) (av1 ++ bs) := by
  refine ⟨by simp [h.len, k.len], by simp [h.clen, k.clen], fun j k' x' hk hx => ?_, fun j x' u hx hu => ?_⟩
  · by_cases hj : j < ks.length
    · rw [List.getElem?_append_left hj] at hk
      rw [List.getElem?_append_left (by rw [h.len]; exact hj)] at hx
      exact h.kind j k' x' hk hx
    · rw [List.getElem?_append_right (by omega)] at hk
      rw [List.getElem?_append_right (by rw [h.len]; omega), h.len] at hx
      exact k.kind _ k' x' hk hx
  · by_cases hj : j < av1.length
    · rw [List.getElem?_append_left hj] at hx
      rw [List.getElem?_append_left (by rw [h.clen, ← h.len]; exact hj)] at hu
      exact h.rel j x' u hx hu
    · rw [List.getElem?_append_right (by omega)] at hx
      rw [List.getElem?_append_right (by rw [h.clen, ← h.len]; omega), h.clen, ← h.len] at hu
      exact k.rel _ x' u hx hu
section
variable {H : Type} {enc : TypeId × Value → H}
theorem bulk_pos (d : DataW H) : 1 ≤ Rows.uptoBulk d := by
  cases d with
  | lit l => cases l <;> simp [Rows.uptoBulk]
  | nil => simp [Rows.uptoBulk]
  | ptr d => simp [Rows.uptoBulk]
  | slice elems spare => simp [Rows.uptoBulk]
  | agg parts => simp [Rows.uptoBulk]
  | iface t d => simp [Rows.uptoBulk]
  | map entries => simp [Rows.uptoBulk]
  | held h => simp [Rows.uptoBulk]
theorem bulk_len : ∀ (l : List (DataW H)), l.length ≤ Rows.uptoBulkAll l
  | [] => by simp [Rows.uptoBulkAll]
  | x :: l => by have := bulk_pos x; have := bulk_len l; simp only [Rows.uptoBulkAll, List.length_cons]; omega
theorem rel_sl_bts {w : World} {β : Nat → Nat} {Rd : Nat → Nat → Prop} {v : Value} {l : List UInt8} (h : RSl w 1 v l.length (u8s l)) (hd : ∀ g o n c, v = .slice (some ⟨g, o, none⟩) n c → ∀ j, j < l.length → Rd g (o + j)) : Rel w β Rd (.sl false 1 (bts l)) v := by
  refine .sl false 1 (bts l) v (u8s l) (fun r hr => by obtain ⟨b, _, rfl⟩ := List.mem_map.1 hr; rfl) (by rw [bts_len]; exact h) (fun g o n c hv j hj => hd g o n c hv j (by simpa [bts_len] using hj)) (fun h => by cases h) (fun r hr x hx => ?_) (fun j x u hx hu => ?_)
  · obtain ⟨b, _, rfl⟩ := List.mem_map.1 hr
    simp at hx; subst hx; exact ⟨rfl, rfl⟩
  · rw [bts_flat] at hx
    rw [u8s_at] at hu
    cases hb : l[j]? with
    | none => rw [hb] at hx; cases hx
    | some b => rw [hb] at hx hu; simp at hx hu; subst hx; subst hu; exact .int _ _
theorem opened_fields {P : Program} {W : World} {base : Nat} {spare : Nat → Bool} {held : Bool} {n' : Nat} {cs : List Value} (g : TypeId → Option (List CK))
    (ih : ∀ {t : TypeId} {ks : List CK} {cs : List Value} {x : DataW H × List MemPlace}, g t = some ks → DataW.trod enc P W base spare held n' t cs = some x → ∃ avs, Opened W ks cs avs ∧ wtA avs + 1 ≤ Rows.uptoBulk x.1) :
    ∀ (l : List Field) (xs : List (DataW H × List MemPlace)) (off : Nat) (ks : List CK), l.length = xs.length → (∀ (j : Nat) f, l[j]? = some f → DataW.trod enc P W base spare held n' f.type ((cs.drop f.offset).take (P.cellsOf f.type)) = xs[j]?) →
      shapeL g off l = some ks → ∃ avs, Opened W ks ((cs.drop off).take ks.length) avs ∧ wtA avs ≤ Rows.uptoBulkAll (xs.map (·.1)) := by
  intro l
  induction l with
  | nil =>
    intro xs off ks hl hx hs
    simp [shapeL] at hs
    subst hs
    exact ⟨[], ⟨rfl, by simp, fun j k x hk => by simp at hk, fun j x u hx => by simp at hx⟩, by simp [wtA]⟩
  | cons f l ihl =>
    intro xs off ks hl hx hs
    cases xs with
    | nil => simp at hl
    | cons y xs =>
      unfold shapeL at hs
      split at hs
      · rename_i ho
        cases hg : g f.type with
        | none => rw [hg] at hs; cases hs
        | some a =>
          rw [hg] at hs
          simp only [Option.map_eq_some_iff] at hs
          obtain ⟨b, hb, rfl⟩ := hs
          have h0 := hx 0 f rfl
          rw [ho] at h0
          obtain ⟨av1, ha, hwa⟩ := ih hg h0
          obtain ⟨bs, hbs, hwb⟩ := ihl xs (off + a.length) b (by simpa using hl) (fun j f' hf => by simpa using hx (j + 1) f' (by simpa using hf)) hb
          have e : (cs.drop off).take (P.cellsOf f.type) = (cs.drop off).take a.length := by
            have hlen := ha.clen
            rw [List.length_take] at hlen
            rw [← hlen]
            by_cases hc : P.cellsOf f.type ≤ (cs.drop off).length
            · rw [Nat.min_eq_left hc]
            · rw [Nat.min_eq_right (by omega), List.take_of_length_le (by omega), List.take_of_length_le (Nat.le_refl _)]
          refine ⟨av1 ++ bs, ?_, ?_⟩
          · rw [e] at ha
            have := ha.app hbs
            rw [List.length_append, List.take_add, List.drop_drop]
            exact this
          · rw [wtA_app]
            simp only [List.map_cons, Rows.uptoBulkAll]
            omega
      · cases hs
theorem opened {P : Program} {W : World} {base : Nat} {spare : Nat → Bool} {held : Bool} (n : Nat) : ∀ {fuel : Nat} {t : TypeId} {ks : List CK} {cs : List Value} {x : DataW H × List MemPlace}, shape P n t = some ks → DataW.trod enc P W base spare held fuel t cs = some x →
    ∃ avs, Opened W ks cs avs ∧ wtA avs + 1 ≤ Rows.uptoBulk x.1 := by
  induction n with
  | zero => intro fuel t ks cs x hs; cases hs
  | succ n ih =>
    intro fuel t ks cs x hs h
    unfold shape at hs
    split at hs
    · rename_i k hu
      cases hs
      obtain ⟨z, rfl, rfl, hw⟩ := DataW.trod_int hu h
      exact ⟨[.int k z], .one ⟨rfl, hw⟩ ⟨rfl, rfl, .int _ _, .int _ _⟩, by simp [wtA, Rows.uptoBulk]⟩
    · rename_i hu
      cases hs
      obtain ⟨z, rfl, rfl⟩ := DataW.trod_bool hu h
      exact ⟨[.bool z], .one trivial ⟨rfl, rfl, .bool _, .bool _⟩, by simp [wtA, Rows.uptoBulk]⟩
    · rename_i hu
      cases hs
      obtain ⟨z, rfl, rfl, hm⟩ := DataW.trod_string hu h
      exact ⟨[.str z.data.toList], .one trivial ⟨rfl, rfl, .str _ _ rfl hm, .str _⟩, by simp [wtA, Rows.uptoBulk]⟩
    · rename_i e hu
      split at hs
      · rename_i he
        split at hs
        · rename_i hce
          cases hs
          obtain ⟨bo, len, cap, l, rfl, hl, h1, h2, hx1, hx2, hx3, hq⟩ := open_rows (α := UInt8) 1 (by decide) (fun a x => W.cell? a = some (.int .u8 ((x : UInt8).toNat : Int))) hu hce (fun a n cs' d pl hc h => row_u8 he a n cs' d pl hc h) h
          have hr := rsl_rows hl h1 h2 hq
          subst hl
          refine ⟨[.sl false 1 (bts l)], .one ⟨l, rfl⟩ ⟨rfl, rfl, rel_sl_bts hr (fun g o n c hv j hj => ?_), bnd_sl_bts _ _ _⟩, ?_⟩
          · obtain ⟨g', o', hb, hc⟩ := hq j l[j] (List.getElem?_eq_getElem hj)
            cases hv
            cases hb
            rw [Nat.mul_one] at hc
            exact old_cell hc
          · simp only [wtA, bts_len]
            rcases hx3 with hn | ⟨el, sp, hs⟩
            · rw [hn, hx2 hn]; simp [Rows.uptoBulk]
            · have := hx1 el sp hs
              have := bulk_len el
              rw [hs]; simp only [Rows.uptoBulk]; omega
        · cases hs
      · cases hs
    · rename_i fs hu
      split at hs
      · rename_i ks' hks
        split at hs
        · rename_i hlen
          cases hs
          obtain ⟨xs, n', _, rfl, hcl, hxl, hf⟩ := DataW.trod_struct hu h
          obtain ⟨avs, ho, hw⟩ := opened_fields (enc := enc) (P := P) (W := W) (base := base) (spare := spare) (held := held) (n' := n') (cs := cs) (shape P n) (fun hg hx => ih hg hx) fs.toList xs 0 _ (by simp [hxl]) (fun j f hj => hf j f (by simpa using hj)) hks
          refine ⟨avs, ?_, ?_⟩
          · rw [List.drop_zero, List.take_of_length_le (by rw [hcl, hlen]; exact Nat.le_refl _)] at ho
            exact ho
          · simp only [Rows.uptoBulk]; omega
        · cases hs
      · cases hs
    · cases hs
theorem bulkAll_range {n : Nat} (D : Nat → DataW H) : ∀ (rows : List (List AV)), rows.length = n → (∀ (i : Nat) r, rows[i]? = some r → wtA r + 1 ≤ Rows.uptoBulk (D i)) → wtA rows.flatten + n ≤ Rows.uptoBulkAll ((List.range n).map D) := by
  induction n with
  | zero =>
    intro rows h hr
    have : rows = [] := List.length_eq_zero_iff.1 h
    subst this
    simp [wtA]
  | succ n ih =>
    intro rows hl hr
    obtain ⟨init, r, rfl⟩ : ∃ init r, rows = init ++ [r] := ⟨rows.dropLast, rows.getLast (by intro h; rw [h] at hl; cases hl), (List.dropLast_concat_getLast _).symm⟩
    simp at hl
    have h1 := ih init hl (fun i q hq => hr i q (by rw [List.getElem?_append_left (List.getElem?_eq_some_iff.1 hq).1]; exact hq))
    have h2 := hr n r (by rw [← hl]; simp)
    have happ : ∀ (a b : List (DataW H)), Rows.uptoBulkAll (a ++ b) = Rows.uptoBulkAll a + Rows.uptoBulkAll b := by
      intro a b
      induction a with
      | nil => simp [Rows.uptoBulkAll]
      | cons x a iha => simp only [List.cons_append, Rows.uptoBulkAll, iha]; omega
    rw [List.range_succ, List.map_append, happ, List.flatten_append, wtA_app]
    simp only [List.map_cons, List.map_nil, Rows.uptoBulkAll, List.flatten_cons, List.flatten_nil, List.append_nil]
    omega
/-- A SLICE OF PLAIN VALUES. -/
theorem open_plain {P : Program} {W : World} {spare : Nat → Bool} {held : Bool} {t e : TypeId} {fuel : Nat} {cs : List Value} {x : DataW H × List MemPlace} {ks : List CK} (n : Nat) (ht : P.underlying t = some (.slice e)) (hs : shape P n e = some ks) (hk : ks.length = P.cellsOf e) (hk0 : 0 < ks.length)
    (h : DataW.trod enc P W 0 spare held fuel t cs = some x) :
    ∃ (bo : Option Addr) (len cap : Nat) (rows : List (List AV)), cs = [.slice bo len cap] ∧ rows.length = len ∧ len ≤ cap ∧ cap ≤ maxLen ∧ Rel W (fun _ => 0) (old W) (.sl false ks.length rows) (.slice bo len cap) ∧ Bnd 0 (.sl false ks.length rows) ∧
      (∀ r ∈ rows, r.length = ks.length ∧ ∀ (j : Nat) k y, ks[j]? = some k → r[j]? = some y → KindOf k y) ∧ wtA rows.flatten + len + 1 ≤ Rows.uptoBulk x.1 := by
  rcases open_slice ht h with ⟨rfl, rfl⟩ | ⟨a, len, cap, m, n', D, Pl, rfl, hb, hl, hm, hmm, rfl, hi⟩
  · refine ⟨none, 0, 0, [], rfl, rfl, Nat.le_refl _, Nat.zero_le _, ?_, .sl _ _ _ (fun r hr => by cases hr), fun r hr => (by cases hr), by simp [wtA, Rows.uptoBulk]⟩
    exact rel_rows _ [] none 0 0 (fun r hr => by cases hr) hk0 rfl (Nat.le_refl _) (Nat.zero_le _) (fun i r hr => by simp at hr)
  · have hlm : len ≤ m := by rw [hmm]; split <;> omega
    obtain ⟨rows, hrl, hrx⟩ := list_lt (n := len) (p := fun i (r : List AV) => ∃ g o cs', some a = some ⟨g, o, none⟩ ∧ (∀ (j : Nat) v, cs'[j]? = some v → W.cell? ⟨g, o + i * ks.length + j, none⟩ = some v) ∧ Opened W ks cs' r ∧ wtA r + 1 ≤ Rows.uptoBulk (D i)) (fun i hi' => by
      obtain ⟨cs', hcs, htr⟩ := hi i (by omega)
      obtain ⟨avs, ho, hw⟩ := opened n hs htr
      obtain ⟨_, hcl, hat⟩ := World.cells?_some hcs
      obtain ⟨cs0, hcs0, _⟩ := hi 0 (by omega)
      have h00 := World.cells?_some hcs0
      have hspot := World.cell?_spot ((h00.2.2 0 (by omega)).trans (List.getElem?_eq_getElem (by have := h00.2.1; omega)))
      obtain ⟨b, off, spot⟩ := a
      obtain rfl : spot = none := by simpa [Addr.add] using hspot
      refine ⟨avs, b, off, cs', rfl, fun j v hj => ?_, ho, hw⟩
      have hjl : j < P.cellsOf e := by have := (List.getElem?_eq_some_iff.1 hj).1; omega
      rw [hk, ← add_plain, ← add_plain, hat j hjl]; exact hj)
    refine ⟨some a, len, cap, rows, rfl, hrl, hl, hm, ?_, ?_, ?_, ?_⟩
    · refine rel_rows _ rows _ len cap (fun r hr => ?_) hk0 hrl hl hm (fun i r hr => ?_)
      · obtain ⟨i, hi'⟩ := List.getElem?_of_mem hr
        obtain ⟨g, o, cs', _, _, ho, _⟩ := hrx i r hi'
        exact ho.len
      · obtain ⟨g, o, cs', hb', hc, ho, _⟩ := hrx i r hr
        refine ⟨g, o, hb', fun j y hy => ?_⟩
        have hjl : j < cs'.length := by have := (List.getElem?_eq_some_iff.1 hy).1; have := ho.len; have := ho.clen; omega
        obtain ⟨h1, h2, h3, h4⟩ := ho.rel j y cs'[j] hy (List.getElem?_eq_getElem hjl)
        exact ⟨h1, h2, _, hc j _ (List.getElem?_eq_getElem hjl), h3⟩
    · refine .sl _ _ _ (fun r hr y hy => ?_)
      obtain ⟨i, hi'⟩ := List.getElem?_of_mem hr
      obtain ⟨j, hj⟩ := List.getElem?_of_mem hy
      obtain ⟨g, o, cs', _, _, ho, _⟩ := hrx i r hi'
      have hjl : j < cs'.length := by have := (List.getElem?_eq_some_iff.1 hj).1; have := ho.len; have := ho.clen; omega
      exact (ho.rel j y cs'[j] hj (List.getElem?_eq_getElem hjl)).2.2.2
    · intro r hr
      obtain ⟨i, hi'⟩ := List.getElem?_of_mem hr
      obtain ⟨g, o, cs', _, _, ho, _⟩ := hrx i r hi'
      exact ⟨ho.len, ho.kind⟩
    · have := bulkAll_range D rows hrl (fun i r hr => by obtain ⟨_, _, _, _, _, _, hw⟩ := hrx i r hr; exact hw)
      simp only [Rows.uptoBulk]
      omega
end
end Go.Proofs.Ytgnjdfnjohgnlaa

set_option linter.unusedVariables false
set_option linter.unusedSimpArgs false
set_option linter.unusedSectionVars false
set_option maxRecDepth 100000
namespace Go.Proofs.Ytgnjdfnjohgnlaa
open Go Go.RowKit

theorem eleven {cs : List Value} (h : cs.length = 11) : ∃ a0 a1 a2 a3 a4 a5 a6 a7 a8 a9 aa, cs = [a0, a1, a2, a3, a4, a5, a6, a7, a8, a9, aa] := by
  match cs, h with
  | [a0, a1, a2, a3, a4, a5, a6, a7, a8, a9, aa], _ => exact ⟨_, _, _, _, _, _, _, _, _, _, _, rfl⟩
theorem src_rows {P : Program} {w : World} {ao : Option Addr} {n c size : Nat} {xs : List Value} (h : RSl w size (.slice ao n c) n xs) {tx e' : TypeId} (hk : P.underlying tx = some (.slice e')) (h1 : ∀ u ∈ xs, u.oneCell' = true) : Src P size tx (.slice ao n c) n xs w := by
  obtain ⟨hx, ao', c', he, h2, h3, h4⟩ := h
  cases he
  rcases Nat.eq_zero_or_pos n with rfl | hp
  · have hl : xs = [] := List.eq_nil_of_length_eq_zero (by simpa using hx)
    subst hl
    cases ao with
    | none => exact Src.ofNil w hk _
    | some a => exact Src.ofSlice w hk a 0 _ [] (by simp) (fun j u hj => by simp at hj) (by simp)
  · obtain ⟨g, o, rfl, hc2⟩ := h4 hp
    refine Src.ofSlice w hk ⟨g, o, none⟩ n _ _ hx (fun j u hj => ?_) h1
    have hj' := (List.getElem?_eq_some_iff.1 hj).1
    rw [Addr.add_mid, hc2 j (by omega), hj]
theorem RSl.same {w w' : World} {k : Nat} {v : Value} {n : Nat} {xs : List Value} (h : RSl w k v n xs) (hk : 0 < k) (hf : Frm (fun _ => False) w w') : RSl w' k v n xs := by
  obtain ⟨h1, ao, cap, rfl, h2, h3, h4⟩ := h
  refine ⟨h1, ao, cap, rfl, h2, h3, fun hn => ?_⟩
  obtain ⟨g, o, rfl, h5⟩ := h4 hn
  refine ⟨g, o, rfl, fun j hj => ?_⟩
  have h0 := h5 j hj
  rw [List.getElem?_eq_getElem (by omega)] at h0
  rw [hf.cell (p := ⟨g, o + j, none⟩) (old_cell h0) (fun h => h)]
  exact h5 j hj
theorem connInfo : (Try.prog.info? 98).map (fun i => (i.zero, i.size, i.bytes)) = some (some (.agg #[.string ⟨#[]⟩, .string ⟨#[]⟩, .int .i64 0, .bool false, .bool false, .bool false, .bool false, .bool false, .bool false, .int .i64 0, .int .i64 0]), 11, 64) := by kernel_rfl
theorem empty_osl11 (w : World) (e : TypeId) (k : Nat) : OSl (w.alloc (.cells #[] e)) k (.slice (some ⟨w.heap.size, 0, none⟩) 0 0) 0 [] := by
  refine ⟨by simp, .inr ⟨_, 0, 0, rfl, Nat.le_refl _, Nat.zero_le _, by simp, fun j hj => by simp at hj, fun j hj => by simp at hj⟩⟩
set_option maxHeartbeats 4000000 in
theorem with_ok {w : World} (nb : Bool) {ao : Option Addr} {n c : Nat} {xs : List Value} (hl : RSl w 11 (.slice ao n c) n xs) (h1 : ∀ u ∈ xs, u.oneCell' = true) (hn : n ≤ 4096) (i : Nat) (hi : i < n) (s0 s1 : ByteArray) (rd rg wg : Int) (b0 b1 b2 b3 b4 b5 : Bool) :
    Calls Try.prog 48 #[.agg #[.bool nb, .slice ao n c], .int .i64 i, .agg #[.string s0, .string s1, .int .i64 rd, .bool b0, .bool b1, .bool b2, .bool b3, .bool b4, .bool b5, .int .i64 rg, .int .i64 wg]] w fun e w' =>
      ∃ g o c', e = .returned (.agg #[.bool nb, .slice (some ⟨g, o, none⟩) n c']) ∧ w.heap.size ≤ g ∧ g < w'.heap.size ∧ n ≤ c' ∧ c' ≤ maxLen ∧ Frm (fun _ => False) w w' ∧
        (∀ j, j < n * 11 → w'.cell? ⟨g, o + j, none⟩ = if i * 11 ≤ j ∧ j < i * 11 + 11 then [Value.string s0, .string s1, .int .i64 rd, .bool b0, .bool b1, .bool b2, .bool b3, .bool b4, .bool b5, .int .i64 rg, .int .i64 wg][j - i * 11]? else xs[j]?) := by
  obtain ⟨i0, hinf, hz0, hz1, hz2⟩ := info_parts connInfo
  go_enter Try.func48, Try.ntmps48
  obtain ⟨w3, hw3⟩ : ∃ w3, w3 = ((w.alloc (.cells #[.bool nb, .slice ao n c] 56)).alloc (.cells #[.string s0, .string s1, .int .i64 rd, .bool b0, .bool b1, .bool b2, .bool b3, .bool b4, .bool b5, .int .i64 rg, .int .i64 wg] 98)).alloc (.cells #[.bool false, .slice none 0 0] 56) := ⟨_, rfl⟩
  have hsz : w3.heap.size = w.heap.size + 1 + 1 + 1 := by rw [hw3]; simp
  have HL := Lib.hid hl
  have H1 := Lib.hid h1
  have HW3 := Lib.hid hw3
  have HSZ := Lib.hid hsz
  clear hl h1 hw3 hsz
  have HFr := Lib.hid (show Frm (fun _ => False) w w3 by rw [HW3.out]; exact ((Frm.alloc _ w _).allocR _).allocR _)
  go_wp2_with (at_builtin; refine wpList_append_osl _ rfl (.tmp 8) (.tmp 10) 54 54 rfl 98 i0 _ 11 64 Try.underlying54 hinf hz0 hz1 hz2 rfl (.slice (some ⟨w.heap.size + 1 + 1 + 1, 0, none⟩) 0 0) 0 [] rfl (by rw [← HW3.out, ← HSZ.out]; exact empty_osl11 w3 _ 11) (.slice ao n c) n xs rfl (src_rows (P := Try.prog) (by rw [← HW3.out]; exact HL.out.same (by omega) (HFr.out.allocR _)) Try.underlying54 H1.out) (by unfold maxLen; omega) (by omega) ?_)
  rw [← HW3.out, ← HSZ.out]
  intro ao4 c4 w4 hs hf hv
  have hblk : ∀ (k : Nat) b, k < w3.heap.size → w3.heap[k]? = some b → w4.heap[k]? = some b := fun k b hk hb => by
    rw [hf.block k (by simp; omega) (by simp [Value.ownBlock]; omega), heap_alloc_old w3 _ hk]; exact hb
  have hA : w4.heap[w.heap.size]? = some (.cells #[.bool nb, .slice ao n c] 56 (0, 0)) := by
    refine hblk _ _ (by rw [HSZ.out]; omega) ?_
    rw [HW3.out, heap_alloc_old _ _ (by simp; omega), heap_alloc_old _ _ (by simp), heap_alloc_new]
  have hB : w4.heap[w.heap.size + 1]? = some (.cells #[.string s0, .string s1, .int .i64 rd, .bool b0, .bool b1, .bool b2, .bool b3, .bool b4, .bool b5, .int .i64 rg, .int .i64 wg] 98 (0, 0)) := by
    refine hblk _ _ (by rw [HSZ.out]; omega) ?_
    rw [HW3.out, heap_alloc_old _ _ (by simp)]
    have := heap_alloc_new (w.alloc (.cells #[.bool nb, .slice ao n c] 56)) (.cells #[.string s0, .string s1, .int .i64 rd, .bool b0, .bool b1, .bool b2, .bool b3, .bool b4, .bool b5, .int .i64 rg, .int .i64 wg] 98)
    rw [show (w.alloc (.cells #[.bool nb, .slice ao n c] 56)).heap.size = w.heap.size + 1 by simp] at this
    exact this
  have hC : w4.heap[w.heap.size + 1 + 1]? = some (.cells #[.bool false, .slice none 0 0] 56 (0, 0)) := by
    refine hblk _ _ (by rw [HSZ.out]; omega) ?_
    rw [HW3.out]
    have := heap_alloc_new ((w.alloc (.cells #[.bool nb, .slice ao n c] 56)).alloc (.cells #[.string s0, .string s1, .int .i64 rd, .bool b0, .bool b1, .bool b2, .bool b3, .bool b4, .bool b5, .int .i64 rg, .int .i64 wg] 98)) (.cells #[.bool false, .slice none 0 0] 56)
    rw [show ((w.alloc (.cells #[.bool nb, .slice ao n c] 56)).alloc (.cells #[.string s0, .string s1, .int .i64 rd, .bool b0, .bool b1, .bool b2, .bool b3, .bool b4, .bool b5, .int .i64 rg, .int .i64 wg] 98)).heap.size = w.heap.size + 1 + 1 by simp] at this
    exact this
  obtain ⟨g, o, c4', he, h2, h3, hg, hc1, hc2⟩ := hs.shapePos (by omega)
  injection he with he1 he2 he3
  subst he1; subst he3
  have hgn : w3.heap.size ≤ g := by simp [Value.ownBlock] at hv; omega
  have a0 : w4.cell? ⟨w.heap.size, 0, none⟩ = some (.bool nb) := by simp [World.cell?, hA]
  have a1 : w4.cell? ⟨w.heap.size, 1, none⟩ = some (.slice ao n c) := by simp [World.cell?, hA]
  have fa : ∀ j, w4.frozen? ⟨w.heap.size, j, none⟩ = false := fun j => by simp [World.frozen?, hA]
  have d0 : w4.cell? ⟨w.heap.size + 1, 0, none⟩ = some (.string s0) := by simp [World.cell?, hB]
  have d1 : w4.cell? ⟨w.heap.size + 1, 1, none⟩ = some (.string s1) := by simp [World.cell?, hB]
  have d2 : w4.cell? ⟨w.heap.size + 1, 2, none⟩ = some (.int .i64 rd) := by simp [World.cell?, hB]
  have d3 : w4.cell? ⟨w.heap.size + 1, 3, none⟩ = some (.bool b0) := by simp [World.cell?, hB]
  have d4 : w4.cell? ⟨w.heap.size + 1, 4, none⟩ = some (.bool b1) := by simp [World.cell?, hB]
  have d5 : w4.cell? ⟨w.heap.size + 1, 5, none⟩ = some (.bool b2) := by simp [World.cell?, hB]
  have d6 : w4.cell? ⟨w.heap.size + 1, 6, none⟩ = some (.bool b3) := by simp [World.cell?, hB]
  have d7 : w4.cell? ⟨w.heap.size + 1, 7, none⟩ = some (.bool b4) := by simp [World.cell?, hB]
  have d8 : w4.cell? ⟨w.heap.size + 1, 8, none⟩ = some (.bool b5) := by simp [World.cell?, hB]
  have d9 : w4.cell? ⟨w.heap.size + 1, 9, none⟩ = some (.int .i64 rg) := by simp [World.cell?, hB]
  have d10 : w4.cell? ⟨w.heap.size + 1, 10, none⟩ = some (.int .i64 wg) := by simp [World.cell?, hB]
  have c0 : w4.cell? ⟨w.heap.size + 1 + 1, 0, none⟩ = some (.bool false) := by simp [World.cell?, hC]
  have c1 : w4.cell? ⟨w.heap.size + 1 + 1, 1, none⟩ = some (.slice none 0 0) := by simp [World.cell?, hC]
  have fc : ∀ j, w4.frozen? ⟨w.heap.size + 1 + 1, j, none⟩ = false := fun j => by simp [World.frozen?, hC]
  have hne1 : ¬ g = w.heap.size := by have := HSZ.out; omega
  have hne2 : ¬ g = w.heap.size + 1 + 1 := by have := HSZ.out; omega
  have hne3 : ¬ w.heap.size = g := by have := HSZ.out; omega
  have hne4 : ¬ w.heap.size + 1 + 1 = g := by have := HSZ.out; omega
  have hi11 : i * 11 + 11 ≤ n * 11 := by omega
  have hcl : n * 11 ≤ c4 * 11 := by omega
  have hsome : ∀ j, j < 11 → (w4.cell? ⟨g, o + i * 11 + j, none⟩).isSome = true := fun j hj => by
    have := (hc2 (i * 11 + j) (by omega)).1; rwa [← Nat.add_assoc] at this
  have hfree : ∀ j, j < 11 → w4.frozen? ⟨g, o + i * 11 + j, none⟩ = false := fun j hj => by
    have := (hc2 (i * 11 + j) (by omega)).2; rwa [← Nat.add_assoc] at this
  obtain ⟨e0, k0⟩ : ∃ e, w4.cell? ⟨g, o + i * 11, none⟩ = some e := Option.isSome_iff_exists.1 (hsome 0 (by omega))
  have q0 : w4.frozen? ⟨g, o + i * 11, none⟩ = false := hfree 0 (by omega)
  obtain ⟨e1, k1⟩ : ∃ e, w4.cell? ⟨g, o + i * 11 + 1, none⟩ = some e := Option.isSome_iff_exists.1 (hsome 1 (by omega))
  have q1 : w4.frozen? ⟨g, o + i * 11 + 1, none⟩ = false := hfree 1 (by omega)
  obtain ⟨e2, k2⟩ : ∃ e, w4.cell? ⟨g, o + i * 11 + 2, none⟩ = some e := Option.isSome_iff_exists.1 (hsome 2 (by omega))
  have q2 : w4.frozen? ⟨g, o + i * 11 + 2, none⟩ = false := hfree 2 (by omega)
  obtain ⟨e3, k3⟩ : ∃ e, w4.cell? ⟨g, o + i * 11 + 3, none⟩ = some e := Option.isSome_iff_exists.1 (hsome 3 (by omega))
  have q3 : w4.frozen? ⟨g, o + i * 11 + 3, none⟩ = false := hfree 3 (by omega)
  obtain ⟨e4, k4⟩ : ∃ e, w4.cell? ⟨g, o + i * 11 + 4, none⟩ = some e := Option.isSome_iff_exists.1 (hsome 4 (by omega))
  have q4 : w4.frozen? ⟨g, o + i * 11 + 4, none⟩ = false := hfree 4 (by omega)
  obtain ⟨e5, k5⟩ : ∃ e, w4.cell? ⟨g, o + i * 11 + 5, none⟩ = some e := Option.isSome_iff_exists.1 (hsome 5 (by omega))
  have q5 : w4.frozen? ⟨g, o + i * 11 + 5, none⟩ = false := hfree 5 (by omega)
  obtain ⟨e6, k6⟩ : ∃ e, w4.cell? ⟨g, o + i * 11 + 6, none⟩ = some e := Option.isSome_iff_exists.1 (hsome 6 (by omega))
  have q6 : w4.frozen? ⟨g, o + i * 11 + 6, none⟩ = false := hfree 6 (by omega)
  obtain ⟨e7, k7⟩ : ∃ e, w4.cell? ⟨g, o + i * 11 + 7, none⟩ = some e := Option.isSome_iff_exists.1 (hsome 7 (by omega))
  have q7 : w4.frozen? ⟨g, o + i * 11 + 7, none⟩ = false := hfree 7 (by omega)
  obtain ⟨e8, k8⟩ : ∃ e, w4.cell? ⟨g, o + i * 11 + 8, none⟩ = some e := Option.isSome_iff_exists.1 (hsome 8 (by omega))
  have q8 : w4.frozen? ⟨g, o + i * 11 + 8, none⟩ = false := hfree 8 (by omega)
  obtain ⟨e9, k9⟩ : ∃ e, w4.cell? ⟨g, o + i * 11 + 9, none⟩ = some e := Option.isSome_iff_exists.1 (hsome 9 (by omega))
  have q9 : w4.frozen? ⟨g, o + i * 11 + 9, none⟩ = false := hfree 9 (by omega)
  obtain ⟨e10, k10⟩ : ∃ e, w4.cell? ⟨g, o + i * 11 + 10, none⟩ = some e := Option.isSome_iff_exists.1 (hsome 10 (by omega))
  have q10 : w4.frozen? ⟨g, o + i * 11 + 10, none⟩ = false := hfree 10 (by omega)
  have HA := Lib.hid hA
  have HB := Lib.hid hB
  have HC := Lib.hid hC
  have HS := Lib.hid hs
  have HF := Lib.hid hf
  have HC1 := Lib.hid hc1
  have HC2 := Lib.hid hc2
  have HSM := Lib.hid hsome
  have HFR := Lib.hid hfree
  have HGN := Lib.hid hgn
  clear hA hB hC hs hf hc1 hc2 hblk hv hsome hfree he2 hgn
  go_wp2_with fail
  have hgw : w.heap.size ≤ g := by have := HGN.out; have := HSZ.out; omega
  obtain ⟨w5, hw5⟩ : ∃ w5, w5 = w4.setCells g (o + i * 11) [Value.string s0, .string s1, .int .i64 rd, .bool b0, .bool b1, .bool b2, .bool b3, .bool b4, .bool b5, .int .i64 rg, .int .i64 wg] := ⟨_, rfl⟩
  refine bodyPost_ret (v := .agg #[.bool nb, .slice (some ⟨g, o, none⟩) n c4]) (by simp [results, Try.results48, go_sem, c0, c1, a0, a1, fc, fa, hne1, hne2, hne3, hne4]) rfl ⟨g, o, c4, rfl, hgw, ?_, h2, h3, ?_, fun j hj => ?_⟩
  · simpa [World.setCell] using hg
  · have f4 : Frm (fun _ => False) w w4 := (HFr.out.allocR _).fresh HF.out (fun k hk h => by simp [Value.ownBlock] at h; have := HSZ.out; omega)
    have f5 : Frm (fun _ => False) w w5 := by
      rw [hw5]; exact f4.fresh (frm_setCells g (o + i * 11) _ w4) (fun k hk h => by omega)
    have f6 := ((f5.setNew (a := ⟨w.heap.size, 1, none⟩) (Nat.le_refl _) (.slice (some ⟨g, o, none⟩) n c4)).setNew (a := ⟨w.heap.size + 1 + 1, 0, none⟩) (by simp; omega) (.bool nb)).setNew (a := ⟨w.heap.size + 1 + 1, 1, none⟩) (by simp; omega) (.slice (some ⟨g, o, none⟩) n c4)
    rw [hw5] at f6
    exact f6
  · have hcell : w5.cell? ⟨g, o + j, none⟩ = if i * 11 ≤ j ∧ j < i * 11 + 11 then [Value.string s0, .string s1, .int .i64 rd, .bool b0, .bool b1, .bool b2, .bool b3, .bool b4, .bool b5, .int .i64 rg, .int .i64 wg][j - i * 11]? else xs[j]? := by
      rw [hw5]
      split
      · rename_i hin
        have hlt : j - i * 11 < 11 := by omega
        have := World.cell?_setCells_in g [Value.string s0, .string s1, .int .i64 rd, .bool b0, .bool b1, .bool b2, .bool b3, .bool b4, .bool b5, .int .i64 rg, .int .i64 wg] (o + i * 11) w4 (fun j hj => HSM.out j (by simpa using hj)) (j - i * 11) hlt
        rw [show o + i * 11 + (j - i * 11) = o + j by omega] at this
        rw [this, List.getElem?_eq_getElem hlt]
      · rename_i hout
        rw [World.cell?_setCells_out g _ _ _ _ (fun _ _ => by show o + j < o + i * 11 ∨ o + i * 11 + 11 ≤ o + j; omega)]
        exact HC1.out j hj
    rw [← hcell]
    have e1 : ∀ (W : World) (b k : Nat) (u : Value), g ≠ b → (W.setCell ⟨b, k, none⟩ u).cell? ⟨g, o + j, none⟩ = W.cell? ⟨g, o + j, none⟩ := fun W b k u hne => World.cell?_of_block (a := ⟨g, o + j, none⟩) (Below.heap_setCell _ _ _ _ hne)
    rw [e1 _ _ _ _ (by omega), e1 _ _ _ _ (by omega), e1 _ _ _ _ (by omega), hw5]
    rfl

/-- What a call leaves that makes new blocks alone and holds nothing. -/
theorem post_fresh {E : Env} {w w' : World} {β : Nat → Nat} {Rd : Nat → Nat → Prop} {Ow : Nat → Option Hold} {H : Hp} (hHR : HR E w β Rd Ow H) (hf : Frm (fun _ => False) w w') (N : Nat → Nat → Prop) (hN : ∀ g o, N g o → w.heap.size ≤ g ∧ g < w'.heap.size) {v : AV} {c : Value}
    (hrel : Rel w' β (fun g o => Rd g o ∨ N g o) v c) (hb : Bnd H.length v) (hfree : v.free = true) : Post E w β Rd Ow H w' β (fun g o => Rd g o ∨ N g o) Ow H v c := by
  have h3 : S3 E w (fun _ => False) Rd w β Rd Ow [] H #[] := ⟨hHR, ⟨rfl, fun t x u hx => by simp at hx⟩, ⟨fun _ h => h.elim, fun _ h => h.elim, fun _ h => h.elim, fun _ _ h => h.elim, fun _ _ h => h.elim, rfl, rfl, rfl, Nat.le_refl _, fun g o h => ⟨h, rfl⟩⟩, fun x hx => by cases hx⟩
  have h4 : S3 E w (fun _ => False) Rd w' β (fun g o => Rd g o ∨ N g o) Ow [] H #[] := h3.move
    (fun g o hg => ⟨.inl hg, World.cell?_of_block (a := ⟨g, o, none⟩) (hf.block g (hHR.rds g o hg) (fun h => h))⟩)
    (fun b hb' => ⟨hf.block b hb' (fun h => h), fun o ho => ho.resolve_right (fun e => by have := (hN _ _ e).1; omega)⟩)
    (fun g o ho => by
      rcases ho with h1 | h1
      · exact Nat.lt_of_lt_of_le (hHR.rds g o h1) hf.size
      · exact (hN _ _ h1).2) hf.size hf.os hf.tape hf.output
  refine ⟨hrel, hb, fun g hg => ?_, ?_, h4.hr, fun _ _ => rfl, Nat.le_refl _, fun g o hg => ⟨.inl hg, World.cell?_of_block (a := ⟨g, o, none⟩) (hf.block g (hHR.rds g o hg) (fun h => h))⟩,
    fun b hb' hbox how => ⟨hf.block b hb' (fun h => h), how, hbox, fun o ho => ho.resolve_right (fun e => by have := (hN _ _ e).1; omega)⟩, hf.os, hf.tape, hf.output, hf.size⟩
  · rw [own0_free hfree] at hg; cases hg
  · cases v <;> simp_all [AV.dis, AV.free]

/-- A connection of the document's, as its cells. -/
structure RC where
  del : List UInt8
  tak : List UInt8
  rd : Int
  acc : Bool
  ended : Bool
  rst : Bool
  cls : Bool
  ri : Bool
  wi : Bool
  rg : Int
  wg : Int
def RC.av (m : RC) : List AV := [.str m.del, .str m.tak, .int .i64 m.rd, .bool m.acc, .bool m.ended, .bool m.rst, .bool m.cls, .bool m.ri, .bool m.wi, .int .i64 m.rg, .int .i64 m.wg]
def rcs (l : List RC) : List (List AV) := l.map RC.av
theorem rcs_row (l : List RC) : ∀ r ∈ rcs l, r.length = 11 := fun r hr => by obtain ⟨m, _, rfl⟩ := List.mem_map.1 hr; rfl
theorem rcs_free (l : List RC) : ∀ r ∈ rcs l, ∀ x ∈ r, x.free = true ∧ x.one = true := fun r hr x hx => by
  obtain ⟨m, _, rfl⟩ := List.mem_map.1 hr
  simp [RC.av] at hx
  rcases hx with rfl | rfl | rfl | rfl | rfl | rfl | rfl | rfl | rfl | rfl | rfl <;> exact ⟨rfl, rfl⟩
theorem rcs_bnd (N : Nat) (l : List RC) : ∀ r ∈ rcs l, ∀ x ∈ r, Bnd N x := fun r hr x hx => by
  obtain ⟨m, _, rfl⟩ := List.mem_map.1 hr
  simp [RC.av] at hx
  rcases hx with rfl | rfl | rfl | rfl | rfl | rfl | rfl | rfl | rfl | rfl | rfl <;> simp
theorem with_pc (E : Env) (H : Hp) (Q : AV → Hp → Prop) (nb : Bool) (l : List RC) (hl : l.length ≤ 4096) (i : Nat) (hi : i < l.length) (m : RC) (hQ : Q (.agg [.bool nb, .sl false 11 (rcs (l.set i m))]) H) :
    PC Try.prog E 48 [.agg [.bool nb, .sl false 11 (rcs l)], .int .i64 i, .agg m.av] H Q := by
  refine ⟨by kernel_rfl, fun w β Rd Ow cargs hHR hOw hsz hargs => ?_⟩
  obtain ⟨v0, v1, v2, rfl⟩ : ∃ v0 v1 v2, cargs = #[v0, v1, v2] := by
    obtain ⟨l⟩ := cargs
    match l, hsz with
    | [v0, v1, v2], _ => exact ⟨v0, v1, v2, rfl⟩
  obtain ⟨r0, -, -⟩ := hargs 0 _ v0 rfl rfl
  obtain ⟨r1, -, -⟩ := hargs 1 _ v1 rfl rfl
  obtain ⟨r2, -, -⟩ := hargs 2 _ v2 rfl rfl
  obtain rfl := rel_int r1
  cases r0 with
  | agg _ vs0 hs0 _ hr0 =>
  cases r2 with
  | agg _ vs2 hs2 _ hr2 =>
  obtain ⟨u0, u1, rfl⟩ : ∃ u0 u1, vs0 = #[u0, u1] := by
    obtain ⟨q⟩ := vs0
    match q, hs0 with
    | [u0, u1], _ => exact ⟨u0, u1, rfl⟩
  obtain ⟨a0, a1, a2, a3, a4, a5, a6, a7, a8, a9, aa, ha⟩ := eleven (cs := vs2.toList) (by simpa [RC.av] using hs2)
  obtain rfl : vs2 = #[a0, a1, a2, a3, a4, a5, a6, a7, a8, a9, aa] := by rw [← ha]
  obtain rfl := rel_bool (hr0 0 _ u0 rfl rfl)
  have hsl := hr0 1 _ u1 rfl rfl
  obtain ⟨s0, rfl, z0, y0⟩ := rel_str (hr2 0 _ a0 rfl rfl)
  obtain ⟨s1, rfl, z1, y1⟩ := rel_str (hr2 1 _ a1 rfl rfl)
  obtain rfl := rel_int (hr2 2 _ a2 rfl rfl)
  obtain rfl := rel_bool (hr2 3 _ a3 rfl rfl)
  obtain rfl := rel_bool (hr2 4 _ a4 rfl rfl)
  obtain rfl := rel_bool (hr2 5 _ a5 rfl rfl)
  obtain rfl := rel_bool (hr2 6 _ a6 rfl rfl)
  obtain rfl := rel_bool (hr2 7 _ a7 rfl rfl)
  obtain rfl := rel_bool (hr2 8 _ a8 rfl rfl)
  obtain rfl := rel_int (hr2 9 _ a9 rfl rfl)
  obtain rfl := rel_int (hr2 10 _ aa rfl rfl)
  obtain ⟨xs, hk, hx, hd, hf, hr⟩ := rel_sl hsl
  have hxl := hx.1
  obtain ⟨n, hn⟩ : ∃ n, (rcs l).length = n := ⟨_, rfl⟩
  have hnl : n = l.length := by rw [← hn]; simp [rcs]
  have hone : ∀ u ∈ xs, u.oneCell' = true := Rel.slOne (own := false) (k := 11) (rows := rcs l) hk hxl (rcs_free l) hr
  rw [hn] at hx hxl hd
  obtain ⟨_, ao, cap, rfl, h2, h3, h4⟩ := id hx
  refine (with_ok nb hx hone (by omega) i (by omega) s0 s1 m.rd m.rg m.wg m.acc m.ended m.rst m.cls m.ri m.wi).mono ?_
  rintro e w' ⟨g, o, c', rfl, hg1, hg2, hc1, hc2, hF, hcell⟩
  refine ⟨_, _, H, β, _, Ow, rfl, hQ, post_fresh hHR hF (fun g' o' => g' = g ∧ o ≤ o' ∧ o' < o + n * 11) (fun g' o' h => ⟨by omega, by omega⟩) ?_ ?_ rfl⟩
  · have hlen' : (rcs (l.set i m)).length = n := by rw [hnl]; simp [rcs]
    have hR : ∀ g' o', Rd g' o' → (Rd g' o' ∨ (g' = g ∧ o ≤ o' ∧ o' < o + n * 11)) ∧ w'.cell? ⟨g', o', none⟩ = w.cell? ⟨g', o', none⟩ := fun g' o' hg' =>
      ⟨.inl hg', World.cell?_of_block (a := ⟨g', o', none⟩) (hF.block g' (hHR.rds g' o' hg') (fun h => h))⟩
    obtain ⟨us, hul, hus⟩ : ∃ us : List Value, us.length = n * 11 ∧ ∀ j, j < n * 11 → us[j]? = w'.cell? ⟨g, o + j, none⟩ := by
      refine ⟨(List.range (n * 11)).map fun j => (w'.cell? ⟨g, o + j, none⟩).getD (.bool false), by simp, fun j hj => ?_⟩
      have : ∃ u, w'.cell? ⟨g, o + j, none⟩ = some u := by
        rw [hcell j hj]
        split
        · exact ⟨_, List.getElem?_eq_getElem (by simp; omega)⟩
        · exact ⟨_, List.getElem?_eq_getElem (by omega)⟩
      obtain ⟨u, hu⟩ := this
      simp [hj, hu]
    have hmove : ∀ {x : AV} {u : Value}, Rel w β Rd x u → Bnd H.length x → x.free = true → Rel w' β (fun g' o' => Rd g' o' ∨ (g' = g ∧ o ≤ o' ∧ o' < o + n * 11)) x u := fun h hb hfr =>
      h.move hb hR (fun g' hg' => by rw [own0_free hfr] at hg'; cases hg') hF.size (fun _ _ => rfl)
    refine .agg _ _ rfl ?_ ?_
    · intro x hx; simp at hx; rcases hx with rfl | rfl <;> exact ⟨rfl, rfl⟩
    · intro j x u hx hu
      match j with
      | 0 => simp at hx hu; subst hx; subst hu; exact .bool _
      | 1 =>
        simp at hx hu; subst hx; subst hu
        refine .sl false 11 _ _ us (rcs_row _) ?_ ?_ (fun h => by cases h) (rcs_free _) ?_
        · rw [hlen']
          exact ⟨hul, _, c', rfl, hc1, hc2, fun _ => ⟨g, o, rfl, fun j hj => (hus j hj).symm⟩⟩
        · intro g' o' n' c'' he j hj
          cases he
          rw [hlen'] at hj
          exact .inr ⟨rfl, by omega, by omega⟩
        · intro j x u hx hu
          have hj : j < n * 11 := by have := (List.getElem?_eq_some_iff.1 hu).1; omega
          rw [hus j hj, hcell j hj] at hu
          have hq : j / 11 < l.length := by omega
          obtain ⟨y, hy⟩ : ∃ y, (rcs (l.set i m))[j / 11]? = some y := ⟨_, List.getElem?_eq_getElem (by rw [hlen']; omega)⟩
          have hfx := flat_row (rcs_row (l.set i m)) hy (j % 11) (by omega)
          rw [show j / 11 * 11 + j % 11 = j by omega, hx] at hfx
          have hy' : y = if j / 11 = i then m.av else (l[j / 11]).av := by
            simp only [rcs, List.getElem?_map, List.getElem?_set] at hy
            by_cases hqi : i = j / 11
            · rw [if_pos hqi, if_pos hi] at hy
              simp at hy
              rw [if_pos hqi.symm]; exact hy.symm
            · rw [if_neg hqi, List.getElem?_eq_getElem hq] at hy
              simp at hy
              rw [if_neg (Ne.symm hqi)]; exact hy.symm
          by_cases hqi : j / 11 = i
          · rw [if_pos hqi] at hy'
            rw [if_pos (by omega)] at hu
            subst hy'
            have hr := hr2 (j % 11) x u hfx.symm (by
              rw [show j % 11 = j - i * 11 by omega, ← hu]; simp)
            have hmem : [x] = [x] := rfl
            exact hmove hr (by
              have : m.av ∈ rcs [m] := by simp [rcs]
              exact rcs_bnd _ [m] _ this x (List.mem_of_getElem? hfx.symm)) (rcs_free [m] m.av (by simp [rcs]) x (List.mem_of_getElem? hfx.symm)).1
          · rw [if_neg hqi] at hy'
            rw [if_neg (by omega)] at hu
            subst hy'
            have hmemr : (l[j / 11]).av ∈ rcs l := List.mem_map.2 ⟨_, List.getElem_mem _, rfl⟩
            have hfo := flat_row (rcs_row l) (i := j / 11) (r := (l[j / 11]).av) (by simp [rcs, List.getElem?_eq_getElem hq]) (j % 11) (by omega)
            rw [show j / 11 * 11 + j % 11 = j by omega] at hfo
            have hr := hr j x u (by rw [hfo, ← hfx]) hu
            exact hmove hr (rcs_bnd _ l _ hmemr x (List.mem_of_getElem? hfx.symm)) (rcs_free l _ hmemr x (List.mem_of_getElem? hfx.symm)).1
      | j + 2 => simp at hx
  · refine .agg _ (fun x hx => ?_)
    simp at hx; rcases hx with rfl | rfl
    · exact .bool _
    · exact .sl _ _ _ (rcs_bnd _ _)
end Go.Proofs.Ytgnjdfnjohgnlaa

set_option linter.unusedVariables false
set_option linter.unusedSimpArgs false
set_option linter.unusedSectionVars false
set_option maxRecDepth 100000
namespace Go.Proofs.Ytgnjdfnjohgnlaa
open Go Go.RowKit

def rcOf (m : Cn) : RC := ⟨m.del, m.tak, m.rd, m.acc, m.ended, m.rst, m.cls, m.ri, m.wi, m.rg, m.wg⟩
def dRows (ms : List Cn) : List (List AV) := rcs (ms.map rcOf)
def dW (nb : Bool) (ms : List Cn) : AV := .agg [.bool nb, .sl false 11 (dRows ms)]
def dRow (m : Cn) : List AV := [.str m.del, .str m.tak, .int .i64 m.rd, .bool m.acc, .bool m.ended, .bool m.rst, .bool m.cls, .bool m.ri, .bool m.wi, .int .i64 m.rg, .int .i64 m.wg]
@[simp] theorem dRows_len (ms : List Cn) : (dRows ms).length = ms.length := by simp [dRows, rcs]
theorem dRows_at {ms : List Cn} {i : Nat} {m : Cn} (h : ms[i]? = some m) : lat (dRows ms) i = some (dRow m) := by simp [lat, dRows, rcs, h]; rfl
@[simp] theorem dRows_bnd (N : Nat) (ms : List Cn) : (∀ r ∈ dRows ms, ∀ x ∈ r, Bnd N x) = True := eq_true (rcs_bnd _ _)
theorem withm_pc (E : Env) (H : Hp) (Q : AV → Hp → Prop) (nb : Bool) (ms : List Cn) (hl : ms.length ≤ 4096) (i : Nat) (hi : i < ms.length) (m : Cn) (hQ : Q (dW nb (ms.set i m)) H) :
    PC Try.prog E 48 [.agg [.bool nb, .sl false 11 (dRows ms)], .int .i64 i, .agg (dRow m)] H Q :=
  with_pc E H Q nb (ms.map rcOf) (by simpa using hl) i (by simpa using hi) (rcOf m) (by rw [← List.map_set]; exact hQ)
section
variable (E : Env) (H : Hp) (nb : Bool) (ms : List Cn) (Q : AV → Hp → Prop) (hl : ms.length ≤ 4096)
include hl
def dThere (nb : Bool) (ms : List Cn) (n : Int) : Bool := !nb && decide (0 ≤ n) && decide (n < ms.length)
theorem there_pc (n : Int) (hQ : Q (.bool (dThere nb ms n)) H) : PC Try.prog E 47 [dW nb ms, .int .i64 n] H Q := by
  refine pc_enter Try.func47 rfl [] [] (by kernel_rfl) (fun hB => ?_)
  cases nb
  · by_cases h0 : 0 ≤ n
    · by_cases h1 : n < ms.length
      · simp [Try.ntmps47, Try.results47, List.replicate_succ, dW, h0, h1]
        rw [show dThere false ms n = true by simp [dThere, h0, h1]] at hQ
        exact aPost_same hB rfl (nilV_refl _) (by simp) hQ
      · simp [Try.ntmps47, Try.results47, List.replicate_succ, dW, h0, h1]
        rw [show dThere false ms n = false by simp [dThere, h0, h1]] at hQ
        exact aPost_same hB rfl (nilV_refl _) (by simp) hQ
    · simp [Try.ntmps47, Try.results47, List.replicate_succ, dW, h0]
      rw [show dThere false ms n = false by simp [dThere, h0]] at hQ
      exact aPost_same hB rfl (nilV_refl _) (by simp) hQ
  · simp [Try.ntmps47, Try.results47, List.replicate_succ, dW]
    exact aPost_same hB rfl (nilV_refl _) (by simp) hQ
/-- What a call that names a connection asks first; where it goes on: the connection. -/
theorem dserved_pc (n : Int) (hnb : nb = true → ms = []) (h0 : mServed ms n ≠ 0 → Q (.int .i64 (mServed ms n)) H) (h1 : ∀ (i : Nat) m, n = i → ms[i]? = some m → mServed ms n = 0 → Q (.int .i64 0) H) :
    PC Try.prog E 49 [dW nb ms, .int .i64 n] H Q := by
  refine pc_enter Try.func49 rfl [] [] (by kernel_rfl) (fun hB => ?_)
  simp [Try.ntmps49, Try.results49, List.replicate_succ, dW]
  refine there_pc E _ nb ms _ hl n ?_
  by_cases ht : dThere nb ms n = true
  · have hn : nb = false ∧ 0 ≤ n ∧ n < ms.length := by simpa [dThere, and_assoc] using ht
    obtain ⟨hn0, hn1, hn2⟩ := hn
    obtain ⟨i, rfl⟩ : ∃ i : Nat, n = i := ⟨n.toNat, by omega⟩
    obtain ⟨m, hm⟩ : ∃ m, ms[i]? = some m := ⟨_, List.getElem?_eq_getElem (by omega)⟩
    have hat := dRows_at hm
    unfold dRow at hat
    have hs := mServed_nat hm
    cases ha : m.acc <;> rw [ha] at hat hs
    · simp [ht, hat]
      simp at hs
      have := h0 (by rw [hs]; omega)
      rw [hs] at this
      exact aPost_same hB rfl (nilV_refl _) (by simp) this
    · cases hc : m.cls <;> rw [hc] at hat hs
      · simp [ht, hat]
        simp at hs
        exact aPost_same hB rfl (nilV_refl _) (by simp) (h1 i m rfl hm hs)
      · simp [ht, hat]
        simp at hs
        have := h0 (by rw [hs]; omega)
        rw [hs] at this
        exact aPost_same hB rfl (nilV_refl _) (by simp) this
  · have hs : mServed ms n = 240 := by
      cases nb with
      | true => rw [hnb rfl]; simp [mServed]
      | false =>
        have : ¬ (0 ≤ n ∧ n < ms.length) := fun h => ht (by simp [dThere, h])
        unfold mServed; rw [if_neg this]
    have ht' : dThere nb ms n = false := by simpa using ht
    simp [ht']
    have := h0 (by rw [hs]; omega)
    rw [hs] at this
    exact aPost_same hB rfl (nilV_refl _) (by simp) this
end
end Go.Proofs.Ytgnjdfnjohgnlaa

