/- Part 6 of the texts below the law: the abstract machine, the functions that it walks, what they compute. -/
import Derived.Test.YtnnhdehmlkkfjaaGreatDoorPa5
import Derived.Lib.SliceRun
import Derived.Lib.IndexLaws
import Derived.Lib.ItoaLen
import Derived.Shelf.Strings.Cut
import Derived.Shelf.Strings.IndexAnyAll
import Derived.Shelf.Strings.Prefix
import Derived.Shelf.Strings.Search3
import Derived.Shelf.Strings.Split
import Derived.Test.YtnnhdehmlkkfjaaGreatDoorProg
import Derived.KernelRfl
set_option linter.unusedVariables false
set_option linter.unusedSimpArgs false
set_option linter.unusedSectionVars false
set_option maxRecDepth 100000
namespace Go.Proofs.YtnnhdehmlkkfjaaGreatDoor
open Go Go.RowKit Go.Proofs

theorem bndH_set {H : Hp} (hB : BndH H.length H) (c : Nat) {l : List AV} (hl : ∀ x ∈ l, Bnd H.length x) : BndH (H.set c l).length (H.set c l) := by
  intro m hm x hx
  rw [List.length_set]
  rcases List.mem_or_eq_of_mem_set hm with h | h
  · exact hB m h x hx
  · rw [h] at hx; exact hl x hx
theorem aPost_set {P : Program} {rs : List ResultVar} {Q : AV → Hp → Prop} {fr : List AV} {H J : Hp} {v0 v : AV} {c : Nat} {l : List AV} (hB : BndH H.length H) (h1 : ares P fr (H.set c l ++ J) rs = some v0) (h2 : nilV v0 v) (hl : ∀ x ∈ l, Bnd H.length x) (h5 : Bnd H.length v) (h6 : Q v (H.set c l)) :
    aPost P rs H.length Q .ret fr (H.set c l ++ J) := aPost_end h1 h2 (by simp) (bndH_set hB c hl) (by simpa using h5) h6
theorem aPost_set0 {P : Program} {rs : List ResultVar} {Q : AV → Hp → Prop} {fr : List AV} {H : Hp} {v0 v : AV} {c : Nat} {l : List AV} (hB : BndH H.length H) (h1 : ares P fr (H.set c l) rs = some v0) (h2 : nilV v0 v) (hl : ∀ x ∈ l, Bnd H.length x) (h5 : Bnd H.length v) (h6 : Q v (H.set c l)) :
    aPost P rs H.length Q .ret fr (H.set c l) := by
  have := aPost_set (J := []) (P := P) (rs := rs) (Q := Q) (fr := fr) hB (by rw [List.append_nil]; exact h1) h2 hl h5 h6
  rwa [List.append_nil] at this
section
variable {H : Hp} {c : Nat} (h : c < H.length)
include h
theorem hs0 (J : Hp) : (H ++ J)[c]? = H[c]? := List.getElem?_append_left h
theorem hs1 (x : List AV) (J : Hp) : (H.set c x ++ J)[c]? = some x := by rw [List.getElem?_append_left (by simpa using h), List.getElem?_set_self h]
theorem hs2 (x y : List AV) (J : Hp) : (H.set c x ++ J).set c y = H.set c y ++ J := by rw [List.set_append_left _ _ (by simpa using h), List.set_set]
theorem hs3 (y : List AV) (J : Hp) : (H ++ J).set c y = H.set c y ++ J := List.set_append_left _ _ h
theorem hs4 (x : List AV) : (H.set c x)[c]? = some x := List.getElem?_set_self h
theorem hs5 (x y : List AV) : (H.set c x).set c y = H.set c y := List.set_set ..
end

/-- .. whose row has lists that are nil. -/
theorem aPost_setNJ {P : Program} {rs : List ResultVar} {Q : AV → Hp → Prop} {fr : List AV} {H J : Hp} {v : AV} {c : Nat} {l l' : List AV} (hB : BndH H.length H) (hc : c < H.length) (hn : nilL l l') (h1 : ares P fr (H.set c l ++ J) rs = some v) (hl : ∀ x ∈ l', Bnd H.length x) (h5 : Bnd H.length v) (h6 : Q v (H.set c l')) :
    aPost P rs H.length Q .ret fr (H.set c l ++ J) := by
  refine ⟨v, v, H.set c l' ++ J, H.set c l', J, h1, nilV_refl _, ?_, rfl, by simp, bndH_set hB c hl, by simpa using h5, h6⟩
  have := nilH_set (H.set c l ++ J) c l l' (hs1 hc _ _) hn
  rw [hs2 hc] at this
  exact this
theorem aPost_setN {P : Program} {rs : List ResultVar} {Q : AV → Hp → Prop} {fr : List AV} {H : Hp} {v : AV} {c : Nat} {l l' : List AV} (hB : BndH H.length H) (hc : c < H.length) (hn : nilL l l') (h1 : ares P fr (H.set c l) rs = some v) (hl : ∀ x ∈ l', Bnd H.length x) (h5 : Bnd H.length v) (h6 : Q v (H.set c l')) :
    aPost P rs H.length Q .ret fr (H.set c l) := by
  have := aPost_setNJ (J := []) (P := P) (rs := rs) (Q := Q) (fr := fr) hB hc hn (by rw [List.append_nil]; exact h1) hl h5 h6
  rwa [List.append_nil] at this
def flds (l : List Fld) : List (List AV) := l.map fun f => [.str f.name, .str f.value]
@[simp] theorem flds_length (l : List Fld) : (flds l).length = l.length := by simp [flds]
theorem flds_snoc (l : List Fld) (f : Fld) : flds l ++ [[.str f.name, .str f.value]] = flds (l ++ [f]) := by simp [flds]
theorem flds_at {l : List Fld} {i : Nat} {f : Fld} (h : l[i]? = some f) : lat (flds l) i = some [.str f.name, .str f.value] := by simp [lat, flds, h]
theorem bnd_flds {N : Nat} (o k) (l : List Fld) : Bnd N (.sl o k (flds l)) := .sl _ _ _ fun r hr x hx => by
  obtain ⟨c, _, rfl⟩ := List.mem_map.1 hr
  simp at hx
  rcases hx with rfl | rfl <;> exact .str _
@[simp] theorem bnd_flds' {N : Nat} (l : List Fld) : (∀ r ∈ flds l, ∀ x ∈ r, Bnd N x) = True := eq_true fun r hr x hx => by
  obtain ⟨c, _, rfl⟩ := List.mem_map.1 hr
  simp at hx
  rcases hx with rfl | rfl <;> exact .str _
@[simp] theorem bnd_bts' {N : Nat} (l : List UInt8) : (∀ r ∈ bts l, ∀ x ∈ r, Bnd N x) = True := eq_true (bnd_bts l)
theorem set_self {H : Hp} {i : Nat} {l : List AV} (h : H[i]? = some l) : H.set i l = H := by
  apply List.ext_getElem?
  intro j
  by_cases hj : i = j
  · subst hj; rw [List.getElem?_set_self (List.getElem?_eq_some_iff.1 h).1, h]
  · rw [List.getElem?_set_ne hj]
theorem byte_ne (b : UInt8) (n : Nat) (hn : n < 256) (h : b ≠ UInt8.ofNat n) : ((b.toNat : Int) == n) = false := by
  rw [beq_eq_false_iff_ne]
  exact fun e => h (UInt8.toNat_inj.1 (by rw [UInt8.toNat_ofNat', Nat.mod_eq_of_lt hn]; omega))
/-- What a decoder does next. -/
inductive Stg where
  | size | data | first | second | trailer
deriving DecidableEq
def Stg.fid : Stg → FuncId
  | .size => 217
  | .data => 231
  | .first => 239
  | .second => 246
  | .trailer => 230
/-- A decoder. -/
structure Dec where
  most : Int
  room : Int
  fields : Int
  st : Stg
  line : List UInt8
  left : Int
  body : List UInt8
  trailers : List Fld
  section_ : Nat
  total : Nat
  done : Bool
  err : Int
deriving DecidableEq
def Dec.av (d : Dec) : List AV := [.int .i64 d.most, .int .i64 d.room, .int .i64 d.fields, .fn d.st.fid [], .sl true 1 (bts d.line), .int .i64 d.left, .sl true 1 (bts d.body), .sl true 2 (flds d.trailers), .int .i64 d.section_, .int .i64 d.total, .bool d.done, .int .i64 d.err]
theorem Dec.bnd (d : Dec) (N : Nat) : ∀ x ∈ d.av, Bnd N x := by
  intro x hx
  simp [Dec.av] at hx
  rcases hx with rfl | rfl | rfl | rfl | rfl | rfl | rfl | rfl | rfl | rfl | rfl | rfl <;> simp
/-- A line without its end. -/
def endL (l : List UInt8) : Option (List UInt8) := if 2 ≤ l.length ∧ l.drop (l.length - 2) = [13, 10] then some (l.take (l.length - 2)) else none
def sizeD (d : Dec) (b : UInt8) : Dec × Int :=
  if b ≠ 10 then ({ d with line := d.line ++ [b] }, if 256 ≤ (d.line ++ [b]).length then 100 else 0)
  else match endL (d.line ++ [b]) with
    | none => ({ d with line := [] }, 100)
    | some s => if (sizeAns s).2.2 ≠ 0 then ({ d with line := [] }, (sizeAns s).2.2)
      else if d.most - d.body.length < (sizeAns s).1 then ({ d with line := [] }, 102)
      else if (sizeAns s).1 = 0 then ({ d with line := [], st := .trailer }, 0)
      else ({ d with line := [], left := (sizeAns s).1, st := .data }, 0)
def dataD (d : Dec) (b : UInt8) : Dec × Int := (if d.left = 1 then { d with body := d.body ++ [b], left := 0, st := .first } else { d with body := d.body ++ [b], left := d.left - 1 }, 0)
def firstD (d : Dec) (b : UInt8) : Dec × Int := if b ≠ 13 then (d, 100) else ({ d with st := .second }, 0)
def secondD (d : Dec) (b : UInt8) : Dec × Int := if b ≠ 10 then (d, 100) else ({ d with st := .size }, 0)
def trailerD (d : Dec) (b : UInt8) : Dec × Int :=
  if d.room ≤ d.section_ then (d, 104)
  else if b ≠ 10 then ({ d with section_ := d.section_ + 1, line := d.line ++ [b] }, 0)
  else match endL (d.line ++ [b]) with
    | none => ({ d with section_ := d.section_ + 1, line := [] }, 101)
    | some s => if s = [] then ({ d with section_ := d.section_ + 1, line := [], done := true }, 0)
      else if d.fields ≤ d.trailers.length then ({ d with section_ := d.section_ + 1, line := [] }, 104)
      else match lineF s with
        | none => ({ d with section_ := d.section_ + 1, line := [] }, 101)
        | some f => if mayB f.name = true then ({ d with section_ := d.section_ + 1, line := [], trailers := d.trailers ++ [f] }, 0) else ({ d with section_ := d.section_ + 1, line := [] }, 101)
section
variable (E : Env) (H : Hp) (Q : AV → Hp → Prop) (i : Nat) (d : Dec) (hd : H[i]? = some d.av)
include hd
theorem dec_lt : i < H.length := (List.getElem?_eq_some_iff.1 hd).1
theorem ended_pc (hl : d.line.length ≤ 1073741824) (hQ : Q (match endL d.line with | some s => .tup [.str s, .bool true] | none => .tup [.str [], .bool false]) (H.set i ({ d with line := [] } : Dec).av)) :
    PC Tryz.prog E 228 [.ptr (some (i, 0))] H Q := by
  have hlt := dec_lt H i d hd
  refine pc_enter Tryz.func228 rfl [] [] (by kernel_rfl) (fun hB => ?_)
  have hw : IntKind.i64.wrap ((d.line.length : Int) - 2) = d.line.length - 2 := wrap_in (by omega) (by omega)
  have hm : d.line.length ≤ maxLen := by unfold maxLen; omega
  simp [Dec.av] at hd
  simp [Tryz.ntmps228, Tryz.results228, List.replicate_succ, hd, hs0 hlt, hs1 hlt, hs2 hlt, hs3 hlt, hs4 hlt, hs5 hlt, hm, hw]
  have hn : nilL [AV.int .i64 d.most, .int .i64 d.room, .int .i64 d.fields, .fn d.st.fid [], .nil, .int .i64 d.left, .sl true 1 (bts d.body), .sl true 2 (flds d.trailers), .int .i64 d.section_, .int .i64 d.total, .bool d.done, .int .i64 d.err] ({ d with line := [] } : Dec).av :=
    ⟨.inl rfl, .inl rfl, .inl rfl, .inl rfl, .inr ⟨rfl, true, 1, rfl⟩, .inl rfl, .inl rfl, .inl rfl, .inl rfl, .inl rfl, .inl rfl, .inl rfl, trivial⟩
  by_cases h2 : 2 ≤ d.line.length
  · have h2' : (2 : Int) ≤ d.line.length := by omega
    have t1 : (0 : Int) ≤ d.line.length - 2 := by omega
    have t2 : ((d.line.length : Int) - 2).toNat = d.line.length - 2 := by omega
    have t3 : d.line.length - 2 ≤ d.line.length := by omega
    by_cases he : d.line.drop (d.line.length - 2) = [13, 10]
    · have hE : endL d.line = some (d.line.take (d.line.length - 2)) := if_pos ⟨h2, he⟩
      rw [hE] at hQ
      have he1 : (d.line.drop (d.line.length - 2) == [13, 10]) = true := beq_iff_eq.2 he
      simp [h2', t1, t2, t3, he1, h2]
      exact aPost_setN hB hlt hn (by simp) (({ d with line := [] } : Dec).bnd _) (by simp) hQ
    · have hE : endL d.line = none := if_neg (fun h => he h.2)
      have he2 : (d.line.drop (d.line.length - 2) == [13, 10]) = false := beq_eq_false_iff_ne.2 he
      rw [hE] at hQ
      simp [h2', t1, t2, t3, he2, h2]
      exact aPost_setN hB hlt hn (by simp) (({ d with line := [] } : Dec).bnd _) (by simp) hQ
  · have h2' : ¬ (2 : Int) ≤ d.line.length := by omega
    have hE : endL d.line = none := if_neg (fun h => h2 h.1)
    rw [hE] at hQ
    simp [h2']
    exact aPost_setN hB hlt hn (by simp) (({ d with line := [] } : Dec).bnd _) (by simp) hQ
variable (b : UInt8)
theorem first_pc (hQ : Q (.int .i64 (firstD d b).2) (H.set i (firstD d b).1.av)) : PC Tryz.prog E 239 [.ptr (some (i, 0)), .int .u8 (b.toNat : Int)] H Q := by
  have hlt := dec_lt H i d hd
  have hself : H.set i d.av = H := set_self hd
  refine pc_enter Tryz.func239 rfl [] [] (by kernel_rfl) (fun hB => ?_)
  by_cases hb : b = 13
  · subst hb
    have e : firstD d 13 = ({ d with st := .second }, 0) := rfl
    rw [e] at hQ
    simp [Dec.av] at hd
    simp [Tryz.ntmps239, Tryz.results239, List.replicate_succ, hd, hs0 hlt, hs1 hlt, hs2 hlt, hs3 hlt, hs4 hlt, hs5 hlt]
    exact aPost_set0 hB rfl (nilV_refl _) (({ d with st := .second } : Dec).bnd _) (by simp) hQ
  · have e : firstD d b = (d, 100) := if_pos hb
    have hb2 : ((b.toNat : Int) == 13) = false := byte_ne b 13 (by decide) hb
    rw [e] at hQ
    simp only [hself] at hQ
    simp [Tryz.ntmps239, Tryz.results239, List.replicate_succ, bne, hb2]
    exact aPost_same0 hB rfl (nilV_refl _) (by simp) hQ
theorem second_pc (hQ : Q (.int .i64 (secondD d b).2) (H.set i (secondD d b).1.av)) : PC Tryz.prog E 246 [.ptr (some (i, 0)), .int .u8 (b.toNat : Int)] H Q := by
  have hlt := dec_lt H i d hd
  have hself : H.set i d.av = H := set_self hd
  refine pc_enter Tryz.func246 rfl [] [] (by kernel_rfl) (fun hB => ?_)
  by_cases hb : b = 10
  · subst hb
    have e : secondD d 10 = ({ d with st := .size }, 0) := rfl
    rw [e] at hQ
    simp [Dec.av] at hd
    simp [Tryz.ntmps246, Tryz.results246, List.replicate_succ, hd, hs0 hlt, hs1 hlt, hs2 hlt, hs3 hlt, hs4 hlt, hs5 hlt]
    exact aPost_set0 hB rfl (nilV_refl _) (({ d with st := .size } : Dec).bnd _) (by simp) hQ
  · have e : secondD d b = (d, 100) := if_pos hb
    have hb2 : ((b.toNat : Int) == 10) = false := byte_ne b 10 (by decide) hb
    rw [e] at hQ
    simp only [hself] at hQ
    simp [Tryz.ntmps246, Tryz.results246, List.replicate_succ, bne, hb2]
    exact aPost_same0 hB rfl (nilV_refl _) (by simp) hQ
theorem data_pc (hl : d.body.length ≤ 1073741824) (hlf : 1 ≤ d.left ∧ d.left ≤ 1099511627776) (hQ : Q (.int .i64 (dataD d b).2) (H.set i (dataD d b).1.av)) : PC Tryz.prog E 231 [.ptr (some (i, 0)), .int .u8 (b.toNat : Int)] H Q := by
  have hlt := dec_lt H i d hd
  refine pc_enter Tryz.func231 rfl [9] [] (by kernel_rfl) (fun hB => ?_)
  have hw : IntKind.i64.wrap (d.left - 1) = d.left - 1 := wrap_in (by omega) (by omega)
  have m1 : d.body.length + 1 ≤ maxLen := by unfold maxLen; omega
  have m2 : d.body.length + 1 ≤ 140737488355328 := by omega
  simp [Dec.av] at hd
  by_cases h1 : d.left = 1
  · have e : dataD d b = ({ d with body := d.body ++ [b], left := 0, st := .first }, 0) := by unfold dataD; rw [if_pos h1]
    rw [e] at hQ
    have hw1 : IntKind.i64.wrap 0 = 0 := rfl
    simp [Tryz.ntmps231, Tryz.results231, List.replicate_succ, hd, hs0 hlt, hs1 hlt, hs2 hlt, hs3 hlt, hs4 hlt, hs5 hlt, m1, m2, h1, hw1, bts_snoc]
    exact aPost_set0 hB rfl (nilV_refl _) (({ d with body := d.body ++ [b], left := 0, st := .first } : Dec).bnd _) (by simp) hQ
  · have e : dataD d b = ({ d with body := d.body ++ [b], left := d.left - 1 }, 0) := by unfold dataD; rw [if_neg h1]
    rw [e] at hQ
    have h0 : (d.left - 1 == 0) = false := by rw [beq_eq_false_iff_ne]; omega
    simp [Tryz.ntmps231, Tryz.results231, List.replicate_succ, hd, hs0 hlt, hs1 hlt, hs2 hlt, hs3 hlt, hs4 hlt, hs5 hlt, m1, m2, hw, h0, bts_snoc]
    exact aPost_set0 hB rfl (nilV_refl _) (({ d with body := d.body ++ [b], left := d.left - 1 } : Dec).bnd _) (by simp) hQ
end
end Go.Proofs.YtnnhdehmlkkfjaaGreatDoor

set_option linter.unusedVariables false
set_option linter.unusedSimpArgs false
set_option linter.unusedSectionVars false
set_option maxRecDepth 100000
namespace Go.Proofs.YtnnhdehmlkkfjaaGreatDoor
open Go Go.RowKit Go.Proofs

theorem sizeAns_rng (l : List UInt8) (h : (sizeAns l).2.2 = 0) : 0 ≤ (sizeAns l).1 ∧ (sizeAns l).1 ≤ 1099511627776 := by
  unfold sizeAns at h ⊢
  split at h
  · simp at h
  · rename_i h1
    rw [if_neg h1]
    split at h
    · simp at h
    · rename_i h2
      rw [if_neg h2]
      split at h
      · simp at h
      · rename_i h3
        rw [if_neg h3]
        simp only [ne_eq, Decidable.not_not] at h3
        simp only
        unfold numAns at h3 ⊢
        split at h3
        · simp at h3
        · rename_i g1
          rw [if_neg g1]
          split at h3
          · simp at h3
          · rename_i g2
            rw [if_neg g2]
            split at h3
            · simp at h3
            · rename_i g3
              rw [if_neg g3]
              have := numOf_nonneg 16 (by omega) _ (by simpa using g2)
              simp only
              omega
section
variable (E : Env) (H : Hp) (Q : AV → Hp → Prop) (i : Nat) (d : Dec) (hd : H[i]? = some d.av) (b : UInt8)
include hd
theorem size_pc (hE : SE E) (hl : d.line.length ≤ 1000000000) (hbl : d.body.length ≤ 1073741824) (hm : 0 ≤ d.most ∧ d.most ≤ 9223372036854775807) (hQ : Q (.int .i64 (sizeD d b).2) (H.set i (sizeD d b).1.av)) : PC Tryz.prog E 217 [.ptr (some (i, 0)), .int .u8 (b.toNat : Int)] H Q := by
  have hlt := dec_lt H i d hd
  refine pc_enter Tryz.func217 rfl [14] [] (by kernel_rfl) (fun hB => ?_)
  have m1 : d.line.length + 1 ≤ maxLen := by unfold maxLen; omega
  have m2 : d.line.length + 1 ≤ 140737488355328 := by omega
  simp [Dec.av] at hd
  by_cases hb : b = 10
  · subst hb
    have e0 : sizeD d 10 = (match endL (d.line ++ [10]) with
      | none => ({ d with line := [] }, 100)
      | some s => if (sizeAns s).2.2 ≠ 0 then ({ d with line := [] }, (sizeAns s).2.2)
        else if d.most - d.body.length < (sizeAns s).1 then ({ d with line := [] }, 102)
        else if (sizeAns s).1 = 0 then ({ d with line := [], st := .trailer }, 0)
        else ({ d with line := [], left := (sizeAns s).1, st := .data }, 0)) := rfl
    rw [e0] at hQ
    clear e0
    have hb10 : [AV.int .u8 10] = [AV.int .u8 ((10 : UInt8).toNat : Int)] := rfl
    have hsn : bts d.line ++ [[AV.int .u8 10]] = bts (d.line ++ [10]) := bts_snoc d.line 10
    simp [Tryz.ntmps217, Tryz.results217, List.replicate_succ, hd, hs0 hlt, hs1 hlt, hs2 hlt, hs3 hlt, hs4 hlt, hs5 hlt, m1, m2, hsn]
    refine ended_pc E _ _ i { d with line := d.line ++ [10] } (by rw [List.getElem?_set_self hlt]; rfl) (by simp; omega) ?_
    cases hend : endL (d.line ++ [10]) with
    | none =>
      rw [hend] at hQ
      simp
      exact aPost_set0 hB rfl (nilV_refl _) (({ d with line := [] } : Dec).bnd _) (by simp) hQ
    | some s =>
      rw [hend] at hQ
      simp only at hQ
      have hsl : s.length ≤ cap := by
        unfold endL at hend
        split at hend
        · cases hend
          rw [List.length_take, List.length_append]
          simp only [cap]; simp; omega
        · cases hend
      simp
      refine parseSize_pc E _ _ hE s hsl ?_
      by_cases he : (sizeAns s).2.2 = 0
      · rw [if_neg (by simpa using he)] at hQ
        have hrg := sizeAns_rng s he
        have hw : IntKind.i64.wrap (d.most - d.body.length) = d.most - d.body.length := wrap_in (by omega) (by omega)
        by_cases hmu : d.most - d.body.length < (sizeAns s).1
        · rw [if_pos hmu] at hQ
          simp [he, Dec.av, hs0 hlt, hs1 hlt, hs2 hlt, hs3 hlt, hs4 hlt, hs5 hlt, hw, hmu]
          exact aPost_set0 hB rfl (nilV_refl _) (({ d with line := [] } : Dec).bnd _) (by simp) hQ
        · rw [if_neg hmu] at hQ
          by_cases hz : (sizeAns s).1 = 0
          · rw [if_pos hz] at hQ
            rw [hz] at hmu
            simp [he, Dec.av, hs0 hlt, hs1 hlt, hs2 hlt, hs3 hlt, hs4 hlt, hs5 hlt, hw, hmu, hz]
            exact aPost_set0 hB rfl (nilV_refl _) (({ d with line := [], st := .trailer } : Dec).bnd _) (by simp) hQ
          · rw [if_neg hz] at hQ
            have hz2 : ((sizeAns s).1 == 0) = false := beq_eq_false_iff_ne.2 hz
            simp [he, Dec.av, hs0 hlt, hs1 hlt, hs2 hlt, hs3 hlt, hs4 hlt, hs5 hlt, hw, hmu, hz2]
            exact aPost_set0 hB rfl (nilV_refl _) (({ d with line := [], left := (sizeAns s).1, st := .data } : Dec).bnd _) (by simp) hQ
      · rw [if_pos (by simpa using he)] at hQ
        have he2 : ((sizeAns s).2.2 != 0) = true := by simpa using he
        simp [he2]
        exact aPost_set0 hB rfl (nilV_refl _) (({ d with line := [] } : Dec).bnd _) (by simp) hQ
  · have e0 : sizeD d b = ({ d with line := d.line ++ [b] }, if 256 ≤ (d.line ++ [b]).length then 100 else 0) := if_pos hb
    rw [e0] at hQ
    have hb2 : ((b.toNat : Int) == 10) = false := byte_ne b 10 (by decide) hb
    by_cases h256 : 256 ≤ (d.line ++ [b]).length
    · rw [if_pos h256] at hQ
      have h256' : (256 : Int) ≤ d.line.length + 1 := by simp at h256; omega
      simp [Tryz.ntmps217, Tryz.results217, List.replicate_succ, hd, hs0 hlt, hs1 hlt, hs2 hlt, hs3 hlt, hs4 hlt, hs5 hlt, m1, m2, bts_snoc, bne, hb2, h256']
      exact aPost_set0 hB rfl (nilV_refl _) (({ d with line := d.line ++ [b] } : Dec).bnd _) (by simp) hQ
    · rw [if_neg h256] at hQ
      have h256' : ¬ (256 : Int) ≤ d.line.length + 1 := by simp at h256; omega
      simp [Tryz.ntmps217, Tryz.results217, List.replicate_succ, hd, hs0 hlt, hs1 hlt, hs2 hlt, hs3 hlt, hs4 hlt, hs5 hlt, m1, m2, bts_snoc, bne, hb2, h256']
      exact aPost_set0 hB rfl (nilV_refl _) (({ d with line := d.line ++ [b] } : Dec).bnd _) (by simp) hQ
theorem trailer_pc (hE : SE E) (hl : d.line.length ≤ 1000000000) (htl : d.trailers.length ≤ 1073741824) (hsl : d.section_ ≤ 1073741824) (hQ : Q (.int .i64 (trailerD d b).2) (H.set i (trailerD d b).1.av)) : PC Tryz.prog E 230 [.ptr (some (i, 0)), .int .u8 (b.toNat : Int)] H Q := by
  have hlt := dec_lt H i d hd
  have hself : H.set i d.av = H := set_self hd
  refine pc_enter Tryz.func230 rfl [30, 78] [] (by kernel_rfl) (fun hB => ?_)
  have m1 : d.line.length + 1 ≤ maxLen := by unfold maxLen; omega
  have m2 : d.line.length + 1 ≤ 140737488355328 := by omega
  have m3 : d.trailers.length + 1 ≤ maxLen := by unfold maxLen; omega
  have m4 : (d.trailers.length + 1) * 32 ≤ 140737488355328 := by omega
  have hw : IntKind.i64.wrap ((d.section_ : Int) + 1) = ((d.section_ + 1 : Nat) : Int) := by rw [wrap_in (by omega) (by omega)]; omega
  simp [Dec.av] at hd
  by_cases hr : d.room ≤ d.section_
  · have e0 : trailerD d b = (d, 104) := if_pos hr
    rw [e0] at hQ
    simp only [hself] at hQ
    simp [Tryz.ntmps230, Tryz.results230, List.replicate_succ, hd, hs0 hlt, hs1 hlt, hs2 hlt, hs3 hlt, hs4 hlt, hs5 hlt, hr]
    exact aPost_same0 hB rfl (nilV_refl _) (by simp) hQ
  · by_cases hb : b = 10
    · subst hb
      have e0 : trailerD d 10 = (match endL (d.line ++ [10]) with
        | none => ({ d with section_ := d.section_ + 1, line := [] }, 101)
        | some s => if s = [] then ({ d with section_ := d.section_ + 1, line := [], done := true }, 0)
          else if d.fields ≤ d.trailers.length then ({ d with section_ := d.section_ + 1, line := [] }, 104)
          else match lineF s with
            | none => ({ d with section_ := d.section_ + 1, line := [] }, 101)
            | some f => if mayB f.name = true then ({ d with section_ := d.section_ + 1, line := [], trailers := d.trailers ++ [f] }, 0) else ({ d with section_ := d.section_ + 1, line := [] }, 101)) := by
        unfold trailerD
        rw [if_neg hr]; rfl
      rw [e0] at hQ
      clear e0
      have hsn : bts d.line ++ [[AV.int .u8 10]] = bts (d.line ++ [10]) := bts_snoc d.line 10
      simp [Tryz.ntmps230, Tryz.results230, List.replicate_succ, hd, hs0 hlt, hs1 hlt, hs2 hlt, hs3 hlt, hs4 hlt, hs5 hlt, hr, m1, m2, hsn, hw, -Int.natCast_add]
      refine ended_pc E _ _ i { d with line := d.line ++ [10], section_ := d.section_ + 1 } (by rw [List.getElem?_set_self hlt]; rfl) (by simp; omega) ?_
      cases hend : endL (d.line ++ [10]) with
      | none =>
        rw [hend] at hQ
        simp
        exact aPost_set0 hB rfl (nilV_refl _) (({ d with section_ := d.section_ + 1, line := [] } : Dec).bnd _) (by simp) hQ
      | some s =>
        rw [hend] at hQ
        simp only at hQ
        have hsl : s.length ≤ cap := by
          unfold endL at hend
          split at hend
          · cases hend
            rw [List.length_take, List.length_append]
            simp only [cap]; simp; omega
          · cases hend
        by_cases hse : s = []
        · rw [if_pos hse] at hQ
          subst hse
          simp [Dec.av, hs0 hlt, hs1 hlt, hs2 hlt, hs3 hlt, hs4 hlt, hs5 hlt]
          exact aPost_set0 hB rfl (nilV_refl _) (({ d with section_ := d.section_ + 1, line := [], done := true } : Dec).bnd _) (by simp) hQ
        · rw [if_neg hse] at hQ
          have hs02 : (s == []) = false := beq_eq_false_iff_ne.2 hse
          by_cases hf : d.fields ≤ d.trailers.length
          · rw [if_pos hf] at hQ
            simp [Dec.av, hs0 hlt, hs1 hlt, hs2 hlt, hs3 hlt, hs4 hlt, hs5 hlt, hs02, hf]
            exact aPost_set0 hB rfl (nilV_refl _) (({ d with section_ := d.section_ + 1, line := [] } : Dec).bnd _) (by simp) hQ
          · rw [if_neg hf] at hQ
            simp [Dec.av, hs0 hlt, hs1 hlt, hs2 hlt, hs3 hlt, hs4 hlt, hs5 hlt, hs02, hf]
            refine parseLine_pc E _ _ hE s hsl (fun f hlf => ?_) (fun hlf pl e he => ?_)
            · rw [hlf] at hQ
              simp only at hQ
              have hfn : f.name.length ≤ cap := by
                unfold lineF at hlf
                split at hlf
                · cases hlf
                  simp only [List.length_take]; omega
                · cases hlf
              simp
              refine mayTrail_pc E _ _ hE f.name hfn ?_
              cases hmt : mayB f.name with
              | true =>
                rw [if_pos hmt] at hQ
                simp [hs0 hlt, hs1 hlt, hs2 hlt, hs3 hlt, hs4 hlt, hs5 hlt, m3, m4, flds_snoc]
                exact aPost_set hB rfl (nilV_refl _) (({ d with section_ := d.section_ + 1, line := [], trailers := d.trailers ++ [f] } : Dec).bnd _) (by simp) hQ
              | false =>
                rw [if_neg (by rw [hmt]; simp)] at hQ
                simp
                exact aPost_set hB rfl (nilV_refl _) (({ d with section_ := d.section_ + 1, line := [] } : Dec).bnd _) (by simp) hQ
            · rw [hlf] at hQ
              have he2 : (e != 0) = true := by simpa using he
              simp [he2]
              exact aPost_set hB rfl (nilV_refl _) (({ d with section_ := d.section_ + 1, line := [] } : Dec).bnd _) (by simp) hQ
    · have e0 : trailerD d b = ({ d with section_ := d.section_ + 1, line := d.line ++ [b] }, 0) := by unfold trailerD; rw [if_neg hr, if_pos hb]
      rw [e0] at hQ
      have hb2 : ((b.toNat : Int) == 10) = false := byte_ne b 10 (by decide) hb
      simp [Tryz.ntmps230, Tryz.results230, List.replicate_succ, hd, hs0 hlt, hs1 hlt, hs2 hlt, hs3 hlt, hs4 hlt, hs5 hlt, hr, m1, m2, bts_snoc, bne, hb2, hw, -Int.natCast_add]
      exact aPost_set0 hB rfl (nilV_refl _) (({ d with section_ := d.section_ + 1, line := d.line ++ [b] } : Dec).bnd _) (by simp) hQ
end
end Go.Proofs.YtnnhdehmlkkfjaaGreatDoor

set_option linter.unusedVariables false
set_option linter.unusedSimpArgs false
set_option linter.unusedSectionVars false
set_option maxRecDepth 100000
namespace Go.Proofs.YtnnhdehmlkkfjaaGreatDoor
open Go Go.RowKit Go.Proofs

/-- Does a text begin with a blank? -/
def lnb (l : List UInt8) : Bool := match l with
  | [] => false
  | a :: _ => blankB a
/-- What a line says: the field, the place, the error. -/
def lineX (l : List UInt8) : Fld × Int × Int :=
  if lnb l = true then ((⟨[], []⟩ : Fld), 0, 63) else if l.length ≤ run ncol l then ((⟨[], []⟩ : Fld), l.length, 62) else if run ncol l = 0 then ((⟨[], []⟩ : Fld), 0, 60)
  else if min (run signB l) 128 < run ncol l then ((⟨[], []⟩ : Fld), (min (run signB l) 128 : Nat), 60)
  else if run fcB (l.drop (run ncol l + 1)) < (l.drop (run ncol l + 1)).length then ((⟨[], []⟩ : Fld), (run ncol l + 1 + run fcB (l.drop (run ncol l + 1)) : Nat), 61)
  else if 8192 < (trimB (l.drop (run ncol l + 1))).length then ((⟨[], []⟩ : Fld), (run ncol l + 1 + run blankB (l.drop (run ncol l + 1)) + 8192 : Nat), 61)
  else (⟨l.take (run ncol l), trimB (l.drop (run ncol l + 1))⟩, 0, 0)
theorem rb_le (l : List UInt8) : run blankB l ≤ l.length := run_le blankB l
theorem lead_len (l : List UInt8) : ((l.length : Int) - (Lib.trimLeftS l [32, 9]).length) = run blankB l := by
  have e : Lib.trimLeftS l [32, 9] = l.dropWhile blankB := by unfold Lib.trimLeftS; rw [sp_blank]
  rw [e]
  have h := congrArg List.length (List.takeWhile_append_dropWhile (p := blankB) (l := l))
  rw [List.length_append] at h
  unfold run
  omega
theorem run_ge (p : UInt8 → Bool) : ∀ (n : Nat) (l : List UInt8), (l.take n).all p = true → n ≤ l.length → n ≤ run p l
  | 0, _, _, _ => Nat.zero_le _
  | n + 1, [], _, h => by simp at h
  | n + 1, a :: l, h, hn => by
    simp only [List.take_succ_cons, List.all_cons, Bool.and_eq_true] at h
    have := run_ge p n l h.2 (by simpa using hn)
    unfold run at this ⊢
    rw [List.takeWhile_cons, if_pos h.1]
    simpa using this
theorem run_whole {p : UInt8 → Bool} {l : List UInt8} (h : l.all p = true) : run p l = l.length := by
  have := run_ge p l.length l (by rw [List.take_length]; exact h) (Nat.le_refl _)
  have := run_le p l
  omega
section
variable {l : List UInt8} (hf : lnb l = false)
theorem lineX_nil : lineX [] = ((⟨[], []⟩ : Fld), 0, 62) := rfl
theorem lineX_fold (a : UInt8) (r : List UInt8) (h : blankB a = true) : lineX (a :: r) = ((⟨[], []⟩ : Fld), 0, 63) := by unfold lineX; rw [if_pos (show lnb (a :: r) = true from h)]
include hf
theorem lineX_nocol (h : l.length ≤ run ncol l) : lineX l = ((⟨[], []⟩ : Fld), (l.length : Int), 62) := by unfold lineX; rw [if_neg (by rw [hf]; simp), if_pos h]
theorem lineX_zero (h1 : run ncol l < l.length) (h : run ncol l = 0) : lineX l = ((⟨[], []⟩ : Fld), 0, 60) := by unfold lineX; rw [if_neg (by rw [hf]; simp), if_neg (by omega), if_pos h]
theorem lineX_name (h1 : run ncol l < l.length) (h2 : run ncol l ≠ 0) (h : min (run signB l) 128 < run ncol l) : lineX l = ((⟨[], []⟩ : Fld), ((min (run signB l) 128 : Nat) : Int), 60) := by unfold lineX; rw [if_neg (by rw [hf]; simp), if_neg (by omega), if_neg h2, if_pos h]
theorem lineX_long (h1 : run ncol l < l.length) (h2 : run ncol l ≠ 0) {i : Nat} (hall : (l.take i).all signB = true) (hi : 128 ≤ i) (hi2 : i ≤ 128) (h : i < run ncol l) : lineX l = ((⟨[], []⟩ : Fld), (i : Int), 60) := by
  have := run_ge signB i l hall (by omega)
  have e : min (run signB l) 128 = i := by omega
  rw [lineX_name hf h1 h2 (by omega), e]
theorem lineX_bad (h1 : run ncol l < l.length) (h2 : run ncol l ≠ 0) {i : Nat} {b : UInt8} (hall : (l.take i).all signB = true) (hi : i ≤ 128) (h : i < run ncol l) (hb : l[i]? = some b) (hs : signB b = false) : lineX l = ((⟨[], []⟩ : Fld), (i : Int), 60) := by
  have := run_step signB l i hall (by omega) (fun c hc => by rw [hb] at hc; cases hc; exact hs)
  have e : min (run signB l) 128 = i := by omega
  rw [lineX_name hf h1 h2 (by omega), e]
omit hf in
theorem name_run (h1 : run ncol l < l.length) (hn : nameB (l.take (run ncol l)) = true) : ¬ min (run signB l) 128 < run ncol l := by
  unfold nameB tokB at hn
  simp only [Bool.and_eq_true, decide_eq_true_eq] at hn
  rw [List.length_take] at hn
  have := run_ge signB (run ncol l) l hn.2.1 (by omega)
  omega
omit hf in
theorem name_ne (hn : nameB (l.take (run ncol l)) = true) : run ncol l ≠ 0 := fun e => by rw [e, List.take_zero] at hn; rw [nameB_nil] at hn; cases hn
theorem lineX_val (h1 : run ncol l < l.length) (hn : nameB (l.take (run ncol l)) = true) {i : Nat} {b : UInt8} (hi : run ncol l + 1 ≤ i) (hall : fldB ((l.drop (run ncol l + 1)).take (i - (run ncol l + 1))) = true) (hb : (l.drop (run ncol l + 1))[i - (run ncol l + 1)]? = some b) (hs : fcB b = false) :
    lineX l = ((⟨[], []⟩ : Fld), ((run ncol l + 1 + (i - (run ncol l + 1)) : Nat) : Int), 61) := by
  have hlt := (List.getElem?_eq_some_iff.1 hb).1
  have := run_step fcB (l.drop (run ncol l + 1)) _ hall (by omega) (fun c hc => by rw [hb] at hc; cases hc; exact hs)
  unfold lineX
  rw [if_neg (by rw [hf]; simp), if_neg (by omega), if_neg (name_ne hn), if_neg (name_run h1 hn), this, if_pos hlt]
theorem lineX_big (h1 : run ncol l < l.length) (hn : nameB (l.take (run ncol l)) = true) (hv : fldB (l.drop (run ncol l + 1)) = true) (h : 8192 < (trimB (l.drop (run ncol l + 1))).length) :
    lineX l = ((⟨[], []⟩ : Fld), ((run ncol l + 1 + run blankB (l.drop (run ncol l + 1)) + 8192 : Nat) : Int), 61) := by
  have := run_whole hv
  unfold lineX
  rw [if_neg (by rw [hf]; simp), if_neg (by omega), if_neg (name_ne hn), if_neg (name_run h1 hn), if_neg (by omega), if_pos h]
theorem lineX_yes (h1 : run ncol l < l.length) (hn : nameB (l.take (run ncol l)) = true) (hv : fldB (l.drop (run ncol l + 1)) = true) (h : ¬ 8192 < (trimB (l.drop (run ncol l + 1))).length) :
    lineX l = (⟨l.take (run ncol l), trimB (l.drop (run ncol l + 1))⟩, 0, 0) := by
  have := run_whole hv
  unfold lineX
  rw [if_neg (by rw [hf]; simp), if_neg (by omega), if_neg (name_ne hn), if_neg (name_run h1 hn), if_neg (by omega), if_neg h]
end
section
variable (E : Env) (H : Hp) (Q : AV → Hp → Prop)
theorem trimLeftX_pc (l : List UInt8) (hl : l.length ≤ cap) (hQ : Q (.str (Lib.trimLeftS l [32, 9])) H) : PC Tryz.prog E 200 [.str l, .str [32, 9]] H Q := by
  have hle : (Lib.trimLeftS l [32, 9]).length ≤ l.length := by
    unfold Lib.trimLeftS
    exact (List.dropWhile_sublist _).length_le
  refine pc_of_calls (v := .str (Lib.trimLeftS l [32, 9])) (by kernel_rfl) (fun _ => True) (fun w hw => trivial) (fun w β Rd cargs hS hsz hargs => ?_) (.str _) rfl hQ
  obtain ⟨u, v, rfl, hu, hv⟩ := args2 hsz hargs
  obtain ⟨s, rfl, rfl, hs⟩ := rel_str hu
  obtain ⟨t, rfl, ht, _⟩ := rel_str hv
  have h116 : (Tryz.prog.info? (lren.t 116)).map (fun i => (i.zero, i.size)) = some (some (.agg (Array.replicate 256 (.bool false))), 256) := by kernel_rfl
  have htl : t.size = 2 := by rw [← size_toList, ht]; rfl
  refine (Any.strings_TrimLeft_ascii lays161 (zero_of_info h116).1 (zero_of_info h116).2 s t w (by rw [htl]; omega) (fun j b hb => by
    rw [ht] at hb
    match j with
    | 0 => simp at hb; subst hb; decide
    | 1 => simp at hb; subst hb; decide
    | j + 2 => simp at hb)).mono ?_
  rintro e w' ⟨rfl, hb⟩
  rw [ht]
  exact ⟨_, rfl, frm_below hb, rel_tx _ (cap_max (Nat.le_trans hle hl))⟩
set_option maxHeartbeats 1000000 in
theorem parseLineX_pc (hE : SE E) (l : List UInt8) (hl : l.length ≤ cap) (hQ : Q (.tup [.agg [.str (lineX l).1.name, .str (lineX l).1.value], .int .i64 (lineX l).2.1, .int .i64 (lineX l).2.2]) H) :
    PC Tryz.prog E 167 [.str l] H Q := by
  refine pc_enter Tryz.func167 rfl [] [] (by kernel_rfl) (fun hB => ?_)
  have hl' := hl
  simp only [cap] at hl'
  obtain ⟨c, hc⟩ : ∃ c, run ncol l = c := ⟨_, rfl⟩
  have hcl := run_le ncol l
  rw [hc] at hcl
  have hib := indexByte_run l
  rw [hc] at hib
  have bad : ∀ (fr : List AV) (pl e : Int), lineX l = ((⟨[], []⟩ : Fld), pl, e) → aget fr 2 = .ptr (some (H.length, 0)) → aget fr 3 = .int .i64 pl → aget fr 4 = .int .i64 e → aPost Tryz.prog [ResultVar.cell 2 65, ResultVar.tmp 3, ResultVar.tmp 4] H.length Q .ret fr (H ++ [[.str [], .str []]]) := fun fr pl e h0 h2 h3 h4 =>
    aPost_same hB (v0 := .tup [.agg [.str [], .str []], .int .i64 pl, .int .i64 e]) (by simp [h2, h3, h4]) (nilV_refl _) (by simp) (by rw [h0] at hQ; exact hQ)
  have hcase : l = [] ∨ (∃ a r, l = a :: r ∧ blankB a = true) ∨ (∃ a r, l = a :: r ∧ blankB a = false) := by
    cases l with
    | nil => exact .inl rfl
    | cons a r =>
      cases hb : blankB a
      · exact .inr (.inr ⟨a, r, rfl, hb⟩)
      · exact .inr (.inl ⟨a, r, rfl, hb⟩)
  rcases hcase with rfl | ⟨a, r, rfl, hb⟩ | ⟨a, r, hl0, hb⟩
  · simp [Tryz.ntmps167, Tryz.results167, List.replicate_succ]
    refine indexByte_pc E _ _ [] 58 ?_
    have e0 : Lib.indexByte [] 58 = -1 := rfl
    rw [e0]
    simp
    exact bad _ 0 62 lineX_nil rfl rfl rfl
  · have hc0 := lineX_fold a r hb
    have hib2 : 0 ≤ Lib.indexByte [32, 9] a := by rw [ib_blank]; exact hb
    have hne : (a :: r != []) = true := rfl
    simp [Tryz.ntmps167, Tryz.results167, List.replicate_succ, hne]
    refine indexByte_pc E _ _ [32, 9] a ?_
    simp [hib2]
    exact bad _ 0 63 hc0 rfl rfl rfl
  · have hib2 : ¬ 0 ≤ Lib.indexByte [32, 9] a := by rw [ib_blank, hb]; simp
    have hne : (l != []) = true := by rw [hl0]; rfl
    have hl1 : 0 < l.length := by rw [hl0]; simp
    have hla : lat l 0 = some a := by rw [hl0]; rfl
    simp [Tryz.ntmps167, Tryz.results167, List.replicate_succ, hne, hl1, hla]
    refine indexByte_pc E _ _ [32, 9] a ?_
    simp [hib2]
    refine indexByte_pc E _ _ l 58 ?_
    rw [hib]
    have hnf : lnb l = false := by rw [hl0]; exact hb
    clear hib2 hne hla hl0 hib
    by_cases hcc : c < l.length
    rotate_left
    · have hno := lineX_nocol hnf (by omega)
      simp [hcc]
      exact bad _ l.length 62 hno rfl rfl rfl
    · by_cases hz : c = 0
      · have hno := lineX_zero hnf (by omega) (by omega)
        subst hz
        simp [hcc]
        exact bad _ 0 60 hno rfl rfl rfl
      · have hz2 : ((c : Int) == 0) = false := by simp; omega
        simp [hcc, hz, hz2]
        subst hc
        refine VL_go (plInv1 l H) (fun fr _ => run ncol l - (ai (aget fr 33)).toNat) ⟨rfl, 0, by omega, by omega, by simp, fr_intro (by simp)⟩ ?_
        rintro fr H' ⟨rfl, i, hi, hi2, hall, x, rfl⟩
        by_cases h : i < run ncol l
        · obtain ⟨b, hbi⟩ : ∃ b, l[i]? = some b := ⟨_, List.getElem?_eq_getElem (by omega)⟩
          by_cases h128 : 128 ≤ i
          · have hno := lineX_long hnf (by omega) (by omega) hall (by omega) (by omega) h
            have h128' : (128 : Int) ≤ i := by omega
            simp [h, h128']
            exact bad _ i 60 hno rfl rfl rfl
          · have h128' : ¬ (128 : Int) ≤ i := by omega
            have hw : IntKind.i64.wrap ((i : Int) + 1) = i + 1 := wrap_in (by omega) (by omega)
            have t1 : ((i : Int) + 1).toNat = i + 1 := by omega
            have t2 : (0 : Int) ≤ i + 1 := by omega
            have t3 : (l.drop i).take 1 = [b] := by rw [drop_at l i b hbi]; rfl
            have t4 : i + 1 ≤ l.length := by omega
            have ht : tokB [b] = signB b := by simp [tokB]
            simp [h, h128', hw, t1, t2, t3, t4]
            refine isToken_pc E _ _ hE [b] (by simp [cap]) ?_
            rw [ht]
            cases hs : signB b with
            | false =>
              have hno := lineX_bad hnf (by omega) (by omega) hall (by omega) h hbi hs
              simp
              exact bad _ i 60 hno rfl rfl rfl
            | true =>
              simp [hw]
              refine Kloop_normal ?_ ?_
              rotate_left
              · simp; omega
              refine ⟨rfl, i + 1, by omega, by omega, ?_, fr_intro (by simp)⟩
              rw [all_take signB l i b hbi, hall, hs]; rfl
        · obtain rfl : i = run ncol l := by omega
          have hnm : nameB (l.take (run ncol l)) = true := by
            unfold nameB tokB
            rw [hall, decide_eq_true (by rw [List.length_take]; omega)]
            have : l.take (run ncol l) ≠ [] := by intro e; have h2 := congrArg List.length e; rw [List.length_take] at h2; have h3 : min (run ncol l) l.length = 0 := h2; omega
            cases he : l.take (run ncol l) with
            | nil => exact absurd he this
            | cons _ _ => rfl
          have hw1 : IntKind.i64.wrap (((run ncol l : Nat) : Int) + 1) = ((run ncol l + 1 : Nat) : Int) := by rw [wrap_in (by omega) (by omega)]; omega
          clear hall
          simp [h, hw1, -Int.natCast_add]
          refine VL_go (plInv2 l H) (fun fr _ => l.length - (ai (aget fr 7)).toNat) ⟨rfl, run ncol l + 1, by omega, by omega, by rw [Nat.sub_self, List.take_zero]; rfl, fr_intro (by simp)⟩ ?_
          clear hw1
          rintro fr H' ⟨rfl, i, hi1, hi2, hall, x, rfl⟩
          by_cases h : i < l.length
          · obtain ⟨b, hbi⟩ : ∃ b, l[i]? = some b := ⟨_, List.getElem?_eq_getElem h⟩
            have hbd : (l.drop (run ncol l + 1))[i - (run ncol l + 1)]? = some b := by rw [List.getElem?_drop, show run ncol l + 1 + (i - (run ncol l + 1)) = i by omega]; exact hbi
            have hw : IntKind.i64.wrap ((i : Int) + 1) = i + 1 := wrap_in (by omega) (by omega)
            have t1 : ((i : Int) + 1).toNat = i + 1 := by omega
            have t2 : (0 : Int) ≤ i + 1 := by omega
            have t3 : (l.drop i).take 1 = [b] := by rw [drop_at l i b hbi]; rfl
            have t4 : i + 1 ≤ l.length := by omega
            have ht : fldB [b] = fcB b := by simp [fldB]
            simp [h, hw, t1, t2, t3, t4]
            refine isField_pc E _ _ [b] (by simp [cap]) ?_
            rw [ht]
            cases hs : fcB b with
            | false =>
              have hno := lineX_val hnf (by omega) hnm (by omega) hall hbd hs
              simp
              exact bad _ i 61 (by rw [hno]; congr 2; omega) rfl rfl rfl
            | true =>
              simp [hw]
              refine Kloop_normal ?_ ?_
              rotate_left
              · simp; omega
              refine ⟨rfl, i + 1, by omega, by omega, ?_, fr_intro (by simp)⟩
              rw [show i + 1 - (run ncol l + 1) = (i - (run ncol l + 1)) + 1 by omega]
              unfold fldB at hall ⊢
              rw [all_take fcB _ _ b hbd, hall, hs]; rfl
          · obtain rfl : i = l.length := by omega
            have hfl : fldB (l.drop (run ncol l + 1)) = true := by rw [List.take_of_length_le (by rw [List.length_drop]; omega)] at hall; exact hall
            clear hall h
            obtain ⟨c, hc⟩ : ∃ c, run ncol l = c := ⟨_, rfl⟩
            rw [hc] at hcl hcc hz hz2 hnm hfl hi1
            have hw1 : IntKind.i64.wrap ((c : Int) + 1) = ((c + 1 : Nat) : Int) := by rw [wrap_in (by omega) (by omega)]; omega
            have t4 : c + 1 ≤ l.length := by omega
            simp [hc, hw1, t4, -Int.natCast_add]
            refine trim_pc E _ _ (l.drop (c + 1)) (by rw [List.length_drop]; simp only [cap]; omega) ?_
            by_cases hbig : 8192 < (trimB (l.drop (c + 1))).length
            · have hbig' : (8192 : Int) < (trimB (l.drop (c + 1))).length := by omega
              have hno := lineX_big hnf (by omega) (by rw [hc]; exact hnm) (by rw [hc]; exact hfl) (by rw [hc]; exact hbig)
              simp [hbig']
              refine trimLeftX_pc E _ _ (l.drop (c + 1)) (by rw [List.length_drop]; simp only [cap]; omega) ?_
              have hle := rb_le (l.drop (c + 1))
              rw [List.length_drop] at hle
              have hdl : (l.drop (c + 1)).length = l.length - (c + 1) := List.length_drop
              obtain ⟨rb, hrb⟩ : ∃ n, run blankB (l.drop (c + 1)) = n := ⟨_, rfl⟩
              have hld := lead_len (l.drop (c + 1))
              rw [hc, hrb] at hno
              rw [hrb] at hle hld
              rw [hdl] at hld
              have hwA : IntKind.i64.wrap ((c : Int) + 1) = c + 1 := wrap_in (by omega) (by omega)
              have hwB : IntKind.i64.wrap (((l.length - (c + 1) : Nat) : Int) - (Lib.trimLeftS (l.drop (c + 1)) [32, 9]).length) = rb := by rw [hld, wrap_in (by omega) (by omega)]
              have hwC : IntKind.i64.wrap ((c : Int) + 1 + rb) = c + 1 + rb := wrap_in (by omega) (by omega)
              have hwD : IntKind.i64.wrap ((c : Int) + 1 + rb + 8192) = c + 1 + rb + 8192 := wrap_in (by omega) (by omega)
              simp [hwA, hwB, hwC, hwD]
              exact bad _ ((c : Int) + 1 + rb + 8192) 61 (by rw [hno]; simp) rfl rfl rfl
            · have hbig' : ¬ (8192 : Int) < (trimB (l.drop (c + 1))).length := by omega
              have hyes := lineX_yes hnf (by omega) (by rw [hc]; exact hnm) (by rw [hc]; exact hfl) (by rw [hc]; exact hbig)
              rw [hc] at hyes
              rw [hyes] at hQ
              simp [hbig', hcl]
              exact aPost_same hB (v0 := .tup [.agg [.str (l.take c), .str (trimB (l.drop (c + 1)))], .int .i64 0, .int .i64 0]) (by simp) (nilV_refl _) (by simp) hQ
end
end Go.Proofs.YtnnhdehmlkkfjaaGreatDoor

set_option linter.unusedVariables false
set_option linter.unnecessarySimpa false
set_option linter.unusedSimpArgs false
set_option linter.unusedSectionVars false
set_option maxRecDepth 100000
namespace Go.Proofs.YtnnhdehmlkkfjaaGreatDoor
open Go Go.RowKit Go.Proofs

def stepD (d : Dec) (b : UInt8) : Dec × Int := match d.st with
  | .size => sizeD d b
  | .data => dataD d b
  | .first => firstD d b
  | .second => secondD d b
  | .trailer => trailerD d b
/-- One byte. -/
def feed1 (d : Dec) (b : UInt8) : Dec := { (stepD { d with total := d.total + 1 } b).1 with err := (stepD { d with total := d.total + 1 } b).2 }
/-- Bytes, as far as they are taken, and how many. -/
def feedD (d : Dec) : List UInt8 → Dec × Nat
  | [] => (d, 0)
  | b :: s => if (feed1 d b).done = true ∨ (feed1 d b).err ≠ 0 then (feed1 d b, 1) else ((feedD (feed1 d b) s).1, (feedD (feed1 d b) s).2 + 1)
def okD (d : Dec) : Prop := d.line.length ≤ d.total ∧ d.body.length ≤ d.total ∧ d.trailers.length ≤ d.total ∧ d.section_ ≤ d.total ∧ (0 ≤ d.most ∧ d.most ≤ 9223372036854775807) ∧ (0 ≤ d.room ∧ d.room ≤ 9223372036854775807) ∧ (0 ≤ d.fields ∧ d.fields ≤ 9223372036854775807) ∧ (d.st = .data → 1 ≤ d.left ∧ d.left ≤ 1099511627776)
theorem stepD_total (d : Dec) (b : UInt8) : (stepD d b).1.total = d.total ∧ (stepD d b).1.most = d.most ∧ (stepD d b).1.room = d.room ∧ (stepD d b).1.fields = d.fields := by
  unfold stepD sizeD dataD firstD secondD trailerD
  (repeat' split) <;> exact ⟨rfl, rfl, rfl, rfl⟩
theorem stepD_ok (d : Dec) (b : UInt8) (h : okD d) (ht : 1 ≤ d.total) (h1 : d.line.length + 1 ≤ d.total) (h2 : d.body.length + 1 ≤ d.total) (h3 : d.trailers.length + 1 ≤ d.total) (h4 : d.section_ + 1 ≤ d.total) : okD (stepD d b).1 := by
  obtain ⟨a1, a2, a3, a4, a5, a6, a7, a8⟩ := h
  unfold stepD
  split
  · unfold sizeD
    split
    · rename_i hst _
      exact ⟨by simpa using h1, a2, a3, a4, a5, a6, a7, fun e => by simp only at e; rw [hst] at e; cases e⟩
    · rename_i hst _
      split
      · exact ⟨by simp, a2, a3, a4, a5, a6, a7, fun e => by simp only at e; rw [hst] at e; cases e⟩
      · rename_i s hs
        split
        · exact ⟨by simp, a2, a3, a4, a5, a6, a7, fun e => by simp only at e; rw [hst] at e; cases e⟩
        · rename_i he
          split
          · exact ⟨by simp, a2, a3, a4, a5, a6, a7, fun e => by simp only at e; rw [hst] at e; cases e⟩
          · split
            · exact ⟨by simp, a2, a3, a4, a5, a6, a7, fun e => by cases e⟩
            · rename_i hz
              have := sizeAns_rng s (by simpa using he)
              exact ⟨by simp, a2, a3, a4, a5, a6, a7, fun e => by simp only; omega⟩
  · rename_i hst
    have hl := a8 hst
    unfold dataD
    split
    · exact ⟨a1, by simpa using h2, a3, a4, a5, a6, a7, fun e => by cases e⟩
    · exact ⟨a1, by simpa using h2, a3, a4, a5, a6, a7, fun e => by simp only; omega⟩
  · rename_i hst
    unfold firstD
    split
    · exact ⟨a1, a2, a3, a4, a5, a6, a7, a8⟩
    · exact ⟨a1, a2, a3, a4, a5, a6, a7, fun e => by cases e⟩
  · rename_i hst
    unfold secondD
    split
    · exact ⟨a1, a2, a3, a4, a5, a6, a7, a8⟩
    · exact ⟨a1, a2, a3, a4, a5, a6, a7, fun e => by cases e⟩
  · rename_i hst
    have nd : ∀ st : Stg, st = d.st → st = .data → 1 ≤ d.left ∧ d.left ≤ 1099511627776 := fun st e e2 => by rw [e, hst] at e2; cases e2
    unfold trailerD
    (repeat' split)
    all_goals first
      | exact ⟨a1, a2, a3, a4, a5, a6, a7, nd _ rfl⟩
      | exact ⟨by simpa using h1, a2, a3, h4, a5, a6, a7, nd _ rfl⟩
      | exact ⟨by simp, a2, a3, h4, a5, a6, a7, nd _ rfl⟩
      | exact ⟨by simp, a2, by simpa using h3, h4, a5, a6, a7, nd _ rfl⟩
theorem feed1_ok (d : Dec) (b : UInt8) (h : okD d) : okD (feed1 d b) ∧ (feed1 d b).total = d.total + 1 := by
  obtain ⟨a1, a2, a3, a4, a5, a6, a7, a8⟩ := h
  have h0 : okD { d with total := d.total + 1 } := ⟨by simp only; omega, by simp only; omega, by simp only; omega, by simp only; omega, a5, a6, a7, a8⟩
  have := stepD_ok { d with total := d.total + 1 } b h0 (by simp) (by simpa using a1) (by simpa using a2) (by simpa using a3) (by simpa using a4)
  exact ⟨this, (stepD_total _ b).1⟩
section
variable (E : Env) (H : Hp) (Q : AV → Hp → Prop) (i : Nat) (d : Dec) (hd : H[i]? = some d.av) (b : UInt8)
include hd
theorem step_pc (hE : SE E) (hk : okD d) (ht : d.total ≤ 1000000000) (hQ : Q (.int .i64 (stepD d b).2) (H.set i (stepD d b).1.av)) : PC Tryz.prog E d.st.fid [.ptr (some (i, 0)), .int .u8 (b.toNat : Int)] H Q := by
  obtain ⟨a1, a2, a3, a4, a5, a6, a7, a8⟩ := hk
  unfold stepD at hQ
  cases hst : d.st with
  | size => rw [hst] at hQ; exact size_pc E H Q i d hd b hE (by omega) (by omega) a5 hQ
  | data => rw [hst] at hQ; exact data_pc E H Q i d hd b (by omega) (a8 hst) hQ
  | first => rw [hst] at hQ; exact first_pc E H Q i d hd b hQ
  | second => rw [hst] at hQ; exact second_pc E H Q i d hd b hQ
  | trailer => rw [hst] at hQ; exact trailer_pc E H Q i d hd b hE (by omega) (by omega) (by omega) hQ
end
def feI (H : Hp) (i : Nat) (d : Dec) (s : List UInt8) (fr : List AV) (H' : Hp) : Prop := ∃ (n : Nat) (d' : Dec), n ≤ s.length ∧ H' = H.set i d'.av ∧ okD d' ∧ d'.total = d.total + n ∧ d'.done = false ∧ d'.err = 0 ∧ feedD d s = ((feedD d' (s.drop n)).1, (feedD d' (s.drop n)).2 + n) ∧
  ∃ x : Nat → AV, fr = [.ptr (some (i, 0)), .str s, x 2, x 3, x 4, x 5, x 6, x 7, x 8, x 9, x 10, x 11, x 12, x 13, x 14, x 15, x 16, x 17, x 18, x 19, x 20, x 21, .str s, .int .i64 s.length, .int .i64 n, x 25, x 26, x 27, x 28, x 29, x 30, x 31, x 32, x 33, x 34, x 35, x 36, x 37, x 38, x 39, x 40, x 41, x 42, x 43, x 44, x 45, x 46, x 47, x 48, x 49, x 50, x 51, x 52, x 53, x 54, x 55, x 56, x 57, x 58, x 59, x 60, x 61, x 62, x 63, x 64, x 65]
section
variable (E : Env) (H : Hp) (Q : AV → Hp → Prop) (i : Nat) (d : Dec) (hd : H[i]? = some d.av)
include hd
set_option maxHeartbeats 1000000 in
theorem feed_pc (hE : SE E) (s : List UInt8) (hk : okD d) (ht : d.total + s.length ≤ 1000000000) (hQ1 : d.done = false → d.err = 0 → Q (.tup [.int .i64 (feedD d s).2, .int .i64 (feedD d s).1.err]) (H.set i (feedD d s).1.av)) (hQ2 : d.done = true ∨ d.err ≠ 0 → Q (.tup [.int .i64 0, .int .i64 103]) H) :
    PC Tryz.prog E 218 [.ptr (some (i, 0)), .str s] H Q := by
  have hlt := dec_lt H i d hd
  have hself : H.set i d.av = H := set_self hd
  have hd' := hd
  refine pc_enter Tryz.func218 rfl [] [] (by kernel_rfl) (fun hB => ?_)
  simp [Dec.av] at hd
  by_cases h1 : d.done = true
  · simp [Tryz.ntmps218, Tryz.results218, List.replicate_succ, hd, h1]
    exact aPost_same0 hB rfl (nilV_refl _) (by simp) (hQ2 (.inl h1))
  · have h1 : d.done = false := by simpa using h1
    by_cases h2 : d.err = 0
    · have hQ := hQ1 h1 h2
      simp [Tryz.ntmps218, Tryz.results218, List.replicate_succ, hd, h1, h2]
      refine VL_go (feI H i d s) (fun fr _ => s.length - (ai (aget fr 24)).toNat) ⟨0, d, by omega, hself.symm, hk, by omega, h1, h2, by simp, fr_intro (by simp)⟩ ?_
      rintro fr H' ⟨n, e, hn, rfl, hke, hte, hde, hee, hfe, x, rfl⟩
      have hes : (H.set i e.av)[i]? = some e.av := List.getElem?_set_self hlt
      by_cases h : n < s.length
      · obtain ⟨b, hb⟩ : ∃ b, s[n]? = some b := ⟨_, List.getElem?_eq_getElem h⟩
        have hat : lat s n = some b := lat_eq hb
        have hw : IntKind.i64.wrap ((e.total : Int) + 1) = ((e.total + 1 : Nat) : Int) := by rw [wrap_in (by omega) (by omega)]; omega
        have hw2 : IntKind.i64.wrap ((n : Int) + 1) = n + 1 := wrap_in (by omega) (by omega)
        have hdr := drop_at s n b hb
        rw [hdr] at hfe
        simp [h, hat, hw, hs0 hlt, hs1 hlt, hs2 hlt, hs3 hlt, hs4 hlt, hs5 hlt, Dec.av, -Int.natCast_add]
        have hes1 : (H.set i ({ e with total := e.total + 1 } : Dec).av)[i]? = some ({ e with total := e.total + 1 } : Dec).av := List.getElem?_set_self hlt
        have hk1 : okD { e with total := e.total + 1 } := by
          obtain ⟨a1, a2, a3, a4, a5, a6, a7, a8⟩ := hke
          exact ⟨by simp only; omega, by simp only; omega, by simp only; omega, by simp only; omega, a5, a6, a7, a8⟩
        refine step_pc E _ _ i { e with total := e.total + 1 } hes1 b hE hk1 (by simp only; omega) ?_
        obtain ⟨hf1, hf2⟩ := feed1_ok e b hke
        have hfd : feedD e (b :: s.drop (n + 1)) = if (feed1 e b).done = true ∨ (feed1 e b).err ≠ 0 then (feed1 e b, 1) else ((feedD (feed1 e b) (s.drop (n + 1))).1, (feedD (feed1 e b) (s.drop (n + 1))).2 + 1) := rfl
        rw [hfd] at hfe
        clear hfd hk1 hes1
        have hfeq : feed1 e b = { (stepD { e with total := e.total + 1 } b).1 with err := (stepD { e with total := e.total + 1 } b).2 } := rfl
        obtain ⟨⟨e2, r⟩, he2⟩ : ∃ p, stepD { e with total := e.total + 1 } b = p := ⟨_, rfl⟩
        rw [he2] at hfeq ⊢
        rw [hfeq] at hfe hf1 hf2
        clear hfeq he2
        simp only at hfe hf1 hf2
        by_cases hdn : e2.done = true
        · rw [if_pos (.inl hdn)] at hfe
          rw [hfe] at hQ
          simp [hs0 hlt, hs1 hlt, hs2 hlt, hs3 hlt, hs4 hlt, hs5 hlt, Dec.av, hdn, hw2]
          refine aPost_set0 hB rfl (nilV_refl _) (({ e2 with err := r, done := true } : Dec).bnd _) (by simp) ?_
          simp only at hQ
          rw [show ((1 + n : Nat) : Int) = (n : Int) + 1 by omega] at hQ
          have hav : ({ e2 with err := r } : Dec).av = ({ e2 with err := r, done := true } : Dec).av := by rw [← hdn]
          rw [hav] at hQ
          exact hQ
        · have hdn : e2.done = false := by simpa using hdn
          by_cases hr : r = 0
          · rw [if_neg (by rw [hdn, hr]; simp)] at hfe
            simp [hs0 hlt, hs1 hlt, hs2 hlt, hs3 hlt, hs4 hlt, hs5 hlt, Dec.av, hdn, hr, hw2]
            refine Kloop_normal ?_ ?_
            rotate_left
            · simp; omega
            have hav : ({ e2 with err := r } : Dec).av = ({ e2 with err := 0, done := false } : Dec).av := by rw [← hdn, ← hr]
            subst hr
            refine ⟨n + 1, { e2 with err := 0 }, by omega, ?_, hf1, by rw [hf2]; omega, hdn, rfl, ?_, fr_intro (by simp)⟩
            · rw [hav]; rfl
            · rw [hfe]; simp only; rw [Nat.add_assoc, Nat.add_comm 1 n]
          · have hr2 : (r != 0) = true := by simpa using hr
            rw [if_pos (.inr hr)] at hfe
            rw [hfe] at hQ
            simp [hs0 hlt, hs1 hlt, hs2 hlt, hs3 hlt, hs4 hlt, hs5 hlt, Dec.av, hdn, hr2, hw2]
            refine aPost_set0 hB rfl (nilV_refl _) (({ e2 with err := r, done := false } : Dec).bnd _) (by simp) ?_
            simp only at hQ
            rw [show ((1 + n : Nat) : Int) = (n : Int) + 1 by omega] at hQ
            have hav : ({ e2 with err := r } : Dec).av = ({ e2 with err := r, done := false } : Dec).av := by rw [← hdn]
            rw [hav] at hQ
            exact hQ
      · obtain rfl : n = s.length := by omega
        rw [List.drop_length] at hfe
        have hfd : feedD e [] = (e, 0) := rfl
        rw [hfd] at hfe
        rw [hfe] at hQ
        simp only [hee, Nat.zero_add] at hQ
        simp [h]
        exact aPost_set0 hB rfl (nilV_refl _) (e.bnd _) (by simp) hQ
    · have h22 : (d.err != 0) = true := by simpa using h2
      simp [Tryz.ntmps218, Tryz.results218, List.replicate_succ, hd, h1, h22]
      exact aPost_same0 hB rfl (nilV_refl _) (by simp) (hQ2 (.inr h2))
end
end Go.Proofs.YtnnhdehmlkkfjaaGreatDoor

set_option linter.unusedVariables false
set_option linter.unnecessarySimpa false
set_option linter.unusedSimpArgs false
set_option linter.unusedSectionVars false
set_option maxRecDepth 100000
namespace Go.Proofs.YtnnhdehmlkkfjaaGreatDoor
open Go Go.RowKit Go.Proofs

theorem Tryz.info65 : (Tryz.prog.info? 65).map (fun i => (i.zero, i.size, i.bytes)) = some (some (.agg #[.string ⟨#[]⟩, .string ⟨#[]⟩]), 2, 32) := by kernel_rfl
theorem rsl_alloc {w : World} {k n : Nat} {v : Value} {xs : List Value} (h : RSl w k v n xs) (o : Obj) : RSl (w.alloc o) k v n xs := by
  obtain ⟨h1, ao, cap, rfl, h2, h3, h4⟩ := h
  refine ⟨h1, ao, cap, rfl, h2, h3, fun hn => ?_⟩
  obtain ⟨g, o', rfl, h5⟩ := h4 hn
  refine ⟨g, o', rfl, fun j hj => ?_⟩
  have h0 := h5 j hj
  have hx : xs[j]? = some (xs[j]'(by omega)) := List.getElem?_eq_getElem _
  rw [hx] at h0 ⊢
  exact Lib.cell?_alloc_some _ h0
set_option maxHeartbeats 1000000 in
theorem clone_ok {w : World} {ao : Option Addr} {n c : Nat} {xs : List Value} (h : RSl w 2 (.slice ao n c) n xs) (h1 : ∀ u ∈ xs, u.oneCell' = true) (hn : n ≤ 1073741824) :
    Calls Tryz.prog 232 #[.slice ao n c] w fun e w' => ∃ bo m d, e = .returned (.slice bo m d) ∧ ((bo = none ∧ m = 0 ∧ d = 0 ∧ n = 0 ∧ w' = w) ∨ (m = n ∧ OSl w' 2 (.slice bo n d) n xs ∧ (∀ g', (Value.slice bo n d).ownBlock = some g' → w.heap.size ≤ g') ∧ Frm (fun _ => False) w w')) := by
  obtain ⟨i0, hi, hz0, hz1, hz2⟩ := info_parts Tryz.info65
  have q22 : ∀ (w : World) (a : Option Addr) (n c n' c' : Nat), (binOp .eql 24 (.slice a n c) (.slice none n' c')).run Tryz.prog w = .ok (.bool a.isNone) w := fun w a n c n' c' => Lib.run_eql_slice_nil w _ _ a n c n' c' Tryz.underlying24
  have HR := Lib.hid h
  have H1 := Lib.hid h1
  clear h h1
  go_enter Tryz.func232, Tryz.ntmps232
  cases ao with
  | none =>
    go_wp2
    go_ret
    refine ⟨none, 0, 0, rfl, .inl ⟨rfl, rfl, rfl, ?_, rfl⟩⟩
    obtain ⟨_, _, _, he, _, _, hc⟩ := HR.out
    cases he
    rcases Nat.eq_zero_or_pos n with h | h
    · exact h
    · obtain ⟨_, _, h, _⟩ := hc h; cases h
  | some a =>
    have hE : OSl (w.alloc (.cells #[] 65)) 2 (.slice (some ⟨w.heap.size, 0, none⟩) 0 0) 0 [] := OSl.new w #[] 65 2 0 0 [] rfl (Nat.le_refl _) (Nat.zero_le _) rfl (fun j hj => by simp at hj)
    have HE := Lib.hid hE
    clear hE
    go_wp2_with (at_builtin; refine wpList_append_osl _ rfl (.tmp 5) (.tmp 6) 24 24 rfl 65 i0 (.agg #[.string ⟨#[]⟩, .string ⟨#[]⟩]) 2 32 Tryz.underlying24 hi hz0 hz1 hz2 rfl _ 0 [] rfl HE.out (.slice (some a) n c) n xs rfl (src_rsl (P := Tryz.prog) (rsl_alloc HR.out _) H1.out Tryz.underlying24) (by unfold maxLen; omega) (by omega) ?_)
    intro ao4 c4 w4 hs hf hv
    have HN4 := Lib.hid (fresh_app (w := w) (v' := .slice ao4 n c4) (H := w.heap.size + 1) (Frm.alloc _ w _) (fun g hg => by simp [Value.ownBlock] at hg; omega) hf (by simpa using hv) (by omega))
    have hs' := hs
    try simp only [List.nil_append, Nat.zero_add] at hs'
    have HO4 := Lib.hid hs'
    clear hs' hs hf hv
    go_wp2
    go_ret
    exact ⟨ao4, n, c4, by simp, .inr ⟨rfl, HO4.out, HN4.out.1, HN4.out.2⟩⟩
theorem flds_str {l : List Fld} {j : Nat} {x : AV} (h : (flds l).flatten[j]? = some x) : ∃ s, x = .str s := by
  obtain ⟨r, hr, hx⟩ := List.mem_flatten.1 (List.mem_of_getElem? h)
  obtain ⟨f, _, rfl⟩ := List.mem_map.1 hr
  simp at hx
  rcases hx with rfl | rfl <;> exact ⟨_, rfl⟩
theorem clone_pc (E : Env) (H : Hp) (Q : AV → Hp → Prop) (own : Bool) (l : List Fld) (hl : l.length ≤ 1073741824) (hf : own = false) (hQ : Q (.sl false 2 (flds l)) H) : PC Tryz.prog E 232 [.sl own 2 (flds l)] H Q := by
  refine ⟨by kernel_rfl, fun w β Rd Ow cargs hHR hOw hsz hargs => ?_⟩
  obtain ⟨u, rfl, hu⟩ := args1 hsz (fun t x u hx hu => (hargs t x u hx hu).1)
  obtain ⟨xs, hk, hx, hd, hfr, hr⟩ := rel_sl hu
  obtain ⟨hxl, ao, c, rfl, h2, h3, h4⟩ := id hx
  rw [flds_length] at hx hxl h2 h4
  have hone : ∀ u ∈ xs, u.oneCell' = true := Rel.slOne (own := own) hk (by rw [flds_length]; exact hxl) hfr hr
  rw [flds_length]
  refine (clone_ok (ao := ao) (c := c) hx hone hl).mono ?_
  rintro e w' ⟨bo, m, d, rfl, ⟨rfl, rfl, rfl, hn0, rfl⟩ | ⟨rfl, ho, hnew, hF⟩⟩
  · have : l = [] := List.length_eq_zero_iff.1 hn0
    subst this
    have hrel : Rel w' β (fun g o => Rd g o ∨ False) (.sl false 2 (flds [])) (.slice none 0 0) :=
      .sl false 2 _ _ [] (fun r hr => by simp [flds] at hr) ⟨by simp [flds], none, 0, rfl, Nat.le_refl _, Nat.zero_le _, fun h => by simp [flds] at h⟩ (fun g o n c hv j hj => by cases hv) (fun h => by cases h) (fun r hr => by simp [flds] at hr) (fun j x u hx => by simp [flds] at hx)
    exact ⟨_, _, H, β, _, Ow, rfl, hQ, post_freshP hHR (Frm.refl _ _) (fun _ _ => False) (fun _ _ h => h.elim) hrel (by simp [flds]) rfl⟩
  · have hrel : Rel w' β (fun g o => Rd g o ∨ (Value.slice bo l.length d).ownBlock = some g) (.sl false 2 (flds l)) (.slice bo l.length d) := by
      refine .sl false 2 _ _ xs hk (by rw [flds_length]; exact ho.toR) (fun g o n c hv j hj => .inr (by rw [hv]; rfl)) (fun h => by cases h) hfr (fun j x u hx' hu' => ?_)
      obtain ⟨t, rfl⟩ := flds_str hx'
      obtain ⟨b, rfl, hb1, hb2⟩ := rel_str (hr j _ u hx' hu')
      exact .str _ _ hb1 hb2
    exact ⟨_, _, H, β, _, Ow, rfl, hQ, post_freshP hHR hF (fun g _ => (Value.slice bo l.length d).ownBlock = some g) (fun g o h => ⟨hnew g h, ho.lt g h⟩) hrel (bnd_flds _ _ _) rfl⟩
end Go.Proofs.YtnnhdehmlkkfjaaGreatDoor

set_option linter.unusedVariables false
set_option linter.unnecessarySimpa false
set_option linter.unusedSimpArgs false
set_option linter.unusedSectionVars false
set_option maxRecDepth 100000
namespace Go.Proofs.YtnnhdehmlkkfjaaGreatDoor
open Go Go.RowKit Go.Proofs

def newD (most room fields : Int) : Dec := ⟨most, room, fields, .size, [], 0, [], [], 0, 0, false, 0⟩
section
variable (E : Env) (H : Hp) (Q : AV → Hp → Prop)
theorem cnew_pc (most room fields : Int) (hQ1 : 0 ≤ most → 0 ≤ room → 0 ≤ fields → Q (.tup [.ptr (some (H.length, 0)), .int .i64 0]) (H ++ [(newD most room fields).av])) (hQ2 : most < 0 ∨ room < 0 ∨ fields < 0 → Q (.tup [.ptr none, .int .i64 1]) H) :
    PC Tryz.prog E 196 [.int .i64 most, .int .i64 room, .int .i64 fields] H Q := by
  refine pc_enter Tryz.func196 rfl [] [] (by kernel_rfl) (fun hB => ?_)
  by_cases h1 : most < 0
  · simp [Tryz.ntmps196, Tryz.results196, List.replicate_succ, h1]
    exact aPost_same0 hB rfl (nilV_refl _) (by simp) (hQ2 (.inl h1))
  · by_cases h2 : room < 0
    · simp [Tryz.ntmps196, Tryz.results196, List.replicate_succ, h1, h2]
      exact aPost_same0 hB rfl (nilV_refl _) (by simp) (hQ2 (.inr (.inl h2)))
    · by_cases h3 : fields < 0
      · simp [Tryz.ntmps196, Tryz.results196, List.replicate_succ, h1, h2, h3]
        exact aPost_same0 hB rfl (nilV_refl _) (by simp) (hQ2 (.inr (.inr h3)))
      · have hQ := hQ1 (by omega) (by omega) (by omega)
        simp [Tryz.ntmps196, Tryz.results196, List.replicate_succ, h1, h2, h3]
        have hbn : BndH (H.length + 1) (H ++ [(newD most room fields).av]) := fun l hl x hx => by
          rcases List.mem_append.1 hl with h' | h'
          · exact (hB l h' x hx).mono (by omega)
          · simp at h'; subst h'; exact (newD most room fields).bnd _ x hx
        exact ⟨.tup [.ptr (some (H.length, 0)), .int .i64 0], _, H ++ [(newD most room fields).av], H ++ [(newD most room fields).av], [], rfl, nilV_refl _,
          nilH_app H ⟨⟨.inl rfl, .inl rfl, .inl rfl, .inl rfl, .inr ⟨rfl, true, 1, rfl⟩, .inl rfl, .inr ⟨rfl, true, 1, rfl⟩, .inr ⟨rfl, true, 2, rfl⟩, .inl rfl, .inl rfl, .inl rfl, .inl rfl, trivial⟩, trivial⟩,
          (List.append_nil _).symm, by simp, by simpa using hbn, by simp, hQ⟩
theorem feed0_pc (s : List UInt8) (hQ : Q (.tup [.int .i64 0, .int .i64 103]) H) : PC Tryz.prog E 218 [.ptr none, .str s] H Q := by
  refine pc_enter Tryz.func218 rfl [] [] (by kernel_rfl) (fun hB => ?_)
  simp [Tryz.ntmps218, Tryz.results218, List.replicate_succ]
  exact aPost_same0 hB rfl (nilV_refl _) (by simp) hQ
variable (i : Nat) (d : Dec) (hd : H[i]? = some d.av)
include hd
theorem done_pc (hQ : Q (.bool d.done) H) : PC Tryz.prog E 219 [.ptr (some (i, 0))] H Q := by
  have hlt := dec_lt H i d hd
  refine pc_enter Tryz.func219 rfl [] [] (by kernel_rfl) (fun hB => ?_)
  simp [Dec.av] at hd
  simp [Tryz.ntmps219, Tryz.results219, List.replicate_succ, hd]
  exact aPost_same0 hB rfl (nilV_refl _) (by simp) hQ
theorem body_pc (hl : d.body.length ≤ 1073741824) (hQ : Q (.str d.body) H) : PC Tryz.prog E 220 [.ptr (some (i, 0))] H Q := by
  have hm : d.body.length ≤ maxLen := by unfold maxLen; omega
  refine pc_enter Tryz.func220 rfl [] [] (by kernel_rfl) (fun hB => ?_)
  simp [Dec.av] at hd
  simp [Tryz.ntmps220, Tryz.results220, List.replicate_succ, hd, hm]
  exact aPost_same0 hB rfl (nilV_refl _) (by simp) hQ
theorem trailers_pc (hl : d.trailers.length ≤ 1073741824) (hQ : Q (.sl false 2 (flds d.trailers)) H) : PC Tryz.prog E 221 [.ptr (some (i, 0))] H Q := by
  refine pc_enter Tryz.func221 rfl [] [] (by kernel_rfl) (fun hB => ?_)
  simp [Dec.av] at hd
  simp [Tryz.ntmps221, Tryz.results221, List.replicate_succ, hd]
  refine clone_pc E _ _ false d.trailers hl rfl ?_
  simp
  exact aPost_same0 hB rfl (nilV_refl _) (by simp) hQ
end
theorem newD_ok (most room fields : Int) (h1 : 0 ≤ most ∧ most ≤ 9223372036854775807) (h2 : 0 ≤ room ∧ room ≤ 9223372036854775807) (h3 : 0 ≤ fields ∧ fields ≤ 9223372036854775807) : okD (newD most room fields) :=
  ⟨by simp [newD], by simp [newD], by simp [newD], by simp [newD], h1, h2, h3, fun e => by cases e⟩
theorem feedD_le (s : List UInt8) : ∀ d, (feedD d s).2 ≤ s.length := by
  induction s with
  | nil => intro d; exact Nat.le_refl _
  | cons b s ih =>
    intro d
    have hfd : feedD d (b :: s) = if (feed1 d b).done = true ∨ (feed1 d b).err ≠ 0 then (feed1 d b, 1) else ((feedD (feed1 d b) s).1, (feedD (feed1 d b) s).2 + 1) := rfl
    rw [hfd]
    split
    · simp
    · have := ih (feed1 d b); simp; omega
theorem feedD_ok (s : List UInt8) : ∀ d, okD d → okD (feedD d s).1 ∧ (feedD d s).1.total = d.total + (feedD d s).2 := by
  induction s with
  | nil => intro d h; exact ⟨h, rfl⟩
  | cons b s ih =>
    intro d h
    have hfd : feedD d (b :: s) = if (feed1 d b).done = true ∨ (feed1 d b).err ≠ 0 then (feed1 d b, 1) else ((feedD (feed1 d b) s).1, (feedD (feed1 d b) s).2 + 1) := rfl
    obtain ⟨h1, h2⟩ := feed1_ok d b h
    rw [hfd]
    split
    · exact ⟨h1, h2⟩
    · obtain ⟨g1, g2⟩ := ih (feed1 d b) h1
      exact ⟨g1, by rw [g2, h2]; simp only; omega⟩
end Go.Proofs.YtnnhdehmlkkfjaaGreatDoor

set_option linter.unusedVariables false
set_option linter.unnecessarySimpa false
set_option linter.unusedSimpArgs false
set_option linter.unusedSectionVars false
set_option maxRecDepth 100000
namespace Go.Proofs.YtnnhdehmlkkfjaaGreatDoor
open Go Go.RowKit Go.Proofs

end Go.Proofs.YtnnhdehmlkkfjaaGreatDoor

set_option linter.unusedVariables false
set_option linter.unnecessarySimpa false
set_option linter.unusedSimpArgs false
set_option linter.unusedSectionVars false
set_option maxRecDepth 100000
namespace Go.Proofs.YtnnhdehmlkkfjaaGreatDoor
open Go Go.RowKit Go.Proofs

section
variable (E : Env) (H : Hp) (Q : AV → Hp → Prop)
end
end Go.Proofs.YtnnhdehmlkkfjaaGreatDoor

set_option linter.unusedVariables false
set_option linter.unnecessarySimpa false
set_option linter.unusedSimpArgs false
set_option linter.unusedSectionVars false
set_option maxRecDepth 100000
namespace Go.Proofs.YtnnhdehmlkkfjaaGreatDoor
open Go Go.RowKit Go.Proofs

theorem rel_stringW (W : World) (s : ByteArray) (hs : s.size ≤ 1048576) : Rel W (fun _ => 0) (old W) (.str s.data.toList) (.string s) ∧ Bnd 0 (.str s.data.toList) ∧ (AV.str s.data.toList).free = true :=
  ⟨.str _ _ rfl (by unfold maxLen; omega), .str _, rfl⟩
end Go.Proofs.YtnnhdehmlkkfjaaGreatDoor

set_option linter.unusedVariables false
set_option linter.unnecessarySimpa false
set_option linter.unusedSimpArgs false
set_option linter.unusedSectionVars false
set_option maxRecDepth 100000
namespace Go.Proofs.YtnnhdehmlkkfjaaGreatDoor
open Go Go.RowKit Go.Proofs

section
variable (E : Env) (H : Hp) (Q : AV → Hp → Prop)
end
end Go.Proofs.YtnnhdehmlkkfjaaGreatDoor

set_option linter.unusedVariables false
set_option linter.unnecessarySimpa false
set_option linter.unusedSimpArgs false
set_option linter.unusedSectionVars false
set_option maxRecDepth 100000
namespace Go.Proofs.YtnnhdehmlkkfjaaGreatDoor
open Go Go.RowKit Go.Proofs

section
variable (E : Env) (H : Hp) (Q : AV → Hp → Prop)
end
end Go.Proofs.YtnnhdehmlkkfjaaGreatDoor

set_option linter.unusedVariables false
set_option linter.unnecessarySimpa false
set_option linter.unusedSimpArgs false
set_option linter.unusedSectionVars false
set_option maxRecDepth 100000
namespace Go.Proofs.YtnnhdehmlkkfjaaGreatDoor
open Go Go.RowKit Go.Proofs

section
variable (E : Env) (H : Hp) (Q : AV → Hp → Prop)
end
end Go.Proofs.YtnnhdehmlkkfjaaGreatDoor

set_option linter.unusedVariables false
set_option linter.unusedSimpArgs false
namespace Go.Proofs.YtnnhdehmlkkfjaaGreatDoor
open Go Go.RowKit

inductive NilD : AV → AV → Prop
  | same (x) : NilD x x
  | nil (k) : NilD .nil (.sl false k [])
  | agg (l m : List AV) (hl : l.length = m.length) (h : ∀ (i : Nat) x y, l[i]? = some x → m[i]? = some y → NilD x y) : NilD (.agg l) (.agg m)
  | tup (l m : List AV) (hl : l.length = m.length) (h : ∀ (i : Nat) x y, l[i]? = some x → m[i]? = some y → NilD x y) : NilD (.tup l) (.tup m)
  | sl (k : Nat) (l m : List (List AV)) (hl : l.length = m.length) (hk : ∀ (i : Nat) r s, l[i]? = some r → m[i]? = some s → r.length = s.length) (h : ∀ (i j : Nat) r s x y, l[i]? = some r → m[i]? = some s → r[j]? = some x → s[j]? = some y → NilD x y) : NilD (.sl false k l) (.sl false k m)

def NilL : List AV → List AV → Prop
  | [], [] => True
  | x :: l, y :: m => NilD x y ∧ NilL l m
  | _, _ => False
theorem NilL.at : ∀ {l m : List AV}, NilL l m → l.length = m.length ∧ ∀ (i : Nat) x y, l[i]? = some x → m[i]? = some y → NilD x y
  | [], [], _ => ⟨rfl, fun i x y hx => by simp at hx⟩
  | x :: l, y :: m, h => by
    obtain ⟨h1, h2⟩ := NilL.at h.2
    refine ⟨by simp [h1], fun i a b ha hb => ?_⟩
    cases i with
    | zero => simp at ha hb; subst ha; subst hb; exact h.1
    | succ i => exact h2 i a b (by simpa using ha) (by simpa using hb)
  | [], _ :: _, h => h.elim
  | _ :: _, [], h => h.elim
@[simp] theorem NilL_nil : NilL [] [] = True := rfl
@[simp] theorem NilL_cons (x y : AV) (l m : List AV) : NilL (x :: l) (y :: m) = (NilD x y ∧ NilL l m) := rfl
@[simp] theorem NilD_same (x : AV) : NilD x x = True := eq_true (.same x)
@[simp] theorem NilD_nil (k : Nat) : NilD .nil (.sl false k []) = True := eq_true (.nil k)
theorem NilD_agg {l m : List AV} (h : NilL l m) : NilD (.agg l) (.agg m) := .agg l m h.at.1 h.at.2
theorem NilD_tup {l m : List AV} (h : NilL l m) : NilD (.tup l) (.tup m) := .tup l m h.at.1 h.at.2

theorem NilD.one {x y : AV} (h : NilD x y) : x.one = true → y.one = true := by
  cases h with
  | same => exact id
  | nil => exact fun _ => rfl
  | agg => intro h; simp [AV.one] at h
  | tup => intro h; simp [AV.one] at h
  | sl => exact fun _ => rfl
theorem NilD.free {x y : AV} (h : NilD x y) : x.free = true → y.free = true := by
  cases h with
  | same => exact id
  | nil => exact fun _ => rfl
  | agg => exact fun _ => rfl
  | tup => exact fun _ => rfl
  | sl => exact fun _ => rfl
theorem NilD.own {x y : AV} (h : NilD x y) (v : Value) (g : Nat) : own0 y v = some g → own0 x v = some g := by
  cases h with
  | same => exact id
  | nil => intro e; cases e
  | agg => intro e; cases e
  | tup => intro e; cases e
  | sl => intro e; cases e
theorem NilD.dis {x y : AV} (h : NilD x y) : x.dis.free = true → y.dis.free = true := by
  cases h with
  | same => exact id
  | nil => exact fun _ => rfl
  | agg => exact fun _ => rfl
  | tup => exact fun _ => rfl
  | sl => exact fun _ => rfl
theorem pair_at {α β : Type} {l : List α} {m : List β} (h : l.length = m.length) {i : Nat} {y : β} (hy : m[i]? = some y) : ∃ x, l[i]? = some x := by
  have := (List.getElem?_eq_some_iff.1 hy).1
  exact ⟨l[i], List.getElem?_eq_getElem (by omega)⟩
theorem NilD.bnd {N : Nat} {x y : AV} (h : NilD x y) : Bnd N x → Bnd N y := by
  induction h with
  | same => exact id
  | nil k => exact fun _ => .sl _ _ _ (by simp)
  | agg l m hl h ih =>
    intro hb
    cases hb with
    | agg _ hb =>
      refine .agg _ fun y hy => ?_
      obtain ⟨i, hi⟩ := List.getElem?_of_mem hy
      obtain ⟨x, hx⟩ := pair_at hl hi
      exact ih i x y hx hi (hb x (mem_at hx))
  | tup l m hl h ih =>
    intro hb
    cases hb with
    | tup _ hb =>
      refine .tup _ fun y hy => ?_
      obtain ⟨i, hi⟩ := List.getElem?_of_mem hy
      obtain ⟨x, hx⟩ := pair_at hl hi
      exact ih i x y hx hi (hb x (mem_at hx))
  | sl k l m hl hk h ih =>
    intro hb
    cases hb with
    | sl _ _ _ hb =>
      refine .sl _ _ _ fun s hs y hy => ?_
      obtain ⟨i, hi⟩ := List.getElem?_of_mem hs
      obtain ⟨j, hj⟩ := List.getElem?_of_mem hy
      obtain ⟨r, hr⟩ := pair_at hl hi
      obtain ⟨x, hx⟩ := pair_at (hk i r s hr hi) hj
      exact ih i j r s x y hr hi hx hj (hb r (mem_at hr) x (mem_at hx))
theorem flat_pair : ∀ {l m : List (List AV)}, l.length = m.length → (∀ (i : Nat) (r s : List AV), l[i]? = some r → m[i]? = some s → r.length = s.length) → l.flatten.length = m.flatten.length ∧
    ∀ (t : Nat) x y, l.flatten[t]? = some x → m.flatten[t]? = some y → ∃ (i j : Nat) (r s : List AV), l[i]? = some r ∧ m[i]? = some s ∧ r[j]? = some x ∧ s[j]? = some y
  | [], [], _, _ => ⟨rfl, fun t x y hx => by simp at hx⟩
  | a :: l, b :: m, hl, hk => by
    have hab : a.length = b.length := hk 0 a b rfl rfl
    obtain ⟨h1, h2⟩ := flat_pair (l := l) (m := m) (by simpa using hl) (fun i r s hr hs => hk (i + 1) r s (by simpa using hr) (by simpa using hs))
    refine ⟨by simp [h1, hab], fun t x y hx hy => ?_⟩
    rw [List.flatten_cons] at hx hy
    by_cases ht : t < a.length
    · rw [List.getElem?_append_left ht] at hx
      rw [List.getElem?_append_left (by omega)] at hy
      exact ⟨0, t, a, b, rfl, rfl, hx, hy⟩
    · rw [List.getElem?_append_right (by omega)] at hx hy
      rw [← hab] at hy
      obtain ⟨i, j, r, s, e1, e2, e3, e4⟩ := h2 _ x y hx hy
      exact ⟨i + 1, j, r, s, by simpa using e1, by simpa using e2, e3, e4⟩
  | [], _ :: _, h, _ => by simp at h
  | _ :: _, [], h, _ => by simp at h
theorem NilD.rel {w : World} {β : Nat → Nat} {Rd : Nat → Nat → Prop} {x y : AV} (h : NilD x y) : ∀ {v : Value}, Rel w β Rd x v → Rel w β Rd y v := by
  induction h with
  | same => exact id
  | nil k =>
    intro v hr
    obtain rfl := rel_nil hr
    exact .sl false k [] _ [] (by simp) (OSl.nil w k).toR (fun g o n c hv => by cases hv) (fun h => by cases h) (by simp) (fun j x u hx => by simp at hx)
  | agg l m hl h ih =>
    intro v hr
    cases hr with
    | agg _ vs hs hf hr =>
      refine .agg _ vs (by omega) (fun y hy => ?_) (fun j y u hy hu => ?_)
      · obtain ⟨i, hi⟩ := List.getElem?_of_mem hy
        obtain ⟨x, hx⟩ := pair_at hl hi
        obtain ⟨f1, f2⟩ := hf x (mem_at hx)
        exact ⟨(h i x y hx hi).free f1, (h i x y hx hi).one f2⟩
      · obtain ⟨x, hx⟩ := pair_at hl hy
        exact ih j x y hx hy (hr j x u hx hu)
  | tup l m hl h ih =>
    intro v hr
    cases hr with
    | tup _ vs hs hf hr =>
      refine .tup _ vs (by omega) (fun y hy => ?_) (fun j y u hy hu => ?_)
      · obtain ⟨i, hi⟩ := List.getElem?_of_mem hy
        obtain ⟨x, hx⟩ := pair_at hl hi
        exact (h i x y hx hi).free (hf x (mem_at hx))
      · obtain ⟨x, hx⟩ := pair_at hl hy
        exact ih j x y hx hy (hr j x u hx hu)
  | sl k l m hl hkl h ih =>
    intro v hr
    cases hr with
    | sl _ _ _ _ xs hk hx hd ho hf hr =>
      obtain ⟨hfl, hfp⟩ := flat_pair hl hkl
      refine .sl false k m v xs (fun s hs => ?_) (by rw [← hl]; exact hx) (fun g o n c hv j hj => hd g o n c hv j (by rw [hl]; exact hj)) (fun h => by cases h) (fun s hs y hy => ?_) (fun t y u hy hu => ?_)
      · obtain ⟨i, hi⟩ := List.getElem?_of_mem hs
        obtain ⟨r, hr⟩ := pair_at hl hi
        rw [← hkl i r s hr hi]; exact hk r (mem_at hr)
      · obtain ⟨i, hi⟩ := List.getElem?_of_mem hs
        obtain ⟨j, hj⟩ := List.getElem?_of_mem hy
        obtain ⟨r, hr⟩ := pair_at hl hi
        obtain ⟨x, hx⟩ := pair_at (hkl i r s hr hi) hj
        obtain ⟨f1, f2⟩ := hf r (mem_at hr) x (mem_at hx)
        have hn := h i j r s x y hr hi hx hj
        exact ⟨hn.free f1, hn.one f2⟩
      · obtain ⟨x, hx⟩ := pair_at hfl hy
        obtain ⟨i, j, r, s, e1, e2, e3, e4⟩ := hfp t x y hx hy
        exact ih i j r s x y e1 e2 e3 e4 (hr t x u hx hu)

/-- A CONTRACT whose answer has nil lists. -/
theorem PC.nilD {P : Program} {E : Env} {f : FuncId} {args : List AV} {H : Hp} {Q : AV → Hp → Prop} (h : PC P E f args H (fun v H' => ∃ v', NilD v v' ∧ Q v' H')) : PC P E f args H Q :=
  ⟨h.1, fun w β Rd Ow cargs h1 h2 h3 h4 => (h.2 w β Rd Ow cargs h1 h2 h3 h4).mono fun e w' ⟨u, v, H', β', Rd', Ow', he, ⟨v', hn, hQ⟩, hp⟩ =>
    ⟨u, v', H', β', Rd', Ow', he, hQ, hn.rel hp.rel, hn.bnd hp.bnd, fun g hg => hp.own g (hn.own u g hg), hn.dis hp.ne, hp.hr, hp.old, hp.len, hp.keep, hp.frame, hp.os, hp.tape, hp.output, hp.size⟩⟩
end Go.Proofs.YtnnhdehmlkkfjaaGreatDoor

set_option linter.unusedVariables false
set_option linter.unnecessarySimpa false
set_option linter.unusedSimpArgs false
set_option linter.unusedSectionVars false
set_option maxRecDepth 100000
namespace Go.Proofs.YtnnhdehmlkkfjaaGreatDoor
open Go Go.RowKit Go.Proofs

def goD (d : Dec) : Prop := d.done = false ∧ d.err = 0
theorem feedD_cons (d : Dec) (b : UInt8) (s : List UInt8) : feedD d (b :: s) = if (feed1 d b).done = true ∨ (feed1 d b).err ≠ 0 then (feed1 d b, 1) else ((feedD (feed1 d b) s).1, (feedD (feed1 d b) s).2 + 1) := rfl
theorem feedD_go {d : Dec} {b : UInt8} (s : List UInt8) (h : goD (feed1 d b)) : feedD d (b :: s) = ((feedD (feed1 d b) s).1, (feedD (feed1 d b) s).2 + 1) := by
  rw [feedD_cons, if_neg]; rintro (h1 | h1)
  · rw [h.1] at h1; cases h1
  · exact h1 h.2
theorem feedD_stop {d : Dec} {b : UInt8} (s : List UInt8) (h : (feed1 d b).done = true ∨ (feed1 d b).err ≠ 0) : feedD d (b :: s) = (feed1 d b, 1) := by rw [feedD_cons, if_pos h]
theorem feedD_cat : ∀ (a : List UInt8) (d e : Dec) (s : List UInt8), feedD d a = (e, a.length) → goD e → feedD d (a ++ s) = ((feedD e s).1, (feedD e s).2 + a.length)
  | [], d, e, s, h, _ => by cases h; simp
  | b :: a, d, e, s, h, hg => by
    rw [List.cons_append, feedD_cons]
    rw [feedD_cons] at h
    split at h
    · rename_i hs
      have h1 := (Prod.mk.inj h).1
      rw [h1] at hs
      rcases hs with hs | hs
      · rw [hg.1] at hs; cases hs
      · exact absurd hg.2 hs
    · rename_i hs
      rw [if_neg hs]
      have h1 := Prod.mk.inj h
      have h2 : (feedD (feed1 d b) a).2 = a.length := by have := h1.2; simp at this; omega
      rw [feedD_cat a (feed1 d b) e s (by rw [← h1.1, ← h2]) hg]
      simp; omega

end Go.Proofs.YtnnhdehmlkkfjaaGreatDoor

set_option linter.unusedVariables false
set_option linter.unnecessarySimpa false
set_option linter.unusedSimpArgs false
set_option linter.unusedSectionVars false
set_option maxRecDepth 100000
namespace Go.Proofs.YtnnhdehmlkkfjaaGreatDoor
open Go Go.RowKit Go.Proofs

def not10 (b : UInt8) : Bool := b != 10
section
variable (E : Env) (H : Hp) (Q : AV → Hp → Prop)
end
end Go.Proofs.YtnnhdehmlkkfjaaGreatDoor

set_option linter.unusedVariables false
set_option linter.unnecessarySimpa false
set_option linter.unusedSimpArgs false
set_option linter.unusedSectionVars false
set_option maxRecDepth 100000
namespace Go.Proofs.YtnnhdehmlkkfjaaGreatDoor
open Go Go.RowKit Go.Proofs

section
variable (E : Env) (H : Hp) (Q : AV → Hp → Prop)
variable (t e : Int) (d : Bool) (b : List UInt8) (z : AV) (z1 : z.dis = z) (z2 : z.free = true) (z3 : Bnd H.length z)
include z1 z2 z3
end
end Go.Proofs.YtnnhdehmlkkfjaaGreatDoor

set_option linter.unusedVariables false
set_option linter.unnecessarySimpa false
set_option linter.unusedSimpArgs false
set_option linter.unusedSectionVars false
set_option maxRecDepth 100000
namespace Go.Proofs.YtnnhdehmlkkfjaaGreatDoor
open Go Go.RowKit Go.Proofs

section
variable (m r f : Int)
def szD (B : List UInt8) (a : Nat) : Dec := ⟨m, r, f, .size, [], 0, B, [], 0, a, false, 0⟩
def trD (B : List UInt8) (T : List Fld) (sec : Nat) (a : Nat) : Dec := ⟨m, r, f, .trailer, [], 0, B, T, sec, a, false, 0⟩
/-- The decoder is at a place of the text. -/
def Fw (s : List UInt8) (d : Dec) (a : Nat) : Prop := feedD (newD m r f) s = ((feedD d (s.drop a)).1, (feedD d (s.drop a)).2 + a)
/-- What came of the text. -/
def Ends (s : List UInt8) (t : Nat) (e : Int) (dn : Bool) (B : List UInt8) (T : List Fld) : Prop :=
  (feedD (newD m r f) s).2 = t ∧ (feedD (newD m r f) s).1.err = e ∧ (feedD (newD m r f) s).1.done = dn ∧ (feedD (newD m r f) s).1.body = B ∧ (feedD (newD m r f) s).1.trailers = T
variable {m r f} {s : List UInt8} {d d1 : Dec} {a n : Nat} {b : UInt8} {B : List UInt8} {T : List Fld} {sec : Nat}
theorem Fw.step (h : Fw m r f s d a) (h1 : feedD d ((s.drop a).take n) = (d1, ((s.drop a).take n).length)) (hg : goD d1) (hb : s[a + n]? = some b) :
    (goD (feed1 d1 b) → Fw m r f s (feed1 d1 b) (a + n + 1)) ∧ ((feed1 d1 b).done = true ∨ (feed1 d1 b).err ≠ 0 → feedD (newD m r f) s = (feed1 d1 b, a + n + 1)) := by
  have hlt := (List.getElem?_eq_some_iff.1 hb).1
  have hlen : ((s.drop a).take n).length = n := by rw [List.length_take, List.length_drop]; omega
  have hs : s.drop a = (s.drop a).take n ++ b :: s.drop (a + n + 1) := by
    have h2 : (s.drop a).drop n = b :: s.drop (a + n + 1) := by
      rw [List.drop_drop, List.drop_eq_getElem_cons hlt]
      rw [(List.getElem?_eq_some_iff.1 hb).2]
    conv => lhs; rw [← List.take_append_drop n (s.drop a), h2]
  have hc := feedD_cat _ d d1 (b :: s.drop (a + n + 1)) h1 hg
  rw [← hs, hlen] at hc
  constructor
  · intro hg2
    unfold Fw at h ⊢
    rw [h, hc, feedD_go _ hg2]
    simp; omega
  · intro hst
    unfold Fw at h
    rw [h, hc, feedD_stop _ hst]
    simp; omega
theorem Fw.all (h : Fw m r f s d a) (ha : a ≤ s.length) (h1 : feedD d (s.drop a) = (d1, (s.drop a).length)) : Ends m r f s s.length d1.err d1.done d1.body d1.trailers := by
  unfold Fw at h
  rw [h1] at h
  unfold Ends
  rw [h]
  rw [List.length_drop]
  exact ⟨by simp only; omega, rfl, rfl, rfl, rfl⟩
section
variable (h : Fw m r f s (szD m r f B a) a) (hj : a + n < s.length) (hn : run not10 (s.drop a) = n) (h256 : n < 256)
include h hj hn h256
variable {l : List UInt8} (hx : endL ((s.drop a).take n ++ [10]) = some l)
include hx
variable (he : (sizeAns l).2.2 = 0)
include he
end
theorem Fw.one (h : Fw m r f s d a) (hg : goD d) (hb : s[a]? = some b) : (goD (feed1 d b) → Fw m r f s (feed1 d b) (a + 1)) ∧ ((feed1 d b).done = true ∨ (feed1 d b).err ≠ 0 → feedD (newD m r f) s = (feed1 d b, a + 1)) :=
  h.step (n := 0) (by simp [feedD]) hg hb
section
variable (h : Fw m r f s (trD m r f B T sec a) a) (hj : a + n < s.length) (hn : run not10 (s.drop a) = n) (hr : ((sec + n : Nat) : Int) < r)
include h hj hn hr
variable {l : List UInt8} (hx : endL ((s.drop a).take n ++ [10]) = some l) (hl : l ≠ [])
include hx hl
variable (hf : ¬ f ≤ T.length)
include hf
end
end
end Go.Proofs.YtnnhdehmlkkfjaaGreatDoor

set_option linter.unusedVariables false
set_option linter.unnecessarySimpa false
set_option linter.unusedSimpArgs false
set_option linter.unusedSectionVars false
set_option maxRecDepth 100000
namespace Go.Proofs.YtnnhdehmlkkfjaaGreatDoor
open Go Go.RowKit Go.Proofs

section
variable (E : Env) (H : Hp) (Q : AV → Hp → Prop)
end
end Go.Proofs.YtnnhdehmlkkfjaaGreatDoor

set_option linter.unusedVariables false
set_option linter.unnecessarySimpa false
set_option linter.unusedSimpArgs false
set_option linter.unusedSectionVars false
set_option maxRecDepth 100000
namespace Go.Proofs.YtnnhdehmlkkfjaaGreatDoor
open Go Go.RowKit Go.Proofs

section
variable (E : Env) (H : Hp) (Q : AV → Hp → Prop)
end
end Go.Proofs.YtnnhdehmlkkfjaaGreatDoor

set_option linter.unusedVariables false
set_option linter.unnecessarySimpa false
set_option linter.unusedSimpArgs false
set_option linter.unusedSectionVars false
set_option maxRecDepth 100000
namespace Go.Proofs.YtnnhdehmlkkfjaaGreatDoor
open Go Go.RowKit Go.Proofs

section
variable (E : Env) (H : Hp) (Q : AV → Hp → Prop)
end
theorem kind_i64 {x : AV} (h : KindOf (.int .i64) x) : ∃ z, x = .int .i64 z ∧ -9223372036854775808 ≤ z ∧ z ≤ 9223372036854775807 := by
  cases x <;> simp [KindOf] at h
  obtain ⟨rfl, h⟩ := h
  refine ⟨_, rfl, ?_⟩
  simpa [Lit.wf, IntKind.min, IntKind.max, IntKind.signed, IntKind.bits] using h
end Go.Proofs.YtnnhdehmlkkfjaaGreatDoor

set_option linter.unusedVariables false
set_option linter.unnecessarySimpa false
set_option linter.unusedSimpArgs false
set_option linter.unusedSectionVars false
set_option maxRecDepth 100000
namespace Go.Proofs.YtnnhdehmlkkfjaaGreatDoor
open Go Go.RowKit Go.Proofs

/-- A decoder that is played, as the law has it. -/
def dptr (p : Option Nat) : AV := .ptr (p.map fun i => (i, 0))
def PlI (H : Hp) (p : Option Nat) (m r f : Int) (fed : List UInt8) (gone : Bool) : Prop := ∀ i, p = some i →
  H[i]? = some (feedD (newD m r f) fed).1.av ∧ (feedD (newD m r f) fed).2 = fed.length ∧ (gone = false → goD (feedD (newD m r f) fed).1) ∧ (gone = true → (feedD (newD m r f) fed).1.done = true ∨ (feedD (newD m r f) fed).1.err ≠ 0) ∧
    (0 ≤ m ∧ m ≤ 9223372036854775807) ∧ (0 ≤ r ∧ r ≤ 9223372036854775807) ∧ (0 ≤ f ∧ f ≤ 9223372036854775807)
theorem aPost_up {P : Program} {rs : List ResultVar} {n : Nat} {Q : AV → Hp → Prop} {fr : List AV} {H' : Hp} {v : AV} (h1 : ares P fr H' rs = some v) (h3 : n ≤ H'.length) (h4 : BndH H'.length H') (h5 : Bnd H'.length v) (h6 : Q v H') :
    aPost P rs n Q .ret fr H' := ⟨v, v, H', H', [], h1, nilV_refl _, nilH_refl _, (List.append_nil H').symm, h3, h4, h5, h6⟩
theorem pc_enterF {P : Program} {E : Env} (S : Nat → Prop) {f : FuncId} {fn : Func} {c : Code} (hf : P.funcs[f]? = some fn) (hb : fn.body = some c) (B : List Tmp) (ND : List (Nat × List Nat)) (hok : okB P B ND fn = true) {args : List AV} {H : Hp} {Q : AV → Hp → Prop}
    (h : ∀ E' : Env, E'.S = S → E'.w0 = E.w0 → E'.Fix = E.Fix → BndH H.length H → vc P E' B ND c (aPost P fn.results.toList H.length Q) (args ++ List.replicate (fn.ntmps - args.length) (.raw undef)) H) : PC P E f args H Q :=
  PC.env (E := E) (E' := { E with S := S }) rfl rfl (pc_enter hf hb B ND hok (h _ rfl rfl rfl))
section
variable (E : Env) (H : Hp) (Q : AV → Hp → Prop)
structure COp where
  k : Int
  s : List UInt8
def COp.av (o : COp) : List AV := [.int .i64 o.k, .str o.s]
end
end Go.Proofs.YtnnhdehmlkkfjaaGreatDoor

set_option linter.unusedVariables false
set_option linter.unnecessarySimpa false
set_option linter.unusedSimpArgs false
set_option linter.unusedSectionVars false
set_option maxRecDepth 100000
namespace Go.Proofs.YtnnhdehmlkkfjaaGreatDoor
open Go Go.RowKit Go.Proofs

@[simp] theorem dptr_dis (p : Option Nat) : (dptr p).dis = dptr p := rfl
@[simp] theorem dptr_free (p : Option Nat) : (dptr p).free = true := rfl
@[simp] theorem dptr_one (p : Option Nat) : (dptr p).one = true := rfl
theorem at_lt {α : Type} {l : List α} {i : Nat} {x : α} (h : l[i]? = some x) : i < l.length := (List.getElem?_eq_some_iff.1 h).1
theorem PlI.of_eq {H H' : Hp} {p : Option Nat} {m r f : Int} {fed : List UInt8} {gone : Bool} (h : PlI H p m r f fed gone) (he : ∀ i, p = some i → H'[i]? = H[i]?) : PlI H' p m r f fed gone := fun i hi => by
  have := h i hi
  rw [he i hi]; exact this
theorem PlI.lt {H : Hp} {p : Option Nat} {m r f : Int} {fed : List UInt8} {gone : Bool} (h : PlI H p m r f fed gone) (i : Nat) (hi : p = some i) : i < H.length := at_lt (h i hi).1
theorem PlI.app {H : Hp} {p : Option Nat} {m r f : Int} {fed : List UInt8} {gone : Bool} (h : PlI H p m r f fed gone) (J : Hp) : PlI (H ++ J) p m r f fed gone :=
  h.of_eq fun i hi => List.getElem?_append_left (h.lt i hi)
def cops (l : List COp) : List (List AV) := l.map COp.av
@[simp] theorem cops_len (l : List COp) : (cops l).length = l.length := by simp [cops]
def COp.wf (o : COp) : Prop := -9223372036854775808 ≤ o.k ∧ o.k ≤ 9223372036854775807
section
variable (E : Env) (H : Hp) (Q : AV → Hp → Prop)
variable {H}
variable (H)
end
end Go.Proofs.YtnnhdehmlkkfjaaGreatDoor

set_option linter.unusedVariables false
set_option linter.unnecessarySimpa false
set_option linter.unusedSimpArgs false
set_option linter.unusedSectionVars false
set_option maxRecDepth 100000
namespace Go.Proofs.YtnnhdehmlkkfjaaGreatDoor
open Go Go.RowKit Go.Proofs

end Go.Proofs.YtnnhdehmlkkfjaaGreatDoor

set_option linter.unusedVariables false
set_option linter.unnecessarySimpa false
set_option linter.unusedSimpArgs false
set_option linter.unusedSectionVars false
set_option maxRecDepth 100000
namespace Go.Proofs.YtnnhdehmlkkfjaaGreatDoor
open Go Go.RowKit Go.Proofs

def ints (l : List Int) : List (List AV) := l.map fun z => [.int .i64 z]
@[simp] theorem ints_len (l : List Int) : (ints l).length = l.length := by simp [ints]
section
variable (E : Env) (H : Hp) (Q : AV → Hp → Prop)
end
end Go.Proofs.YtnnhdehmlkkfjaaGreatDoor

set_option linter.unusedVariables false
set_option linter.unnecessarySimpa false
set_option linter.unusedSimpArgs false
set_option linter.unusedSectionVars false
set_option maxRecDepth 100000
namespace Go.Proofs.YtnnhdehmlkkfjaaGreatDoor
open Go Go.RowKit Go.Proofs

/-- The digit that says n, and the digits. -/
def hx (n : Nat) : UInt8 := if n < 10 then UInt8.ofNat (48 + n) else UInt8.ofNat (87 + n)
end Go.Proofs.YtnnhdehmlkkfjaaGreatDoor

set_option linter.unusedVariables false
set_option linter.unnecessarySimpa false
set_option linter.unusedSimpArgs false
set_option linter.unusedSectionVars false
set_option maxRecDepth 100000
namespace Go.Proofs.YtnnhdehmlkkfjaaGreatDoor
open Go Go.RowKit Go.Proofs

section
variable (E : Env) (H : Hp) (Q : AV → Hp → Prop)
end
section
variable (E : Env) (H : Hp) (Q : AV → Hp → Prop)
end
end Go.Proofs.YtnnhdehmlkkfjaaGreatDoor

set_option linter.unusedVariables false
set_option linter.unnecessarySimpa false
set_option linter.unusedSimpArgs false
set_option linter.unusedSectionVars false
set_option maxRecDepth 100000
namespace Go.Proofs.YtnnhdehmlkkfjaaGreatDoor
open Go Go.RowKit Go.Proofs

/-- The one row of the table of trailing zeros that is asked. -/
def Tz (w : World) : Prop := w.cell? ⟨4, 15, none⟩ = some (.int .u8 4)
/-- .. and the table of tokens' signs. -/
def SZ (E : Env) : Prop := SE E ∧ E.Fix 4 ∧ Tz E.w0
@[simp] theorem tzc65 : tzc Tryz.prog 222 = some (List.replicate 65 (.int .u8 0)) := by kernel_rfl
section
variable (E : Env) (H : Hp) (Q : AV → Hp → Prop)
end
end Go.Proofs.YtnnhdehmlkkfjaaGreatDoor

set_option linter.unusedVariables false
set_option linter.unnecessarySimpa false
set_option linter.unusedSimpArgs false
set_option linter.unusedSectionVars false
set_option maxRecDepth 100000
namespace Go.Proofs.YtnnhdehmlkkfjaaGreatDoor
open Go Go.RowKit Go.Proofs

section
variable (E : Env) (H : Hp) (Q : AV → Hp → Prop)
end
end Go.Proofs.YtnnhdehmlkkfjaaGreatDoor

set_option linter.unusedVariables false
set_option linter.unusedSimpArgs false
set_option linter.unusedSectionVars false
set_option maxRecDepth 100000
namespace Go.Proofs.YtnnhdehmlkkfjaaGreatDoor
open Go Go.RowKit Go.Proofs

abbrev TU : TypeId := 5
section
variable (E : Env) (H : Hp) (Q : AV → Hp → Prop)
end
end Go.Proofs.YtnnhdehmlkkfjaaGreatDoor

set_option linter.unusedVariables false
set_option linter.unnecessarySimpa false
set_option linter.unusedSimpArgs false
set_option linter.unusedSectionVars false
set_option maxRecDepth 100000
namespace Go.Proofs.YtnnhdehmlkkfjaaGreatDoor
open Go Go.RowKit Go.Proofs

def u8L (l : List UInt8) : List AV := l.map fun b => .int .u8 (b.toNat : Int)
@[simp] theorem u8L_length (l : List UInt8) : (u8L l).length = l.length := by simp [u8L]
def strRows (strs : List (List UInt8)) : List (List AV) := strs.map fun s => [.str s]
section
variable (E : Env) (H : Hp) (Q : AV → Hp → Prop)
end
end Go.Proofs.YtnnhdehmlkkfjaaGreatDoor

set_option linter.unusedVariables false
set_option linter.unnecessarySimpa false
set_option linter.unusedSimpArgs false
set_option linter.unusedSectionVars false
set_option maxRecDepth 100000
namespace Go.Proofs.YtnnhdehmlkkfjaaGreatDoor
open Go Go.RowKit Go.Proofs

@[simp] theorem tblfB : tblf Tryz.prog 120 = some TU := by kernel_rfl
section
variable (E : Env) (H : Hp) (Q : AV → Hp → Prop)
end
def fsz : List Fld → Nat
  | [] => 0
  | f :: l => f.name.length + f.value.length + fsz l
theorem fsz_mem {l : List Fld} {i : Nat} {f : Fld} (h : l[i]? = some f) : f.name.length + f.value.length ≤ fsz l := by
  induction l generalizing i with
  | nil => simp at h
  | cons q l ih =>
    cases i with
    | zero => simp at h; subst h; simp [fsz]
    | succ i => have := ih (i := i) (by simpa using h); simp [fsz]; omega
end Go.Proofs.YtnnhdehmlkkfjaaGreatDoor

set_option linter.unusedVariables false
set_option linter.unnecessarySimpa false
set_option linter.unusedSimpArgs false
set_option linter.unusedSectionVars false
set_option maxRecDepth 100000
namespace Go.Proofs.YtnnhdehmlkkfjaaGreatDoor
open Go Go.RowKit Go.Proofs

/-- Two names alike. -/
def lowEq (a b : List UInt8) : Bool := low a == low b
/-- The values of a name. -/
def allB (l : List Fld) (n : List UInt8) : List (List UInt8) := (l.filter fun f => lowEq f.name n).map fun f => f.value
theorem allB_step (l : List Fld) (n : List UInt8) (i : Nat) (f : Fld) (h : l[i]? = some f) : allB (l.take (i + 1)) n = allB (l.take i) n ++ (if lowEq f.name n = true then [f.value] else []) := by
  unfold allB
  rw [List.take_add_one, h]
  simp only [Option.toList, List.filter_append, List.map_append]
  congr 1
  by_cases hl : lowEq f.name n = true
  · rw [if_pos hl, List.filter_cons, if_pos hl]; rfl
  · rw [if_neg hl, List.filter_cons, if_neg hl]; rfl
theorem allB_len (l : List Fld) (n : List UInt8) : (allB l n).length ≤ l.length := by
  unfold allB
  rw [List.length_map]
  exact List.length_filter_le _ _
/-- The bulk of texts. -/
def vsz : List (List UInt8) → Nat
  | [] => 0
  | x :: r => x.length + 1 + vsz r
theorem vsz_app (a b : List (List UInt8)) : vsz (a ++ b) = vsz a + vsz b := by
  induction a with
  | nil => simp [vsz]
  | cons x a ih => simp [vsz, ih]; omega
theorem vsz_allB (l : List Fld) (n : List UInt8) : vsz (allB l n) ≤ fsz l + l.length := by
  induction l with
  | nil => simp [allB, vsz]
  | cons f l ih =>
    unfold allB at ih ⊢
    rw [List.filter_cons]
    simp only [fsz, List.length_cons]
    split
    · simp only [List.map_cons, vsz]; omega
    · omega
theorem vsz_take (l : List (List UInt8)) (i : Nat) : vsz (l.take i) ≤ vsz l := by
  have := congrArg vsz (List.take_append_drop i l)
  rw [vsz_app] at this
  omega
theorem vsz_mem {l : List (List UInt8)} {i : Nat} {x : List UInt8} (h : l[i]? = some x) : x.length + 1 ≤ vsz l := by
  induction l generalizing i with
  | nil => simp at h
  | cons a l ih =>
    cases i with
    | zero => simp at h; subst h; simp [vsz]
    | succ i => simp at h; have := ih h; simp [vsz]; omega
theorem vsz_len (l : List (List UInt8)) : l.length ≤ vsz l := by
  induction l with
  | nil => simp
  | cons a l ih => simp [vsz]; omega
/-- The elements of all values. -/
def listsB : List (List UInt8) → Option (List (List UInt8))
  | [] => some []
  | v :: r => match listB v with
    | none => none
    | some x => (listsB r).map (x ++ ·)
theorem listsB_app : ∀ (a b : List (List UInt8)), listsB (a ++ b) = match listsB a with
    | none => none
    | some x => (listsB b).map (x ++ ·)
  | [], b => by
    show listsB b = (listsB b).map (fun y => [] ++ y)
    cases listsB b <;> simp
  | v :: a, b => by
    rw [List.cons_append, listsB, listsB_app a b, listsB]
    cases listB v with
    | none => rfl
    | some x =>
      cases listsB a with
      | none => rfl
      | some y => cases listsB b <;> simp
theorem listsB_step {vs : List (List UInt8)} {i : Nat} {v : List UInt8} {acc x : List (List UInt8)} (h : vs[i]? = some v) (ha : listsB (vs.take i) = some acc) (hv : listB v = some x) : listsB (vs.take (i + 1)) = some (acc ++ x) := by
  rw [List.take_add_one, h, Option.toList, listsB_app, ha]
  simp [listsB, hv]
theorem listsB_stop {vs : List (List UInt8)} {i : Nat} {v : List UInt8} (h : vs[i]? = some v) (hv : listB v = none) : listsB vs = none := by
  have hi := (List.getElem?_eq_some_iff.1 h).1
  have e : vs = vs.take i ++ (v :: vs.drop (i + 1)) := by
    rw [← (List.getElem?_eq_some_iff.1 h).2, ← List.drop_eq_getElem_cons hi, List.take_append_drop]
  rw [e, listsB_app]
  cases listsB (vs.take i) with
  | none => rfl
  | some y => simp [listsB, hv]
theorem listsB_len : ∀ (vs acc : List (List UInt8)), listsB vs = some acc → acc.length ≤ vsz vs
  | [], acc, h => by cases h; simp
  | v :: r, acc, h => by
    rw [listsB] at h
    cases hv : listB v with
    | none => rw [hv] at h; cases h
    | some x =>
      rw [hv] at h
      cases hr : listsB r with
      | none => rw [hr] at h; cases h
      | some y =>
        rw [hr] at h
        cases h
        have h1 := listB_len hv
        have h2 := listsB_len r y hr
        simp [vsz]; omega
theorem listsB_mem : ∀ (vs acc : List (List UInt8)), listsB vs = some acc → ∀ p ∈ acc, p.length ≤ vsz vs
  | [], acc, h => by cases h; simp
  | v :: r, acc, h => by
    rw [listsB] at h
    cases hv : listB v with
    | none => rw [hv] at h; cases h
    | some x =>
      rw [hv] at h
      cases hr : listsB r with
      | none => rw [hr] at h; cases h
      | some y =>
        rw [hr] at h
        cases h
        intro p hp
        rcases List.mem_append.1 hp with hp | hp
        · have := listB_mem hv p hp; simp [vsz]; omega
        · have := listsB_mem r y hr p hp; simp [vsz]; omega
/-- What Tokens answers. -/
def toksA (l : List Fld) (n : List UInt8) : List (List UInt8) × Int := match listsB (allB l n) with
  | some x => if x.all tokB = true then (x.map low, 0) else ([], 10)
  | none => ([], 14)
def nCL : List UInt8 := [67, 111, 110, 116, 101, 110, 116, 45, 76, 101, 110, 103, 116, 104]
def nTE : List UInt8 := [84, 114, 97, 110, 115, 102, 101, 114, 45, 69, 110, 99, 111, 100, 105, 110, 103]
def vChunked : List UInt8 := [99, 104, 117, 110, 107, 101, 100]
/-- The number that digits say; -1: none. -/
def decA (x : List UInt8) : Int := if (numAns 10 1099511627776 x).2 = 0 then (numAns 10 1099511627776 x).1 else -1
def lengthA (l : List Fld) : Int × Bool × Int := if allB l nCL = [] then (0, false, 0) else match listsB (allB l nCL) with
  | some (x :: r) => if decA x < 0 ∨ (r.all fun y => decide (decA y = decA x)) = false then (0, false, 66) else (decA x, true, 0)
  | _ => (0, false, 66)
def codingsA (l : List Fld) : List (List UInt8) × Bool × Int := if allB l nTE = [] then ([], false, 0) else if (toksA l nTE).2 = 0 then ((toksA l nTE).1, true, 0) else ([], false, 67)
/-- How a body is framed: kind, length, error. -/
def framingA (l : List Fld) (old : Bool) : Int × Int × Int :=
  if (codingsA l).2.2 ≠ 0 ∨ ((codingsA l).2.1 = true ∧ (old = true ∨ (codingsA l).1 ≠ [vChunked])) then (0, 0, 67)
  else if (lengthA l).2.2 ≠ 0 then (0, 0, (lengthA l).2.2)
  else if (codingsA l).2.1 = true ∧ (lengthA l).2.1 = true then (0, 0, 68)
  else if (codingsA l).2.1 = true then (2, 0, 0)
  else if (lengthA l).2.1 = true then (1, (lengthA l).1, 0)
  else (0, 0, 0)
/-- What a head says, or what is wrong with it, and where. -/
inductive HD where
  | ok (fs : List Fld) (e : Nat)
  | bad (n : Int) (e : Int)
  | part
structure Resp where
  status : Int
  reason : List UInt8
  fields : List Fld
  body : List UInt8
structure Mann where
  method : List UInt8
  close : Bool
  old : Bool
  chunked : Bool
  sizes : List Int
  trailers : List Fld
def Resp.avs (r : Resp) : List AV := [.int .i64 r.status, .str r.reason, .sl false 2 (flds r.fields), .str r.body]
def Mann.avs (h : Mann) : List AV := [.str h.method, .bool h.close, .bool h.old, .bool h.chunked, .sl false 1 (ints h.sizes), .sl false 2 (flds h.trailers)]
/-- A reply: minor, status, reason, fields, body, trailers, kind, length, persist. -/
structure Rep where
  minor : Int
  status : Int
  reason : List UInt8
  fields : List Fld
  body : List UInt8
  trailers : List Fld
  kind : Int
  length : Int
  persist : Bool
end Go.Proofs.YtnnhdehmlkkfjaaGreatDoor

set_option linter.unusedVariables false
set_option linter.unusedSimpArgs false
set_option linter.unusedSectionVars false
set_option maxRecDepth 100000
namespace Go.Proofs.YtnnhdehmlkkfjaaGreatDoor
open Go Go.RowKit

theorem byte_n (b : UInt8) (n : Nat) (hn : n < 256) (z : Int) (hz : z = n) (h : b ≠ UInt8.ofNat n) : ((b.toNat : Int) == z) = false ∧ ((b.toNat : Int) != z) = true := by
  subst hz
  have := byte_ne b n hn h
  exact ⟨this, by unfold bne; rw [this]; rfl⟩
/-! ### Targets -/
def alnumB (c : UInt8) : Bool := (97 ≤ c.toNat && c.toNat ≤ 122) || (65 ≤ c.toNat && c.toNat ≤ 90) || (48 ≤ c.toNat && c.toNat ≤ 57)
def unresB (c : UInt8) : Bool := alnumB c || [45, 46, 95, 126].contains c
def delimB (c : UInt8) : Bool := [33, 36, 38, 39, 40, 41, 42, 43, 44, 59, 61].contains c
def besideB (c : UInt8) : Bool := c == 58 || c == 64
/-- What a byte's class is, as a number. -/
def classN (c : UInt8) : Int := if unresB c then 1 else if delimB c then 2 else if besideB c then 4 else if c = 47 then 8 else if c = 63 then 16 else 0
def hexT (c : UInt8) : Int := if 48 ≤ c.toNat ∧ c.toNat ≤ 57 then c.toNat - 48 else if 97 ≤ c.toNat ∧ c.toNat ≤ 102 then c.toNat - 97 + 10 else if 65 ≤ c.toNat ∧ c.toNat ≤ 70 then c.toNat - 65 + 10 else -1
/-- A percent triple stands at the front. -/
def tripB : List UInt8 → Bool
  | c :: a :: b :: _ => c == 37 && decide (0 ≤ hexT a) && decide (0 ≤ hexT b)
  | _ => false
/-- How far a text has signs of some classes and triples. -/
def signsN (may : UInt8 → Bool) (s : List UInt8) : Nat := match s with
  | [] => 0
  | c :: r => if tripB (c :: r) then 3 + signsN may (r.drop 2) else if may c then 1 + signsN may r else 0
termination_by s.length
def hostS (c : UInt8) : Bool := unresB c || delimB c
def pathS (c : UInt8) : Bool := unresB c || delimB c || besideB c || c == 47
def querS (c : UInt8) : Bool := unresB c || delimB c || besideB c || c == 47 || c == 63
def wrongT (c : UInt8) (other : Int) : Int := if c = 37 then 51 else other
def cut1 (c : UInt8) (s : List UInt8) : List UInt8 × List UInt8 × Bool := (s.takeWhile (· != c), (s.dropWhile (· != c)).drop 1, s.contains c)
def cut2 (c : UInt8) : List UInt8 → List UInt8 × List UInt8 × Bool
  | a :: b :: r => if a = c ∧ b = c then ([], r, true) else ((a :: (cut2 c (b :: r)).1), (cut2 c (b :: r)).2)
  | s => (s, [], false)
def splitC (c : UInt8) : List UInt8 → List (List UInt8)
  | [] => [[]]
  | x :: r => if x = c then [] :: splitC c r else match splitC c r with
    | h :: t => (x :: h) :: t
    | [] => [[x]]
def decOk (d : List UInt8) : Bool := (numAns 10 255 d).2 == 0 && Go.Lib.itoa (numAns 10 255 d).1 == d
def dotB (g : List UInt8) : Bool := (splitC 46 g).all decOk && (splitC 46 g).length == 4
def goG (last : Bool) : List (List UInt8) → Int → Int × Bool
  | [], n => (n, true)
  | g :: r, n => if last && r.isEmpty && g.contains 46 then (n + 2, dotB g)
    else if g.length < 1 ∨ 4 < g.length then (0, false)
    else if g.all (fun c => decide (0 ≤ hexT c)) then goG last r (n + 1) else (0, false)
def groupsA (s : List UInt8) (last : Bool) : Int × Bool := if s = [] then (0, true) else goG last (splitC 58 s) 0
def addrB (s : List UInt8) : Bool := match cut2 58 s with
  | (_, _, false) => (groupsA s true).2 && (groupsA s true).1 == 8
  | (a, b, true) => (groupsA a false).2 && (groupsA b true).2 && decide ((groupsA a false).1 + (groupsA b true).1 ≤ 7)
def hostB (s : List UInt8) : Bool := if s.head? = some 91 then s.getLast? == some 93 && addrB ((s.drop 1).dropLast) else !s.isEmpty && signsN hostS s == s.length
/-- Host and port, apart; false: not even that. -/
def authCut (s : List UInt8) : List UInt8 × List UInt8 × Bool :=
  if s.head? = some 91 ∧ s.contains 93 then
    let i := (s.takeWhile (· != 93)).length
    (s.take (i + 1), (s.drop (i + 1)).drop 1, (s.drop (i + 1)).isEmpty || (s.drop (i + 1)).head? == some 58)
  else ((cut1 58 s).1, (cut1 58 s).2.1, true)
def authA (s : List UInt8) : List UInt8 × Int × Int :=
  if (authCut s).2.2 = false ∨ hostB (authCut s).1 = false ∨ 5 < (authCut s).2.1.length then ([], 0, 52)
  else if (authCut s).2.1 = [] then (low (authCut s).1, -1, 0)
  else if (numAns 10 65535 (authCut s).2.1).2 ≠ 0 then ([], 0, 52) else (low (authCut s).1, (numAns 10 65535 (authCut s).2.1).1, 0)
/-- The error of a path and a query. -/
def behE (s : List UInt8) : Int := match s.drop (signsN pathS s) with
  | [] => 0
  | c :: q => if c ≠ 63 then wrongT c 53 else match q.drop (signsN querS q) with
    | [] => 0
    | d :: _ => wrongT d 54
/-- The error of a target. -/
def tgtE (m s : List UInt8) : Int := match s with
  | [] => 50
  | c :: _ => if m = [67, 79, 78, 78, 69, 67, 84] then (if (authA s).2.2 ≠ 0 ∨ (authA s).2.1 < 0 then 52 else 0)
    else if c = 47 then behE s
    else if s = [42] ∧ m = [79, 80, 84, 73, 79, 78, 83] then 0
    else if s.length < 7 ∨ low (s.take 7) ≠ [104, 116, 116, 112, 58, 47, 47] then 50
    else if (authA ((s.drop 7).takeWhile fun c => c != 47 && c != 63)).2.2 ≠ 0 then (authA ((s.drop 7).takeWhile fun c => c != 47 && c != 63)).2.2
    else behE ((s.drop 7).dropWhile fun c => c != 47 && c != 63)
/-- The field Host. -/
def hostF (l : List Fld) (old : Bool) : List UInt8 × Bool × Int := match allB l [72, 111, 115, 116] with
  | [] => if old then ([], false, 0) else ([], false, 69)
  | [v] => if v.any (fun b => decide (b.toNat < 33) || decide (126 < b.toNat) || [34, 35, 47, 60, 62, 63, 64, 92].contains b) then ([], false, 69) else (v, true, 0)
  | _ => ([], false, 69)

/-! ### A parser -/
inductive Md where
  | start | startEnd | method | target | line | fields | counted | chunked
deriving DecidableEq
structure Prs where
  lt : Int
  lh : Int
  lf : Int
  lb : Int
  nx : Option Md
  state : Int
  used : Int
  meth : List UInt8
  targ : List UInt8
  major : Int
  minor : Int
  fields : List Fld
  rbody : List UInt8
  trailers : List Fld
  fst_ : Int
  ferr : Int
  fat : Int
  text : List UInt8
  head : Int
  begin_ : Int
  left : Int
  body : List UInt8
  dec : Option Dec
  bodied : Bool
/-- What a byte leads to. -/
inductive SR where
  | go (p : Prs) (nx : Option Md)
  | bad (p : Prs) (st err at_ : Int)
def wrongS (p : Prs) (st err : Int) : SR := .bad p st err p.used
def startEndS (p : Prs) (c : UInt8) : SR := if c ≠ 10 then wrongS p 400 111 else .go p (some .start)
def methodS (p : Prs) (c : UInt8) : SR :=
  if tokB [c] then (if p.text.length = 24 then wrongS p 501 110 else .go { p with text := p.text ++ [c] } (some .method))
  else if c = 32 ∧ p.text ≠ [] then .go { p with meth := p.text, text := [] } (some .target) else wrongS p 400 110
def startS (p : Prs) (c : UInt8) : SR := if c = 13 then .go p (some .startEnd) else methodS { p with state := 1 } c
def targetS (p : Prs) (c : UInt8) : SR :=
  if 33 ≤ c.toNat ∧ c.toNat ≤ 126 then (if (p.text.length : Int) = p.lt then wrongS p 414 112 else .go { p with text := p.text ++ [c] } (some .target))
  else if c = 32 ∧ p.text ≠ [] then .go { p with targ := p.text, text := [] } (some .line) else wrongS p 400 111
def goodL (n : Nat) (c : UInt8) : Bool :=
  if n < 5 then ([72, 84, 84, 80, 47] : List UInt8)[n]? == some c else if n = 5 ∨ n = 7 then decide (48 ≤ c.toNat ∧ c.toNat ≤ 57) else if n = 6 then c == 46 else if n = 8 then c == 13 else if n = 9 then c == 10 else false
def vlineS (p : Prs) (c : UInt8) : SR :=
  if goodL p.text.length c = false then wrongS p 400 111
  else if p.text.length < 9 then .go { p with text := p.text ++ [c] } (some .line)
  else
    let p1 : Prs := { p with text := [], major := (p.text.getD 5 0).toNat - 48, minor := (p.text.getD 7 0).toNat - 48 }
    if p1.major ≠ 1 ∨ 1 < p1.minor then wrongS p1 505 117
    else if tgtE p.meth p.targ ≠ 0 then wrongS p1 400 (tgtE p.meth p.targ)
    else .go { p1 with state := 2, begin_ := p.used + 1 } (some .fields)
def doneS (p : Prs) : SR := .go { p with rbody := p.body, state := 4 } none
def headedS (p : Prs) : SR :=
  let old := decide (p.minor = 0)
  let f := framingA p.fields old
  if f.2.2 = 67 then wrongS p 501 67
  else if f.2.2 ≠ 0 then wrongS p 400 f.2.2
  else if (hostF p.fields old).2.2 ≠ 0 then wrongS p 400 (hostF p.fields old).2.2
  else if (hostF p.fields old).1 ≠ [] ∧ (authA (hostF p.fields old).1).2.2 ≠ 0 then wrongS p 400 (authA (hostF p.fields old).1).2.2
  else if allB p.fields [69, 120, 112, 101, 99, 116] ≠ [] ∧ ((toksA p.fields [69, 120, 112, 101, 99, 116]).2 ≠ 0 ∨ (toksA p.fields [69, 120, 112, 101, 99, 116]).1 ≠ [[49, 48, 48, 45, 99, 111, 110, 116, 105, 110, 117, 101]]) then wrongS p 417 116
  else if p.lb < f.2.1 then wrongS p 413 114
  else if f.1 = 2 then .go { p with state := 3, dec := some (newD p.lb p.lh p.lf) } (some .chunked)
  else if 0 < f.2.1 then .go { p with state := 3, left := f.2.1 } (some .counted)
  else doneS { p with state := 3 }
def fieldsS (p : Prs) (c : UInt8) : SR :=
  if p.head = p.lh then wrongS p 431 113
  else if (p.text.getLast? == some 13) ≠ (c == 10) then wrongS { p with head := p.head + 1 } 400 111
  else if c ≠ 10 then .go { p with head := p.head + 1, text := p.text ++ [c] } (some .fields)
  else
    let p1 : Prs := { p with head := p.head + 1, text := [] }
    let line := p.text.dropLast
    if line = [] then headedS p1
    else if (p.fields.length : Int) = p.lf then wrongS p1 431 113
    else if (lineX line).2.2 ≠ 0 then .bad p1 400 (lineX line).2.2 (p.begin_ + (lineX line).2.1)
    else .go { p1 with fields := p.fields ++ [(lineX line).1], begin_ := p.used + 1 } (some .fields)
def countedS (p : Prs) (c : UInt8) : SR :=
  let p1 : Prs := { p with body := p.body ++ [c], bodied := true, left := p.left - 1 }
  if 0 < p1.left then .go p1 (some .counted) else doneS p1
def chunkedS (p : Prs) (c : UInt8) : SR := match p.dec with
  | none => wrongS { p with bodied := true } 400 103
  | some d =>
    if d.done = true ∨ d.err ≠ 0 then wrongS { p with bodied := true } 400 103
    else
      let d1 := (feedD d [c]).1
      let p1 : Prs := { p with bodied := true, dec := some d1 }
      if d1.err = 102 then wrongS p1 413 102
      else if d1.err = 104 then wrongS p1 431 104
      else if d1.err ≠ 0 then wrongS p1 400 d1.err
      else if d1.done = false then .go p1 (some .chunked)
      else doneS { p1 with body := d1.body, trailers := d1.trailers }
def stepS (p : Prs) (m : Md) (c : UInt8) : SR := match m with
  | .start => startS p c
  | .startEnd => startEndS p c
  | .method => methodS p c
  | .target => targetS p c
  | .line => vlineS p c
  | .fields => fieldsS p c
  | .counted => countedS p c
  | .chunked => chunkedS p c
/-- .. and how the parser then stands. -/
def SR.prs : SR → Prs
  | .go p nx => { p with nx := nx, used := p.used + 1 }
  | .bad p st err at_ => { p with nx := none, state := 5, used := p.used + 1, fst_ := st, ferr := err, fat := at_ }
/-- A parser is fed. -/
def feedP (p : Prs) : List UInt8 → Prs × Nat
  | [] => (p, 0)
  | c :: r => match p.nx with
    | none => (p, 0)
    | some m => match stepS p m c with
      | .go p1 nx => ((feedP { p1 with nx := nx, used := p1.used + 1 } r).1, (feedP { p1 with nx := nx, used := p1.used + 1 } r).2 + 1)
      | .bad p1 st err at_ => ((SR.bad p1 st err at_).prs, 1)

/-! ### A parser in a box -/
def Md.fid : Md → FuncId
  | .start => 39
  | .startEnd => 60
  | .method => 61
  | .target => 87
  | .line => 119
  | .fields => 145
  | .counted => 198
  | .chunked => 197
def nxV (b : Nat) : Option Md → AV
  | none => .raw .nilFunc
  | some m => .fn m.fid [.tup [.ptr (some (b, 0))]]
def Prs.av (b j : Nat) (p : Prs) : List AV := [.int .i64 p.lt, .int .i64 p.lh, .int .i64 p.lf, .int .i64 p.lb, nxV b p.nx, .int .i64 p.state, .int .i64 p.used, .str p.meth, .str p.targ, .int .i64 p.major, .int .i64 p.minor, .sl true 2 (flds p.fields), .str p.rbody, .sl false 2 (flds p.trailers),
  .int .i64 p.fst_, .int .i64 p.ferr, .int .i64 p.fat, .sl true 1 (bts p.text), .str [], .int .i64 p.head, .int .i64 p.begin_, .int .i64 p.left, .sl true 1 (bts p.body), .ptr (p.dec.map fun _ => (j, 0)), .bool p.bodied]
structure PB (H : Hp) (b j : Nat) (p : Prs) : Prop where
  row : H[b]? = some (p.av b j)
  dec : ∀ d, p.dec = some d → j ≠ b ∧ H[j]? = some d.av
/-- How large it may have become. -/
structure fitP (n : Nat) (p : Prs) : Prop where
  a : p.text.length + fsz p.fields + p.fields.length + p.meth.length + p.targ.length ≤ n
  b : p.body.length ≤ n
  c : ∀ d, p.dec = some d → okD d ∧ d.total ≤ n
  lt : 1 ≤ p.lt ∧ p.lt ≤ 65536
  lh : 2 ≤ p.lh ∧ p.lh ≤ 1048576
  lf : 0 ≤ p.lf ∧ p.lf ≤ 100
  lb : 0 ≤ p.lb ∧ p.lb ≤ 1073741824
  head : 0 ≤ p.head ∧ p.head ≤ n
  left : -(n : Int) ≤ p.left ∧ p.left ≤ 1073741824
  used : 0 ≤ p.used ∧ p.used ≤ n
  beg : 0 ≤ p.begin_ ∧ p.begin_ ≤ n
  asc : ∀ c ∈ p.targ, c.toNat < 128
  tx : p.nx = some .target → ∀ c ∈ p.text, c.toNat < 128
  ln : p.nx = some .line → ∀ k c, p.text[k]? = some c → goodL k c = true
  tr : p.trailers.length ≤ n
  rb : p.rbody.length ≤ n
/-- The boxes beside a parser's are as they were. -/
def OthP (K K' : Hp) (b j : Nat) (d : Bool) : Prop := K.length ≤ K'.length ∧ ∀ i, i < K.length → i ≠ b → (d = true → i ≠ j) → K'[i]? = K[i]?
end Go.Proofs.YtnnhdehmlkkfjaaGreatDoor

namespace Go.Proofs.YtnnhdehmlkkfjaaGreatDoor
open Go Go.Shelf Go.Proofs
def lrenb : Go.Shelf.Ren := ⟨fun | 99 => 186 | 100 => 210 | 101 => 187 | 119 => 214 | 120 => 223 | 129 => 182 | 137 => 156 | 138 => 248 | 143 => 242 | 144 => 235 | 145 => 188 | 146 => 234 | 151 => 202 | 152 => 192 | 153 => 165 | 160 => 154 | 161 => 200 | 169 => 75 | 171 => 80 | 195 => 249 | 197 => 201 | 206 => 207 | 207 => 225 | 208 => 208 | 217 => 180 | 218 => 250 | 219 => 224 | 220 => 209 | 221 => 241 | 224 => 215 | 225 => 216 | 226 => 193 | 227 => 174 | 228 => 194 | 231 => 172 | 232 => 173 | 233 => 175 | 234 => 176 | 235 => 177 | 236 => 178 | 243 => 112 | 246 => 141 | 260 => 222 | 266 => 204 | 267 => 233 | 268 => 247 | 271 => 203 | 283 => 158 | 284 => 159 | 285 => 160 | 286 => 161 | 314 => 240 | 317 => 181 | 318 => 183 | 319 => 184 | 320 => 185 | 337 => 205 | 338 => 206 | n => n, fun | 0 => 0 | 2 => 2 | 3 => 3 | 4 => 4 | 5 => 5 | 9 => 9 | 20 => 20 | 21 => 21 | 31 => 78 | 37 => 82 | 46 => 224 | 51 => 139 | 53 => 198 | 59 => 142 | 70 => 118 | 72 => 120 | 105 => 233 | 116 => 213 | 117 => 214 | 119 => 255 | 124 => 217 | 127 => 157 | 138 => 257 | 139 => 258 | 146 => 262 | 171 => 197 | 173 => 201 | 212 => 221 | 213 => 222 | 232 => 246 | 233 => 247 | n => n, fun | 1 => 2 | 3 => 5 | 4 => 6 | 17 => 1 | 18 => 3 | 19 => 4 | n => n⟩
theorem laysb99 : Go.Proofs.Lays.n99 Tryz.prog lrenb := {
  mixed := by kernel_rfl
  f99 := Tryz.func186.trans (congrArg some (by kernel_rfl))
  f206 := Tryz.func207.trans (congrArg some (by kernel_rfl))
  t3 := Tryz.underlying3
  a3 := Tryz.isAgg3
  z3 := Tryz.sizeOf3
  v3 := Tryz.zeroValue3
  t4 := Tryz.underlying4
  a4 := Tryz.isAgg4
  z4 := Tryz.sizeOf4
  v4 := Tryz.zeroValue4
  t9 := Tryz.underlying9
  a9 := Tryz.isAgg9
  z9 := Tryz.sizeOf9
  v9 := Tryz.zeroValue9 }
theorem laysb100 : Go.Proofs.Lays.n100 Tryz.prog lrenb := {
  mixed := by kernel_rfl
  f100 := Tryz.func210.trans (congrArg some (by kernel_rfl))
  f207 := Tryz.func225.trans (congrArg some (by kernel_rfl))
  t3 := Tryz.underlying3
  a3 := Tryz.isAgg3
  z3 := Tryz.sizeOf3
  v3 := Tryz.zeroValue3
  t4 := Tryz.underlying4
  a4 := Tryz.isAgg4
  z4 := Tryz.sizeOf4
  v4 := Tryz.zeroValue4
  t9 := Tryz.underlying9
  a9 := Tryz.isAgg9
  z9 := Tryz.sizeOf9
  v9 := Tryz.zeroValue9 }
theorem laysb101 : Go.Proofs.Lays.n101 Tryz.prog lrenb := {
  mixed := by kernel_rfl
  f101 := Tryz.func187.trans (congrArg some (by kernel_rfl))
  f206 := Tryz.func207.trans (congrArg some (by kernel_rfl))
  f208 := Tryz.func208.trans (congrArg some (by kernel_rfl))
  t3 := Tryz.underlying3
  a3 := Tryz.isAgg3
  z3 := Tryz.sizeOf3
  v3 := Tryz.zeroValue3
  t4 := Tryz.underlying4
  a4 := Tryz.isAgg4
  z4 := Tryz.sizeOf4
  v4 := Tryz.zeroValue4
  t9 := Tryz.underlying9
  a9 := Tryz.isAgg9
  z9 := Tryz.sizeOf9
  v9 := Tryz.zeroValue9 }
theorem laysb144 : Go.Proofs.Lays.n144 Tryz.prog lrenb := {
  mixed := by kernel_rfl
  f143 := Tryz.func242.trans (congrArg some (by kernel_rfl))
  f144 := Tryz.func235.trans (congrArg some (by kernel_rfl))
  f217 := Tryz.func180.trans (congrArg some (by kernel_rfl))
  f219 := Tryz.func224.trans (congrArg some (by kernel_rfl))
  f224 := Tryz.func215.trans (congrArg some (by kernel_rfl))
  f225 := Tryz.func216.trans (congrArg some (by kernel_rfl))
  f266 := Tryz.func204.trans (congrArg some (by kernel_rfl))
  f267 := Tryz.func233.trans (congrArg some (by kernel_rfl))
  f314 := Tryz.func240.trans (congrArg some (by kernel_rfl))
  t3 := Tryz.underlying3
  a3 := Tryz.isAgg3
  z3 := Tryz.sizeOf3
  v3 := Tryz.zeroValue3
  t4 := Tryz.underlying4
  a4 := Tryz.isAgg4
  z4 := Tryz.sizeOf4
  v4 := Tryz.zeroValue4
  t5 := Tryz.underlying5
  a5 := Tryz.isAgg5
  z5 := Tryz.sizeOf5
  v5 := Tryz.zeroValue5
  t9 := Tryz.underlying9
  a9 := Tryz.isAgg9
  z9 := Tryz.sizeOf9
  v9 := Tryz.zeroValue9
  t46 := Tryz.underlying224
  a46 := Tryz.isAgg224
  z46 := Tryz.sizeOf224
  v46 := Tryz.zeroValue224
  t51 := Tryz.underlying139
  a51 := Tryz.isAgg139
  z51 := Tryz.sizeOf139
  v51 := Tryz.zeroValue139
  t146 := Tryz.underlying262
  a146 := Tryz.isAgg262
  z146 := Tryz.sizeOf262
  v146 := Tryz.zeroValue262
  g1 := by kernel_rfl }
theorem laysb145 : Go.Proofs.Lays.n145 Tryz.prog lrenb := {
  mixed := by kernel_rfl
  f145 := Tryz.func188.trans (congrArg some (by kernel_rfl))
  f217 := Tryz.func180.trans (congrArg some (by kernel_rfl))
  f219 := Tryz.func224.trans (congrArg some (by kernel_rfl))
  f220 := Tryz.func209.trans (congrArg some (by kernel_rfl))
  f224 := Tryz.func215.trans (congrArg some (by kernel_rfl))
  f225 := Tryz.func216.trans (congrArg some (by kernel_rfl))
  f266 := Tryz.func204.trans (congrArg some (by kernel_rfl))
  f267 := Tryz.func233.trans (congrArg some (by kernel_rfl))
  f314 := Tryz.func240.trans (congrArg some (by kernel_rfl))
  t3 := Tryz.underlying3
  a3 := Tryz.isAgg3
  z3 := Tryz.sizeOf3
  v3 := Tryz.zeroValue3
  t4 := Tryz.underlying4
  a4 := Tryz.isAgg4
  z4 := Tryz.sizeOf4
  v4 := Tryz.zeroValue4
  t5 := Tryz.underlying5
  a5 := Tryz.isAgg5
  z5 := Tryz.sizeOf5
  v5 := Tryz.zeroValue5
  t9 := Tryz.underlying9
  a9 := Tryz.isAgg9
  z9 := Tryz.sizeOf9
  v9 := Tryz.zeroValue9
  t46 := Tryz.underlying224
  a46 := Tryz.isAgg224
  z46 := Tryz.sizeOf224
  v46 := Tryz.zeroValue224
  t51 := Tryz.underlying139
  a51 := Tryz.isAgg139
  z51 := Tryz.sizeOf139
  v51 := Tryz.zeroValue139
  t59 := Tryz.underlying142
  a59 := Tryz.isAgg142
  z59 := Tryz.sizeOf142
  v59 := Tryz.zeroValue142
  t146 := Tryz.underlying262
  a146 := Tryz.isAgg262
  z146 := Tryz.sizeOf262
  v146 := Tryz.zeroValue262
  g1 := by kernel_rfl }
theorem laysb146 : Go.Proofs.Lays.n146 Tryz.prog lrenb := {
  mixed := by kernel_rfl
  f138 := Tryz.func248.trans (congrArg some (by kernel_rfl))
  f143 := Tryz.func242.trans (congrArg some (by kernel_rfl))
  f146 := Tryz.func234.trans (congrArg some (by kernel_rfl))
  f195 := Tryz.func249.trans (congrArg some (by kernel_rfl))
  f197 := Tryz.func201.trans (congrArg some (by kernel_rfl))
  f217 := Tryz.func180.trans (congrArg some (by kernel_rfl))
  f218 := Tryz.func250.trans (congrArg some (by kernel_rfl))
  f219 := Tryz.func224.trans (congrArg some (by kernel_rfl))
  f221 := Tryz.func241.trans (congrArg some (by kernel_rfl))
  f224 := Tryz.func215.trans (congrArg some (by kernel_rfl))
  f225 := Tryz.func216.trans (congrArg some (by kernel_rfl))
  f260 := Tryz.func222.trans (congrArg some (by kernel_rfl))
  f266 := Tryz.func204.trans (congrArg some (by kernel_rfl))
  f267 := Tryz.func233.trans (congrArg some (by kernel_rfl))
  f268 := Tryz.func247.trans (congrArg some (by kernel_rfl))
  f314 := Tryz.func240.trans (congrArg some (by kernel_rfl))
  t0 := Tryz.underlying0
  a0 := Tryz.isAgg0
  z0 := Tryz.sizeOf0
  v0 := Tryz.zeroValue0
  t3 := Tryz.underlying3
  a3 := Tryz.isAgg3
  z3 := Tryz.sizeOf3
  v3 := Tryz.zeroValue3
  t4 := Tryz.underlying4
  a4 := Tryz.isAgg4
  z4 := Tryz.sizeOf4
  v4 := Tryz.zeroValue4
  t5 := Tryz.underlying5
  a5 := Tryz.isAgg5
  z5 := Tryz.sizeOf5
  v5 := Tryz.zeroValue5
  t9 := Tryz.underlying9
  a9 := Tryz.isAgg9
  z9 := Tryz.sizeOf9
  v9 := Tryz.zeroValue9
  t21 := Tryz.underlying21
  a21 := Tryz.isAgg21
  z21 := Tryz.sizeOf21
  v21 := Tryz.zeroValue21
  t31 := Tryz.underlying78
  a31 := Tryz.isAgg78
  z31 := Tryz.sizeOf78
  v31 := Tryz.zeroValue78
  t46 := Tryz.underlying224
  a46 := Tryz.isAgg224
  z46 := Tryz.sizeOf224
  v46 := Tryz.zeroValue224
  t51 := Tryz.underlying139
  a51 := Tryz.isAgg139
  z51 := Tryz.sizeOf139
  v51 := Tryz.zeroValue139
  t105 := Tryz.underlying233
  a105 := Tryz.isAgg233
  z105 := Tryz.sizeOf233
  v105 := Tryz.zeroValue233
  t119 := Tryz.underlying255
  a119 := Tryz.isAgg255
  z119 := Tryz.sizeOf255
  t138 := Tryz.underlying257
  a138 := Tryz.isAgg257
  z138 := Tryz.sizeOf257
  v138 := Tryz.zeroValue257
  t139 := Tryz.underlying258
  a139 := Tryz.isAgg258
  z139 := Tryz.sizeOf258
  v139 := Tryz.zeroValue258
  t146 := Tryz.underlying262
  a146 := Tryz.isAgg262
  z146 := Tryz.sizeOf262
  v146 := Tryz.zeroValue262
  g1 := by kernel_rfl
  g3 := by kernel_rfl
  g4 := by kernel_rfl }
theorem laysb153 : Go.Proofs.Lays.n153 Tryz.prog lrenb := {
  mixed := by kernel_rfl
  f119 := Tryz.func214.trans (congrArg some (by kernel_rfl))
  f137 := Tryz.func156.trans (congrArg some (by kernel_rfl))
  f152 := Tryz.func192.trans (congrArg some (by kernel_rfl))
  f153 := Tryz.func165.trans (congrArg some (by kernel_rfl))
  f217 := Tryz.func180.trans (congrArg some (by kernel_rfl))
  f224 := Tryz.func215.trans (congrArg some (by kernel_rfl))
  f225 := Tryz.func216.trans (congrArg some (by kernel_rfl))
  f226 := Tryz.func193.trans (congrArg some (by kernel_rfl))
  f227 := Tryz.func174.trans (congrArg some (by kernel_rfl))
  f228 := Tryz.func194.trans (congrArg some (by kernel_rfl))
  f266 := Tryz.func204.trans (congrArg some (by kernel_rfl))
  t0 := Tryz.underlying0
  a0 := Tryz.isAgg0
  z0 := Tryz.sizeOf0
  v0 := Tryz.zeroValue0
  t3 := Tryz.underlying3
  a3 := Tryz.isAgg3
  z3 := Tryz.sizeOf3
  v3 := Tryz.zeroValue3
  t4 := Tryz.underlying4
  a4 := Tryz.isAgg4
  z4 := Tryz.sizeOf4
  v4 := Tryz.zeroValue4
  t5 := Tryz.underlying5
  a5 := Tryz.isAgg5
  z5 := Tryz.sizeOf5
  v5 := Tryz.zeroValue5
  t9 := Tryz.underlying9
  a9 := Tryz.isAgg9
  z9 := Tryz.sizeOf9
  v9 := Tryz.zeroValue9
  t21 := Tryz.underlying21
  a21 := Tryz.isAgg21
  z21 := Tryz.sizeOf21
  v21 := Tryz.zeroValue21
  t46 := Tryz.underlying224
  a46 := Tryz.isAgg224
  z46 := Tryz.sizeOf224
  v46 := Tryz.zeroValue224
  t116 := Tryz.underlying213
  a116 := Tryz.isAgg213
  z116 := Tryz.sizeOf213
  t117 := Tryz.underlying214
  a117 := Tryz.isAgg214
  z117 := Tryz.sizeOf214
  v117 := Tryz.zeroValue214
  t124 := Tryz.underlying217
  a124 := Tryz.isAgg217
  z124 := Tryz.sizeOf217
  v124 := Tryz.zeroValue217 }
end Go.Proofs.YtnnhdehmlkkfjaaGreatDoor

set_option linter.unusedVariables false
set_option linter.unusedSimpArgs false
set_option linter.unusedSectionVars false
set_option maxRecDepth 100000
namespace Go.Proofs.YtnnhdehmlkkfjaaGreatDoor
open Go Go.RowKit Go.Shelf

theorem hp1 (l : List UInt8) (c : UInt8) : Lib.hasPrefix l [c] = (l.head? == some c) := by
  cases l with
  | nil => rfl
  | cons a r =>
    by_cases h : a = c
    · subst h; simp [Lib.hasPrefix, List.isPrefixOf]
    · have h' : (c == a) = false := by simpa using fun e => h e.symm
      simp [Lib.hasPrefix, List.isPrefixOf, h', h]
theorem hsf1 (l : List UInt8) (c : UInt8) : Lib.hasSuffix l [c] = (l.getLast? == some c) := by
  have h : Lib.hasSuffix l [c] = Lib.hasPrefix l.reverse [c] := by simp [Lib.hasSuffix, Lib.hasPrefix, List.isSuffixOf]
  rw [h, hp1, List.head?_reverse]
theorem tp1 (l : List UInt8) (c : UInt8) : Lib.trimPrefix l [c] = if l.head? = some c then l.drop 1 else l := by
  unfold Lib.trimPrefix
  rw [hp1]
  simp
theorem ib_cons (b c : UInt8) (l : List UInt8) : Lib.indexByte (b :: l) c = if b = c then 0 else if Lib.indexByte l c = -1 then -1 else Lib.indexByte l c + 1 := by
  simp [Lib.indexByte]
theorem ib_has (l : List UInt8) (c : UInt8) : decide (0 ≤ Lib.indexByte l c) = l.contains c := by
  induction l with
  | nil => rfl
  | cons b l ih =>
    rw [ib_cons, List.contains_cons, ← ih]
    have := Lib.indexByte_ge l c
    by_cases h : b = c
    · subst h; simp
    · have h' : (c == b) = false := by simpa using fun e => h e.symm
      rw [if_neg h, h', Bool.false_or]
      by_cases h2 : Lib.indexByte l c = -1
      · rw [if_pos h2, h2]
      · rw [if_neg h2, Bool.eq_iff_iff]; simp; omega
/-- The place of a byte, or the text's length. -/
theorem ib_take (l : List UInt8) (c : UInt8) : (0 ≤ Lib.indexByte l c → (Lib.indexByte l c).toNat = (l.takeWhile (· != c)).length ∧ l.dropWhile (· != c) ≠ []) ∧ (Lib.indexByte l c < 0 → l.takeWhile (· != c) = l ∧ l.dropWhile (· != c) = []) := by
  induction l with
  | nil => exact ⟨fun h => by simp [Lib.indexByte] at h, fun _ => ⟨rfl, rfl⟩⟩
  | cons b l ih =>
    rw [ib_cons]
    have := Lib.indexByte_ge l c
    by_cases h : b = c
    · subst h; simp
    · have h' : (b != c) = true := by simpa using h
      rw [if_neg h, List.takeWhile_cons_of_pos (by simpa using h), List.dropWhile_cons_of_pos (by simpa using h)]
      by_cases h2 : Lib.indexByte l c = -1
      · rw [if_pos h2]
        refine ⟨fun h3 => absurd h3 (by decide), fun _ => ?_⟩
        obtain ⟨i1, i2⟩ := ih.2 (by omega)
        exact ⟨by rw [i1], i2⟩
      · rw [if_neg h2]
        obtain ⟨i1, i2⟩ := ih.1 (by omega)
        refine ⟨fun _ => ⟨by simp only [List.length_cons]; omega, i2⟩, fun h3 => by omega⟩
theorem ix1 (l : List UInt8) (c : UInt8) : Lib.index l [c] = Lib.indexByte l c := by
  induction l with
  | nil => rfl
  | cons b l ih =>
    rw [ib_cons, Lib.index, ih]
    by_cases h : b = c
    · subst h; simp [List.isPrefixOf]
    · have h' : (c == b) = false := by simpa using fun e => h e.symm
      simp [List.isPrefixOf, h', h]
theorem tw_take (p : UInt8 → Bool) : ∀ l : List UInt8, l.take (l.takeWhile p).length = l.takeWhile p ∧ l.drop (l.takeWhile p).length = l.dropWhile p
  | [] => ⟨rfl, rfl⟩
  | b :: l => by
    by_cases h : p b = true
    · rw [List.takeWhile_cons_of_pos h, List.dropWhile_cons_of_pos h]
      simp [tw_take p l]
    · rw [List.takeWhile_cons_of_neg h, List.dropWhile_cons_of_neg h]
      simp
theorem cut1_lib (l : List UInt8) (c : UInt8) : Lib.cut l [c] = cut1 c l := by
  unfold Lib.cut cut1
  rw [ix1, ← ib_has]
  obtain ⟨h1, h2⟩ := ib_take l c
  obtain ⟨t1, t2⟩ := tw_take (· != c) l
  by_cases h : 0 ≤ Lib.indexByte l c
  · rw [if_pos h, (h1 h).1, t1, ← List.drop_drop, t2]
    simp [h]
  · rw [if_neg h, (h2 (by omega)).1, (h2 (by omega)).2]
    simp [h]
theorem ix2 (c : UInt8) : ∀ l : List UInt8, Lib.cut l [c, c] = cut2 c l
  | [] => rfl
  | [a] => by simp [Lib.cut, cut2, Lib.index, List.isPrefixOf]
  | a :: b :: r => by
    have ih := ix2 c (b :: r)
    unfold Lib.cut at ih ⊢
    rw [cut2, ← ih, Lib.index]
    have hg := Lib.index_ge (b :: r) [c, c]
    by_cases h : a = c ∧ b = c
    · obtain ⟨rfl, rfl⟩ := h
      simp [List.isPrefixOf]
    · rw [if_neg h]
      have hp : ([c, c] : List UInt8).isPrefixOf (a :: b :: r) = false := by
        simp only [List.isPrefixOf, Bool.and_true]
        rw [Bool.eq_false_iff]
        intro e
        simp at e
        exact h ⟨e.1.symm, e.2.symm⟩
      rw [hp]
      simp only [Bool.false_eq_true, if_false, beq_iff_eq]
      by_cases h2 : Lib.index (b :: r) [c, c] = -1
      · rw [if_pos h2, h2]
        simp
      · rw [if_neg h2, if_pos (by omega), if_pos (by omega)]
        have e1 : (Lib.index (b :: r) [c, c] + 1).toNat = (Lib.index (b :: r) [c, c]).toNat + 1 := by omega
        rw [e1]
        simp [Nat.add_right_comm]
theorem sc_eq (c : UInt8) : ∀ l : List UInt8, splitC c l = if l.contains c then l.takeWhile (· != c) :: splitC c ((l.dropWhile (· != c)).drop 1) else [l]
  | [] => rfl
  | b :: l => by
    have ih := sc_eq c l
    rw [splitC]
    by_cases h : b = c
    · subst h
      simp
    · have h' : (c == b) = false := by simpa using fun e => h e.symm
      have hb : (b != c) = true := by simpa using h
      rw [if_neg h, List.contains_cons, h', Bool.false_or, List.takeWhile_cons_of_pos (p := (· != c)) hb, List.dropWhile_cons_of_pos (p := (· != c)) hb, ih]
      by_cases h2 : l.contains c = true
      · rw [if_pos h2, if_pos h2]
      · rw [if_neg h2, if_neg h2]
def ME (E : Env) : Prop := E.Fix 2 ∧ ∃ m : Int, E.w0.cell? ⟨2, 0, none⟩ = some (.int .i64 m)
theorem ME.cell {E : Env} (h : ME E) {w : World} (hw : ∀ b, E.Fix b → w.heap[b]? = E.w0.heap[b]?) : ∃ m : Int, w.cell? ⟨2, 0, none⟩ = some (.int .i64 m) := by
  obtain ⟨h1, m, h2⟩ := h
  exact ⟨m, (World.cell?_of_block (a := ⟨2, 0, none⟩) (hw _ h1)).trans h2⟩
section
variable (E : Env) {H : Hp} (Q : AV → Hp → Prop)
theorem hasPrefix_pc (l : List UInt8) (c : UInt8) (hQ : Q (.bool (l.head? == some c)) H) : PC Tryz.prog E 186 [.str l, .str [c]] H Q := by
  refine pc_of_calls (v := .bool (l.head? == some c)) (by kernel_rfl) (fun _ => True) (fun w hw => trivial) (fun w β Rd cargs hS hsz hargs => ?_) (.bool _) rfl hQ
  obtain ⟨u, v, rfl, hu, hv⟩ := args2 hsz hargs
  obtain ⟨s, rfl, rfl, hs⟩ := rel_str hu
  obtain ⟨t, rfl, ht, _⟩ := rel_str hv
  refine (Any.strings_HasPrefix laysb99 s t w).mono ?_
  rintro e w' ⟨rfl, rfl⟩
  rw [ht, hp1]
  exact ⟨_, rfl, Frm.refl _ _, .bool _⟩
theorem hasSuffix_pc (l : List UInt8) (c : UInt8) (hQ : Q (.bool (l.getLast? == some c)) H) : PC Tryz.prog E 210 [.str l, .str [c]] H Q := by
  refine pc_of_calls (v := .bool (l.getLast? == some c)) (by kernel_rfl) (fun _ => True) (fun w hw => trivial) (fun w β Rd cargs hS hsz hargs => ?_) (.bool _) rfl hQ
  obtain ⟨u, v, rfl, hu, hv⟩ := args2 hsz hargs
  obtain ⟨s, rfl, rfl, hs⟩ := rel_str hu
  obtain ⟨t, rfl, ht, _⟩ := rel_str hv
  refine (Any.strings_HasSuffix laysb100 s t w (by unfold maxLen at hs; omega)).mono ?_
  rintro e w' ⟨rfl, rfl⟩
  rw [ht, hsf1]
  exact ⟨_, rfl, Frm.refl _ _, .bool _⟩
theorem trimPrefix_pc (l : List UInt8) (c : UInt8) (hQ : Q (.str (if l.head? = some c then l.drop 1 else l)) H) : PC Tryz.prog E 187 [.str l, .str [c]] H Q := by
  refine pc_of_calls (v := .str (if l.head? = some c then l.drop 1 else l)) (by kernel_rfl) (fun _ => True) (fun w hw => trivial) (fun w β Rd cargs hS hsz hargs => ?_) (.str _) rfl hQ
  obtain ⟨u, v, rfl, hu, hv⟩ := args2 hsz hargs
  obtain ⟨s, rfl, rfl, hs⟩ := rel_str hu
  obtain ⟨t, rfl, ht, _⟩ := rel_str hv
  refine (Any.strings_TrimPrefix laysb101 s t w).mono ?_
  rintro e w' ⟨rfl, rfl⟩
  rw [ht, tp1]
  refine ⟨_, rfl, Frm.refl _ _, rel_tx _ ?_⟩
  rw [← size_toList] at hs
  split
  · rw [List.length_drop]; omega
  · exact hs
theorem cut_pc (hM : ME E) (l sep : List UInt8) (hl : l.length ≤ 1073741824) (hQ : Q (.tup [.str (Lib.cut l sep).1, .str (Lib.cut l sep).2.1, .bool (Lib.cut l sep).2.2]) H) : PC Tryz.prog E 188 [.str l, .str sep] H Q := by
  refine pc_of_calls (v := .tup [.str (Lib.cut l sep).1, .str (Lib.cut l sep).2.1, .bool (Lib.cut l sep).2.2]) (by kernel_rfl) (fun w => ∃ m : Int, w.cell? ⟨2, 0, none⟩ = some (.int .i64 m)) (fun w hw => hM.cell hw) (fun w β Rd cargs hS hsz hargs => ?_) (by simp) rfl hQ
  obtain ⟨m, hm⟩ := hS
  obtain ⟨u, v, rfl, hu, hv⟩ := args2 hsz hargs
  obtain ⟨s, rfl, rfl, hs⟩ := rel_str hu
  obtain ⟨t, rfl, rfl, _⟩ := rel_str hv
  rw [size_toList] at hl
  refine (Any.strings_Cut laysb145 s t m w (by omega) hm).mono ?_
  rintro e w' ⟨rfl, k, rfl⟩
  have hle : (Lib.cut s.data.toList t.data.toList).1.length ≤ s.size ∧ (Lib.cut s.data.toList t.data.toList).2.1.length ≤ s.size := by
    rw [← size_toList]
    unfold Lib.cut
    split
    · simp; omega
    · simp
  refine ⟨_, rfl, Frm.drewN _ _ _, .tup _ _ rfl (by simp [AV.free]) fun k x u hx hu => ?_⟩
  match k with
  | 0 => simp at hx hu; subst hx; subst hu; exact rel_tx _ (by omega)
  | 1 => simp at hx hu; subst hx; subst hu; exact rel_tx _ (by omega)
  | 2 => simp at hx hu; subst hx; subst hu; exact .bool _
  | k + 3 => simp at hx
theorem contains_pc (l : List UInt8) (c : UInt8) (hQ : Q (.bool (l.contains c)) H) : PC Tryz.prog E 235 [.str l, .str [c]] H Q := by
  refine pc_of_calls (v := .bool (l.contains c)) (by kernel_rfl) (fun _ => True) (fun w hw => trivial) (fun w β Rd cargs hS hsz hargs => ?_) (.bool _) rfl hQ
  obtain ⟨u, v, rfl, hu, hv⟩ := args2 hsz hargs
  obtain ⟨s, rfl, rfl, hs⟩ := rel_str hu
  obtain ⟨⟨⟨tl⟩⟩, rfl, ht, _⟩ := rel_str hv
  have ht' : tl = [c] := ht
  subst ht'
  refine (Any.strings_Contains_one laysb144 s c w).mono ?_
  rintro e w' ⟨rfl, rfl⟩
  rw [ib_has]
  exact ⟨_, rfl, Frm.refl _ _, .bool _⟩
theorem indexAny_pc (l cs : List UInt8) (hl : l.length ≤ 1073741824) (hcl : cs.length ≤ 1024) (ha : ∀ b ∈ l, b.toNat < 128) (hc : ∀ b ∈ cs, b.toNat < 128) (hQ : Q (.int .i64 (Lib.indexAny l cs)) H) : PC Tryz.prog E 165 [.str l, .str cs] H Q := by
  refine pc_of_calls (v := .int .i64 (Lib.indexAny l cs)) (by kernel_rfl) (fun _ => True) (fun w hw => trivial) (fun w β Rd cargs hS hsz hargs => ?_) (.int _ _) rfl hQ
  obtain ⟨u, v, rfl, hu, hv⟩ := args2 hsz hargs
  obtain ⟨s, rfl, rfl, hs⟩ := rel_str hu
  obtain ⟨t, rfl, rfl, _⟩ := rel_str hv
  rw [size_toList] at hl hcl
  have h116 : (Tryz.prog.info? (lrenb.t 116)).map (fun i => (i.zero, i.size)) = some (some (.agg (Array.replicate 256 (.bool false))), 256) := by kernel_rfl
  refine (Any.strings_IndexAny_laid laysb153 h116 s t w (by omega) (by omega) (fun j b hb => ha b (List.mem_of_getElem? hb)) (fun j b hb => hc b (List.mem_of_getElem? hb))).mono ?_
  rintro e w' ⟨rfl, hb⟩
  exact ⟨_, rfl, frm_below hb, .int _ _⟩
end
end Go.Proofs.YtnnhdehmlkkfjaaGreatDoor

