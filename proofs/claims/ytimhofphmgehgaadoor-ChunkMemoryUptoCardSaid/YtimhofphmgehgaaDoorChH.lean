/- The chunk layer's decoder: a box, and its steps. -/
import Derived.Test.YtimhofphmgehgaaDoorChG
set_option linter.unusedVariables false
set_option linter.unusedSimpArgs false
set_option linter.unusedSectionVars false
set_option maxRecDepth 100000
namespace Go.Proofs.YtimhofphmgehgaaDoor
open Go Go.RowKit Go.Proofs

theorem bndH_set {H : Hp} (hB : BndH H.length H) (c : Nat) {l : List AV} (hl : ∀ x ∈ l, Bnd H.length x) : BndH (H.set c l).length (H.set c l) := by
  intro m hm x hx
  rw [List.length_set]
  rcases List.mem_or_eq_of_mem_set hm with h | h
  · exact hB m h x hx
  · rw [h] at hx; exact hl x hx
theorem aPost_set {P : Program} {rs : List ResultVar} {Q : AV → Hp → Prop} {fr : List AV} {H J : Hp} {v0 v : AV} {c : Nat} {l : List AV} (hB : BndH H.length H) (h1 : ares P fr (H.set c l ++ J) rs = some v0) (h2 : nilV v0 v) (hl : ∀ x ∈ l, Bnd H.length x) (h5 : Bnd H.length v) (h6 : Q v (H.set c l)) :
    aPost P rs H.length Q .ret fr (H.set c l ++ J) := aPost_end h1 h2 (by simp) (bndH_set hB c hl) (by simpa using h5) h6
theorem aPost_set0 {P : Program} {rs : List ResultVar} {Q : AV → Hp → Prop} {fr : List AV} {H : Hp} {v0 v : AV} {c : Nat} {l : List AV} (hB : BndH H.length H) (h1 : ares P fr (H.set c l) rs = some v0) (h2 : nilV v0 v) (hl : ∀ x ∈ l, Bnd H.length x) (h5 : Bnd H.length v) (h6 : Q v (H.set c l)) :
    aPost P rs H.length Q .ret fr (H.set c l) := by
  have := aPost_set (J := []) (P := P) (rs := rs) (Q := Q) (fr := fr) hB (by rw [List.append_nil]; exact h1) h2 hl h5 h6
  rwa [List.append_nil] at this
section
variable {H : Hp} {c : Nat} (h : c < H.length)
include h
theorem hs0 (J : Hp) : (H ++ J)[c]? = H[c]? := List.getElem?_append_left h
theorem hs1 (x : List AV) (J : Hp) : (H.set c x ++ J)[c]? = some x := by rw [List.getElem?_append_left (by simpa using h), List.getElem?_set_self h]
theorem hs2 (x y : List AV) (J : Hp) : (H.set c x ++ J).set c y = H.set c y ++ J := by rw [List.set_append_left _ _ (by simpa using h), List.set_set]
theorem hs3 (y : List AV) (J : Hp) : (H ++ J).set c y = H.set c y ++ J := List.set_append_left _ _ h
theorem hs4 (x : List AV) : (H.set c x)[c]? = some x := List.getElem?_set_self h
theorem hs5 (x y : List AV) : (H.set c x).set c y = H.set c y := List.set_set ..
end

/-- .. whose row has lists that are nil. -/
theorem aPost_setNJ {P : Program} {rs : List ResultVar} {Q : AV → Hp → Prop} {fr : List AV} {H J : Hp} {v : AV} {c : Nat} {l l' : List AV} (hB : BndH H.length H) (hc : c < H.length) (hn : nilL l l') (h1 : ares P fr (H.set c l ++ J) rs = some v) (hl : ∀ x ∈ l', Bnd H.length x) (h5 : Bnd H.length v) (h6 : Q v (H.set c l')) :
    aPost P rs H.length Q .ret fr (H.set c l ++ J) := by
  refine ⟨v, v, H.set c l' ++ J, H.set c l', J, h1, nilV_refl _, ?_, rfl, by simp, bndH_set hB c hl, by simpa using h5, h6⟩
  have := nilH_set (H.set c l ++ J) c l l' (hs1 hc _ _) hn
  rw [hs2 hc] at this
  exact this
theorem aPost_setN {P : Program} {rs : List ResultVar} {Q : AV → Hp → Prop} {fr : List AV} {H : Hp} {v : AV} {c : Nat} {l l' : List AV} (hB : BndH H.length H) (hc : c < H.length) (hn : nilL l l') (h1 : ares P fr (H.set c l) rs = some v) (hl : ∀ x ∈ l', Bnd H.length x) (h5 : Bnd H.length v) (h6 : Q v (H.set c l')) :
    aPost P rs H.length Q .ret fr (H.set c l) := by
  have := aPost_setNJ (J := []) (P := P) (rs := rs) (Q := Q) (fr := fr) hB hc hn (by rw [List.append_nil]; exact h1) hl h5 h6
  rwa [List.append_nil] at this
def flds (l : List Fld) : List (List AV) := l.map fun f => [.str f.name, .str f.value]
@[simp] theorem flds_length (l : List Fld) : (flds l).length = l.length := by simp [flds]
theorem flds_snoc (l : List Fld) (f : Fld) : flds l ++ [[.str f.name, .str f.value]] = flds (l ++ [f]) := by simp [flds]
theorem flds_at {l : List Fld} {i : Nat} {f : Fld} (h : l[i]? = some f) : lat (flds l) i = some [.str f.name, .str f.value] := by simp [lat, flds, h]
theorem bnd_flds {N : Nat} (o k) (l : List Fld) : Bnd N (.sl o k (flds l)) := .sl _ _ _ fun r hr x hx => by
  obtain ⟨c, _, rfl⟩ := List.mem_map.1 hr
  simp at hx
  rcases hx with rfl | rfl <;> exact .str _
@[simp] theorem bnd_flds' {N : Nat} (l : List Fld) : (∀ r ∈ flds l, ∀ x ∈ r, Bnd N x) = True := eq_true fun r hr x hx => by
  obtain ⟨c, _, rfl⟩ := List.mem_map.1 hr
  simp at hx
  rcases hx with rfl | rfl <;> exact .str _
@[simp] theorem bnd_bts' {N : Nat} (l : List UInt8) : (∀ r ∈ bts l, ∀ x ∈ r, Bnd N x) = True := eq_true (bnd_bts l)
theorem set_self {H : Hp} {i : Nat} {l : List AV} (h : H[i]? = some l) : H.set i l = H := by
  apply List.ext_getElem?
  intro j
  by_cases hj : i = j
  · subst hj; rw [List.getElem?_set_self (List.getElem?_eq_some_iff.1 h).1, h]
  · rw [List.getElem?_set_ne hj]
theorem byte_ne (b : UInt8) (n : Nat) (hn : n < 256) (h : b ≠ UInt8.ofNat n) : ((b.toNat : Int) == n) = false := by
  rw [beq_eq_false_iff_ne]
  exact fun e => h (UInt8.toNat_inj.1 (by rw [UInt8.toNat_ofNat', Nat.mod_eq_of_lt hn]; omega))
/-- What a decoder does next. -/
inductive Stg where
  | size | data | first | second | trailer
deriving DecidableEq
def Stg.fid : Stg → FuncId
  | .size => 56
  | .data => 87
  | .first => 109
  | .second => 124
  | .trailer => 86
/-- A decoder. -/
structure Dec where
  most : Int
  room : Int
  fields : Int
  st : Stg
  line : List UInt8
  left : Int
  body : List UInt8
  trailers : List Fld
  section_ : Nat
  total : Nat
  done : Bool
  err : Int
deriving DecidableEq
def Dec.av (d : Dec) : List AV := [.int .i64 d.most, .int .i64 d.room, .int .i64 d.fields, .fn d.st.fid [], .sl true 1 (bts d.line), .int .i64 d.left, .sl true 1 (bts d.body), .sl true 2 (flds d.trailers), .int .i64 d.section_, .int .i64 d.total, .bool d.done, .int .i64 d.err]
theorem Dec.bnd (d : Dec) (N : Nat) : ∀ x ∈ d.av, Bnd N x := by
  intro x hx
  simp [Dec.av] at hx
  rcases hx with rfl | rfl | rfl | rfl | rfl | rfl | rfl | rfl | rfl | rfl | rfl | rfl <;> simp
/-- A line without its end. -/
def endL (l : List UInt8) : Option (List UInt8) := if 2 ≤ l.length ∧ l.drop (l.length - 2) = [13, 10] then some (l.take (l.length - 2)) else none
def sizeD (d : Dec) (b : UInt8) : Dec × Int :=
  if b ≠ 10 then ({ d with line := d.line ++ [b] }, if 256 ≤ (d.line ++ [b]).length then 100 else 0)
  else match endL (d.line ++ [b]) with
    | none => ({ d with line := [] }, 100)
    | some s => if (sizeAns s).2.2 ≠ 0 then ({ d with line := [] }, (sizeAns s).2.2)
      else if d.most - d.body.length < (sizeAns s).1 then ({ d with line := [] }, 102)
      else if (sizeAns s).1 = 0 then ({ d with line := [], st := .trailer }, 0)
      else ({ d with line := [], left := (sizeAns s).1, st := .data }, 0)
def dataD (d : Dec) (b : UInt8) : Dec × Int := (if d.left = 1 then { d with body := d.body ++ [b], left := 0, st := .first } else { d with body := d.body ++ [b], left := d.left - 1 }, 0)
def firstD (d : Dec) (b : UInt8) : Dec × Int := if b ≠ 13 then (d, 100) else ({ d with st := .second }, 0)
def secondD (d : Dec) (b : UInt8) : Dec × Int := if b ≠ 10 then (d, 100) else ({ d with st := .size }, 0)
def trailerD (d : Dec) (b : UInt8) : Dec × Int :=
  if d.room ≤ d.section_ then (d, 104)
  else if b ≠ 10 then ({ d with section_ := d.section_ + 1, line := d.line ++ [b] }, 0)
  else match endL (d.line ++ [b]) with
    | none => ({ d with section_ := d.section_ + 1, line := [] }, 101)
    | some s => if s = [] then ({ d with section_ := d.section_ + 1, line := [], done := true }, 0)
      else if d.fields ≤ d.trailers.length then ({ d with section_ := d.section_ + 1, line := [] }, 104)
      else match lineF s with
        | none => ({ d with section_ := d.section_ + 1, line := [] }, 101)
        | some f => if mayB f.name = true then ({ d with section_ := d.section_ + 1, line := [], trailers := d.trailers ++ [f] }, 0) else ({ d with section_ := d.section_ + 1, line := [] }, 101)
def Dec.fits (d : Dec) (M : Nat) : Prop := d.line.length ≤ M ∧ d.body.length ≤ M ∧ d.trailers.length ≤ M ∧ d.section_ ≤ M ∧ (0 ≤ d.most ∧ d.most ≤ 9223372036854775807) ∧ (0 ≤ d.room ∧ d.room ≤ 9223372036854775807) ∧ (0 ≤ d.fields ∧ d.fields ≤ 9223372036854775807)
section
variable (E : Env) (H : Hp) (Q : AV → Hp → Prop) (i : Nat) (d : Dec) (hd : H[i]? = some d.av)
include hd
theorem dec_lt : i < H.length := (List.getElem?_eq_some_iff.1 hd).1
theorem ended_pc (hl : d.line.length ≤ 1073741824) (hQ : Q (match endL d.line with | some s => .tup [.str s, .bool true] | none => .tup [.str [], .bool false]) (H.set i ({ d with line := [] } : Dec).av)) :
    PC Tryd.prog E 85 [.ptr (some (i, 0))] H Q := by
  have hlt := dec_lt H i d hd
  refine pc_enter Tryd.func85 rfl [] [] (by kernel_rfl) (fun hB => ?_)
  have hw : IntKind.i64.wrap ((d.line.length : Int) - 2) = d.line.length - 2 := wrap_in (by omega) (by omega)
  have hm : d.line.length ≤ maxLen := by unfold maxLen; omega
  simp [Dec.av] at hd
  simp [Tryd.ntmps85, Tryd.results85, List.replicate_succ, hd, hs0 hlt, hs1 hlt, hs2 hlt, hs3 hlt, hs4 hlt, hs5 hlt, hm, hw]
  have hn : nilL [AV.int .i64 d.most, .int .i64 d.room, .int .i64 d.fields, .fn d.st.fid [], .nil, .int .i64 d.left, .sl true 1 (bts d.body), .sl true 2 (flds d.trailers), .int .i64 d.section_, .int .i64 d.total, .bool d.done, .int .i64 d.err] ({ d with line := [] } : Dec).av :=
    ⟨.inl rfl, .inl rfl, .inl rfl, .inl rfl, .inr ⟨rfl, true, 1, rfl⟩, .inl rfl, .inl rfl, .inl rfl, .inl rfl, .inl rfl, .inl rfl, .inl rfl, trivial⟩
  by_cases h2 : 2 ≤ d.line.length
  · have h2' : (2 : Int) ≤ d.line.length := by omega
    have t1 : (0 : Int) ≤ d.line.length - 2 := by omega
    have t2 : ((d.line.length : Int) - 2).toNat = d.line.length - 2 := by omega
    have t3 : d.line.length - 2 ≤ d.line.length := by omega
    by_cases he : d.line.drop (d.line.length - 2) = [13, 10]
    · have hE : endL d.line = some (d.line.take (d.line.length - 2)) := if_pos ⟨h2, he⟩
      rw [hE] at hQ
      have he1 : (d.line.drop (d.line.length - 2) == [13, 10]) = true := beq_iff_eq.2 he
      simp [h2', t1, t2, t3, he1, h2]
      exact aPost_setN hB hlt hn (by simp) (({ d with line := [] } : Dec).bnd _) (by simp) hQ
    · have hE : endL d.line = none := if_neg (fun h => he h.2)
      have he2 : (d.line.drop (d.line.length - 2) == [13, 10]) = false := beq_eq_false_iff_ne.2 he
      rw [hE] at hQ
      simp [h2', t1, t2, t3, he2, h2]
      exact aPost_setN hB hlt hn (by simp) (({ d with line := [] } : Dec).bnd _) (by simp) hQ
  · have h2' : ¬ (2 : Int) ≤ d.line.length := by omega
    have hE : endL d.line = none := if_neg (fun h => h2 h.1)
    rw [hE] at hQ
    simp [h2']
    exact aPost_setN hB hlt hn (by simp) (({ d with line := [] } : Dec).bnd _) (by simp) hQ
variable (b : UInt8)
theorem first_pc (hQ : Q (.int .i64 (firstD d b).2) (H.set i (firstD d b).1.av)) : PC Tryd.prog E 109 [.ptr (some (i, 0)), .int .u8 (b.toNat : Int)] H Q := by
  have hlt := dec_lt H i d hd
  have hself : H.set i d.av = H := set_self hd
  refine pc_enter Tryd.func109 rfl [] [] (by kernel_rfl) (fun hB => ?_)
  by_cases hb : b = 13
  · subst hb
    have e : firstD d 13 = ({ d with st := .second }, 0) := rfl
    rw [e] at hQ
    simp [Dec.av] at hd
    simp [Tryd.ntmps109, Tryd.results109, List.replicate_succ, hd, hs0 hlt, hs1 hlt, hs2 hlt, hs3 hlt, hs4 hlt, hs5 hlt]
    exact aPost_set0 hB rfl (nilV_refl _) (({ d with st := .second } : Dec).bnd _) (by simp) hQ
  · have e : firstD d b = (d, 100) := if_pos hb
    have hb2 : ((b.toNat : Int) == 13) = false := byte_ne b 13 (by decide) hb
    rw [e] at hQ
    simp only [hself] at hQ
    simp [Tryd.ntmps109, Tryd.results109, List.replicate_succ, bne, hb2]
    exact aPost_same0 hB rfl (nilV_refl _) (by simp) hQ
theorem second_pc (hQ : Q (.int .i64 (secondD d b).2) (H.set i (secondD d b).1.av)) : PC Tryd.prog E 124 [.ptr (some (i, 0)), .int .u8 (b.toNat : Int)] H Q := by
  have hlt := dec_lt H i d hd
  have hself : H.set i d.av = H := set_self hd
  refine pc_enter Tryd.func124 rfl [] [] (by kernel_rfl) (fun hB => ?_)
  by_cases hb : b = 10
  · subst hb
    have e : secondD d 10 = ({ d with st := .size }, 0) := rfl
    rw [e] at hQ
    simp [Dec.av] at hd
    simp [Tryd.ntmps124, Tryd.results124, List.replicate_succ, hd, hs0 hlt, hs1 hlt, hs2 hlt, hs3 hlt, hs4 hlt, hs5 hlt]
    exact aPost_set0 hB rfl (nilV_refl _) (({ d with st := .size } : Dec).bnd _) (by simp) hQ
  · have e : secondD d b = (d, 100) := if_pos hb
    have hb2 : ((b.toNat : Int) == 10) = false := byte_ne b 10 (by decide) hb
    rw [e] at hQ
    simp only [hself] at hQ
    simp [Tryd.ntmps124, Tryd.results124, List.replicate_succ, bne, hb2]
    exact aPost_same0 hB rfl (nilV_refl _) (by simp) hQ
theorem data_pc (hl : d.body.length ≤ 1073741824) (hlf : 1 ≤ d.left ∧ d.left ≤ 1099511627776) (hQ : Q (.int .i64 (dataD d b).2) (H.set i (dataD d b).1.av)) : PC Tryd.prog E 87 [.ptr (some (i, 0)), .int .u8 (b.toNat : Int)] H Q := by
  have hlt := dec_lt H i d hd
  refine pc_enter Tryd.func87 rfl [9] [] (by kernel_rfl) (fun hB => ?_)
  have hw : IntKind.i64.wrap (d.left - 1) = d.left - 1 := wrap_in (by omega) (by omega)
  have m1 : d.body.length + 1 ≤ maxLen := by unfold maxLen; omega
  have m2 : d.body.length + 1 ≤ 140737488355328 := by omega
  simp [Dec.av] at hd
  by_cases h1 : d.left = 1
  · have e : dataD d b = ({ d with body := d.body ++ [b], left := 0, st := .first }, 0) := by unfold dataD; rw [if_pos h1]
    rw [e] at hQ
    have hw1 : IntKind.i64.wrap 0 = 0 := rfl
    simp [Tryd.ntmps87, Tryd.results87, List.replicate_succ, hd, hs0 hlt, hs1 hlt, hs2 hlt, hs3 hlt, hs4 hlt, hs5 hlt, m1, m2, h1, hw1, bts_snoc]
    exact aPost_set0 hB rfl (nilV_refl _) (({ d with body := d.body ++ [b], left := 0, st := .first } : Dec).bnd _) (by simp) hQ
  · have e : dataD d b = ({ d with body := d.body ++ [b], left := d.left - 1 }, 0) := by unfold dataD; rw [if_neg h1]
    rw [e] at hQ
    have h0 : (d.left - 1 == 0) = false := by rw [beq_eq_false_iff_ne]; omega
    simp [Tryd.ntmps87, Tryd.results87, List.replicate_succ, hd, hs0 hlt, hs1 hlt, hs2 hlt, hs3 hlt, hs4 hlt, hs5 hlt, m1, m2, hw, h0, bts_snoc]
    exact aPost_set0 hB rfl (nilV_refl _) (({ d with body := d.body ++ [b], left := d.left - 1 } : Dec).bnd _) (by simp) hQ
end
end Go.Proofs.YtimhofphmgehgaaDoor
