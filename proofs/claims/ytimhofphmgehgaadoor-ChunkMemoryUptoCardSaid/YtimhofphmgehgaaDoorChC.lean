/- The octet layer over a builder. -/
import Derived.Test.YtimhofphmgehgaaDoorLays
import Derived.Test.YtimhofphmgehgaaDoorChB
import Derived.WalkKit
import Derived.BigCall
set_option linter.unusedVariables false
set_option linter.unusedSimpArgs false
set_option linter.unusedSectionVars false
set_option maxRecDepth 100000
namespace Go.Proofs.YtimhofphmgehgaaDoor
open Go Go.RowKit Go.Proofs

abbrev Bld (B b : Nat) (bs : List Value) (w : World) : Prop := Lib.IsBuilderF 115 5 B b bs w
theorem wbyte_ok (B b : Nat) (bs : List Value) (c : Int) (w : World) (h : Bld B b bs w) (hlen : bs.length + 1 ≤ 140737488355328) (hB : B ≤ w.heap.size) :
    Calls Tryd.prog 111 #[.pointer (some ⟨b, 0, none⟩), .int .u8 c] w fun e w' => e = .returned .nilIface ∧ Bld B b (bs ++ [.int .u8 c]) w' ∧ Below B w w' ∧ B ≤ w'.heap.size := by
  refine (Any.Builder_WriteByte_k lays167 lextra B b bs c w h hlen hB).mono ?_
  rintro e w' ⟨rfl, h1, h2, h3⟩
  exact ⟨rfl, .inr h1, h2, Nat.le_trans hB h2.size⟩
theorem wstring_ok (B b : Nat) (bs : List Value) (s : ByteArray) (w : World) (h : Bld B b bs w) (hlen : bs.length + s.size ≤ 140737488355328) (hB : B ≤ w.heap.size) :
    Calls Tryd.prog 63 #[.pointer (some ⟨b, 0, none⟩), .string s] w fun e w' => e = .returned (.tuple #[.int .i64 s.size, .nilIface]) ∧ Bld B b (bs ++ Lib.strCells s) w' ∧ Below B w w' ∧ B ≤ w'.heap.size := by
  refine (Any.Builder_WriteString_k lays166 lextra B b bs s w h hlen hB).mono ?_
  rintro e w' ⟨rfl, h1, h2, h3⟩
  exact ⟨rfl, .inr h1, h2, Nat.le_trans hB h2.size⟩
theorem btext_ok (B b : Nat) (l : List UInt8) (w : World) (h : Bld B b (Lib.byteCells l) w) (hB : B ≤ w.heap.size) :
    Calls Tryd.prog 65 #[.pointer (some ⟨b, 0, none⟩)] w fun e w' => e = .returned (.string (tx l)) ∧ Below B w w' := by
  refine (Any.Builder_String_any_k lays169 lextra B b l w h hB).mono ?_
  rintro e w' ⟨rfl, h1, h2, h3⟩
  exact ⟨rfl, h2⟩
theorem frm_below {w w' : World} (h : Below w.heap.size w w') : Frm (fun _ => False) w w' := ⟨h.os, h.tape, h.output, h.size, fun k hk _ => h.block k hk⟩
theorem below_frm {B : Nat} {w w' : World} (h : Frm (fun _ => False) w w') (hB : B ≤ w.heap.size) : Below B w w' := ⟨h.os, h.tape, h.output, h.size, fun k hk => h.block k (by omega) (fun h => h)⟩
theorem fcB_iff (b : UInt8) : fcB b = (decide (b.toNat = 9) || (decide (32 ≤ b.toNat) && decide (b.toNat ≠ 127))) := by
  have e1 : (b == 9) = decide (b.toNat = 9) := by rw [Bool.eq_iff_iff]; simp [← UInt8.toNat_inj]
  have e2 : (b != 127) = decide (b.toNat ≠ 127) := by rw [Bool.eq_iff_iff]; simp [← UInt8.toNat_inj]
  rw [fcB, e1, e2]
set_option maxRecDepth 100000 in
set_option maxHeartbeats 1000000 in
theorem isFieldByte_ok (b : UInt8) (W : World) : Calls Tryd.prog 110 #[.int .u8 b.toNat] W fun e w' => e = .returned (.bool (fcB b)) ∧ w' = W := by
  have hb := b.toNat_lt
  by_cases h1 : b.toNat = 9
  · have e : fcB b = true := by rw [fcB_iff]; simp [h1]
    rw [e]
    go_enter Tryd.func110, Tryd.ntmps110
    go_wp2
    go_ret
    exact ⟨rfl, rfl⟩
  · by_cases h2 : 32 ≤ b.toNat
    · by_cases h3 : b.toNat = 127
      · have e : fcB b = false := by rw [fcB_iff]; simp [h3]
        rw [e]
        go_enter Tryd.func110, Tryd.ntmps110
        go_wp2
        go_ret
        exact ⟨rfl, rfl⟩
      · have e : fcB b = true := by rw [fcB_iff]; simp [h2, h3]
        rw [e]
        have n9 : ((b.toNat : Int) == 9) = false := by simp; omega
        have n127 : ((b.toNat : Int) != 127) = true := by simp; omega
        go_enter Tryd.func110, Tryd.ntmps110
        go_wp2
        go_ret
        exact ⟨rfl, rfl⟩
    · have e : fcB b = false := by rw [fcB_iff]; simp [h1, h2]
      rw [e]
      have n9 : ((b.toNat : Int) == 9) = false := by simp; omega
      go_enter Tryd.func110, Tryd.ntmps110
      go_wp2
      go_ret
      exact ⟨rfl, rfl⟩
set_option maxRecDepth 100000 in
set_option maxHeartbeats 2000000 in
theorem isField_ok (s : ByteArray) (hs : s.size ≤ 140737488351232) (W : World) : Calls Tryd.prog 88 #[.string s] W fun e w' => e = .returned (.bool (fldB s.data.toList)) ∧ w' = W := by
  go_enter Tryd.func88, Tryd.ntmps88
  go_wp2
  go_loopw [6] (fun i wr => wr = W ∧ ∃ k : Nat, k ≤ s.size ∧ i = .int .i64 k ∧ fldB (s.data.toList.take k) = true) (fun i _ => s.size - (intOf i).toNat)
  case atStart => exact ⟨rfl, 0, Nat.zero_le _, rfl, rfl⟩
  case round =>
    obtain ⟨rfl, k, hk, rfl, hall⟩ := hrel
    have HA := Lib.hid hall
    clear hall
    by_cases hlt : k < s.size
    · obtain ⟨x, hx⟩ : ∃ x, s.data.toList[k]? = some x := ⟨_, List.getElem?_eq_getElem (by rw [size_toList]; omega)⟩
      have hx' : s[k]'hlt = x := by
        have : s.data.toList[k]? = some (s[k]'hlt) := by simp [ByteArray.getElem_eq_getElem_data, hlt]
        rw [this] at hx; exact Option.some.inj hx
      cases hf : fcB x
      · go_wp2_with (go_at_call 110; refine (isFieldByte_ok x _).mono ?_; rw [hf]; rintro e w' ⟨rfl, rfl⟩)
        go_ret
        exact ⟨by rw [show fldB s.data.toList = false from all_bad fcB _ k x hx hf]; rfl, rfl⟩
      · go_wp2_with (go_at_call 110; refine (isFieldByte_ok x _).mono ?_; rw [hf]; rintro e w' ⟨rfl, rfl⟩)
        go_roundw
        case rel => exact ⟨by trivial, k + 1, by omega, by go_num, by unfold fldB; rw [all_take fcB _ k x hx]; have := HA.out; unfold fldB at this; rw [this, hf]; rfl⟩
        case measure => simp [intOf]; omega
    · obtain rfl : k = s.size := by omega
      have ha := HA.out
      rw [List.take_of_length_le (by rw [size_toList]; omega)] at ha
      go_wp2
      go_ret
      exact ⟨by rw [ha]; rfl, rfl⟩
theorem esc_step (l : List UInt8) (k : Nat) (x : UInt8) (h : l[k]? = some x) : esc (l.take (k + 1)) = esc (l.take k) ++ escB x := by
  rw [List.take_add_one, h]
  simp [esc]
theorem esc_le (l : List UInt8) : (esc l).length ≤ 2 * l.length := by
  induction l with
  | nil => simp [esc]
  | cons c l ih =>
    have e : esc (c :: l) = escB c ++ esc l := by simp [esc]
    rw [e, List.length_append]
    have : (escB c).length ≤ 2 := by unfold escB; split <;> simp
    simp only [List.length_cons]; omega
theorem bcells (l : List UInt8) (c : UInt8) : Lib.byteCells l ++ [.int .u8 (c.toNat : Int)] = Lib.byteCells (l ++ [c]) := by simp [Lib.byteCells]
theorem toNat_ne {x : UInt8} {n : Nat} (hn : n < 256) (h : x.toNat ≠ n) : x ≠ UInt8.ofNat n := by
  rintro rfl
  exact h (by simp; omega)
def quoteAns (l : List UInt8) : List UInt8 × Int := if fldB l = true then (quoted l, 0) else ([], 13)
set_option maxRecDepth 100000 in
set_option maxHeartbeats 1000000 in
theorem quote_ok (s : ByteArray) (hs : s.size ≤ 35184372088832) (W : World) : Calls Tryd.prog 89 #[.string s] W fun e w' => e = .returned (.tuple #[.string (tx (quoteAns s.data.toList).1), .int .i64 (quoteAns s.data.toList).2]) ∧ Frm (fun _ => False) W w' := by
  have HI : Calls Tryd.prog 88 #[.string s] W fun e w' => e = .returned (.bool (fldB s.data.toList)) ∧ W = w' := (isField_ok s (by omega) W).mono fun e w' ⟨h1, h2⟩ => ⟨h1, h2.symm⟩
  cases hF : fldB s.data.toList with
  | false =>
    rw [hF] at HI
    have hq : quoteAns s.data.toList = ([], 13) := by rw [quoteAns, if_neg (by rw [hF]; simp)]
    rw [hq]
    go_enter Tryd.func89, Tryd.ntmps89
    go_wp2_with (go_at_call 88; refine HI.mono ?_; rintro e w1 ⟨rfl, rfl⟩)
    go_ret2
    exact ⟨rfl, Frm.refl _ _⟩
  | true =>
    rw [hF] at HI
    have hq : quoteAns s.data.toList = (quoted s.data.toList, 0) := by rw [quoteAns, if_pos hF]
    rw [hq]
    have HQ := Lib.hid hq
    clear hq hF
    have f0 : Bld W.heap.size W.heap.size [] (W.alloc (.cells #[.pointer none, .slice none 0 0] 115)) := Lib.IsBuilderF.of (Lib.fresh_isBuilder 115 5 W)
    go_enter Tryd.func89, Tryd.ntmps89
    go_wp2_with (go_at_call 88; refine HI.mono ?_; rintro e w1 ⟨rfl, rfl⟩)
    clear HI
    refine (wbyte_ok W.heap.size W.heap.size [] 34 _ f0 (by simp) (by simp)).mono ?_
    rintro e w1 ⟨rfl, h1, b1, s1⟩
    have h1 : Bld W.heap.size W.heap.size (Lib.byteCells (34 :: esc (s.data.toList.take 0))) w1 := h1
    have b1 : Below W.heap.size W w1 := (Below.alloc (Below.refl _ W) (Nat.le_refl _) _).trans b1
    have G1 := Lib.hid h1
    have G2 := Lib.hid b1
    clear h1 b1 f0
    go_wp2
    go_loopw [12] (fun i wr => ∃ k : Nat, k ≤ s.size ∧ i = .int .i64 k ∧ Bld W.heap.size W.heap.size (Lib.byteCells (34 :: esc (s.data.toList.take k))) wr ∧ Below W.heap.size W wr ∧ W.heap.size ≤ wr.heap.size) (fun i _ => s.size - (intOf i).toNat)
    case atStart => exact ⟨0, Nat.zero_le _, rfl, G1.out, G2.out, s1⟩
    case round =>
      clear G1 G2 s1
      obtain ⟨k, hk, rfl, hB, hb, hsz⟩ := hrel
      have HB := Lib.hid hB
      have Hb := Lib.hid hb
      clear hB hb
      have hlen : (esc (s.data.toList.take k)).length ≤ 2 * k := by
        have := esc_le (s.data.toList.take k)
        rw [List.length_take] at this; omega
      by_cases hlt : k < s.size
      · obtain ⟨x, hx⟩ : ∃ x, s.data.toList[k]? = some x := ⟨_, List.getElem?_eq_getElem (by rw [size_toList]; omega)⟩
        have hxb : s[k]'hlt = x := ba_at s k x hx hlt
        have hst := esc_step _ _ _ hx
        have HX := Lib.hid hst
        clear hx hst
        by_cases h34 : x.toNat = 34 ∨ x.toNat = 92
        · have he : escB x = [92, x] := by
            have : x = 34 ∨ x = 92 := h34.imp (fun h => UInt8.toNat_inj.1 h) (fun h => UInt8.toNat_inj.1 h)
            rw [escB, if_pos this]
          have HE := Lib.hid he
          clear he
          have hor : ∃ b : Bool, ((x.toNat : Int) == 34) = b ∧ (b = false → ((x.toNat : Int) == 92) = true) := ⟨_, rfl, fun h => by simp at h ⊢; omega⟩
          clear h34
          obtain ⟨b, hb1, hb2⟩ := hor
          cases b
          · have hb2 := hb2 rfl
            go_wp2_with fail
            clear hb1 hb2
            refine (wbyte_ok W.heap.size W.heap.size _ 92 _ HB.out (by rw [Lib.byteCells_length]; simp; omega) hsz).mono ?_
            rintro e w1 ⟨rfl, h1, b1, s1⟩
            have K1 := Lib.hid h1
            have K2 := Lib.hid (Hb.out.trans b1)
            clear h1 b1
            go_wp2_with fail
            refine (wbyte_ok W.heap.size W.heap.size _ _ _ K1.out (by rw [List.length_append, Lib.byteCells_length]; simp; omega) s1).mono ?_
            rintro e w2 ⟨rfl, h2, b2, s2⟩
            have h2' : Bld W.heap.size W.heap.size (Lib.byteCells (34 :: esc (s.data.toList.take (k + 1)))) w2 := by
              rw [HX.out, HE.out]
              have e1 := bcells (34 :: esc (s.data.toList.take k)) 92
              have e2 := bcells (34 :: esc (s.data.toList.take k) ++ [92]) x
              rw [← e1] at e2
              have e3 : (34 :: (esc (s.data.toList.take k) ++ [92, x]) : List UInt8) = 34 :: esc (s.data.toList.take k) ++ [92] ++ [x] := by simp
              rw [e3, ← e2]; exact h2
            have L1 := Lib.hid h2'
            have L2 := Lib.hid (K2.out.trans b2)
            clear h2 h2' b2
            go_wp2
            go_roundw
            case rel => exact ⟨k + 1, by omega, by go_num, L1.out, L2.out, s2⟩
            case measure => simp [intOf]; omega
          · clear hb2
            go_wp2_with fail
            clear hb1
            refine (wbyte_ok W.heap.size W.heap.size _ 92 _ HB.out (by rw [Lib.byteCells_length]; simp; omega) hsz).mono ?_
            rintro e w1 ⟨rfl, h1, b1, s1⟩
            have K1 := Lib.hid h1
            have K2 := Lib.hid (Hb.out.trans b1)
            clear h1 b1
            go_wp2_with fail
            refine (wbyte_ok W.heap.size W.heap.size _ _ _ K1.out (by rw [List.length_append, Lib.byteCells_length]; simp; omega) s1).mono ?_
            rintro e w2 ⟨rfl, h2, b2, s2⟩
            have h2' : Bld W.heap.size W.heap.size (Lib.byteCells (34 :: esc (s.data.toList.take (k + 1)))) w2 := by
              rw [HX.out, HE.out]
              have e1 := bcells (34 :: esc (s.data.toList.take k)) 92
              have e2 := bcells (34 :: esc (s.data.toList.take k) ++ [92]) x
              rw [← e1] at e2
              have e3 : (34 :: (esc (s.data.toList.take k) ++ [92, x]) : List UInt8) = 34 :: esc (s.data.toList.take k) ++ [92] ++ [x] := by simp
              rw [e3, ← e2]; exact h2
            have L1 := Lib.hid h2'
            have L2 := Lib.hid (K2.out.trans b2)
            clear h2 h2' b2
            go_wp2
            go_roundw
            case rel => exact ⟨k + 1, by omega, by go_num, L1.out, L2.out, s2⟩
            case measure => simp [intOf]; omega
        · have he : escB x = [x] := by
            rw [escB, if_neg]
            rintro (rfl | rfl)
            · exact h34 (.inl rfl)
            · exact h34 (.inr rfl)
          have HE := Lib.hid he
          clear he
          have n1 : ((x.toNat : Int) == 34) = false := by simp; omega
          have n2 : ((x.toNat : Int) == 92) = false := by simp; omega
          clear h34
          go_wp2_with fail
          clear n1 n2
          refine (wbyte_ok W.heap.size W.heap.size _ _ _ HB.out (by rw [Lib.byteCells_length]; simp; omega) hsz).mono ?_
          rintro e w2 ⟨rfl, h2, b2, s2⟩
          have h2' : Bld W.heap.size W.heap.size (Lib.byteCells (34 :: esc (s.data.toList.take (k + 1)))) w2 := by
            rw [HX.out, HE.out]
            have e2 := bcells (34 :: esc (s.data.toList.take k)) x
            rw [List.cons_append] at e2
            rw [← e2]; exact h2
          have L1 := Lib.hid h2'
          have L2 := Lib.hid (Hb.out.trans b2)
          clear h2 h2' b2
          go_wp2
          go_roundw
          case rel => exact ⟨k + 1, by omega, by go_num, L1.out, L2.out, s2⟩
          case measure => simp [intOf]; omega
      · obtain rfl : k = s.size := by omega
        have hB := HB.out
        rw [List.take_of_length_le (by rw [size_toList]; omega)] at hB hlen
        have HB2 := Lib.hid hB
        clear hB HB
        go_wp2_with fail
        refine (wbyte_ok W.heap.size W.heap.size _ 34 _ HB2.out (by rw [Lib.byteCells_length]; simp; omega) hsz).mono ?_
        rintro e w1 ⟨rfl, h1, b1, s1⟩
        have h1' : Bld W.heap.size W.heap.size (Lib.byteCells (quoted s.data.toList)) w1 := by
          have e1 := bcells (34 :: esc s.data.toList) 34
          have e2 : quoted s.data.toList = 34 :: esc s.data.toList ++ [34] := by simp [quoted]
          rw [e2, ← e1]; exact h1
        have K1 := Lib.hid h1'
        have K2 := Lib.hid (Hb.out.trans b1)
        clear h1 h1' b1
        go_wp2_with fail
        refine (btext_ok W.heap.size W.heap.size _ _ K1.out s1).mono ?_
        rintro e w2 ⟨rfl, b2⟩
        have K3 := Lib.hid (K2.out.trans b2)
        clear b2
        go_wp2
        go_ret2
        exact ⟨rfl, frm_below K3.out⟩
def unqAns (l : List UInt8) : List UInt8 × Int × Int := match unquote l with
  | some p => (p.1, (p.2 : Int), 0)
  | none => ([], 0, 13)
/-- Where the loop stands: what the rest says, behind acc. -/
def unqIs (l acc : List UInt8) (k : Nat) : Prop := unq (l.drop 1) = (unq (l.drop k)).map fun p => (acc ++ p.1, p.2 + (k - 1))
theorem unqIs_start (l : List UInt8) : unqIs l [] 1 := by
  unfold unqIs
  cases unq (l.drop 1) <;> simp
theorem drop_at (l : List UInt8) (k : Nat) (x : UInt8) (h : l[k]? = some x) : l.drop k = x :: l.drop (k + 1) := by
  have hlt := (List.getElem?_eq_some_iff.1 h).1
  rw [List.drop_eq_getElem_cons hlt, (List.getElem?_eq_some_iff.1 h).2]
theorem unqIs_close {l acc : List UInt8} {k : Nat} (h : unqIs l acc k) (hk : 1 ≤ k) (hx : l[k]? = some 34) (h0 : l[0]? = some 34) : unqAns l = (acc, (k : Int) + 1, 0) := by
  unfold unqIs at h
  have e : unquote l = some (acc, k + 1) := by
    rw [show l = 34 :: l.drop 1 from drop_at l 0 34 h0, unquote]
    rw [if_pos rfl]
    rw [drop_at l k 34 hx] at h
    rw [show unq (34 :: l.drop (k + 1)) = some ([], 1) by unfold unq; rw [if_pos rfl]] at h
    rw [h]
    simp; omega
  unfold unqAns
  rw [e]; simp
theorem unqAns_none {l : List UInt8} (h : unq (l.drop 1) = none) (h0 : l[0]? = some 34) : unqAns l = ([], 0, 13) := by
  have e : unquote l = none := by
    rw [show l = 34 :: l.drop 1 from drop_at l 0 34 h0, unquote, if_pos rfl, h]; rfl
  unfold unqAns
  rw [e]
theorem unqIs_bad {l acc : List UInt8} {k : Nat} (h : unqIs l acc k) (hn : unq (l.drop k) = none) (h0 : l[0]? = some 34) : unqAns l = ([], 0, 13) := by
  unfold unqIs at h
  rw [hn] at h
  exact unqAns_none h h0
theorem unq_plain (x : UInt8) (r : List UInt8) (h1 : x ≠ 34) (h2 : x ≠ 92) : unq (x :: r) = if fcB x = true then (unq r).map (fun p => (x :: p.1, p.2 + 1)) else none := by
  conv => lhs; unfold unq
  rw [if_neg h1, if_neg h2]
theorem unq_esc1 (x : UInt8) (r : List UInt8) : unq (92 :: x :: r) = if fcB x = true then (unq r).map (fun p => (x :: p.1, p.2 + 2)) else none := by
  conv => lhs; unfold unq
  rw [if_neg (by decide), if_pos rfl]
theorem unqIs_plain {l acc : List UInt8} {k : Nat} {x : UInt8} (h : unqIs l acc k) (hk : 1 ≤ k) (hx : l[k]? = some x) (h1 : x ≠ 34) (h2 : x ≠ 92) (hf : fcB x = true) : unqIs l (acc ++ [x]) (k + 1) := by
  unfold unqIs at h ⊢
  rw [h, drop_at l k x hx, unq_plain _ _ h1 h2, if_pos hf]
  cases unq (l.drop (k + 1)) with
  | none => rfl
  | some p => simp; omega
theorem unqIs_esc {l acc : List UInt8} {k : Nat} {x : UInt8} (h : unqIs l acc k) (hk : 1 ≤ k) (hx : l[k]? = some 92) (hy : l[k + 1]? = some x) (hf : fcB x = true) : unqIs l (acc ++ [x]) (k + 2) := by
  unfold unqIs at h ⊢
  rw [h, drop_at l k 92 hx, drop_at l (k + 1) x hy, unq_esc1, if_pos hf]
  rw [show k + 1 + 1 = k + 2 from rfl]
  cases unq (l.drop (k + 2)) with
  | none => rfl
  | some p => simp; omega
theorem unq_none_plain {l : List UInt8} {k : Nat} {x : UInt8} (hx : l[k]? = some x) (h1 : x ≠ 34) (h2 : x ≠ 92) (hf : fcB x = false) : unq (l.drop k) = none := by
  rw [drop_at l k x hx, unq_plain _ _ h1 h2, if_neg (by rw [hf]; simp)]
theorem unq_none_esc {l : List UInt8} {k : Nat} {x : UInt8} (hx : l[k]? = some 92) (hy : l[k + 1]? = some x) (hf : fcB x = false) : unq (l.drop k) = none := by
  rw [drop_at l k 92 hx, drop_at l (k + 1) x hy, unq_esc1, if_neg (by rw [hf]; simp)]
theorem unq_none_last {l : List UInt8} {k : Nat} (hx : l[k]? = some 92) (hl : l.length = k + 1) : unq (l.drop k) = none := by
  rw [drop_at l k 92 hx, List.drop_of_length_le (by omega)]
  rfl
theorem unq_none_end {l : List UInt8} {k : Nat} (hl : l.length ≤ k) : unq (l.drop k) = none := by
  rw [List.drop_of_length_le hl]; rfl
set_option maxRecDepth 100000 in
set_option maxHeartbeats 1000000 in
theorem unquote_ok (s : ByteArray) (hs : s.size ≤ 35184372088832) (W : World) : Calls Tryd.prog 97 #[.string s] W fun e w' => e = .returned (.tuple #[.string (tx (unqAns s.data.toList).1), .int .i64 (unqAns s.data.toList).2.1, .int .i64 (unqAns s.data.toList).2.2]) ∧ Frm (fun _ => False) W w' := by
  by_cases he : s.data.toList = []
  · have hn : unqAns s.data.toList = ([], 0, 13) := by rw [he]; rfl
    have he' : s.toList.isEmpty = true := by rw [ba_toList, he]; rfl
    rw [hn]
    go_enter Tryd.func97, Tryd.ntmps97
    go_wp2
    go_ret3
    exact ⟨rfl, Frm.refl _ _⟩
  · have he' : s.toList.isEmpty = false := by rw [ba_toList]; simpa using he
    have h0s : 0 < s.size := by
      rw [← size_toList]
      exact List.length_pos_iff.2 he
    obtain ⟨c, hc⟩ : ∃ x, s.data.toList[0]? = some x := ⟨_, List.getElem?_eq_getElem (by rw [size_toList]; omega)⟩
    have hcb : s[0]'h0s = c := ba_at s 0 c hc h0s
    clear he
    by_cases h34 : c.toNat = 34
    · have hc34 : c = 34 := UInt8.toNat_inj.1 h34
      have t34 : ((c.toNat : Int) != 34) = false := by simp; omega
      have H0 : Hid (s.data.toList[0]? = some 34) := Lib.hid (by rw [hc, hc34])
      have f0 : Bld W.heap.size W.heap.size (Lib.byteCells []) (W.alloc (.cells #[.pointer none, .slice none 0 0] 115)) := Lib.IsBuilderF.of (Lib.fresh_isBuilder 115 5 W)
      have F0 := Lib.hid f0
      have B0 := Lib.hid (Below.alloc (Below.refl _ W) (Nat.le_refl _) (.cells #[.pointer none, .slice none 0 0] 115))
      clear hc hc34 h34 f0
      go_enter Tryd.func97, Tryd.ntmps97
      go_wp2
      clear t34 hcb he'
      go_loopw [6] (fun i wr => ∃ (k : Nat) (acc : List UInt8), 1 ≤ k ∧ k ≤ s.size ∧ i = .int .i64 k ∧ Bld W.heap.size W.heap.size (Lib.byteCells acc) wr ∧ Below W.heap.size W wr ∧ W.heap.size ≤ wr.heap.size ∧ unqIs s.data.toList acc k ∧ acc.length ≤ k) (fun i _ => s.size - (intOf i).toNat)
      case atStart => exact ⟨1, [], by omega, by omega, rfl, F0.out, B0.out, by simp, unqIs_start _, by simp⟩
      case round =>
        clear F0 B0
        obtain ⟨k, acc, hk1, hk, rfl, hB, hb, hsz, hu, hacc⟩ := hrel
        have HB := Lib.hid hB
        have Hb := Lib.hid hb
        have HU := Lib.hid hu
        clear hB hb hu
        by_cases hlt : k < s.size
        · obtain ⟨x, hx⟩ : ∃ x, s.data.toList[k]? = some x := ⟨_, List.getElem?_eq_getElem (by rw [size_toList]; omega)⟩
          have hxb : s[k]'hlt = x := ba_at s k x hx hlt
          have HX := Lib.hid hx
          clear hx
          by_cases h34 : x.toNat = 34
          · have hx34 : x = 34 := UInt8.toNat_inj.1 h34
            have t1 : ((x.toNat : Int) == 34) = true := by simp; omega
            have HN := Lib.hid (unqIs_close HU.out hk1 (by rw [HX.out, hx34]) H0.out)
            clear h34 hx34
            go_wp2_with fail
            clear t1
            refine (btext_ok W.heap.size W.heap.size _ _ HB.out hsz).mono ?_
            rintro e w2 ⟨rfl, b2⟩
            have K3 := Lib.hid (Hb.out.trans b2)
            clear b2
            go_wp2
            go_ret3
            rw [HN.out]
            refine ⟨?_, frm_below K3.out⟩
            rfl
          · have t1 : ((x.toNat : Int) == 34) = false := by simp; omega
            by_cases h92 : x.toNat = 92
            · have hx92 : x = 92 := UInt8.toNat_inj.1 h92
              have t2 : ((x.toNat : Int) == 92) = true := by simp; omega
              have hx92' := Lib.hid (show s.data.toList[k]? = some 92 by rw [HX.out, hx92])
              clear h34 h92 hx92
              by_cases hl2 : k + 1 = s.size
              · have HN := Lib.hid (unqIs_bad HU.out (unq_none_last hx92'.out (by rw [size_toList]; omega)) H0.out)
                have t3 : ((k : Int) + 1 == (s.size : Int)) = true := by simp; omega
                go_wp2
                go_ret3
                rw [HN.out]
                exact ⟨rfl, frm_below Hb.out⟩
              · have hlt2 : k + 1 < s.size := by omega
                have t3 : ((k : Int) + 1 == (s.size : Int)) = false := by simp; omega
                obtain ⟨y, hy⟩ : ∃ x, s.data.toList[k + 1]? = some x := ⟨_, List.getElem?_eq_getElem (by rw [size_toList]; omega)⟩
                have hyb : s[k + 1]'hlt2 = y := ba_at s (k + 1) y hy hlt2
                have HY := Lib.hid hy
                clear hy
                have hif := isFieldByte_ok y wr
                cases hf : fcB y
                · rw [hf] at hif
                  have HN := Lib.hid (unqIs_bad HU.out (unq_none_esc hx92'.out HY.out hf) H0.out)
                  clear hf
                  go_wp2_with fail
                  clear t1 t2 t3
                  refine hif.mono ?_
                  rintro e w2 ⟨rfl, rfl⟩
                  go_wp2
                  go_ret3
                  rw [HN.out]
                  exact ⟨rfl, frm_below Hb.out⟩
                · rw [hf] at hif
                  have HS := Lib.hid (unqIs_esc HU.out hk1 hx92'.out HY.out hf)
                  clear hf
                  go_wp2_with fail
                  clear t1 t2 t3
                  refine hif.mono ?_
                  rintro e w2 ⟨rfl, rfl⟩
                  go_wp2_with fail
                  refine (wbyte_ok W.heap.size W.heap.size _ _ _ HB.out (by rw [Lib.byteCells_length]; omega) hsz).mono ?_
                  rintro e w3 ⟨rfl, h2, b2, s2⟩
                  rw [bcells] at h2
                  have L1 := Lib.hid h2
                  have L2 := Lib.hid (Hb.out.trans b2)
                  clear h2 b2
                  go_wp2
                  go_roundw
                  case rel => exact ⟨k + 2, _, by omega, by omega, by go_num, L1.out, L2.out, s2, HS.out, by simp; omega⟩
                  case measure => simp [intOf]; omega
            · have t2 : ((x.toNat : Int) == 92) = false := by simp; omega
              have ne1 : x ≠ 34 := by rintro rfl; exact h34 rfl
              have ne2 : x ≠ 92 := by rintro rfl; exact h92 rfl
              clear h34 h92
              have hif := isFieldByte_ok x wr
              cases hf : fcB x
              · rw [hf] at hif
                have HN := Lib.hid (unqIs_bad HU.out (unq_none_plain HX.out ne1 ne2 hf) H0.out)
                clear hf ne1 ne2
                go_wp2_with fail
                clear t1 t2
                refine hif.mono ?_
                rintro e w2 ⟨rfl, rfl⟩
                go_wp2
                go_ret3
                rw [HN.out]
                exact ⟨rfl, frm_below Hb.out⟩
              · rw [hf] at hif
                have HS := Lib.hid (unqIs_plain HU.out hk1 HX.out ne1 ne2 hf)
                clear hf ne1 ne2
                go_wp2_with fail
                clear t1 t2
                refine hif.mono ?_
                rintro e w2 ⟨rfl, rfl⟩
                go_wp2_with fail
                refine (wbyte_ok W.heap.size W.heap.size _ _ _ HB.out (by rw [Lib.byteCells_length]; omega) hsz).mono ?_
                rintro e w3 ⟨rfl, h2, b2, s2⟩
                rw [bcells] at h2
                have L1 := Lib.hid h2
                have L2 := Lib.hid (Hb.out.trans b2)
                clear h2 b2
                go_wp2
                go_roundw
                case rel => exact ⟨k + 1, _, by omega, by omega, by go_num, L1.out, L2.out, s2, HS.out, by simp; omega⟩
                case measure => simp [intOf]; omega
        · have HN := Lib.hid (unqIs_bad HU.out (unq_none_end (by rw [size_toList]; omega)) H0.out)
          go_wp2
          go_ret3
          rw [HN.out]
          exact ⟨rfl, frm_below Hb.out⟩
    · have hn : unqAns s.data.toList = ([], 0, 13) := by
        have : unquote s.data.toList = none := by
          rw [show s.data.toList = c :: s.data.toList.drop 1 from drop_at _ 0 c hc, unquote, if_neg]
          rintro rfl; exact h34 rfl
        unfold unqAns; rw [this]
      have HN := Lib.hid hn
      have t34 : ((c.toNat : Int) != 34) = true := by simp; omega
      clear hn hc h34
      go_enter Tryd.func97, Tryd.ntmps97
      go_wp2
      go_ret3
      rw [HN.out]
      exact ⟨rfl, Frm.refl _ _⟩
end Go.Proofs.YtimhofphmgehgaaDoor
