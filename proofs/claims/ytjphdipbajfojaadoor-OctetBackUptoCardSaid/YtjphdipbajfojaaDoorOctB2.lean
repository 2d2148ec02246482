/- Quote and Unquote, walked over the shelf's contracts of strings.Builder. -/
import Derived.Test.YtjphdipbajfojaaDoorOctB
set_option linter.unusedVariables false
set_option linter.unusedSimpArgs false
namespace Go.Proofs.YtjphdipbajfojaaDoor
open Go Go.RowKit Go.Proofs

theorem esc_step (l : List UInt8) (k : Nat) (x : UInt8) (h : l[k]? = some x) : esc (l.take (k + 1)) = esc (l.take k) ++ escB x := by
  rw [List.take_add_one, h]
  simp [esc]
theorem esc_le (l : List UInt8) : (esc l).length ≤ 2 * l.length := by
  induction l with
  | nil => simp [esc]
  | cons c l ih =>
    have e : esc (c :: l) = escB c ++ esc l := by simp [esc]
    rw [e, List.length_append]
    have : (escB c).length ≤ 2 := by unfold escB; split <;> simp
    simp only [List.length_cons]; omega
theorem bcells (l : List UInt8) (c : UInt8) : Lib.byteCells l ++ [.int .u8 (c.toNat : Int)] = Lib.byteCells (l ++ [c]) := by simp [Lib.byteCells]
theorem toNat_ne {x : UInt8} {n : Nat} (hn : n < 256) (h : x.toNat ≠ n) : x ≠ UInt8.ofNat n := by
  rintro rfl
  exact h (by simp; omega)

def quoteAns (l : List UInt8) : List UInt8 × Int := if fldB l = true then (quoted l, 0) else ([], 13)
set_option maxRecDepth 100000 in
set_option maxHeartbeats 1000000 in
theorem quote_ok (s : ByteArray) (hs : s.size ≤ 35184372088832) (W : World) : Calls Tryd.prog 23 #[.string s] W fun e w' => e = .returned (.tuple #[.string (tx (quoteAns s.data.toList).1), .int .i64 (quoteAns s.data.toList).2]) ∧ Frm (fun _ => False) W w' := by
  have HI : Calls Tryd.prog 38 #[.string s] W fun e w' => e = .returned (.bool (fldB s.data.toList)) ∧ W = w' := (isField_ok s (by omega) W).mono fun e w' ⟨h1, h2⟩ => ⟨h1, h2.symm⟩
  cases hF : fldB s.data.toList with
  | false =>
    rw [hF] at HI
    have hq : quoteAns s.data.toList = ([], 13) := by rw [quoteAns, if_neg (by rw [hF]; simp)]
    rw [hq]
    go_enter Tryd.func23, Tryd.ntmps23
    go_wp2_with (go_at_call 38; refine HI.mono ?_; rintro e w1 ⟨rfl, rfl⟩)
    go_ret2
    exact ⟨rfl, Frm.refl _ _⟩
  | true =>
    rw [hF] at HI
    have hq : quoteAns s.data.toList = (quoted s.data.toList, 0) := by rw [quoteAns, if_pos hF]
    rw [hq]
    have HQ := Lib.hid hq
    clear hq hF
    have f0 : Bld W.heap.size W.heap.size [] (W.alloc (.cells #[.pointer none, .slice none 0 0] 70)) := Lib.IsBuilderF.of (Lib.fresh_isBuilder 70 5 W)
    go_enter Tryd.func23, Tryd.ntmps23
    go_wp2_with (go_at_call 38; refine HI.mono ?_; rintro e w1 ⟨rfl, rfl⟩)
    clear HI
    refine (wbyte_ok W.heap.size W.heap.size [] 34 _ f0 (by simp) (by simp)).mono ?_
    rintro e w1 ⟨rfl, h1, b1, s1⟩
    have h1 : Bld W.heap.size W.heap.size (Lib.byteCells (34 :: esc (s.data.toList.take 0))) w1 := h1
    have b1 : Below W.heap.size W w1 := (Below.alloc (Below.refl _ W) (Nat.le_refl _) _).trans b1
    have G1 := Lib.hid h1
    have G2 := Lib.hid b1
    clear h1 b1 f0
    go_wp2
    go_loopw [12] (fun i wr => ∃ k : Nat, k ≤ s.size ∧ i = .int .i64 k ∧ Bld W.heap.size W.heap.size (Lib.byteCells (34 :: esc (s.data.toList.take k))) wr ∧ Below W.heap.size W wr ∧ W.heap.size ≤ wr.heap.size) (fun i _ => s.size - (intOf i).toNat)
    case atStart => exact ⟨0, Nat.zero_le _, rfl, G1.out, G2.out, s1⟩
    case round =>
      clear G1 G2 s1
      obtain ⟨k, hk, rfl, hB, hb, hsz⟩ := hrel
      have HB := Lib.hid hB
      have Hb := Lib.hid hb
      clear hB hb
      have hlen : (esc (s.data.toList.take k)).length ≤ 2 * k := by
        have := esc_le (s.data.toList.take k)
        rw [List.length_take] at this; omega
      by_cases hlt : k < s.size
      · obtain ⟨x, hx⟩ : ∃ x, s.data.toList[k]? = some x := ⟨_, List.getElem?_eq_getElem (by rw [size_toList]; omega)⟩
        have hxb : s[k]'hlt = x := ba_at s k x hx hlt
        have hst := esc_step _ _ _ hx
        have HX := Lib.hid hst
        clear hx hst
        by_cases h34 : x.toNat = 34 ∨ x.toNat = 92
        · have he : escB x = [92, x] := by
            have : x = 34 ∨ x = 92 := h34.imp (fun h => UInt8.toNat_inj.1 h) (fun h => UInt8.toNat_inj.1 h)
            rw [escB, if_pos this]
          have HE := Lib.hid he
          clear he
          have hor : ∃ b : Bool, ((x.toNat : Int) == 34) = b ∧ (b = false → ((x.toNat : Int) == 92) = true) := ⟨_, rfl, fun h => by simp at h ⊢; omega⟩
          clear h34
          obtain ⟨b, hb1, hb2⟩ := hor
          cases b
          · have hb2 := hb2 rfl
            go_wp2_with fail
            clear hb1 hb2
            refine (wbyte_ok W.heap.size W.heap.size _ 92 _ HB.out (by rw [Lib.byteCells_length]; simp; omega) hsz).mono ?_
            rintro e w1 ⟨rfl, h1, b1, s1⟩
            have K1 := Lib.hid h1
            have K2 := Lib.hid (Hb.out.trans b1)
            clear h1 b1
            go_wp2_with fail
            refine (wbyte_ok W.heap.size W.heap.size _ _ _ K1.out (by rw [List.length_append, Lib.byteCells_length]; simp; omega) s1).mono ?_
            rintro e w2 ⟨rfl, h2, b2, s2⟩
            have h2' : Bld W.heap.size W.heap.size (Lib.byteCells (34 :: esc (s.data.toList.take (k + 1)))) w2 := by
              rw [HX.out, HE.out]
              have e1 := bcells (34 :: esc (s.data.toList.take k)) 92
              have e2 := bcells (34 :: esc (s.data.toList.take k) ++ [92]) x
              rw [← e1] at e2
              have e3 : (34 :: (esc (s.data.toList.take k) ++ [92, x]) : List UInt8) = 34 :: esc (s.data.toList.take k) ++ [92] ++ [x] := by simp
              rw [e3, ← e2]; exact h2
            have L1 := Lib.hid h2'
            have L2 := Lib.hid (K2.out.trans b2)
            clear h2 h2' b2
            go_wp2
            go_roundw
            case rel => exact ⟨k + 1, by omega, by go_num, L1.out, L2.out, s2⟩
            case measure => simp [intOf]; omega
          · clear hb2
            go_wp2_with fail
            clear hb1
            refine (wbyte_ok W.heap.size W.heap.size _ 92 _ HB.out (by rw [Lib.byteCells_length]; simp; omega) hsz).mono ?_
            rintro e w1 ⟨rfl, h1, b1, s1⟩
            have K1 := Lib.hid h1
            have K2 := Lib.hid (Hb.out.trans b1)
            clear h1 b1
            go_wp2_with fail
            refine (wbyte_ok W.heap.size W.heap.size _ _ _ K1.out (by rw [List.length_append, Lib.byteCells_length]; simp; omega) s1).mono ?_
            rintro e w2 ⟨rfl, h2, b2, s2⟩
            have h2' : Bld W.heap.size W.heap.size (Lib.byteCells (34 :: esc (s.data.toList.take (k + 1)))) w2 := by
              rw [HX.out, HE.out]
              have e1 := bcells (34 :: esc (s.data.toList.take k)) 92
              have e2 := bcells (34 :: esc (s.data.toList.take k) ++ [92]) x
              rw [← e1] at e2
              have e3 : (34 :: (esc (s.data.toList.take k) ++ [92, x]) : List UInt8) = 34 :: esc (s.data.toList.take k) ++ [92] ++ [x] := by simp
              rw [e3, ← e2]; exact h2
            have L1 := Lib.hid h2'
            have L2 := Lib.hid (K2.out.trans b2)
            clear h2 h2' b2
            go_wp2
            go_roundw
            case rel => exact ⟨k + 1, by omega, by go_num, L1.out, L2.out, s2⟩
            case measure => simp [intOf]; omega
        · have he : escB x = [x] := by
            rw [escB, if_neg]
            rintro (rfl | rfl)
            · exact h34 (.inl rfl)
            · exact h34 (.inr rfl)
          have HE := Lib.hid he
          clear he
          have n1 : ((x.toNat : Int) == 34) = false := by simp; omega
          have n2 : ((x.toNat : Int) == 92) = false := by simp; omega
          clear h34
          go_wp2_with fail
          clear n1 n2
          refine (wbyte_ok W.heap.size W.heap.size _ _ _ HB.out (by rw [Lib.byteCells_length]; simp; omega) hsz).mono ?_
          rintro e w2 ⟨rfl, h2, b2, s2⟩
          have h2' : Bld W.heap.size W.heap.size (Lib.byteCells (34 :: esc (s.data.toList.take (k + 1)))) w2 := by
            rw [HX.out, HE.out]
            have e2 := bcells (34 :: esc (s.data.toList.take k)) x
            rw [List.cons_append] at e2
            rw [← e2]; exact h2
          have L1 := Lib.hid h2'
          have L2 := Lib.hid (Hb.out.trans b2)
          clear h2 h2' b2
          go_wp2
          go_roundw
          case rel => exact ⟨k + 1, by omega, by go_num, L1.out, L2.out, s2⟩
          case measure => simp [intOf]; omega
      · obtain rfl : k = s.size := by omega
        have hB := HB.out
        rw [List.take_of_length_le (by rw [size_toList]; omega)] at hB hlen
        have HB2 := Lib.hid hB
        clear hB HB
        go_wp2_with fail
        refine (wbyte_ok W.heap.size W.heap.size _ 34 _ HB2.out (by rw [Lib.byteCells_length]; simp; omega) hsz).mono ?_
        rintro e w1 ⟨rfl, h1, b1, s1⟩
        have h1' : Bld W.heap.size W.heap.size (Lib.byteCells (quoted s.data.toList)) w1 := by
          have e1 := bcells (34 :: esc s.data.toList) 34
          have e2 : quoted s.data.toList = 34 :: esc s.data.toList ++ [34] := by simp [quoted]
          rw [e2, ← e1]; exact h1
        have K1 := Lib.hid h1'
        have K2 := Lib.hid (Hb.out.trans b1)
        clear h1 h1' b1
        go_wp2_with fail
        refine (btext_ok W.heap.size W.heap.size _ _ K1.out s1).mono ?_
        rintro e w2 ⟨rfl, b2⟩
        have K3 := Lib.hid (K2.out.trans b2)
        clear b2
        go_wp2
        go_ret2
        exact ⟨rfl, frm_below K3.out⟩
end Go.Proofs.YtjphdipbajfojaaDoor
