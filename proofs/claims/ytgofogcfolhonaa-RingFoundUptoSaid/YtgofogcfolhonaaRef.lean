/- The document's ring: piece. -/
import Derived.Test.YtgofogcfolhonaaRingLaw
set_option linter.unusedVariables false
set_option linter.unusedSimpArgs false
namespace Go.Proofs.Ytgofogcfolhonaa
open Go Go.RowKit

/-- What 'piece' copies. -/
def pieceL (l : List UInt8) (fr n : Int) : List UInt8 := if fr < 0 ∨ n ≤ 0 then [] else (l.drop fr.toNat).take n.toNat

set_option maxRecDepth 100000 in
set_option maxHeartbeats 1000000 in
theorem piece_ok {w : World} {lo : Option Addr} {ln lc : Nat} {l : List UInt8} (h : RSl w 1 (.slice lo ln lc) ln (u8s l)) (hln : ln ≤ 140737488355328) (fr n : Int) (h1 : -9223372036854775808 ≤ fr) (h2 : fr ≤ 9223372036854775807) (h3 : -9223372036854775808 ≤ n) (h4 : n ≤ 9223372036854775807) :
    Calls Try.prog 64 #[.slice lo ln lc, .int .i64 fr, .int .i64 n] w fun e w' => ∃ ao c k, e = .returned (.slice ao k c) ∧ OSl w' 1 (.slice ao k c) k (u8s (pieceL l fr n)) ∧ (∀ g', (Value.slice ao k c).ownBlock = some g' → w.heap.size ≤ g') ∧ Frm (fun _ => False) w w' := by
  obtain ⟨i0, hi, hz0, hz1, hz2⟩ := info_parts Try.info5
  have hll := h.len
  have HL := Lib.hid h
  clear h
  by_cases hneg : fr < 0
  · have hp : pieceL l fr n = [] := if_pos (.inl hneg)
    rw [hp]
    clear hp
    go_enter Try.func64, Try.ntmps64
    go_wp2
    go_ret
    exact ⟨_, _, _, rfl, OSl.nil _ _, fun g h => by simp [Value.ownBlock] at h, Frm.refl _ _⟩
  · by_cases hn0 : n ≤ 0
    · have hp : pieceL l fr n = [] := if_pos (.inr hn0)
      rw [hp]
      clear hp
      go_enter Try.func64, Try.ntmps64
      go_wp2
      go_ret
      exact ⟨_, _, _, rfl, OSl.nil _ _, fun g h => by simp [Value.ownBlock] at h, Frm.refl _ _⟩
    · have hp : pieceL l fr n = (l.drop fr.toNat).take n.toNat := if_neg (by omega)
      obtain ⟨f, rfl⟩ : ∃ f : Nat, fr = f := ⟨fr.toNat, by omega⟩
      obtain ⟨m, rfl⟩ : ∃ m : Nat, n = m := ⟨n.toNat, by omega⟩
      rw [Int.toNat_natCast, Int.toNat_natCast] at hp
      rw [hp]
      clear hp
      go_enter Try.func64, Try.ntmps64
      go_wp2
      go_loopw [7, 8] (fun ou i wr => ∃ (j : Nat) (ao : Option Addr) (c : Nat), j ≤ m ∧ (0 < j → f + j ≤ ln) ∧ i = .int .i64 ((f : Int) + j) ∧ ou = .slice ao j c ∧ OSl wr 1 (.slice ao j c) j (u8s ((l.drop f).take j)) ∧ (∀ g', (Value.slice ao j c).ownBlock = some g' → w.heap.size ≤ g') ∧ Frm (fun _ => False) w wr) (fun _ i _ => ln - (intOf i).toNat)
      case atStart => exact ⟨0, none, 0, Nat.zero_le _, fun h => by omega, by simp, rfl, OSl.nil _ _, fun g h => by simp [Value.ownBlock] at h, Frm.refl _ _⟩
      case round =>
        obtain ⟨j, ao, c, hj, hjl, rfl, rfl, hO, hOb, hF⟩ := hrel
        have HO := Lib.hid hO
        have HOb := Lib.hid hOb
        have HF := Lib.hid hF
        have HJ := Lib.hid hjl
        clear hO hOb hF hjl
        by_cases hin : f + j < ln
        · by_cases hjm : j < m
          · obtain ⟨x, hx⟩ : ∃ x, l[f + j]? = some x := ⟨_, List.getElem?_eq_getElem (by omega)⟩
            obtain ⟨lg, lof, hlo, hcell⟩ : ∃ g o, lo = some ⟨g, o, none⟩ ∧ w.cell? ⟨g, o + (f + j), none⟩ = some (.int .u8 (x.toNat : Int)) := by
              obtain ⟨_, _, _, he, _, _, hc⟩ := HL.out
              cases he
              obtain ⟨g, o, rfl, hc2⟩ := hc (by omega)
              refine ⟨g, o, rfl, ?_⟩
              rw [hc2 (f + j) (by omega), u8s_at, hx]
              rfl
            have hlg : lg < w.heap.size := World.block_lt_of_cell? _ _ hcell
            have hc' : wr.cell? ⟨lg, lof + (f + j), none⟩ = some (.int .u8 (x.toNat : Int)) := (HF.out.cell (p := ⟨lg, lof + (f + j), none⟩) hlg (fun h => h)).trans hcell
            have HX := Lib.hid hx
            have hls : RSl (wr.alloc (.cells #[.int .u8 (x.toNat : Int)] 5)) 1 (.slice (some ⟨wr.heap.size, 0, none⟩) 1 1) 1 (u8s [x]) := (lit_osl wr 5 [x] (by show 1 ≤ maxLen; decide)).toR
            have HLS := Lib.hid (src_u8 (P := Try.prog) hls (tx := 66) Try.underlying66)
            clear hx hcell hls
            subst hlo
            go_wp2_with (at_builtin; refine wpList_append_osl _ rfl (.tmp 29) (.tmp 34) 66 66 rfl 5 i0 (.int .u8 0) 1 1 Try.underlying66 hi hz0 hz1 hz2 rfl _ j _ rfl (HO.out.alloc _) _ 1 _ rfl HLS.out (by unfold maxLen; omega) (by omega) ?_)
            intro ao2 c2 w2 hs hf hv
            have hlist : (l.drop f).take j ++ [x] = (l.drop f).take (j + 1) := by
              rw [List.take_add_one, List.getElem?_drop, HX.out]; rfl
            rw [← u8s_append, hlist] at hs
            have hsz : w.heap.size ≤ wr.heap.size := HF.out.size
            have hfa := fresh_app (w := w) (v' := .slice ao2 (j + 1) c2) (HF.out.allocR (.cells #[.int .u8 (x.toNat : Int)] 5)) HOb.out hf hv (by omega)
            have HS := Lib.hid hs
            have HFA := Lib.hid hfa
            clear hs hf hv hlist hfa HLS HO HOb HF hc'
            go_wp2
            go_roundw
            case rel => exact ⟨j + 1, ao2, c2, by omega, fun _ => by omega, by go_num, rfl, HS.out, HFA.out.1, HFA.out.2⟩
            case measure => simp [intOf]; omega
          · obtain rfl : j = m := by omega
            go_wp2
            go_ret
            exact ⟨_, _, _, rfl, HO.out, HOb.out, HF.out⟩
        · have hall : (l.drop f).take m = (l.drop f).take j := by
            rw [List.take_of_length_le (i := j) (by rw [List.length_drop]; omega), List.take_of_length_le (by rw [List.length_drop]; omega)]
          have HALL := Lib.hid hall
          clear hall
          go_wp2
          go_ret
          rw [HALL.out]
          exact ⟨_, _, _, rfl, HO.out, HOb.out, HF.out⟩
end Go.Proofs.Ytgofogcfolhonaa
