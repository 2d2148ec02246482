/- The signs of tokens: the table, and what is told by it. -/
import Derived.Test.YtjphdipbajfojaaDoorNum
set_option linter.unusedVariables false
set_option linter.unusedSimpArgs false
namespace Go.Proofs.YtjphdipbajfojaaDoor
open Go Go.RowKit

def signTab : List Int := [0, 67071226, 3355443198, 1476395007]
/-- The table lies in its block. -/
def Signs (w : World) : Prop := ∀ j z, signTab[j]? = some z → w.cell? ⟨0, j, none⟩ = some (.int .u32 z)
theorem Signs.frm {w w' : World} (h : Signs w) (hf : Frm (fun _ => False) w w') : Signs w' := fun j z hj =>
  (hf.cell (p := ⟨0, j, none⟩) (World.block_lt_of_cell? _ _ (h j z hj)) (fun h => h)).trans (h j z hj)

/-- A sign of tokens. -/
def signB (b : UInt8) : Bool := decide (b.toNat < 128) && decide ((signTab.getD (b.toNat / 32) 0).toNat >>> (b.toNat % 32) % 2 = 1)

set_option maxRecDepth 100000 in
theorem sign_all : ∀ n, n < 128 → (bits .and .u32 (signTab.getD (n / 32) 0 / 2 ^ (n % 32)) 1 == 1) = signB (UInt8.ofNat n) := by decide
theorem sign_at (b : UInt8) (j : Nat) (z : Int) (h : b.toNat < 128) (hj : b.toNat / 32 = j) (hz : signTab.getD j 0 = z) : (bits .and .u32 (z / 2 ^ (b.toNat % 32)) 1 == 1) = signB b := by
  have := sign_all b.toNat h
  rw [u8_ofNat, hj, hz] at this
  exact this

set_option maxRecDepth 100000 in
set_option maxHeartbeats 1000000 in
theorem isSign_ok (b : UInt8) (W : World) (hS : Signs W) : Calls Tryd.prog 57 #[.int .u8 b.toNat] W fun e w' => e = .returned (.bool (signB b)) ∧ w' = W := by
  have hb := b.toNat_lt
  by_cases h1 : b.toNat < 128
  · by_cases h2 : b.toNat < 32
    · have hq : (b.toNat : Int).tdiv 32 = 0 := by rw [Int.tdiv_eq_ediv_of_nonneg (by omega)]; omega
      have hc := hS 0 0 rfl
      go_enter Tryd.func57, Tryd.ntmps57
      go_wp2
      go_ret
      exact ⟨congrArg (fun x => Ending.returned (.bool x)) (by have := sign_at b 0 0 h1 (by omega) rfl; rw [Int.zero_ediv] at this; exact this), rfl⟩
    · by_cases h3 : b.toNat < 64
      · have hq : (b.toNat : Int).tdiv 32 = 1 := by rw [Int.tdiv_eq_ediv_of_nonneg (by omega)]; omega
        have hc := hS 1 67071226 rfl
        go_enter Tryd.func57, Tryd.ntmps57
        go_wp2
        go_ret
        exact ⟨congrArg (fun x => Ending.returned (.bool x)) (sign_at b 1 67071226 h1 (by omega) rfl), rfl⟩
      · by_cases h4 : b.toNat < 96
        · have hq : (b.toNat : Int).tdiv 32 = 2 := by rw [Int.tdiv_eq_ediv_of_nonneg (by omega)]; omega
          have hc := hS 2 3355443198 rfl
          go_enter Tryd.func57, Tryd.ntmps57
          go_wp2
          go_ret
          exact ⟨congrArg (fun x => Ending.returned (.bool x)) (sign_at b 2 3355443198 h1 (by omega) rfl), rfl⟩
        · have hq : (b.toNat : Int).tdiv 32 = 3 := by rw [Int.tdiv_eq_ediv_of_nonneg (by omega)]; omega
          have hc := hS 3 1476395007 rfl
          go_enter Tryd.func57, Tryd.ntmps57
          go_wp2
          go_ret
          exact ⟨congrArg (fun x => Ending.returned (.bool x)) (sign_at b 3 1476395007 h1 (by omega) rfl), rfl⟩
  · go_enter Tryd.func57, Tryd.ntmps57
    go_wp2
    go_ret
    refine ⟨?_, rfl⟩
    have : signB b = false := by simp [signB, h1]
    rw [this]
    rfl

/-- A token. -/
def tokB (l : List UInt8) : Bool := l.all signB && !l.isEmpty
theorem all_take (p : UInt8 → Bool) (l : List UInt8) (k : Nat) (x : UInt8) (h : l[k]? = some x) : (l.take (k + 1)).all p = ((l.take k).all p && p x) := by
  rw [List.take_add_one, h, List.all_append]
  simp
theorem all_bad (p : UInt8 → Bool) (l : List UInt8) (k : Nat) (x : UInt8) (h : l[k]? = some x) (hp : p x = false) : l.all p = false := by
  rw [List.all_eq_false]
  exact ⟨x, List.mem_of_getElem? h, by rw [hp]; simp⟩
set_option maxRecDepth 100000 in
set_option maxHeartbeats 2000000 in
theorem isToken_ok (s : ByteArray) (hs : s.size ≤ 140737488351232) (W : World) (hS : Signs W) : Calls Tryd.prog 36 #[.string s] W fun e w' => e = .returned (.bool (tokB s.data.toList)) ∧ w' = W := by
  have HS := Lib.hid hS
  clear hS
  go_enter Tryd.func36, Tryd.ntmps36
  go_wp2
  go_loopw [6] (fun i wr => ∃ k : Nat, k ≤ s.size ∧ i = .int .i64 k ∧ (s.data.toList.take k).all signB = true ∧ wr = W) (fun i _ => s.size - (intOf i).toNat)
  case atStart => exact ⟨0, Nat.zero_le _, rfl, rfl, rfl⟩
  case round =>
    obtain ⟨k, hk, rfl, hok, rfl⟩ := hrel
    have HOK := Lib.hid hok
    clear hok
    by_cases hlt : k < s.size
    · obtain ⟨x, hx⟩ : ∃ x, s.data.toList[k]? = some x := ⟨_, List.getElem?_eq_getElem (by rw [size_toList]; omega)⟩
      have hxb : s[k]'hlt = x := ba_at s k x hx hlt
      have hst := all_take signB _ _ _ hx
      rw [HOK.out, Bool.true_and] at hst
      have HST := Lib.hid hst
      have HX := Lib.hid hx
      clear hx hst
      go_wp2_with fail
      refine (isSign_ok x wr HS.out).mono ?_
      rintro e w' ⟨rfl, rfl⟩
      cases hp : signB x
      · have HN : Hid (tokB s.data.toList = false) := by
          show _ = _
          rw [tokB, all_bad signB _ _ _ HX.out hp]; rfl
        clear hp
        go_wp2
        go_ret
        exact ⟨by rw [HN.out]; rfl, rfl⟩
      · have HO2 := Lib.hid (HST.out.trans hp)
        clear hp
        go_wp2
        go_roundw
        case rel => exact ⟨k + 1, by omega, by go_num, HO2.out, by trivial⟩
        case measure => simp [intOf]; omega
    · obtain rfl : k = s.size := by omega
      have hall := HOK.out
      rw [List.take_of_length_le (by rw [size_toList]; omega)] at hall
      have HN : Hid (tokB s.data.toList = !s.data.toList.isEmpty) := by
        show _ = _
        rw [tokB, hall, Bool.true_and]
      clear hall HOK
      go_wp2
      go_ret
      refine ⟨?_, rfl⟩
      rw [HN.out, ← ba_toList]
      rfl
end Go.Proofs.YtjphdipbajfojaaDoor
