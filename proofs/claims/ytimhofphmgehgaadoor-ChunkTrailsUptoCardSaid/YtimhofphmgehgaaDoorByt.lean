/- Bytes and texts: '[]byte(s)', 'string(b)', a store into an owned row, and the texts' small laws. -/
import Derived.Test.YtimhofphmgehgaaDoorMem
import Derived.Test.YtimhofphmgehgaaDoorText3
import Derived.Laws.IdiomStrings
import Derived.Lib.SlBytesRow
import Derived.Lib.Strings
set_option linter.unusedVariables false
set_option linter.unusedSimpArgs false
namespace Go.Proofs.YtimhofphmgehgaaDoor
open Go Go.RowKit

/-- A text of bytes. -/
def tx (l : List UInt8) : ByteArray := ⟨l.toArray⟩
theorem tx_data (l : List UInt8) : (tx l).data.toList = l := rfl
theorem tx_of (s : ByteArray) : tx s.data.toList = s := rfl
theorem size_data (s : ByteArray) : s.size = s.data.size := rfl
theorem tx_size (l : List UInt8) : (tx l).size = l.length := by rw [size_data]; simp [tx]
theorem size_toList (s : ByteArray) : s.data.toList.length = s.size := by rw [size_data]; simp
theorem tx_inj {a b : List UInt8} (h : tx a = tx b) : a = b := by rw [← tx_data a, h, tx_data]
theorem tx_append (a b : List UInt8) : tx a ++ tx b = tx (a ++ b) := by
  apply ByteArray.ext
  apply Array.toList_inj.1
  simp [tx]
theorem tx_toList (l : List UInt8) : (tx l).toList = l := by rw [Lib.toList_data, tx_data]
theorem ba_toList (s : ByteArray) : s.toList = s.data.toList := Lib.toList_data s
theorem beq_dec {α : Type} [BEq α] [LawfulBEq α] [DecidableEq α] (a b : α) : (a == b) = decide (a = b) := by
  by_cases h : a = b
  · subst h; simp
  · simp [h]
theorem tx_beq (a b : List UInt8) : ((tx a).toList == (tx b).toList) = decide (a = b) := by rw [tx_toList, tx_toList, beq_dec]
/-- The cells that hold them. -/
def u8s (l : List UInt8) : List Value := l.map fun b => .int .u8 (b.toNat : Int)
theorem u8s_length (l : List UInt8) : (u8s l).length = l.length := by simp [u8s]
theorem u8s_at (l : List UInt8) (k : Nat) : (u8s l)[k]? = (l[k]?).map fun b => Value.int .u8 (b.toNat : Int) := by simp [u8s]
theorem u8s_append (a b : List UInt8) : u8s (a ++ b) = u8s a ++ u8s b := by simp [u8s]
theorem u8s_set (l : List UInt8) (k : Nat) (b : UInt8) : u8s (l.set k b) = (u8s l).set k (.int .u8 (b.toNat : Int)) := by simp [u8s, List.map_set]

section
variable {P : Program}
/-- '[]byte(s)': a new row, owned. -/
theorem run_bytes_osl (w : World) (src dst e : TypeId) (s : ByteArray) (hs : P.underlying src = some .string) (hd : P.underlying dst = some (.slice e)) (he : P.underlying e = some (.int .u8)) (hm : s.size ≤ maxLen) :
    ∃ cap w', (convert src dst (.string s)).run P w = .ok (.slice (some ⟨w.heap.size, 0, none⟩) s.size cap) w' ∧ OSl w' 1 (.slice (some ⟨w.heap.size, 0, none⟩) s.size cap) s.size (u8s s.data.toList) ∧ Frm (fun _ => False) w w' ∧ w'.heap.size = w.heap.size + 1 := by
  refine ⟨_, _, run_bytes_of_string w src dst e s hs hd he, ?_, ⟨rfl, rfl, rfl, by simp, fun k hk _ => heap_alloc_old w.drew _ hk⟩, by simp⟩
  have hge := grownCap_ge w s.size 0 e
  have hsz : (bytesRow s (grownCap w s.size 0 e)).size = grownCap w s.size 0 e := by
    rw [size_data] at hge
    simp [bytesRow] at hge ⊢; omega
  refine ⟨by rw [u8s_length, size_toList, Nat.mul_one], .inr ⟨w.heap.size, 0, _, rfl, hge, grownCap_le_maxLen w s.size 0 e hm, by simp, fun j hj => ?_, fun j hj => ?_⟩⟩
  · have hj' : j < s.data.size := by rw [← size_data]; omega
    have e1 := World.cell?_alloc_mark w.drew (bytesRow s (grownCap w s.size 0 e)) e ((bytesRow s (grownCap w s.size 0 e)).size, (bytesRow s (grownCap w s.size 0 e)).size + 1) j
    rw [Nat.zero_add]
    refine e1.trans ?_
    rw [bytesRow_at s _ j hj', u8s_at]
    simp [Array.getElem?_eq_getElem hj']
  · have e1 := World.cell?_alloc_mark w.drew (bytesRow s (grownCap w s.size 0 e)) e ((bytesRow s (grownCap w s.size 0 e)).size, (bytesRow s (grownCap w s.size 0 e)).size + 1) j
    have e2 := World.frozen?_alloc_mark w.drew (bytesRow s (grownCap w s.size 0 e)) e (bytesRow s (grownCap w s.size 0 e)).size ((bytesRow s (grownCap w s.size 0 e)).size + 1) j
    rw [Nat.zero_add]
    refine ⟨?_, ?_⟩
    · refine (congrArg Option.isSome e1).trans ?_
      rw [Array.getElem?_eq_getElem (by omega)]
      rfl
    · refine e2.trans ?_
      have : ¬ (bytesRow s (grownCap w s.size 0 e)).size ≤ j := by omega
      simp [this]

/-- 'string(b)'. -/
theorem run_text_rsl (w : World) (src dst e : TypeId) (ao : Option Addr) (n cap : Nat) (l : List UInt8) (hs : P.underlying src = some (.slice e)) (he : P.underlying e = some (.int .u8)) (hd : P.underlying dst = some .string)
    (h : RSl w 1 (.slice ao n cap) n (u8s l)) : (convert src dst (.slice ao n cap)).run P w = .ok (.string (tx l)) w := by
  obtain ⟨h1, ao', cap', he', _, _, hc⟩ := h
  cases he'
  rw [u8s_length, Nat.mul_one] at h1
  subst h1
  rcases Nat.eq_zero_or_pos l.length with hz | hp
  · obtain rfl : l = [] := List.eq_nil_of_length_eq_zero hz
    cases ao with
    | none => exact run_convert_bytes_nil w src e hs he 0 cap dst hd
    | some a => exact run_convert_bytes_back w src dst e a cap [] hs he hd (fun j hj => absurd hj (by simp))
  · obtain ⟨g, o, rfl, hc2⟩ := hc hp
    refine run_convert_bytes_back w src dst e ⟨g, o, none⟩ cap l hs he hd (fun j hj => ?_)
    have := hc2 j (by omega)
    rw [u8s_at, List.getElem?_eq_getElem hj] at this
    simpa [Addr.add_mid] using this
end

/-- A STORE INTO AN OWNED ROW. -/
theorem OSl.set {w : World} {g o n cap : Nat} {xs : List Value} (h : OSl w 1 (.slice (some ⟨g, o, none⟩) n cap) n xs) (k : Nat) (hk : k < n) (v : Value) :
    OSl (w.setCell ⟨g, o + k, none⟩ v) 1 (.slice (some ⟨g, o, none⟩) n cap) n (xs.set k v) := by
  have hl := h.1
  obtain ⟨h2, h3, h6, h4, h5⟩ := h.at
  refine ⟨by simpa using hl, .inr ⟨g, o, cap, rfl, h2, h3, by simpa [World.setCell] using h6, fun j hj => ?_, fun j hj => ?_⟩⟩
  · by_cases hjk : j = k
    · subst hjk
      obtain ⟨u, hu⟩ := Option.isSome_iff_exists.1 (h5 j (by omega)).1
      rw [World.cell?_setCell_same _ _ _ hu, List.getElem?_set_self (by omega)]
    · rw [World.cell?_setCell_other _ _ _ _ (by intro hh; simp at hh <;> omega), List.getElem?_set_ne (by omega)]
      exact h4 j hj
  · refine ⟨?_, (World.frozen?_setCell _ _ _ _).trans (h5 j hj).2⟩
    by_cases hjk : j = k
    · subst hjk
      obtain ⟨u, hu⟩ := Option.isSome_iff_exists.1 (h5 j (by omega)).1
      rw [World.cell?_setCell_same _ _ _ hu]; rfl
    · rw [World.cell?_setCell_other _ _ _ _ (by intro hh; simp at hh <;> omega)]
      exact (h5 j hj).1
theorem OSl.cellAt {w : World} {g o n cap : Nat} {l : List UInt8} (h : OSl w 1 (.slice (some ⟨g, o, none⟩) n cap) n (u8s l)) (k : Nat) (x : UInt8) (hk : l[k]? = some x) : w.cell? ⟨g, o + k, none⟩ = some (.int .u8 (x.toNat : Int)) ∧ w.frozen? ⟨g, o + k, none⟩ = false := by
  have hl := h.1
  obtain ⟨h2, h3, h6, h4, h5⟩ := h.at
  have hkl := (List.getElem?_eq_some_iff.1 hk).1
  rw [u8s_length] at hl
  refine ⟨?_, (h5 k (by omega)).2⟩
  rw [h4 k (by omega), u8s_at, hk]
  rfl

/-- Small letters. -/
def lowB (b : UInt8) : UInt8 := if 65 ≤ b.toNat ∧ b.toNat ≤ 90 then UInt8.ofNat (b.toNat + 32) else b
def low (l : List UInt8) : List UInt8 := l.map lowB
theorem lowB_yes (b : UInt8) (h1 : 65 ≤ b.toNat) (h2 : b.toNat ≤ 90) : ((lowB b).toNat : Int) = (b.toNat : Int) + 32 := by
  rw [lowB, if_pos ⟨h1, h2⟩, UInt8.toNat_ofNat', Nat.mod_eq_of_lt (by omega)]; simp
theorem lowB_no (b : UInt8) (h : ¬ (65 ≤ b.toNat ∧ b.toNat ≤ 90)) : lowB b = b := by rw [lowB, if_neg h]
theorem lowB_low (b : UInt8) : lowB (lowB b) = lowB b := by
  by_cases h : 65 ≤ b.toNat ∧ b.toNat ≤ 90
  · have := lowB_yes b h.1 h.2
    exact lowB_no _ (by omega)
  · rw [lowB_no b h, lowB_no b h]
theorem low_low (l : List UInt8) : low (low l) = low l := by
  unfold low
  rw [List.map_map]
  exact List.map_congr_left fun b _ => lowB_low b
theorem low_length (l : List UInt8) : (low l).length = l.length := by simp [low]
theorem low_step (l : List UInt8) (k : Nat) (x : UInt8) (h : l[k]? = some x) : (low (l.take k) ++ l.drop k).set k (lowB x) = low (l.take (k + 1)) ++ l.drop (k + 1) := by
  have hk := (List.getElem?_eq_some_iff.1 h).1
  have hl : (low (l.take k)).length = k := by rw [low_length, List.length_take]; omega
  apply List.ext_getElem?
  intro j
  rw [List.getElem?_set]
  by_cases hj : k = j
  · subst hj
    have hl2 : k < (low (l.take (k + 1))).length := by rw [low_length, List.length_take]; omega
    rw [if_pos rfl, if_pos (by rw [List.length_append, hl, List.length_drop]; omega), List.getElem?_append_left hl2]
    unfold low
    rw [List.getElem?_map, List.getElem?_take_of_lt (by omega), h]; rfl
  · rw [if_neg hj]
    by_cases hlt : j < k
    · rw [List.getElem?_append_left (by omega), List.getElem?_append_left (by rw [low_length, List.length_take]; omega)]
      unfold low
      rw [List.getElem?_map, List.getElem?_map, List.getElem?_take_of_lt hlt, List.getElem?_take_of_lt (by omega)]
    · rw [List.getElem?_append_right (by omega), List.getElem?_append_right (by rw [low_length, List.length_take]; omega), hl, low_length, List.length_take, List.getElem?_drop, List.getElem?_drop]
      congr 1; omega
theorem low_same (l : List UInt8) (k : Nat) (x : UInt8) (h : l[k]? = some x) (hx : lowB x = x) : low (l.take k) ++ l.drop k = low (l.take (k + 1)) ++ l.drop (k + 1) := by
  rw [← low_step l k x h, hx]
  have hk := (List.getElem?_eq_some_iff.1 h).1
  have hl : (low (l.take k)).length = k := by rw [low_length, List.length_take]; omega
  apply List.ext_getElem?
  intro j
  rw [List.getElem?_set]
  by_cases hj : k = j
  · subst hj
    rw [if_pos rfl, if_pos (by rw [List.length_append, hl, List.length_drop]; omega), List.getElem?_append_right (by omega), hl, Nat.sub_self, List.getElem?_drop, Nat.add_zero, h]
  · rw [if_neg hj]
theorem low_mid (l : List UInt8) (k : Nat) (x : UInt8) (h : l[k]? = some x) : (low (l.take k) ++ l.drop k)[k]? = some x := by
  have hk := (List.getElem?_eq_some_iff.1 h).1
  have hl : (low (l.take k)).length = k := by rw [low_length, List.length_take]; omega
  rw [List.getElem?_append_right (by omega), hl, Nat.sub_self, List.getElem?_drop, Nat.add_zero, h]
theorem ba_at (s : ByteArray) (k : Nat) (x : UInt8) (h : s.data.toList[k]? = some x) (hk : k < s.size) : s[k]'hk = x := by
  have := (List.getElem?_eq_some_iff.1 h).2
  rw [Array.getElem_toList] at this
  exact this
theorem extract_toList (s : ByteArray) (a b : Nat) : (s.extract a b).data.toList = (s.data.toList.drop a).take (b - a) := Lib.extract_data s a b
theorem extract_one (s : ByteArray) (k : Nat) (x : UInt8) (h : s.data.toList[k]? = some x) : (s.extract k (k + 1)).data.toList = [x] := by
  rw [extract_toList, Nat.add_sub_cancel_left]
  have hk := (List.getElem?_eq_some_iff.1 h)
  rw [List.drop_eq_getElem_cons hk.1, hk.2]; rfl
theorem extract_size (s : ByteArray) (a b : Nat) : (s.extract a b).size ≤ s.size := by
  rw [← size_toList, extract_toList, List.length_take, List.length_drop, ← size_toList]; omega
end Go.Proofs.YtimhofphmgehgaaDoor
