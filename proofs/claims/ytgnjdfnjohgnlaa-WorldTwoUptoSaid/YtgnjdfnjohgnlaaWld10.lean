/- World: what a call leaves alone, and sizes; the laws' Op. -/
import Derived.Test.YtgnjdfnjohgnlaaWldR
set_option linter.unusedVariables false
set_option linter.unusedSimpArgs false
set_option linter.unusedSectionVars false
set_option maxRecDepth 100000
namespace Go.Proofs.Ytgnjdfnjohgnlaa
open Go Go.RowKit

def Cn.good (B : Nat) (m : Cn) : Prop := m.rd ≤ m.del.length ∧ 0 ≤ m.rg ∧ 0 ≤ m.wg ∧ m.del.length ≤ B ∧ m.tak.length ≤ B
def goods (B : Nat) (ms : List Cn) : Prop := ∀ m ∈ ms, m.good B
theorem Cn.good.mono {B B' : Nat} {m : Cn} (h : m.good B) (hb : B ≤ B') : m.good B' := ⟨h.1, h.2.1, h.2.2.1, Nat.le_trans h.2.2.2.1 hb, Nat.le_trans h.2.2.2.2 hb⟩
theorem goods.mono {B B' : Nat} {ms : List Cn} (h : goods B ms) (hb : B ≤ B') : goods B' ms := fun m hm => (h m hm).mono hb
theorem goods.set {B B' : Nat} {ms : List Cn} (h : goods B ms) (hb : B ≤ B') {m : Cn} (hm : m.good B') (i : Nat) : goods B' (ms.set i m) := fun x hx => by
  rcases List.mem_or_eq_of_mem_set hx with h' | rfl
  · exact (h x h').mono hb
  · exact hm
theorem goods.at {B : Nat} {ms : List Cn} (h : goods B ms) {i : Nat} {m : Cn} (hm : ms[i]? = some m) : m.good B := h m (List.mem_of_getElem? hm)
theorem Cn.good.ok {B : Nat} {m : Cn} (h : m.good B) (hB : B ≤ 140737488355328) : m.ok := ⟨h.1, h.2.1, h.2.2.1, Nat.le_trans h.2.2.2.1 hB, Nat.le_trans h.2.2.2.2 hB⟩
theorem cEvent_good {B : Nat} {m m' : Cn} {k i : Int} {d : List UInt8} (h : m.good B) (he : cEvent m k i d = some m') : m'.good (B + d.length) := by
  obtain ⟨h1, h2, h3, h4, h5⟩ := h
  unfold cEvent at he
  repeat' split at he
  all_goals cases he
  all_goals refine ⟨?_, ?_, ?_, ?_, ?_⟩ <;> simp <;> omega
theorem cRead_good {B : Nat} {m : Cn} (k : Int) (h : m.good B) : (cRead m k).1.good B := by
  obtain ⟨h1, h2, h3, h4, h5⟩ := h
  unfold cRead
  dsimp only
  repeat' split
  all_goals refine ⟨?_, ?_, ?_, ?_, ?_⟩ <;> simp <;> omega
theorem cWrite_good {B : Nat} {m : Cn} (s : List UInt8) (h : m.good B) : (cWrite m s).1.good (B + s.length) := by
  obtain ⟨h1, h2, h3, h4, h5⟩ := h
  unfold cWrite
  dsimp only
  repeat' split
  all_goals refine ⟨?_, ?_, ?_, ?_, ?_⟩ <;> simp <;> omega
theorem Cn.new_good (B : Nat) : Cn.new.good B := by refine ⟨?_, ?_, ?_, ?_, ?_⟩ <;> simp [Cn.new]

/-- Only one of them. -/
def Only (ms ms' : List Cn) (n : Int) : Prop := ms'.length = ms.length ∧ ∀ j : Nat, (j : Int) ≠ n → ms'[j]? = ms[j]?
theorem Only.refl (ms : List Cn) (n : Int) : Only ms ms n := ⟨rfl, fun _ _ => rfl⟩
theorem only_set (ms : List Cn) (n : Int) (h : 0 ≤ n) (m : Cn) : Only ms (ms.set n.toNat m) n := ⟨by simp, fun j hj => by rw [List.getElem?_set_ne]; omega⟩
theorem mLive_nn {ms : List Cn} {n : Int} (h : mLive ms n = 0) : 0 ≤ n := by
  by_cases hn : 0 ≤ n
  · exact hn
  · simp [mLive, mServed, hn] at h
theorem mServed_nn {ms : List Cn} {n : Int} (h : mServed ms n = 0) : 0 ≤ n := by
  by_cases hn : 0 ≤ n
  · exact hn
  · simp [mServed, hn] at h
theorem mDo_only {none : Bool} {ms : List Cn} {k n i : Int} {d : List UInt8} (hk : k ≠ 1) : Only ms (mDo none ms k n i d).1 n := by
  unfold mDo
  repeat' split
  all_goals first | exact Only.refl _ _ | exact only_set _ _ (by omega) _ | (exfalso; omega)
theorem mInterest_only (ms : List Cn) (n : Int) (r w : Bool) : Only ms (mInterest ms n r w).1 n := by
  unfold mInterest
  split
  · rename_i h
    split
    · exact only_set _ _ (mLive_nn h) _
    · exact Only.refl _ _
  · exact Only.refl _ _
theorem mRead_only (ms : List Cn) (n k : Int) : Only ms (mRead ms n k).1 n := by
  unfold mRead
  split
  · rename_i h
    split
    · exact only_set _ _ (mLive_nn h) _
    · exact Only.refl _ _
  · exact Only.refl _ _
theorem mWrite_only (ms : List Cn) (n : Int) (s : List UInt8) : Only ms (mWrite ms n s).1 n := by
  unfold mWrite
  split
  · rename_i h
    split
    · exact only_set _ _ (mLive_nn h) _
    · exact Only.refl _ _
  · exact Only.refl _ _
theorem mClose_only (ms : List Cn) (n : Int) : Only ms (mClose ms n).1 n := by
  unfold mClose
  split
  · rename_i h
    split
    · exact only_set _ _ (mServed_nn h) _
    · exact Only.refl _ _
  · exact Only.refl _ _
theorem mDo_good {none : Bool} {ms : List Cn} {k n i : Int} {d : List UInt8} {B : Nat} (h : goods B ms) : goods (B + d.length) (mDo none ms k n i d).1 := by
  have h' := h.mono (Nat.le_add_right B d.length)
  unfold mDo
  split
  · exact h'
  · split
    · exact h'
    · split
      · split
        · exact h'
        · intro m hm
          rcases List.mem_append.1 hm with hm | hm
          · exact h' m hm
          · simp at hm; subst hm; exact Cn.new_good _
      · split
        · split
          · rename_i m hm
            split
            · rename_i m' he
              exact h.set (by omega) (cEvent_good (h.at hm) he) _
            · exact h'
          · exact h'
        · exact h'
theorem mInterest_good {ms : List Cn} {n : Int} {r w : Bool} {B : Nat} (h : goods B ms) : goods B (mInterest ms n r w).1 := by
  unfold mInterest
  split
  · split
    · rename_i m hm
      have hg : Cn.good B m := h.at hm
      exact h.set (m := { m with ri := r, wi := w }) (Nat.le_refl _) hg _
    · exact h
  · exact h
theorem mClose_good {ms : List Cn} {n : Int} {B : Nat} (h : goods B ms) : goods B (mClose ms n).1 := by
  unfold mClose
  split
  · split
    · rename_i m hm
      obtain ⟨h1, h2, h3, h4, h5⟩ := h.at hm
      exact h.set (m := { m with cls := true, ri := false, wi := false, rg := 0, wg := 0 }) (Nat.le_refl _) ⟨h1, Int.le_refl _, Int.le_refl _, h4, h5⟩ _
    · exact h
  · exact h
theorem mRead_good {ms : List Cn} {n k : Int} {B : Nat} (h : goods B ms) : goods B (mRead ms n k).1 := by
  unfold mRead
  split
  · split
    · rename_i m hm
      exact h.set (Nat.le_refl _) (cRead_good k (h.at hm)) _
    · exact h
  · exact h
theorem mWrite_good {ms : List Cn} {n : Int} {s : List UInt8} {B : Nat} (h : goods B ms) : goods (B + s.length) (mWrite ms n s).1 := by
  have h' := h.mono (Nat.le_add_right B s.length)
  unfold mWrite
  split
  · split
    · rename_i m hm
      exact h.set (by omega) (cWrite_good s (h.at hm)) _
    · exact h'
  · exact h'
theorem mAccept_good {ms : List Cn} {B : Nat} (h : goods B ms) : goods B (mAccept ms).1 := by
  unfold mAccept
  split
  · split
    · rename_i m hm
      have hg : Cn.good B m := h.at hm
      exact h.set (m := { m with acc := true }) (Nat.le_refl _) hg _
    · exact h
  · exact h

/-- What a script's call says. -/
structure OpA where
  kind : Int
  ek : Int
  ec : Int
  en : Int
  ed : List UInt8
  conn : Int
  n : Int
  s : List UInt8
  r : Bool
  w : Bool
def OpA.av (o : OpA) : List AV := [.int .i64 o.kind, .int .i64 o.ek, .int .i64 o.ec, .int .i64 o.en, .str o.ed, .int .i64 o.conn, .int .i64 o.n, .str o.s, .bool o.r, .bool o.w]
def ops (l : List OpA) : List (List AV) := l.map OpA.av
@[simp] theorem ops_len (l : List OpA) : (ops l).length = l.length := by simp [ops]
theorem ops_at {l : List OpA} {i : Nat} {o : OpA} (h : l[i]? = some o) : lat (ops l) i = some o.av := by simp [lat, ops, h]
/-- The bytes that the first i calls bring. -/
def opw : List OpA → Nat
  | [] => 0
  | o :: l => o.ed.length + o.s.length + opw l
theorem opw_app (l m : List OpA) : opw (l ++ m) = opw l + opw m := by
  induction l with
  | nil => simp [opw]
  | cons o l ih => simp only [List.cons_append, opw, ih]; omega
theorem opw_take {l : List OpA} {i : Nat} {o : OpA} (h : l[i]? = some o) : opw (l.take (i + 1)) = opw (l.take i) + (o.ed.length + o.s.length) := by
  rw [List.take_add_one, h, opw_app]; simp [opw]
theorem opw_le (l : List OpA) (i : Nat) : opw (l.take i) ≤ opw l := by
  have := opw_app (l.take i) (l.drop i)
  rw [List.take_append_drop] at this; omega
/-- A box that is none of the world's stays. -/
theorem Up.kept {H H' : Hp} {w : Option Nat} {cs cs' : List Nat} (hu : Up H w cs H' cs') {b : Nat} {l : List AV} (hb : H[b]? = some l) (hw : w ≠ some b) (hc : b ∉ cs) : H'[b]? = some l ∧ b ∉ cs' := by
  have := at_lt hb
  refine ⟨(hu.keep b this hw hc).trans hb, fun hm => ?_⟩
  rcases hu.new b hm with h | h
  · exact hc h
  · omega
end Go.Proofs.Ytgnjdfnjohgnlaa
