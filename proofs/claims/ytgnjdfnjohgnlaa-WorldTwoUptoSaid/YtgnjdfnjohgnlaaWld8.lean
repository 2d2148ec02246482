/- World: the calls, with what they leave of a world. -/
import Derived.Test.YtgnjdfnjohgnlaaWld7
set_option linter.unusedVariables false
set_option linter.unusedSimpArgs false
set_option linter.unusedSectionVars false
set_option maxRecDepth 100000
namespace Go.Proofs.Ytgnjdfnjohgnlaa
open Go Go.RowKit

/-- What a call leaves of the boxes. -/
structure Up (H : Hp) (w : Option Nat) (cs : List Nat) (H' : Hp) (cs' : List Nat) : Prop where
  len : H.length ≤ H'.length
  keep : ∀ j, j < H.length → w ≠ some j → j ∉ cs → H'[j]? = H[j]?
  new : ∀ c ∈ cs', c ∈ cs ∨ H.length ≤ c
theorem Up.refl (H : Hp) (w : Option Nat) (cs : List Nat) : Up H w cs H cs := ⟨Nat.le_refl _, fun _ _ _ _ => rfl, fun _ h => .inl h⟩
theorem Up.trans {H H1 H2 : Hp} {w : Option Nat} {cs cs1 cs2 : List Nat} (h : Up H w cs H1 cs1) (k : Up H1 w cs1 H2 cs2) : Up H w cs H2 cs2 :=
  ⟨Nat.le_trans h.len k.len, fun j hj hw hc => by
    rw [k.keep j (Nat.lt_of_lt_of_le hj h.len) hw (fun hm => by rcases h.new j hm with h' | h'; exact hc h'; omega)]
    exact h.keep j hj hw hc, fun c hc => by
    rcases k.new c hc with h' | h'
    · exact h.new c h'
    · exact .inr (Nat.le_trans h.len h')⟩
theorem WO.set {H : Hp} {w : Option Nat} {cs : List Nat} {ms : List Cn} (h : WO H w cs ms) {i c : Nat} {m : Cn} (m' : Cn) (hc : cs[i]? = some c) (hm : ms[i]? = some m) : WO (H.set c m'.av) w cs (ms.set i m') ∧ Up H w cs (H.set c m'.av) cs := by
  cases w with
  | none => rw [h.1] at hc; cases hc
  | some w =>
    have hnd := List.nodup_cons.1 h.nd
    have hlt := at_lt (h.conn i c m hc hm)
    refine ⟨⟨?_, by rw [List.length_set]; exact h.len, fun j c' m'' hc' hm' => ?_, h.nd⟩, by simp, fun j hj hw hcs => ?_, fun _ h => .inl h⟩
    · rw [List.getElem?_set_ne (fun e => hnd.1 (by rw [← e]; exact mem_at hc))]; exact h.box
    · by_cases hij : i = j
      · subst hij
        rw [hc] at hc'; cases hc'
        rw [List.getElem?_set_self (List.getElem?_eq_some_iff.1 hm).1] at hm'
        cases hm'
        exact List.getElem?_set_self hlt
      · rw [List.getElem?_set_ne hij] at hm'
        have hne : c ≠ c' := fun e => hij (by
          subst e
          exact (List.getElem?_inj (List.getElem?_eq_some_iff.1 hc).1 hnd.2).1 (hc.trans hc'.symm))
        rw [List.getElem?_set_ne hne]
        exact h.conn j c' m'' hc' hm'
    · rw [List.getElem?_set_ne (fun e => hcs (by rw [← e]; exact mem_at hc))]
theorem WO.connect {H : Hp} {w : Nat} {cs : List Nat} {ms : List Cn} (h : WO H (some w) cs ms) (ev : List AV) :
    WO (H.set w [.sl true 1 (ptrs (cs ++ [H.length + 1]))] ++ [ev, Cn.new.av]) (some w) (cs ++ [H.length + 1]) (ms ++ [Cn.new]) ∧ Up H (some w) cs (H.set w [.sl true 1 (ptrs (cs ++ [H.length + 1]))] ++ [ev, Cn.new.av]) (cs ++ [H.length + 1]) := by
  have hnd := List.nodup_cons.1 h.nd
  have hw := at_lt h.box
  have hlen := h.len
  have hcl : ∀ c ∈ cs, c < H.length := fun c hc => by
    obtain ⟨j, hj⟩ := List.getElem?_of_mem hc
    obtain ⟨m, hm⟩ : ∃ m, ms[j]? = some m := ⟨_, List.getElem?_eq_getElem (by have := (List.getElem?_eq_some_iff.1 hj).1; omega)⟩
    exact at_lt (h.conn j c m hj hm)
  refine ⟨⟨by rw [hs1 hw], by simp [hlen], fun j c m hc hm => ?_, ?_⟩, by simp, fun j hj hw' hcs => ?_, fun c hc => ?_⟩
  · by_cases hj : j < cs.length
    · rw [List.getElem?_append_left hj] at hc
      rw [List.getElem?_append_left (by omega)] at hm
      have := h.conn j c m hc hm
      rw [List.getElem?_append_left (by rw [List.length_set]; exact at_lt this), List.getElem?_set_ne (fun e => hnd.1 (by rw [e]; exact mem_at hc))]
      exact this
    · have hj' : j = cs.length := by have := (List.getElem?_eq_some_iff.1 hc).1; simp at this; omega
      subst hj'
      simp at hc
      rw [hlen] at hm
      simp at hm
      subst hc; subst hm
      rw [List.getElem?_append_right (by simp)]
      simp
  · rw [List.nodup_cons]
    refine ⟨fun hm => ?_, ?_⟩
    · rcases List.mem_append.1 hm with hm | hm
      · exact hnd.1 hm
      · simp at hm; omega
    · rw [List.nodup_append]
      refine ⟨hnd.2, by simp, fun a ha b hb => ?_⟩
      simp at hb
      have := hcl a ha
      omega
  · rw [List.getElem?_append_left (by simpa using hj), List.getElem?_set_ne (fun e => hw' (by rw [e]))]
  · rcases List.mem_append.1 hc with hc | hc
    · exact .inl hc
    · simp at hc; right; omega

/-- An event. -/
def mDo (none : Bool) (ms : List Cn) (k n i : Int) (d : List UInt8) : List Cn × Int :=
  if none then (ms, 240) else if ¬ (1 ≤ k ∧ k ≤ 6) then (ms, 241) else if k = 1 then (if ms.length = 4096 then (ms, 65) else (ms ++ [Cn.new], 0))
  else if 0 ≤ n ∧ n < ms.length then match ms[n.toNat]? with
    | some m => (match cEvent m k i d with
      | some m' => (ms.set n.toNat m', 0)
      | .none => (ms, 241))
    | .none => (ms, 240) else (ms, 240)
def mAccept (ms : List Cn) : List Cn × Int × Int := match ms.findIdx? mWaits with
  | some i => (match ms[i]? with
    | some m => (ms.set i { m with acc := true }, i, 0)
    | none => (ms, -1, 244))
  | none => (ms, -1, 244)
def mInterest (ms : List Cn) (n : Int) (r w : Bool) : List Cn × Int := if mLive ms n = 0 then match ms[n.toNat]? with
  | some m => (ms.set n.toNat { m with ri := r, wi := w }, 0)
  | none => (ms, 240) else (ms, mLive ms n)
def mRead (ms : List Cn) (n k : Int) : List Cn × List UInt8 × Bool × Int := if mLive ms n = 0 then match ms[n.toNat]? with
  | some m => (ms.set n.toNat (cRead m k).1, (cRead m k).2)
  | none => (ms, [], false, 240) else (ms, [], false, mLive ms n)
def mWrite (ms : List Cn) (n : Int) (s : List UInt8) : List Cn × Nat × Int := if mLive ms n = 0 then match ms[n.toNat]? with
  | some m => (ms.set n.toNat (cWrite m s).1, (cWrite m s).2)
  | none => (ms, 0, 240) else (ms, 0, mLive ms n)
def mClose (ms : List Cn) (n : Int) : List Cn × Int := if mServed ms n = 0 then match ms[n.toNat]? with
  | some m => (ms.set n.toNat { m with cls := true, ri := false, wi := false, rg := 0, wg := 0 }, 0)
  | none => (ms, 240) else (ms, mServed ms n)

section
variable (E : Env) (H : Hp) (w : Option Nat) (cs : List Nat) (ms : List Cn) (Q : AV → Hp → Prop) (hw : WO H w cs ms) (hl : ms.length ≤ 4096)
include hw hl
theorem do2_pc (k n i : Int) (d : List UInt8) (hsz : ∀ (j : Nat) m, n = j → ms[j]? = some m → m.del.length + d.length ≤ 140737488355328)
    (hQ : ∀ H' cs', WO H' w cs' (mDo w.isNone ms k n i d).1 → Up H w cs H' cs' → Q (.int .i64 (mDo w.isNone ms k n i d).2) H') :
    PC Try.prog E 11 [wpt w, evA k n i d] H Q := by
  have same : ∀ e, mDo w.isNone ms k n i d = (ms, e) → Q (.int .i64 e) H := fun e he => by
    have := hQ H cs
    rw [he] at this
    exact this hw (Up.refl _ _ _)
  have hsome : w ≠ none → w.isNone = false := fun h => by cases w <;> simp_all
  refine do_pc E H w cs ms Q hw hl k n i d hsz (fun h => same _ (by subst h; simp [mDo])) (fun h hk => same _ (by simp [mDo, hsome h, hk])) (fun h hk hm => same _ (by simp [mDo, hsome h, hk, hm])) (fun w' hw' hk hm => ?_)
    (fun h hk hn => same _ ?_) (fun h hk j m hj hm he => same _ ?_) (fun h hk j c m m' hj hc hm hcm he => ?_)
  · subst hw'
    have e : mDo (some w').isNone ms k n i d = (ms ++ [Cn.new], 0) := by
      have hne : ¬ ms.length = 4096 := by omega
      simp [mDo, hk, hne]
    have := hQ _ _ (by rw [e]; exact (hw.connect _).1) (hw.connect [.int .i64 k, .int .i64 n, .int .i64 i, .str d]).2
    rw [e] at this
    exact this
  · have h1 : 1 ≤ k ∧ k ≤ 6 := by omega
    have h2 : ¬ k = 1 := by omega
    simp only [mDo, hsome h, h1, h2, hn, Bool.false_eq_true, not_true_eq_false, and_self, if_false]
  · subst hj
    have h1 : 1 ≤ k ∧ k ≤ 6 := by omega
    have h2 : ¬ k = 1 := by omega
    have h3 : 0 ≤ (j : Int) ∧ (j : Int) < ms.length := by have := (List.getElem?_eq_some_iff.1 hm).1; omega
    simp only [mDo, hsome h, h1, h2, h3, Bool.false_eq_true, not_true_eq_false, and_self, if_false, if_true, Int.toNat_natCast, hm, he]
  · subst hj
    have h1 : 1 ≤ k ∧ k ≤ 6 := by omega
    have h2 : ¬ k = 1 := by omega
    have h3 : 0 ≤ (j : Int) ∧ (j : Int) < ms.length := by have := (List.getElem?_eq_some_iff.1 hm).1; omega
    have e : mDo w.isNone ms k j i d = (ms.set j m', 0) := by simp only [mDo, hsome h, h1, h2, h3, Bool.false_eq_true, not_true_eq_false, and_self, if_false, if_true, Int.toNat_natCast, hm, he]
    have := hQ _ _ (by rw [e]; exact (hw.set m' hc hm).1) (hw.set m' hc hm).2
    rw [e] at this
    exact this
theorem accept2_pc (hQ : ∀ H' cs', WO H' w cs' (mAccept ms).1 → Up H w cs H' cs' → Q (.tup [.int .i64 (mAccept ms).2.1, .int .i64 (mAccept ms).2.2]) H') : PC Try.prog E 15 [wpt w] H Q := by
  refine accept_pc E H w cs ms Q hw hl (fun h => ?_) (fun i c m hb hc hm hwt hcm => ?_)
  · have e : mAccept ms = (ms, -1, 244) := by
      unfold mAccept
      rw [List.findIdx?_eq_none_iff.2 h]
    have := hQ H cs (by rw [e]; exact hw) (Up.refl _ _ _)
    rw [e] at this; exact this
  · have e : mAccept ms = (ms.set i { m with acc := true }, (i : Int), 0) := by
      unfold mAccept
      have : ms.findIdx? mWaits = some i := by
        rw [List.findIdx?_eq_some_iff_getElem]
        obtain ⟨hlt, hg⟩ := List.getElem?_eq_some_iff.1 hm
        refine ⟨hlt, by rw [hg]; exact hwt, fun j hj => ?_⟩
        have := hb j ms[j] hj (List.getElem?_eq_getElem (by omega))
        simp [this]
      rw [this]
      simp only [hm]
    have := hQ _ _ (by rw [e]; exact (hw.set { m with acc := true } hc hm).1) (hw.set _ hc hm).2
    rw [e] at this; exact this
variable (n : Int)
theorem interest2_pc (r i' : Bool) (hQ : ∀ H' cs', WO H' w cs' (mInterest ms n r i').1 → Up H w cs H' cs' → Q (.int .i64 (mInterest ms n r i').2) H') :
    PC Try.prog E 16 [wpt w, .int .i64 n, .bool r, .bool i'] H Q := by
  refine interest_pc E H w cs ms Q n hw hl r i' (fun h => ?_) (fun i c m hi hc hm hcm he => ?_)
  · have e : mInterest ms n r i' = (ms, mLive ms n) := by unfold mInterest; rw [if_neg h]
    have := hQ H cs (by rw [e]; exact hw) (Up.refl _ _ _)
    rw [e] at this; exact this
  · subst hi
    have e : mInterest ms i r i' = (ms.set i { m with ri := r, wi := i' }, 0) := by unfold mInterest; rw [if_pos he, Int.toNat_natCast, hm]
    have := hQ _ _ (by rw [e]; exact (hw.set { m with ri := r, wi := i' } hc hm).1) (hw.set _ hc hm).2
    rw [e] at this; exact this
theorem close2_pc (hQ : ∀ H' cs', WO H' w cs' (mClose ms n).1 → Up H w cs H' cs' → Q (.int .i64 (mClose ms n).2) H') :
    PC Try.prog E 20 [wpt w, .int .i64 n] H Q := by
  refine close_pc E H w cs ms Q n hw hl (fun h => ?_) (fun i c m hi hc hm hcm he => ?_)
  · have e : mClose ms n = (ms, mServed ms n) := by unfold mClose; rw [if_neg h]
    have := hQ H cs (by rw [e]; exact hw) (Up.refl _ _ _)
    rw [e] at this; exact this
  · subst hi
    have e : mClose ms i = (ms.set i { m with cls := true, ri := false, wi := false, rg := 0, wg := 0 }, 0) := by unfold mClose; rw [if_pos he, Int.toNat_natCast, hm]
    have := hQ _ _ (by rw [e]; exact (hw.set { m with cls := true, ri := false, wi := false, rg := 0, wg := 0 } hc hm).1) (hw.set _ hc hm).2
    rw [e] at this; exact this
theorem read2_pc (k : Int) (hok : ∀ (i : Nat) m, n = i → ms[i]? = some m → m.ok) (hQ : ∀ H' cs', WO H' w cs' (mRead ms n k).1 → Up H w cs H' cs' → Q (.tup [.str (mRead ms n k).2.1, .bool (mRead ms n k).2.2.1, .int .i64 (mRead ms n k).2.2.2]) H') :
    PC Try.prog E 18 [wpt w, .int .i64 n, .int .i64 k] H Q := by
  refine read_pc E H w cs ms Q n hw hl k hok (fun h => ?_) (fun i c m m' s b er hi hc hm hcm he hr => ?_)
  · have e : mRead ms n k = (ms, [], false, mLive ms n) := by unfold mRead; rw [if_neg h]
    have := hQ H cs (by rw [e]; exact hw) (Up.refl _ _ _)
    rw [e] at this; exact this
  · subst hi
    have e : mRead ms i k = (ms.set i m', s, b, er) := by unfold mRead; rw [if_pos he, Int.toNat_natCast, hm]; dsimp only; rw [hr]
    have := hQ _ _ (by rw [e]; exact (hw.set m' hc hm).1) (hw.set _ hc hm).2
    rw [e] at this; exact this
theorem write2_pc (s : List UInt8) (hsl : ∀ (i : Nat) m, n = i → ms[i]? = some m → m.tak.length + s.length ≤ 140737488355328) (hok : ∀ (i : Nat) m, n = i → ms[i]? = some m → m.ok) (hQ : ∀ H' cs', WO H' w cs' (mWrite ms n s).1 → Up H w cs H' cs' → Q (.tup [.int .i64 (mWrite ms n s).2.1, .int .i64 (mWrite ms n s).2.2]) H') :
    PC Try.prog E 19 [wpt w, .int .i64 n, .str s] H Q := by
  refine write_pc E H w cs ms Q n hw hl s hsl hok (fun h => ?_) (fun i c m m' r er hi hc hm hcm he hr => ?_)
  · have e : mWrite ms n s = (ms, 0, mLive ms n) := by unfold mWrite; rw [if_neg h]
    have := hQ H cs (by rw [e]; exact hw) (Up.refl _ _ _)
    rw [e] at this; exact this
  · subst hi
    have e : mWrite ms i s = (ms.set i m', r, er) := by unfold mWrite; rw [if_pos he, Int.toNat_natCast, hm]; dsimp only; rw [hr]
    have := hQ _ _ (by rw [e]; exact (hw.set m' hc hm).1) (hw.set _ hc hm).2
    rw [e] at this; exact this
end
end Go.Proofs.Ytgnjdfnjohgnlaa
