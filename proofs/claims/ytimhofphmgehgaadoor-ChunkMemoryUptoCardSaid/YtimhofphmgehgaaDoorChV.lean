/- What a decoder has taken of a text, line by line: plain laws. -/
import Derived.Test.YtimhofphmgehgaaDoorChU
set_option linter.unusedVariables false
set_option linter.unnecessarySimpa false
set_option linter.unusedSimpArgs false
set_option linter.unusedSectionVars false
set_option maxRecDepth 100000
namespace Go.Proofs.YtimhofphmgehgaaDoor
open Go Go.RowKit Go.Proofs

section
variable (m r f : Int)
def szD (B : List UInt8) (a : Nat) : Dec := ⟨m, r, f, .size, [], 0, B, [], 0, a, false, 0⟩
def daD (B : List UInt8) (n : Int) (a : Nat) : Dec := ⟨m, r, f, .data, [], n, B, [], 0, a, false, 0⟩
def phD (i : Nat) (B : List UInt8) (a : Nat) : Dec := ⟨m, r, f, if i = 0 then .first else if i = 1 then .second else .size, [], 0, B, [], 0, a, false, 0⟩
def trD (B : List UInt8) (T : List Fld) (sec : Nat) (a : Nat) : Dec := ⟨m, r, f, .trailer, [], 0, B, T, sec, a, false, 0⟩
/-- The decoder is at a place of the text. -/
def Fw (s : List UInt8) (d : Dec) (a : Nat) : Prop := feedD (newD m r f) s = ((feedD d (s.drop a)).1, (feedD d (s.drop a)).2 + a)
/-- What came of the text. -/
def Ends (s : List UInt8) (t : Nat) (e : Int) (dn : Bool) (B : List UInt8) (T : List Fld) : Prop :=
  (feedD (newD m r f) s).2 = t ∧ (feedD (newD m r f) s).1.err = e ∧ (feedD (newD m r f) s).1.done = dn ∧ (feedD (newD m r f) s).1.body = B ∧ (feedD (newD m r f) s).1.trailers = T
variable {m r f} {s : List UInt8} {d d1 : Dec} {a n : Nat} {b : UInt8} {B : List UInt8} {T : List Fld} {sec : Nat}
theorem fw_new : Fw m r f s (szD m r f [] 0) 0 := rfl
theorem Fw.step (h : Fw m r f s d a) (h1 : feedD d ((s.drop a).take n) = (d1, ((s.drop a).take n).length)) (hg : goD d1) (hb : s[a + n]? = some b) :
    (goD (feed1 d1 b) → Fw m r f s (feed1 d1 b) (a + n + 1)) ∧ ((feed1 d1 b).done = true ∨ (feed1 d1 b).err ≠ 0 → feedD (newD m r f) s = (feed1 d1 b, a + n + 1)) := by
  have hlt := (List.getElem?_eq_some_iff.1 hb).1
  have hlen : ((s.drop a).take n).length = n := by rw [List.length_take, List.length_drop]; omega
  have hs : s.drop a = (s.drop a).take n ++ b :: s.drop (a + n + 1) := by
    have h2 : (s.drop a).drop n = b :: s.drop (a + n + 1) := by
      rw [List.drop_drop, List.drop_eq_getElem_cons hlt]
      rw [(List.getElem?_eq_some_iff.1 hb).2]
    conv => lhs; rw [← List.take_append_drop n (s.drop a), h2]
  have hc := feedD_cat _ d d1 (b :: s.drop (a + n + 1)) h1 hg
  rw [← hs, hlen] at hc
  constructor
  · intro hg2
    unfold Fw at h ⊢
    rw [h, hc, feedD_go _ hg2]
    simp; omega
  · intro hst
    unfold Fw at h
    rw [h, hc, feedD_stop _ hst]
    simp; omega
theorem Fw.all (h : Fw m r f s d a) (ha : a ≤ s.length) (h1 : feedD d (s.drop a) = (d1, (s.drop a).length)) : Ends m r f s s.length d1.err d1.done d1.body d1.trailers := by
  unfold Fw at h
  rw [h1] at h
  unfold Ends
  rw [h]
  rw [List.length_drop]
  exact ⟨by simp only; omega, rfl, rfl, rfl, rfl⟩
theorem ends_of {t : Nat} (h : feedD (newD m r f) s = (d1, t)) : Ends m r f s t d1.err d1.done d1.body d1.trailers := by
  unfold Ends; rw [h]; exact ⟨rfl, rfl, rfl, rfl, rfl⟩
theorem not10_take {k : Nat} (h : k ≤ run not10 (s.drop a)) : ∀ c ∈ (s.drop a).take k, c ≠ 10 := by
  intro c hc
  have := List.all_eq_true.1 (run_take h) c hc
  simpa [not10] using this
theorem at10 (hj : a + n < s.length) (hn : run not10 (s.drop a) = n) : s[a + n]? = some 10 := by
  obtain ⟨c, h1, h2⟩ := run_stop (p := not10) (l := s.drop a) (by rw [List.length_drop]; omega)
  rw [hn, List.getElem?_drop] at h1
  simp [not10] at h2
  rw [h1, h2]
theorem feed1_over (d : Dec) (b : UInt8) (hs : d.st = .size) (hb : b ≠ 10) (hl : d.line.length = 255) : feed1 d b = { d with line := d.line ++ [b], total := d.total + 1, err := 100 } := by
  unfold feed1 stepD
  simp only [hs, sizeD, hb, if_pos, ne_eq, not_false_eq_true]
  rw [if_pos (by simp; omega)]
theorem sz_over (h : Fw m r f s (szD m r f B a) a) (hl : a + 255 < s.length) (hn : 256 ≤ run not10 (s.drop a)) : Ends m r f s (a + 256) 100 false B [] := by
  obtain ⟨b, hb⟩ : ∃ b, s[a + 255]? = some b := ⟨_, List.getElem?_eq_getElem hl⟩
  have hlen : ((s.drop a).take 255).length = 255 := by rw [List.length_take, List.length_drop]; omega
  have hr := run_size ((s.drop a).take 255) (szD m r f B a) rfl ⟨rfl, rfl⟩ (not10_take (by omega)) (by simp only [szD, hlen]; decide)
  have hbn : b ≠ 10 := by
    have := run_at (p := not10) (l := s.drop a) (k := 255) (by omega) (by rw [List.getElem?_drop]; exact hb)
    simpa [not10] using this
  have h1 := feed1_over { szD m r f B a with line := (szD m r f B a).line ++ (s.drop a).take 255, total := (szD m r f B a).total + ((s.drop a).take 255).length } b rfl hbn (by simp only [szD, List.nil_append]; exact hlen)
  have hst := h.step hr ⟨rfl, rfl⟩ hb
  rw [h1] at hst
  exact ends_of (hst.2 (.inr (by show (100 : Int) ≠ 0; decide)))
theorem sz_open (h : Fw m r f s (szD m r f B a) a) (ha : a ≤ s.length) (hl : s.length - a ≤ 255) (hn : s.length - a ≤ run not10 (s.drop a)) : Ends m r f s s.length 0 false B [] := by
  have hr := run_size (s.drop a) (szD m r f B a) rfl ⟨rfl, rfl⟩ (by
    have := not10_take (s := s) (a := a) (k := s.length - a) hn
    rwa [List.take_of_length_le (by rw [List.length_drop]; omega)] at this) (by rw [List.length_drop]; simp only [szD, List.length_nil]; omega)
  exact h.all ha hr
section
variable (h : Fw m r f s (szD m r f B a) a) (hj : a + n < s.length) (hn : run not10 (s.drop a) = n) (h256 : n < 256)
include h hj hn h256
theorem sz_run : (goD (feed1 { szD m r f B a with line := (s.drop a).take n, total := a + n } 10) → Fw m r f s (feed1 { szD m r f B a with line := (s.drop a).take n, total := a + n } 10) (a + n + 1)) ∧
    ((feed1 { szD m r f B a with line := (s.drop a).take n, total := a + n } 10).done = true ∨ (feed1 { szD m r f B a with line := (s.drop a).take n, total := a + n } 10).err ≠ 0 → feedD (newD m r f) s = (feed1 { szD m r f B a with line := (s.drop a).take n, total := a + n } 10, a + n + 1)) := by
  have hlen : ((s.drop a).take n).length = n := by rw [List.length_take, List.length_drop]; omega
  have hr := run_size ((s.drop a).take n) (szD m r f B a) rfl ⟨rfl, rfl⟩ (not10_take (by omega)) (by rw [hlen]; simp only [szD, List.length_nil]; omega)
  have he : ({ szD m r f B a with line := (szD m r f B a).line ++ (s.drop a).take n, total := (szD m r f B a).total + ((s.drop a).take n).length } : Dec) = { szD m r f B a with line := (s.drop a).take n, total := a + n } := by
    rw [hlen]; rfl
  rw [he] at hr
  exact h.step hr ⟨rfl, rfl⟩ (at10 hj hn)
theorem sz_none (hx : endL ((s.drop a).take n ++ [10]) = none) : Ends m r f s (a + n + 1) 100 false B [] := by
  have h1 : feed1 { szD m r f B a with line := (s.drop a).take n, total := a + n } 10 = { szD m r f B a with line := [], total := a + n + 1, err := 100 } := by
    rw [feed1_size _ rfl]
    simp only [szD]
    rw [hx]
    rfl
  have := sz_run h hj hn h256
  rw [h1] at this
  exact ends_of (this.2 (.inr (by simp)))
variable {l : List UInt8} (hx : endL ((s.drop a).take n ++ [10]) = some l)
include hx
theorem sz_bad (he : (sizeAns l).2.2 ≠ 0) : Ends m r f s (a + n + 1) (sizeAns l).2.2 false B [] := by
  have h1 : feed1 { szD m r f B a with line := (s.drop a).take n, total := a + n } 10 = { szD m r f B a with line := [], total := a + n + 1, err := (sizeAns l).2.2 } := by
    rw [feed1_size _ rfl]
    simp only [szD]
    rw [hx]
    simp only [sizeE]
    rw [if_pos he]
  have := sz_run h hj hn h256
  rw [h1] at this
  exact ends_of (this.2 (.inr he))
variable (he : (sizeAns l).2.2 = 0)
include he
theorem sz_much (hm : m - B.length < (sizeAns l).1) : Ends m r f s (a + n + 1) 102 false B [] := by
  have h1 : feed1 { szD m r f B a with line := (s.drop a).take n, total := a + n } 10 = { szD m r f B a with line := [], total := a + n + 1, err := 102 } := by
    rw [feed1_size _ rfl]
    simp only [szD]
    rw [hx]
    simp only [sizeE]
    rw [if_neg (by simpa using he), if_pos hm]
  have := sz_run h hj hn h256
  rw [h1] at this
  exact ends_of (this.2 (.inr (by simp)))
theorem sz_trail (hm : ¬ m - B.length < (sizeAns l).1) (h0 : (sizeAns l).1 = 0) : Fw m r f s (trD m r f B [] 0 (a + n + 1)) (a + n + 1) := by
  have h1 : feed1 { szD m r f B a with line := (s.drop a).take n, total := a + n } 10 = trD m r f B [] 0 (a + n + 1) := by
    rw [feed1_size _ rfl]
    simp only [szD]
    rw [hx]
    simp only [sizeE]
    rw [if_neg (by simpa using he), if_neg hm, if_pos h0]
    rfl
  have := sz_run h hj hn h256
  rw [h1] at this
  exact this.1 ⟨rfl, rfl⟩
theorem sz_data (hm : ¬ m - B.length < (sizeAns l).1) (h0 : (sizeAns l).1 ≠ 0) : Fw m r f s (daD m r f B (sizeAns l).1 (a + n + 1)) (a + n + 1) := by
  have h1 : feed1 { szD m r f B a with line := (s.drop a).take n, total := a + n } 10 = daD m r f B (sizeAns l).1 (a + n + 1) := by
    rw [feed1_size _ rfl]
    simp only [szD]
    rw [hx]
    simp only [sizeE]
    rw [if_neg (by simpa using he), if_neg hm, if_neg h0]
    rfl
  have := sz_run h hj hn h256
  rw [h1] at this
  exact this.1 ⟨rfl, rfl⟩
end
theorem da_open {k : Int} (h : Fw m r f s (daD m r f B k a) a) (ha : a ≤ s.length) (hk : ((s.length - a : Nat) : Int) < k) : Ends m r f s s.length 0 false (B ++ s.drop a) [] :=
  h.all ha (run_data (s.drop a) (daD m r f B k a) rfl ⟨rfl, rfl⟩ (by rw [List.length_drop]; exact hk))
theorem da_full {k : Nat} (h : Fw m r f s (daD m r f B (k : Int) a) a) (hk : 0 < k) (hl : a + k ≤ s.length) : Fw m r f s (phD m r f 0 (B ++ (s.drop a).take k) (a + k)) (a + k) := by
  have hlen : ((s.drop a).take k).length = k := by rw [List.length_take, List.length_drop]; omega
  have h1 := full_data ((s.drop a).take k) (daD m r f B (k : Int) a) rfl ⟨rfl, rfl⟩ (by intro e; rw [e] at hlen; simp at hlen; omega) (by rw [hlen]; rfl)
  have h2 := feedD_cat _ _ _ (s.drop (a + k)) h1 ⟨rfl, rfl⟩
  rw [show (s.drop a).take k ++ s.drop (a + k) = s.drop a by rw [← List.drop_drop, List.take_append_drop], hlen] at h2
  unfold Fw at h ⊢
  rw [h, h2]
  simp only [daD, phD, if_pos]
  refine Prod.ext rfl ?_
  show _ + k + a = _ + (a + k)
  omega
theorem ph_open {i : Nat} (h : Fw m r f s (phD m r f i B a) a) (ha : a = s.length) : Ends m r f s s.length 0 false B [] := by
  refine h.all (by omega) (d1 := phD m r f i B a) ?_
  rw [List.drop_of_length_le (by omega)]; rfl
theorem Fw.one (h : Fw m r f s d a) (hg : goD d) (hb : s[a]? = some b) : (goD (feed1 d b) → Fw m r f s (feed1 d b) (a + 1)) ∧ ((feed1 d b).done = true ∨ (feed1 d b).err ≠ 0 → feedD (newD m r f) s = (feed1 d b, a + 1)) :=
  h.step (n := 0) (by simp [feedD]) hg hb
theorem ph_bad {i : Nat} (hi : i < 2) (h : Fw m r f s (phD m r f i B a) a) (hb : s[a]? = some b) (hne : b ≠ if i = 0 then 13 else 10) : Ends m r f s (a + 1) 100 false B [] := by
  have h1 : feed1 (phD m r f i B a) b = { phD m r f i B a with total := a + 1, err := 100 } := by
    rcases (by omega : i = 0 ∨ i = 1) with rfl | rfl
    · simp at hne; simp [feed1, stepD, phD, firstD, hne]
    · simp at hne; simp [feed1, stepD, phD, secondD, hne]
  have := h.one ⟨rfl, rfl⟩ hb
  rw [h1] at this
  exact ends_of (this.2 (.inr (by simp)))
theorem ph_go {i : Nat} (hi : i < 2) (h : Fw m r f s (phD m r f i B a) a) (hb : s[a]? = some (if i = 0 then 13 else 10)) : Fw m r f s (phD m r f (i + 1) B (a + 1)) (a + 1) := by
  have h1 : feed1 (phD m r f i B a) (if i = 0 then 13 else 10) = phD m r f (i + 1) B (a + 1) := by
    rcases (by omega : i = 0 ∨ i = 1) with rfl | rfl
    · simp [feed1, stepD, phD, firstD]
    · simp [feed1, stepD, phD, secondD]
  have := h.one ⟨rfl, rfl⟩ hb
  rw [h1] at this
  exact this.1 ⟨rfl, rfl⟩
theorem ph_two : phD m r f 2 B a = szD m r f B a := rfl
theorem trailE_many (d : Dec) (l : List UInt8) (hl : l ≠ []) (hf : d.fields ≤ d.trailers.length) : trailE d (some l) = ({ d with section_ := d.section_ + 1, line := [] }, 104) := by
  simp only [trailE]; rw [if_neg hl, if_pos hf]
theorem trailE_bad (d : Dec) (l : List UInt8) (hl : l ≠ []) (hf : ¬ d.fields ≤ d.trailers.length) (hb : lineF l = none ∨ ∃ g, lineF l = some g ∧ mayB g.name = false) : trailE d (some l) = ({ d with section_ := d.section_ + 1, line := [] }, 101) := by
  simp only [trailE]
  rw [if_neg hl, if_neg hf]
  rcases hb with hb | ⟨g, hb, hg⟩
  · rw [hb]
  · rw [hb]; simp [hg]
theorem trailE_go (d : Dec) (l : List UInt8) (hl : l ≠ []) (hf : ¬ d.fields ≤ d.trailers.length) {g : Fld} (hb : lineF l = some g) (hg : mayB g.name = true) : trailE d (some l) = ({ d with section_ := d.section_ + 1, line := [], trailers := d.trailers ++ [g] }, 0) := by
  simp only [trailE]
  rw [if_neg hl, if_neg hf, hb]
  simp [hg]
theorem tr_over {k : Nat} (h : Fw m r f s (trD m r f B T sec a) a) (hk : r = (sec + k : Nat)) (hl : a + k < s.length) (hn : k ≤ run not10 (s.drop a)) : Ends m r f s (a + k + 1) 104 false B T := by
  obtain ⟨b, hb⟩ : ∃ b, s[a + k]? = some b := ⟨_, List.getElem?_eq_getElem hl⟩
  have hlen : ((s.drop a).take k).length = k := by rw [List.length_take, List.length_drop]; omega
  have hr := run_trail ((s.drop a).take k) (trD m r f B T sec a) rfl ⟨rfl, rfl⟩ (not10_take (by omega)) (by rw [hlen]; simp only [trD]; omega)
  have h1 : feed1 { trD m r f B T sec a with line := (trD m r f B T sec a).line ++ (s.drop a).take k, section_ := (trD m r f B T sec a).section_ + ((s.drop a).take k).length, total := (trD m r f B T sec a).total + ((s.drop a).take k).length } b = { trD m r f B T sec a with line := (s.drop a).take k, section_ := sec + k, total := a + k + 1, err := 104 } := by
    unfold feed1 stepD
    simp only [trD, trailerD, hlen]
    rw [if_pos (by omega)]
    rfl
  have hst := h.step hr ⟨rfl, rfl⟩ hb
  rw [h1] at hst
  exact ends_of (hst.2 (.inr (by simp)))
theorem tr_open (h : Fw m r f s (trD m r f B T sec a) a) (ha : a ≤ s.length) (hl : ((sec + (s.length - a) : Nat) : Int) ≤ r) (hn : s.length - a ≤ run not10 (s.drop a)) : Ends m r f s s.length 0 false B T := by
  have hr := run_trail (s.drop a) (trD m r f B T sec a) rfl ⟨rfl, rfl⟩ (by
    have := not10_take (s := s) (a := a) (k := s.length - a) hn
    rwa [List.take_of_length_le (by rw [List.length_drop]; omega)] at this) (by rw [List.length_drop]; simp only [trD]; omega)
  exact h.all ha hr
section
variable (h : Fw m r f s (trD m r f B T sec a) a) (hj : a + n < s.length) (hn : run not10 (s.drop a) = n) (hr : ((sec + n : Nat) : Int) < r)
include h hj hn hr
theorem tr_run : (goD (feed1 { trD m r f B T sec a with line := (s.drop a).take n, section_ := sec + n, total := a + n } 10) → Fw m r f s (feed1 { trD m r f B T sec a with line := (s.drop a).take n, section_ := sec + n, total := a + n } 10) (a + n + 1)) ∧
    ((feed1 { trD m r f B T sec a with line := (s.drop a).take n, section_ := sec + n, total := a + n } 10).done = true ∨ (feed1 { trD m r f B T sec a with line := (s.drop a).take n, section_ := sec + n, total := a + n } 10).err ≠ 0 → feedD (newD m r f) s = (feed1 { trD m r f B T sec a with line := (s.drop a).take n, section_ := sec + n, total := a + n } 10, a + n + 1)) := by
  have hlen : ((s.drop a).take n).length = n := by rw [List.length_take, List.length_drop]; omega
  have hr := run_trail ((s.drop a).take n) (trD m r f B T sec a) rfl ⟨rfl, rfl⟩ (not10_take (by omega)) (by rw [hlen]; simp only [trD]; omega)
  have he : ({ trD m r f B T sec a with line := (trD m r f B T sec a).line ++ (s.drop a).take n, section_ := (trD m r f B T sec a).section_ + ((s.drop a).take n).length, total := (trD m r f B T sec a).total + ((s.drop a).take n).length } : Dec) = { trD m r f B T sec a with line := (s.drop a).take n, section_ := sec + n, total := a + n } := by
    rw [hlen]; rfl
  rw [he] at hr
  exact h.step hr ⟨rfl, rfl⟩ (at10 hj hn)
theorem tr_ends {e : Int} {dn : Bool} {T' : List Fld} (hx : (trailE { trD m r f B T sec a with line := (s.drop a).take n, section_ := sec + n, total := a + n + 1 } (endL ((s.drop a).take n ++ [10]))).2 = e) (hd : (trailE { trD m r f B T sec a with line := (s.drop a).take n, section_ := sec + n, total := a + n + 1 } (endL ((s.drop a).take n ++ [10]))).1.done = dn)
    (hb : (trailE { trD m r f B T sec a with line := (s.drop a).take n, section_ := sec + n, total := a + n + 1 } (endL ((s.drop a).take n ++ [10]))).1.body = B) (ht : (trailE { trD m r f B T sec a with line := (s.drop a).take n, section_ := sec + n, total := a + n + 1 } (endL ((s.drop a).take n ++ [10]))).1.trailers = T') (hst : dn = true ∨ e ≠ 0) : Ends m r f s (a + n + 1) e dn B T' := by
  have h1 := feed1_trail { trD m r f B T sec a with line := (s.drop a).take n, section_ := sec + n, total := a + n } rfl hr
  have h2 := (tr_run h hj hn hr).2 (by rw [h1]; simp only; rw [hx, hd]; exact hst)
  rw [h1] at h2
  have := ends_of h2
  simp only at this
  rw [hx, hd, hb, ht] at this
  exact this
theorem tr_none (hx : endL ((s.drop a).take n ++ [10]) = none) : Ends m r f s (a + n + 1) 101 false B T := by
  refine tr_ends h hj hn hr ?_ ?_ ?_ ?_ (.inr (by simp)) <;> rw [hx] <;> rfl
theorem tr_done (hx : endL ((s.drop a).take n ++ [10]) = some []) : Ends m r f s (a + n + 1) 0 true B T := by
  refine tr_ends h hj hn hr ?_ ?_ ?_ ?_ (.inl rfl) <;> rw [hx] <;> rfl
variable {l : List UInt8} (hx : endL ((s.drop a).take n ++ [10]) = some l) (hl : l ≠ [])
include hx hl
theorem tr_many (hf : f ≤ T.length) : Ends m r f s (a + n + 1) 104 false B T := by
  refine tr_ends h hj hn hr ?_ ?_ ?_ ?_ (.inr (by simp)) <;> rw [hx, trailE_many _ l hl hf] <;> rfl
variable (hf : ¬ f ≤ T.length)
include hf
theorem tr_bad (hb : lineF l = none ∨ ∃ g, lineF l = some g ∧ mayB g.name = false) : Ends m r f s (a + n + 1) 101 false B T := by
  refine tr_ends h hj hn hr ?_ ?_ ?_ ?_ (.inr (by simp)) <;> rw [hx, trailE_bad _ l hl hf hb] <;> rfl
theorem tr_go {g : Fld} (hb : lineF l = some g) (hg : mayB g.name = true) : Fw m r f s (trD m r f B (T ++ [g]) (sec + n + 1) (a + n + 1)) (a + n + 1) := by
  have h1 := feed1_trail { trD m r f B T sec a with line := (s.drop a).take n, section_ := sec + n, total := a + n } rfl hr
  have h3 : feed1 { trD m r f B T sec a with line := (s.drop a).take n, section_ := sec + n, total := a + n } 10 = trD m r f B (T ++ [g]) (sec + n + 1) (a + n + 1) := by
    rw [h1]
    have := trailE_go { trD m r f B T sec a with line := (s.drop a).take n, section_ := sec + n, total := a + n + 1 } l hl hf hb hg
    rw [← hx] at this
    have e : ∀ (p : Dec × Int) (q : Dec × Int), p = q → ({ p.1 with err := p.2 } : Dec) = { q.1 with err := q.2 } := fun p q h => h ▸ rfl
    exact e _ _ this
  have := (tr_run h hj hn hr).1
  rw [h3] at this
  exact this ⟨rfl, rfl⟩
end
end
end Go.Proofs.YtimhofphmgehgaaDoor
