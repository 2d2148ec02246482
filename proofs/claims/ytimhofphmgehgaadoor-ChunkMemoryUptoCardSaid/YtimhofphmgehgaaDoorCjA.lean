/- The chunk layer: what is encoded is decoded: the plain law. -/
import Derived.Test.YtimhofphmgehgaaDoorCiC
set_option linter.unusedVariables false
set_option linter.unnecessarySimpa false
set_option linter.unusedSimpArgs false
set_option linter.unusedSectionVars false
set_option maxRecDepth 100000
namespace Go.Proofs.YtimhofphmgehgaaDoor
open Go Go.RowKit Go.Proofs

/-- The digit that says n, and the digits. -/
def hx (n : Nat) : UInt8 := if n < 10 then UInt8.ofNat (48 + n) else UInt8.ofNat (87 + n)
def hexD (n : Nat) : List UInt8 := if h : n < 16 then [hx n] else hexD (n / 16) ++ [hx (n % 16)]
termination_by n
decreasing_by omega
theorem hexD_small {n : Nat} (h : n < 16) : hexD n = [hx n] := by rw [hexD, dif_pos h]
theorem hexD_big {n : Nat} (h : ¬ n < 16) : hexD n = hexD (n / 16) ++ [hx (n % 16)] := by rw [hexD, dif_neg h]
theorem hx_all : ∀ n, n < 16 → isHex (hx n) = true ∧ dig (hx n) = n ∧ hx n ≠ 10 := by decide
theorem hexD_hex : ∀ (n : Nat), ∀ b ∈ hexD n, isHex b = true ∧ b ≠ 10 := by
  intro n
  induction n using Nat.strongRecOn with
  | _ n ih =>
    intro b hb
    by_cases h : n < 16
    · rw [hexD_small h] at hb
      simp at hb; subst hb
      exact ⟨(hx_all n h).1, (hx_all n h).2.2⟩
    · rw [hexD_big h] at hb
      rcases List.mem_append.1 hb with hb | hb
      · exact ih _ (by omega) b hb
      · simp at hb; subst hb
        exact ⟨(hx_all _ (Nat.mod_lt _ (by omega))).1, (hx_all _ (Nat.mod_lt _ (by omega))).2.2⟩
theorem hexD_pos (n : Nat) : 1 ≤ (hexD n).length := by
  by_cases h : n < 16
  · rw [hexD_small h]; simp
  · rw [hexD_big h]; simp
theorem hexD_len : ∀ (k n : Nat), n < 16 ^ (k + 1) → (hexD n).length ≤ k + 1
  | 0, n, h => by rw [hexD_small (by simpa using h)]; simp
  | k + 1, n, h => by
    by_cases h1 : n < 16
    · rw [hexD_small h1]; simp
    · rw [hexD_big h1, List.length_append]
      have := hexD_len k (n / 16) (by rw [Nat.pow_succ] at h; omega)
      simp; omega
theorem hexD_len11 (n : Nat) (h : n ≤ 1099511627776) : (hexD n).length ≤ 11 := hexD_len 10 n (by simp; omega)
theorem hexD_num : ∀ (n : Nat), numOf 16 (hexD n) = n := by
  intro n
  induction n using Nat.strongRecOn with
  | _ n ih =>
    by_cases h : n < 16
    · rw [hexD_small h]
      simp [numOf, (hx_all n h).2.1]
    · rw [hexD_big h]
      have h1 := ih (n / 16) (by omega)
      unfold numOf at h1 ⊢
      rw [List.foldl_append, h1]
      simp [(hx_all _ (Nat.mod_lt n (by omega : 0 < 16))).2.1]
      omega
theorem run_all (p : UInt8 → Bool) : ∀ (l : List UInt8), (∀ b ∈ l, p b = true) → run p l = l.length
  | [], _ => rfl
  | a :: l, h => by
    have := run_all p l (fun b hb => h b (by simp [hb]))
    unfold run at this ⊢
    rw [List.takeWhile_cons, if_pos (h a (by simp))]
    simp [this]
theorem sizeAns_hexD (n : Nat) (h : n ≤ 1099511627776) : sizeAns (hexD n) = ((n : Int), [], 0) := by
  have hr : run isHex (hexD n) = (hexD n).length := run_all _ _ (fun b hb => (hexD_hex n b hb).1)
  have hl := hexD_len11 n h
  have hp := hexD_pos n
  have hd : (hexD n).drop (hexD n).length = [] := List.drop_of_length_le (Nat.le_refl _)
  have hpar : parAns [] = ([], 0, 0) := by unfold parAns; rw [pars_end signB [] (by simp)]; rfl
  have hnum : numAns 16 1099511627776 (hexD n) = ((n : Int), 0) := by
    unfold numAns
    have hne : hexD n ≠ [] := fun e => by rw [e] at hp; simp at hp
    have hok : okDigs 16 (hexD n) = true := by
      unfold okDigs
      rw [List.all_eq_true]
      intro b hb
      have := (hexD_hex n b hb).1
      rw [isHex_dig] at this
      exact this
    rw [if_neg hne, if_neg (by rw [hok]; simp), hexD_num, if_neg (by omega)]
  unfold sizeAns
  rw [hr, if_neg (by omega), hd, hpar]
  rw [if_neg]
  · rw [List.take_of_length_le (Nat.le_refl _), hnum]
    simp
  · simp [hd]
    rfl
/-- A chunk. -/
def chunkT (p : List UInt8) : List UInt8 := hexD p.length ++ [13, 10] ++ p ++ [13, 10]
theorem endL_crlf (l : List UInt8) : endL (l ++ [13] ++ [10]) = some l := by
  unfold endL
  have e : (l ++ [13] ++ [10]).length - 2 = l.length := by simp
  rw [e, if_pos]
  · simp
  · refine ⟨by simp, ?_⟩
    rw [List.append_assoc, List.drop_append_of_le_length (Nat.le_refl _), List.drop_of_length_le (Nat.le_refl _)]
    rfl
theorem feedD_cat2 {a s : List UInt8} {d e g : Dec} (h : feedD d a = (e, a.length)) (hg : goD e) (h2 : feedD e s = (g, s.length)) : feedD d (a ++ s) = (g, (a ++ s).length) := by
  rw [feedD_cat a d e s h hg, h2]
  simp [Nat.add_comm]
theorem feedD_one {d e : Dec} {b : UInt8} (h : feed1 d b = e) : feedD d [b] = (e, 1) := by
  subst h
  unfold feedD
  split
  · rfl
  · simp [feedD]
/-- A size line. -/
theorem run_line (n : Nat) (d : Dec) (hs : d.st = .size) (hg : goD d) (hl : d.line = []) (hn : n ≤ 1099511627776) : feedD d (hexD n ++ [13]) = ({ d with line := hexD n ++ [13], total := d.total + (hexD n).length + 1 }, (hexD n ++ [13]).length) := by
  have h11 := hexD_len11 n hn
  rw [run_size (hexD n ++ [13]) d hs hg (fun b hb => by
    rcases List.mem_append.1 hb with hb | hb
    · exact (hexD_hex n b hb).2
    · simp at hb; subst hb; decide) (by rw [hl]; simp; omega)]
  rw [hl]
  simp [Nat.add_assoc]
theorem sizeLF (n : Nat) (d : Dec) (hs : d.st = .size) (hl : d.line = hexD n ++ [13]) (hn : n ≤ 1099511627776) : feed1 d 10 =
    if d.most - d.body.length < n then { d with line := [], total := d.total + 1, err := 102 }
    else if n = 0 then { d with line := [], st := .trailer, total := d.total + 1, err := 0 }
    else { d with line := [], left := n, st := .data, total := d.total + 1, err := 0 } := by
  have e : sizeD { d with total := d.total + 1 } 10 = if d.most - d.body.length < (n : Int) then ({ d with line := [], total := d.total + 1 }, 102) else if (n : Int) = 0 then ({ d with line := [], st := .trailer, total := d.total + 1 }, 0) else ({ d with line := [], left := n, st := .data, total := d.total + 1 }, 0) := by
    unfold sizeD
    rw [if_neg (by simp)]
    have he : endL (({ d with total := d.total + 1 } : Dec).line ++ [10]) = some (hexD n) := by show endL (d.line ++ [10]) = _; rw [hl, endL_crlf]
    rw [he]
    simp only [sizeAns_hexD n hn]
    rw [if_neg (by simp)]
  have e2 : stepD { d with total := d.total + 1 } 10 = sizeD { d with total := d.total + 1 } 10 := by unfold stepD; rw [show ({ d with total := d.total + 1 } : Dec).st = .size from hs]
  unfold feed1
  rw [e2, e]
  by_cases h1 : d.most - d.body.length < (n : Int)
  · rw [if_pos h1, if_pos h1]
  · rw [if_neg h1, if_neg h1]
    by_cases h2 : n = 0
    · rw [if_pos (by omega), if_pos h2]
    · rw [if_neg (by omega), if_neg h2]
theorem run_chunk (p : List UInt8) (d : Dec) (hs : d.st = .size) (hg : goD d) (hl : d.line = []) (h0 : p ≠ []) (hm : (p.length : Int) ≤ d.most - d.body.length) (hn : p.length ≤ 1099511627776) :
    feedD d (chunkT p) = ({ d with body := d.body ++ p, left := 0, total := d.total + (chunkT p).length }, (chunkT p).length) := by
  have hp0 : p.length ≠ 0 := fun e => h0 (List.length_eq_zero_iff.1 e)
  have e1 := run_line p.length d hs hg hl hn
  have e2 := sizeLF p.length { d with line := hexD p.length ++ [13], total := d.total + (hexD p.length).length + 1 } hs rfl hn
  rw [if_neg (by simp; omega), if_neg hp0] at e2
  have e3 := full_data p { d with line := [], left := p.length, st := .data, total := d.total + (hexD p.length).length + 1 + 1, err := 0 } rfl ⟨hg.1, rfl⟩ h0 rfl
  have e4 : feed1 { d with line := [], body := d.body ++ p, left := 0, st := .first, total := d.total + (hexD p.length).length + 1 + 1 + p.length, err := 0 } 13 = { d with line := [], body := d.body ++ p, left := 0, st := .second, total := d.total + (hexD p.length).length + 1 + 1 + p.length + 1, err := 0 } := by
    unfold feed1 stepD
    simp [firstD]
  have e5 : feed1 { d with line := [], body := d.body ++ p, left := 0, st := .second, total := d.total + (hexD p.length).length + 1 + 1 + p.length + 1, err := 0 } 10 = { d with line := [], body := d.body ++ p, left := 0, st := .size, total := d.total + (hexD p.length).length + 1 + 1 + p.length + 1 + 1, err := 0 } := by
    unfold feed1 stepD
    simp [secondD]
  have key := feedD_cat2 e1 hg (feedD_cat2 (feedD_one e2) ⟨hg.1, rfl⟩ (feedD_cat2 e3 ⟨hg.1, rfl⟩ (feedD_cat2 (feedD_one e4) ⟨hg.1, rfl⟩ (feedD_one e5))))
  have ht : chunkT p = (hexD p.length ++ [13]) ++ ([10] ++ (p ++ ([13] ++ [10]))) := by simp [chunkT]
  rw [← ht] at key
  rw [key]
  refine Prod.ext ?_ rfl
  have hlen : (chunkT p).length = (hexD p.length).length + 1 + 1 + p.length + 1 + 1 := by rw [ht]; simp; omega
  rw [hlen]
  cases d
  simp only at hs hl
  have := hg.2
  simp only at this
  subst hs; subst hl; subst this
  simp
  omega
/-- The chunks of pieces. -/
def chunksT (ps : List (List UInt8)) : List UInt8 := ps.flatMap chunkT
theorem run_chunks : ∀ (ps : List (List UInt8)) (d : Dec), d.st = .size → goD d → d.line = [] → (∀ p ∈ ps, p ≠ []) → (ps.flatten.length : Int) ≤ d.most - d.body.length → ps.flatten.length ≤ 1099511627776 →
    ∃ lf, feedD d (chunksT ps) = ({ d with body := d.body ++ ps.flatten, left := lf, total := d.total + (chunksT ps).length }, (chunksT ps).length)
  | [], d, _, _, _, _, _, _ => ⟨d.left, by simp [chunksT, feedD]⟩
  | p :: ps, d, hs, hg, hl, h0, hm, hn => by
    simp only [List.flatten_cons, List.length_append] at hm hn
    have e1 := run_chunk p d hs hg hl (h0 p (by simp)) (by omega) (by omega)
    obtain ⟨lf, e2⟩ := run_chunks ps { d with body := d.body ++ p, left := 0, total := d.total + (chunkT p).length } hs hg hl (fun q hq => h0 q (by simp [hq])) (by simp only [List.length_append]; omega) (by omega)
    have key := feedD_cat2 e1 hg e2
    have ht : chunksT (p :: ps) = chunkT p ++ chunksT ps := by simp [chunksT]
    refine ⟨lf, ?_⟩
    rw [ht, key]
    simp [Nat.add_assoc]
/-- A trailer's line, with its end. -/
def lineT (f : Fld) : List UInt8 := f.name ++ 58 :: (if f.value = [] then [] else 32 :: f.value)
def valueB (l : List UInt8) : Bool := decide (l.length ≤ 8192) && fldB l && decide (trimB l = l)
def rightB (f : Fld) : Bool := mayB f.name && valueB f.value
theorem fld_ne10 {l : List UInt8} (h : fldB l = true) : ∀ b ∈ l, b ≠ 10 := by
  intro b hb e
  subst e
  have := List.all_eq_true.1 h 10 hb
  exact absurd this (by decide)
theorem tok_sign {l : List UInt8} (h : tokB l = true) : ∀ b ∈ l, signB b = true := by
  unfold tokB at h
  simp at h
  exact h.1
theorem sign_ne : ∀ n, n < 256 → signB (UInt8.ofNat n) = true → ncol (UInt8.ofNat n) = true ∧ UInt8.ofNat n ≠ 10 := by decide
theorem sign_ne' {b : UInt8} (h : signB b = true) : ncol b = true ∧ b ≠ 10 := by
  have := sign_ne b.toNat b.toNat_lt
  rw [u8_ofNat] at this
  exact this h
theorem mayB_name {l : List UInt8} (h : mayB l = true) : nameB l = true := by
  unfold mayB at h
  simp at h
  exact h.1
theorem nameB_tok {l : List UInt8} (h : nameB l = true) : tokB l = true := by
  unfold nameB at h
  simp at h
  exact h.2
theorem run_stopC (p : UInt8 → Bool) : ∀ (l : List UInt8) (c : UInt8) (r : List UInt8), (∀ b ∈ l, p b = true) → p c = false → run p (l ++ c :: r) = l.length
  | [], c, r, _, hc => by unfold run; simp [hc]
  | a :: l, c, r, h, hc => by
    have := run_stopC p l c r (fun b hb => h b (by simp [hb])) hc
    unfold run at this ⊢
    rw [List.cons_append, List.takeWhile_cons, if_pos (h a (by simp))]
    simp [this]
theorem trim_sp (v : List UInt8) : trimB (32 :: v) = trimB v := by
  unfold trimB Lib.trimS Lib.trimRightS Lib.trimLeftS
  rw [List.reverse_cons, List.dropWhile_append]
  split
  · rename_i h
    rw [List.isEmpty_iff.1 h]
    decide
  · rw [List.reverse_append]
    show List.dropWhile _ (32 :: _) = _
    rw [List.dropWhile_cons, if_pos (by decide)]
    rfl
theorem lineF_lineT (f : Fld) (h : rightB f = true) : lineF (lineT f) = some f := by
  unfold rightB valueB at h
  simp at h
  obtain ⟨h1, ⟨h2, h3⟩, h4⟩ := h
  have hn := mayB_name h1
  have hr : run ncol (lineT f) = f.name.length := run_stopC ncol f.name 58 _ (fun b hb => (sign_ne' (tok_sign (nameB_tok hn) b hb)).1) (by decide)
  have ht : (lineT f).take f.name.length = f.name := by unfold lineT; rw [List.take_append_of_le_length (Nat.le_refl _), List.take_of_length_le (Nat.le_refl _)]
  have hd : (lineT f).drop (f.name.length + 1) = if f.value = [] then [] else 32 :: f.value := by
    unfold lineT
    rw [List.drop_append, List.drop_of_length_le (by omega)]
    simp
  have hlt : f.name.length < (lineT f).length := by unfold lineT; simp
  unfold lineF
  rw [hr, ht, hd]
  have htr : trimB (if f.value = [] then [] else 32 :: f.value) = f.value := by
    split
    · rename_i h5; rw [h5] at h4 ⊢; exact h4
    · rw [trim_sp]; exact h4
  have hfl : fldB (if f.value = [] then [] else 32 :: f.value) = true := by
    split
    · rfl
    · unfold fldB at h3 ⊢
      rw [List.all_cons, h3]; decide
  rw [htr, if_pos ⟨hlt, hn, hfl, h2⟩]
theorem lineT_ne10 (f : Fld) (h : rightB f = true) : ∀ b ∈ lineT f, b ≠ 10 := by
  unfold rightB valueB at h
  simp at h
  obtain ⟨h1, ⟨h2, h3⟩, h4⟩ := h
  intro b hb
  unfold lineT at hb
  rcases List.mem_append.1 hb with hb | hb
  · exact (sign_ne' (tok_sign (nameB_tok (mayB_name h1)) b hb)).2
  · rcases List.mem_cons.1 hb with rfl | hb
    · decide
    · split at hb
      · cases hb
      · rcases List.mem_cons.1 hb with rfl | hb
        · decide
        · exact fld_ne10 h3 b hb
theorem run_field (f : Fld) (d : Dec) (hs : d.st = .trailer) (hg : goD d) (hl : d.line = []) (hr : rightB f = true) (hroom : (d.section_ : Int) + (lineT f).length + 2 ≤ d.room) (hf : (d.trailers.length : Int) < d.fields) :
    feedD d (lineT f ++ [13, 10]) = ({ d with section_ := d.section_ + ((lineT f).length + 2), trailers := d.trailers ++ [f], total := d.total + ((lineT f).length + 2) }, (lineT f ++ [13, 10]).length) := by
  have e1 := run_trail (lineT f ++ [13]) d hs hg (fun b hb => by
    rcases List.mem_append.1 hb with hb | hb
    · exact lineT_ne10 f hr b hb
    · simp at hb; subst hb; decide) (by simp; omega)
  rw [hl] at e1
  have hne : lineT f ≠ [] := by unfold lineT; simp
  have hmay : mayB f.name = true := by unfold rightB at hr; simp at hr; exact hr.1
  have e2 : feed1 { d with line := [] ++ (lineT f ++ [13]), section_ := d.section_ + (lineT f ++ [13]).length, total := d.total + (lineT f ++ [13]).length } 10 = { d with line := [], section_ := d.section_ + (lineT f ++ [13]).length + 1, trailers := d.trailers ++ [f], total := d.total + (lineT f ++ [13]).length + 1, err := 0 } := by
    unfold feed1 stepD
    simp only [hs, trailerD]
    rw [if_neg (by simp; omega), if_neg (by simp), List.nil_append, endL_crlf]
    simp only
    rw [if_neg hne, if_neg (by omega), lineF_lineT f hr]
    simp only
    rw [if_pos hmay]
  have key := feedD_cat2 e1 hg (feedD_one e2)
  have ht : lineT f ++ [13, 10] = lineT f ++ [13] ++ [10] := by simp
  rw [ht, key]
  refine Prod.ext ?_ rfl
  cases d
  have := hg.2
  simp only at this hl
  subst hl; subst this
  simp
  omega
def linesT (ts : List Fld) : List UInt8 := ts.flatMap fun f => lineT f ++ [13, 10]
theorem run_fields : ∀ (ts : List Fld) (d : Dec), d.st = .trailer → goD d → d.line = [] → (∀ f ∈ ts, rightB f = true) → (d.section_ : Int) + (linesT ts).length ≤ d.room → (d.trailers.length : Int) + ts.length ≤ d.fields →
    feedD d (linesT ts) = ({ d with section_ := d.section_ + (linesT ts).length, trailers := d.trailers ++ ts, total := d.total + (linesT ts).length }, (linesT ts).length)
  | [], d, _, _, _, _, _, _ => by simp [linesT, feedD]
  | f :: ts, d, hs, hg, hl, hr, hroom, hf => by
    have ht : linesT (f :: ts) = (lineT f ++ [13, 10]) ++ linesT ts := by simp [linesT]
    have hlen : (linesT (f :: ts)).length = (lineT f).length + 2 + (linesT ts).length := by rw [ht]; simp; omega
    rw [hlen] at hroom
    simp only [List.length_cons] at hf
    have e1 := run_field f d hs hg hl (hr f (by simp)) (by omega) (by omega)
    have e2 := run_fields ts { d with section_ := d.section_ + ((lineT f).length + 2), trailers := d.trailers ++ [f], total := d.total + ((lineT f).length + 2) } hs hg hl (fun q hq => hr q (by simp [hq])) (by simp; omega) (by simp; omega)
    have key := feedD_cat2 e1 hg e2
    rw [← ht] at key
    rw [key, hlen]
    simp [Nat.add_assoc]
/-- What is encoded. -/
def encT (ps : List (List UInt8)) (ts : List Fld) : List UInt8 := chunksT ps ++ ([48, 13, 10] ++ (linesT ts ++ [13, 10]))
theorem hexD0 : hexD 0 = [48] := by rw [hexD_small (by omega)]; rfl
theorem run_enc (ps : List (List UInt8)) (ts : List Fld) (m r f : Int) (h0 : ∀ p ∈ ps, p ≠ []) (hm : (ps.flatten.length : Int) ≤ m) (hn : ps.flatten.length ≤ 1099511627776) (hr : ∀ g ∈ ts, rightB g = true) (hroom : ((linesT ts).length : Int) + 2 ≤ r) (hf : (ts.length : Int) ≤ f) :
    ∃ e : Dec, feedD (newD m r f) (encT ps ts) = (e, (encT ps ts).length) ∧ e.done = true ∧ e.err = 0 ∧ e.body = ps.flatten ∧ e.trailers = ts := by
  obtain ⟨lf, e1⟩ := run_chunks ps (newD m r f) rfl ⟨rfl, rfl⟩ rfl h0 (by simpa [newD] using hm) hn
  generalize hd1 : ({ newD m r f with body := (newD m r f).body ++ ps.flatten, left := lf, total := (newD m r f).total + (chunksT ps).length } : Dec) = d1 at e1
  have b1 : d1.st = .size ∧ goD d1 ∧ d1.line = [] ∧ d1.body = ps.flatten ∧ d1.most = m ∧ d1.room = r ∧ d1.fields = f ∧ d1.trailers = [] ∧ d1.section_ = 0 := by
    subst hd1
    exact ⟨rfl, ⟨rfl, rfl⟩, rfl, by simp [newD], rfl, rfl, rfl, rfl, rfl⟩
  obtain ⟨c1, c2, c3, c4, c5, c6, c7, c8, c9⟩ := b1
  have e2 := run_line 0 d1 c1 c2 c3 (by omega)
  rw [hexD0] at e2
  have e3 := sizeLF 0 { d1 with line := [48] ++ [13], total := d1.total + [(48 : UInt8)].length + 1 } c1 (by rw [hexD0]) (by omega)
  rw [if_neg (by show ¬ (d1.most - d1.body.length < ((0 : Nat) : Int)); rw [c4, c5]; omega), if_pos rfl] at e3
  generalize hd2 : ({ d1 with line := [], st := .trailer, total := d1.total + [(48 : UInt8)].length + 1 + 1, err := 0 } : Dec) = d2 at e3
  have b2 : d2.st = .trailer ∧ goD d2 ∧ d2.line = [] ∧ d2.body = ps.flatten ∧ d2.room = r ∧ d2.fields = f ∧ d2.trailers = [] ∧ d2.section_ = 0 := by
    subst hd2
    exact ⟨rfl, ⟨c2.1, rfl⟩, rfl, c4, c6, c7, c8, c9⟩
  obtain ⟨g1, g2, g3, g4, g5, g6, g7, g8⟩ := b2
  have e4 := run_fields ts d2 g1 g2 g3 hr (by rw [g8, g5]; simp; omega) (by rw [g7, g6]; simp; omega)
  generalize hd3 : ({ d2 with section_ := d2.section_ + (linesT ts).length, trailers := d2.trailers ++ ts, total := d2.total + (linesT ts).length } : Dec) = d3 at e4
  have b3 : d3.st = .trailer ∧ goD d3 ∧ d3.line = [] ∧ d3.body = ps.flatten ∧ d3.room = r ∧ d3.trailers = ts ∧ d3.section_ = (linesT ts).length := by
    subst hd3
    exact ⟨g1, g2, g3, g4, g5, by simp [g7], by simp [g8]⟩
  obtain ⟨k1, k2, k3, k4, k5, k6, k7⟩ := b3
  have e5 := run_trail [13] d3 k1 k2 (by simp) (by rw [k5, k7]; simp; omega)
  rw [k3] at e5
  have e6 : feed1 { d3 with line := [] ++ [13], section_ := d3.section_ + [(13 : UInt8)].length, total := d3.total + [(13 : UInt8)].length } 10 = { d3 with line := [], section_ := d3.section_ + 1 + 1, total := d3.total + 1 + 1, done := true, err := 0 } := by
    unfold feed1 stepD
    simp only [k1, trailerD]
    have he : endL ([] ++ [13] ++ [10]) = some [] := endL_crlf []
    rw [if_neg (by rw [k5, k7]; simp; omega), if_neg (by simp), he]
    simp [k1]
  have key := feedD_cat2 e1 c2 (feedD_cat2 e2 c2 (feedD_cat2 (feedD_one e3) g2 (feedD_cat2 e4 k2 (feedD_cat2 e5 k2 (feedD_one e6)))))
  have ht : encT ps ts = chunksT ps ++ (([48] ++ [13]) ++ ([10] ++ (linesT ts ++ ([13] ++ [10])))) := by simp [encT]
  rw [← ht] at key
  exact ⟨_, key, rfl, rfl, k4, k6⟩
/-- One byte too much: the size line of the last chunk is refused. -/
theorem run_most (ps : List (List UInt8)) (q : List UInt8) (ts : List Fld) (m r f : Int) (h0 : ∀ p ∈ ps, p ≠ []) (hq : q ≠ []) (hm : (ps.flatten.length : Int) + q.length = m + 1) (hn : ps.flatten.length + q.length ≤ 1099511627776) :
    ∃ (e : Dec) (a b : List UInt8), encT (ps ++ [q]) ts = a ++ 10 :: b ∧ 2 ≤ a.length ∧ feedD (newD m r f) (encT (ps ++ [q]) ts) = (e, a.length + 1) ∧ e.done = false ∧ e.err = 102 := by
  have hq1 : 1 ≤ q.length := by
    cases q with
    | nil => exact absurd rfl hq
    | cons a l => simp
  obtain ⟨lf, e1⟩ := run_chunks ps (newD m r f) rfl ⟨rfl, rfl⟩ rfl h0 (by show ((ps.flatten.length : Nat) : Int) ≤ m - (([] : List UInt8).length : Int); simp only [List.length_nil]; omega) (by omega)
  generalize hd1 : ({ newD m r f with body := (newD m r f).body ++ ps.flatten, left := lf, total := (newD m r f).total + (chunksT ps).length } : Dec) = d1 at e1
  have b1 : d1.st = .size ∧ goD d1 ∧ d1.line = [] ∧ d1.body = ps.flatten ∧ d1.most = m := by
    subst hd1
    exact ⟨rfl, ⟨rfl, rfl⟩, rfl, by simp [newD], rfl⟩
  obtain ⟨c1, c2, c3, c4, c5⟩ := b1
  have e2 := run_line q.length d1 c1 c2 c3 (by omega)
  have e3 := sizeLF q.length { d1 with line := hexD q.length ++ [13], total := d1.total + (hexD q.length).length + 1 } c1 rfl (by omega)
  rw [if_pos (by show d1.most - d1.body.length < ((q.length : Nat) : Int); rw [c4, c5]; omega)] at e3
  have key := feedD_cat2 e1 c2 (feedD_cat2 e2 c2 (feedD_one e3))
  have hst := feedD_stopcat _ _ _ (q ++ [13, 10] ++ ([48, 13, 10] ++ (linesT ts ++ [13, 10]))) key (.inr (by simp)) (by simp)
  have hc : chunksT (ps ++ [q]) = chunksT ps ++ chunkT q := by simp [chunksT]
  refine ⟨{ d1 with line := [], total := d1.total + (hexD q.length).length + 1 + 1, err := 102 }, chunksT ps ++ (hexD q.length ++ [13]), q ++ [13, 10] ++ ([48, 13, 10] ++ (linesT ts ++ [13, 10])), ?_, ?_, ?_, c2.1, rfl⟩
  rotate_left 2
  · have ht : encT (ps ++ [q]) ts = (chunksT ps ++ ((hexD q.length ++ [13]) ++ [10])) ++ (q ++ [13, 10] ++ ([48, 13, 10] ++ (linesT ts ++ [13, 10]))) := by
      unfold encT
      rw [hc]
      simp [chunkT]
    rw [ht, hst]
    refine Prod.ext rfl ?_
    simp
    omega
  · unfold encT
    rw [hc]
    simp [chunkT]
  · have := hexD_pos q.length
    simp; omega
/-- The pieces that a body is cut into. -/
def piecesB : List UInt8 → List Int → List (List UInt8)
  | b, [] => if b = [] then [] else [b]
  | b, n :: ns => if b = [] then [] else b.take n.toNat :: piecesB (b.drop n.toNat) ns
theorem pieces_flat : ∀ (ns : List Int) (b : List UInt8), (piecesB b ns).flatten = b
  | [], b => by unfold piecesB; split <;> simp_all
  | n :: ns, b => by
    unfold piecesB
    split
    · simp_all
    · rw [List.flatten_cons, pieces_flat ns, List.take_append_drop]
theorem pieces_ne : ∀ (ns : List Int) (b : List UInt8), (∀ n ∈ ns, 1 ≤ n) → ∀ p ∈ piecesB b ns, p ≠ []
  | [], b, _, p, hp => by
    unfold piecesB at hp
    split at hp
    · cases hp
    · rename_i h; simp at hp; subst hp; exact h
  | n :: ns, b, hn, p, hp => by
    unfold piecesB at hp
    split at hp
    · cases hp
    · rename_i h
      rcases List.mem_cons.1 hp with rfl | hp
      · have h1 := hn n (by simp)
        intro e
        have := congrArg List.length e
        rw [List.length_take] at this
        have hb : b.length ≠ 0 := fun e => h (List.length_eq_zero_iff.1 e)
        have h3 : ([] : List UInt8).length = 0 := rfl
        omega
      · exact pieces_ne ns _ (fun x hx => hn x (by simp [hx])) p hp
theorem pieces_nil : ∀ (ns : List Int), piecesB [] ns = []
  | [] => rfl
  | _ :: _ => rfl
/-- A proper beginning is open. -/
theorem open_of {d e : Dec} {s : List UInt8} (h : feedD d s = (e, s.length)) (hg : goD d) (n : Nat) (hn : n < s.length) : ∃ g, feedD d (s.take n) = (g, n) ∧ goD g := by
  obtain ⟨⟨g, k⟩, hk⟩ : ∃ x, feedD d (s.take n) = x := ⟨_, rfl⟩
  have hle := feedD_le (s.take n) d
  have htk := feedD_take (s.take n) d
  rw [hk] at hle htk
  simp only [List.length_take] at hle
  simp only [List.take_take] at htk
  have hkn : min k n = k := by omega
  rw [hkn] at htk
  by_cases hgo : goD g
  · have : k = n := by
      -- it does not stop ahead of the end
      have hall : ∀ (a : List UInt8) (d : Dec), goD (feedD d a).1 → goD d → (feedD d a).2 = a.length := by
        intro a
        induction a with
        | nil => intro d _ _; rfl
        | cons b a ih =>
          intro d h1 h2
          rw [feedD_cons] at h1 ⊢
          split
          · rename_i hs
            rw [if_pos hs] at h1
            rcases hs with hs | hs
            · rw [h1.1] at hs; cases hs
            · exact absurd h1.2 hs
          · rename_i hs
            rw [if_neg hs] at h1
            have := ih (feed1 d b) h1 ⟨by simpa using fun h => hs (.inl h), by simpa using fun h => hs (.inr h)⟩
            simp [this]
      have := hall (s.take n) d (by rw [hk]; exact hgo) hg
      rw [hk] at this
      simp only [List.length_take] at this
      omega
    subst this
    exact ⟨g, hk, hgo⟩
  · exfalso
    have hst : g.done = true ∨ g.err ≠ 0 := by
      unfold goD at hgo
      by_cases h1 : g.done = true
      · exact .inl h1
      · by_cases h2 : g.err = 0
        · exact absurd ⟨by simpa using h1, h2⟩ hgo
        · exact .inr h2
    have hne : s.take k ≠ [] := by
      intro e
      rw [e] at htk
      have : d = g := (Prod.mk.inj htk).1
      rw [← this] at hst
      rcases hst with h | h
      · rw [hg.1] at h; cases h
      · exact h hg.2
    have := feedD_stopcat (s.take k) d g (s.drop k) (by rw [htk, List.length_take]; congr 1; omega) hst hne
    rw [List.take_append_drop, h] at this
    have := (Prod.mk.inj this).2
    rw [List.length_take] at this
    omega
end Go.Proofs.YtimhofphmgehgaaDoor
