/- ChunkMost, ChunkBack, ChunkOpen: what is encoded is decoded. -/
import Derived.Test.YtimhofphmgehgaaDoorCjG
set_option linter.unusedVariables false
set_option linter.unnecessarySimpa false
set_option linter.unusedSimpArgs false
set_option linter.unusedSectionVars false
set_option maxRecDepth 100000
namespace Go.Proofs.YtimhofphmgehgaaDoor
open Go Go.RowKit Go.Proofs

theorem dec_back (ps : List (List UInt8)) (ts : List Fld) (m r f : Int) (behind : List UInt8) (h0 : ∀ p ∈ ps, p ≠ []) (hm : (ps.flatten.length : Int) ≤ m) (hn : ps.flatten.length ≤ 1099511627776) (hr : ∀ g ∈ ts, rightB g = true) (hroom : ((linesT ts).length : Int) + 2 ≤ r) (hf : (ts.length : Int) ≤ f) :
    decodeD (encT ps ts ++ behind) m r f = (ps.flatten, ts, ((encT ps ts).length : Int), 0) := by
  obtain ⟨e, h1, h2, h3, h4, h5⟩ := run_enc ps ts m r f h0 hm hn hr hroom hf
  have hne : encT ps ts ≠ [] := by unfold encT; simp
  have hst := feedD_stopcat _ _ _ behind h1 (.inl h2) hne
  unfold decodeD
  rw [hst, if_neg (by omega)]
  simp only
  rw [if_neg (by rw [h3]; simp), if_neg (by rw [h2]; simp), h4, h5]
theorem dec_open (ps : List (List UInt8)) (ts : List Fld) (m r f : Int) (n : Nat) (h0 : ∀ p ∈ ps, p ≠ []) (hm : (ps.flatten.length : Int) ≤ m) (hn : ps.flatten.length ≤ 1099511627776) (hr : ∀ g ∈ ts, rightB g = true) (hroom : ((linesT ts).length : Int) + 2 ≤ r) (hf : (ts.length : Int) ≤ f) (hnl : n < (encT ps ts).length) :
    decodeD ((encT ps ts).take n) m r f = ([], [], (n : Int), 105) := by
  obtain ⟨e, h1, h2, h3, h4, h5⟩ := run_enc ps ts m r f h0 hm hn hr hroom hf
  obtain ⟨g, g1, g2⟩ := open_of h1 ⟨rfl, rfl⟩ n hnl
  unfold decodeD
  rw [g1, if_neg (by omega)]
  simp only
  rw [if_neg (by rw [g2.2]; simp), if_pos g2.1, List.length_take, Nat.min_eq_left (by omega)]
theorem dec_most (ps : List (List UInt8)) (ts : List Fld) (m r f : Int) (h0 : ∀ p ∈ ps, p ≠ []) (hne : ps ≠ []) (hm : (ps.flatten.length : Int) = m + 1) (hn : ps.flatten.length ≤ 1099511627776) (hr : 0 ≤ r) (hf : 0 ≤ f) :
    ∃ a b, encT ps ts = a ++ 10 :: b ∧ 2 ≤ a.length ∧ decodeD (encT ps ts) m r f = ([], [], (a.length : Int), 102) := by
  obtain ⟨qs, q, rfl⟩ : ∃ qs q, ps = qs ++ [q] := ⟨ps.dropLast, ps.getLast hne, (List.dropLast_concat_getLast hne).symm⟩
  have hq : q ≠ [] := h0 q (by simp)
  have hq1 : 1 ≤ q.length := by
    cases q with
    | nil => exact absurd rfl hq
    | cons a l => simp
  have hfl : (qs ++ [q]).flatten.length = qs.flatten.length + q.length := by simp
  rw [hfl] at hm hn
  obtain ⟨e, a, b, h1, h2, h3, h4, h5⟩ := run_most qs q ts m r f (fun p hp => h0 p (by simp [hp])) hq (by omega) hn
  refine ⟨a, b, h1, h2, ?_⟩
  unfold decodeD
  rw [h3, if_neg (by omega)]
  simp only
  rw [if_pos (by rw [h5]; decide), h5]
  simp
def szd (ns : List Int) : List Int := ns.map fun z => z % 5000 + 1
theorem szd_ok (ns : List Int) : okSizes (szd ns) = true := by
  unfold okSizes szd
  rw [List.all_eq_true]
  intro z hz
  obtain ⟨y, _, rfl⟩ := List.mem_map.1 hz
  simp
  omega
theorem szd_rng (ns : List Int) : ∀ z ∈ szd ns, -9223372036854775808 ≤ z ∧ z ≤ 9223372036854775807 := fun z hz => by
  obtain ⟨y, _, rfl⟩ := List.mem_map.1 hz
  omega
theorem ints_snoc (l : List Int) (z : Int) : ints l ++ [[.int .i64 z]] = ints (l ++ [z]) := by simp [ints]
@[simp] theorem ints_length' (l : List Int) : (ints l).length = l.length := by simp [ints]
section
variable (E : Env) (H : Hp) (Q : AV → Hp → Prop)
def sizedInv (ns : List Int) (H : Hp) (fr : List AV) (H' : Hp) : Prop := H' = H ∧ ∃ i : Nat, i ≤ ns.length ∧ ∃ x : Nat → AV, fr = [x 0, x 1, x 2, .sl true 1 (ints (szd (ns.take i))), x 4, x 5, .sl false 1 (ints ns), .int .i64 ns.length, .int .i64 i, x 9, x 10, x 11, x 12, x 13, x 14, x 15, x 16, x 17, x 18, x 19]
theorem sized_pc (ns : List Int) (hl : ns.length ≤ 1048577) (hr : ∀ z ∈ ns, -9223372036854775808 ≤ z ∧ z ≤ 9223372036854775807) (hQ : Q (.sl false 1 (ints (szd ns))) H) : PC Tryd.prog E 41 [.sl false 1 (ints ns)] H Q := by
  refine pc_enter Tryd.func41 rfl [12] [] (by kernel_rfl) (fun hB => ?_)
  simp [Tryd.ntmps41, Tryd.results41, List.replicate_succ]
  refine VL_nil 3 1 (by rfl) ?_
  simp only [List.set_cons_succ, List.set_cons_zero]
  refine VL_go (sizedInv ns H) (fun fr _ => ns.length - (ai (aget fr 8)).toNat) ⟨rfl, 0, by omega, fr_intro (by simp [ints, szd])⟩ ?_
  rintro fr H' ⟨rfl, i, hi, x, rfl⟩
  by_cases h : i < ns.length
  · obtain ⟨z, hz⟩ : ∃ z, ns[i]? = some z := ⟨_, List.getElem?_eq_getElem h⟩
    have hat := ints_at hz
    have hzr := hr z (List.mem_of_getElem? hz)
    have hw : IntKind.i64.wrap ((i : Int) + 1) = i + 1 := wrap_in (by omega) (by omega)
    have hw2 : IntKind.i64.wrap (z % 5000 + 1) = z % 5000 + 1 := wrap_in (by omega) (by omega)
    have htk : szd (ns.take (i + 1)) = szd (ns.take i) ++ [z % 5000 + 1] := by unfold szd; rw [List.take_add_one, hz]; simp
    have hsn := ints_snoc (szd (ns.take i)) (z % 5000 + 1)
    rw [← htk] at hsn
    have hsl : (szd (ns.take i)).length = i := by unfold szd; rw [List.length_map, List.length_take]; omega
    have m1 : (szd (ns.take i)).length + 1 ≤ maxLen := by unfold maxLen; omega
    have m2 : ((szd (ns.take i)).length + 1) * 8 ≤ 140737488355328 := by omega
    simp [h, hat]
    refine lkind_pc E _ _ z 5000 (by omega) (by omega) hzr.1 hzr.2 ?_
    simp [hw, hw2, m1, m2, hsn]
    exact Kloop_normal ⟨rfl, i + 1, by omega, fr_intro (by simp)⟩ (by simp; omega)
  · obtain rfl : i = ns.length := by omega
    simp
    exact aPost_same0 hB (v0 := .sl false 1 (ints (szd ns))) (by simp) (nilV_refl _) (by simp [ints]) hQ
def dvalInv (l : List UInt8) (H : Hp) (fr : List AV) (H' : Hp) : Prop := H' = H ∧ ∃ i : Nat, i ≤ l.length ∧ fldB (l.take i) = true ∧ ∃ x : Nat → AV, fr = [.str l, x 1, x 2, .int .i64 i, x 4, x 5, x 6, x 7, x 8, x 9, x 10, x 11, x 12, x 13, x 14, x 15, x 16, x 17, x 18, x 19, x 20, x 21, x 22, x 23]
theorem dvalue_pc (l : List UInt8) (hl : l.length ≤ cap) (hQ : Q (.bool (valueB l)) H) : PC Tryd.prog E 95 [.str l] H Q := by
  have hc := hl
  simp only [cap] at hl
  refine pc_enter Tryd.func95 rfl [] [] (by kernel_rfl) (fun hB => ?_)
  have fin : ∀ c : Bool, valueB l = c → Q (.bool c) H := fun c hc => hc ▸ hQ
  simp [Tryd.ntmps95, Tryd.results95, List.replicate_succ]
  refine VL_go (dvalInv l H) (fun fr _ => l.length - (ai (aget fr 3)).toNat) ⟨rfl, 0, by omega, rfl, fr_intro (by simp)⟩ ?_
  rintro fr H' ⟨rfl, i, hi, hall, x, rfl⟩
  by_cases h : i < l.length
  · obtain ⟨b, hb⟩ : ∃ b, l[i]? = some b := ⟨_, List.getElem?_eq_getElem h⟩
    have hat := lat_eq hb
    have hw : IntKind.i64.wrap ((i : Int) + 1) = i + 1 := wrap_in (by omega) (by omega)
    simp [h, hat]
    refine inside_pc E _ _ b ?_
    cases hf : fcB b
    · simp [hf]
      exact aPost_same0 hB rfl (nilV_refl _) (by simp) (fin _ (by unfold valueB fldB; rw [all_bad fcB l i b hb hf]; simp))
    · simp [hf, hw]
      refine Kloop_normal ⟨rfl, i + 1, by omega, ?_, fr_intro (by simp)⟩ (by simp; omega)
      unfold fldB at hall ⊢
      rw [all_take fcB l i b hb, hall, hf]; rfl
  · have : l.take i = l := List.take_of_length_le (by omega)
    rw [this] at hall
    by_cases h8 : l.length ≤ 8192
    · have h8' : (l.length : Int) ≤ 8192 := by omega
      simp [h, h8']
      refine ref_trim_pc E _ _ l hc ?_
      simp
      exact aPost_same0 hB rfl (nilV_refl _) (by simp) (fin _ (by unfold valueB; rw [hall, Bool.eq_iff_iff]; simp [h8]))
    · have h8' : ¬ (l.length : Int) ≤ 8192 := by omega
      simp [h, h8']
      exact aPost_same0 hB rfl (nilV_refl _) (by simp) (fin _ (by simp [valueB, h8]))
theorem dright_pc (f : Fld) (h1 : f.name.length ≤ cap) (h2 : f.value.length ≤ cap) (hQ : Q (.bool (rightB f)) H) : PC Tryd.prog E 66 [.agg [.str f.name, .str f.value]] H Q := by
  refine pc_enter Tryd.func66 rfl [] [] (by kernel_rfl) (fun hB => ?_)
  have fin : ∀ c : Bool, rightB f = c → Q (.bool c) H := fun c hc => hc ▸ hQ
  simp [Tryd.ntmps66, Tryd.results66, List.replicate_succ]
  refine ref_may_pc E _ _ f.name h1 ?_
  cases hm : mayB f.name
  · simp
    exact aPost_same hB rfl (nilV_refl _) (by simp) (fin _ (by unfold rightB; rw [hm]; rfl))
  · simp
    refine dvalue_pc E _ _ f.value h2 ?_
    simp
    exact aPost_same hB rfl (nilV_refl _) (by simp) (fin _ (by unfold rightB; rw [hm]; simp))
def rigInv (ts : List Fld) (H : Hp) (fr : List AV) (H' : Hp) : Prop := ∃ (J : Hp) (i : Nat), H' = H ++ J ∧ i ≤ ts.length ∧ (ts.take i).all rightB = true ∧ ∃ x : Nat → AV, fr = [x 0, x 1, x 2, x 3, x 4, x 5, .sl false 2 (flds ts), .int .i64 ts.length, .int .i64 i, x 9, x 10, x 11, x 12, x 13, x 14, x 15]
theorem right_pc (ts : List Fld) (hl : fsz ts + ts.length ≤ 1048577) (hQ : Q (.bool (ts.all rightB)) H) : PC Tryd.prog E 40 [.sl false 2 (flds ts)] H Q := by
  refine pc_enter Tryd.func40 rfl [] [] (by kernel_rfl) (fun hB => ?_)
  simp [Tryd.ntmps40, Tryd.results40, List.replicate_succ]
  refine plain_pc E _ _ ts (by omega) ?_
  simp
  refine VL_go (rigInv ts H) (fun fr _ => ts.length - (ai (aget fr 8)).toNat) ⟨[], 0, by simp, by omega, by simp, fr_intro (by simp)⟩ ?_
  rintro fr H' ⟨J, i, rfl, hi, hall, x, rfl⟩
  by_cases h : i < ts.length
  · obtain ⟨f, hf⟩ : ∃ f, ts[i]? = some f := ⟨_, List.getElem?_eq_getElem h⟩
    have hat := flds_at hf
    have hfm := fsz_mem hf
    have hw : IntKind.i64.wrap ((i : Int) + 1) = i + 1 := wrap_in (by omega) (by omega)
    have hst := all_step rightB ts i f hf
    have hsp := all_stop rightB ts i f hf
    simp [h, hat]
    refine dright_pc E _ _ f (by simp only [cap]; omega) (by simp only [cap]; omega) ?_
    cases hr : rightB f
    · rw [hsp hr] at hQ
      simp
      exact aPost_same hB rfl (nilV_refl _) (by simp) hQ
    · simp [hw]
      exact Kloop_normal ⟨_, i + 1, rfl, by omega, by rw [hst, hall, hr]; rfl, fr_intro (by simp)⟩ (by simp; omega)
  · obtain rfl : i = ts.length := by omega
    rw [List.take_of_length_le (Nat.le_refl _)] at hall
    rw [hall] at hQ
    simp
    exact aPost_same hB rfl (nilV_refl _) (by simp) hQ
theorem lmost_pc (hE : SZ E) (body : List UInt8) (ns : List Int) (hb : body.length ≤ 1048576) (hn : ns.length ≤ 1048577) (hr : ∀ z ∈ ns, -9223372036854775808 ≤ z ∧ z ≤ 9223372036854775807) (hQ : Q (.bool true) H) : PC Tryd.prog E 13 [.str body, .sl false 1 (ints ns)] H Q := by
  refine pc_enter Tryd.func13 rfl [] [] (by kernel_rfl) (fun hB => ?_)
  simp [Tryd.ntmps13, Tryd.results13, List.replicate_succ]
  refine lawake_pc E _ _ hE.1 ?_
  by_cases h0 : body = []
  · have h0' : (body == []) = true := by simpa using h0
    simp [h0']
    exact aPost_same0 hB rfl (nilV_refl _) (by simp) hQ
  · have h0' : (body == []) = false := by simpa using h0
    have hbl : 1 ≤ body.length := by
      cases body with
      | nil => exact absurd rfl h0
      | cons a l => simp
    simp [h0']
    refine sized_pc E _ _ ns hn hr ?_
    simp
    have hok := szd_ok ns
    have hall := List.all_eq_true.1 hok
    have hns : ∀ z ∈ szd ns, 1 ≤ z := fun z hz => by simpa using hall z hz
    have hsl : (szd ns).length = ns.length := by unfold szd; simp
    have he : encAns body (szd ns) [] = (encT (piecesB body (szd ns)) [], 0) := by
      unfold encAns
      rw [if_neg (by rw [hok]; simp), if_neg (by simp)]
    refine PC.argsNil (args' := [.str body, .sl false 1 (ints (szd ns)), .sl false 2 (flds [])]) ⟨.inl rfl, .inl rfl, .inr ⟨rfl, false, 2, rfl⟩, trivial⟩ (by simp) (encode_pc E H _ hE body (szd ns) [] hb (by omega) (by simp [fsz]) (szd_rng ns) ?_)
    rw [he]
    have hpf : (piecesB body (szd ns)).flatten = body := pieces_flat _ body
    have hpn := pieces_ne (szd ns) body hns
    have hpe : piecesB body (szd ns) ≠ [] := fun e => by rw [e] at hpf; exact h0 hpf.symm
    have htot := chunksT_le (piecesB body (szd ns)) hpn (by rw [hpf]; omega)
    rw [hpf] at htot
    obtain ⟨a, b, e1, e2, e3⟩ := dec_most (piecesB body (szd ns)) [] ((body.length : Int) - 1) 2 0 hpn hpe (by rw [hpf]; omega) (by rw [hpf]; omega) (by omega) (by omega)
    have hbk := dec_back (piecesB body (szd ns)) [] body.length 2 0 [] hpn (by rw [hpf]; omega) (by rw [hpf]; omega) (by simp) (by simp [linesT]) (by simp)
    rw [List.append_nil, hpf] at hbk
    have hlen : (encT (piecesB body (szd ns)) []).length ≤ 17000000 := by unfold encT; simp [linesT]; omega
    generalize hS : encT (piecesB body (szd ns)) [] = S at *
    have hw : IntKind.i64.wrap ((body.length : Int) - 1) = body.length - 1 := wrap_in (by omega) (by omega)
    have hat : lat S a.length = some 10 := by rw [e1]; simp [lat]
    have hal : a.length < S.length := by rw [e1]; simp
    have ha2 : ¬ (a.length : Int) < 2 := by omega
    have ha3 : ¬ S.length ≤ a.length := by omega
    simp [hw]
    refine decode_pc E _ _ hE.1 S _ 2 0 (by omega) (by omega) (by omega) (by omega) ?_
    rw [e3]
    simp [ha2, ha3, hat]
    refine decode_pc E _ _ hE.1 S _ 2 0 (by omega) (by omega) (by omega) (by omega) ?_
    rw [hbk]
    simp
    exact aPost_same0 hB rfl (nilV_refl _) (by simp) hQ
theorem chunksT_ge : ∀ (ps : List (List UInt8)), ps.flatten.length ≤ (chunksT ps).length
  | [] => by simp [chunksT]
  | p :: ps => by
    have := chunksT_ge ps
    rw [chunksT_cons]
    simp only [List.flatten_cons, List.length_append]
    have : p.length ≤ (chunkT p).length := by unfold chunkT; simp; omega
    omega
theorem lback_pc (hE : SZ E) (body : List UInt8) (ns : List Int) (ts : List Fld) (behind : List UInt8) (hb : body.length ≤ 1048576) (hn : ns.length ≤ 1048576) (ht : fsz ts + ts.length ≤ 1048576) (hh : behind.length ≤ 1048576) (hr : ∀ z ∈ ns, -9223372036854775808 ≤ z ∧ z ≤ 9223372036854775807) (hQ : Q (.bool true) H) :
    PC Tryd.prog E 11 [.agg [.str body, .sl false 1 (ints ns), .sl false 2 (flds ts)], .str behind] H Q := by
  refine pc_enter Tryd.func11 rfl [22] [(5, [0, 0, 0, 0, 1])] (by kernel_rfl) (fun hB => ?_)
  simp [Tryd.ntmps11, Tryd.results11, List.replicate_succ]
  refine lawake_pc E _ _ hE.1 ?_
  simp
  refine right_pc E _ _ ts (by omega) ?_
  cases hts : ts.all rightB with
  | false =>
    simp
    exact aPost_same hB rfl (nilV_refl _) (by simp) hQ
  | true =>
    have hm : ts.length ≤ maxLen ∧ ts.length * 32 ≤ 140737488355328 := by unfold maxLen; omega
    simp
    refine sized_pc E _ _ ns (by omega) hr ?_
    simp [hm]
    have hok := szd_ok ns
    have hall := List.all_eq_true.1 hok
    have hns : ∀ z ∈ szd ns, 1 ≤ z := fun z hz => by simpa using hall z hz
    have hsl : (szd ns).length = ns.length := by unfold szd; simp
    have he : encAns body (szd ns) ts = (encT (piecesB body (szd ns)) ts, 0) := by
      unfold encAns
      rw [if_neg (by rw [hok]; simp), if_neg (by rw [hts]; simp)]
    refine encode_pc E _ _ hE body (szd ns) ts hb (by omega) (by omega) (szd_rng ns) ?_
    rw [he]
    have hpf : (piecesB body (szd ns)).flatten = body := pieces_flat _ body
    have hpn := pieces_ne (szd ns) body hns
    have htot := chunksT_le (piecesB body (szd ns)) hpn (by rw [hpf]; omega)
    have hge := chunksT_ge (piecesB body (szd ns))
    have hlin := linesT_le ts
    rw [hpf] at htot hge
    have hlen : (encT (piecesB body (szd ns)) ts).length = (chunksT (piecesB body (szd ns))).length + (linesT ts).length + 5 := by unfold encT; simp; omega
    have hbk := dec_back (piecesB body (szd ns)) ts body.length (encT (piecesB body (szd ns)) ts).length ts.length behind hpn (by rw [hpf]; omega) (by rw [hpf]; omega) (fun g hg => List.all_eq_true.1 hts g hg) (by omega) (by omega)
    rw [hpf] at hbk
    generalize hS : encT (piecesB body (szd ns)) ts = S at *
    have hw : IntKind.i64.wrap ((body.length : Int) + 5) = body.length + 5 := wrap_in (by omega) (by omega)
    have h5 : ¬ (S.length : Int) < (body.length : Int) + 5 := by omega
    have hm2 : S.length + behind.length ≤ maxLen := by unfold maxLen; omega
    simp [hw, h5, hm2]
    refine decode_pc E _ _ hE.1 (S ++ behind) _ _ _ (by simp; omega) (by omega) (by omega) (by omega) ?_
    rw [hbk]
    simp
    refine plain_pc E _ _ ts (by omega) ?_
    simp
    refine same_pc E _ _ ts (by omega) ?_
    simp
    exact aPost_same hB rfl (nilV_refl _) (by simp) hQ
theorem lopen_pc (hE : SZ E) (body : List UInt8) (ns : List Int) (ts : List Fld) (cut : Int) (hb : body.length ≤ 1048576) (hn : ns.length ≤ 1048576) (ht : fsz ts + ts.length ≤ 1048576) (hc : -9223372036854775808 ≤ cut ∧ cut ≤ 9223372036854775807) (hr : ∀ z ∈ ns, -9223372036854775808 ≤ z ∧ z ≤ 9223372036854775807) (hQ : Q (.bool true) H) :
    PC Tryd.prog E 12 [.agg [.str body, .sl false 1 (ints ns), .sl false 2 (flds ts)], .int .i64 cut] H Q := by
  refine pc_enter Tryd.func12 rfl [23] [(5, [0, 0, 0, 0, 1])] (by kernel_rfl) (fun hB => ?_)
  simp [Tryd.ntmps12, Tryd.results12, List.replicate_succ]
  refine lawake_pc E _ _ hE.1 ?_
  simp
  refine right_pc E _ _ ts (by omega) ?_
  cases hts : ts.all rightB with
  | false =>
    simp
    exact aPost_same hB rfl (nilV_refl _) (by simp) hQ
  | true =>
    have hm : ts.length ≤ maxLen ∧ ts.length * 32 ≤ 140737488355328 := by unfold maxLen; omega
    simp
    refine sized_pc E _ _ ns (by omega) hr ?_
    simp [hm]
    have hok := szd_ok ns
    have hall := List.all_eq_true.1 hok
    have hns : ∀ z ∈ szd ns, 1 ≤ z := fun z hz => by simpa using hall z hz
    have hsl : (szd ns).length = ns.length := by unfold szd; simp
    have he : encAns body (szd ns) ts = (encT (piecesB body (szd ns)) ts, 0) := by
      unfold encAns
      rw [if_neg (by rw [hok]; simp), if_neg (by rw [hts]; simp)]
    refine encode_pc E _ _ hE body (szd ns) ts hb (by omega) (by omega) (szd_rng ns) ?_
    rw [he]
    have hpf : (piecesB body (szd ns)).flatten = body := pieces_flat _ body
    have hpn := pieces_ne (szd ns) body hns
    have htot := chunksT_le (piecesB body (szd ns)) hpn (by rw [hpf]; omega)
    have hlin := linesT_le ts
    rw [hpf] at htot
    have hlen : (encT (piecesB body (szd ns)) ts).length = (chunksT (piecesB body (szd ns))).length + (linesT ts).length + 5 := by unfold encT; simp; omega
    have hop := fun n hn => dec_open (piecesB body (szd ns)) ts body.length (encT (piecesB body (szd ns)) ts).length ts.length n hpn (by rw [hpf]; omega) (by rw [hpf]; omega) (fun g hg => List.all_eq_true.1 hts g hg) (by omega) (by omega) hn
    generalize hS : encT (piecesB body (szd ns)) ts = S at *
    have hne : (S == []) = false := by rw [beq_eq_false_iff_ne]; intro e; rw [e] at hlen; simp at hlen
    simp [hne]
    refine lkind_pc E _ _ cut S.length (by omega) (by omega) hc.1 hc.2 ?_
    obtain ⟨k, hk⟩ : ∃ k : Nat, cut % (S.length : Int) = k := ⟨(cut % (S.length : Int)).toNat, by have := Int.emod_nonneg cut (show (S.length : Int) ≠ 0 by omega); omega⟩
    have hk2 : k < S.length := by have := Int.emod_lt_of_pos cut (show (0 : Int) < (S.length : Int) by omega); omega
    rw [hk]
    have hk3 : k ≤ S.length := by omega
    simp [hk3]
    refine decode_pc E _ _ hE.1 (S.take k) _ _ _ (by rw [List.length_take]; omega) (by omega) (by omega) (by omega) ?_
    rw [hop k hk2]
    simp
    exact aPost_same hB rfl (nilV_refl _) (by simp) hQ
end
end Go.Proofs.YtimhofphmgehgaaDoor
