/- Part 9 of the texts below the law: the abstract machine, the functions that it walks, what they compute. -/
import Derived.Test.YtcdkcaocfioigaaGreatDoorPf8
set_option linter.unusedVariables false
set_option linter.unnecessarySimpa false
set_option linter.unusedSimpArgs false
set_option linter.unusedSectionVars false
set_option maxRecDepth 100000
namespace Go.Proofs.YtcdkcaocfioigaaGreatDoor
open Go Go.RowKit Go.Proofs

@[irreducible] def moreX (r : Resp) (h : Mann) : List Fld := if h.chunked = true then [⟨nTE, vChunked⟩] else if neverS r.status = true then [] else [⟨nCL, Go.Lib.itoa r.body.length⟩]
@[irreducible] def moreY (r : Resp) (h : Mann) : List Fld := if 199 < r.status ∧ h.close = true then [⟨nCO, vClose⟩] else if 199 < r.status ∧ h.old = true then [⟨nCO, vKeep⟩] else []
theorem moreM_eq (r : Resp) (h : Mann) : moreM r h = r.fields ++ (moreX r h ++ moreY r h) := by unfold moreM moreX moreY; exact Eq.refl _
section
variable {r : Resp} {h : Mann}
theorem moreX_c (hc : h.chunked = true) : moreX r h = [⟨nTE, vChunked⟩] := by unfold moreX; rw [if_pos hc]
theorem moreX_n (hc : h.chunked = false) (hn : neverS r.status = true) : moreX r h = [] := by unfold moreX; rw [if_neg (by rw [hc]; simp), if_pos hn]
theorem moreX_l (hc : h.chunked = false) (hn : neverS r.status = false) : moreX r h = [⟨nCL, Go.Lib.itoa r.body.length⟩] := by unfold moreX; rw [if_neg (by rw [hc]; simp), if_neg (by rw [hn]; simp)]
theorem moreY_s (hs : ¬ 199 < r.status) : moreY r h = [] := by unfold moreY; rw [if_neg (fun e => hs e.1), if_neg (fun e => hs e.1)]
theorem moreY_c (hs : 199 < r.status) (hc : h.close = true) : moreY r h = [⟨nCO, vClose⟩] := by unfold moreY; rw [if_pos ⟨hs, hc⟩]
theorem moreY_o (hs : 199 < r.status) (hc : h.close = false) (ho : h.old = true) : moreY r h = [⟨nCO, vKeep⟩] := by unfold moreY; rw [if_neg (by rw [hc]; simp), if_pos ⟨hs, ho⟩]
theorem moreY_n (hc : h.close = false) (ho : h.old = false) : moreY r h = [] := by unfold moreY; rw [if_neg (by rw [hc]; simp), if_neg (by rw [ho]; simp)]
end
section
variable (E : Env) (H : Hp) (Q : AV → Hp → Prop)
theorem fsz_app (a b : List Fld) : fsz (a ++ b) = fsz a + fsz b := by
  induction a with
  | nil => simp [fsz]
  | cons x a ih => simp [fsz, ih]; omega
theorem reason_len (s : Int) : (reasonB s).length ≤ 100 := by
  have key : ∀ (t : List (Int × List UInt8)) (d : List UInt8), (∀ p ∈ t, p.2.length ≤ 100) → d.length ≤ 100 → ((look t s).getD d).length ≤ 100 := fun t d h hd => by
    unfold look
    cases hf : t.find? (fun p => p.1 == s) with
    | none => exact hd
    | some p => exact h p (List.mem_of_find?_eq_some hf)
  exact key _ _ (by decide) (key _ _ (by decide) (key _ _ (by decide) (by simp)))
theorem moreM_sz (r : Resp) (h : Mann) (hok : okR r h) : fsz (moreM r h) + (moreM r h).length ≤ 1048577 + 1000 := by
  obtain ⟨o1, o2, o3, o4, o5, o6, ⟨o7, o8⟩, o9⟩ := hok
  have hi := (itoa_le (r.body.length : Int) (by omega) (by omega)).1
  unfold moreM
  rw [fsz_app, fsz_app, List.length_append, List.length_append]
  have h1 : ∀ a : List Fld, a = [⟨nTE, vChunked⟩] ∨ a = [] ∨ a = [⟨nCL, Go.Lib.itoa r.body.length⟩] → fsz a + a.length ≤ 100 := fun a ha => by
    rcases ha with rfl | rfl | rfl
    · simp [fsz, nTE, vChunked]
    · simp [fsz]
    · simp [fsz, nCL]; omega
  have h2 : ∀ a : List Fld, a = [⟨nCO, vClose⟩] ∨ a = [⟨nCO, vKeep⟩] ∨ a = [] → fsz a + a.length ≤ 100 := fun a ha => by
    rcases ha with rfl | rfl | rfl
    · simp [fsz, nCO, vClose]
    · simp [fsz, nCO, vKeep]
    · simp [fsz]
  have k1 := h1 (if h.chunked = true then [⟨nTE, vChunked⟩] else if neverS r.status = true then [] else [⟨nCL, Go.Lib.itoa r.body.length⟩]) (by split; exact .inl rfl; split; exact .inr (.inl rfl); exact .inr (.inr rfl))
  have k2 := h2 (if 199 < r.status ∧ h.close = true then [⟨nCO, vClose⟩] else if 199 < r.status ∧ h.old = true then [⟨nCO, vKeep⟩] else []) (by split; exact .inl rfl; split; exact .inr (.inl rfl); exact .inr (.inr rfl))
  omega
theorem printF_le {l : List Fld} : (printF l).1.length ≤ fsz l + 4 * l.length := by
  unfold printF
  split
  · simp
  · split
    · simp
    · exact linesT_le l
theorem headP_bad {r : Resp} {h : Mann} (hw : wrongM r h = 0) (hp : (printF (moreM r h)).2 ≠ 0) : headP r h = ([], (printF (moreM r h)).2) := by unfold headP; rw [if_neg (by rw [hw]; simp), if_pos hp]
theorem headP_ok {r : Resp} {h : Mann} (hw : wrongM r h = 0) (hp : (printF (moreM r h)).2 = 0) : headP r h = (verT ++ ([49, 32] ++ (Go.Lib.itoa r.status ++ ([32] ++ ((if r.reason = [] then reasonB r.status else r.reason) ++ ([13, 10] ++ ((printF (moreM r h)).1 ++ [13, 10])))))), 0) := by
  unfold headP; rw [if_neg (by rw [hw]; simp), if_neg (by rw [hp]; simp)]
theorem fl_facts {r : Resp} {h : Mann} (hok : okR r h) : r.fields.length + 1 ≤ maxLen ∧ (r.fields.length + 1) * 32 ≤ 140737488355328 ∧ r.fields.length + 1 + 1 ≤ maxLen ∧ (r.fields.length + 1 + 1) * 32 ≤ 140737488355328 := by
  have := hok.1
  unfold maxLen
  omega
theorem more_ok {r : Resp} {h : Mann} (hok : okR r h) : fsz (moreM r h) + (moreM r h).length ≤ 16777216 := Nat.le_trans (moreM_sz r h hok) (by omega)
theorem lines_ok {r : Resp} {h : Mann} (hok : okR r h) : (printF (moreM r h)).1.length ≤ 16777216 := by
  have h1 := moreM_sz r h hok
  have h2 := printF_le (l := moreM r h)
  omega
theorem fprint_pc' (hE : SE E) (l : List Fld) (L : List (List AV)) (hL : L = flds l) (hl : fsz l + l.length ≤ 16777216) (hQ : Q (.tup [.str (printF l).1, .int .i64 (printF l).2]) H) : PC Tryz.prog E 48 [.sl false 2 L] H Q := hL ▸ fprint_pc E H Q hE l hl hQ
set_option maxHeartbeats 2000000 in
theorem head_pc (hE : SM E) (r : Resp) (h : Mann) (hok : okR r h) (hQ : Q (.tup [.str (headP r h).1, .int .i64 (headP r h).2]) H) : PC Tryz.prog E 14 [.agg r.avs, .agg h.avs] H Q := by
  have hok' := hok
  obtain ⟨o1, o2, o3, o4, o5, o6, ⟨o7, o8⟩, o9⟩ := hok'
  have fin : ∀ a : List UInt8 × Int, headP r h = a → Q (.tup [.str a.1, .int .i64 a.2]) H := fun a ha => ha ▸ hQ
  have hR : r.avs = [.int .i64 r.status, .str r.reason, .sl false 2 (flds r.fields), .str r.body] := rfl
  have hM : h.avs = [.str h.method, .bool h.close, .bool h.old, .bool h.chunked, .sl false 1 (ints h.sizes), .sl false 2 (flds h.trailers)] := rfl
  rw [hR, hM]
  refine pc_enter Tryz.func14 rfl [22, 30, 45, 56] [] (by kernel_rfl) (fun hB => ?_)
  simp [Tryz.ntmps14, Tryz.results14, List.replicate_succ]
  refine wrong_pc E _ _ r h hok ?_
  by_cases hw : wrongM r h = 0
  rotate_left
  · have hw2 : (wrongM r h != 0) = true := by simpa using hw
    simp [hw2]
    exact aPost_same hB (v0 := .tup [.str [], .int .i64 (wrongM r h)]) (by simp) (nilV_refl _) (by simp) (fin ([], wrongM r h) (by unfold headP; rw [if_pos hw]))
  obtain ⟨m1, m2, m3, m4⟩ := fl_facts hok
  simp [hw]
  refine cloneOwn_pc E _ _ r.fields (by omega) ?_
  cases hc : h.chunked
  case' true =>
    have hX := moreX_c (r := r) hc
    simp [m1, m2]
  case' false =>
    simp
    refine never_pc E _ _ r.status ?_
    cases hn : neverS r.status
    case' true =>
      have hX := moreX_n hc hn
      simp
    case' false =>
      have hX := moreX_l hc hn
      simp
      refine itoa_pc E _ _ hE.2 r.body.length (by omega) (by omega) ?_
      simp [m1, m2]
  all_goals
    by_cases h199 : 199 < r.status
    case' neg =>
      have hY := moreY_s (h := h) h199
      simp [h199]
    case' pos =>
      cases hcl : h.close
      case' true =>
        have hY := moreY_c h199 hcl
        simp [h199, m1, m2, m3, m4]
      case' false =>
        cases hol : h.old
        case' true =>
          have hY := moreY_o h199 hcl hol
          simp [h199, m1, m2, m3, m4]
        case' false =>
          have hY := moreY_n (r := r) hcl hol
          simp [h199]
  all_goals
    refine fprint_pc' E _ _ hE.1.1 (moreM r h) _ ?_ (more_ok hok) ?_
    · rw [moreM_eq, hX, hY]
      simp [flds, nTE, nCL, nCO, vChunked, vClose, vKeep]
  all_goals
    clear hX hY m1 m2 m3 m4
    have hl := lines_ok hok
    have hrl := reason_len r.status
    have hil := (itoa_le r.status o7 o8).1
    simp
    by_cases hp : (printF (moreM r h)).2 = 0
    rotate_left
    · have hp2 : ((printF (moreM r h)).2 != 0) = true := by simpa using hp
      simp [hp2]
      exact aPost_same hB (v0 := .tup [.str [], .int .i64 (printF (moreM r h)).2]) (by simp) (nilV_refl _) (by simp) (fin ([], (printF (moreM r h)).2) (headP_bad hw hp))
    have hA := headP_ok hw hp
    generalize (printF (moreM r h)).1 = L at *
    generalize hS : Go.Lib.itoa r.status = S at *
    by_cases hre : r.reason = []
    case' pos =>
      rw [if_pos hre] at hA
      simp [hp, hre]
      refine reason_pc E _ _ r.status ?_
      generalize reasonB r.status = R at *
      simp
    case' neg =>
      rw [if_neg hre] at hA
      have hre2 : (r.reason == []) = false := by simpa using hre
      simp [hp, hre2]
  all_goals
    refine itoa_pc E _ _ hE.2 r.status o7 o8 ?_
    rw [hS]
    have k1 : 9 + S.length ≤ maxLen := by unfold maxLen; omega
    have hmx : ∀ n : Nat, n ≤ 100000000 → n ≤ maxLen := fun n hn => by unfold maxLen; omega
    simp
    simp (disch := omega) only [hmx, if_true, if_pos]
    simp
    simp (disch := omega) only [hmx, if_true, if_pos]
    simp
    simp (disch := omega) only [hmx, if_true, if_pos]
    simp
    simp (disch := omega) only [hmx, if_true, if_pos]
    simp
    simp (disch := omega) only [hmx, if_true, if_pos]
    simp
    simp (disch := omega) only [hmx, if_true, if_pos]
    simp
  all_goals
    first
      | exact aPost_same hB (v0 := .tup [.str (verT ++ ([49, 32] ++ (S ++ ([32] ++ (R ++ ([13, 10] ++ (L ++ [13, 10]))))))), .int .i64 0]) (by simp [verT]) (nilV_refl _) (by simp) (fin (_, 0) hA)
      | exact aPost_same hB (v0 := .tup [.str (verT ++ ([49, 32] ++ (S ++ ([32] ++ (r.reason ++ ([13, 10] ++ (L ++ [13, 10]))))))), .int .i64 0]) (by simp [verT]) (nilV_refl _) (by simp) (fin (_, 0) hA)
end
end Go.Proofs.YtcdkcaocfioigaaGreatDoor

set_option linter.unusedVariables false
set_option linter.unnecessarySimpa false
set_option linter.unusedSimpArgs false
set_option linter.unusedSectionVars false
set_option maxRecDepth 100000
namespace Go.Proofs.YtcdkcaocfioigaaGreatDoor
open Go Go.RowKit Go.Proofs

theorem headP_le {r : Resp} {h : Mann} (hok : okR r h) : (headP r h).1.length ≤ 20000000 := by
  have hl := lines_ok hok
  have hrl := reason_len r.status
  have hil := (itoa_le r.status hok.2.2.2.2.2.2.1.1 hok.2.2.2.2.2.2.1.2).1
  have hr := hok.2.2.2.1
  by_cases hw : wrongM r h = 0
  · by_cases hp : (printF (moreM r h)).2 = 0
    · rw [headP_ok hw hp]
      generalize (printF (moreM r h)).1 = L at *
      generalize Go.Lib.itoa r.status = S at *
      simp only [List.length_append, verT, List.length_cons, List.length_nil]
      split <;> omega
    · rw [headP_bad hw hp]; simp
  · unfold headP; rw [if_pos hw]; simp
theorem enc_le {r : Resp} {h : Mann} (hok : okR r h) : (encAns r.body h.sizes h.trailers).1.length ≤ 40000000 := by
  obtain ⟨o1, o2, o3, o4, o5, o6, o7, o9⟩ := hok
  unfold encAns
  split
  · simp
  · split
    · simp
    · rename_i h1 h2
      have hns : ∀ z ∈ h.sizes, 1 ≤ z := fun z hz => by
        rw [Bool.not_eq_false] at h1
        have := List.all_eq_true.1 h1 z hz
        simpa using this
      have hpf : (piecesB r.body h.sizes).flatten = r.body := pieces_flat _ _
      have htot := chunksT_le (piecesB r.body h.sizes) (pieces_ne h.sizes r.body hns) (by rw [hpf]; omega)
      have hlin := linesT_le h.trailers
      rw [hpf] at htot
      unfold encT
      simp
      omega
section
variable (E : Env) (H : Hp) (Q : AV → Hp → Prop)
theorem mprint_pc (hE : SM E) (r : Resp) (h : Mann) (hok : okR r h) (hQ : Q (.tup [.str (printP r h).1, .int .i64 (printP r h).2]) H) : PC Tryz.prog E 18 [.agg r.avs, .agg h.avs] H Q := by
  have hhl := headP_le hok
  have hel := enc_le hok
  have hok' := hok
  obtain ⟨o1, o2, o3, o4, o5, o6, ⟨o7, o8⟩, o9⟩ := hok'
  have fin : ∀ a : List UInt8 × Int, printP r h = a → Q (.tup [.str a.1, .int .i64 a.2]) H := fun a ha => ha ▸ hQ
  have hR : r.avs = [.int .i64 r.status, .str r.reason, .sl false 2 (flds r.fields), .str r.body] := rfl
  have hM : h.avs = [.str h.method, .bool h.close, .bool h.old, .bool h.chunked, .sl false 1 (ints h.sizes), .sl false 2 (flds h.trailers)] := rfl
  rw [hR, hM]
  refine pc_enter Tryz.func18 rfl [] [] (by kernel_rfl) (fun hB => ?_)
  simp [Tryz.ntmps18, Tryz.results18, List.replicate_succ]
  refine head_pc E _ _ hE r h hok ?_
  have hP : printP r h = if (headP r h).2 ≠ 0 then ([], (headP r h).2) else if 65536 < (headP r h).1.length then ([], 125)
      else if h.chunked = true ∧ (encAns r.body h.sizes h.trailers).2 ≠ 0 then ([], (encAns r.body h.sizes h.trailers).2)
      else if bodylessB h.method r.status = true then ((headP r h).1, 0)
      else ((headP r h).1 ++ (if h.chunked = true then (encAns r.body h.sizes h.trailers).1 else r.body), 0) := by unfold printP; exact Eq.refl _
  generalize headP r h = hd at *
  obtain ⟨hd, he⟩ := hd
  simp only at hP hhl ⊢
  by_cases h0 : he = 0
  rotate_left
  · rw [if_pos h0] at hP
    have h0' : (he != 0) = true := by simpa using h0
    simp [h0']
    exact aPost_same hB (v0 := .tup [.str [], .int .i64 he]) (by simp) (nilV_refl _) (by simp) (fin _ hP)
  rw [if_neg (by simp [h0])] at hP
  by_cases h1 : 65536 < hd.length
  · rw [if_pos h1] at hP
    have h1' : (65536 : Int) < hd.length := by omega
    simp [h0, h1']
    exact aPost_same hB (v0 := .tup [.str [], .int .i64 125]) (by simp) (nilV_refl _) (by simp) (fin _ hP)
  rw [if_neg h1] at hP
  have h1' : ¬ (65536 : Int) < hd.length := by omega
  cases hc : h.chunked with
  | true =>
    simp [h0, h1']
    refine encode_pc E _ _ hE.1 r.body h.sizes h.trailers o5 o3 o2 o9 ?_
    generalize encAns r.body h.sizes h.trailers = en at *
    obtain ⟨en, ee⟩ := en
    simp only at hP hel ⊢
    by_cases h2 : ee = 0
    rotate_left
    · rw [if_pos ⟨hc, h2⟩] at hP
      have h2' : (ee != 0) = true := by simpa using h2
      simp [h2']
      exact aPost_same hB (v0 := .tup [.str [], .int .i64 ee]) (by simp) (nilV_refl _) (by simp) (fin _ hP)
    rw [if_neg (fun e => e.2 h2), if_pos hc] at hP
    simp [h2]
    refine bodyless_pc E _ _ h.method r.status ?_
    cases hb : bodylessB h.method r.status with
    | true =>
      rw [if_pos hb] at hP
      simp
      exact aPost_same hB (v0 := .tup [.str hd, .int .i64 0]) (by simp) (nilV_refl _) (by simp) (fin _ hP)
    | false =>
      rw [if_neg (by rw [hb]; simp)] at hP
      have m1 : hd.length + en.length ≤ maxLen := by unfold maxLen; omega
      simp [m1]
      exact aPost_same hB (v0 := .tup [.str (hd ++ en), .int .i64 0]) (by simp) (nilV_refl _) (by simp) (fin _ hP)
  | false =>
    rw [if_neg (fun e => by rw [hc] at e; cases e.1), if_neg (show ¬ h.chunked = true by rw [hc]; simp)] at hP
    simp [h0, h1']
    refine bodyless_pc E _ _ h.method r.status ?_
    cases hb : bodylessB h.method r.status with
    | true =>
      rw [if_pos hb] at hP
      simp
      exact aPost_same hB (v0 := .tup [.str hd, .int .i64 0]) (by simp) (nilV_refl _) (by simp) (fin _ hP)
    | false =>
      rw [if_neg (by rw [hb]; simp)] at hP
      have m1 : hd.length + r.body.length ≤ maxLen := by unfold maxLen; omega
      simp [m1]
      exact aPost_same hB (v0 := .tup [.str (hd ++ r.body), .int .i64 0]) (by simp) (nilV_refl _) (by simp) (fin _ hP)
end
end Go.Proofs.YtcdkcaocfioigaaGreatDoor

set_option linter.unusedVariables false
set_option linter.unnecessarySimpa false
set_option linter.unusedSimpArgs false
set_option linter.unusedSectionVars false
set_option maxRecDepth 100000
namespace Go.Proofs.YtcdkcaocfioigaaGreatDoor
open Go Go.RowKit Go.Proofs

theorem lineS_nil (back : Bool) (i : Nat) : lineS back [] i = .part := by cases back <;> rfl
theorem lineS_back (b : UInt8) (r : List UInt8) (i : Nat) : lineS true (b :: r) i = if b = 10 then .ok (i + 1) else .bad i := by rw [lineS, if_pos rfl]
theorem lineS_go (b : UInt8) (r : List UInt8) (i : Nat) : lineS false (b :: r) i = if b = 10 then .bad i else lineS (decide (b = 13)) r (i + 1) := by rw [lineS, if_neg (by simp)]
section
variable (E : Env) (H : Hp) (Q : AV → Hp → Prop)
def lnInv (t : List UInt8) (a : Nat) (H : Hp) (fr : List AV) (H' : Hp) : Prop := H' = H ++ [[.int .i64 0, .int .i64 0]] ∧ ∃ i : Nat, a ≤ i ∧ i ≤ t.length ∧ lineS false (t.drop i) i = lineR t a ∧
  ∃ x : Nat → AV, fr = [.str t, .int .i64 a, x 2, x 3, x 4, x 5, .ptr (some (H.length, 0)), .int .i64 i, x 8, x 9, x 10, x 11, x 12, x 13, x 14, x 15, x 16, x 17, x 18, x 19, x 20, x 21, x 22, x 23, x 24, x 25, x 26, x 27, x 28, x 29, x 30, x 31, x 32, x 33, x 34, x 35, x 36, x 37, x 38, x 39, x 40, x 41, x 42, x 43, x 44, x 45, x 46, x 47, x 48, x 49, x 50, x 51, x 52, x 53, x 54]
theorem line_pc (t : List UInt8) (a : Nat) (ha : a ≤ t.length) (hl : t.length ≤ 1073741824) (hQ1 : ∀ i : Nat, a ≤ i → i + 2 ≤ t.length → lineR t a = .ok (i + 2) → Q (.tup [.str ((t.drop a).take (i - a)), .int .i64 ((i + 2 : Nat) : Int), .agg [.int .i64 0, .int .i64 0]]) H)
    (hQ2 : ∀ n : Nat, lineR t a = .bad n → Q (.tup [.str [], .int .i64 0, .agg [.int .i64 n, .int .i64 122]]) H) (hQ3 : lineR t a = .part → Q (.tup [.str [], .int .i64 0, .agg [.int .i64 t.length, .int .i64 124]]) H) :
    PC Tryz.prog E 111 [.str t, .int .i64 a] H Q := by
  refine pc_enter Tryz.func111 rfl [] [] (by kernel_rfl) (fun hB => ?_)
  simp [Tryz.ntmps111, Tryz.results111, List.replicate_succ]
  refine VL_go (lnInv t a H) (fun fr _ => t.length - (ai (aget fr 7)).toNat) ⟨rfl, a, by omega, ha, rfl, fr_intro (by simp)⟩ ?_
  rintro fr H' ⟨rfl, i, hai, hi, hS, x, rfl⟩
  by_cases h : i < t.length
  · obtain ⟨b, hb⟩ : ∃ b, t[i]? = some b := ⟨_, List.getElem?_eq_getElem h⟩
    have hat := lat_eq hb
    have hd := drop_at t i b hb
    have hw : IntKind.i64.wrap ((i : Int) + 1) = i + 1 := wrap_in (by omega) (by omega)
    rw [hd, lineS_go] at hS
    by_cases h10 : b = 10
    · subst h10
      rw [if_pos rfl] at hS
      simp [h, hat]
      exact aPost_same hB (v0 := .tup [.str [], .int .i64 0, .agg [.int .i64 i, .int .i64 122]]) (by simp) (nilV_refl _) (by simp) (hQ2 i hS.symm)
    have b10 : ((b.toNat : Int) == 10) = false := by
      rw [beq_eq_false_iff_ne]; intro e; exact h10 (UInt8.toNat_inj.1 (by have : (10 : UInt8).toNat = 10 := rfl; omega))
    rw [if_neg h10] at hS
    by_cases h13 : b = 13
    rotate_left
    · have b13 : ((b.toNat : Int) != 13) = true := by
        rw [bne_iff_ne]; intro e; exact h13 (UInt8.toNat_inj.1 (by have : (13 : UInt8).toNat = 13 := rfl; omega))
      rw [decide_eq_false h13] at hS
      simp [h, hat, b10, b13, hw]
      exact Kloop_normal ⟨rfl, i + 1, by omega, by omega, hS, fr_intro (by simp)⟩ (by simp; omega)
    subst h13
    simp only [decide_true] at hS
    by_cases hl2 : i + 1 = t.length
    · rw [List.drop_of_length_le (by omega), lineS_nil] at hS
      have e1 : ((i : Int) + 1 == t.length) = true := by rw [beq_iff_eq]; omega
      simp [h, hat, hw, e1]
      exact aPost_same hB (v0 := .tup [.str [], .int .i64 0, .agg [.int .i64 t.length, .int .i64 124]]) (by simp) (nilV_refl _) (by simp) (hQ3 hS.symm)
    · have hlt : i + 1 < t.length := by omega
      obtain ⟨c, hcc⟩ : ∃ c, t[i + 1]? = some c := ⟨_, List.getElem?_eq_getElem hlt⟩
      have hat2 := lat_eq hcc
      have e1 : ((i : Int) + 1 == t.length) = false := by rw [beq_eq_false_iff_ne]; omega
      have tn : ((i : Int) + 1).toNat = i + 1 := by omega
      rw [drop_at t (i + 1) c hcc, lineS_back] at hS
      have hlt2 : (i : Int) + 1 < t.length := by omega
      have hge2 : (0 : Int) ≤ (i : Int) + 1 := by omega
      by_cases hc10 : c = 10
      · subst hc10
        rw [if_pos rfl] at hS
        have hw2 : IntKind.i64.wrap ((i : Int) + 2) = i + 2 := wrap_in (by omega) (by omega)
        have hile : i ≤ t.length := by omega
        simp [h, hat, hw, e1, hat2, tn, hlt2, hge2, hw2, hai, hile]
        exact aPost_same hB (v0 := .tup [.str ((t.drop a).take (i - a)), .int .i64 ((i + 2 : Nat) : Int), .agg [.int .i64 0, .int .i64 0]]) (by simp) (nilV_refl _) (by simp) (hQ1 i hai (by omega) hS.symm)
      · rw [if_neg hc10] at hS
        have b10' : ((c.toNat : Int) != 10) = true := by
          rw [bne_iff_ne]; intro e; exact hc10 (UInt8.toNat_inj.1 (by have : (10 : UInt8).toNat = 10 := rfl; omega))
        simp [h, hat, hw, e1, hat2, tn, hlt2, hge2, b10']
        exact aPost_same hB (v0 := .tup [.str [], .int .i64 0, .agg [.int .i64 ((i + 1 : Nat) : Int), .int .i64 122]]) (by simp) (nilV_refl _) (by simp) (hQ2 (i + 1) hS.symm)
  · obtain rfl : i = t.length := by omega
    rw [List.drop_of_length_le (Nat.le_refl _), lineS_nil] at hS
    simp
    exact aPost_same hB (v0 := .tup [.str [], .int .i64 0, .agg [.int .i64 t.length, .int .i64 124]]) (by simp) (nilV_refl _) (by simp) (hQ3 hS.symm)
end
end Go.Proofs.YtcdkcaocfioigaaGreatDoor

set_option linter.unusedVariables false
set_option linter.unnecessarySimpa false
set_option linter.unusedSimpArgs false
set_option linter.unusedSectionVars false
set_option maxRecDepth 100000
namespace Go.Proofs.YtcdkcaocfioigaaGreatDoor
open Go Go.RowKit Go.Proofs

theorem preR_end (s : List UInt8) (n i : Nat) (h : s[i]? = none) : preR s (n + 1) i = .part := by rw [preR, h]
theorem preR_ok {s : List UInt8} {n i : Nat} {b : UInt8} (h : s[i]? = some b) (hb : stB i b = true) : preR s (n + 1) i = preR s n (i + 1) := by rw [preR, h]; simp [hb]
theorem preR_bad {s : List UInt8} {n i : Nat} {b : UInt8} (h : s[i]? = some b) (hb : stB i b = false) : preR s (n + 1) i = .bad i := by rw [preR, h]; simp [hb]
theorem stR_part {s : List UInt8} (h : preR s 13 0 = .part) : stR s = .part := by unfold stR; rw [h]
theorem stR_bad {s : List UInt8} {i : Nat} (h : preR s 13 0 = .bad i) : stR s = .bad i := by unfold stR; rw [h]
theorem stR_ok {s : List UInt8} {i : Nat} (h : preR s 13 0 = .ok i) : stR s = reasonR (s.drop 13) 0 13 := by unfold stR; rw [h]
theorem reasonR_nil (k i : Nat) : reasonR [] k i = .part := rfl
theorem reasonR_cr1 (k i : Nat) : reasonR [13] k i = .part := rfl
theorem reasonR_cr (c : UInt8) (r : List UInt8) (k i : Nat) : reasonR (13 :: c :: r) k i = if c = 10 then .ok (i + 2) else .bad (i + 1) := by rw [reasonR, if_pos rfl]
theorem reasonR_bad (b : UInt8) (r : List UInt8) (k i : Nat) (h : b ≠ 13) (h2 : 256 ≤ k ∨ fcB b = false) : reasonR (b :: r) k i = .bad i := by
  rw [reasonR.eq_def]
  simp only
  rw [if_neg h, if_pos h2]
theorem reasonR_go (b : UInt8) (r : List UInt8) (k i : Nat) (h : b ≠ 13) (h2 : ¬ (256 ≤ k ∨ fcB b = false)) : reasonR (b :: r) k i = reasonR r (k + 1) (i + 1) := by
  rw [reasonR.eq_def]
  simp only
  rw [if_neg h, if_neg h2]
end Go.Proofs.YtcdkcaocfioigaaGreatDoor

set_option linter.unusedVariables false
set_option linter.unnecessarySimpa false
set_option linter.unusedSimpArgs false
set_option linter.unusedSectionVars false
set_option maxRecDepth 100000
namespace Go.Proofs.YtcdkcaocfioigaaGreatDoor
open Go Go.RowKit Go.Proofs

/-- The cells of a reply. -/
def rcells (st : Int) (re : List UInt8) (mi : Int) : List AV := [.int .i64 st, .str re, .nil, .str [], .int .i64 mi, .nil, .int .i64 0, .int .i64 0, .bool false]
/-- What may stand behind the version's begin. -/
def mayT : List (List UInt8) := [[48, 49], [32], [49, 50, 51, 52, 53], [48, 49, 50, 51, 52, 53, 54, 55, 56, 57], [48, 49, 50, 51, 52, 53, 54, 55, 56, 57], [32]]
def stP (s : List UInt8) (k : Nat) : Int := if k ≤ 2 then 0 else if k = 3 then dg s 9 else if k = 4 then 10 * dg s 9 + dg s 10 else 10 * (10 * dg s 9 + dg s 10) + dg s 11
def miP (s : List UInt8) (k : Nat) : Int := if k = 0 then 0 else dg s 7
theorem may_all : ∀ k, k < 6 → ∀ n, n < 256 → decide (Lib.indexByte (mayT.getD k []) (UInt8.ofNat n) < 0) = !stB (7 + k) (UInt8.ofNat n) := by decide +kernel
theorem may_at {k : Nat} (hk : k < 6) (b : UInt8) : decide (Lib.indexByte (mayT.getD k []) b < 0) = !stB (7 + k) b := by
  have := may_all k hk b.toNat b.toNat_lt
  rw [u8_ofNat] at this
  exact this
theorem may_dig : ∀ n, n < 256 → ((stB 7 (UInt8.ofNat n) = true ∨ stB 9 (UInt8.ofNat n) = true ∨ stB 10 (UInt8.ofNat n) = true ∨ stB 11 (UInt8.ofNat n) = true) → 48 ≤ n ∧ n ≤ 57) := by decide +kernel
theorem may_dig' {b : UInt8} (h : stB 7 b = true ∨ stB 9 b = true ∨ stB 10 b = true ∨ stB 11 b = true) : 48 ≤ b.toNat ∧ b.toNat ≤ 57 := by
  have := may_dig b.toNat b.toNat_lt
  rw [u8_ofNat] at this
  exact this h
theorem u8_sub48 : ∀ n : Nat, n < 256 → 48 ≤ n → IntKind.u8.wrap ((n : Int) - 48) = (n : Int) - 48 := by decide
theorem dg_at {s : List UInt8} {i : Nat} {b : UInt8} (h : s[i]? = some b) : dg s i = (b.toNat : Int) - 48 := by unfold dg; rw [h]; rfl
theorem wlit : IntKind.i64.wrap 0 = 0 ∧ IntKind.i64.wrap 1 = 1 ∧ IntKind.i64.wrap 2 = 2 ∧ IntKind.i64.wrap 3 = 3 ∧ IntKind.i64.wrap 4 = 4 ∧ IntKind.i64.wrap 5 = 5 ∧ IntKind.i64.wrap 6 = 6 ∧ IntKind.i64.wrap 7 = 7 ∧ IntKind.i64.wrap 8 = 8 ∧ IntKind.i64.wrap 9 = 9 ∧ IntKind.i64.wrap 10 = 10 ∧ IntKind.i64.wrap 11 = 11 ∧ IntKind.i64.wrap 12 = 12 ∧ IntKind.i64.wrap 13 = 13 := by decide
theorem mayT_at (k : Nat) (hk : k < 6) : lat [[AV.str [48, 49]], [.str [32]], [.str [49, 50, 51, 52, 53]], [.str [48, 49, 50, 51, 52, 53, 54, 55, 56, 57]], [.str [48, 49, 50, 51, 52, 53, 54, 55, 56, 57]], [.str [32]]] k = some [.str (mayT.getD k [])] := by
  rcases (by omega : k = 0 ∨ k = 1 ∨ k = 2 ∨ k = 3 ∨ k = 4 ∨ k = 5) with rfl | rfl | rfl | rfl | rfl | rfl <;> rfl
section
variable (E : Env) (H : Hp) (Q : AV → Hp → Prop)
def slInv1 (s : List UInt8) (H : Hp) (fr : List AV) (H' : Hp) : Prop := H' = H ++ [rcells 0 [] 0, [.int .i64 0, .int .i64 0], rcells 0 [] 0, [.int .i64 s.length, .int .i64 124]] ∧ ∃ i : Nat, i ≤ 7 ∧ i ≤ s.length ∧ preR s (13 - i) i = preR s 13 0 ∧
  ∃ x : Nat → AV, fr = [.str s, x 1, .ptr (some (H.length, 0)), x 3, .ptr (some (H.length + 1, 0)), .ptr (some (H.length + 2, 0)), .int .i64 i, .ptr (some (H.length + 3, 0)), x 8, x 9, x 10, x 11, x 12, x 13, x 14, x 15, x 16, x 17, x 18, x 19, x 20, x 21, x 22, x 23, x 24, x 25, x 26, x 27, x 28, x 29, x 30, x 31, x 32, x 33, x 34, x 35, x 36, x 37, x 38, x 39, x 40, x 41, x 42, x 43, x 44, x 45, x 46, x 47, x 48, x 49, x 50, x 51, x 52, x 53, x 54, x 55, x 56, x 57, x 58, x 59, x 60, x 61, x 62, x 63, x 64, x 65, x 66, x 67, x 68, x 69, x 70, x 71, x 72, x 73, x 74, x 75, x 76, x 77, x 78, x 79, x 80, x 81, x 82, x 83, x 84, x 85, x 86, x 87, x 88, x 89, x 90, x 91, x 92, x 93, x 94, x 95, x 96, x 97, x 98, x 99, x 100, x 101, x 102, x 103, x 104, x 105, x 106, x 107, x 108, x 109, x 110, x 111, x 112, x 113, x 114, x 115, x 116, x 117, x 118, x 119, x 120, x 121, x 122, x 123, x 124, x 125, x 126, x 127, x 128, x 129, x 130, x 131, x 132, x 133, x 134, x 135, x 136, x 137, x 138, x 139, x 140, x 141]
def slInv2 (s : List UInt8) (H : Hp) (fr : List AV) (H' : Hp) : Prop := ∃ k : Nat, k ≤ 6 ∧ 7 + k ≤ s.length ∧ preR s (6 - k) (7 + k) = preR s 13 0 ∧
  H' = H ++ [rcells 0 [] 0, [.int .i64 0, .int .i64 0], rcells (stP s k) [] (miP s k), [.int .i64 s.length, .int .i64 124]] ∧
  ∃ x : Nat → AV, fr = [.str s, x 1, .ptr (some (H.length, 0)), x 3, .ptr (some (H.length + 1, 0)), .ptr (some (H.length + 2, 0)), .int .i64 ((7 + k : Nat) : Int), .ptr (some (H.length + 3, 0)), x 8, x 9, x 10, x 11, x 12, x 13, x 14, x 15, x 16, x 17, x 18, x 19, x 20, x 21, x 22, x 23, x 24, x 25, x 26, x 27, x 28, x 29, x 30, x 31, x 32, x 33, .sl true 1 [[AV.str [48, 49]], [.str [32]], [.str [49, 50, 51, 52, 53]], [.str [48, 49, 50, 51, 52, 53, 54, 55, 56, 57]], [.str [48, 49, 50, 51, 52, 53, 54, 55, 56, 57]], [.str [32]]], .int .i64 6, .int .i64 k, x 37, x 38, x 39, x 40, x 41, x 42, x 43, x 44, x 45, x 46, x 47, x 48, x 49, x 50, x 51, x 52, x 53, x 54, x 55, x 56, x 57, x 58, x 59, x 60, x 61, x 62, x 63, x 64, x 65, x 66, x 67, x 68, x 69, x 70, x 71, x 72, x 73, x 74, x 75, x 76, x 77, x 78, x 79, x 80, x 81, x 82, x 83, x 84, x 85, x 86, x 87, x 88, x 89, x 90, x 91, x 92, x 93, x 94, x 95, x 96, x 97, x 98, x 99, x 100, x 101, x 102, x 103, x 104, x 105, x 106, x 107, x 108, x 109, x 110, x 111, x 112, x 113, x 114, x 115, x 116, x 117, x 118, x 119, x 120, x 121, x 122, x 123, x 124, x 125, x 126, x 127, x 128, x 129, x 130, x 131, x 132, x 133, x 134, x 135, x 136, x 137, x 138, x 139, x 140, x 141]
def slInv3 (s : List UInt8) (H : Hp) (fr : List AV) (H' : Hp) : Prop := ∃ i : Nat, 13 ≤ i ∧ i ≤ s.length ∧ reasonR (s.drop i) (i - 13) i = stR s ∧
  H' = H ++ [rcells 0 [] 0, [.int .i64 0, .int .i64 0], rcells (stP s 6) [] (miP s 6), [.int .i64 s.length, .int .i64 124]] ∧
  ∃ x : Nat → AV, fr = [.str s, x 1, .ptr (some (H.length, 0)), x 3, .ptr (some (H.length + 1, 0)), .ptr (some (H.length + 2, 0)), .int .i64 i, .ptr (some (H.length + 3, 0)), x 8, x 9, .int .i64 13, x 11, x 12, x 13, x 14, x 15, x 16, x 17, x 18, x 19, x 20, x 21, x 22, x 23, x 24, x 25, x 26, x 27, x 28, x 29, x 30, x 31, x 32, x 33, x 34, x 35, x 36, x 37, x 38, x 39, x 40, x 41, x 42, x 43, x 44, x 45, x 46, x 47, x 48, x 49, x 50, x 51, x 52, x 53, x 54, x 55, x 56, x 57, x 58, x 59, x 60, x 61, x 62, x 63, x 64, x 65, x 66, x 67, x 68, x 69, x 70, x 71, x 72, x 73, x 74, x 75, x 76, x 77, x 78, x 79, x 80, x 81, x 82, x 83, x 84, x 85, x 86, x 87, x 88, x 89, x 90, x 91, x 92, x 93, x 94, x 95, x 96, x 97, x 98, x 99, x 100, x 101, x 102, x 103, x 104, x 105, x 106, x 107, x 108, x 109, x 110, x 111, x 112, x 113, x 114, x 115, x 116, x 117, x 118, x 119, x 120, x 121, x 122, x 123, x 124, x 125, x 126, x 127, x 128, x 129, x 130, x 131, x 132, x 133, x 134, x 135, x 136, x 137, x 138, x 139, x 140, x 141]
set_option maxHeartbeats 2000000 in
theorem statusLine_pc (s : List UInt8) (hl : s.length ≤ 1073741824)
    (hQ1 : ∀ n : Nat, stR s = .ok n → Q (.tup [.agg (rcells (100 * dg s 9 + 10 * dg s 10 + dg s 11) ((s.drop 13).take (n - 2 - 13)) (dg s 7)), .int .i64 n, .agg [.int .i64 0, .int .i64 0]]) H)
    (hQ2 : ∀ (st : Int) (re : List UInt8) (mi : Int) (n : Nat), stR s = .bad n → Q (.tup [.agg (rcells st re mi), .int .i64 0, .agg [.int .i64 n, .int .i64 122]]) H)
    (hQ3 : ∀ (st : Int) (re : List UInt8) (mi : Int), stR s = .part → Q (.tup [.agg (rcells st re mi), .int .i64 0, .agg [.int .i64 s.length, .int .i64 124]]) H) : PC Tryz.prog E 110 [.str s] H Q := by
  refine pc_enterF (fun i => i = H.length + 2 ∨ i = H.length + 3) Tryz.func110 rfl [] [(7, [2, 2, 2, 0, 2]), (14, [2, 2, 2, 0, 2]), (29, [2, 2, 2, 0, 2]), (33, [2, 2, 2, 0, 2])] (by kernel_rfl) (fun E' hS' h0' hF' hB => ?_)
  simp [Tryz.ntmps110, Tryz.results110, List.replicate_succ]
  refine VL_go (slInv1 s H) (fun fr _ => 7 - (ai (aget fr 6)).toNat) ⟨by simp [rcells], 0, by omega, by omega, rfl, fr_intro (by simp)⟩ ?_
  rintro fr H' ⟨rfl, i, hi7, hi, hpre, x, rfl⟩
  by_cases h : i < 7
  · have h7 : (i : Int) < 7 := by omega
    obtain ⟨m, hm⟩ : ∃ m, 13 - i = m + 1 := ⟨12 - i, by omega⟩
    rw [hm] at hpre
    by_cases hl2 : i = s.length
    · have e1 : ((i : Int) == s.length) = true := by rw [beq_iff_eq]; omega
      rw [preR_end s m i (List.getElem?_eq_none (by omega))] at hpre
      simp [h7, e1, rcells, hS']
      exact aPost_same hB (v0 := .tup [.agg (rcells 0 [] 0), .int .i64 0, .agg [.int .i64 s.length, .int .i64 124]]) (by simp [rcells]) (nilV_refl _) (by simp [rcells]) (hQ3 0 [] 0 (stR_part hpre.symm))
    · have hil : i < s.length := by omega
      have e1 : ((i : Int) == s.length) = false := by rw [beq_eq_false_iff_ne]; omega
      obtain ⟨b, hb⟩ : ∃ b, s[i]? = some b := ⟨_, List.getElem?_eq_getElem hil⟩
      have hat := lat_eq hb
      obtain ⟨v, hv⟩ : ∃ v, verT[i]? = some v := ⟨_, List.getElem?_eq_getElem (by simp [verT]; omega)⟩
      have hvl : lat [72, 84, 84, 80, 47, 49, 46] i = some v := lat_eq hv
      have hw : IntKind.i64.wrap ((i : Int) + 1) = i + 1 := wrap_in (by omega) (by omega)
      have hst : stB i b = decide (v = b) := by unfold stB; rw [if_pos h, hv]; simp
      by_cases hvb : v = b
      · subst hvb
        rw [preR_ok hb (by rw [hst]; simp)] at hpre
        simp [h7, e1, hat, hvl, hil, hw, rcells]
        exact Kloop_normal ⟨by simp [rcells], i + 1, by omega, by omega, by rw [show 13 - (i + 1) = m by omega]; exact hpre, fr_intro (by simp)⟩ (by simp; omega)
      · have hne : ((b.toNat : Int) != v.toNat) = true := by
          rw [bne_iff_ne]; intro e; exact hvb (UInt8.toNat_inj.1 (by omega))
        rw [preR_bad hb (by rw [hst]; simp [hvb])] at hpre
        simp [h7, e1, hat, hvl, hil, hne, rcells]
        exact aPost_same hB (v0 := .tup [.agg (rcells 0 [] 0), .int .i64 0, .agg [.int .i64 i, .int .i64 122]]) (by simp [rcells]) (nilV_refl _) (by simp [rcells]) (hQ2 0 [] 0 i (stR_bad hpre.symm))
  · obtain rfl : i = 7 := by omega
    have hbt : ∀ b : UInt8, (b.toNat : Int) < 256 := fun b => by have := b.toNat_lt; omega
    have hr6 : [0, 1, 2, 3, 4, 5] = List.range 6 := rfl
    simp [rcells, hr6]
    refine VL_go (slInv2 s H) (fun fr _ => 6 - (ai (aget fr 36)).toNat) ⟨0, by omega, by omega, hpre, by simp [rcells, stP, miP], fr_intro (by simp)⟩ ?_
    rintro fr H' ⟨k, hk6, hk, hpre2, rfl, x, rfl⟩
    by_cases h6 : k < 6
    · have h6' : (k : Int) < 6 := by omega
      obtain ⟨m, hm⟩ : ∃ m, 6 - k = m + 1 := ⟨5 - k, by omega⟩
      rw [hm] at hpre2
      have hmay := mayT_at k h6
      have hw : IntKind.i64.wrap (7 + (k : Int) + 1) = 7 + (k + 1) := by rw [wrap_in (by omega) (by omega)]; omega
      have hwk : IntKind.i64.wrap ((k : Int) + 1) = k + 1 := wrap_in (by omega) (by omega)
      by_cases hl2 : 7 + k = s.length
      · have e1 : (7 + (k : Int) == s.length) = true := by rw [beq_iff_eq]; omega
        rw [preR_end s m (7 + k) (List.getElem?_eq_none (by omega))] at hpre2
        simp [h6', hmay, e1, rcells, hS']
        exact aPost_same hB (v0 := .tup [.agg (rcells (stP s k) [] (miP s k)), .int .i64 0, .agg [.int .i64 s.length, .int .i64 124]]) (by simp [rcells]) (nilV_refl _) (by simp [rcells]) (hQ3 _ [] _ (stR_part hpre2.symm))
      · have hil : 7 + k < s.length := by omega
        have e1 : (7 + (k : Int) == s.length) = false := by rw [beq_eq_false_iff_ne]; omega
        obtain ⟨b, hb⟩ : ∃ b, s[7 + k]? = some b := ⟨_, List.getElem?_eq_getElem hil⟩
        have hat : lat s (7 + k) = some b := lat_eq hb
        have hge : (0 : Int) ≤ 7 + (k : Int) := by omega
        have hlt : 7 + (k : Int) < s.length := by omega
        have htn : (7 + (k : Int)).toNat = 7 + k := by omega
        have hma := may_at h6 b
        simp [h6', hmay, e1, hge, hlt, htn, hat]
        refine indexByte_pc E' _ _ (mayT.getD k []) b ?_
        cases hsb : stB (7 + k) b with
        | false =>
          rw [hsb] at hma
          have hlt0 : Lib.indexByte (mayT.getD k []) b < 0 := by simpa using hma
          rw [preR_bad hb hsb] at hpre2
          simp only [List.getD_eq_getElem?_getD] at hlt0
          simp [hlt0, rcells]
          exact aPost_same hB (v0 := .tup [.agg (rcells (stP s k) [] (miP s k)), .int .i64 0, .agg [.int .i64 ((7 + k : Nat) : Int), .int .i64 122]]) (by simp [rcells]) (nilV_refl _) (by simp [rcells]) (hQ2 _ [] _ (7 + k) (stR_bad hpre2.symm))
        | true =>
          rw [hsb] at hma
          have hlt0 : ¬ Lib.indexByte (mayT.getD k []) b < 0 := by simpa using hma
          rw [preR_ok hb hsb] at hpre2
          simp only [List.getD_eq_getElem?_getD] at hlt0
          have hpre3 : preR s (6 - (k + 1)) (7 + (k + 1)) = preR s 13 0 := by rw [show 6 - (k + 1) = m by omega]; exact hpre2
          have hdg := dg_at hb
          have hrng : ∀ i, -48 ≤ dg s i ∧ dg s i ≤ 207 := fun i => by
            unfold dg
            have := (s[i]?.getD 0).toNat_lt
            omega
          have fin : ∀ (st mi : Int) (fr : List AV), stP s (k + 1) = st → miP s (k + 1) = mi → (∃ x : Nat → AV, fr = [.str s, x 1, .ptr (some (H.length, 0)), x 3, .ptr (some (H.length + 1, 0)), .ptr (some (H.length + 2, 0)), .int .i64 ((7 + (k + 1) : Nat) : Int), .ptr (some (H.length + 3, 0)), x 8, x 9, x 10, x 11, x 12, x 13, x 14, x 15, x 16, x 17, x 18, x 19, x 20, x 21, x 22, x 23, x 24, x 25, x 26, x 27, x 28, x 29, x 30, x 31, x 32, x 33, .sl true 1 [[AV.str [48, 49]], [.str [32]], [.str [49, 50, 51, 52, 53]], [.str [48, 49, 50, 51, 52, 53, 54, 55, 56, 57]], [.str [48, 49, 50, 51, 52, 53, 54, 55, 56, 57]], [.str [32]]], .int .i64 6, .int .i64 ((k + 1 : Nat) : Int), x 37, x 38, x 39, x 40, x 41, x 42, x 43, x 44, x 45, x 46, x 47, x 48, x 49, x 50, x 51, x 52, x 53, x 54, x 55, x 56, x 57, x 58, x 59, x 60, x 61, x 62, x 63, x 64, x 65, x 66, x 67, x 68, x 69, x 70, x 71, x 72, x 73, x 74, x 75, x 76, x 77, x 78, x 79, x 80, x 81, x 82, x 83, x 84, x 85, x 86, x 87, x 88, x 89, x 90, x 91, x 92, x 93, x 94, x 95, x 96, x 97, x 98, x 99, x 100, x 101, x 102, x 103, x 104, x 105, x 106, x 107, x 108, x 109, x 110, x 111, x 112, x 113, x 114, x 115, x 116, x 117, x 118, x 119, x 120, x 121, x 122, x 123, x 124, x 125, x 126, x 127, x 128, x 129, x 130, x 131, x 132, x 133, x 134, x 135, x 136, x 137, x 138, x 139, x 140, x 141]) →
              slInv2 s H fr (H ++ [rcells 0 [] 0, [.int .i64 0, .int .i64 0], rcells st [] mi, [.int .i64 s.length, .int .i64 124]]) := fun st mi fr h1 h2 h3 => ⟨k + 1, by omega, by omega, hpre3, by rw [h1, h2], h3⟩
          rcases (by omega : k = 0 ∨ k = 1 ∨ k = 2 ∨ k = 3 ∨ k = 4 ∨ k = 5) with rfl | rfl | rfl | rfl | rfl | rfl
          · have hd := may_dig' (.inl hsb)
            have hu := u8_sub48 b.toNat b.toNat_lt hd.1
            have hwc : IntKind.i64.wrap ((b.toNat : Int) - 48) = (b.toNat : Int) - 48 := wrap_in (by omega) (by omega)
            have hat2 : lat s 7 = some b := hat
            simp [hlt0, wlit, hat2, hu, hwc, rcells]
            exact Kloop_normal (fin 0 _ _ rfl hdg (fr_intro (by simp))) (by simp)
          · simp [hlt0, wlit, rcells]
            exact Kloop_normal (fin 0 (dg s 7) _ rfl rfl (fr_intro (by simp))) (by simp)
          · have hd := may_dig' (.inr (.inl hsb))
            have hu := u8_sub48 b.toNat b.toNat_lt hd.1
            have hwc : IntKind.i64.wrap ((b.toNat : Int) - 48) = (b.toNat : Int) - 48 := wrap_in (by omega) (by omega)
            have hat2 : lat s 9 = some b := hat
            have hw0 : IntKind.i64.wrap ((b.toNat : Int) - 48) = (b.toNat : Int) - 48 := wrap_in (by omega) (by omega)
            simp [hlt0, wlit, hat2, hu, hwc, hw0, rcells, stP]
            exact Kloop_normal (fin ((b.toNat : Int) - 48) (dg s 7) _ hdg rfl (fr_intro (by simp))) (by simp)
          · have hd := may_dig' (.inr (.inr (.inl hsb)))
            have hu := u8_sub48 b.toNat b.toNat_lt hd.1
            have hwc : IntKind.i64.wrap ((b.toNat : Int) - 48) = (b.toNat : Int) - 48 := wrap_in (by omega) (by omega)
            have hat2 : lat s 10 = some b := hat
            have h9 := hrng 9
            have hw0 : IntKind.i64.wrap (10 * dg s 9) = 10 * dg s 9 := wrap_in (by omega) (by omega)
            have hw1 : IntKind.i64.wrap (10 * dg s 9 + ((b.toNat : Int) - 48)) = 10 * dg s 9 + ((b.toNat : Int) - 48) := wrap_in (by omega) (by omega)
            simp [hlt0, wlit, hat2, hu, hwc, hw0, hw1, rcells, stP]
            exact Kloop_normal (fin (10 * dg s 9 + ((b.toNat : Int) - 48)) (dg s 7) _ (by rw [← hdg]; rfl) rfl (fr_intro (by simp))) (by simp)
          · have hd := may_dig' (.inr (.inr (.inr hsb)))
            have hu := u8_sub48 b.toNat b.toNat_lt hd.1
            have hwc : IntKind.i64.wrap ((b.toNat : Int) - 48) = (b.toNat : Int) - 48 := wrap_in (by omega) (by omega)
            have hat2 : lat s 11 = some b := hat
            have h9 := hrng 9
            have h10 := hrng 10
            have hw0 : IntKind.i64.wrap (10 * (10 * dg s 9 + dg s 10)) = 10 * (10 * dg s 9 + dg s 10) := wrap_in (by omega) (by omega)
            have hw1 : IntKind.i64.wrap (10 * (10 * dg s 9 + dg s 10) + ((b.toNat : Int) - 48)) = 10 * (10 * dg s 9 + dg s 10) + ((b.toNat : Int) - 48) := wrap_in (by omega) (by omega)
            simp [hlt0, wlit, hat2, hu, hwc, hw0, hw1, rcells, stP]
            exact Kloop_normal (fin (10 * (10 * dg s 9 + dg s 10) + ((b.toNat : Int) - 48)) (dg s 7) _ (by rw [← hdg]; rfl) rfl (fr_intro (by simp))) (by simp)
          · simp [hlt0, wlit, rcells]
            exact Kloop_normal (fin (stP s 5) (dg s 7) _ rfl rfl (fr_intro (by simp))) (by simp)
    · obtain rfl : k = 6 := by omega
      have hst : stR s = reasonR (s.drop 13) 0 13 := stR_ok (by rw [← hpre2]; rfl)
      have hmi : miP s 6 = dg s 7 := rfl
      have hs6 : stP s 6 = 100 * dg s 9 + 10 * dg s 10 + dg s 11 := by show 10 * (10 * dg s 9 + dg s 10) + dg s 11 = _; omega
      simp
      refine VL_go (slInv3 s H) (fun fr _ => s.length - (ai (aget fr 6)).toNat) ⟨13, by omega, by omega, hst.symm, rfl, fr_intro (by simp)⟩ ?_
      rintro fr H' ⟨i, h13, hi, hre, rfl, x, rfl⟩
      by_cases hl3 : i = s.length
      · have e1 : ((i : Int) == s.length) = true := by rw [beq_iff_eq]; omega
        rw [List.drop_of_length_le (by omega), reasonR_nil] at hre
        simp [e1, rcells, hS']
        exact aPost_same hB (v0 := .tup [.agg (rcells (stP s 6) [] (miP s 6)), .int .i64 0, .agg [.int .i64 s.length, .int .i64 124]]) (by simp [rcells]) (nilV_refl _) (by simp [rcells]) (hQ3 _ [] _ hre.symm)
      have hil : i < s.length := by omega
      have e1 : ((i : Int) == s.length) = false := by rw [beq_eq_false_iff_ne]; omega
      obtain ⟨b, hb⟩ : ∃ b, s[i]? = some b := ⟨_, List.getElem?_eq_getElem hil⟩
      have hat := lat_eq hb
      have hd := drop_at s i b hb
      have hw : IntKind.i64.wrap ((i : Int) + 1) = i + 1 := wrap_in (by omega) (by omega)
      have hw2 : IntKind.i64.wrap ((i : Int) + 2) = i + 2 := wrap_in (by omega) (by omega)
      have hwm : IntKind.i64.wrap ((i : Int) - 13) = i - 13 := wrap_in (by omega) (by omega)
      have tn : ((i : Int) + 1).toNat = i + 1 := by omega
      have hile : i ≤ s.length := by omega
      rw [hd] at hre
      by_cases hb13 : b = 13
      · subst hb13
        by_cases hl4 : i + 1 = s.length
        · have e2 : ((i : Int) + 1 == s.length) = true := by rw [beq_iff_eq]; omega
          rw [List.drop_of_length_le (by omega), reasonR_cr1] at hre
          simp [e1, hil, hat, hw, e2, h13, hile, rcells, hS']
          exact aPost_same hB (v0 := .tup [.agg (rcells (stP s 6) ((s.drop 13).take (i - 13)) (miP s 6)), .int .i64 0, .agg [.int .i64 s.length, .int .i64 124]]) (by simp [rcells]) (nilV_refl _) (by simp [rcells]) (hQ3 _ _ _ hre.symm)
        · have hlt : i + 1 < s.length := by omega
          have e2 : ((i : Int) + 1 == s.length) = false := by rw [beq_eq_false_iff_ne]; omega
          have hlt2 : (i : Int) + 1 < s.length := by omega
          have hge2 : (0 : Int) ≤ (i : Int) + 1 := by omega
          obtain ⟨c, hcc⟩ : ∃ c, s[i + 1]? = some c := ⟨_, List.getElem?_eq_getElem hlt⟩
          have hat2 := lat_eq hcc
          rw [drop_at s (i + 1) c hcc, reasonR_cr] at hre
          by_cases hc10 : c = 10
          · subst hc10
            rw [if_pos rfl] at hre
            have hq := hQ1 (i + 2) hre.symm
            rw [show i + 2 - 2 - 13 = i - 13 by omega, ← hs6, ← hmi] at hq
            simp [e1, hil, hat, hw, hw2, e2, h13, hile, tn, hlt2, hge2, hat2, rcells]
            exact aPost_same hB (v0 := .tup [.agg (rcells (stP s 6) ((s.drop 13).take (i - 13)) (miP s 6)), .int .i64 ((i + 2 : Nat) : Int), .agg [.int .i64 0, .int .i64 0]]) (by simp [rcells]) (nilV_refl _) (by simp [rcells]) hq
          · rw [if_neg hc10] at hre
            have hne : ((c.toNat : Int) != 10) = true := by
              rw [bne_iff_ne]; intro e; exact hc10 (UInt8.toNat_inj.1 (by have : (10 : UInt8).toNat = 10 := rfl; omega))
            simp [e1, hil, hat, hw, e2, h13, hile, tn, hlt2, hge2, hat2, hne, rcells]
            exact aPost_same hB (v0 := .tup [.agg (rcells (stP s 6) ((s.drop 13).take (i - 13)) (miP s 6)), .int .i64 0, .agg [.int .i64 ((i + 1 : Nat) : Int), .int .i64 122]]) (by simp [rcells]) (nilV_refl _) (by simp [rcells]) (hQ2 _ _ _ (i + 1) hre.symm)
      · have hb13' : ((b.toNat : Int) == 13) = false := by
          rw [beq_eq_false_iff_ne]; intro e; exact hb13 (UInt8.toNat_inj.1 (by have : (13 : UInt8).toNat = 13 := rfl; omega))
        have hsl : (s.drop i).take (i + 1 - i) = [b] := by rw [hd, show i + 1 - i = 1 by omega]; rfl
        have hle1 : i + 1 ≤ s.length := by omega
        have hsl1 : (s.drop i).take 1 = [b] := by rw [hd]; rfl
        have hge1 : (0 : Int) ≤ (i : Int) + 1 := by omega
        simp [e1, hil, hat, hw, hb13', tn, hle1, hge1, hsl1]
        refine isField_pc E' _ _ [b] (by simp [cap]) ?_
        have hfc : fldB [b] = fcB b := by simp [fldB]
        rw [hfc]
        cases hf : fcB b with
        | false =>
          rw [reasonR_bad _ _ _ _ hb13 (.inr hf)] at hre
          simp [rcells]
          exact aPost_same hB (v0 := .tup [.agg (rcells (stP s 6) [] (miP s 6)), .int .i64 0, .agg [.int .i64 i, .int .i64 122]]) (by simp [rcells]) (nilV_refl _) (by simp [rcells]) (hQ2 _ [] _ i hre.symm)
        | true =>
          by_cases h256 : 256 ≤ i - 13
          · rw [reasonR_bad _ _ _ _ hb13 (.inl h256)] at hre
            have h256' : (256 : Int) ≤ (i : Int) - 13 := by omega
            simp [hwm, h256', rcells]
            exact aPost_same hB (v0 := .tup [.agg (rcells (stP s 6) [] (miP s 6)), .int .i64 0, .agg [.int .i64 i, .int .i64 122]]) (by simp [rcells]) (nilV_refl _) (by simp [rcells]) (hQ2 _ [] _ i hre.symm)
          · rw [reasonR_go _ _ _ _ hb13 (fun e => e.elim h256 (fun e => by rw [hf] at e; cases e))] at hre
            have h256' : ¬ (256 : Int) ≤ (i : Int) - 13 := by omega
            simp [hwm, h256', hw]
            exact Kloop_normal ⟨i + 1, by omega, by omega, by rw [show i + 1 - 13 = i - 13 + 1 by omega]; exact hre, rfl, fr_intro (by simp)⟩ (by simp; omega)
end
end Go.Proofs.YtcdkcaocfioigaaGreatDoor

set_option linter.unusedVariables false
set_option linter.unnecessarySimpa false
set_option linter.unusedSimpArgs false
set_option linter.unusedSectionVars false
set_option maxRecDepth 100000
namespace Go.Proofs.YtcdkcaocfioigaaGreatDoor
open Go Go.RowKit Go.Proofs

theorem lineS_ext (u : List UInt8) : ∀ (l : List UInt8) (back : Bool) (i : Nat), lineS back l i ≠ .part → lineS back (l ++ u) i = lineS back l i
  | [], back, i, h => absurd (lineS_nil back i) h
  | b :: r, true, i, _ => by rw [List.cons_append, lineS_back, lineS_back]
  | b :: r, false, i, h => by
    rw [lineS_go] at h
    rw [List.cons_append, lineS_go, lineS_go]
    by_cases hb : b = 10
    · rw [if_pos hb, if_pos hb]
    · rw [if_neg hb] at h
      rw [if_neg hb, if_neg hb]
      exact lineS_ext u r _ _ h
theorem lineS_rng : ∀ (l : List UInt8) (back : Bool) (i n : Nat), lineS back l i = .ok n → i < n ∧ n ≤ i + l.length ∧ (back = false → i + 2 ≤ n)
  | [], back, i, n, h => by rw [lineS_nil] at h; cases h
  | b :: r, true, i, n, h => by
    rw [lineS_back] at h
    split at h
    · cases h; simp only [List.length_cons]; exact ⟨by omega, by omega, fun e => by cases e⟩
    · cases h
  | b :: r, false, i, n, h => by
    rw [lineS_go] at h
    split at h
    · cases h
    · obtain ⟨h1, h2, _⟩ := lineS_rng r _ _ _ h
      simp only [List.length_cons]
      exact ⟨by omega, by omega, fun _ => by omega⟩
theorem lineR_ext {t : List UInt8} {a : Nat} (u : List UInt8) (ha : a ≤ t.length) (h : lineR t a ≠ .part) : lineR (t ++ u) a = lineR t a := by
  unfold lineR at h ⊢
  rw [List.drop_append_of_le_length ha]
  exact lineS_ext u _ _ _ h
theorem lineR_rng {t : List UInt8} {a n : Nat} (h : lineR t a = .ok n) : a + 2 ≤ n ∧ (a ≤ t.length → n ≤ t.length) := by
  obtain ⟨h1, h2, h3⟩ := lineS_rng _ _ _ _ h
  rw [List.length_drop] at h2
  exact ⟨h3 rfl, fun ha => by omega⟩
theorem preR_ext (s u : List UInt8) : ∀ (n i : Nat), preR s n i ≠ .part → preR (s ++ u) n i = preR s n i
  | 0, i, _ => rfl
  | n + 1, i, h => by
    cases hb : s[i]? with
    | none => exact absurd (preR_end s n i hb) h
    | some b =>
      have hb2 : (s ++ u)[i]? = some b := by rw [List.getElem?_append_left (List.getElem?_eq_some_iff.1 hb).1]; exact hb
      by_cases hs : stB i b = true
      · rw [preR_ok hb hs] at h
        rw [preR_ok hb hs, preR_ok hb2 hs]
        exact preR_ext s u n (i + 1) h
      · rw [Bool.not_eq_true] at hs
        rw [preR_bad hb hs, preR_bad hb2 hs]
theorem preR_len (s : List UInt8) : ∀ (n i j : Nat), preR s n i = .ok j → j = i + n ∧ (i ≤ s.length → j ≤ s.length)
  | 0, i, j, h => by cases h; exact ⟨rfl, fun h => h⟩
  | n + 1, i, j, h => by
    cases hb : s[i]? with
    | none => rw [preR_end s n i hb] at h; cases h
    | some b =>
      have hi := (List.getElem?_eq_some_iff.1 hb).1
      by_cases hs : stB i b = true
      · rw [preR_ok hb hs] at h
        obtain ⟨h1, h2⟩ := preR_len s n (i + 1) j h
        exact ⟨by omega, fun _ => h2 (by omega)⟩
      · rw [Bool.not_eq_true] at hs
        rw [preR_bad hb hs] at h; cases h
theorem reasonR_ext (u : List UInt8) : ∀ (l : List UInt8) (k i : Nat), reasonR l k i ≠ .part → reasonR (l ++ u) k i = reasonR l k i
  | [], k, i, h => absurd (reasonR_nil k i) h
  | b :: r, k, i, h => by
    rw [List.cons_append]
    by_cases hb : b = 13
    · subst hb
      cases r with
      | nil => exact absurd (reasonR_cr1 k i) h
      | cons c r => rw [List.cons_append, reasonR_cr, reasonR_cr]
    · by_cases h2 : 256 ≤ k ∨ fcB b = false
      · rw [reasonR_bad _ _ _ _ hb h2, reasonR_bad _ _ _ _ hb h2]
      · rw [reasonR_go _ _ _ _ hb h2] at h
        rw [reasonR_go _ _ _ _ hb h2, reasonR_go _ _ _ _ hb h2]
        exact reasonR_ext u r _ _ h
theorem reasonR_rng : ∀ (l : List UInt8) (k i n : Nat), reasonR l k i = .ok n → i + 2 ≤ n ∧ n ≤ i + l.length
  | [], k, i, n, h => by rw [reasonR_nil] at h; cases h
  | b :: r, k, i, n, h => by
    by_cases hb : b = 13
    · subst hb
      cases r with
      | nil => rw [reasonR_cr1] at h; cases h
      | cons c r =>
        rw [reasonR_cr] at h
        split at h
        · cases h; simp only [List.length_cons]; omega
        · cases h
    · by_cases h2 : 256 ≤ k ∨ fcB b = false
      · rw [reasonR_bad _ _ _ _ hb h2] at h; cases h
      · rw [reasonR_go _ _ _ _ hb h2] at h
        have := reasonR_rng r _ _ _ h
        simp only [List.length_cons]; omega
theorem stR_pre {s : List UInt8} {n : Nat} (h : stR s = .ok n) : preR s 13 0 = .ok 13 ∧ 13 ≤ s.length ∧ reasonR (s.drop 13) 0 13 = .ok n ∧ 15 ≤ n ∧ n ≤ s.length := by
  unfold stR at h
  cases hp : preR s 13 0 with
  | ok j =>
    obtain ⟨h1, h2⟩ := preR_len s 13 0 j hp
    have h3 := h2 (by omega)
    rw [hp] at h
    simp only at h
    have := reasonR_rng _ _ _ _ h
    rw [List.length_drop] at this
    exact ⟨by rw [h1], by omega, h, by omega, by omega⟩
  | bad j => rw [hp] at h; cases h
  | part => rw [hp] at h; cases h
theorem stR_ext {s : List UInt8} (u : List UInt8) (h : stR s ≠ .part) : stR (s ++ u) = stR s := by
  cases hp : preR s 13 0 with
  | ok j =>
    have hl := preR_len s 13 0 j hp
    have hp2 : preR (s ++ u) 13 0 = .ok j := by rw [preR_ext s u 13 0 (by rw [hp]; simp), hp]
    rw [stR_ok hp] at h
    rw [stR_ok hp, stR_ok hp2, List.drop_append_of_le_length (by omega)]
    exact reasonR_ext u _ _ _ h
  | bad j =>
    have hp2 : preR (s ++ u) 13 0 = .bad j := by rw [preR_ext s u 13 0 (by rw [hp]; simp), hp]
    rw [stR_bad hp, stR_bad hp2]
  | part => exact absurd (stR_part hp) h
/-- One line of a head. -/
def nextR (t : List UInt8) (old : Bool) (a : Nat) (fs : List Fld) : HD ⊕ (Nat × List Fld) := match lineR t a with
  | .part => .inl .part
  | .bad i => .inl (.bad i 122)
  | .ok e => if (t.drop a).take (e - 2 - a) = [] then .inl (if (framingA fs old).2.2 ≠ 0 then .bad a (framingA fs old).2.2 else .ok fs e)
      else if 100 ≤ fs.length then .inl (.bad a 65)
      else if (lineX ((t.drop a).take (e - 2 - a))).2.2 ≠ 0 then .inl (.bad (a + (lineX ((t.drop a).take (e - 2 - a))).2.1) (lineX ((t.drop a).take (e - 2 - a))).2.2)
      else .inr (e, fs ++ [(lineX ((t.drop a).take (e - 2 - a))).1])
theorem fieldsR_next (t : List UInt8) (old : Bool) (n a : Nat) (fs : List Fld) : fieldsR t old (n + 1) a fs = match nextR t old a fs with
    | .inl x => x
    | .inr (e, gs) => fieldsR t old n e gs := by
  rw [fieldsR]
  unfold nextR
  cases lineR t a with
  | part => rfl
  | bad i => rfl
  | ok e =>
    simp only
    split
    · rfl
    · split
      · rfl
      · split <;> rfl
theorem nextR_ext {t : List UInt8} {old : Bool} {a : Nat} {fs : List Fld} (u : List UInt8) (ha : a ≤ t.length) (h : nextR t old a fs ≠ .inl .part) : nextR (t ++ u) old a fs = nextR t old a fs := by
  have hl : lineR t a ≠ .part := fun e => h (by unfold nextR; rw [e])
  have hl2 := lineR_ext u ha hl
  unfold nextR
  rw [hl2]
  cases he : lineR t a with
  | part => rfl
  | bad i => rfl
  | ok e =>
    have hr := (lineR_rng he).2 ha
    have hd : ((t ++ u).drop a).take (e - 2 - a) = (t.drop a).take (e - 2 - a) := by
      rw [List.drop_append_of_le_length ha, List.take_append_of_le_length (by rw [List.length_drop]; omega)]
    simp only [hd]
theorem nextR_go {t : List UInt8} {old : Bool} {a e : Nat} {fs gs : List Fld} (h : nextR t old a fs = .inr (e, gs)) : a + 2 ≤ e ∧ (a ≤ t.length → e ≤ t.length) ∧ lineR t a = .ok e ∧ (t.drop a).take (e - 2 - a) ≠ [] ∧ fs.length < 100 ∧ (lineX ((t.drop a).take (e - 2 - a))).2.2 = 0 ∧ gs = fs ++ [(lineX ((t.drop a).take (e - 2 - a))).1] := by
  unfold nextR at h
  cases he : lineR t a with
  | part => rw [he] at h; cases h
  | bad i => rw [he] at h; cases h
  | ok e' =>
    rw [he] at h
    simp only at h
    split at h
    · cases h
    · split at h
      · cases h
      · split at h
        · cases h
        · rename_i h1 h2 h3
          cases h
          obtain ⟨r1, r2⟩ := lineR_rng he
          exact ⟨r1, r2, rfl, h1, by omega, by simpa using h3, rfl⟩
theorem fieldsR_ext (u : List UInt8) {t : List UInt8} {old : Bool} : ∀ (n m a : Nat) (fs : List Fld), n ≤ m → a ≤ t.length → fieldsR t old n a fs ≠ .part → fieldsR (t ++ u) old m a fs = fieldsR t old n a fs
  | 0, m, a, fs, _, _, h => absurd (by rw [fieldsR]) h
  | n + 1, 0, a, fs, hn, _, _ => absurd hn (by omega)
  | n + 1, m + 1, a, fs, hn, ha, h => by
    rw [fieldsR_next] at h ⊢
    rw [fieldsR_next]
    cases hx : nextR t old a fs with
    | inl x =>
      rw [hx] at h
      rw [nextR_ext u ha (by rw [hx]; intro e; cases e; exact h rfl), hx]
    | inr p =>
      obtain ⟨e, gs⟩ := p
      rw [hx] at h
      rw [nextR_ext u ha (by rw [hx]; simp), hx]
      simp only at h ⊢
      exact fieldsR_ext u n m e gs (by omega) ((nextR_go hx).2.1 ha) h
theorem fieldsR_rng {t : List UInt8} {old : Bool} : ∀ (n a : Nat) (fs gs : List Fld) (e : Nat), a ≤ t.length → fieldsR t old n a fs = .ok gs e → a + 2 ≤ e ∧ e ≤ t.length
  | 0, a, fs, gs, e, _, h => by rw [fieldsR] at h; cases h
  | n + 1, a, fs, gs, e, ha, h => by
    rw [fieldsR_next] at h
    cases hx : nextR t old a fs with
    | inl x =>
      rw [hx] at h
      simp only at h
      subst h
      unfold nextR at hx
      cases he : lineR t a with
      | part => rw [he] at hx; cases hx
      | bad i => rw [he] at hx; cases hx
      | ok e' =>
        obtain ⟨r1, r2⟩ := lineR_rng he
        have r3 := r2 ha
        rw [he] at hx
        simp only at hx
        split at hx
        · split at hx
          · cases hx
          · cases hx; omega
        · split at hx
          · cases hx
          · split at hx <;> cases hx
    | inr p =>
      obtain ⟨e', gs'⟩ := p
      rw [hx] at h
      obtain ⟨r1, r2, _⟩ := nextR_go hx
      have := fieldsR_rng n e' gs' gs e (r2 ha) h
      omega
theorem fieldsR_bad0 {t : List UInt8} {old : Bool} : ∀ (n a : Nat) (fs : List Fld) (i : Int), fieldsR t old n a fs ≠ .bad i 0
  | 0, a, fs, i, h => by rw [fieldsR] at h; cases h
  | n + 1, a, fs, i, h => by
    rw [fieldsR_next] at h
    cases hx : nextR t old a fs with
    | inl x =>
      rw [hx] at h
      simp only at h
      subst h
      unfold nextR at hx
      cases he : lineR t a with
      | part => rw [he] at hx; cases hx
      | bad i => rw [he] at hx; cases hx
      | ok e' =>
        rw [he] at hx
        simp only at hx
        split at hx
        · split at hx
          · rename_i h1
            injection hx with hx
            injection hx with _ hx
            exact h1 hx
          · cases hx
        · split at hx
          · injection hx with hx
            injection hx with _ hx
            exact absurd hx (by decide)
          · split at hx
            · rename_i h1
              injection hx with hx
              injection hx with _ hx
              exact h1 hx
            · cases hx
    | inr p =>
      obtain ⟨e', gs'⟩ := p
      rw [hx] at h
      exact fieldsR_bad0 n e' gs' i h
/-- The head that a text of at most 65536 bytes begins with; none: there is not all of it. -/
def headO (t : List UInt8) : Option (Rep × Int × Int) := match stR t with
  | .part => none
  | .bad i => some (rep0, (i : Int), 122)
  | .ok a => match fieldsR t (decide (dg t 7 = 0)) (t.length + 1) a [] with
    | .part => none
    | .bad n e => some (rep0, n, e)
    | .ok fs e => some (⟨dg t 7, 100 * dg t 9 + 10 * dg t 10 + dg t 11, (t.drop 13).take (a - 2 - 13), fs, [], [], (framingA fs (decide (dg t 7 = 0))).1, (framingA fs (decide (dg t 7 = 0))).2.1, persistA fs (decide (dg t 7 = 0))⟩, (e : Int), 0)
theorem headM_eq (s : List UInt8) : headM s = (headO (s.take 65536)).getD (if 65536 < s.length then (rep0, 65536, 125) else (rep0, (s.length : Int), 124)) := by
  unfold headM headO
  simp only
  cases stR (s.take 65536) with
  | part => rfl
  | bad i => rfl
  | ok a =>
    simp only
    cases fieldsR (s.take 65536) (decide (dg (s.take 65536) 7 = 0)) ((s.take 65536).length + 1) a [] <;> rfl
theorem headO_ext {t : List UInt8} {x : Rep × Int × Int} (u : List UInt8) (h : headO t = some x) : headO (t ++ u) = some x := by
  unfold headO at h ⊢
  have h1 : stR t ≠ .part := fun e => by rw [e] at h; cases h
  rw [stR_ext u h1]
  cases hs : stR t with
  | part => exact absurd hs h1
  | bad i => rw [hs] at h; exact h
  | ok a =>
    rw [hs] at h
    simp only at h ⊢
    obtain ⟨_, h13, _, ha15, ha⟩ := stR_pre hs
    have hdg : ∀ i, i < 13 → dg (t ++ u) i = dg t i := fun i hi => by unfold dg; rw [List.getElem?_append_left (by omega)]
    rw [hdg 7 (by omega), hdg 9 (by omega), hdg 10 (by omega), hdg 11 (by omega)]
    have h2 : fieldsR t (decide (dg t 7 = 0)) (t.length + 1) a [] ≠ .part := fun e => by rw [e] at h; cases h
    rw [fieldsR_ext u (t.length + 1) ((t ++ u).length + 1) a [] (by simp) ha h2]
    have hd : ((t ++ u).drop 13).take (a - 2 - 13) = (t.drop 13).take (a - 2 - 13) := by
      rw [List.drop_append_of_le_length h13, List.take_append_of_le_length (by rw [List.length_drop]; omega)]
    rw [hd]
    exact h
theorem headM_ext {s : List UInt8} (u : List UInt8) (h : (headM s).2.2 ≠ 124) : headM (s ++ u) = headM s := by
  rw [headM_eq] at h
  rw [headM_eq, headM_eq]
  by_cases hl : s.length < 65536
  · have e1 : s.take 65536 = s := List.take_of_length_le (by omega)
    have e2 : (s ++ u).take 65536 = s ++ u.take (65536 - s.length) := by rw [List.take_append, e1]
    rw [e1] at h ⊢
    rw [e2]
    cases hx : headO s with
    | none => rw [hx, if_neg (by omega)] at h; exact absurd rfl h
    | some x => rw [headO_ext _ hx]; rfl
  · have e2 : (s ++ u).take 65536 = s.take 65536 := List.take_append_of_le_length (by omega)
    rw [e2]
    cases hx : headO (s.take 65536) with
    | none =>
      rw [hx] at h
      by_cases h2 : 65536 < s.length
      · rw [if_pos h2, if_pos (by rw [List.length_append]; omega)]
      · rw [if_neg h2] at h; exact absurd rfl h
    | some x => rfl
theorem headM_rng {s : List UInt8} (h : (headM s).2.2 = 0) : ∃ n : Nat, (headM s).2.1 = n ∧ 17 ≤ n ∧ n ≤ s.length ∧ n ≤ 65536 := by
  rw [headM_eq] at h ⊢
  cases hx : headO (s.take 65536) with
  | none =>
    rw [hx] at h
    simp only [Option.getD_none] at h
    split at h <;> simp at h
  | some x =>
    rw [hx] at h
    simp only [Option.getD_some] at h ⊢
    unfold headO at hx
    cases hs : stR (s.take 65536) with
    | part => rw [hs] at hx; cases hx
    | bad i => rw [hs] at hx; cases hx; simp at h
    | ok a =>
      rw [hs] at hx
      simp only at hx
      obtain ⟨_, h13, _, ha15, ha⟩ := stR_pre hs
      cases hf : fieldsR (s.take 65536) (decide (dg (s.take 65536) 7 = 0)) ((s.take 65536).length + 1) a [] with
      | part => rw [hf] at hx; cases hx
      | bad n e =>
        rw [hf] at hx
        cases hx
        simp only at h
        subst h
        exfalso
        exact fieldsR_bad0 _ _ _ _ hf
      | ok fs e =>
        rw [hf] at hx
        cases hx
        obtain ⟨r1, r2⟩ := fieldsR_rng _ _ _ _ _ ha hf
        rw [List.length_take] at r2
        exact ⟨e, rfl, by omega, by omega, by omega⟩
end Go.Proofs.YtcdkcaocfioigaaGreatDoor

set_option linter.unusedVariables false
set_option linter.unnecessarySimpa false
set_option linter.unusedSimpArgs false
set_option linter.unusedSectionVars false
set_option maxRecDepth 100000
namespace Go.Proofs.YtcdkcaocfioigaaGreatDoor
open Go Go.RowKit Go.Proofs

theorem feedD_stopN : ∀ (a : List UInt8) (d : Dec) (s : List UInt8), goD d → ((feedD d a).1.done = true ∨ (feedD d a).1.err ≠ 0) → feedD d (a ++ s) = feedD d a
  | [], d, s, hg, h => by
    rcases h with h | h
    · rw [show (feedD d []).1 = d from rfl, hg.1] at h; cases h
    · exact absurd hg.2 h
  | b :: a, d, s, hg, h => by
    rw [feedD_cons] at h
    rw [List.cons_append, feedD_cons, feedD_cons]
    by_cases hc : (feed1 d b).done = true ∨ (feed1 d b).err ≠ 0
    · rw [if_pos hc, if_pos hc]
    · rw [if_neg hc] at h
      rw [if_neg hc, if_neg hc]
      have hg2 : goD (feed1 d b) := by
        simp only [not_or, Bool.not_eq_true, ne_eq, Decidable.not_not] at hc
        exact hc
      rw [feedD_stopN a (feed1 d b) s hg2 h]
theorem newD_go (m r f : Int) : goD (newD m r f) := ⟨rfl, rfl⟩
theorem decodeD_ext {s : List UInt8} {m r f : Int} (u : List UInt8) (h : (decodeD s m r f).2.2.2 ≠ 105) : decodeD (s ++ u) m r f = decodeD s m r f := by
  unfold decodeD at h ⊢
  by_cases h0 : m < 0 ∨ r < 0 ∨ f < 0
  · rw [if_pos h0, if_pos h0]
  · rw [if_neg h0] at h
    rw [if_neg h0, if_neg h0]
    by_cases h1 : (feedD (newD m r f) s).1.err ≠ 0
    · have e := feedD_stopN s (newD m r f) u (newD_go m r f) (.inr h1)
      rw [e, if_pos h1, if_pos h1]
    · rw [if_neg h1] at h
      by_cases h2 : (feedD (newD m r f) s).1.done = false
      · rw [if_pos h2] at h; exact absurd rfl h
      · have e := feedD_stopN s (newD m r f) u (newD_go m r f) (.inl (by rw [Bool.not_eq_false] at h2; exact h2))
        rw [e, if_neg h1, if_neg h1, if_neg h2, if_neg h2]
theorem decodeD_rng {s : List UInt8} {m r f : Int} (h : (decodeD s m r f).2.2.2 = 0) : ∃ k : Nat, (decodeD s m r f).2.2.1 = k ∧ k ≤ s.length := by
  unfold decodeD at h ⊢
  by_cases h0 : m < 0 ∨ r < 0 ∨ f < 0
  · rw [if_pos h0] at h; simp at h
  · rw [if_neg h0] at h ⊢
    by_cases h1 : (feedD (newD m r f) s).1.err ≠ 0
    · rw [if_pos h1] at h; exact absurd h h1
    · rw [if_neg h1] at h ⊢
      by_cases h2 : (feedD (newD m r f) s).1.done = false
      · rw [if_pos h2] at h; simp at h
      · rw [if_neg h2]
        exact ⟨_, rfl, feedD_le s _⟩
/-- What comes behind a head. -/
def bodyM (r : Rep) (n : Nat) (len : Nat) (rest : List UInt8) (most : Int) (ended : Bool) : Rep × Int × Int :=
    if r.kind = 2 then
      (if (decodeD rest most 65536 100).2.2.2 = 0 then ({ r with body := (decodeD rest most 65536 100).1, trailers := (decodeD rest most 65536 100).2.1 }, n + (decodeD rest most 65536 100).2.2.1, 0)
       else (rep0, n + (decodeD rest most 65536 100).2.2.1, if (decodeD rest most 65536 100).2.2.2 = 105 then 124 else if (decodeD rest most 65536 100).2.2.2 = 102 then 125 else (decodeD rest most 65536 100).2.2.2))
    else if r.kind = 1 then
      (if most < r.length then (rep0, n, 125) else if (rest.length : Int) < r.length then (rep0, len, 124) else ({ r with body := rest.take r.length.toNat }, n + r.length, 0))
    else if most < rest.length then (rep0, n + most, 125) else if ended = false then (rep0, len, 124) else ({ r with body := rest, persist := false }, len, 0)
theorem parseM_neg (m s : List UInt8) {most : Int} (ended : Bool) (h : most < 0) : parseM m s most ended = (rep0, 0, 1) := by unfold parseM; rw [if_pos h]
theorem parseM_bad {m s : List UInt8} {most : Int} (ended : Bool) (h : ¬ most < 0) (h1 : (headM s).2.2 ≠ 0) : parseM m s most ended = (rep0, (headM s).2.1, (headM s).2.2) := by unfold parseM; rw [if_neg h, if_pos h1]
theorem parseM_none {m s : List UInt8} {most : Int} (ended : Bool) (h : ¬ most < 0) (h1 : (headM s).2.2 = 0) (h2 : bodylessB m (headM s).1.status = true) : parseM m s most ended = headM s := by unfold parseM; rw [if_neg h, if_neg (by simpa using h1), if_pos h2]
theorem parseM_body {m s : List UInt8} {most : Int} (ended : Bool) {n : Nat} (h : ¬ most < 0) (h1 : (headM s).2.2 = 0) (h2 : bodylessB m (headM s).1.status = false) (hn : (headM s).2.1 = n) : parseM m s most ended = bodyM (headM s).1 n s.length (s.drop n) most ended := by
  unfold parseM bodyM
  rw [if_neg h, if_neg (by simpa using h1), if_neg (by rw [h2]; simp), hn]
  rfl
theorem bodyM_ext {r : Rep} {n len : Nat} {rest : List UInt8} {most : Int} (u : List UInt8) (len2 : Nat) (h : (bodyM r n len rest most false).2.2 ≠ 124) : bodyM r n len2 (rest ++ u) most false = bodyM r n len rest most false := by
  unfold bodyM at h ⊢
  by_cases h1 : r.kind = 2
  · rw [if_pos h1] at h
    rw [if_pos h1, if_pos h1]
    have hne : (decodeD rest most 65536 100).2.2.2 ≠ 105 := fun e => by
      rw [if_neg (by rw [e]; decide), if_pos e] at h; exact h rfl
    rw [decodeD_ext u hne]
  · rw [if_neg h1] at h
    rw [if_neg h1, if_neg h1]
    by_cases h2 : r.kind = 1
    · rw [if_pos h2] at h
      rw [if_pos h2, if_pos h2]
      by_cases h3 : most < r.length
      · rw [if_pos h3, if_pos h3]
      · rw [if_neg h3] at h
        rw [if_neg h3, if_neg h3]
        by_cases h4 : (rest.length : Int) < r.length
        · rw [if_pos h4] at h; exact absurd rfl h
        · rw [if_neg h4, if_neg (by rw [List.length_append]; omega), List.take_append_of_le_length (by omega)]
    · rw [if_neg h2] at h
      rw [if_neg h2, if_neg h2]
      by_cases h3 : most < rest.length
      · rw [if_pos h3, if_pos (by rw [List.length_append]; omega)]
      · rw [if_neg h3, if_pos rfl] at h; exact absurd rfl h
theorem parseM_ext {m s : List UInt8} {most : Int} (u : List UInt8) (h : (parseM m s most false).2.2 ≠ 124) : parseM m (s ++ u) most false = parseM m s most false := by
  by_cases h0 : most < 0
  · rw [parseM_neg _ _ _ h0, parseM_neg _ _ _ h0]
  by_cases h1 : (headM s).2.2 = 0
  · have e := headM_ext u (s := s) (by rw [h1]; decide)
    cases h2 : bodylessB m (headM s).1.status with
    | true => rw [parseM_none _ h0 h1 h2, parseM_none _ h0 (by rw [e]; exact h1) (by rw [e]; exact h2), e]
    | false =>
      obtain ⟨n, hn, _, hl, _⟩ := headM_rng h1
      rw [parseM_body _ h0 h1 h2 hn] at h
      rw [parseM_body _ h0 h1 h2 hn, parseM_body _ h0 (by rw [e]; exact h1) (by rw [e]; exact h2) (by rw [e]; exact hn), e, List.drop_append_of_le_length hl]
      exact bodyM_ext u _ h
  · rw [parseM_bad _ h0 h1] at h
    have e := headM_ext u h
    rw [parseM_bad _ h0 h1, parseM_bad _ h0 (by rw [e]; exact h1), e]
theorem lenA_rng (l : List Fld) : 0 ≤ (lengthA l).1 := by
  unfold lengthA
  split
  · simp
  · split
    · split
      · simp
      · rename_i h; simp only [not_or] at h; simp only; omega
    · simp
theorem framingA_len (l : List Fld) (old : Bool) : 0 ≤ (framingA l old).2.1 := by
  have := lenA_rng l
  unfold framingA
  (repeat' split) <;> simp_all
theorem headM_len (s : List UInt8) : 0 ≤ (headM s).1.length := by
  rw [headM_eq]
  cases hx : headO (s.take 65536) with
  | none => simp only [Option.getD_none]; split <;> simp [rep0]
  | some x =>
    simp only [Option.getD_some]
    unfold headO at hx
    cases hs : stR (s.take 65536) with
    | part => rw [hs] at hx; cases hx
    | bad i => rw [hs] at hx; cases hx; simp [rep0]
    | ok a =>
      rw [hs] at hx
      simp only at hx
      cases hf : fieldsR (s.take 65536) (decide (dg (s.take 65536) 7 = 0)) ((s.take 65536).length + 1) a [] with
      | part => rw [hf] at hx; cases hx
      | bad n e => rw [hf] at hx; cases hx; simp [rep0]
      | ok fs e => rw [hf] at hx; cases hx; exact framingA_len _ _
theorem parseM_rng {m s : List UInt8} {most : Int} {ended : Bool} (h : (parseM m s most ended).2.2 = 0) : ∃ n : Nat, (parseM m s most ended).2.1 = n ∧ 17 ≤ n ∧ n ≤ s.length := by
  by_cases h0 : most < 0
  · rw [parseM_neg _ _ _ h0] at h; simp at h
  by_cases h1 : (headM s).2.2 = 0
  · obtain ⟨n, hn, h17, hl, _⟩ := headM_rng h1
    cases h2 : bodylessB m (headM s).1.status with
    | true => rw [parseM_none _ h0 h1 h2]; exact ⟨n, hn, h17, hl⟩
    | false =>
      have hlen := headM_len s
      rw [parseM_body _ h0 h1 h2 hn] at h ⊢
      have hdl : (s.drop n).length = s.length - n := List.length_drop
      unfold bodyM at h ⊢
      by_cases k1 : (headM s).1.kind = 2
      · rw [if_pos k1] at h ⊢
        by_cases k2 : (decodeD (s.drop n) most 65536 100).2.2.2 = 0
        · obtain ⟨k, hk, hkl⟩ := decodeD_rng k2
          rw [if_pos k2]
          exact ⟨n + k, by simp only [hk]; omega, by omega, by omega⟩
        · rw [if_neg k2] at h
          simp only at h
          split at h
          · simp at h
          · split at h
            · simp at h
            · exact absurd h k2
      · rw [if_neg k1] at h ⊢
        by_cases k3 : (headM s).1.kind = 1
        · rw [if_pos k3] at h ⊢
          by_cases k4 : most < (headM s).1.length
          · rw [if_pos k4] at h; simp at h
          · rw [if_neg k4] at h ⊢
            by_cases k5 : ((s.drop n).length : Int) < (headM s).1.length
            · rw [if_pos k5] at h; simp at h
            · rw [if_neg k5]
              exact ⟨n + (headM s).1.length.toNat, by simp only; omega, by omega, by omega⟩
        · rw [if_neg k3] at h ⊢
          by_cases k4 : most < ((s.drop n).length : Int)
          · rw [if_pos k4] at h; simp at h
          · rw [if_neg k4] at h ⊢
            cases ended with
            | true => rw [if_neg (by simp)]; exact ⟨s.length, rfl, by omega, by omega⟩
            | false => rw [if_pos rfl] at h; simp at h
  · rw [parseM_bad _ h0 h1] at h; exact absurd h h1

/-! ### A reader -/
structure RM where
  bytes : List UInt8
  err : Int
  over : Bool
  ended : Bool
  most : Int
  asked : List (List UInt8)
  done : List Rep
/-- Does the stream end behind it, by the method and the status? -/
def turnedB (m : List UInt8) (s : Int) : Bool := s == 101 || (m == vConnect && (decide (200 ≤ s) && decide (s ≤ 299)))
/-- One response off the front, and whether it goes on. -/
def oneR (r : RM) : RM × Bool :=
  if r.bytes = [] ∨ r.over = true then (r, false) else match r.asked with
  | [] => ({ r with err := 126 }, false)
  | m :: ms => if (parseM m r.bytes r.most r.ended).2.2 = 124 then (r, false)
    else if (parseM m r.bytes r.most r.ended).2.2 ≠ 0 then ({ r with err := (parseM m r.bytes r.most r.ended).2.2 }, false)
    else if interimB (parseM m r.bytes r.most r.ended).1.status = true then ({ r with bytes := r.bytes.drop (parseM m r.bytes r.most r.ended).2.1.toNat, done := r.done ++ [(parseM m r.bytes r.most r.ended).1] }, true)
    else if ((parseM m r.bytes r.most r.ended).1.persist = false) ∨ turnedB m (parseM m r.bytes r.most r.ended).1.status = true then ({ r with bytes := [], over := true, asked := ms, done := r.done ++ [(parseM m r.bytes r.most r.ended).1] }, true)
    else ({ r with bytes := r.bytes.drop (parseM m r.bytes r.most r.ended).2.1.toNat, asked := ms, done := r.done ++ [(parseM m r.bytes r.most r.ended).1] }, true)
def readR : Nat → RM → RM
  | 0, r => r
  | n + 1, r => if (oneR r).2 = true then readR n (oneR r).1 else (oneR r).1
def readA (r : RM) : RM := readR (r.bytes.length + 1) r
theorem oneR_less {r : RM} (h : (oneR r).2 = true) : (oneR r).1.bytes.length < r.bytes.length := by
  unfold oneR at h ⊢
  by_cases h0 : r.bytes = [] ∨ r.over = true
  · rw [if_pos h0] at h; cases h
  rw [if_neg h0] at h ⊢
  have hb : 0 < r.bytes.length := by
    rcases Nat.eq_zero_or_pos r.bytes.length with h | h
    · exact absurd (.inl (List.length_eq_zero_iff.1 h)) h0
    · exact h
  cases ha : r.asked with
  | nil => rw [ha] at h; cases h
  | cons m ms =>
    rw [ha] at h
    simp only at h ⊢
    by_cases h1 : (parseM m r.bytes r.most r.ended).2.2 = 124
    · rw [if_pos h1] at h; cases h
    rw [if_neg h1] at h ⊢
    by_cases h2 : (parseM m r.bytes r.most r.ended).2.2 = 0
    · rw [if_neg (by simpa using h2)]
      obtain ⟨n, hn, h17, hl⟩ := parseM_rng h2
      split
      · simp only [List.length_drop]; omega
      · split
        · exact hb
        · simp only [List.length_drop]; omega
    · rw [if_pos h2] at h; cases h
theorem readR_fuel : ∀ (n m : Nat) (r : RM), r.bytes.length < n → r.bytes.length < m → readR n r = readR m r
  | 0, m, r, h, _ => absurd h (by omega)
  | n + 1, 0, r, _, h => absurd h (by omega)
  | n + 1, m + 1, r, h1, h2 => by
    rw [readR, readR]
    by_cases h : (oneR r).2 = true
    · rw [if_pos h, if_pos h]
      have := oneR_less h
      exact readR_fuel n m _ (by omega) (by omega)
    · rw [if_neg h, if_neg h]
theorem readA_go {r : RM} (h : (oneR r).2 = true) : readA r = readA (oneR r).1 := by
  unfold readA
  rw [readR, if_pos h]
  have := oneR_less h
  exact readR_fuel _ _ _ (by omega) (by omega)
theorem readA_stop {r : RM} (h : (oneR r).2 = false) : readA r = (oneR r).1 := by
  unfold readA
  rw [readR, if_neg (by rw [h]; simp)]
/-- The bytes are no part of what is told behind an error. -/
def RM.put (r : RM) (u : List UInt8) : RM := { r with bytes := r.bytes ++ u }
theorem oneR_more {r : RM} (u : List UInt8) (hen : r.ended = false) (h : (oneR r).2 = true) : oneR (r.put u) = (if (oneR r).1.over = true then (oneR r).1 else (oneR r).1.put u, true) := by
  unfold oneR at h ⊢
  by_cases h0 : r.bytes = [] ∨ r.over = true
  · rw [if_pos h0] at h; cases h
  rw [if_neg h0] at h ⊢
  have hb : r.bytes ≠ [] := fun e => h0 (.inl e)
  have ho : r.over = false := by cases ho : r.over with
    | true => exact absurd (.inr ho) h0
    | false => rfl
  have h0' : ¬ ((r.put u).bytes = [] ∨ (r.put u).over = true) := by
    simp only [RM.put, List.append_eq_nil_iff, ho]
    exact fun e => e.elim (fun e => hb e.1) (fun e => by cases e)
  rw [if_neg h0']
  cases ha : r.asked with
  | nil => rw [ha] at h; cases h
  | cons m ms =>
    rw [ha] at h
    have ha' : (r.put u).asked = m :: ms := ha
    rw [ha']
    simp only at h ⊢
    have hm : (r.put u).most = r.most := rfl
    have he : (r.put u).ended = r.ended := rfl
    have hbu : (r.put u).bytes = r.bytes ++ u := rfl
    rw [hm, he, hbu]
    rw [hen] at h ⊢
    by_cases h1 : (parseM m r.bytes r.most false).2.2 = 124
    · rw [if_pos h1] at h; cases h
    rw [parseM_ext u h1]
    rw [if_neg h1] at h ⊢
    rw [if_neg h1]
    by_cases h2 : (parseM m r.bytes r.most false).2.2 = 0
    · have h2' : ¬ (parseM m r.bytes r.most false).2.2 ≠ 0 := by simpa using h2
      obtain ⟨n, hn, h17, hl⟩ := parseM_rng h2
      have hd : (r.bytes ++ u).drop (parseM m r.bytes r.most false).2.1.toNat = r.bytes.drop (parseM m r.bytes r.most false).2.1.toNat ++ u := List.drop_append_of_le_length (by omega)
      rw [hd]
      by_cases h3 : interimB (parseM m r.bytes r.most false).1.status = true
      · simp [RM.put, h2, h3, ho]
      · by_cases h4 : (parseM m r.bytes r.most false).1.persist = false ∨ turnedB m (parseM m r.bytes r.most false).1.status = true
        · simp only [if_neg h2', if_neg h3, if_pos h4]; simp [RM.put]
        · simp only [if_neg h2', if_neg h3, if_neg h4, ho]; simp [RM.put, ho]
    · rw [if_pos h2] at h; cases h
theorem oneR_err {r : RM} (u : List UInt8) (hen : r.ended = false) (he0 : r.err = 0) (h : (oneR r).2 = false) (he : (oneR r).1.err ≠ 0) : oneR (r.put u) = ((oneR r).1.put u, false) := by
  unfold oneR at h he ⊢
  by_cases h0 : r.bytes = [] ∨ r.over = true
  · rw [if_pos h0] at he; exact absurd he0 he
  rw [if_neg h0] at h he ⊢
  have hb : r.bytes ≠ [] := fun e => h0 (.inl e)
  have ho : r.over = false := by cases ho : r.over with
    | true => exact absurd (.inr ho) h0
    | false => rfl
  have h0' : ¬ ((r.put u).bytes = [] ∨ (r.put u).over = true) := by
    simp only [RM.put, List.append_eq_nil_iff, ho]
    exact fun e => e.elim (fun e => hb e.1) (fun e => by cases e)
  rw [if_neg h0']
  cases ha : r.asked with
  | nil =>
    have ha' : (r.put u).asked = [] := ha
    rw [ha']; simp only; rfl
  | cons m ms =>
    rw [ha] at h he
    have ha' : (r.put u).asked = m :: ms := ha
    rw [ha']
    simp only at h he ⊢
    have hm : (r.put u).most = r.most := rfl
    have he' : (r.put u).ended = r.ended := rfl
    have hbu : (r.put u).bytes = r.bytes ++ u := rfl
    rw [hm, he', hbu]
    rw [hen] at h he ⊢
    by_cases h1 : (parseM m r.bytes r.most false).2.2 = 124
    · rw [if_pos h1] at he; exact absurd he0 he
    rw [parseM_ext u h1]
    rw [if_neg h1] at h he ⊢
    rw [if_neg h1]
    by_cases h2 : (parseM m r.bytes r.most false).2.2 = 0
    · rw [if_neg (by simpa using h2)] at h
      split at h
      · cases h
      · split at h <;> cases h
    · rw [if_pos h2, if_pos h2]; rfl
theorem oneR_keeps (r : RM) : (oneR r).1.ended = r.ended ∧ (oneR r).1.most = r.most ∧ (r.err = 0 → (oneR r).2 = true → (oneR r).1.err = 0) := by
  unfold oneR
  split
  · exact ⟨rfl, rfl, fun h _ => h⟩
  · cases r.asked with
    | nil => exact ⟨rfl, rfl, fun _ h => by cases h⟩
    | cons m ms =>
      simp only
      split
      · exact ⟨rfl, rfl, fun _ h => by cases h⟩
      · split
        · exact ⟨rfl, rfl, fun _ h => by cases h⟩
        · split
          · exact ⟨rfl, rfl, fun h _ => h⟩
          · split <;> exact ⟨rfl, rfl, fun h _ => h⟩
theorem oneR_over {r : RM} (h : r.over = true) : oneR r = (r, false) := by unfold oneR; rw [if_pos (.inr h)]
/-- A TEXT IN TWO PIECES. -/
theorem readA_cut (u : List UInt8) : ∀ (n : Nat) (r : RM), r.bytes.length < n → r.ended = false → r.err = 0 →
    ((readA r).err ≠ 0 → readA (r.put u) = (readA r).put u) ∧ ((readA r).err = 0 → (readA r).over = true → readA (r.put u) = readA r ∨ r.over = true) ∧
    ((readA r).err = 0 → (readA r).over = false → readA (r.put u) = readA ((readA r).put u))
  | 0, r, h, _, _ => absurd h (by omega)
  | n + 1, r, h, hen, he0 => by
    cases h1 : (oneR r).2 with
    | true =>
      have hm := oneR_more u hen h1
      have hl := oneR_less h1
      obtain ⟨k1, k2, k3⟩ := oneR_keeps r
      have e2 : (oneR (r.put u)).2 = true := by rw [hm]
      rw [readA_go h1, readA_go e2, hm]
      cases ho : (oneR r).1.over with
      | true =>
        rw [if_pos rfl, readA_stop (by rw [oneR_over ho]), oneR_over ho]
        refine ⟨fun h => absurd (k3 he0 h1) h, fun _ _ => .inl rfl, fun _ h => by rw [ho] at h; cases h⟩
      | false =>
        rw [if_neg (by simp)]
        obtain ⟨j1, j2, j3⟩ := readA_cut u n (oneR r).1 (by omega) (by rw [k1]; exact hen) (k3 he0 h1)
        exact ⟨j1, fun a b => (j2 a b).elim .inl (fun c => by rw [ho] at c; cases c), j3⟩
    | false =>
      rw [readA_stop h1]
      refine ⟨fun he => ?_, fun he ho => ?_, fun he ho => ?_⟩
      · have hm := oneR_err u hen he0 h1 he
        rw [readA_stop (by rw [hm]), hm]
      · right
        unfold oneR at h1 ho
        by_cases h0 : r.bytes = [] ∨ r.over = true
        · rw [if_pos h0] at ho; exact ho
        · rw [if_neg h0] at h1 ho
          cases ha : r.asked with
          | nil => rw [ha] at ho; exact ho
          | cons m ms =>
            rw [ha] at h1 ho
            simp only at h1 ho
            split at ho
            · exact ho
            · rename_i g1
              rw [if_neg g1] at h1
              split at ho
              · exact ho
              · rename_i g2
                rw [if_neg g2] at h1
                split at h1
                · cases h1
                · split at h1 <;> cases h1
      · -- nothing came of it: the reader is ms it was
        have e : (oneR r).1 = r := by
          unfold oneR at h1 he ⊢
          by_cases h0 : r.bytes = [] ∨ r.over = true
          · rw [if_pos h0]
          · rw [if_neg h0] at h1 he ⊢
            cases ha : r.asked with
            | nil => rw [ha] at he; exact absurd he (by simp)
            | cons m ms =>
              rw [ha] at h1 he
              simp only at h1 he ⊢
              split at he
              · rename_i g1; rw [if_pos g1]
              · rename_i g1
                rw [if_neg g1] at h1
                split at he
                · rename_i g2; exact absurd he g2
                · rename_i g2
                  rw [if_neg g2] at h1
                  split at h1
                  · cases h1
                  · split at h1 <;> cases h1
        rw [e]
end Go.Proofs.YtcdkcaocfioigaaGreatDoor

set_option linter.unusedVariables false
set_option linter.unnecessarySimpa false
set_option linter.unusedSimpArgs false
set_option linter.unusedSectionVars false
set_option maxRecDepth 100000
namespace Go.Proofs.YtcdkcaocfioigaaGreatDoor
open Go Go.RowKit Go.Proofs

/-- Nils in a struct that comes back ahead of others are seen as empty lists. -/
theorem nilT_rel {w : World} {β : Nat → Nat} {Rd : Nat → Nat → Prop} {N : Nat} {l l' rest : List AV} {u : Value} (hB : Bnd N (.tup (.agg l :: rest))) (h : Rel w β Rd (.tup (.agg l :: rest)) u) (hn : nilL l l') (hf' : ∀ x ∈ l', x.free = true) :
    Rel w β Rd (.tup (.agg l' :: rest)) u ∧ Bnd N (.tup (.agg l' :: rest)) := by
  obtain ⟨hlen, hat⟩ := nilL_at hn
  have hB2 : ∀ x ∈ l, Bnd N x := by
    cases hB with
    | tup _ hB =>
      have := hB (.agg l) (by simp)
      cases this with
      | agg _ h => exact h
  cases h with
  | tup _ vs hl hf hr =>
    have h0 : ∀ u, vs[0]? = some u → Rel w β Rd (.agg l') u ∧ Bnd N (.agg l') := fun u hu => by
      have h0 := hr 0 (.agg l) u rfl hu
      cases h0 with
      | agg _ vs' hl' hf0 hr0 =>
        have key : ∀ (i : Nat) (y : AV) (c : Value), l'[i]? = some y → vs'[i]? = some c → Rel w β Rd y c ∧ Bnd N y := fun i y c hy hc => by
          obtain ⟨x, hx, h1⟩ := hat i y hy
          obtain ⟨r1, r2, _⟩ := nil1_rel h1 (hr0 i x c hx hc) (hB2 x (mem_at hx))
          exact ⟨r1, r2⟩
        refine ⟨.agg _ vs' (by omega) (fun y hy => ⟨hf' y hy, ?_⟩) (fun i y c hy hc => (key i y c hy hc).1), .agg _ fun y hy => ?_⟩
        · obtain ⟨i, hi⟩ := List.getElem?_of_mem hy
          obtain ⟨x, hx, h1⟩ := hat i y hi
          rcases h1 with rfl | ⟨rfl, b, k, rfl⟩
          · exact (hf0 _ (mem_at hx)).2
          · rfl
        · obtain ⟨i, hi⟩ := List.getElem?_of_mem hy
          have hi2 : i < vs'.size := by have := (List.getElem?_eq_some_iff.1 hi).1; omega
          exact (key i y _ hi (Array.getElem?_eq_getElem hi2)).2
    have hv0 : vs[0]? = some vs[0]! := by
      have : 0 < vs.size := by simp at hl; omega
      simp [this]
    refine ⟨.tup _ vs (by simpa using hl) (fun x hx => ?_) (fun j x u hx hu => ?_), .tup _ fun x hx => ?_⟩
    · rcases List.mem_cons.1 hx with rfl | hx
      · rfl
      · exact hf x (List.mem_cons_of_mem _ hx)
    · cases j with
      | zero => simp at hx; subst hx; exact (h0 u hu).1
      | succ j => exact hr (j + 1) x u (by simpa using hx) hu
    · rcases List.mem_cons.1 hx with rfl | hx
      · exact (h0 _ hv0).2
      · cases hB with
        | tup _ hB => exact hB x (List.mem_cons_of_mem _ hx)
theorem PC.nilT {P : Program} {E : Env} {f : FuncId} {args : List AV} {H : Hp} {Q : AV → Hp → Prop} (h : PC P E f args H (fun v H' => ∃ l l' rest, v = .tup (.agg l :: rest) ∧ nilL l l' ∧ (∀ x ∈ l', x.free = true) ∧ Q (.tup (.agg l' :: rest)) H')) : PC P E f args H Q :=
  ⟨h.1, fun w β Rd Ow cargs h1 h2 h3 h4 => (h.2 w β Rd Ow cargs h1 h2 h3 h4).mono fun e w' ⟨u, v, H', β', Rd', Ow', he, hQ, hp⟩ => by
    obtain ⟨l, l', rest, rfl, hn, hf, hQ⟩ := hQ
    obtain ⟨k1, k2⟩ := nilT_rel hp.bnd hp.rel hn hf
    exact ⟨u, _, H', β', Rd', Ow', he, hQ, ⟨k1, k2, fun g hg => (by cases hg), rfl, hp.hr, hp.old, hp.len, hp.keep, hp.frame, hp.os, hp.tape, hp.output, hp.size⟩⟩⟩
/-- A reply's cells. -/
def Rep.avs (r : Rep) : List AV := [.int .i64 r.status, .str r.reason, .sl false 2 (flds r.fields), .str r.body, .int .i64 r.minor, .sl false 2 (flds r.trailers), .int .i64 r.kind, .int .i64 r.length, .bool r.persist]
/-- .. of a variable's own. -/
def rcellsF (st : Int) (re : List UInt8) (fs : List Fld) (mi : Int) (ki le : Int) (pe : Bool) : List AV := [.int .i64 st, .str re, .sl true 2 (flds fs), .str [], .int .i64 mi, .sl true 2 [], .int .i64 ki, .int .i64 le, .bool pe]
theorem lineX_sz {l : List UInt8} (h : (lineX l).2.2 = 0) : (lineX l).1.name.length + (lineX l).1.value.length + 1 ≤ l.length := by
  unfold lineX at h ⊢
  split at h
  · simp at h
  split at h
  · simp at h
  split at h
  · simp at h
  split at h
  · simp at h
  split at h
  · simp at h
  split at h
  · simp at h
  rename_i h1 h2 h3 h4 h5 h6
  rw [if_neg h1, if_neg h2, if_neg h3, if_neg h4, if_neg h5, if_neg h6]
  have := trimB_len (l.drop (run ncol l + 1))
  rw [List.length_drop] at this
  simp only [List.length_take]
  omega
theorem lineX_rng (l : List UInt8) : 0 ≤ (lineX l).2.1 ∧ (lineX l).2.1 ≤ l.length + 8192 := by
  have h1 := run_le ncol l
  have h2 := run_le blankB (l.drop (run ncol l + 1))
  have h3 := run_le fcB (l.drop (run ncol l + 1))
  have h4 := run_le signB l
  rw [List.length_drop] at h2 h3
  unfold lineX
  (repeat' split) <;> simp only <;> omega
theorem fsz_snoc (l : List Fld) (f : Fld) : fsz (l ++ [f]) = fsz l + (f.name.length + f.value.length) := by rw [fsz_app]; simp [fsz]
section
variable (E : Env) (H : Hp) (Q : AV → Hp → Prop)
theorem parseLineX_pc' (hE : SE E) (l : List UInt8) (hl : l.length ≤ cap) (hQ : Q (.tup [.agg [.str (lineX l).1.name, .str (lineX l).1.value], .int .i64 (lineX l).2.1, .int .i64 (lineX l).2.2]) H) :
    PC Tryz.prog E 114 [.str l] H Q := parseLineX_pc E H Q hE l hl hQ
def hdO (mi st : Int) (re : List UInt8) : HD → Option (Rep × Int × Int)
  | .part => none
  | .bad n e => some (rep0, n, e)
  | .ok fs e => some (⟨mi, st, re, fs, [], [], (framingA fs (decide (mi = 0))).1, (framingA fs (decide (mi = 0))).2.1, persistA fs (decide (mi = 0))⟩, (e : Int), 0)
def hdInv (s : List UInt8) (st mi : Int) (re : List UInt8) (F : HD) (H : Hp) (fr : List AV) (H' : Hp) : Prop := ∃ (J : Hp) (a n : Nat) (fs : List Fld), a ≤ s.length ∧ s.length < a + n ∧ fieldsR s (decide (mi = 0)) n a fs = F ∧ fsz fs + fs.length ≤ a ∧
  H' = H ++ ([rcells 0 [] 0, [.int .i64 0, .int .i64 0], rcellsF st re fs mi 0 0 false, [.int .i64 0, .int .i64 0]] ++ J) ∧
  ∃ x : Nat → AV, fr = [.str s, x 1, .ptr (some (H.length, 0)), x 3, .ptr (some (H.length + 1, 0)), .ptr (some (H.length + 2, 0)), .int .i64 a, .ptr (some (H.length + 3, 0)), x 8, x 9, x 10, x 11, x 12, x 13, x 14, x 15, x 16, x 17, x 18, x 19, x 20, x 21, x 22, x 23, x 24, x 25, x 26, x 27, x 28, x 29, x 30, x 31, x 32, x 33, x 34, x 35, x 36, x 37, x 38, x 39, x 40, x 41, x 42, x 43, x 44, x 45, x 46, x 47, x 48, x 49, x 50, x 51, x 52, x 53, x 54, x 55, x 56, x 57, x 58, x 59, x 60, x 61, x 62, x 63, x 64, x 65, x 66, x 67, x 68, x 69, x 70, x 71, x 72, x 73, x 74, x 75, x 76, x 77, x 78, x 79, x 80, x 81, x 82, x 83, x 84, x 85, x 86, x 87, x 88, x 89, x 90, x 91, x 92, x 93, x 94, x 95, x 96, x 97, x 98, x 99, x 100]
set_option maxHeartbeats 2000000 in
theorem rhead_pc (hE : SE E) (s : List UInt8) (hl : s.length ≤ 65536)
    (hQ1 : ∀ (r : Rep) (n : Nat), headO s = some (r, (n : Int), 0) → Q (.tup [.agg r.avs, .int .i64 n, .agg [.int .i64 0, .int .i64 0]]) H)
    (hQ2 : ∀ (r : Rep) (n e : Int), headO s = some (rep0, n, e) → e ≠ 0 → Q (.tup [.agg r.avs, .int .i64 0, .agg [.int .i64 n, .int .i64 e]]) H)
    (hQ3 : ∀ (r : Rep), headO s = none → Q (.tup [.agg r.avs, .int .i64 0, .agg [.int .i64 s.length, .int .i64 124]]) H) : PC Tryz.prog E 83 [.str s] H Q := by
  refine PC.nilT ?_
  have hnil : ∀ (st : Int) (re : List UInt8) (mi : Int), nilL (rcells st re mi) (Rep.avs ⟨mi, st, re, [], [], [], 0, 0, false⟩) := fun st re mi =>
    ⟨.inl rfl, .inl rfl, .inr ⟨rfl, false, 2, rfl⟩, .inl rfl, .inl rfl, .inr ⟨rfl, false, 2, rfl⟩, .inl rfl, .inl rfl, .inl rfl, trivial⟩
  have hfree : ∀ r : Rep, ∀ x ∈ r.avs, x.free = true := fun r => by simp [Rep.avs, AV.free]
  have hrefl : ∀ r : Rep, nilL r.avs r.avs := fun r => nilL_refl _
  refine pc_enterF (fun i => H.length + 2 ≤ i) Tryz.func83 rfl [94] [(3, [2, 2, 2, 0, 2]), (6, [2, 2, 2, 0, 2]), (12, [0, 0, 0, 0, 0, 1])] (by kernel_rfl) (fun E' hS' h0' hF' hB => ?_)
  have hE' : SE E' := ⟨by rw [hF']; exact hE.1, by rw [h0']; exact hE.2⟩
  simp [Tryz.ntmps83, Tryz.results83, List.replicate_succ]
  refine statusLine_pc E' _ _ s (by omega) (fun a0 hst => ?_) (fun st re mi n hst => ?_) (fun st re mi hst => ?_)
  rotate_left
  · have hO : headO s = some (rep0, (n : Int), 122) := by unfold headO; rw [hst]
    simp [rcells, hS']
    exact aPost_same hB (v0 := .tup [.agg (rcells st re mi), .int .i64 0, .agg [.int .i64 n, .int .i64 122]]) (by simp [rcells]) (nilV_refl _) (by simp [rcells]) ⟨_, _, _, rfl, hnil _ _ _, hfree _, hQ2 _ _ _ hO (by decide)⟩
  · have hO : headO s = none := by unfold headO; rw [hst]
    simp [rcells, hS']
    exact aPost_same hB (v0 := .tup [.agg (rcells st re mi), .int .i64 0, .agg [.int .i64 s.length, .int .i64 124]]) (by simp [rcells]) (nilV_refl _) (by simp [rcells]) ⟨_, _, _, rfl, hnil _ _ _, hfree _, hQ3 _ hO⟩
  obtain ⟨_, h13, _, ha15, ha⟩ := stR_pre hst
  obtain ⟨st, hst2⟩ : ∃ st, 100 * dg s 9 + 10 * dg s 10 + dg s 11 = st := ⟨_, rfl⟩
  obtain ⟨re, hre⟩ : ∃ re, (s.drop 13).take (a0 - 2 - 13) = re := ⟨_, rfl⟩
  obtain ⟨mi, hmi⟩ : ∃ mi, dg s 7 = mi := ⟨_, rfl⟩
  obtain ⟨F, hF⟩ : ∃ F, fieldsR s (decide (mi = 0)) (s.length + 1) a0 [] = F := ⟨_, rfl⟩
  have hO : headO s = hdO mi st re F := by
    unfold headO
    rw [hst]
    simp only
    rw [hmi, hF, hst2, hre]
    cases F <;> rfl
  rw [hst2, hre, hmi]
  clear hst2 hre hmi
  simp [rcells, hS']
  refine VL_nilH (H.length + 2) _ 2 2 (by simp; rfl) rfl ?_
  simp
  refine VL_nilH (H.length + 2) _ 5 2 (by simp; rfl) rfl ?_
  simp
  refine VL_go (hdInv s st mi re F H) (fun fr _ => s.length - (ai (aget fr 6)).toNat) ⟨[], a0, s.length + 1, [], ha, by omega, hF, by simp [fsz], by simp [rcells, rcellsF, flds], fr_intro (by simp)⟩ ?_
  rintro fr H' ⟨J, a, n, fs, ha, hn, hF, hfz, rfl, x, rfl⟩
  obtain ⟨m, rfl⟩ : ∃ m, n = m + 1 := ⟨n - 1, by omega⟩
  rw [fieldsR_next] at hF
  simp [rcellsF, rcells]
  refine line_pc E' _ _ s a ha (by omega) (fun i hai hi2 hL => ?_) (fun i hL => ?_) (fun hL => ?_)
  rotate_left
  · have hx : nextR s (decide (mi = 0)) a fs = .inl (.bad i 122) := by unfold nextR; rw [hL]
    rw [hx] at hF
    simp only at hF
    subst hF
    simp [hS']
    exact aPost_same hB (v0 := .tup [.agg (Rep.avs ⟨mi, st, re, fs, [], [], 0, 0, false⟩), .int .i64 0, .agg [.int .i64 i, .int .i64 122]]) (by simp [Rep.avs, flds]) (nilV_refl _) (by simp [Rep.avs, bnd_flds]) ⟨_, _, _, rfl, hrefl _, hfree _, hQ2 _ _ _ hO (by decide)⟩
  · have hx : nextR s (decide (mi = 0)) a fs = .inl .part := by unfold nextR; rw [hL]
    rw [hx] at hF
    simp only at hF
    subst hF
    simp [hS']
    exact aPost_same hB (v0 := .tup [.agg (Rep.avs ⟨mi, st, re, fs, [], [], 0, 0, false⟩), .int .i64 0, .agg [.int .i64 s.length, .int .i64 124]]) (by simp [Rep.avs, flds]) (nilV_refl _) (by simp [Rep.avs, bnd_flds]) ⟨_, _, _, rfl, hrefl _, hfree _, hQ3 _ hO⟩
  obtain ⟨l, hl⟩ : ∃ l, (s.drop a).take (i - a) = l := ⟨_, rfl⟩
  have hll : l.length = i - a := by rw [← hl, List.length_take, List.length_drop]; omega
  rw [hl]
  have hi2' : (s.drop a).take (i + 2 - 2 - a) = l := by rw [show i + 2 - 2 - a = i - a by omega]; exact hl
  have hsz : fsz fs + fs.length ≤ 4194304 := by omega
  by_cases hle : l = []
  · have hx : nextR s (decide (mi = 0)) a fs = .inl (if (framingA fs (decide (mi = 0))).2.2 ≠ 0 then .bad a (framingA fs (decide (mi = 0))).2.2 else .ok fs (i + 2)) := by
      unfold nextR
      rw [hL]
      simp only
      rw [hi2', if_pos hle]
    rw [hx] at hF
    simp only at hF
    subst hF
    have hmb : (mi == 0) = decide (mi = 0) := rfl
    simp [hle]
    refine framing_pc E' _ _ hE' fs (decide (mi = 0)) hsz ?_
    by_cases he : (framingA fs (decide (mi = 0))).2.2 = 0
    · rw [if_neg (by simpa using he)] at hO
      simp [he, hS']
      refine persist_pc E' _ _ hE' fs (decide (mi = 0)) hsz ?_
      have hq := hQ1 _ _ hO
      simp
      exact aPost_same hB (v0 := .tup [.agg (Rep.avs ⟨mi, st, re, fs, [], [], (framingA fs (decide (mi = 0))).1, (framingA fs (decide (mi = 0))).2.1, persistA fs (decide (mi = 0))⟩), .int .i64 ((i + 2 : Nat) : Int), .agg [.int .i64 0, .int .i64 0]]) (by simp [Rep.avs, flds]) (nilV_refl _) (by simp [Rep.avs, bnd_flds]) ⟨_, _, _, rfl, hrefl _, hfree _, hq⟩
    · rw [if_pos he] at hO
      have he2 : ((framingA fs (decide (mi = 0))).2.2 != 0) = true := by simpa using he
      simp [he2, hS']
      exact aPost_same hB (v0 := .tup [.agg (Rep.avs ⟨mi, st, re, fs, [], [], 0, 0, false⟩), .int .i64 0, .agg [.int .i64 a, .int .i64 (framingA fs (decide (mi = 0))).2.2]]) (by simp [Rep.avs, flds]) (nilV_refl _) (by simp [Rep.avs, bnd_flds]) ⟨_, _, _, rfl, hrefl _, hfree _, hQ2 _ _ _ hO he⟩
  · have hle2 : (l == []) = false := by simpa using hle
    by_cases h100 : 100 ≤ fs.length
    · have hx : nextR s (decide (mi = 0)) a fs = .inl (.bad a 65) := by
        unfold nextR
        rw [hL]
        simp only
        rw [hi2', if_neg hle, if_pos h100]
      rw [hx] at hF
      simp only at hF
      subst hF
      have h100' : (100 : Int) ≤ fs.length := by omega
      simp [hle2, h100', hS']
      exact aPost_same hB (v0 := .tup [.agg (Rep.avs ⟨mi, st, re, fs, [], [], 0, 0, false⟩), .int .i64 0, .agg [.int .i64 a, .int .i64 65]]) (by simp [Rep.avs, flds]) (nilV_refl _) (by simp [Rep.avs, bnd_flds]) ⟨_, _, _, rfl, hrefl _, hfree _, hQ2 _ _ _ hO (by decide)⟩
    · have h100' : ¬ (100 : Int) ≤ fs.length := by omega
      simp [hle2, h100']
      refine parseLineX_pc' E' _ _ hE' l (by simp only [cap]; omega) ?_
      by_cases he : (lineX l).2.2 = 0
      · have hx : nextR s (decide (mi = 0)) a fs = .inr (i + 2, fs ++ [(lineX l).1]) := by
          unfold nextR
          rw [hL]
          simp only
          rw [hi2', if_neg hle, if_neg h100, if_neg (by simpa using he)]
        rw [hx] at hF
        simp only at hF
        have hls := lineX_sz he
        have hsn := fsz_snoc fs (lineX l).1
        have hfs : flds fs ++ [[.str (lineX l).1.name, .str (lineX l).1.value]] = flds (fs ++ [(lineX l).1]) := by simp [flds]
        have m1 : fs.length + 1 ≤ maxLen := by unfold maxLen; omega
        have m2 : (fs.length + 1) * 32 ≤ 140737488355328 := by omega
        simp [he, m1, m2, hfs]
        exact Kloop_normal ⟨_, i + 2, m, _, by omega, by omega, hF, by rw [hsn]; simp; omega, by simp [rcellsF, rcells]; rfl, fr_intro (by simp)⟩ (by simp; omega)
      · have hx : nextR s (decide (mi = 0)) a fs = .inl (.bad (a + (lineX l).2.1) (lineX l).2.2) := by
          unfold nextR
          rw [hL]
          simp only
          rw [hi2', if_neg hle, if_neg h100, if_pos he]
        rw [hx] at hF
        simp only at hF
        subst hF
        have he2 : ((lineX l).2.2 != 0) = true := by simpa using he
        have hrg := lineX_rng l
        have hw : IntKind.i64.wrap ((a : Int) + (lineX l).2.1) = a + (lineX l).2.1 := wrap_in (by omega) (by omega)
        simp [he2, hw, hS']
        exact aPost_same hB (v0 := .tup [.agg (Rep.avs ⟨mi, st, re, fs, [], [], 0, 0, false⟩), .int .i64 0, .agg [.int .i64 (a + (lineX l).2.1), .int .i64 (lineX l).2.2]]) (by simp [Rep.avs, flds]) (nilV_refl _) (by simp [Rep.avs, bnd_flds]) ⟨_, _, _, rfl, hrefl _, hfree _, hQ2 _ _ _ hO he⟩
end
end Go.Proofs.YtcdkcaocfioigaaGreatDoor

set_option linter.unusedVariables false
set_option linter.unnecessarySimpa false
set_option linter.unusedSimpArgs false
set_option linter.unusedSectionVars false
set_option maxRecDepth 100000
namespace Go.Proofs.YtcdkcaocfioigaaGreatDoor
open Go Go.RowKit Go.Proofs

theorem lineX_code (l : List UInt8) : (lineX l).2.2 ≠ 124 := by
  unfold lineX
  (repeat' split) <;> simp
theorem lengthA_code (l : List Fld) : (lengthA l).2.2 = 0 ∨ (lengthA l).2.2 = 66 := by
  unfold lengthA
  (repeat' split) <;> simp
theorem framingA_code (l : List Fld) (old : Bool) : (framingA l old).2.2 ≠ 124 := by
  have := lengthA_code l
  unfold framingA
  (repeat' split) <;> simp <;> omega
theorem fieldsR_code {t : List UInt8} {old : Bool} : ∀ (n a : Nat) (fs : List Fld) (i e : Int), fieldsR t old n a fs = .bad i e → e ≠ 124
  | 0, a, fs, i, e, h => by rw [fieldsR] at h; cases h
  | n + 1, a, fs, i, e, h => by
    rw [fieldsR_next] at h
    cases hx : nextR t old a fs with
    | inl x =>
      rw [hx] at h
      simp only at h
      subst h
      unfold nextR at hx
      cases he : lineR t a with
      | part => rw [he] at hx; cases hx
      | bad i => rw [he] at hx; injection hx with hx; injection hx with _ hx; rw [← hx]; decide
      | ok e' =>
        rw [he] at hx
        simp only at hx
        split at hx
        · split at hx
          · injection hx with hx
            injection hx with _ hx
            rw [← hx]; exact framingA_code _ _
          · cases hx
        · split at hx
          · injection hx with hx
            injection hx with _ hx
            rw [← hx]; decide
          · split at hx
            · injection hx with hx
              injection hx with _ hx
              rw [← hx]; exact lineX_code _
            · cases hx
    | inr p =>
      obtain ⟨e', gs'⟩ := p
      rw [hx] at h
      exact fieldsR_code n e' gs' i e h
theorem headO_code {t : List UInt8} {r : Rep} {n e : Int} (h : headO t = some (r, n, e)) : e ≠ 124 := by
  unfold headO at h
  cases hs : stR t with
  | part => rw [hs] at h; cases h
  | bad i => rw [hs] at h; cases h; decide
  | ok a =>
    rw [hs] at h
    simp only at h
    cases hf : fieldsR t (decide (dg t 7 = 0)) (t.length + 1) a [] with
    | part => rw [hf] at h; cases h
    | bad n e => rw [hf] at h; cases h; exact fieldsR_code _ _ _ _ _ hf
    | ok fs e => rw [hf] at h; cases h; decide
theorem decodeD_at (s : List UInt8) (m r f : Int) : -1 ≤ (decodeD s m r f).2.2.1 ∧ (decodeD s m r f).2.2.1 ≤ s.length := by
  have := feedD_le s (newD m r f)
  unfold decodeD
  (repeat' split) <;> simp only <;> omega
/-- The cells of no reply. -/
def rzero : List AV := [.int .i64 0, .str [], .nil, .str [], .int .i64 0, .nil, .int .i64 0, .int .i64 0, .bool false]
theorem rzero_nil : nilL rzero rep0.avs := ⟨.inl rfl, .inl rfl, .inr ⟨rfl, false, 2, rfl⟩, .inl rfl, .inl rfl, .inr ⟨rfl, false, 2, rfl⟩, .inl rfl, .inl rfl, .inl rfl, trivial⟩
theorem avs_free (r : Rep) : ∀ x ∈ r.avs, x.free = true := by simp [Rep.avs, AV.free]
theorem avs_bnd (r : Rep) (N : Nat) : ∀ x ∈ r.avs, Bnd N x := by simp [Rep.avs, bnd_flds]
section
variable (E : Env) (H : Hp) (Q : AV → Hp → Prop)
set_option maxHeartbeats 1000000 in
theorem parseHead_pc (hE : SE E) (s : List UInt8) (hl : s.length ≤ 1000000000) (hQ : Q (.tup [.agg (headM s).1.avs, .int .i64 (headM s).2.1, .int .i64 (headM s).2.2]) H) : PC Tryz.prog E 56 [.str s] H Q := by
  refine PC.nilT ?_
  refine pc_enterF (fun i => i = H.length + 2) Tryz.func56 rfl [] [(5, [0, 0, 2, 0, 2, 2])] (by kernel_rfl) (fun E' hS' h0' hF' hB => ?_)
  have hE' : SE E' := ⟨by rw [hF']; exact hE.1, by rw [h0']; exact hE.2⟩
  have fin : ∀ a : Rep × Int × Int, headM s = a → Q (.tup [.agg a.1.avs, .int .i64 a.2.1, .int .i64 a.2.2]) H := fun a ha => ha ▸ hQ
  have hM := headM_eq s
  by_cases hs : 65536 < s.length
  · have hs' : (65536 : Int) < s.length := by omega
    have hle : 65536 ≤ s.length := by omega
    rw [if_pos hs] at hM
    simp [Tryz.ntmps56, Tryz.results56, List.replicate_succ, hs', hle]
    refine rhead_pc E' _ _ hE' (s.take 65536) (by rw [List.length_take]; omega) (fun r n hO => ?_) (fun r n e hO he => ?_) (fun r hO => ?_)
    · rw [hO] at hM
      simp [Rep.avs]
      exact aPost_same hB (v0 := .tup [.agg r.avs, .int .i64 n, .int .i64 0]) (by simp [Rep.avs]) (nilV_refl _) (by simp [Rep.avs, bnd_flds]) ⟨_, _, _, rfl, nilL_refl _, avs_free _, fin _ hM⟩
    · rw [hO] at hM
      have he1 : (e == 124) = false := by simpa using headO_code hO
      have he2 : (e != 0) = true := by simpa using he
      simp [Rep.avs, he1, he2, hS']
      exact aPost_same hB (v0 := .tup [.agg rzero, .int .i64 n, .int .i64 e]) (by simp [rzero]) (nilV_refl _) (by simp [rzero]) ⟨_, _, _, rfl, rzero_nil, avs_free _, fin _ hM⟩
    · rw [hO] at hM
      simp [Rep.avs, hs', hS']
      exact aPost_same hB (v0 := .tup [.agg rzero, .int .i64 65536, .int .i64 125]) (by simp [rzero]) (nilV_refl _) (by simp [rzero]) ⟨_, _, _, rfl, rzero_nil, avs_free _, fin _ hM⟩
  · have hs' : ¬ (65536 : Int) < s.length := by omega
    rw [if_neg hs, List.take_of_length_le (by omega)] at hM
    have htk : List.take s.length s = s := List.take_of_length_le (Nat.le_refl _)
    simp [Tryz.ntmps56, Tryz.results56, List.replicate_succ, hs', htk]
    refine rhead_pc E' _ _ hE' s (by omega) (fun r n hO => ?_) (fun r n e hO he => ?_) (fun r hO => ?_)
    · rw [hO] at hM
      simp [Rep.avs]
      exact aPost_same hB (v0 := .tup [.agg r.avs, .int .i64 n, .int .i64 0]) (by simp [Rep.avs]) (nilV_refl _) (by simp [Rep.avs, bnd_flds]) ⟨_, _, _, rfl, nilL_refl _, avs_free _, fin _ hM⟩
    · rw [hO] at hM
      have he1 : (e == 124) = false := by simpa using headO_code hO
      have he2 : (e != 0) = true := by simpa using he
      simp [Rep.avs, he1, he2, hS']
      exact aPost_same hB (v0 := .tup [.agg rzero, .int .i64 n, .int .i64 e]) (by simp [rzero]) (nilV_refl _) (by simp [rzero]) ⟨_, _, _, rfl, rzero_nil, avs_free _, fin _ hM⟩
    · rw [hO] at hM
      simp [Rep.avs, hs', hS']
      exact aPost_same hB (v0 := .tup [.agg rzero, .int .i64 s.length, .int .i64 124]) (by simp [rzero]) (nilV_refl _) (by simp [rzero]) ⟨_, _, _, rfl, rzero_nil, avs_free _, fin _ hM⟩
set_option maxHeartbeats 2000000 in
theorem parse_pc (hE : SE E) (m s : List UInt8) (most : Int) (ended : Bool) (hl : s.length ≤ 1000000000) (hm : -9223372036854775808 ≤ most ∧ most ≤ 9223372036854775807)
    (hQ : Q (.tup [.agg (parseM m s most ended).1.avs, .int .i64 (parseM m s most ended).2.1, .int .i64 (parseM m s most ended).2.2]) H) : PC Tryz.prog E 23 [.str m, .str s, .int .i64 most, .bool ended] H Q := by
  refine PC.nilT ?_
  refine pc_enterF (fun i => i = H.length + 1) Tryz.func23 rfl [] [(27, [2, 0, 0, 0, 2, 0, 2])] (by kernel_rfl) (fun E' hS' h0' hF' hB => ?_)
  have hE' : SE E' := ⟨by rw [hF']; exact hE.1, by rw [h0']; exact hE.2⟩
  have fin : ∀ a : Rep × Int × Int, parseM m s most ended = a → Q (.tup [.agg a.1.avs, .int .i64 a.2.1, .int .i64 a.2.2]) H := fun a ha => ha ▸ hQ
  by_cases h0 : most < 0
  · simp [Tryz.ntmps23, Tryz.results23, List.replicate_succ, h0]
    exact aPost_same hB (v0 := .tup [.agg rzero, .int .i64 0, .int .i64 1]) (by simp [rzero]) (nilV_refl _) (by simp [rzero]) ⟨_, _, _, rfl, rzero_nil, avs_free _, fin _ (parseM_neg m s ended h0)⟩
  simp [Tryz.ntmps23, Tryz.results23, List.replicate_succ, h0]
  refine parseHead_pc E' _ _ hE' s hl ?_
  by_cases h1 : (headM s).2.2 = 0
  rotate_left
  · have h1' : ((headM s).2.2 != 0) = true := by simpa using h1
    simp [Rep.avs, h1']
    exact aPost_same hB (v0 := .tup [.agg rzero, .int .i64 (headM s).2.1, .int .i64 (headM s).2.2]) (by simp [rzero]) (nilV_refl _) (by simp [rzero]) ⟨_, _, _, rfl, rzero_nil, avs_free _, fin _ (parseM_bad ended h0 h1)⟩
  simp [Rep.avs, h1]
  refine bodyless_pc E' _ _ m _ ?_
  cases h2 : bodylessB m (headM s).1.status with
  | true =>
    have hP := parseM_none ended h0 h1 h2
    simp
    exact aPost_same hB (v0 := .tup [.agg (headM s).1.avs, .int .i64 (headM s).2.1, .int .i64 0]) (by simp [Rep.avs]) (nilV_refl _) (by simp [Rep.avs, bnd_flds]) ⟨_, _, _, rfl, nilL_refl _, avs_free _, by have := fin _ hP; rw [h1] at this; exact this⟩
  | false =>
    obtain ⟨n, hn, h17, hnl, hn2⟩ := headM_rng h1
    have hP := parseM_body ended h0 h1 h2 hn
    have hlen := headM_len s
    obtain ⟨r, hr⟩ : ∃ r, (headM s).1 = r := ⟨_, rfl⟩
    rw [hr] at hP hlen ⊢
    rw [hn]
    have hgt : n ≤ s.length := hnl
    have hrl : (s.drop n).length = s.length - n := List.length_drop
    have htl : List.take (s.length - n) (s.drop n) = s.drop n := List.take_of_length_le (by omega)
    simp [hgt, htl]
    obtain ⟨rest, hrest⟩ : ∃ rest, s.drop n = rest := ⟨_, rfl⟩
    rw [hrest] at hP hrl ⊢
    have hE2 : n + rest.length = s.length := by omega
    unfold bodyM at hP
    by_cases k2 : r.kind = 2
    · rw [if_pos k2] at hP
      simp [k2]
      refine decode_pc E' _ _ hE' rest most 65536 100 (by omega) (by omega) (by omega) (by omega) ?_
      have hat := decodeD_at rest most 65536 100
      obtain ⟨⟨db, dt, dk, de⟩, hd⟩ : ∃ d, decodeD rest most 65536 100 = d := ⟨_, rfl⟩
      rw [hd] at hP hat ⊢
      simp only at hP hat ⊢
      have hw : IntKind.i64.wrap ((n : Int) + dk) = n + dk := wrap_in (by omega) (by omega)
      by_cases d0 : de = 0
      · rw [if_pos d0] at hP
        simp [d0, hw]
        exact aPost_same hB (v0 := .tup [.agg (Rep.avs { r with body := db, trailers := dt }), .int .i64 (n + dk), .int .i64 0]) (by simp [Rep.avs, k2]) (nilV_refl _) (by simp [Rep.avs, bnd_flds]) ⟨_, _, _, rfl, nilL_refl _, avs_free _, fin _ hP⟩
      · rw [if_neg d0] at hP
        have d0' : (de == 0) = false := by simpa using d0
        by_cases d1 : de = 105
        · rw [if_pos d1] at hP
          simp [d1, hw]
          exact aPost_same hB (v0 := .tup [.agg rzero, .int .i64 (n + dk), .int .i64 124]) (by simp [rzero]) (nilV_refl _) (by simp [rzero]) ⟨_, _, _, rfl, rzero_nil, avs_free _, fin _ hP⟩
        · rw [if_neg d1] at hP
          have d1' : (de == 105) = false := by simpa using d1
          by_cases d2 : de = 102
          · rw [if_pos d2] at hP
            simp [d2, hw]
            exact aPost_same hB (v0 := .tup [.agg rzero, .int .i64 (n + dk), .int .i64 125]) (by simp [rzero]) (nilV_refl _) (by simp [rzero]) ⟨_, _, _, rfl, rzero_nil, avs_free _, fin _ hP⟩
          · rw [if_neg d2] at hP
            have d2' : (de == 102) = false := by simpa using d2
            simp [d0', d1', d2', hw]
            exact aPost_same hB (v0 := .tup [.agg rzero, .int .i64 (n + dk), .int .i64 de]) (by simp [rzero]) (nilV_refl _) (by simp [rzero]) ⟨_, _, _, rfl, rzero_nil, avs_free _, fin _ hP⟩
    · rw [if_neg k2] at hP
      have k2' : (r.kind == 2) = false := by simpa using k2
      by_cases k1 : r.kind = 1
      · rw [if_pos k1] at hP
        simp [k1]
        by_cases c1 : most < r.length
        · rw [if_pos c1] at hP
          simp [c1]
          exact aPost_same hB (v0 := .tup [.agg rzero, .int .i64 n, .int .i64 125]) (by simp [rzero]) (nilV_refl _) (by simp [rzero]) ⟨_, _, _, rfl, rzero_nil, avs_free _, fin _ hP⟩
        · rw [if_neg c1] at hP
          by_cases c2 : (rest.length : Int) < r.length
          · rw [if_pos c2] at hP
            simp [c1, c2]
            exact aPost_same hB (v0 := .tup [.agg rzero, .int .i64 s.length, .int .i64 124]) (by simp [rzero]) (nilV_refl _) (by simp [rzero]) ⟨_, _, _, rfl, rzero_nil, avs_free _, fin _ hP⟩
          · rw [if_neg c2] at hP
            have c3 : r.length.toNat ≤ rest.length := by omega
            have hw : IntKind.i64.wrap ((n : Int) + r.length) = n + r.length := wrap_in (by omega) (by omega)
            simp [c1, c2, c3, hlen, hw, hS']
            exact aPost_same hB (v0 := .tup [.agg (Rep.avs { r with body := rest.take r.length.toNat }), .int .i64 (n + r.length), .int .i64 0]) (by simp [Rep.avs, k1]) (nilV_refl _) (by simp [Rep.avs, bnd_flds]) ⟨_, _, _, rfl, nilL_refl _, avs_free _, fin _ hP⟩
      · rw [if_neg k1] at hP
        have k1' : (r.kind == 1) = false := by simpa using k1
        simp [k1', k2']
        by_cases c1 : most < rest.length
        · rw [if_pos c1] at hP
          have hw : IntKind.i64.wrap ((n : Int) + most) = n + most := wrap_in (by omega) (by omega)
          simp [c1, hw]
          exact aPost_same hB (v0 := .tup [.agg rzero, .int .i64 (n + most), .int .i64 125]) (by simp [rzero]) (nilV_refl _) (by simp [rzero]) ⟨_, _, _, rfl, rzero_nil, avs_free _, fin _ hP⟩
        · rw [if_neg c1] at hP
          cases he : ended with
          | false =>
            rw [if_pos he] at hP
            simp [c1]
            exact aPost_same hB (v0 := .tup [.agg rzero, .int .i64 s.length, .int .i64 124]) (by simp [rzero]) (nilV_refl _) (by simp [rzero]) ⟨_, _, _, rfl, rzero_nil, avs_free _, fin _ hP⟩
          | true =>
            rw [if_neg (by rw [he]; simp)] at hP
            simp [c1]
            exact aPost_same hB (v0 := .tup [.agg (Rep.avs { r with body := rest, persist := false }), .int .i64 s.length, .int .i64 0]) (by simp [Rep.avs]) (nilV_refl _) (by simp [Rep.avs, bnd_flds]) ⟨_, _, _, rfl, nilL_refl _, avs_free _, fin _ hP⟩
end
end Go.Proofs.YtcdkcaocfioigaaGreatDoor

set_option linter.unusedVariables false
set_option linter.unnecessarySimpa false
set_option linter.unusedSimpArgs false
set_option linter.unusedSectionVars false
set_option maxRecDepth 100000
namespace Go.Proofs.YtcdkcaocfioigaaGreatDoor
open Go Go.RowKit Go.Proofs

/-- A reply's cells, its lists as they are held. -/
def rcellsV (st : Int) (re : List UInt8) (v : AV) (bo : List UInt8) (mi : Int) (t : AV) (ki le : Int) (pe : Bool) : List AV := [.int .i64 st, .str re, v, .str bo, .int .i64 mi, t, .int .i64 ki, .int .i64 le, .bool pe]
theorem framingV_pc (E : Env) (H : Hp) (Q : AV → Hp → Prop) (hE : SE E) (v : AV) (N : Nat) (l : List Fld) (old : Bool) (hv : FB H N v l) (hl : fsz l + l.length ≤ 4194304) (hQ : Q (.tup [.agg [.int .i64 (framingA l old).1, .int .i64 (framingA l old).2.1], .int .i64 (framingA l old).2.2]) H) : PC Tryz.prog E 112 [v, .bool old] H Q :=
  PC.pure (args' := [.sl false 2 (flds l), .bool old]) (by kernel_rfl) ⟨hv.sees, .inl rfl, trivial⟩ (by simp [bnd_flds]) (by simp) (fun E' Q' h0 hF hq => framing_pc E' [] Q' ⟨by rw [hF]; exact hE.1, by rw [h0]; exact hE.2⟩ l old hl hq) hQ
theorem persistV_pc (E : Env) (H : Hp) (Q : AV → Hp → Prop) (hE : SE E) (v : AV) (N : Nat) (l : List Fld) (old : Bool) (hv : FB H N v l) (hl : fsz l + l.length ≤ 4194304) (hQ : Q (.bool (persistA l old)) H) : PC Tryz.prog E 113 [v, .bool old] H Q :=
  PC.pure (args' := [.sl false 2 (flds l), .bool old]) (by kernel_rfl) ⟨hv.sees, .inl rfl, trivial⟩ (by simp [bnd_flds]) (by simp) (fun E' Q' h0 hF hq => persist_pc E' [] Q' ⟨by rw [hF]; exact hE.1, by rw [h0]; exact hE.2⟩ l old hl hq) hQ
section
variable (E : Env) (H : Hp) (Q : AV → Hp → Prop)
def hbInv (s : List UInt8) (st mi : Int) (re : List UInt8) (F : HD) (H : Hp) (fr : List AV) (K : Hp) : Prop := ∃ (v : AV) (a n : Nat) (fs : List Fld), a ≤ s.length ∧ s.length < a + n ∧ fieldsR s (decide (mi = 0)) n a fs = F ∧ fsz fs + fs.length ≤ a ∧
  H.length + 4 ≤ K.length ∧ (∀ j, j < H.length → K[j]? = H[j]?) ∧ K[H.length]? = some (rcells 0 [] 0) ∧ K[H.length + 1]? = some [.int .i64 0, .int .i64 0] ∧ K[H.length + 2]? = some (rcellsV st re v [] mi .nil 0 0 false) ∧ FB K (H.length + 4) v fs ∧ BndH K.length K ∧
  ∃ x : Nat → AV, fr = [.str s, x 1, .ptr (some (H.length, 0)), x 3, .ptr (some (H.length + 1, 0)), .ptr (some (H.length + 2, 0)), .int .i64 a, .ptr (some (H.length + 3, 0)), x 8, x 9, x 10, x 11, x 12, x 13, x 14, x 15, x 16, x 17, x 18, x 19, x 20, x 21, x 22, x 23, x 24, x 25, x 26, x 27, x 28, x 29, x 30, x 31, x 32, x 33, x 34, x 35, x 36, x 37, x 38, x 39, x 40, x 41, x 42, x 43, x 44, x 45, x 46, x 47, x 48, x 49, x 50, x 51, x 52, x 53, x 54, x 55, x 56, x 57, x 58, x 59, x 60, x 61, x 62, x 63, x 64, x 65, x 66, x 67, x 68, x 69, x 70, x 71, x 72, x 73, x 74, x 75, x 76, x 77, x 78, x 79, x 80, x 81, x 82, x 83, x 84, x 85, x 86, x 87, x 88, x 89, x 90, x 91, x 92, x 93, x 94, x 95, x 96, x 97, x 98, x 99, x 100]
theorem hbK {H K L : Hp} (hlen : H.length + 4 ≤ K.length) (hkeep : ∀ j, j < H.length → K[j]? = H[j]?) {a b : List AV} (k0 : K[H.length]? = some a) (k1 : K[H.length + 1]? = some b) (hl : L.length = K.length) (hg : ∀ j, j < H.length + 2 → L[j]? = K[j]?) (row : List AV) (J : Hp) :
    H.length + 4 ≤ (L.set (H.length + 2) row ++ J).length ∧ (∀ j, j < H.length → (L.set (H.length + 2) row ++ J)[j]? = H[j]?) ∧ (L.set (H.length + 2) row ++ J)[H.length]? = some a ∧ (L.set (H.length + 2) row ++ J)[H.length + 1]? = some b ∧ (L.set (H.length + 2) row ++ J)[H.length + 2]? = some row := by
  have key : ∀ j, j < H.length + 2 → (L.set (H.length + 2) row ++ J)[j]? = K[j]? := fun j hj => by
    rw [List.getElem?_append_left (by simp; omega), getN (by omega), hg j hj]
  exact ⟨by simp; omega, fun j hj => (key j (by omega)).trans (hkeep j hj), (key _ (by omega)).trans k0, (key _ (by omega)).trans k1, by rw [List.getElem?_append_left (by simp; omega), List.getElem?_set_self (by omega)]⟩
theorem strs_bnd {A : List AV} (h : ∀ y ∈ A, ∃ s, y = AV.str s) (N : Nat) : ∀ x ∈ A, Bnd N x := fun x hx => by obtain ⟨s, rfl⟩ := h x hx; exact .str _
set_option maxHeartbeats 4000000 in
theorem rhead_bx (hE : SE E) (s : List UInt8) (hl : s.length ≤ 65536) (r : Rep) (n : Nat) (hO : headO s = some (r, (n : Int), 0))
    (hQ : ∀ (v : AV) (K : Hp), H.length ≤ K.length → (∀ j, j < H.length → K[j]? = H[j]?) → FB K (H.length + 4) v r.fields → Q (.tup [.agg (rcellsV r.status r.reason v [] r.minor .nil r.kind r.length r.persist), .int .i64 n, .agg [.int .i64 0, .int .i64 0]]) K) : PC Tryz.prog E 83 [.str s] H Q := by
  refine pc_enterF (fun i => H.length + 2 ≤ i) Tryz.func83 rfl [] [(3, [2, 2, 2, 0, 2]), (6, [2, 2, 2, 0, 2]), (12, [0, 0, 0, 0, 0, 1]), (19, [0, 0, 0, 0, 0, 3])] (by kernel_rfl) (fun E' hS' h0' hF' hB => ?_)
  have hE' : SE E' := ⟨by rw [hF']; exact hE.1, by rw [h0']; exact hE.2⟩
  simp [Tryz.ntmps83, Tryz.results83, List.replicate_succ]
  refine statusLine_pc E' _ _ s (by omega) (fun a0 hst => ?_) (fun st re mi n hst => ?_) (fun st re mi hst => ?_)
  rotate_left
  · have : headO s = some (rep0, (n : Int), 122) := by unfold headO; rw [hst]
    rw [this] at hO; cases hO
  · have : headO s = none := by unfold headO; rw [hst]
    rw [this] at hO; cases hO
  obtain ⟨_, h13, _, ha15, ha⟩ := stR_pre hst
  obtain ⟨st, hst2⟩ : ∃ st, 100 * dg s 9 + 10 * dg s 10 + dg s 11 = st := ⟨_, rfl⟩
  obtain ⟨re, hre⟩ : ∃ re, (s.drop 13).take (a0 - 2 - 13) = re := ⟨_, rfl⟩
  obtain ⟨mi, hmi⟩ : ∃ mi, dg s 7 = mi := ⟨_, rfl⟩
  obtain ⟨F, hF⟩ : ∃ F, fieldsR s (decide (mi = 0)) (s.length + 1) a0 [] = F := ⟨_, rfl⟩
  have hO2 : headO s = hdO mi st re F := by
    unfold headO
    rw [hst]
    simp only
    rw [hmi, hF, hst2, hre]
    cases F <;> rfl
  rw [hO2] at hO
  rw [hst2, hre, hmi]
  clear hst2 hre hmi
  simp [rcells, hS']
  have hB4 : BndH (H.length + 4) (H ++ [rcells 0 [] 0, [.int .i64 0, .int .i64 0], rcellsV st re .nil [] mi .nil 0 0 false, [.int .i64 0, .int .i64 0]]) := bndH_app2 (bndH_up hB (by omega)) (by simp [rcells, rcellsV])
  refine VL_go (hbInv s st mi re F H) (fun fr _ => s.length - (ai (aget fr 6)).toNat) ⟨.nil, a0, s.length + 1, [], ha, by omega, hF, by simp [fsz], by simp, fun j hj => by rw [List.getElem?_append_left (by omega)], by simp [rcells], by simp, by simp [rcellsV], .nil, by simpa [rcells, rcellsV] using hB4, fr_intro (by simp)⟩ ?_
  rintro fr K ⟨v, a, m, fs, ha, hn, hF, hfz, hlen, hkeep, k0, k1, k2, hv, hK, x, rfl⟩
  obtain ⟨m, rfl⟩ : ∃ m', m = m' + 1 := ⟨m - 1, by omega⟩
  rw [fieldsR_next] at hF
  simp
  refine line_pc E' _ _ s a ha (by omega) (fun i hai hi2 hL => ?_) (fun i hL => ?_) (fun hL => ?_)
  rotate_left
  · have hx : nextR s (decide (mi = 0)) a fs = .inl (.bad i 122) := by unfold nextR; rw [hL]
    rw [hx] at hF
    simp only at hF
    subst hF
    simp [hdO] at hO
  · have hx : nextR s (decide (mi = 0)) a fs = .inl .part := by unfold nextR; rw [hL]
    rw [hx] at hF
    simp only at hF
    subst hF
    simp [hdO] at hO
  obtain ⟨l, hl⟩ : ∃ l, (s.drop a).take (i - a) = l := ⟨_, rfl⟩
  have hll : l.length = i - a := by rw [← hl, List.length_take, List.length_drop]; omega
  rw [hl]
  have hi2' : (s.drop a).take (i + 2 - 2 - a) = l := by rw [show i + 2 - 2 - a = i - a by omega]; exact hl
  have hsz : fsz fs + fs.length ≤ 4194304 := by omega
  have hc0 := at_lt k0
  have hc1 := at_lt k1
  have hc2 := at_lt k2
  have e0 := k0
  have e2 := k2
  simp only [rcells, rcellsV] at e0 e2
  obtain ⟨hvf, hvo, hvd, hvb⟩ := hv.free
  have hvl : ∀ t, (tsl Tryz.prog t).isSome = true → alen Tryz.prog t v = some (.int .i64 fs.length) := fun t ht => hv.alen ht
  by_cases hle : l = []
  · have hx : nextR s (decide (mi = 0)) a fs = .inl (if (framingA fs (decide (mi = 0))).2.2 ≠ 0 then .bad a (framingA fs (decide (mi = 0))).2.2 else .ok fs (i + 2)) := by
      unfold nextR
      rw [hL]
      simp only
      rw [hi2', if_pos hle]
    rw [hx] at hF
    simp only at hF
    subst hF
    have hmb : (mi == 0) = decide (mi = 0) := rfl
    by_cases he : (framingA fs (decide (mi = 0))).2.2 = 0
    · rw [if_neg (by simpa using he)] at hO
      simp [hdO] at hO
      obtain ⟨rfl, hn2⟩ := hO
      simp [hle, hs0 hc2, e2, hvd, hvf, hvo]
      refine framingV_pc E' _ _ hE' v _ fs (decide (mi = 0)) (hv.app _) hsz ?_
      simp [he, hS', hs0 hc2, hs3 hc2, e2, hvd, hvf, hvo]
      refine persistV_pc E' _ _ hE' v _ fs (decide (mi = 0)) (hv.app _) hsz ?_
      simp [setL hc0, setL hc1, setL hc2, getL hc0, getL hc1, getL hc2, getS hc0, getS hc1, getS hc2, getN, e0, k1, e2, hvd, hvf, hvo, hS']
      obtain ⟨K', hK'⟩ : ∃ K', ((K.set (H.length + 2) (rcellsV st re v [] mi .nil (framingA fs (decide (mi = 0))).1 (framingA fs (decide (mi = 0))).2.1 (persistA fs (decide (mi = 0))))).set H.length (rcellsV st re v [] mi .nil (framingA fs (decide (mi = 0))).1 (framingA fs (decide (mi = 0))).2.1 (persistA fs (decide (mi = 0))))).set (H.length + 1) [.int .i64 0, .int .i64 0] = K' := ⟨_, rfl⟩
      have hl' : K'.length = K.length := by rw [← hK']; simp
      have hg : ∀ j, j ≠ H.length → j ≠ H.length + 1 → j ≠ H.length + 2 → K'[j]? = K[j]? := fun j h1 h2 h3 => by
        rw [← hK', getN (Ne.symm h2), getN (Ne.symm h1), getN (Ne.symm h3)]
      have hv' : FB K' (H.length + 4) v fs := hv.of_eq (fun j _ _ _ _ e => by have := (hv.lt _ _ _ _ _ e).1; exact hg j (by omega) (by omega) (by omega)) (fun j _ _ _ _ e => (hv.lt _ _ _ _ _ e).1)
      have hb' : BndH K.length K' := by
        have hr : ∀ x ∈ rcellsV st re v [] mi .nil (framingA fs (decide (mi = 0))).1 (framingA fs (decide (mi = 0))).2.1 (persistA fs (decide (mi = 0))), Bnd K.length x := by simp [rcellsV, hvb]
        rw [← hK']
        exact bndH_put (bndH_put (bndH_put hK _ hr) _ hr) _ (by simp)
      simp only [rcellsV] at hK'
      rw [hK']
      have hq := hQ v (K' ++ [[AV.int .i64 0, AV.int .i64 0], [AV.int .i64 (framingA fs (decide (mi = 0))).1, AV.int .i64 (framingA fs (decide (mi = 0))).2.1]]) (by simp; omega) (fun j hj => by rw [List.getElem?_append_left (by omega), hg j (by omega) (by omega) (by omega)]; exact hkeep j hj) (hv'.app _)
      have g0 : K'[H.length]? = some (rcellsV st re v [] mi .nil (framingA fs (decide (mi = 0))).1 (framingA fs (decide (mi = 0))).2.1 (persistA fs (decide (mi = 0)))) := by rw [← hK', getN (by omega), getS hc0 _ _ (by simp)]; rfl
      have g1 : K'[H.length + 1]? = some [.int .i64 0, .int .i64 0] := by rw [← hK', getS hc1 _ _ (by simp)]
      simp only [rcellsV] at g0
      refine aPost_up (v := .tup [.agg (rcellsV st re v [] mi .nil (framingA fs (decide (mi = 0))).1 (framingA fs (decide (mi = 0))).2.1 (persistA fs (decide (mi = 0)))), .int .i64 n, .agg [.int .i64 0, .int .i64 0]]) (by simp [getL hc0, getL hc1, hl', g0, g1, rcellsV, hvd, hvf, hvo, hn2]) (by simp; omega) (bndH_app2 (bndH_up hb' (by simp; omega)) (by simp)) ?_ hq
      simp [rcellsV]
      exact hvb.mono (by omega)
    · rw [if_pos he] at hO
      simp [hdO] at hO
      exact absurd hO.2.2 he
  · have hle2 : (l == []) = false := by simpa using hle
    rcases hv with ⟨rfl, rfl⟩ | ⟨i', c, A, hi1, rfl, hA0, hA1, hA2, hA3, hA4, hA5⟩
    · have h100 : ¬ 100 ≤ ([] : List Fld).length := by simp
      simp [hle2, hs0 hc2, e2]
      refine parseLineX_pc' E' _ _ hE' l (by simp only [cap]; omega) ?_
      by_cases he : (lineX l).2.2 = 0
      · have hx : nextR s (decide (mi = 0)) a [] = .inr (i + 2, [] ++ [(lineX l).1]) := by
          unfold nextR
          rw [hL]
          simp only
          rw [hi2', if_neg hle, if_neg h100, if_neg (by simpa using he)]
        rw [hx] at hF
        simp only at hF
        have hls := lineX_sz he
        have hsn := fsz_snoc [] (lineX l).1
        have m1 : 1 ≤ maxLen := by unfold maxLen; omega
        simp [he, setL hc2, getL hc2, getS hc2, e2, m1]
        refine VGrow_intro fun c' hc1 hc2' => ?_
        simp [setL hc2, getL hc2, getS hc2, e2]
        have hE1 := FB.grown (l := []) (A := []) (c := 0) rfl (by simp) rfl (lineX l).1 (by simp) (by simpa using hc1)
        simp only [List.length_nil, Nat.zero_mul, List.take_nil, List.nil_append, Nat.zero_add] at hE1
        obtain ⟨q1, q2, q3⟩ := hE1
        have hbk := hbK hlen hkeep k0 k1 rfl (fun _ _ => rfl) (rcellsV st re (.bx (K.length + 2) 0 1 c' 2) [] mi .nil 0 0 false) [[AV.int .i64 0, AV.int .i64 0], [AV.str (lineX l).1.name, AV.str (lineX l).1.value], AV.str (lineX l).1.name :: AV.str (lineX l).1.value :: (List.replicate (c' - 1) [AV.str [], AV.str []]).flatten]
        obtain ⟨b1, b2, b3, b4, b5⟩ := hbk
        refine Kloop_normal ⟨_, i + 2, m, _, by omega, by omega, hF, by rw [hsn]; simp; omega, b1, b2, b3, b4, b5, ?_, ?_, fr_intro (by simp)⟩ (by simp; omega)
        · exact .inr ⟨K.length + 2, c', _, by omega, rfl, by rw [List.getElem?_append_right (by simp)]; simp, q1, by simpa using hc1, hc2', q3, q2⟩
        · refine bndH_app2 (bndH_put (bndH_up hK (by simp)) _ (by simp [rcellsV])) ?_
          simp only [List.mem_cons, List.not_mem_nil, or_false]
          rintro _ (rfl | rfl | rfl)
          · simp
          · simp
          · exact strs_bnd q2 _
      · have hx : nextR s (decide (mi = 0)) a [] = .inl (.bad (a + (lineX l).2.1) (lineX l).2.2) := by
          unfold nextR
          rw [hL]
          simp only
          rw [hi2', if_neg hle, if_neg h100, if_pos he]
        rw [hx] at hF
        simp only at hF
        subst hF
        simp [hdO] at hO
        exact absurd hO.2.2 he
    · by_cases h100 : 100 ≤ fs.length
      · have hx : nextR s (decide (mi = 0)) a fs = .inl (.bad a 65) := by
          unfold nextR
          rw [hL]
          simp only
          rw [hi2', if_neg hle, if_pos h100]
        rw [hx] at hF
        simp only at hF
        subst hF
        simp [hdO] at hO
      have h100' : ¬ (100 : Int) ≤ fs.length := by omega
      simp [hle2, h100', hs0 hc2, e2]
      refine parseLineX_pc' E' _ _ hE' l (by simp only [cap]; omega) ?_
      by_cases he : (lineX l).2.2 = 0
      · have hx : nextR s (decide (mi = 0)) a fs = .inr (i + 2, fs ++ [(lineX l).1]) := by
          unfold nextR
          rw [hL]
          simp only
          rw [hi2', if_neg hle, if_neg h100, if_neg (by simpa using he)]
        rw [hx] at hF
        simp only at hF
        have hls := lineX_sz he
        have hsn := fsz_snoc fs (lineX l).1
        have m1 : fs.length + 1 ≤ maxLen := by unfold maxLen; omega
        have m2 : (fs.length + 1) * 32 ≤ 140737488355328 := by omega
        have hi3 := at_lt hA0
        have ne2 : i' ≠ H.length + 2 := by omega
        have ne3 : H.length + 2 ≠ i' := by omega
        have hfree : (∀ y ∈ A.take (fs.length * 2), y.free = true) = True := eq_true fun y hy => by obtain ⟨s, rfl⟩ := hA5 y (List.mem_of_mem_take hy); rfl
        have hle1 : fs.length * 2 ≤ A.length := by omega
        by_cases hroom : fs.length + 1 ≤ c
        · have hle3 : (fs.length + 1) * 2 ≤ A.length := by omega
          simp [he, setL hc2, getL hc2, getS hc2, e2, setL hi3, getL hi3, hA0, getN, ne2, ne3, hfree, hroom, hle1, hle3]
          obtain ⟨q1, q2, q3⟩ := FB.room hA1 hA5 hA4 (lineX l).1 hroom
          have hbk := hbK (L := K.set i' (List.take (fs.length * 2) A ++ AV.str (lineX l).1.name :: AV.str (lineX l).1.value :: List.drop (fs.length * 2 + 2) A)) hlen hkeep k0 k1 (by simp) (fun j hj => getN (by omega) _) (rcellsV st re (.bx i' 0 (fs.length + 1) c 2) [] mi .nil 0 0 false) [[AV.int .i64 0, AV.int .i64 0], [AV.str (lineX l).1.name, AV.str (lineX l).1.value]]
          obtain ⟨b1, b2, b3, b4, b5⟩ := hbk
          refine Kloop_normal ⟨_, i + 2, m, _, by omega, by omega, hF, by rw [hsn]; simp; omega, b1, b2, b3, b4, b5, ?_, ?_, fr_intro (by simp)⟩ (by simp; omega)
          · exact .inr ⟨i', c, _, hi1, by simp, by rw [List.getElem?_append_left (by simp; omega), getN ne3, List.getElem?_set_self hi3], q1, by simp; omega, hA3, q3, q2⟩
          · refine bndH_app2 (bndH_put (bndH_put (bndH_up hK (by simp)) _ (strs_bnd q2 _)) _ ?_) (by simp)
            simp [rcellsV]; omega
        · simp [he, setL hc2, getL hc2, getS hc2, e2, setL hi3, getL hi3, hA0, getN, ne2, ne3, hfree, hroom, hle1, m1, m2]
          refine VGrow_intro fun c' hc1 hc2' => ?_
          simp [setL hc2, getL hc2, getS hc2, e2]
          obtain ⟨q1, q2, q3⟩ := FB.grown hA1 hA5 hA4 (lineX l).1 hA2 hc1
          have hbk := hbK hlen hkeep k0 k1 rfl (fun _ _ => rfl) (rcellsV st re (.bx (K.length + 2) 0 (fs.length + 1) c' 2) [] mi .nil 0 0 false) [[AV.int .i64 0, AV.int .i64 0], [AV.str (lineX l).1.name, AV.str (lineX l).1.value], List.take (fs.length * 2) A ++ AV.str (lineX l).1.name :: AV.str (lineX l).1.value :: (List.replicate (c' - (fs.length + 1)) [AV.str [], AV.str []]).flatten]
          obtain ⟨b1, b2, b3, b4, b5⟩ := hbk
          refine Kloop_normal ⟨_, i + 2, m, _, by omega, by omega, hF, by rw [hsn]; simp; omega, b1, b2, b3, b4, b5, ?_, ?_, fr_intro (by simp)⟩ (by simp; omega)
          · exact .inr ⟨K.length + 2, c', _, by omega, by simp, by rw [List.getElem?_append_right (by simp)]; simp, q1, by simp; omega, hc2', q3, q2⟩
          · refine bndH_app2 (bndH_put (bndH_up hK (by simp)) _ (by simp [rcellsV])) ?_
            simp only [List.mem_cons, List.not_mem_nil, or_false]
            rintro _ (rfl | rfl | rfl)
            · simp
            · simp
            · exact strs_bnd q2 _
      · have hx : nextR s (decide (mi = 0)) a fs = .inl (.bad (a + (lineX l).2.1) (lineX l).2.2) := by
          unfold nextR
          rw [hL]
          simp only
          rw [hi2', if_neg hle, if_neg h100, if_pos he]
        rw [hx] at hF
        simp only at hF
        subst hF
        simp [hdO] at hO
        exact absurd hO.2.2 he
end
end Go.Proofs.YtcdkcaocfioigaaGreatDoor

set_option linter.unusedVariables false
set_option linter.unnecessarySimpa false
set_option linter.unusedSimpArgs false
set_option linter.unusedSectionVars false
set_option maxRecDepth 100000
namespace Go.Proofs.YtcdkcaocfioigaaGreatDoor
open Go Go.RowKit Go.Proofs

theorem wpList_append_none {ops : Array Oper} {rest : List Oper} {o : Oper} {a : Act} {Q : Exit → Act → World → Prop} (w : World) (hgd : o.guard = none) (s x : Operand) (t tx : TypeId)
    (ho : o.op = .call { callee := .builtin .append, args := #[s, x], argTypes := #[t, tx] })
    (e : TypeId) (i : TypeInfo) (ht : Tryz.prog.underlying t = some (.slice e)) (hi : Tryz.prog.info? e = some i)
    (base : Option Addr) (n c : Nat) (hv : a.eval s = .slice base n c) (hc : n ≤ c) (xv : Value) (hx : a.eval x = xv) (hs : Src Tryz.prog i.size tx xv 0 [] w)
    (hK : wpList Tryz.prog ops Q rest (a.put o.dst (.slice base n c)) w) : wpList Tryz.prog ops Q (o :: rest) a w := by
  refine wpList_plain hgd fun K hK' => ?_
  have hrun := Go.run_append_nothing (P := Tryz.prog) w t tx o.type e i ht hi base n c hc xv hs
  unfold Oper.wp
  simp [execOp, ho, resolve, invoke, builtin, hv, hx, hrun, Result.andThen]
  exact hK' _ _ hK
set_option maxHeartbeats 1000000 in
theorem clone0_ok {w : World} {ao : Option Addr} {c : Nat} (h : RSl w 2 (.slice ao 0 c) 0 []) :
    Calls Tryz.prog 45 #[.slice ao 0 c] w fun e w' => (e = .returned (.slice none 0 0) ∧ w' = w) ∨ (e = .returned (.slice (some ⟨w.heap.size, 0, none⟩) 0 0) ∧ w' = w.alloc (.cells #[] 47)) := by
  obtain ⟨i0, hi, hz0, hz1, hz2⟩ := info_parts Tryz.info47
  have q22 : ∀ (w : World) (a : Option Addr) (n c n' c' : Nat), (binOp .eql 22 (.slice a n c) (.slice none n' c')).run Tryz.prog w = .ok (.bool a.isNone) w := fun w a n c n' c' => Lib.run_eql_slice_nil w _ _ a n c n' c' Tryz.underlying22
  have HR := Lib.hid h
  clear h
  go_enter Tryz.func45, Tryz.ntmps45
  cases ao with
  | none =>
    go_wp2
    go_ret
    exact .inl ⟨rfl, rfl⟩
  | some a =>
    go_wp2_with (at_builtin; refine wpList_append_none _ rfl (.tmp 5) (.tmp 6) 22 22 rfl 47 i0 Tryz.underlying22 hi _ 0 0 rfl (Nat.le_refl _) (.slice (some a) 0 c) rfl (hz1 ▸ src_rsl (P := Tryz.prog) (rsl_alloc HR.out _) (fun u hu => by cases hu) Tryz.underlying22) ?_)
    go_wp2
    go_ret
    exact .inr ⟨rfl, rfl⟩
theorem clone0x_pc (E : Env) (H : Hp) (Q : AV → Hp → Prop) (hQ1 : Q .nil H) (hQ2 : Q (.bx H.length 0 0 0 2) (H ++ [[]])) : PC Tryz.prog E 45 [.sl false 2 (flds [])] H Q := by
  refine ⟨by kernel_rfl, fun w β Rd Ow cargs hHR hOw hsz hargs => ?_⟩
  obtain ⟨u, rfl, hu⟩ := args1 hsz (fun t x u hx hu => (hargs t x u hx hu).1)
  obtain ⟨xs, hk, hx, hd, hfr, hr⟩ := rel_sl hu
  obtain ⟨hxl, ao, c, rfl, h2, h3, h4⟩ := id hx
  rw [flds_length] at hx hxl h2 h4
  have hx0 : xs = [] := List.eq_nil_of_length_eq_zero (by simpa using hxl)
  subst hx0
  rw [flds_length]
  refine (clone0_ok (ao := ao) (c := c) hx).mono ?_
  rintro e w' (⟨rfl, rfl⟩ | ⟨rfl, rfl⟩)
  · exact ⟨_, .nil, H, β, _, _, rfl, hQ1, post_freshP hHR (Frm.refl _ _) (fun _ _ => False) (fun _ _ h => h.elim) .nil .nil rfl⟩
  · have h3 : S3 E w (fun _ => False) Rd w β Rd Ow [] H #[] := ⟨hHR, ⟨rfl, fun t x u hx => by simp at hx⟩, ⟨fun _ h => h.elim, fun _ h => h.elim, fun _ h => h.elim, fun _ _ h => h.elim, fun _ _ h => h.elim, rfl, rfl, rfl, Nat.le_refl _, fun g o h => ⟨h, rfl⟩⟩, fun x hx => by cases hx⟩
    have h5 := h3.newBox [] #[] 47 rfl (fun j x u hx => by simp at hx) (fun k hk => absurd (hHR.ows _ _ hk) (by omega)) (fun t ht => by simp at ht)
    have hβ : ∀ i, i < H.length → bup β H.length w.heap.size i = β i := fun i hi => bup_old hi
    refine ⟨_, .bx H.length 0 0 0 2, H ++ [[]], bup β H.length w.heap.size, Rd, Ow, rfl, hQ2, ?_, .bx _ _ _ _ _ (by simp), fun g hg => (by cases hg), rfl, h5.hr, hβ, by simp, fun g o hg => ⟨hg, World.cell?_of_block (a := ⟨g, o, none⟩) (heap_alloc_old w _ (hHR.rds g o hg))⟩, fun b hb hbox how => ⟨heap_alloc_old w _ hb, how, fun i hi => ?_, fun o ho => ho⟩, rfl, rfl, rfl, by simp⟩
    · have e : bup β H.length w.heap.size H.length = w.heap.size := bup_new ..
      have := Rel.bx (w := w.alloc (.cells #[] 47)) (β := bup β H.length w.heap.size) (Rd := Rd) H.length 0 0 0 2 (Nat.le_refl _) (Nat.zero_le _)
      rwa [e] at this
    · by_cases hi2 : i < H.length
      · rw [hβ i hi2]; exact hbox i hi2
      · have : i = H.length := by simp at hi; omega
        rw [this, bup_new]; omega
end Go.Proofs.YtcdkcaocfioigaaGreatDoor

