/- The octet layer in the abstract machine: blanks, lists. The octet layer in the abstract machine: List and Tokens, and what the laws compare by. The octet layer in the abstract machine: tokens; the document's List, Tokens, Join. -/
import Derived.Test.YtjphdipbajfojaaDoorOctD
set_option linter.unusedVariables false
set_option linter.unusedSimpArgs false
set_option linter.unusedSectionVars false
set_option maxRecDepth 100000
namespace Go.Proofs.YtjphdipbajfojaaDoor
open Go Go.RowKit

/-! ### Plain -/
theorem sp_blank : (fun b : UInt8 => [32, 9].contains b) = blankB := by
  funext b
  rw [Bool.eq_iff_iff]
  simp [blankB]
theorem dw_snoc (p : UInt8 → Bool) (c : UInt8) (hc : p c = false) : ∀ r : List UInt8, (r ++ [c]).dropWhile p = r.dropWhile p ++ [c]
  | [] => by simp [List.dropWhile, hc]
  | d :: r => by
    rw [List.cons_append]
    cases hd : p d
    · rw [List.dropWhile_cons_of_neg (by rw [hd]; simp), List.dropWhile_cons_of_neg (by rw [hd]; simp)]; rfl
    · rw [List.dropWhile_cons_of_pos hd, List.dropWhile_cons_of_pos hd]; exact dw_snoc p c hc r
def lt (l : List UInt8) : List UInt8 := l.dropWhile blankB
def rt (l : List UInt8) : List UInt8 := (l.reverse.dropWhile blankB).reverse
theorem trim_eq (l : List UInt8) : trimB l = lt (rt l) := by
  unfold trimB Go.Lib.trimS Go.Lib.trimLeftS Go.Lib.trimRightS lt rt
  rw [← sp_blank]
theorem trim_comm : ∀ l : List UInt8, trimB l = rt (lt l)
  | [] => rfl
  | c :: r => by
    cases hc : blankB c
    · have h1 : lt (c :: r) = c :: r := by unfold lt; rw [List.dropWhile_cons_of_neg (by rw [hc]; simp)]
      rw [h1, trim_eq]
      unfold rt
      rw [List.reverse_cons, dw_snoc blankB c hc, List.reverse_append, List.reverse_singleton, List.singleton_append]
      unfold lt
      rw [List.dropWhile_cons_of_neg (by rw [hc]; simp)]
    · rw [trimB_blank c hc, trim_comm r]
      have : lt (c :: r) = lt r := by unfold lt; rw [List.dropWhile_cons_of_pos hc]
      rw [this]
theorem seg_app (l : List UInt8) (f i k : Nat) (h : f ≤ i) : (l.drop f).take (i - f) ++ (l.drop i).take k = (l.drop f).take (i + k - f) := by
  rw [show i + k - f = (i - f) + k by omega, List.take_add, List.drop_drop, show f + (i - f) = i by omega]
theorem seg_one (l : List UInt8) (f i : Nat) (c : UInt8) (h : f ≤ i) (hc : l[i]? = some c) : (l.drop f).take (i - f) ++ [c] = (l.drop f).take (i + 1 - f) := by
  rw [← seg_app l f i 1 h, drop_at l i c hc]; rfl
theorem seg_nil (l : List UInt8) (i : Nat) : (l.drop i).take (i - i) = [] := by simp
theorem seg_all (l : List UInt8) (f i : Nat) (h : l.length ≤ i) : (l.drop f).take (i - f) = l.drop f := List.take_of_length_le (by rw [List.length_drop]; omega)
theorem strs_snoc (l : List (List UInt8)) (x : List UInt8) : strs l ++ [[AV.str x]] = strs (l ++ [x]) := by simp [strs]
theorem strs_at {l : List (List UInt8)} {i : Nat} {x : List UInt8} (h : l[i]? = some x) : lat (strs l) i = some [AV.str x] := by simp [lat, strs, h]
theorem keepB_take (l : List (List UInt8)) (i : Nat) (x : List UInt8) (h : l[i]? = some x) : keepB (l.take (i + 1)) = keepB (l.take i) ++ (if (trimB x).isEmpty then [] else [trimB x]) := by
  rw [List.take_add_one, h, keepB_app]
  congr 1
  simp [keepB]
  cases (trimB x) <;> simp
theorem keepB_le (l : List (List UInt8)) : (keepB l).length ≤ l.length := by
  unfold keepB
  refine Nat.le_trans (List.length_filter_le _ _) ?_
  rw [List.length_map]; exact Nat.le_refl _
theorem cut_len : ∀ (n : Nat) (acc s : List UInt8) (x : List (List UInt8)), s.length ≤ n → cut acc s = some x → x.length ≤ s.length + 1
  | n, acc, [], x, _, h => by rw [cut_nil] at h; cases h; simp
  | 0, acc, c :: r, x, hn, h => by simp at hn
  | n + 1, acc, c :: r, x, hn, h => by
    simp only [List.length_cons] at hn ⊢
    by_cases h1 : c = 44
    · subst h1
      rw [cut_comma] at h
      cases hc : cut [] r with
      | none => simp [hc] at h
      | some y =>
        simp [hc] at h; subst h
        have := cut_len n [] r y (by omega) hc
        simp only [List.length_cons]; omega
    · by_cases h2 : c = 34
      · subst h2
        cases hu : unquote (34 :: r) with
        | none => rw [cut_bad _ _ hu] at h; cases h
        | some p =>
          have hl := unquote_le (l := p.1) (k := p.2) hu
          simp only [List.length_cons] at hl
          rw [cut_quote acc r p.1 p.2 hu] at h
          have := cut_len n _ _ x (by simp; omega) h
          simp at this; omega
      · rw [cut_plain _ _ _ h1 h2] at h
        have := cut_len n _ _ x (by omega) h
        omega
theorem cut_mem : ∀ (n : Nat) (acc s : List UInt8) (x : List (List UInt8)), s.length ≤ n → cut acc s = some x → ∀ p ∈ x, p.length ≤ acc.length + s.length
  | n, acc, [], x, _, h, p, hp => by rw [cut_nil] at h; cases h; simp at hp; subst hp; simp
  | 0, acc, c :: r, x, hn, h, p, hp => by simp at hn
  | n + 1, acc, c :: r, x, hn, h, p, hp => by
    simp only [List.length_cons] at hn ⊢
    by_cases h1 : c = 44
    · subst h1
      rw [cut_comma] at h
      cases hc : cut [] r with
      | none => simp [hc] at h
      | some y =>
        simp [hc] at h; subst h
        rcases List.mem_cons.1 hp with rfl | hp
        · omega
        · have := cut_mem n [] r y (by omega) hc p hp
          simp at this; omega
    · by_cases h2 : c = 34
      · subst h2
        cases hu : unquote (34 :: r) with
        | none => rw [cut_bad _ _ hu] at h; cases h
        | some q =>
          have hl := unquote_le (l := q.1) (k := q.2) hu
          simp only [List.length_cons] at hl
          rw [cut_quote acc r q.1 q.2 hu] at h
          have := cut_mem n _ _ x (by simp; omega) h p hp
          simp at this; omega
      · rw [cut_plain _ _ _ h1 h2] at h
        have := cut_mem n _ _ x (by omega) h p hp
        simp at this; omega
theorem listB_len {s : List UInt8} {x : List (List UInt8)} (h : listB s = some x) : x.length ≤ s.length + 1 := by
  unfold listB at h
  cases hc : cut [] s with
  | none => simp [hc] at h
  | some y =>
    simp [hc] at h; subst h
    exact Nat.le_trans (keepB_le y) (cut_len _ [] s y (Nat.le_refl _) hc)

/-- Where a loop over the text stands. -/
def cutIs (s : List UInt8) (out : List (List UInt8)) (f i : Nat) : Prop := cut [] s = (cut ((s.drop f).take (i - f)) (s.drop i)).map (out ++ ·)
theorem cutIs_start (s : List UInt8) : cutIs s [] 0 0 := by unfold cutIs; simp
section
variable {s : List UInt8} {out : List (List UInt8)} {f i : Nat} (h : cutIs s out f i) (hf : f ≤ i)
include h hf
theorem cutIs_comma (hc : s[i]? = some 44) : cutIs s (out ++ [(s.drop f).take (i - f)]) (i + 1) (i + 1) := by
  unfold cutIs at h ⊢
  rw [h, drop_at s i 44 hc, cut_comma, seg_nil]
  cases cut [] (s.drop (i + 1)) <;> simp
theorem cutIs_plain {c : UInt8} (hc : s[i]? = some c) (h1 : c ≠ 44) (h2 : c ≠ 34) : cutIs s out f (i + 1) := by
  unfold cutIs at h ⊢
  rw [h, drop_at s i c hc, cut_plain _ _ _ h1 h2, seg_one s f i c hf hc]
theorem cutIs_bad (hc : s[i]? = some 34) (hu : unquote (s.drop i) = none) : cut [] s = none := by
  unfold cutIs at h
  rw [drop_at s i 34 hc] at hu h
  rw [h, cut_bad _ _ hu]; rfl
theorem cutIs_quote (hc : s[i]? = some 34) {x : List UInt8} {k : Nat} (hu : unquote (s.drop i) = some (x, k)) : cutIs s out f (i + k) := by
  unfold cutIs at h ⊢
  have e := drop_at s i 34 hc
  rw [e] at hu
  rw [h, e, cut_quote _ _ x k hu, ← e, seg_app s f i k hf, List.drop_drop]
theorem cutIs_end (hi : s.length ≤ i) : cut [] s = some (out ++ [(s.drop f).take (i - f)]) := by
  unfold cutIs at h
  rw [h, List.drop_of_length_le hi, cut_nil]; rfl
end

section
variable (E : Env) (H : Hp) (Q : AV → Hp → Prop)
theorem ref_blank_pc (b : UInt8) (hQ : Q (.bool (blankB b)) H) : PC Tryd.prog E 64 [.int .u8 (b.toNat : Int)] H Q := by
  refine pc_enter Tryd.func64 rfl [] [] (by kernel_rfl) (fun hB => ?_)
  have fin : ∀ c : Bool, blankB b = c → Q (.bool c) H := fun c hc => hc ▸ hQ
  by_cases h1 : b.toNat = 32
  · have t1 : ((b.toNat : Int) == 32) = true := by simp; omega
    simp [Tryd.ntmps64, Tryd.results64, List.replicate_succ, t1]
    exact aPost_same0 hB rfl (nilV_refl _) (by simp) (fin _ (by rw [blank_iff]; simp [h1]))
  · have t1 : ((b.toNat : Int) == 32) = false := by simp; omega
    by_cases h2 : b.toNat = 9
    · have t2 : ((b.toNat : Int) == 9) = true := by simp; omega
      simp [Tryd.ntmps64, Tryd.results64, List.replicate_succ, t1, t2]
      exact aPost_same0 hB rfl (nilV_refl _) (by simp) (fin _ (by rw [blank_iff]; simp [h2]))
    · have t2 : ((b.toNat : Int) == 9) = false := by simp; omega
      simp [Tryd.ntmps64, Tryd.results64, List.replicate_succ, t1, t2]
      exact aPost_same0 hB rfl (nilV_refl _) (by simp) (fin _ (by rw [blank_iff]; simp [h1, h2]))

def refTrimInv1 (l : List UInt8) (H : Hp) (fr : List AV) (H' : Hp) : Prop := H' = H ∧ ∃ c : List UInt8, c.length ≤ l.length ∧ lt c = lt l ∧ ∃ x : Nat → AV, fr = [.str c, x 1, x 2, x 3, x 4, x 5, x 6, x 7, x 8, x 9, x 10, x 11, x 12, x 13, x 14, x 15, x 16, x 17, x 18, x 19, x 20, x 21, x 22, x 23, x 24, x 25, x 26, x 27]
def refTrimInv2 (l : List UInt8) (H : Hp) (fr : List AV) (H' : Hp) : Prop := H' = H ∧ ∃ c : List UInt8, c.length ≤ l.length ∧ rt c = rt (lt l) ∧ ∃ x : Nat → AV, fr = [.str c, x 1, x 2, x 3, x 4, x 5, x 6, x 7, x 8, x 9, x 10, x 11, x 12, x 13, x 14, x 15, x 16, x 17, x 18, x 19, x 20, x 21, x 22, x 23, x 24, x 25, x 26, x 27]
def asz : AV → Nat
  | .str l => l.length
  | _ => 0
@[simp] theorem asz_str (l) : asz (.str l) = l.length := rfl
theorem ref_trim_pc (l : List UInt8) (hl : l.length ≤ cap) (hQ : Q (.str (trimB l)) H) : PC Tryd.prog E 41 [.str l] H Q := by
  simp only [cap] at hl
  refine pc_enter Tryd.func41 rfl [] [] (by kernel_rfl) (fun hB => ?_)
  simp [Tryd.ntmps41, Tryd.results41, List.replicate_succ]
  refine VL_go (refTrimInv1 l H) (fun fr _ => asz (aget fr 0)) ⟨rfl, l, Nat.le_refl _, rfl, fr_intro (by simp)⟩ ?_
  rintro fr H' ⟨rfl, c, hcl, hc, x, rfl⟩
  have hcase : c = [] ∨ (∃ a r, c = a :: r ∧ blankB a = false) ∨ (∃ a r, c = a :: r ∧ blankB a = true) := by
    cases c with
    | nil => exact .inl rfl
    | cons a r =>
      cases hb : blankB a
      · exact .inr (.inl ⟨a, r, rfl, hb⟩)
      · exact .inr (.inr ⟨a, r, rfl, hb⟩)
  rcases hcase with rfl | ⟨a, r, rfl, hb⟩ | ⟨a, r, rfl, hb⟩
  rotate_left 2
  · have hne : (a :: r != []) = true := rfl
    simp [hne]
    refine ref_blank_pc E _ _ a ?_
    simp [hb]
    refine Kloop_normal ⟨rfl, r, by simp at hcl; omega, ?_, fr_intro (by simp)⟩ (by simp)
    rw [← hc]; unfold lt; rw [List.dropWhile_cons_of_pos hb]
  case' inl =>
    have e : ([] : List UInt8) = lt l := by rw [← hc]; rfl
    simp
  case' inr.inl =>
    have e : a :: r = lt l := by rw [← hc]; unfold lt; rw [List.dropWhile_cons_of_neg (by rw [hb]; simp)]
    have hne : (a :: r != []) = true := rfl
    simp [hne]
    refine ref_blank_pc E _ _ a ?_
    simp [hb]
  all_goals
    refine VL_go (refTrimInv2 l H') (fun fr _ => asz (aget fr 0)) ⟨rfl, _, hcl, by rw [e], fr_intro (by simp)⟩ ?_
    rintro fr H'' ⟨rfl, d, hdl, hd, z, rfl⟩
    rcases d.eq_nil_or_concat with rfl | ⟨y, b, rfl⟩
    · have ed : ([] : List UInt8) = trimB l := by rw [trim_comm, ← hd]; rfl
      simp
      refine aPost_same0 hB rfl (nilV_refl _) (by simp) ?_
      show Q (.str []) _
      rw [ed]; exact hQ
    · rw [List.concat_eq_append] at hd
      simp at hdl
      have hat : lat (y ++ [b]) y.length = some b := lat_eq (by simp)
      have hw : IntKind.i64.wrap (y.length : Int) = y.length := wrap_in (by omega) (by omega)
      have hne : ((y ++ [b]) != []) = true := by simp
      simp [hne, hw, hat]
      refine ref_blank_pc E _ _ b ?_
      cases hb2 : blankB b
      · have ed : y ++ [b] = trimB l := by
          rw [trim_comm, ← hd]
          unfold rt
          rw [List.reverse_append, List.reverse_singleton, List.singleton_append, List.dropWhile_cons_of_neg (by rw [hb2]; simp)]
          simp
        simp
        refine aPost_same0 hB rfl (nilV_refl _) (by simp) ?_
        show Q (.str (y ++ [b])) _
        rw [ed]; exact hQ
      · simp [hw]
        refine Kloop_normal ⟨rfl, y, by omega, ?_, fr_intro (by simp)⟩ (by simp)
        rw [← hd]
        unfold rt
        rw [List.reverse_append, List.reverse_singleton, List.singleton_append, List.dropWhile_cons_of_pos hb2]
end
end Go.Proofs.YtjphdipbajfojaaDoor
set_option linter.unusedVariables false
set_option linter.unusedSimpArgs false
set_option maxRecDepth 100000
namespace Go.Proofs.YtjphdipbajfojaaDoor
open Go Go.RowKit

theorem bnd_strs {N : Nat} (o k) (l : List (List UInt8)) : Bnd N (.sl o k (strs l)) := .sl _ _ _ fun r hr x hx => by
  obtain ⟨c, _, rfl⟩ := List.mem_map.1 hr
  simp at hx; subst hx; exact .str _
@[simp high] theorem bnd_strs' {N : Nat} (o k) (l : List (List UInt8)) : Bnd N (.sl o k (strs l)) := bnd_strs o k l
@[simp] theorem strs_length (l : List (List UInt8)) : (strs l).length = l.length := strs_len l

theorem nilV_tup2 (k : Nat) (y : AV) (h : y.free = true) : nilV (.tup [.nil, y]) (.tup [.sl false k [], y]) :=
  .inr ⟨_, _, rfl, rfl, ⟨.inr ⟨rfl, false, k, rfl⟩, .inl rfl, trivial⟩, by simp [h]⟩
def listAns (l : List UInt8) : List (List UInt8) × Int := match listB l with
  | some x => (x, 0)
  | none => ([], 14)
def tokAns (l : List UInt8) : List (List UInt8) × Int := match listB l with
  | some x => if x.all tokB = true then (x, 0) else ([], 10)
  | none => ([], 14)
theorem listAns_len (l : List UInt8) : (listAns l).1.length ≤ l.length + 1 := by
  unfold listAns
  cases h : listB l with
  | none => simp
  | some x => exact listB_len h
theorem listAns_bad {l : List UInt8} (h : cut [] l = none) : listAns l = ([], 14) := by unfold listAns listB; rw [h]; rfl
theorem listAns_ok {l : List UInt8} {x : List (List UInt8)} (h : cut [] l = some x) : listAns l = (keepB x, 0) := by unfold listAns listB; rw [h]; rfl

section
variable (E : Env) (H : Hp) (Q : AV → Hp → Prop)
def sameInv (a b : List (List UInt8)) (H : Hp) (fr : List AV) (H' : Hp) : Prop := H' = H ∧ ∃ i : Nat, i ≤ a.length ∧ a.take i = b.take i ∧ ∃ x : Nat → AV, fr = [.sl false 1 (strs a), .sl false 1 (strs b), x 2, x 3, x 4, .int .i64 i, x 6, x 7, x 8, x 9, x 10, x 11, x 12, x 13, x 14, x 15, x 16, x 17, x 18, x 19, x 20, x 21, x 22, x 23, x 24, x 25]
theorem same_pc (a b : List (List UInt8)) (ha : a.length ≤ cap) (hQ : Q (.bool (decide (a = b))) H) : PC Tryd.prog E 43 [.sl false 1 (strs a), .sl false 1 (strs b)] H Q := by
  simp only [cap] at ha
  refine pc_enter Tryd.func43 rfl [] [] (by kernel_rfl) (fun hB => ?_)
  have fin : ∀ c : Bool, decide (a = b) = c → Q (.bool c) H := fun c hc => hc ▸ hQ
  by_cases hl : a.length = b.length
  · have t1 : ((a.length : Int) != (b.length : Int)) = false := by simp; omega
    simp [Tryd.ntmps43, Tryd.results43, List.replicate_succ, t1]
    refine VL_go (sameInv a b H) (fun fr _ => a.length - (ai (aget fr 5)).toNat) ⟨rfl, 0, by omega, rfl, fr_intro (by simp)⟩ ?_
    rintro fr H' ⟨rfl, i, hi, hab, x, rfl⟩
    by_cases h : i < a.length
    · obtain ⟨u, hu⟩ : ∃ u, a[i]? = some u := ⟨_, List.getElem?_eq_getElem h⟩
      obtain ⟨v, hv⟩ : ∃ u, b[i]? = some u := ⟨_, List.getElem?_eq_getElem (by omega)⟩
      have hat1 := strs_at hu
      have hat2 := strs_at hv
      have hw : IntKind.i64.wrap ((i : Int) + 1) = i + 1 := wrap_in (by omega) (by omega)
      by_cases huv : u = v
      · have t2 : (u != v) = false := by simp [huv]
        simp [h, hat1, hat2, t2, hw]
        refine Kloop_normal ⟨rfl, i + 1, by omega, ?_, fr_intro (by simp)⟩ (by simp; omega)
        rw [List.take_add_one, List.take_add_one, hab, hu, hv, huv]
      · have t2 : (u != v) = true := by simpa using huv
        simp [h, hat1, hat2, t2]
        refine aPost_same0 hB rfl (nilV_refl _) (by simp) (fin false (decide_eq_false fun e => huv ?_))
        rw [e, hv] at hu; exact (Option.some.inj hu).symm
    · simp [h]
      refine aPost_same0 hB rfl (nilV_refl _) (by simp) (fin true (decide_eq_true ?_))
      rw [List.take_of_length_le (by omega), List.take_of_length_le (by omega)] at hab
      exact hab
  · have t1 : ((a.length : Int) != (b.length : Int)) = true := by simp; omega
    simp [Tryd.ntmps43, Tryd.results43, List.replicate_succ, t1]
    exact aPost_same0 hB rfl (nilV_refl _) (by simp) (fin false (decide_eq_false fun e => hl (by rw [e])))

def listInv1 (l : List UInt8) (H : Hp) (fr : List AV) (H' : Hp) : Prop := H' = H ∧ ∃ (f i : Nat) (out : List (List UInt8)), f ≤ i ∧ i ≤ l.length ∧ out.length ≤ i ∧ cutIs l out f i ∧ ∃ x : Nat → AV, fr = [.str l, x 1, x 2, x 3, .sl true 1 (strs out), .int .i64 f, .int .i64 i, x 7, x 8, x 9, x 10, x 11, x 12, x 13, x 14, x 15, x 16, x 17, x 18, x 19, x 20, x 21, x 22, x 23, x 24, x 25, x 26, x 27, x 28, x 29, x 30, x 31, x 32, x 33, x 34, x 35, x 36, x 37, x 38, x 39, x 40, x 41, x 42, x 43, x 44, x 45, x 46, x 47, x 48, x 49, x 50, x 51, x 52, x 53, x 54, x 55, x 56, x 57, x 58, x 59, x 60, x 61, x 62, x 63, x 64, x 65, x 66, x 67, x 68, x 69, x 70, x 71, x 72, x 73]
def listInv2 (ps : List (List UInt8)) (H : Hp) (fr : List AV) (H' : Hp) : Prop := H' = H ∧ ∃ (i : Nat) (own : Bool), i ≤ ps.length ∧ ∃ x : Nat → AV, fr = [x 0, x 1, x 2, x 3, x 4, x 5, x 6, x 7, x 8, x 9, .sl true 1 (strs (keepB (ps.take i))), x 11, x 12, x 13, x 14, x 15, x 16, x 17, x 18, x 19, x 20, x 21, x 22, x 23, x 24, x 25, x 26, x 27, x 28, x 29, x 30, x 31, x 32, x 33, x 34, x 35, x 36, x 37, x 38, x 39, x 40, x 41, x 42, x 43, x 44, x 45, x 46, x 47, x 48, x 49, x 50, x 51, x 52, x 53, x 54, x 55, x 56, x 57, .sl own 1 (strs ps), .int .i64 ps.length, .int .i64 i, x 61, x 62, x 63, x 64, x 65, x 66, x 67, x 68, x 69, x 70, x 71, x 72, x 73]
theorem list_pc (l : List UInt8) (hl : l.length ≤ 4194304) (hQ : Q (.tup [.sl false 1 (strs (listAns l).1), .int .i64 (listAns l).2]) H) : PC Tryd.prog E 42 [.str l] H Q := by
  refine pc_enter Tryd.func42 rfl [43, 53, 68] [] (by kernel_rfl) (fun hB => ?_)
  simp [Tryd.ntmps42, Tryd.results42, List.replicate_succ]
  refine VL_nil 4 1 (by rfl) ?_
  simp only [List.set_cons_succ, List.set_cons_zero]
  refine VL_go (listInv1 l H) (fun fr _ => l.length - (ai (aget fr 6)).toNat) ⟨rfl, 0, 0, [], by omega, by omega, by simp, cutIs_start l, fr_intro (by simp [strs])⟩ ?_
  rintro fr H' ⟨rfl, f, i, out, hf, hi, hout, hc, x, rfl⟩
  have hm : out.length + 1 ≤ maxLen ∧ (out.length + 1) * 16 ≤ 140737488355328 := by unfold maxLen; omega
  by_cases h : i < l.length
  · have t1 : ((i : Int) == (l.length : Int)) = false := by simp; omega
    have hw : IntKind.i64.wrap ((i : Int) + 1) = i + 1 := wrap_in (by omega) (by omega)
    obtain ⟨b, hb⟩ : ∃ b, l[i]? = some b := ⟨_, List.getElem?_eq_getElem h⟩
    have hat := lat_eq hb
    have hbn := b.toNat_lt
    by_cases b34 : b.toNat = 34
    · have hx34 : b = 34 := UInt8.toNat_inj.1 b34
      have hb' : l[i]? = some 34 := by rw [hb, hx34]
      have t2 : ((b.toNat : Int) == 34) = true := by simp; omega
      have hd : (l.drop i).take (l.length - i) = l.drop i := List.take_of_length_le (by rw [List.length_drop]; omega)
      simp [t1, hat, t2, hd, hi]
      refine unquote_pc E _ _ (l.drop i) (by rw [List.length_drop]; omega) ?_
      cases hu : unquote (l.drop i) with
      | none =>
        have ha : unqAns (l.drop i) = ([], 0, 13) := by unfold unqAns; rw [hu]
        have hbad := listAns_bad (cutIs_bad hc hf hb' hu)
        rw [hbad] at hQ
        simp [ha]
        exact aPost_same0 hB rfl (nilV_tup2 1 _ rfl) (by simp [strs]) hQ
      | some p =>
        obtain ⟨y, k⟩ := p
        have ha : unqAns (l.drop i) = (y, (k : Int), 0) := by unfold unqAns; rw [hu]
        have hk := unquote_le hu
        rw [List.length_drop] at hk
        have hw2 : IntKind.i64.wrap ((i : Int) + k) = i + k := wrap_in (by omega) (by omega)
        simp [ha, hw2]
        exact Kloop_normal ⟨rfl, f, i + k, out, by omega, by omega, by omega, cutIs_quote hc hf hb' hu, fr_intro (by simp)⟩ (by simp; omega)
    · have t2 : ((b.toNat : Int) == 34) = false := by simp; omega
      have ne34 : b ≠ 34 := by rintro rfl; exact b34 rfl
      by_cases b44 : b.toNat = 44
      · have hx44 : b = 44 := UInt8.toNat_inj.1 b44
        have hb' : l[i]? = some 44 := by rw [hb, hx44]
        have t3 : ((b.toNat : Int) == 44) = true := by simp; omega
        simp [t1, hat, t2, t3, hf, hi, hm, hw]
        exact Kloop_normal ⟨rfl, i + 1, i + 1, out ++ [(l.drop f).take (i - f)], by omega, by omega, by simp; omega, cutIs_comma hc hf hb', fr_intro (by simp [strs])⟩ (by simp; omega)
      · have t3 : ((b.toNat : Int) == 44) = false := by simp; omega
        have ne44 : b ≠ 44 := by rintro rfl; exact b44 rfl
        simp [t1, hat, t2, t3, hw]
        exact Kloop_normal ⟨rfl, f, i + 1, out, by omega, by omega, by omega, cutIs_plain hc hf hb ne44 ne34, fr_intro (by simp)⟩ (by simp; omega)
  · obtain rfl : i = l.length := by omega
    have hcut := cutIs_end hc hf (Nat.le_refl _)
    have t1 : ((l.length : Int) == (l.length : Int)) = true := by simp
    obtain ⟨ps, hps⟩ : ∃ ps, out ++ [(l.drop f).take (l.length - f)] = ps := ⟨_, rfl⟩
    have hpl : ps.length = out.length + 1 := by rw [← hps]; simp
    rw [hps] at hcut
    have hans := listAns_ok hcut
    rw [hans] at hQ
    simp [hf, hm]
    refine VL_nil 10 1 (by rfl) ?_
    simp only [List.set_cons_succ, List.set_cons_zero]
    refine VL_go (listInv2 ps H') (fun fr _ => ps.length - (ai (aget fr 60)).toNat) ⟨rfl, 0, true, by omega, fr_intro (by rw [hpl, ← hps]; simp [strs, keepB])⟩ ?_
    rintro fr H'' ⟨rfl, i, own, hi2, y, rfl⟩
    have hkl : (keepB (ps.take i)).length ≤ ps.length := by
      have := keepB_le (ps.take i)
      rw [List.length_take] at this; omega
    have hm2 : (keepB (ps.take i)).length + 1 ≤ maxLen ∧ ((keepB (ps.take i)).length + 1) * 16 ≤ 140737488355328 := by unfold maxLen; omega
    by_cases h2 : i < ps.length
    · obtain ⟨p, hp⟩ : ∃ b, ps[i]? = some b := ⟨_, List.getElem?_eq_getElem h2⟩
      have hat := strs_at hp
      have hw : IntKind.i64.wrap ((i : Int) + 1) = i + 1 := wrap_in (by omega) (by omega)
      have hst := keepB_take ps i p hp
      have hpl2 : p.length ≤ cap := by
        have := cut_mem _ [] l ps (Nat.le_refl _) hcut p (List.mem_of_getElem? hp)
        simp only [cap]; simp at this; omega
      simp [h2, hat]
      refine trim_pc E _ _ p hpl2 ?_
      cases ht : (trimB p).isEmpty
      · have hne : (trimB p != []) = true := by rw [len_ne _ 0, ht]; rfl
        rw [ht] at hst
        simp [hne, hm2, hw]
        exact Kloop_normal ⟨rfl, i + 1, own, by omega, fr_intro (by rw [hst]; simp [strs])⟩ (by simp; omega)
      · have hne : (trimB p != []) = false := by rw [len_ne _ 0, ht]; rfl
        rw [ht] at hst
        simp [hne, hw]
        exact Kloop_normal ⟨rfl, i + 1, own, by omega, fr_intro (by rw [hst]; simp [strs])⟩ (by simp; omega)
    · have ha : ps.take i = ps := List.take_of_length_le (by omega)
      simp [h2]
      rw [ha]
      exact aPost_same0 hB rfl (nilV_refl _) (by simp) hQ
end
end Go.Proofs.YtjphdipbajfojaaDoor
set_option linter.unusedVariables false
set_option linter.unusedSimpArgs false
set_option maxRecDepth 100000
namespace Go.Proofs.YtjphdipbajfojaaDoor
open Go Go.RowKit

def isLet (b : UInt8) : Bool := (decide (65 ≤ b.toNat) && decide (b.toNat ≤ 90)) || (decide (97 ≤ b.toNat) && decide (b.toNat ≤ 122))
def sgs : List UInt8 := [33, 35, 36, 37, 38, 39, 42, 43, 45, 46, 94, 95, 96, 124, 126]
theorem sign_ref : ∀ n, n < 256 → (isDig (UInt8.ofNat n) || isLet (UInt8.ofNat n) || sgs.contains (UInt8.ofNat n)) = signB (UInt8.ofNat n) := by decide
theorem sign_refB (b : UInt8) : (isDig b || isLet b || sgs.contains b) = signB b := by
  have := sign_ref b.toNat b.toNat_lt
  rwa [u8_ofNat] at this

theorem join_snoc (ls : List (List UInt8)) (i : Nat) (x : List UInt8) (h : ls[i]? = some x) : Lib.join (ls.take (i + 1)) [44, 32] = Lib.join (ls.take i) [44, 32] ++ (if i = 0 then [] else [44, 32]) ++ x := by
  have e : ls.take (i + 1) = ls.take i ++ [x] := by rw [List.take_add_one, h]; rfl
  rw [e]
  have hl : (ls.take i).length = i := by rw [List.length_take]; have := (List.getElem?_eq_some_iff.1 h).1; omega
  have gen : ∀ (m : List (List UInt8)), Lib.join (m ++ [x]) [44, 32] = Lib.join m [44, 32] ++ (if m.length = 0 then [] else [44, 32]) ++ x := by
    intro m
    induction m with
    | nil => simp [Lib.join, List.intercalate]
    | cons a m ih =>
      cases m with
      | nil => simp [Lib.join, List.intercalate, List.intersperse]
      | cons b m =>
        have e1 : Lib.join (a :: b :: m) [44, 32] = a ++ 44 :: 32 :: Lib.join (b :: m) [44, 32] := by simp [Lib.join, List.intercalate, List.intersperse]
        have e2 : Lib.join (a :: b :: m ++ [x]) [44, 32] = a ++ 44 :: 32 :: Lib.join (b :: m ++ [x]) [44, 32] := by simp [Lib.join, List.intercalate, List.intersperse]
        rw [e2, e1, ih]
        simp
  rw [gen, hl]

section
variable (E : Env) (H : Hp) (Q : AV → Hp → Prop)
theorem ref_digit_pc (b : UInt8) (hQ : Q (.bool (isDig b)) H) : PC Tryd.prog E 67 [.int .u8 (b.toNat : Int)] H Q := by
  refine pc_of_calls (v := .bool (isDig b)) (by kernel_rfl) (fun _ => True) (fun w hw => trivial) (fun w β Rd cargs hS hsz hargs => ?_) (.bool _) rfl hQ
  obtain ⟨u, rfl, hu⟩ := args1 hsz hargs
  obtain rfl := rel_int hu
  refine (ref_digit_ok b w).mono ?_
  rintro e w' ⟨rfl, rfl⟩
  exact ⟨_, rfl, Frm.refl _ _, .bool _⟩
theorem ref_letter_pc (b : UInt8) (hQ : Q (.bool (isLet b)) H) : PC Tryd.prog E 72 [.int .u8 (b.toNat : Int)] H Q := by
  refine pc_enter Tryd.func72 rfl [] [] (by kernel_rfl) (fun hB => ?_)
  have fin : ∀ c : Bool, isLet b = c → Q (.bool c) H := fun c hc => hc ▸ hQ
  by_cases h1 : 65 ≤ b.toNat
  · have t1 : (65 : Int) ≤ b.toNat := by omega
    by_cases h2 : b.toNat ≤ 90
    · have t2 : (b.toNat : Int) ≤ 90 := by omega
      simp [Tryd.ntmps72, Tryd.results72, List.replicate_succ, t1, t2]
      exact aPost_same0 hB rfl (nilV_refl _) (by simp) (fin _ (by simp [isLet, h1, h2]))
    · have t2 : ¬ (b.toNat : Int) ≤ 90 := by omega
      by_cases h3 : 97 ≤ b.toNat
      · have t3 : (97 : Int) ≤ b.toNat := by omega
        by_cases h4 : b.toNat ≤ 122
        · have t4 : (b.toNat : Int) ≤ 122 := by omega
          simp [Tryd.ntmps72, Tryd.results72, List.replicate_succ, t1, t2, t3, t4]
          exact aPost_same0 hB rfl (nilV_refl _) (by simp) (fin _ (by simp [isLet, h3, h4]))
        · have t4 : ¬ (b.toNat : Int) ≤ 122 := by omega
          simp [Tryd.ntmps72, Tryd.results72, List.replicate_succ, t1, t2, t3, t4]
          exact aPost_same0 hB rfl (nilV_refl _) (by simp) (fin _ (by simp [isLet, h2, h4]))
      · have t3 : ¬ (97 : Int) ≤ b.toNat := by omega
        simp [Tryd.ntmps72, Tryd.results72, List.replicate_succ, t1, t2, t3]
        exact aPost_same0 hB rfl (nilV_refl _) (by simp) (fin _ (by simp [isLet, h2, h3]))
  · have t1 : ¬ (65 : Int) ≤ b.toNat := by omega
    have t3 : ¬ (97 : Int) ≤ b.toNat := by omega
    simp [Tryd.ntmps72, Tryd.results72, List.replicate_succ, t1, t3]
    exact aPost_same0 hB rfl (nilV_refl _) (by simp) (fin _ (by simp [isLet, h1]; omega))
def refSignInv (b : UInt8) (H : Hp) (fr : List AV) (H' : Hp) : Prop := H' = H ∧ ∃ i : Nat, i ≤ 15 ∧ (sgs.take i).contains b = false ∧ ∃ x : Nat → AV, fr = [.int .u8 (b.toNat : Int), x 1, x 2, .str sgs, .int .i64 i, x 5, x 6, x 7, x 8, x 9, x 10, x 11, x 12, x 13, x 14, x 15, x 16, x 17, x 18, x 19, x 20, x 21]
theorem ref_sign_pc (b : UInt8) (hQ : Q (.bool (signB b)) H) : PC Tryd.prog E 62 [.int .u8 (b.toNat : Int)] H Q := by
  refine pc_enter Tryd.func62 rfl [] [] (by kernel_rfl) (fun hB => ?_)
  have fin : ∀ c : Bool, signB b = c → Q (.bool c) H := fun c hc => hc ▸ hQ
  simp [Tryd.ntmps62, Tryd.results62, List.replicate_succ]
  refine ref_digit_pc E _ _ b ?_
  cases hd : isDig b
  · simp
    refine ref_letter_pc E _ _ b ?_
    cases hl : isLet b
    · simp
      refine VL_go (refSignInv b H) (fun fr _ => 15 - (ai (aget fr 4)).toNat) ⟨rfl, 0, by omega, rfl, fr_intro (by simp [sgs])⟩ ?_
      rintro fr H' ⟨rfl, i, hi, hall, x, rfl⟩
      have hlen : sgs.length = 15 := rfl
      by_cases h : i < 15
      · obtain ⟨c, hc⟩ : ∃ c, sgs[i]? = some c := ⟨_, List.getElem?_eq_getElem (by rw [hlen]; exact h)⟩
        have hat := lat_eq hc
        have h15 : (i : Int) < 15 := by omega
        have hw : IntKind.i64.wrap ((i : Int) + 1) = i + 1 := wrap_in (by omega) (by omega)
        by_cases he : c = b
        · have t1 : ((c.toNat : Int) == (b.toNat : Int)) = true := by simp [he]
          simp [hlen, h15, hat, t1]
          refine aPost_same0 hB rfl (nilV_refl _) (by simp) (fin _ ?_)
          rw [← sign_refB, show sgs.contains b = true by rw [List.contains_iff_mem, ← he]; exact List.mem_of_getElem? hc]
          simp
        · have t1 : ((c.toNat : Int) == (b.toNat : Int)) = false := by
            rw [beq_eq_false_iff_ne]
            intro hh
            exact he (UInt8.toNat_inj.1 (by omega))
          simp [hlen, h15, hat, t1, hw]
          refine Kloop_normal ⟨rfl, i + 1, by omega, ?_, fr_intro (by simp)⟩ (by simp; omega)
          rw [List.take_add_one, hc]
          simp at hall
          simp [hall]
          exact fun e => he e.symm
      · obtain rfl : i = 15 := by omega
        simp [hlen]
        refine aPost_same0 hB rfl (nilV_refl _) (by simp) (fin _ ?_)
        rw [← sign_refB, hd, hl]
        exact hall
    · simp
      refine aPost_same0 hB rfl (nilV_refl _) (by simp) (fin _ ?_)
      rw [← sign_refB, hl]; simp
  · simp
    refine aPost_same0 hB rfl (nilV_refl _) (by simp) (fin _ ?_)
    rw [← sign_refB, hd]; simp
def refTokInv (l : List UInt8) (H : Hp) (fr : List AV) (H' : Hp) : Prop := H' = H ∧ ∃ i : Nat, i ≤ l.length ∧ (l.take i).all signB = true ∧ ∃ x : Nat → AV, fr = [.str l, x 1, x 2, .int .i64 i, x 4, x 5, x 6, x 7, x 8, x 9, x 10, x 11, x 12, x 13, x 14, x 15, x 16]
theorem ref_token_pc (l : List UInt8) (hl : l.length ≤ cap) (hQ : Q (.bool (tokB l)) H) : PC Tryd.prog E 37 [.str l] H Q := by
  simp only [cap] at hl
  refine pc_enter Tryd.func37 rfl [] [] (by kernel_rfl) (fun hB => ?_)
  have fin : ∀ c : Bool, tokB l = c → Q (.bool c) H := fun c hc => hc ▸ hQ
  simp [Tryd.ntmps37, Tryd.results37, List.replicate_succ]
  refine VL_go (refTokInv l H) (fun fr _ => l.length - (ai (aget fr 3)).toNat) ⟨rfl, 0, by omega, rfl, fr_intro (by simp)⟩ ?_
  rintro fr H' ⟨rfl, i, hi, hall, x, rfl⟩
  by_cases h : i < l.length
  · obtain ⟨b, hb⟩ : ∃ b, l[i]? = some b := ⟨_, List.getElem?_eq_getElem h⟩
    have hat := lat_eq hb
    have hw : IntKind.i64.wrap ((i : Int) + 1) = i + 1 := wrap_in (by omega) (by omega)
    simp [h, hat]
    refine ref_sign_pc E _ _ b ?_
    cases hf : signB b
    · simp [hf]
      exact aPost_same0 hB rfl (nilV_refl _) (by simp) (fin _ (by rw [tokB, all_bad signB l i b hb hf]; rfl))
    · simp [hf, hw]
      refine Kloop_normal ⟨rfl, i + 1, by omega, ?_, fr_intro (by simp)⟩ (by simp; omega)
      rw [all_take signB l i b hb, hall, hf]; rfl
  · have : l.take i = l := List.take_of_length_le (by omega)
    rw [this] at hall
    have ht : tokB l = (l != []) := by rw [tokB, hall, len_ne l 0]; simp
    simp [h]
    exact aPost_same0 hB rfl (nilV_refl _) (by simp) (fin _ ht)

def tokInv (ps : List (List UInt8)) (H : Hp) (fr : List AV) (H' : Hp) : Prop := H' = H ∧ ∃ i : Nat, i ≤ ps.length ∧ (ps.take i).all tokB = true ∧ ∃ x : Nat → AV, fr = [x 0, x 1, x 2, x 3, .sl false 1 (strs ps), x 5, x 6, x 7, x 8, x 9, x 10, x 11, x 12, x 13, x 14, x 15, .sl false 1 (strs ps), .int .i64 ps.length, .int .i64 i, x 19, x 20, x 21, x 22, x 23, x 24, x 25, x 26]
theorem all_step {α : Type} (p : α → Bool) (l : List α) (k : Nat) (x : α) (h : l[k]? = some x) : (l.take (k + 1)).all p = ((l.take k).all p && p x) := by
  rw [List.take_add_one, h, List.all_append]
  simp
theorem all_stop {α : Type} (p : α → Bool) (l : List α) (k : Nat) (x : α) (h : l[k]? = some x) (hp : p x = false) : l.all p = false := by
  rw [List.all_eq_false]
  exact ⟨x, List.mem_of_getElem? h, by rw [hp]; simp⟩
theorem listB_mem {l : List UInt8} {ps : List (List UInt8)} (h : listB l = some ps) : ∀ p ∈ ps, p.length ≤ l.length := by
  unfold listB at h
  cases hc : cut [] l with
  | none => simp [hc] at h
  | some y =>
    simp [hc] at h; subst h
    intro p hp
    unfold keepB at hp
    obtain ⟨q, hq, rfl⟩ := List.mem_map.1 (List.mem_filter.1 hp).1
    have := cut_mem _ [] l y (Nat.le_refl _) hc q hq
    have := trim_le q
    simp at *; omega
theorem tokens_pc (hE : SE E) (l : List UInt8) (hl : l.length ≤ 4194304) (hQ : Q (.tup [.sl false 1 (strs (tokAns l).1), .int .i64 (tokAns l).2]) H) : PC Tryd.prog E 45 [.str l] H Q := by
  refine pc_enter Tryd.func45 rfl [] [] (by kernel_rfl) (fun hB => ?_)
  simp [Tryd.ntmps45, Tryd.results45, List.replicate_succ]
  refine list_pc E _ _ l hl ?_
  have bad : ∀ e : Int, tokAns l = ([], e) → Q (.tup [.sl false 1 [], .int .i64 e]) H := fun e h => by rw [h] at hQ; exact hQ
  cases hb : listB l with
  | none =>
    have ha : listAns l = ([], 14) := by unfold listAns; rw [hb]
    have ht : tokAns l = ([], 14) := by unfold tokAns; rw [hb]
    simp [ha]
    exact aPost_same0 hB rfl (nilV_tup2 1 _ rfl) (by simp) (bad _ ht)
  | some ps =>
    have ha : listAns l = (ps, 0) := by unfold listAns; rw [hb]
    have hpl := listB_len hb
    simp [ha]
    refine VL_go (tokInv ps H) (fun fr _ => ps.length - (ai (aget fr 18)).toNat) ⟨rfl, 0, by omega, rfl, fr_intro (by simp)⟩ ?_
    rintro fr H' ⟨rfl, i, hi, hall, x, rfl⟩
    by_cases h : i < ps.length
    · obtain ⟨p, hp⟩ : ∃ b, ps[i]? = some b := ⟨_, List.getElem?_eq_getElem h⟩
      have hat := strs_at hp
      have hw : IntKind.i64.wrap ((i : Int) + 1) = i + 1 := wrap_in (by omega) (by omega)
      have hpm := listB_mem hb p (List.mem_of_getElem? hp)
      simp [h, hat]
      refine isToken_pc E _ _ hE p (by simp only [cap]; omega) ?_
      cases hf : tokB p
      · have ht : tokAns l = ([], 10) := by unfold tokAns; rw [hb]; simp only [all_stop tokB ps i p hp hf]; rfl
        simp [hf]
        exact aPost_same0 hB rfl (nilV_tup2 1 _ rfl) (by simp) (bad _ ht)
      · simp [hf, hw]
        exact Kloop_normal ⟨rfl, i + 1, by omega, by rw [all_step tokB ps i p hp, hall, hf]; rfl, fr_intro (by simp)⟩ (by simp; omega)
    · rw [List.take_of_length_le (by omega)] at hall
      have ht : tokAns l = (ps, 0) := by unfold tokAns; rw [hb]; simp only [hall]; rfl
      rw [ht] at hQ
      simp [h]
      exact aPost_same0 hB rfl (nilV_refl _) (by simp) hQ
end
end Go.Proofs.YtjphdipbajfojaaDoor
