/- The octet layer in the abstract machine: blanks, texts, parameters, as the chunk layer calls them. -/
import Derived.Test.YtimhofphmgehgaaDoorChD
import Derived.Test.YtimhofphmgehgaaDoorOpen
set_option linter.unusedVariables false
set_option linter.unusedSimpArgs false
set_option linter.unusedSectionVars false
set_option maxRecDepth 100000
namespace Go.Proofs.YtimhofphmgehgaaDoor
open Go Go.RowKit Go.Proofs

theorem blank_iff (b : UInt8) : blankB b = (decide (b.toNat = 32) || decide (b.toNat = 9)) := by
  have e1 : (b == 9) = decide (b.toNat = 9) := by rw [Bool.eq_iff_iff]; simp [← UInt8.toNat_inj]
  have e2 : (b == 32) = decide (b.toNat = 32) := by rw [Bool.eq_iff_iff]; simp [← UInt8.toNat_inj]
  rw [blankB, e1, e2]
theorem len_ne (l : List UInt8) (n : Nat) : (l != []) = !l.isEmpty := by cases l <;> rfl
section
variable (E : Env) (H : Hp) (Q : AV → Hp → Prop)
def refFieldInv (l : List UInt8) (H : Hp) (fr : List AV) (H' : Hp) : Prop := H' = H ∧ ∃ i : Nat, i ≤ l.length ∧ fldB (l.take i) = true ∧ ∃ x : Nat → AV, fr = [.str l, x 1, x 2, .int .i64 i, x 4, x 5, x 6, x 7, x 8, x 9, x 10, x 11, x 12, x 13, x 14]
def refQuoteInv (l : List UInt8) (H : Hp) (fr : List AV) (H' : Hp) : Prop := H' = H ∧ ∃ i : Nat, i ≤ l.length ∧ ∃ x : Nat → AV, fr = [.str l, x 1, x 2, x 3, .sl true 1 (bts (34 :: esc (l.take i))), .int .i64 i, x 6, x 7, x 8, x 9, x 10, x 11, x 12, x 13, x 14, x 15, x 16, x 17, x 18, x 19, x 20, x 21, x 22, x 23, x 24, x 25, x 26, x 27, x 28, x 29, x 30, x 31, x 32, x 33, x 34, x 35, x 36, x 37, x 38]
end
section
variable (E : Env) (H : Hp) (Q : AV → Hp → Prop)
def refUnqInv (l : List UInt8) (H : Hp) (fr : List AV) (H' : Hp) : Prop := H' = H ∧ ∃ (k : Nat) (acc : List UInt8), 1 ≤ k ∧ k ≤ l.length ∧ acc.length ≤ k ∧ unqIs l acc k ∧ ∃ x : Nat → AV, fr = [.str l, x 1, x 2, x 3, x 4, .sl true 1 (bts acc), .int .i64 k, x 7, x 8, x 9, x 10, x 11, x 12, x 13, x 14, x 15, x 16, x 17, x 18, x 19, x 20, x 21, x 22, x 23, x 24, x 25, x 26, x 27, x 28, x 29, x 30, x 31, x 32, x 33, x 34, x 35, x 36, x 37, x 38, x 39, x 40, x 41, x 42, x 43, x 44, x 45, x 46, x 47, x 48, x 49, x 50, x 51]
end
/-! ### Plain -/
theorem sp_blank : (fun b : UInt8 => [32, 9].contains b) = blankB := by
  funext b
  rw [Bool.eq_iff_iff]
  simp [blankB]
theorem dw_snoc (p : UInt8 → Bool) (c : UInt8) (hc : p c = false) : ∀ r : List UInt8, (r ++ [c]).dropWhile p = r.dropWhile p ++ [c]
  | [] => by simp [List.dropWhile, hc]
  | d :: r => by
    rw [List.cons_append]
    cases hd : p d
    · rw [List.dropWhile_cons_of_neg (by rw [hd]; simp), List.dropWhile_cons_of_neg (by rw [hd]; simp)]; rfl
    · rw [List.dropWhile_cons_of_pos hd, List.dropWhile_cons_of_pos hd]; exact dw_snoc p c hc r
def lt (l : List UInt8) : List UInt8 := l.dropWhile blankB
def rt (l : List UInt8) : List UInt8 := (l.reverse.dropWhile blankB).reverse
theorem trim_eq (l : List UInt8) : trimB l = lt (rt l) := by
  unfold trimB Go.Lib.trimS Go.Lib.trimLeftS Go.Lib.trimRightS lt rt
  rw [← sp_blank]
theorem trim_comm : ∀ l : List UInt8, trimB l = rt (lt l)
  | [] => rfl
  | c :: r => by
    cases hc : blankB c
    · have h1 : lt (c :: r) = c :: r := by unfold lt; rw [List.dropWhile_cons_of_neg (by rw [hc]; simp)]
      rw [h1, trim_eq]
      unfold rt
      rw [List.reverse_cons, dw_snoc blankB c hc, List.reverse_append, List.reverse_singleton, List.singleton_append]
      unfold lt
      rw [List.dropWhile_cons_of_neg (by rw [hc]; simp)]
    · rw [trimB_blank c hc, trim_comm r]
      have : lt (c :: r) = lt r := by unfold lt; rw [List.dropWhile_cons_of_pos hc]
      rw [this]
theorem seg_app (l : List UInt8) (f i k : Nat) (h : f ≤ i) : (l.drop f).take (i - f) ++ (l.drop i).take k = (l.drop f).take (i + k - f) := by
  rw [show i + k - f = (i - f) + k by omega, List.take_add, List.drop_drop, show f + (i - f) = i by omega]
theorem seg_one (l : List UInt8) (f i : Nat) (c : UInt8) (h : f ≤ i) (hc : l[i]? = some c) : (l.drop f).take (i - f) ++ [c] = (l.drop f).take (i + 1 - f) := by
  rw [← seg_app l f i 1 h, drop_at l i c hc]; rfl
theorem seg_nil (l : List UInt8) (i : Nat) : (l.drop i).take (i - i) = [] := by simp
theorem seg_all (l : List UInt8) (f i : Nat) (h : l.length ≤ i) : (l.drop f).take (i - f) = l.drop f := List.take_of_length_le (by rw [List.length_drop]; omega)
theorem strs_snoc (l : List (List UInt8)) (x : List UInt8) : strs l ++ [[AV.str x]] = strs (l ++ [x]) := by simp [strs]
theorem strs_at {l : List (List UInt8)} {i : Nat} {x : List UInt8} (h : l[i]? = some x) : lat (strs l) i = some [AV.str x] := by simp [lat, strs, h]
theorem keepB_take (l : List (List UInt8)) (i : Nat) (x : List UInt8) (h : l[i]? = some x) : keepB (l.take (i + 1)) = keepB (l.take i) ++ (if (trimB x).isEmpty then [] else [trimB x]) := by
  rw [List.take_add_one, h, keepB_app]
  congr 1
  simp [keepB]
  cases (trimB x) <;> simp
theorem keepB_le (l : List (List UInt8)) : (keepB l).length ≤ l.length := by
  unfold keepB
  refine Nat.le_trans (List.length_filter_le _ _) ?_
  rw [List.length_map]; exact Nat.le_refl _
theorem cut_len : ∀ (n : Nat) (acc s : List UInt8) (x : List (List UInt8)), s.length ≤ n → cut acc s = some x → x.length ≤ s.length + 1
  | n, acc, [], x, _, h => by rw [cut_nil] at h; cases h; simp
  | 0, acc, c :: r, x, hn, h => by simp at hn
  | n + 1, acc, c :: r, x, hn, h => by
    simp only [List.length_cons] at hn ⊢
    by_cases h1 : c = 44
    · subst h1
      rw [cut_comma] at h
      cases hc : cut [] r with
      | none => simp [hc] at h
      | some y =>
        simp [hc] at h; subst h
        have := cut_len n [] r y (by omega) hc
        simp only [List.length_cons]; omega
    · by_cases h2 : c = 34
      · subst h2
        cases hu : unquote (34 :: r) with
        | none => rw [cut_bad _ _ hu] at h; cases h
        | some p =>
          have hl := unquote_le (l := p.1) (k := p.2) hu
          simp only [List.length_cons] at hl
          rw [cut_quote acc r p.1 p.2 hu] at h
          have := cut_len n _ _ x (by simp; omega) h
          simp at this; omega
      · rw [cut_plain _ _ _ h1 h2] at h
        have := cut_len n _ _ x (by omega) h
        omega
theorem cut_mem : ∀ (n : Nat) (acc s : List UInt8) (x : List (List UInt8)), s.length ≤ n → cut acc s = some x → ∀ p ∈ x, p.length ≤ acc.length + s.length
  | n, acc, [], x, _, h, p, hp => by rw [cut_nil] at h; cases h; simp at hp; subst hp; simp
  | 0, acc, c :: r, x, hn, h, p, hp => by simp at hn
  | n + 1, acc, c :: r, x, hn, h, p, hp => by
    simp only [List.length_cons] at hn ⊢
    by_cases h1 : c = 44
    · subst h1
      rw [cut_comma] at h
      cases hc : cut [] r with
      | none => simp [hc] at h
      | some y =>
        simp [hc] at h; subst h
        rcases List.mem_cons.1 hp with rfl | hp
        · omega
        · have := cut_mem n [] r y (by omega) hc p hp
          simp at this; omega
    · by_cases h2 : c = 34
      · subst h2
        cases hu : unquote (34 :: r) with
        | none => rw [cut_bad _ _ hu] at h; cases h
        | some q =>
          have hl := unquote_le (l := q.1) (k := q.2) hu
          simp only [List.length_cons] at hl
          rw [cut_quote acc r q.1 q.2 hu] at h
          have := cut_mem n _ _ x (by simp; omega) h p hp
          simp at this; omega
      · rw [cut_plain _ _ _ h1 h2] at h
        have := cut_mem n _ _ x (by omega) h p hp
        simp at this; omega
theorem listB_len {s : List UInt8} {x : List (List UInt8)} (h : listB s = some x) : x.length ≤ s.length + 1 := by
  unfold listB at h
  cases hc : cut [] s with
  | none => simp [hc] at h
  | some y =>
    simp [hc] at h; subst h
    exact Nat.le_trans (keepB_le y) (cut_len _ [] s y (Nat.le_refl _) hc)
/-- Where a loop over the text stands. -/
def cutIs (s : List UInt8) (out : List (List UInt8)) (f i : Nat) : Prop := cut [] s = (cut ((s.drop f).take (i - f)) (s.drop i)).map (out ++ ·)
theorem cutIs_start (s : List UInt8) : cutIs s [] 0 0 := by unfold cutIs; simp
section
variable {s : List UInt8} {out : List (List UInt8)} {f i : Nat} (h : cutIs s out f i) (hf : f ≤ i)
include h hf
theorem cutIs_comma (hc : s[i]? = some 44) : cutIs s (out ++ [(s.drop f).take (i - f)]) (i + 1) (i + 1) := by
  unfold cutIs at h ⊢
  rw [h, drop_at s i 44 hc, cut_comma, seg_nil]
  cases cut [] (s.drop (i + 1)) <;> simp
theorem cutIs_plain {c : UInt8} (hc : s[i]? = some c) (h1 : c ≠ 44) (h2 : c ≠ 34) : cutIs s out f (i + 1) := by
  unfold cutIs at h ⊢
  rw [h, drop_at s i c hc, cut_plain _ _ _ h1 h2, seg_one s f i c hf hc]
theorem cutIs_bad (hc : s[i]? = some 34) (hu : unquote (s.drop i) = none) : cut [] s = none := by
  unfold cutIs at h
  rw [drop_at s i 34 hc] at hu h
  rw [h, cut_bad _ _ hu]; rfl
theorem cutIs_quote (hc : s[i]? = some 34) {x : List UInt8} {k : Nat} (hu : unquote (s.drop i) = some (x, k)) : cutIs s out f (i + k) := by
  unfold cutIs at h ⊢
  have e := drop_at s i 34 hc
  rw [e] at hu
  rw [h, e, cut_quote _ _ x k hu, ← e, seg_app s f i k hf, List.drop_drop]
theorem cutIs_end (hi : s.length ≤ i) : cut [] s = some (out ++ [(s.drop f).take (i - f)]) := by
  unfold cutIs at h
  rw [h, List.drop_of_length_le hi, cut_nil]; rfl
end
section
variable (E : Env) (H : Hp) (Q : AV → Hp → Prop)
theorem ref_blank_pc (b : UInt8) (hQ : Q (.bool (blankB b)) H) : PC Tryd.prog E 78 [.int .u8 (b.toNat : Int)] H Q := by
  refine pc_enter Tryd.func78 rfl [] [] (by kernel_rfl) (fun hB => ?_)
  have fin : ∀ c : Bool, blankB b = c → Q (.bool c) H := fun c hc => hc ▸ hQ
  by_cases h1 : b.toNat = 32
  · have t1 : ((b.toNat : Int) == 32) = true := by simp; omega
    simp [Tryd.ntmps78, Tryd.results78, List.replicate_succ, t1]
    exact aPost_same0 hB rfl (nilV_refl _) (by simp) (fin _ (by rw [blank_iff]; simp [h1]))
  · have t1 : ((b.toNat : Int) == 32) = false := by simp; omega
    by_cases h2 : b.toNat = 9
    · have t2 : ((b.toNat : Int) == 9) = true := by simp; omega
      simp [Tryd.ntmps78, Tryd.results78, List.replicate_succ, t1, t2]
      exact aPost_same0 hB rfl (nilV_refl _) (by simp) (fin _ (by rw [blank_iff]; simp [h2]))
    · have t2 : ((b.toNat : Int) == 9) = false := by simp; omega
      simp [Tryd.ntmps78, Tryd.results78, List.replicate_succ, t1, t2]
      exact aPost_same0 hB rfl (nilV_refl _) (by simp) (fin _ (by rw [blank_iff]; simp [h1, h2]))
def refTrimInv1 (l : List UInt8) (H : Hp) (fr : List AV) (H' : Hp) : Prop := H' = H ∧ ∃ c : List UInt8, c.length ≤ l.length ∧ lt c = lt l ∧ ∃ x : Nat → AV, fr = [.str c, x 1, x 2, x 3, x 4, x 5, x 6, x 7, x 8, x 9, x 10, x 11, x 12, x 13, x 14, x 15, x 16, x 17, x 18, x 19, x 20, x 21, x 22, x 23, x 24, x 25, x 26, x 27, x 28, x 29]
def refTrimInv2 (l : List UInt8) (H : Hp) (fr : List AV) (H' : Hp) : Prop := H' = H ∧ ∃ c : List UInt8, c.length ≤ l.length ∧ rt c = rt (lt l) ∧ ∃ x : Nat → AV, fr = [.str c, x 1, x 2, x 3, x 4, x 5, x 6, x 7, x 8, x 9, x 10, x 11, x 12, x 13, x 14, x 15, x 16, x 17, x 18, x 19, x 20, x 21, x 22, x 23, x 24, x 25, x 26, x 27, x 28, x 29]
def asz : AV → Nat
  | .str l => l.length
  | _ => 0
@[simp] theorem asz_str (l) : asz (.str l) = l.length := rfl
theorem ref_trim_pc (l : List UInt8) (hl : l.length ≤ cap) (hQ : Q (.str (trimB l)) H) : PC Tryd.prog E 47 [.str l] H Q := by
  simp only [cap] at hl
  refine pc_enter Tryd.func47 rfl [] [] (by kernel_rfl) (fun hB => ?_)
  simp [Tryd.ntmps47, Tryd.results47, List.replicate_succ]
  refine VL_go (refTrimInv1 l H) (fun fr _ => asz (aget fr 0)) ⟨rfl, l, Nat.le_refl _, rfl, fr_intro (by simp)⟩ ?_
  rintro fr H' ⟨rfl, c, hcl, hc, x, rfl⟩
  have hcase : c = [] ∨ (∃ a r, c = a :: r ∧ blankB a = false) ∨ (∃ a r, c = a :: r ∧ blankB a = true) := by
    cases c with
    | nil => exact .inl rfl
    | cons a r =>
      cases hb : blankB a
      · exact .inr (.inl ⟨a, r, rfl, hb⟩)
      · exact .inr (.inr ⟨a, r, rfl, hb⟩)
  rcases hcase with rfl | ⟨a, r, rfl, hb⟩ | ⟨a, r, rfl, hb⟩
  rotate_left 2
  · have hne : (0 : Int) < r.length + 1 := by omega
    simp [hne]
    refine ref_blank_pc E _ _ a ?_
    simp [hb]
    refine Kloop_normal ⟨rfl, r, by simp at hcl; omega, ?_, fr_intro (by simp)⟩ (by simp)
    rw [← hc]; unfold lt; rw [List.dropWhile_cons_of_pos hb]
  case' inl =>
    have e : ([] : List UInt8) = lt l := by rw [← hc]; rfl
    simp
  case' inr.inl =>
    have e : a :: r = lt l := by rw [← hc]; unfold lt; rw [List.dropWhile_cons_of_neg (by rw [hb]; simp)]
    have hne : (0 : Int) < r.length + 1 := by omega
    simp [hne]
    refine ref_blank_pc E _ _ a ?_
    simp [hb]
  all_goals
    refine VL_go (refTrimInv2 l H') (fun fr _ => asz (aget fr 0)) ⟨rfl, _, hcl, by rw [e], fr_intro (by simp)⟩ ?_
    rintro fr H'' ⟨rfl, d, hdl, hd, z, rfl⟩
    rcases d.eq_nil_or_concat with rfl | ⟨y, b, rfl⟩
    · have ed : ([] : List UInt8) = trimB l := by rw [trim_comm, ← hd]; rfl
      simp
      refine aPost_same0 hB rfl (nilV_refl _) (by simp) ?_
      show Q (.str []) _
      rw [ed]; exact hQ
    · rw [List.concat_eq_append] at hd
      simp at hdl
      have hat : lat (y ++ [b]) y.length = some b := lat_eq (by simp)
      have hw : IntKind.i64.wrap (y.length : Int) = y.length := wrap_in (by omega) (by omega)
      have hne : (0 : Int) < y.length + 1 := by omega
      simp [hne, hw, hat]
      refine ref_blank_pc E _ _ b ?_
      cases hb2 : blankB b
      · have ed : y ++ [b] = trimB l := by
          rw [trim_comm, ← hd]
          unfold rt
          rw [List.reverse_append, List.reverse_singleton, List.singleton_append, List.dropWhile_cons_of_neg (by rw [hb2]; simp)]
          simp
        simp
        refine aPost_same0 hB rfl (nilV_refl _) (by simp) ?_
        show Q (.str (y ++ [b])) _
        rw [ed]; exact hQ
      · simp [hw]
        refine Kloop_normal ⟨rfl, y, by omega, ?_, fr_intro (by simp)⟩ (by simp)
        rw [← hd]
        unfold rt
        rw [List.reverse_append, List.reverse_singleton, List.singleton_append, List.dropWhile_cons_of_pos hb2]
end
theorem bnd_strs {N : Nat} (o k) (l : List (List UInt8)) : Bnd N (.sl o k (strs l)) := .sl _ _ _ fun r hr x hx => by
  obtain ⟨c, _, rfl⟩ := List.mem_map.1 hr
  simp at hx; subst hx; exact .str _
@[simp high] theorem bnd_strs' {N : Nat} (o k) (l : List (List UInt8)) : Bnd N (.sl o k (strs l)) := bnd_strs o k l
@[simp] theorem strs_length (l : List (List UInt8)) : (strs l).length = l.length := strs_len l
theorem nilV_tup2 (k : Nat) (y : AV) (h : y.free = true) : nilV (.tup [.nil, y]) (.tup [.sl false k [], y]) :=
  .inr ⟨_, _, rfl, rfl, ⟨.inr ⟨rfl, false, k, rfl⟩, .inl rfl, trivial⟩, by simp [h]⟩
def listAns (l : List UInt8) : List (List UInt8) × Int := match listB l with
  | some x => (x, 0)
  | none => ([], 14)
def tokAns (l : List UInt8) : List (List UInt8) × Int := match listB l with
  | some x => if x.all tokB = true then (x, 0) else ([], 10)
  | none => ([], 14)
theorem listAns_len (l : List UInt8) : (listAns l).1.length ≤ l.length + 1 := by
  unfold listAns
  cases h : listB l with
  | none => simp
  | some x => exact listB_len h
theorem listAns_bad {l : List UInt8} (h : cut [] l = none) : listAns l = ([], 14) := by unfold listAns listB; rw [h]; rfl
theorem listAns_ok {l : List UInt8} {x : List (List UInt8)} (h : cut [] l = some x) : listAns l = (keepB x, 0) := by unfold listAns listB; rw [h]; rfl
section
variable (E : Env) (H : Hp) (Q : AV → Hp → Prop)
end
def isLet (b : UInt8) : Bool := (decide (65 ≤ b.toNat) && decide (b.toNat ≤ 90)) || (decide (97 ≤ b.toNat) && decide (b.toNat ≤ 122))
def sgs : List UInt8 := [33, 35, 36, 37, 38, 39, 42, 43, 45, 46, 94, 95, 96, 124, 126]
theorem sign_ref : ∀ n, n < 256 → (isDig (UInt8.ofNat n) || isLet (UInt8.ofNat n) || sgs.contains (UInt8.ofNat n)) = signB (UInt8.ofNat n) := by decide
theorem sign_refB (b : UInt8) : (isDig b || isLet b || sgs.contains b) = signB b := by
  have := sign_ref b.toNat b.toNat_lt
  rwa [u8_ofNat] at this
theorem join_snoc (ls : List (List UInt8)) (i : Nat) (x : List UInt8) (h : ls[i]? = some x) : Lib.join (ls.take (i + 1)) [44, 32] = Lib.join (ls.take i) [44, 32] ++ (if i = 0 then [] else [44, 32]) ++ x := by
  have e : ls.take (i + 1) = ls.take i ++ [x] := by rw [List.take_add_one, h]; rfl
  rw [e]
  have hl : (ls.take i).length = i := by rw [List.length_take]; have := (List.getElem?_eq_some_iff.1 h).1; omega
  have gen : ∀ (m : List (List UInt8)), Lib.join (m ++ [x]) [44, 32] = Lib.join m [44, 32] ++ (if m.length = 0 then [] else [44, 32]) ++ x := by
    intro m
    induction m with
    | nil => simp [Lib.join, List.intercalate]
    | cons a m ih =>
      cases m with
      | nil => simp [Lib.join, List.intercalate, List.intersperse]
      | cons b m =>
        have e1 : Lib.join (a :: b :: m) [44, 32] = a ++ 44 :: 32 :: Lib.join (b :: m) [44, 32] := by simp [Lib.join, List.intercalate, List.intersperse]
        have e2 : Lib.join (a :: b :: m ++ [x]) [44, 32] = a ++ 44 :: 32 :: Lib.join (b :: m ++ [x]) [44, 32] := by simp [Lib.join, List.intercalate, List.intersperse]
        rw [e2, e1, ih]
        simp
  rw [gen, hl]
section
variable (E : Env) (H : Hp) (Q : AV → Hp → Prop)
def refSignInv (b : UInt8) (H : Hp) (fr : List AV) (H' : Hp) : Prop := H' = H ∧ ∃ i : Nat, i ≤ 15 ∧ (sgs.take i).contains b = false ∧ ∃ x : Nat → AV, fr = [.int .u8 (b.toNat : Int), x 1, x 2, .str sgs, .int .i64 i, x 5, x 6, x 7, x 8, x 9, x 10, x 11, x 12, x 13, x 14, x 15, x 16, x 17, x 18, x 19, x 20, x 21]
def refTokInv (l : List UInt8) (H : Hp) (fr : List AV) (H' : Hp) : Prop := H' = H ∧ ∃ i : Nat, i ≤ l.length ∧ (l.take i).all signB = true ∧ ∃ x : Nat → AV, fr = [.str l, x 1, x 2, .int .i64 i, x 4, x 5, x 6, x 7, x 8, x 9, x 10, x 11, x 12, x 13, x 14, x 15, x 16]
def tokInv (ps : List (List UInt8)) (H : Hp) (fr : List AV) (H' : Hp) : Prop := H' = H ∧ ∃ i : Nat, i ≤ ps.length ∧ (ps.take i).all tokB = true ∧ ∃ x : Nat → AV, fr = [x 0, x 1, x 2, x 3, .sl false 1 (strs ps), x 5, x 6, x 7, x 8, x 9, x 10, x 11, x 12, x 13, x 14, x 15, .sl false 1 (strs ps), .int .i64 ps.length, .int .i64 i, x 19, x 20, x 21, x 22, x 23, x 24, x 25, x 26]
theorem all_step {α : Type} (p : α → Bool) (l : List α) (k : Nat) (x : α) (h : l[k]? = some x) : (l.take (k + 1)).all p = ((l.take k).all p && p x) := by
  rw [List.take_add_one, h, List.all_append]
  simp
theorem all_stop {α : Type} (p : α → Bool) (l : List α) (k : Nat) (x : α) (h : l[k]? = some x) (hp : p x = false) : l.all p = false := by
  rw [List.all_eq_false]
  exact ⟨x, List.mem_of_getElem? h, by rw [hp]; simp⟩
theorem listB_mem {l : List UInt8} {ps : List (List UInt8)} (h : listB l = some ps) : ∀ p ∈ ps, p.length ≤ l.length := by
  unfold listB at h
  cases hc : cut [] l with
  | none => simp [hc] at h
  | some y =>
    simp [hc] at h; subst h
    intro p hp
    unfold keepB at hp
    obtain ⟨q, hq, rfl⟩ := List.mem_map.1 (List.mem_filter.1 hp).1
    have := cut_mem _ [] l y (Nat.le_refl _) hc q hq
    have := trim_le q
    simp at *; omega
end
section
variable (E : Env) (H : Hp) (Q : AV → Hp → Prop)
end
theorem law_fix (W : World) (hS : Signs W) : ∀ b, b = 0 → b < W.heap.size := fun b hb => hb ▸ World.block_lt_of_cell? _ _ (hS 0 _ rfl)
def parRow (p : Par) : List AV := [.str p.name, .str p.value, .bool p.has]
def prs (l : List Par) : List (List AV) := l.map parRow
@[simp] theorem prs_length (l : List Par) : (prs l).length = l.length := by simp [prs]
theorem prs_snoc (l : List Par) (p : Par) : prs l ++ [[.str p.name, .str p.value, .bool p.has]] = prs (l ++ [p]) := by simp [prs, parRow]
theorem prs_at {l : List Par} {i : Nat} {p : Par} (h : l[i]? = some p) : lat (prs l) i = some [.str p.name, .str p.value, .bool p.has] := by simp [lat, prs, h, parRow]
theorem bnd_prs {N : Nat} (o k) (l : List Par) : Bnd N (.sl o k (prs l)) := .sl _ _ _ fun r hr x hx => by
  obtain ⟨c, _, rfl⟩ := List.mem_map.1 hr
  simp [parRow] at hx
  rcases hx with rfl | rfl | rfl
  · exact .str _
  · exact .str _
  · exact .bool _
@[simp high] theorem bnd_prs' {N : Nat} (o k) (l : List Par) : Bnd N (.sl o k (prs l)) := bnd_prs o k l
def parAns (l : List UInt8) : List Par × Int × Int := match pars signB l with
  | some p => (p.1, (p.2 : Int), 0)
  | none => ([], 0, 15)
def valAns (l : List UInt8) : List UInt8 × Int × Bool := match pval signB l with
  | some p => (p.1, (p.2 : Int), true)
  | none => ([], 0, false)
theorem nilV_tup3 (k : Nat) (y z : AV) (h : y.free = true) (h2 : z.free = true) : nilV (.tup [.nil, y, z]) (.tup [.sl false k [], y, z]) :=
  .inr ⟨_, _, rfl, rfl, ⟨.inr ⟨rfl, false, k, rfl⟩, .inl rfl, .inl rfl, trivial⟩, by simp [h, h2]⟩
theorem pval_le {l x : List UInt8} {k : Nat} (h : pval signB l = some (x, k)) : 1 ≤ k ∧ k ≤ l.length ∧ x.length ≤ k := by
  unfold pval at h
  split at h
  · cases h
    have := run_le signB l
    rw [List.length_take]; omega
  · have := unquote_le h; omega
/-- Where a loop over parameters stands. -/
def parsIs (l : List UInt8) (out : List Par) (e : Nat) : Prop := pars signB l = (pars signB (l.drop e)).map fun p => (out ++ p.1, p.2 + e)
theorem parsIs_start (l : List UInt8) : parsIs l [] 0 := by unfold parsIs; cases h : pars signB l <;> simp [h]
section
variable {l : List UInt8} {out : List Par} {e b m n : Nat} (h : parsIs l out e) (hb : run blankB (l.drop e) = b)
include h hb
theorem parsIs_end (h0 : l[e + b]? ≠ some 59) : parAns l = (out, (e : Int), 0) := by
  unfold parsIs at h
  rw [pars_end signB (l.drop e) (by rw [hb, List.getElem?_drop]; exact h0)] at h
  unfold parAns; rw [h]; simp
variable (h0 : l[e + b]? = some 59) (hm : run blankB (l.drop (e + b + 1)) = m) (hn : run signB (l.drop (e + b + 1 + m)) = n)
include h0 hm hn
theorem pi_facts : (l.drop e)[b]? = some 59 ∧ run blankB ((l.drop e).drop (b + 1)) = m ∧ run signB ((l.drop e).drop (b + 1 + m)) = n := by
  refine ⟨by rw [List.getElem?_drop]; exact h0, by rw [List.drop_drop, ← Nat.add_assoc]; exact hm, by rw [List.drop_drop, ← Nat.add_assoc, ← Nat.add_assoc]; exact hn⟩
theorem parsIs_skip (hz : n = 0) : parsIs l out (e + b + 1) := by
  obtain ⟨f1, f2, f3⟩ := pi_facts h hb h0 hm hn
  unfold parsIs at h ⊢
  rw [h, pars_skip signB (l.drop e) b m n hb f1 f2 f3 hz, List.drop_drop, ← Nat.add_assoc]
  cases pars signB (l.drop (e + b + 1)) with
  | none => rfl
  | some p => simp; omega
theorem parsIs_plain (hz : n ≠ 0) (he : l[e + b + 1 + m + n]? ≠ some 61) : parsIs l (out ++ [⟨(l.drop (e + b + 1 + m)).take n, [], false⟩]) (e + b + 1 + m + n) := by
  obtain ⟨f1, f2, f3⟩ := pi_facts h hb h0 hm hn
  unfold parsIs at h ⊢
  have e1 : e + (b + 1 + m + n) = e + b + 1 + m + n := by omega
  have e2 : e + (b + 1 + m) = e + b + 1 + m := by omega
  rw [h, pars_plain signB (l.drop e) b m n hb f1 f2 f3 hz (by rw [List.getElem?_drop, e1]; exact he), List.drop_drop, List.drop_drop, e1, e2]
  cases pars signB (l.drop (e + b + 1 + m + n)) with
  | none => rfl
  | some p => simp; omega
theorem parsIs_bad (hz : n ≠ 0) (he : l[e + b + 1 + m + n]? = some 61) (hv : pval signB (l.drop (e + b + 1 + m + n + 1)) = none) : parAns l = ([], 0, 15) := by
  obtain ⟨f1, f2, f3⟩ := pi_facts h hb h0 hm hn
  unfold parsIs at h
  have e1 : e + (b + 1 + m + n) = e + b + 1 + m + n := by omega
  rw [pars_bad signB (l.drop e) b m n hb f1 f2 f3 hz (by rw [List.getElem?_drop, e1]; exact he) (by rw [List.drop_drop, show e + (b + 1 + m + n + 1) = e + b + 1 + m + n + 1 by omega]; exact hv)] at h
  unfold parAns; rw [h]; rfl
theorem parsIs_value (hz : n ≠ 0) (he : l[e + b + 1 + m + n]? = some 61) {x : List UInt8} {k : Nat} (hv : pval signB (l.drop (e + b + 1 + m + n + 1)) = some (x, k)) : parsIs l (out ++ [⟨(l.drop (e + b + 1 + m)).take n, x, true⟩]) (e + b + 1 + m + n + 1 + k) := by
  obtain ⟨f1, f2, f3⟩ := pi_facts h hb h0 hm hn
  unfold parsIs at h ⊢
  have e1 : e + (b + 1 + m + n) = e + b + 1 + m + n := by omega
  have e2 : e + (b + 1 + m) = e + b + 1 + m := by omega
  have e3 : e + (b + 1 + m + n + 1 + k) = e + b + 1 + m + n + 1 + k := by omega
  rw [h, pars_value signB (l.drop e) b m n hb f1 f2 f3 hz (by rw [List.getElem?_drop, e1]; exact he) (by rw [List.drop_drop, show e + (b + 1 + m + n + 1) = e + b + 1 + m + n + 1 by omega]; exact hv), List.drop_drop, List.drop_drop, e2, e3]
  cases pars signB (l.drop (e + b + 1 + m + n + 1 + k)) with
  | none => rfl
  | some p => simp; omega
end
section
variable (E : Env) (H : Hp) (Q : AV → Hp → Prop)
theorem isBlank_pc (b : UInt8) (hQ : Q (.bool (blankB b)) H) : PC Tryd.prog E 70 [.int .u8 (b.toNat : Int)] H Q := by
  refine pc_enter Tryd.func70 rfl [] [] (by kernel_rfl) (fun hB => ?_)
  have fin : ∀ c : Bool, blankB b = c → Q (.bool c) H := fun c hc => hc ▸ hQ
  by_cases h1 : b.toNat = 32
  · have t1 : ((b.toNat : Int) == 32) = true := by simp; omega
    simp [Tryd.ntmps70, Tryd.results70, List.replicate_succ, t1]
    exact aPost_same0 hB rfl (nilV_refl _) (by simp) (fin _ (by rw [blank_iff]; simp [h1]))
  · have t1 : ((b.toNat : Int) == 32) = false := by simp; omega
    by_cases h2 : b.toNat = 9
    · have t2 : ((b.toNat : Int) == 9) = true := by simp; omega
      simp [Tryd.ntmps70, Tryd.results70, List.replicate_succ, t1, t2]
      exact aPost_same0 hB rfl (nilV_refl _) (by simp) (fin _ (by rw [blank_iff]; simp [h2]))
    · have t2 : ((b.toNat : Int) == 9) = false := by simp; omega
      simp [Tryd.ntmps70, Tryd.results70, List.replicate_succ, t1, t2]
      exact aPost_same0 hB rfl (nilV_refl _) (by simp) (fin _ (by rw [blank_iff]; simp [h1, h2]))
def runInv (p : UInt8 → Bool) (l : List UInt8) (a : Nat) (fid : Nat) (H : Hp) (fr : List AV) (H' : Hp) : Prop := H' = H ∧ ∃ n : Nat, a + n ≤ l.length ∧ ((l.drop a).take n).all p = true ∧ ∃ x : Nat → AV, fr = [.str l, .int .i64 a, .fn fid [], x 3, x 4, x 5, x 6, .int .i64 n, x 8, x 9, x 10, x 11, x 12, x 13, x 14, x 15, x 16, x 17, x 18, x 19, x 20, x 21, x 22, x 23, x 24, x 25]
theorem run_pc (p : UInt8 → Bool) (fid : FuncId) (hp : ∀ (b : UInt8) (Q : AV → Hp → Prop), Q (.bool (p b)) H → PC Tryd.prog E fid [.int .u8 (b.toNat : Int)] H Q) (l : List UInt8) (a : Nat) (hl : l.length ≤ cap) (ha : a ≤ l.length)
    (hQ : Q (.int .i64 (run p (l.drop a) : Nat)) H) : PC Tryd.prog E 69 [.str l, .int .i64 a, .fn fid []] H Q := by
  simp only [cap] at hl
  refine pc_enter Tryd.func69 rfl [] [] (by kernel_rfl) (fun hB => ?_)
  have fin : ∀ n : Nat, run p (l.drop a) = n → Q (.int .i64 n) H := fun n hn => hn ▸ hQ
  simp [Tryd.ntmps69, Tryd.results69, List.replicate_succ]
  refine VL_go (runInv p l a fid H) (fun fr _ => l.length - (ai (aget fr 7)).toNat) ⟨rfl, 0, by omega, rfl, fr_intro (by simp)⟩ ?_
  rintro fr H' ⟨rfl, n, hn, hall, x, rfl⟩
  obtain ⟨i, hi⟩ : ∃ i, i = a + n := ⟨_, rfl⟩
  have hw0 : IntKind.i64.wrap ((a : Int) + n) = (i : Int) := by rw [wrap_in (by omega) (by omega)]; omega
  have hw : IntKind.i64.wrap ((n : Int) + 1) = n + 1 := wrap_in (by omega) (by omega)
  by_cases h : i < l.length
  · obtain ⟨b, hb⟩ : ∃ b, l[i]? = some b := ⟨_, List.getElem?_eq_getElem h⟩
    have hb2 : (l.drop a)[n]? = some b := by rw [List.getElem?_drop, ← hi]; exact hb
    have hat := lat_eq hb
    simp [hw0, h, hat]
    refine hp b _ ?_
    cases hf : p b
    · simp [hf]
      refine aPost_same0 hB rfl (nilV_refl _) (by simp) (fin n (run_step p _ n hall (by rw [List.length_drop]; omega) (fun c hc => ?_)))
      rw [hb2] at hc; cases hc; exact hf
    · simp [hf, hw]
      exact Kloop_normal ⟨rfl, n + 1, by omega, by rw [all_step p (l.drop a) n b hb2, hall, hf]; rfl, fr_intro (by simp)⟩ (by simp; omega)
  · simp [hw0, h]
    refine aPost_same0 hB rfl (nilV_refl _) (by simp) (fin n (run_step p _ n hall (by rw [List.length_drop]; omega) (fun c hc => ?_)))
    rw [List.getElem?_drop] at hc
    have := (List.getElem?_eq_some_iff.1 hc).1
    omega
theorem value_pc (hE : SE E) (l : List UInt8) (hl : l.length ≤ 8388608) (hQ : Q (.tup [.str (valAns l).1, .int .i64 (valAns l).2.1, .bool (valAns l).2.2]) H) : PC Tryd.prog E 72 [.str l] H Q := by
  refine pc_enter Tryd.func72 rfl [] [] (by kernel_rfl) (fun hB => ?_)
  simp [Tryd.ntmps72, Tryd.results72, List.replicate_succ]
  refine run_pc E _ _ signB _ (fun b Q hQ => isSign_pc E _ Q hE b hQ) l 0 (by simp only [cap]; omega) (by omega) ?_
  rw [List.drop_zero]
  obtain ⟨n, hn⟩ : ∃ n, run signB l = n := ⟨_, rfl⟩
  have hnl := run_le signB l
  rw [hn] at hnl ⊢
  by_cases h0 : 0 < n
  · have hv : valAns l = (l.take n, (n : Int), true) := by unfold valAns pval; rw [hn, if_pos h0]
    rw [hv] at hQ
    simp [h0, hnl]
    exact aPost_same0 hB rfl (nilV_refl _) (by simp) hQ
  · simp [h0]
    refine unquote_pc E _ _ l (by omega) ?_
    cases hu : unquote l with
    | none =>
      have ha : unqAns l = ([], 0, 13) := by unfold unqAns; rw [hu]
      have hv : valAns l = ([], 0, false) := by unfold valAns pval; rw [hn, if_neg h0, hu]
      rw [hv] at hQ
      simp [ha]
      exact aPost_same0 hB rfl (nilV_refl _) (by simp) hQ
    | some p =>
      have ha : unqAns l = (p.1, (p.2 : Int), 0) := by unfold unqAns; rw [hu]
      have hv : valAns l = (p.1, (p.2 : Int), true) := by unfold valAns pval; rw [hn, if_neg h0, hu]
      rw [hv] at hQ
      simp [ha]
      exact aPost_same0 hB rfl (nilV_refl _) (by simp) hQ
def parsInv (l : List UInt8) (H : Hp) (fr : List AV) (H' : Hp) : Prop := ∃ (J : Hp) (e : Nat) (out : List Par), H' = H ++ J ∧ e ≤ l.length ∧ out.length ≤ e ∧ parsIs l out e ∧ ∃ x : Nat → AV, fr = [.str l, x 1, x 2, x 3, x 4, .sl true 3 (prs out), .int .i64 e, x 7, x 8, x 9, x 10, x 11, x 12, x 13, x 14, x 15, x 16, x 17, x 18, x 19, x 20, x 21, x 22, x 23, x 24, x 25, x 26, x 27, x 28, x 29, x 30, x 31, x 32, x 33, x 34, x 35, x 36, x 37, x 38, x 39, x 40, x 41, x 42, x 43, x 44, x 45, x 46, x 47, x 48, x 49, x 50, x 51, x 52, x 53, x 54, x 55, x 56, x 57, x 58, x 59, x 60, x 61, x 62, x 63, x 64, x 65, x 66, x 67, x 68, x 69, x 70, x 71, x 72, x 73, x 74, x 75, x 76, x 77, x 78, x 79, x 80, x 81, x 82, x 83]
theorem params_pc (hE : SE E) (l : List UInt8) (hl : l.length ≤ 8388608) (hQ : Q (.tup [.sl false 3 (prs (parAns l).1), .int .i64 (parAns l).2.1, .int .i64 (parAns l).2.2]) H) : PC Tryd.prog E 43 [.str l] H Q := by
  refine pc_enter Tryd.func43 rfl [80] [] (by kernel_rfl) (fun hB => ?_)
  simp [Tryd.ntmps43, Tryd.results43, List.replicate_succ]
  refine VL_nil 5 3 (by rfl) ?_
  simp only [List.set_cons_succ, List.set_cons_zero]
  refine VL_go (parsInv l H) (fun fr _ => l.length - (ai (aget fr 6)).toNat) ⟨[], 0, [], by simp, by omega, by simp, parsIs_start l, fr_intro (by simp [prs])⟩ ?_
  rintro fr H' ⟨J, e, out, rfl, he, hout, hp, x, rfl⟩
  have hcap : l.length ≤ cap := by simp only [cap]; omega
  have hm : out.length + 1 ≤ maxLen ∧ (out.length + 1) * 40 ≤ 140737488355328 := by unfold maxLen; omega
  obtain ⟨H1, hH1⟩ : ∃ H1, H ++ J = H1 := ⟨_, rfl⟩
  simp
  refine run_pc E _ _ blankB _ (fun b Q hQ => isBlank_pc E _ Q b hQ) l e hcap he ?_
  obtain ⟨b, hb⟩ : ∃ n, run blankB (l.drop e) = n := ⟨_, rfl⟩
  have hbl := run_le blankB (l.drop e)
  rw [List.length_drop] at hbl
  rw [hb] at hbl ⊢
  obtain ⟨a, ha⟩ : ∃ a, a = e + b := ⟨_, rfl⟩
  have hw1 : IntKind.i64.wrap ((e : Int) + b) = (a : Int) := by rw [wrap_in (by omega) (by omega)]; omega
  have hcase : l[a]? = some 59 ∨ l[a]? ≠ some 59 := by
    by_cases h : l[a]? = some 59
    · exact .inl h
    · exact .inr h
  rcases hcase with h59 | h59
  · have halt := (List.getElem?_eq_some_iff.1 h59).1
    have t1 : ((a : Int) == (l.length : Int)) = false := by simp; omega
    have hat := lat_eq h59
    obtain ⟨a1, ha1⟩ : ∃ a1, a1 = a + 1 := ⟨_, rfl⟩
    have hw2 : IntKind.i64.wrap ((a : Int) + 1) = (a1 : Int) := by rw [wrap_in (by omega) (by omega)]; omega
    simp [hw1, t1, hat, hw2]
    refine run_pc E _ _ blankB _ (fun b Q hQ => isBlank_pc E _ Q b hQ) l a1 hcap (by omega) ?_
    obtain ⟨m, hmm⟩ : ∃ n, run blankB (l.drop a1) = n := ⟨_, rfl⟩
    have hml := run_le blankB (l.drop a1)
    rw [List.length_drop] at hml
    rw [hmm] at hml ⊢
    obtain ⟨a2, ha2⟩ : ∃ a2, a2 = a1 + m := ⟨_, rfl⟩
    have hw3 : IntKind.i64.wrap ((a1 : Int) + m) = (a2 : Int) := by rw [wrap_in (by omega) (by omega)]; omega
    simp [hw3]
    refine run_pc E _ _ signB _ (fun b Q hQ => isSign_pc E _ Q hE b hQ) l a2 hcap (by omega) ?_
    obtain ⟨n, hn⟩ : ∃ n, run signB (l.drop a2) = n := ⟨_, rfl⟩
    have hnl := run_le signB (l.drop a2)
    rw [List.length_drop] at hnl
    rw [hn] at hnl ⊢
    obtain ⟨a3, ha3⟩ : ∃ a3, a3 = a2 + n := ⟨_, rfl⟩
    have hw4 : IntKind.i64.wrap ((a2 : Int) + n) = (a3 : Int) := by rw [wrap_in (by omega) (by omega)]; omega
    have x0 : l[e + b]? = some 59 := by rw [← ha]; exact h59
    have x1 : run blankB (l.drop (e + b + 1)) = m := by rw [← ha, ← ha1]; exact hmm
    have x2 : run signB (l.drop (e + b + 1 + m)) = n := by rw [← ha, ← ha1, ← ha2]; exact hn
    have ee : e + b + 1 + m + n = a3 := by omega
    by_cases hz : n = 0
    · have hsk := parsIs_skip hp hb x0 x1 x2 hz
      rw [show e + b + 1 = a1 by omega] at hsk
      have t2 : ((n : Int) == 0) = true := by simp [hz]
      simp [hz]
      exact Kloop_normal ⟨J, a1, out, rfl, by omega, by omega, hsk, fr_intro (by simp)⟩ (by simp; omega)
    · have t0 : ((n : Int) == 0) = false := by simp; omega
      have hnm : (l.drop a2).take (a3 - a2) = (l.drop a2).take n := by rw [show a3 - a2 = n by omega]
      have hle1 : a2 ≤ a3 := by omega
      have hle2 : a3 ≤ l.length := by omega
      by_cases h61 : l[a3]? = some 61
      · have h3 := (List.getElem?_eq_some_iff.1 h61).1
        have hat2 := lat_eq h61
        obtain ⟨a4, ha4⟩ : ∃ a4, a4 = a3 + 1 := ⟨_, rfl⟩
        have hw5 : IntKind.i64.wrap ((a3 : Int) + 1) = (a4 : Int) := by rw [wrap_in (by omega) (by omega)]; omega
        have hd : (l.drop a4).take (l.length - a4) = l.drop a4 := List.take_of_length_le (by rw [List.length_drop]; omega)
        have ha4l : a4 ≤ l.length := by omega
        simp [t0, hw4, hle1, hle2, hnm, h3, hat2, hw5, ha4l, hd]
        refine value_pc E _ _ hE (l.drop a4) (by rw [List.length_drop]; omega) ?_
        cases hv : pval signB (l.drop a4) with
        | none =>
          have hva : valAns (l.drop a4) = ([], 0, false) := by unfold valAns; rw [hv]
          have hbad := parsIs_bad hp hb x0 x1 x2 hz (by rw [ee]; exact h61) (by rw [ee, ← ha4]; exact hv)
          rw [hbad] at hQ
          simp [hva]
          exact aPost_same hB rfl (nilV_tup3 3 _ _ rfl rfl) (by simp) hQ
        | some q =>
          obtain ⟨y, k⟩ := q
          have hva : valAns (l.drop a4) = (y, (k : Int), true) := by unfold valAns; rw [hv]
          have hk := pval_le hv
          rw [List.length_drop] at hk
          have hvv := parsIs_value hp hb x0 x1 x2 hz (by rw [ee]; exact h61) (x := y) (k := k) (by rw [ee, ← ha4]; exact hv)
          obtain ⟨a5, ha5⟩ : ∃ a5, a5 = a3 + 1 + k := ⟨_, rfl⟩
          have hw6 : IntKind.i64.wrap (1 + (k : Int)) = 1 + k := wrap_in (by omega) (by omega)
          have hw7 : IntKind.i64.wrap ((a3 : Int) + (1 + k)) = (a5 : Int) := by rw [wrap_in (by omega) (by omega)]; omega
          rw [show e + b + 1 + m = a2 by omega, show a2 + n + 1 + k = a5 by omega] at hvv
          simp [hva, hw6, hw7, hm]
          exact Kloop_normal ⟨J ++ [[.str ((l.drop a2).take n), .str y, .bool true]], a5, _, by simp, by omega, by simp; omega, hvv, fr_intro (by simp [prs, parRow])⟩ (by simp; omega)
      · have hpl := parsIs_plain hp hb x0 x1 x2 hz (by rw [ee]; exact h61)
        rw [show e + b + 1 + m = a2 by omega, show a2 + n = a3 by omega] at hpl
        have hcase : a3 = l.length ∨ (a3 < l.length ∧ ∃ c, l[a3]? = some c ∧ c.toNat ≠ 61) := by
          by_cases h : a3 < l.length
          · obtain ⟨c, hc⟩ : ∃ b, l[a3]? = some b := ⟨_, List.getElem?_eq_getElem h⟩
            exact .inr ⟨h, c, hc, fun hh => h61 (by rw [hc, UInt8.toNat_inj.1 (show c.toNat = (61 : UInt8).toNat from hh)])⟩
          · exact .inl (by omega)
        rcases hcase with hE3 | ⟨h, c, hc, hcn⟩
        · have hnl3 : ¬ a3 < l.length := by omega
          simp [t0, hw4, hle1, hle2, hnm, hnl3, hm]
          exact Kloop_normal ⟨J ++ [[.str ((l.drop a2).take n), .str [], .bool false]], a3, _, by simp, by omega, by simp; omega, hpl, fr_intro (by simp [prs, parRow])⟩ (by simp; omega)
        · have t2 : ((c.toNat : Int) == 61) = false := by simp; omega
          have hat2 := lat_eq hc
          simp [t0, hw4, hle1, hle2, hnm, h, hat2, t2, hm]
          exact Kloop_normal ⟨J ++ [[.str ((l.drop a2).take n), .str [], .bool false]], a3, _, by simp, by omega, by simp; omega, hpl, fr_intro (by simp [prs, parRow])⟩ (by simp; omega)
  · have hans := parsIs_end hp hb (by rw [← ha]; exact h59)
    rw [hans] at hQ
    have hcase : a = l.length ∨ (a < l.length ∧ ∃ c, l[a]? = some c ∧ c.toNat ≠ 59) := by
      by_cases h : a < l.length
      · obtain ⟨c, hc⟩ : ∃ b, l[a]? = some b := ⟨_, List.getElem?_eq_getElem h⟩
        exact .inr ⟨h, c, hc, fun hh => h59 (by rw [hc, UInt8.toNat_inj.1 (show c.toNat = (59 : UInt8).toNat from hh)])⟩
      · exact .inl (by omega)
    rcases hcase with rfl | ⟨h, c, hc, hcn⟩
    · have t1 : ((l.length : Int) == (l.length : Int)) = true := by simp
      simp [hw1]
      exact aPost_same hB rfl (nilV_refl _) (by simp) hQ
    · have t1 : ((a : Int) == (l.length : Int)) = false := by simp; omega
      have t2 : ((c.toNat : Int) != 59) = true := by simp; omega
      have hat := lat_eq hc
      simp [hw1, t1, hat, t2]
      exact aPost_same hB rfl (nilV_refl _) (by simp) hQ
end
end Go.Proofs.YtimhofphmgehgaaDoor
