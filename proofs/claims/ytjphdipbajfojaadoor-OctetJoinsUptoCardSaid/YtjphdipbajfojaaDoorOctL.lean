/- OctetLists, OctetSplit and OctetJoins answer true. -/
import Derived.Test.YtjphdipbajfojaaDoorOctE
import Derived.Test.YtjphdipbajfojaaDoorOctQ
set_option linter.unusedVariables false
set_option linter.unusedSimpArgs false
set_option maxRecDepth 100000
namespace Go.Proofs.YtjphdipbajfojaaDoor
open Go Go.RowKit

section
variable (E : Env) (H : Hp) (Q : AV → Hp → Prop)
def refListInv (l : List UInt8) (H : Hp) (fr : List AV) (H' : Hp) : Prop := H' = H ∧ ∃ (f i : Nat) (out : List (List UInt8)), ((f ≤ i ∧ i ≤ l.length ∧ out.length ≤ i ∧ cutIs l out f i) ∨ (i = l.length + 1 ∧ cut [] l = some out)) ∧ ∃ x : Nat → AV, fr = [.str l, x 1, x 2, x 3, .sl true 1 (strs (keepB out)), .int .i64 f, .int .i64 i, x 7, x 8, x 9, x 10, x 11, x 12, x 13, x 14, x 15, x 16, x 17, x 18, x 19, x 20, x 21, x 22, x 23, x 24, x 25, x 26, x 27, x 28, x 29, x 30, x 31, x 32, x 33, x 34, x 35, x 36, x 37, x 38, x 39, x 40, x 41, x 42, x 43, x 44, x 45, x 46, x 47, x 48, x 49, x 50, x 51, x 52, x 53, x 54, x 55, x 56, x 57, x 58, x 59, x 60]
theorem keepB_snoc (out : List (List UInt8)) (x : List UInt8) : keepB (out ++ [x]) = keepB out ++ (if (trimB x).isEmpty then [] else [trimB x]) := by
  rw [keepB_app]
  congr 1
  simp [keepB]
  cases (trimB x) <;> simp
theorem ref_list_pc (l : List UInt8) (hl : l.length ≤ 4194304) (hQ : Q (.tup [.sl false 1 (strs (listAns l).1), .int .i64 (listAns l).2]) H) : PC Tryd.prog E 44 [.str l] H Q := by
  refine pc_enter Tryd.func44 rfl [33] [] (by kernel_rfl) (fun hB => ?_)
  simp [Tryd.ntmps44, Tryd.results44, List.replicate_succ]
  refine VL_go (refListInv l H) (fun fr _ => l.length + 1 - (ai (aget fr 6)).toNat) ⟨rfl, 0, 0, [], .inl ⟨by omega, by omega, by simp, cutIs_start l⟩, fr_intro (by simp [strs, keepB])⟩ ?_
  rintro fr H' ⟨rfl, f, i, out, ⟨hf, hi, hout, hc⟩ | ⟨rfl, hc⟩, x, rfl⟩
  · have hkl := keepB_le out
    have hm : (keepB out).length + 1 ≤ maxLen ∧ ((keepB out).length + 1) * 16 ≤ 140737488355328 := by unfold maxLen; omega
    have hle : (i : Int) ≤ l.length := by omega
    have hw : IntKind.i64.wrap ((i : Int) + 1) = i + 1 := wrap_in (by omega) (by omega)
    have pl : ((l.drop f).take (i - f)).length ≤ cap := by rw [List.length_take, List.length_drop]; simp only [cap]; omega
    have hcase : i = l.length ∨ (i < l.length ∧ l[i]? = some 44) ∨ (i < l.length ∧ ∃ b, l[i]? = some b ∧ b ≠ 44) := by
      by_cases h : i < l.length
      · obtain ⟨b, hb⟩ : ∃ b, l[i]? = some b := ⟨_, List.getElem?_eq_getElem h⟩
        by_cases h44 : b = 44
        · exact .inr (.inl ⟨h, by rw [hb, h44]⟩)
        · exact .inr (.inr ⟨h, b, hb, h44⟩)
      · exact .inl (by omega)
    rcases hcase with rfl | ⟨h, hb⟩ | ⟨h, b, hb, ne44⟩
    · have hsl : (l.drop f).take (l.length - f) = l.drop f := List.take_of_length_le (by rw [List.length_drop]; omega)
      have hcut := cutIs_end hc hf (Nat.le_refl _)
      rw [hsl] at hcut pl
      have hst := keepB_snoc out (l.drop f)
      simp [hf, hsl]
      refine ref_trim_pc E _ _ _ pl ?_
      cases ht : (trimB (l.drop f)).isEmpty
      · have hne : (trimB (l.drop f) != []) = true := by rw [len_ne _ 0, ht]; rfl
        rw [ht] at hst
        simp [hne, hm, hw]
        exact Kloop_normal ⟨rfl, l.length + 1, l.length + 1, _, .inr ⟨rfl, hcut⟩, fr_intro (by rw [hst]; simp [strs])⟩ (by simp)
      · have hne : (trimB (l.drop f) != []) = false := by rw [len_ne _ 0, ht]; rfl
        rw [ht] at hst
        simp [hne, hw]
        exact Kloop_normal ⟨rfl, l.length + 1, l.length + 1, _, .inr ⟨rfl, hcut⟩, fr_intro (by rw [hst]; simp [strs])⟩ (by simp)
    · have t1 : ((i : Int) == (l.length : Int)) = false := by simp; omega
      have hat := lat_eq hb
      have hcm := cutIs_comma hc hf hb
      have hst := keepB_snoc out ((l.drop f).take (i - f))
      simp [hle, t1, hat, hf, hi]
      refine ref_trim_pc E _ _ _ pl ?_
      cases ht : (trimB ((l.drop f).take (i - f))).isEmpty
      · have hne : (trimB ((l.drop f).take (i - f)) != []) = true := by rw [len_ne _ 0, ht]; rfl
        rw [ht] at hst
        simp [hne, hm, hw]
        exact Kloop_normal ⟨rfl, i + 1, i + 1, _, .inl ⟨by omega, by omega, by simp; omega, hcm⟩, fr_intro (by rw [hst]; simp [strs])⟩ (by simp; omega)
      · have hne : (trimB ((l.drop f).take (i - f)) != []) = false := by rw [len_ne _ 0, ht]; rfl
        rw [ht] at hst
        simp [hne, hw]
        exact Kloop_normal ⟨rfl, i + 1, i + 1, _, .inl ⟨by omega, by omega, by simp; omega, hcm⟩, fr_intro (by rw [hst]; simp [strs])⟩ (by simp; omega)
    · have t1 : ((i : Int) == (l.length : Int)) = false := by simp; omega
      have hat := lat_eq hb
      have hbn := b.toNat_lt
      have t3 : ((b.toNat : Int) == 44) = false := by
        rw [beq_eq_false_iff_ne]; intro hh; exact ne44 (UInt8.toNat_inj.1 (by show b.toNat = 44; omega))
      by_cases b34 : b.toNat = 34
      · have hx34 : b = 34 := UInt8.toNat_inj.1 b34
        have hb' : l[i]? = some 34 := by rw [hb, hx34]
        have t2 : ((b.toNat : Int) == 34) = true := by simp; omega
        have hd : (l.drop i).take (l.length - i) = l.drop i := List.take_of_length_le (by rw [List.length_drop]; omega)
        simp [hle, t1, hat, t2, t3, hd, hi]
        refine ref_unquote_pc E _ _ (l.drop i) (by rw [List.length_drop]; omega) ?_
        cases hu : unquote (l.drop i) with
        | none =>
          have ha : unqAns (l.drop i) = ([], 0, 13) := by unfold unqAns; rw [hu]
          have hbad := listAns_bad (cutIs_bad hc hf hb' hu)
          rw [hbad] at hQ
          simp [ha]
          exact aPost_same0 hB rfl (nilV_refl _) (by simp) hQ
        | some p =>
          obtain ⟨y, k⟩ := p
          have ha : unqAns (l.drop i) = (y, (k : Int), 0) := by unfold unqAns; rw [hu]
          have hk := unquote_le hu
          rw [List.length_drop] at hk
          have hw2 : IntKind.i64.wrap ((i : Int) + k) = i + k := wrap_in (by omega) (by omega)
          simp [ha, hw2]
          exact Kloop_normal ⟨rfl, f, i + k, out, .inl ⟨by omega, by omega, by omega, cutIs_quote hc hf hb' hu⟩, fr_intro (by simp)⟩ (by simp; omega)
      · have t2 : ((b.toNat : Int) == 34) = false := by simp; omega
        have ne34 : b ≠ 34 := by rintro rfl; exact b34 rfl
        simp [hle, t1, hat, t2, t3, hw]
        exact Kloop_normal ⟨rfl, f, i + 1, out, .inl ⟨by omega, by omega, by omega, cutIs_plain hc hf hb ne44 ne34⟩, fr_intro (by simp)⟩ (by simp; omega)
  · have hgt : ¬ ((l.length : Int) + 1 ≤ l.length) := by omega
    have hans := listAns_ok hc
    rw [hans] at hQ
    simp [hgt]
    exact aPost_same0 hB rfl (nilV_refl _) (by simp) hQ
def refToksInv (ps : List (List UInt8)) (H : Hp) (fr : List AV) (H' : Hp) : Prop := H' = H ∧ ∃ i : Nat, i ≤ ps.length ∧ (ps.take i).all tokB = true ∧ ∃ x : Nat → AV, fr = [x 0, x 1, x 2, x 3, .sl false 1 (strs ps), x 5, .int .i64 i, x 7, x 8, x 9, x 10, x 11, x 12, x 13, x 14, x 15, x 16, x 17, x 18, x 19, x 20, x 21, x 22, x 23, x 24, x 25, x 26, x 27, x 28, x 29]
theorem ref_tokens_pc (l : List UInt8) (hl : l.length ≤ 4194304) (hQ : Q (.tup [.sl false 1 (strs (tokAns l).1), .int .i64 (tokAns l).2]) H) : PC Tryd.prog E 46 [.str l] H Q := by
  refine pc_enter Tryd.func46 rfl [] [] (by kernel_rfl) (fun hB => ?_)
  simp [Tryd.ntmps46, Tryd.results46, List.replicate_succ]
  refine ref_list_pc E _ _ l hl ?_
  have bad : ∀ e : Int, tokAns l = ([], e) → Q (.tup [.sl false 1 [], .int .i64 e]) H := fun e h => by rw [h] at hQ; exact hQ
  cases hb : listB l with
  | none =>
    have ha : listAns l = ([], 14) := by unfold listAns; rw [hb]
    have ht : tokAns l = ([], 14) := by unfold tokAns; rw [hb]
    simp [ha]
    exact aPost_same0 hB rfl (nilV_refl _) (by simp) (bad _ ht)
  | some ps =>
    have ha : listAns l = (ps, 0) := by unfold listAns; rw [hb]
    have hpl := listB_len hb
    simp [ha]
    refine VL_go (refToksInv ps H) (fun fr _ => ps.length - (ai (aget fr 6)).toNat) ⟨rfl, 0, by omega, rfl, fr_intro (by simp)⟩ ?_
    rintro fr H' ⟨rfl, i, hi, hall, x, rfl⟩
    by_cases h : i < ps.length
    · obtain ⟨p, hp⟩ : ∃ b, ps[i]? = some b := ⟨_, List.getElem?_eq_getElem h⟩
      have hat := strs_at hp
      have hw : IntKind.i64.wrap ((i : Int) + 1) = i + 1 := wrap_in (by omega) (by omega)
      have hpm := listB_mem hb p (List.mem_of_getElem? hp)
      simp [h, hat]
      refine ref_token_pc E _ _ p (by simp only [cap]; omega) ?_
      cases hf : tokB p
      · have ht : tokAns l = ([], 10) := by unfold tokAns; rw [hb]; simp only [all_stop tokB ps i p hp hf]; rfl
        simp [hf]
        exact aPost_same0 hB rfl (nilV_refl _) (by simp) (bad _ ht)
      · simp [hf, hw]
        exact Kloop_normal ⟨rfl, i + 1, by omega, by rw [all_step tokB ps i p hp, hall, hf]; rfl, fr_intro (by simp)⟩ (by simp; omega)
    · rw [List.take_of_length_le (by omega)] at hall
      have ht : tokAns l = (ps, 0) := by unfold tokAns; rw [hb]; simp only [hall]; rfl
      rw [ht] at hQ
      simp [h]
      exact aPost_same0 hB rfl (nilV_refl _) (by simp) hQ

theorem lists_pc (hE : SE E) (l : List UInt8) (hl : l.length ≤ 1048576) (hQ : Q (.bool true) H) : PC Tryd.prog E 12 [.str l] H Q := by
  have h1 := listAns_len l
  have h2 : (tokAns l).1.length ≤ l.length + 1 := by
    unfold tokAns
    cases hb : listB l with
    | none => simp
    | some ps => simp only; split; exact listB_len hb; simp
  refine pc_enter Tryd.func12 rfl [] [] (by kernel_rfl) (fun hB => ?_)
  simp [Tryd.ntmps12, Tryd.results12, List.replicate_succ]
  refine list_pc E _ _ l (by omega) ?_
  simp
  refine ref_list_pc E _ _ l (by omega) ?_
  simp
  refine tokens_pc E _ _ hE l (by omega) ?_
  simp
  refine ref_tokens_pc E _ _ l (by omega) ?_
  simp
  refine awake_pc E _ _ hE ?_
  simp
  refine same_pc E _ _ _ _ (by simp only [cap]; omega) ?_
  simp
  refine same_pc E _ _ _ _ (by simp only [cap]; omega) ?_
  simp
  exact aPost_same0 hB rfl (nilV_refl _) (by simp) hQ
theorem split_pc (hE : SE E) (a b : List UInt8) (ha : a.length ≤ 1048576) (hb : b.length ≤ 1048576) (hQ : Q (.bool true) H) : PC Tryd.prog E 11 [.str a, .str b] H Q := by
  refine pc_enter Tryd.func11 rfl [59, 61] [] (by kernel_rfl) (fun hB => ?_)
  simp [Tryd.ntmps11, Tryd.results11, List.replicate_succ]
  refine list_pc E _ _ a (by omega) ?_
  simp
  refine list_pc E _ _ b (by omega) ?_
  have hm : a.length + 1 ≤ maxLen ∧ a.length + (b.length + 1) ≤ maxLen ∧ a.length + 1 + b.length ≤ maxLen := by unfold maxLen; omega
  cases hx : listB a with
  | none =>
    have e1 : listAns a = ([], 14) := by unfold listAns; rw [hx]
    cases hy : listB b with
    | none =>
      have e2 : listAns b = ([], 14) := by unfold listAns; rw [hy]
      simp [e1, e2]
      refine awake_pc E _ _ hE ?_
      simp
      exact aPost_same0 hB rfl (nilV_refl _) (by simp) hQ
    | some y =>
      have e2 : listAns b = (y, 0) := by unfold listAns; rw [hy]
      simp [e1, e2]
      refine awake_pc E _ _ hE ?_
      simp
      exact aPost_same0 hB rfl (nilV_refl _) (by simp) hQ
  | some x =>
    have e1 : listAns a = (x, 0) := by unfold listAns; rw [hx]
    cases hy : listB b with
    | none =>
      have e2 : listAns b = ([], 14) := by unfold listAns; rw [hy]
      simp [e1, e2]
      refine awake_pc E _ _ hE ?_
      simp
      exact aPost_same0 hB rfl (nilV_refl _) (by simp) hQ
    | some y =>
      have e2 : listAns b = (y, 0) := by unfold listAns; rw [hy]
      have e3 : listAns (a ++ 44 :: b) = (x ++ y, 0) := by unfold listAns; rw [listB_app a b x hx, hy]; rfl
      have l1 := listB_len hx
      have l2 := listB_len hy
      have hn1 : x.length ≤ maxLen ∧ x.length * 16 ≤ 140737488355328 := by unfold maxLen; omega
      have hn2 : x.length + y.length ≤ maxLen ∧ (x.length + y.length) * 16 ≤ 140737488355328 := by unfold maxLen; omega
      simp [e1, e2, hm]
      refine list_pc E _ _ (a ++ 44 :: b) (by simp; omega) ?_
      simp [e3]
      refine awake_pc E _ _ hE ?_
      simp [hn1, hn2]
      rw [← strs_app]
      refine same_pc E _ _ _ _ (by simp only [cap]; simp; omega) ?_
      simp
      exact aPost_same0 hB rfl (nilV_refl _) (by simp) hQ
end
theorem lists_true (W : World) (s : ByteArray) (hs : s.size ≤ 1048576) (hS : Signs W) : Calls Tryd.prog 12 #[.string s] W fun e w' => e = .returned (.bool true) ∧ Frm (fun _ => False) W w' := by
  refine calls_of_pcF (args := [.str s.data.toList]) (fun b => b = 0) (law_fix W hS) (old W) (fun _ _ h => h) rfl (fun t x u hx hu => ?_) (fun E Q e1 e2 h => lists_pc E [] Q ⟨by rw [e2], by rw [e1]; exact hS⟩ _ (by rw [size_toList]; exact hs) h)
  match t with
  | 0 => simp at hx hu; subst hx; subst hu; exact ⟨rel_string _ (by unfold maxLen; omega), .str _, rfl⟩
  | t + 1 => simp at hx
theorem split_true (W : World) (s b : ByteArray) (hs : s.size ≤ 1048576) (hb : b.size ≤ 1048576) (hS : Signs W) : Calls Tryd.prog 11 #[.string s, .string b] W fun e w' => e = .returned (.bool true) ∧ Frm (fun _ => False) W w' := by
  refine calls_of_pcF (args := [.str s.data.toList, .str b.data.toList]) (fun b => b = 0) (law_fix W hS) (old W) (fun _ _ h => h) rfl (fun t x u hx hu => ?_) (fun E Q e1 e2 h => split_pc E [] Q ⟨by rw [e2], by rw [e1]; exact hS⟩ _ _ (by rw [size_toList]; exact hs) (by rw [size_toList]; exact hb) h)
  match t with
  | 0 => simp at hx hu; subst hx; subst hu; exact ⟨rel_string _ (by unfold maxLen; omega), .str _, rfl⟩
  | 1 => simp at hx hu; subst hx; subst hu; exact ⟨rel_string _ (by unfold maxLen; omega), .str _, rfl⟩
  | t + 2 => simp at hx
/-! ### Joins -/
def tot (ls : List (List UInt8)) : Nat := ls.flatten.length
theorem join_le (ls : List (List UInt8)) : (Lib.join ls [44, 32]).length ≤ tot ls + 2 * ls.length := by
  induction ls with
  | nil => simp [Lib.join_nil, tot]
  | cons a r ih =>
    cases r with
    | nil => rw [Lib.join_one]; simp [tot]
    | cons b r =>
      have e : Lib.join (a :: b :: r) [44, 32] = a ++ 44 :: 32 :: Lib.join (b :: r) [44, 32] := by simp [Lib.join, List.intercalate, List.intersperse]
      rw [e]
      simp only [tot, List.flatten_cons, List.length_append, List.length_cons] at ih ⊢
      omega
theorem tot_take (ls : List (List UInt8)) (i : Nat) : tot (ls.take i) ≤ tot ls := by
  have e : tot ls = tot (ls.take i) + tot (ls.drop i) := by
    unfold tot
    rw [← List.length_append, ← List.flatten_append, List.take_append_drop]
  omega
theorem tot_mem {ls : List (List UInt8)} {x : List UInt8} (h : x ∈ ls) : x.length ≤ tot ls := by
  obtain ⟨i, hi⟩ := List.getElem?_of_mem h
  have e : tot (ls.take (i + 1)) = tot (ls.take i) + x.length := by
    unfold tot
    rw [List.take_add_one, hi, List.flatten_append, List.length_append]; simp
  have := tot_take ls (i + 1)
  omega
section
variable (E : Env) (H : Hp) (Q : AV → Hp → Prop)
def refJoinInv (ls : List (List UInt8)) (H : Hp) (fr : List AV) (H' : Hp) : Prop := H' = H ∧ ∃ i : Nat, i ≤ ls.length ∧ ∃ x : Nat → AV, fr = [.sl false 1 (strs ls), x 1, x 2, .sl true 1 (bts (Lib.join (ls.take i) [44, 32])), .int .i64 i, x 5, x 6, x 7, x 8, x 9, x 10, x 11, x 12, x 13, x 14, x 15, x 16, x 17, x 18, x 19, x 20, x 21, x 22, x 23]
theorem ref_join_pc (ls : List (List UInt8)) (hl : tot ls + ls.length ≤ 1048576) (hQ : Q (.str (Lib.join ls [44, 32])) H) : PC Tryd.prog E 48 [.sl false 1 (strs ls)] H Q := by
  refine pc_enter Tryd.func48 rfl [14, 16] [] (by kernel_rfl) (fun hB => ?_)
  simp [Tryd.ntmps48, Tryd.results48, List.replicate_succ]
  refine VL_go (refJoinInv ls H) (fun fr _ => ls.length - (ai (aget fr 4)).toNat) ⟨rfl, 0, by omega, fr_intro (by simp [bts, Lib.join_nil])⟩ ?_
  rintro fr H' ⟨rfl, i, hi, x, rfl⟩
  obtain ⟨out, hout⟩ : ∃ out, Lib.join (ls.take i) [44, 32] = out := ⟨_, rfl⟩
  have hlen : out.length ≤ 3 * 1048576 := by
    rw [← hout]
    have := join_le (ls.take i)
    have := tot_take ls i
    rw [List.length_take] at *
    omega
  rw [hout]
  by_cases h : i < ls.length
  · obtain ⟨p, hp⟩ : ∃ b, ls[i]? = some b := ⟨_, List.getElem?_eq_getElem h⟩
    have hat := strs_at hp
    have hw : IntKind.i64.wrap ((i : Int) + 1) = i + 1 := wrap_in (by omega) (by omega)
    have hpl := tot_mem (List.mem_of_getElem? hp)
    have hst := join_snoc ls i p hp
    rw [hout] at hst
    have hm1 : out.length + 2 ≤ maxLen ∧ out.length + 2 ≤ 140737488355328 := by unfold maxLen; omega
    have hm2 : out.length + p.length ≤ maxLen ∧ out.length + p.length ≤ 140737488355328 := by unfold maxLen; omega
    have hm3 : out.length + 1 + 1 + p.length ≤ maxLen ∧ out.length + 1 + 1 + p.length ≤ 140737488355328 ∧ out.length + 2 + p.length ≤ maxLen ∧ out.length + 2 + p.length ≤ 140737488355328 ∧ out.length + (p.length + 2) ≤ maxLen := by unfold maxLen; omega
    by_cases hz : i = 0
    · subst hz
      rw [if_pos rfl, List.append_nil] at hst
      have hw1 : IntKind.i64.wrap 1 = 1 := wrap_in (by omega) (by omega)
      simp [h, hat, hm2, hw1, bts_app]
      exact Kloop_normal ⟨rfl, 0 + 1, by omega, fr_intro (by rw [hst]; simp)⟩ (by simp; omega)
    · rw [if_neg hz] at hst
      have hgt : 0 < i := by omega
      simp [h, hat, hm1, hm3, hw, hgt]
      exact Kloop_normal ⟨rfl, i + 1, by omega, fr_intro (by rw [hst]; simp [bts])⟩ (by simp; omega)
  · have ha : ls.take i = ls := List.take_of_length_le (by omega)
    rw [ha] at hout
    simp [h]
    rw [← hout]
    exact aPost_same0 hB rfl (nilV_refl _) (by simp) hQ
def joinsInv (ls : List (List UInt8)) (H : Hp) (fr : List AV) (H' : Hp) : Prop := H' = H ∧ ∃ i : Nat, i ≤ ls.length ∧ (∀ x ∈ ls.take i, listB x = some [x]) ∧ ∃ x : Nat → AV, fr = [.sl false 1 (strs ls), x 1, x 2, .str (Lib.join ls [44, 32]), .int .i64 i, x 5, x 6, x 7, x 8, x 9, x 10, x 11, x 12, x 13, x 14, x 15, x 16, x 17, x 18, x 19, x 20, x 21, x 22, x 23, x 24, x 25, x 26, x 27, x 28, x 29, x 30, x 31, x 32, x 33, x 34, x 35, x 36, x 37, x 38, x 39, x 40, x 41, x 42, x 43, x 44, x 45, x 46, x 47, x 48, x 49, x 50, x 51, x 52, x 53, x 54, x 55, x 56]
theorem joins_pc (hE : SE E) (ls : List (List UInt8)) (hl : tot ls + ls.length ≤ 1048576) (hQ : Q (.bool true) H) : PC Tryd.prog E 13 [.sl false 1 (strs ls)] H Q := by
  have hjl := join_le ls
  refine pc_enter Tryd.func13 rfl [] [] (by kernel_rfl) (fun hB => ?_)
  simp [Tryd.ntmps13, Tryd.results13, List.replicate_succ]
  refine join_pc E _ _ false ls (by simp only [cap]; omega) (by simp only [cap]; omega) rfl ?_
  simp
  refine awake_pc E _ _ hE ?_
  simp
  refine ref_join_pc E _ _ ls hl ?_
  simp
  refine VL_go (joinsInv ls H) (fun fr _ => ls.length - (ai (aget fr 4)).toNat) ⟨rfl, 0, by omega, by simp, fr_intro (by simp)⟩ ?_
  rintro fr H' ⟨rfl, i, hi, hall, x, rfl⟩
  by_cases h : i < ls.length
  · obtain ⟨p, hp⟩ : ∃ b, ls[i]? = some b := ⟨_, List.getElem?_eq_getElem h⟩
    have hat := strs_at hp
    have hw : IntKind.i64.wrap ((i : Int) + 1) = i + 1 := wrap_in (by omega) (by omega)
    have hpl := tot_mem (List.mem_of_getElem? hp)
    simp [h, hat]
    refine ref_list_pc E _ _ p (by omega) ?_
    cases hb : listB p with
    | none =>
      have ha : listAns p = ([], 14) := by unfold listAns; rw [hb]
      simp [ha]
      exact aPost_same0 hB rfl (nilV_refl _) (by simp) hQ
    | some y =>
      have ha : listAns p = (y, 0) := by unfold listAns; rw [hb]
      have hyl := listB_len hb
      simp [ha, hat, h]
      have e1 : [[AV.str p]] = strs [p] := rfl
      rw [e1]
      refine same_pc E _ _ _ _ (by simp only [cap]; omega) ?_
      by_cases hy : y = [p]
      · simp [hy, hw]
        refine Kloop_normal ⟨rfl, i + 1, by omega, fun z hz => ?_, fr_intro (by simp)⟩ (by simp; omega)
        rw [List.take_add_one, hp] at hz
        rcases List.mem_append.1 hz with hz | hz
        · exact hall z hz
        · simp at hz; subst hz; rw [hb, hy]
      · simp [hy]
        exact aPost_same0 hB rfl (nilV_refl _) (by simp) hQ
  · rw [List.take_of_length_le (by omega)] at hall
    have hj := listB_join ls hall
    have ha : listAns (Lib.join ls [44, 32]) = (ls, 0) := by unfold listAns; rw [hj]
    simp [h]
    refine list_pc E _ _ _ (by omega) ?_
    simp [ha]
    refine same_pc E _ _ _ _ (by simp only [cap]; omega) ?_
    simp
    exact aPost_same0 hB rfl (nilV_refl _) (by simp) hQ
end
theorem strs_of_rows : ∀ (rows : List (List AV)), (∀ r ∈ rows, r.length = 1 ∧ ∀ (j : Nat) k y, [CK.str][j]? = some k → r[j]? = some y → KindOf k y) → ∃ ls, rows = strs ls ∧ tot ls ≤ wtA rows.flatten
  | [], _ => ⟨[], rfl, by simp [tot]⟩
  | r :: rows, h => by
    obtain ⟨ls, rfl, hw⟩ := strs_of_rows rows (fun q hq => h q (List.mem_cons_of_mem _ hq))
    obtain ⟨h1, h2⟩ := h r (List.mem_cons_self ..)
    match r, h1 with
    | [a], _ =>
      have ha := h2 0 _ _ rfl rfl
      cases a <;> simp [KindOf] at ha
      rename_i z _
      refine ⟨z :: ls, rfl, ?_⟩
      rw [List.flatten_cons, wtA_app]
      simp [tot, wtA] at hw ⊢
      omega
theorem joins_true (W : World) (bo : Option Addr) (len cap : Nat) (rows : List (List AV)) (hr : Rel W (fun _ => 0) (old W) (.sl false 1 rows) (.slice bo len cap)) (hn : Bnd 0 (.sl false 1 rows))
    (hk : ∀ r ∈ rows, r.length = 1 ∧ ∀ (j : Nat) k y, [CK.str][j]? = some k → r[j]? = some y → KindOf k y) (e : rows.length = len) (hb : wtA rows.flatten + len ≤ 1048576) (hS : Signs W) :
    Calls Tryd.prog 13 #[.slice bo len cap] W fun e w' => e = .returned (.bool true) ∧ Frm (fun _ => False) W w' := by
  obtain ⟨ls, rfl, hw⟩ := strs_of_rows rows hk
  refine calls_of_pcF (args := [.sl false 1 (strs ls)]) (fun b => b = 0) (law_fix W hS) (old W) (fun _ _ h => h) rfl (fun t x u hx hu => ?_) (fun E Q e1 e2 h => joins_pc E [] Q ⟨by rw [e2], by rw [e1]; exact hS⟩ ls (by simp at e; omega) h)
  match t with
  | 0 => simp at hx hu; subst hx; subst hu; exact ⟨hr, hn, rfl⟩
  | t + 1 => simp at hx
end Go.Proofs.YtjphdipbajfojaaDoor
