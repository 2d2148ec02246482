/- Part 9 of the texts below the law: the abstract machine, the functions that it walks, what they compute. -/
import Derived.Test.YtnnhdehmlkkfjaaGreatDoorPa8
import Derived.Shelf.Vars
import Derived.Test.YtnnhdehmlkkfjaaGreatDoorCards
import Derived.Test.YtnnhdehmlkkfjaaGreatDoorTie
import Derived.Deep.DeepHandedRow
import Derived.Lib.LaidTab
import Derived.ChangeMaps5
import Derived.Lay
import Derived.Stop.LaidErr
import Derived.JoinedCond
set_option linter.unusedVariables false
set_option linter.unusedSimpArgs false
set_option linter.unusedSectionVars false
set_option maxRecDepth 100000
namespace Go.Proofs.YtnnhdehmlkkfjaaGreatDoor
open Go Go.RowKit

theorem good_dig {k : Nat} {c : UInt8} (h : goodL k c = true) (hk : k = 5 ∨ k = 7) : 48 ≤ c.toNat ∧ c.toNat ≤ 57 := by
  unfold goodL at h
  rw [if_neg (by omega), if_pos hk] at h
  simpa using h
theorem u8w (c : UInt8) (h : 48 ≤ c.toNat ∧ c.toNat ≤ 57) : IntKind.u8.wrap ((c.toNat : Int) - 48) = c.toNat - 48 := by rw [IntKind.wrap_u8]; omega
section
variable (E : Env) {b : Nat}
set_option maxHeartbeats 8000000 in
theorem line_px (hE : PE E) (K : Hp) (j : Nat) (p : Prs) (c : UInt8) (n : Nat) (Q : AV → Hp → Prop) (R : Value → Hp → Prop) (hf : fitP n p) (hn : n < 4194304) (hnx : p.nx = some .line) (hp : PB K b j p)
  (hG : ∀ p1 nx j1 K1, vlineS p c = .go p1 nx → PB K1 b j1 p1 → (p1.dec.isSome = true → (p.dec.isSome = true ∧ j1 = j) ∨ K.length ≤ j1) → OthP K K1 b j p.dec.isSome → BndH K1.length K1 → Q (nxV b nx) K1)
  (hR : ∀ p1 st err at_ j1 K1, vlineS p c = .bad p1 st err at_ → PB K1 b j1 p1 → (p1.dec.isSome = true → (p.dec.isSome = true ∧ j1 = j) ∨ K.length ≤ j1) → OthP K K1 b j p.dec.isSome → BndH K1.length K1 → R (faultV st err at_) K1) :
  PX Tryz.prog E 119 [.ptr (some (b, 0)), .int .u8 (c.toNat : Int)] K Q R := by
  refine px_enterR R (fun _ => False) Tryz.func119 rfl [60] [(15, [0, 3]), (22, [0, 3]), (23, [0, 0, 0, 0, 0, 0, 0, 0, 0, 0, 4]), (25, [0, 0, 3])] (by kernel_rfl) (fun E' hpan hS' h0 hF hB => ?_)
  have hE' := hE.env h0 hF
  have hrow := hp.row
  have hlt := hp.lt
  have ha := hf.a
  have hu := hf.used
  have hln := hf.ln hnx
  simp [Prs.av] at hrow
  obtain ⟨N, hN⟩ : ∃ N, p.text.length = N := ⟨_, rfl⟩
  have m1 : p.text.length ≤ 140737488355327 := by omega
  have m3 : p.text.length ≤ maxLen := by unfold maxLen; omega
  have m4 : p.text.length + 1 ≤ maxLen := by unfold maxLen; omega
  rw [hN] at m1 m3 m4
  have bad : goodL N c = false → R (faultV 400 111 p.used) K := fun h => hR p _ _ _ j K (by unfold vlineS; rw [hN, if_pos h]; rfl) hp (fun h => .inl ⟨h, rfl⟩) (OthP.refl ..) hB
  have more : goodL N c = true → N < 9 → Q (nxV b (some .line)) (K.set b (({ p with text := p.text ++ [c] } : Prs).av b j)) := fun h h9 =>
    hG { p with text := p.text ++ [c] } (some .line) j _ (by unfold vlineS; rw [hN, if_neg (by rw [h]; simp), if_pos h9]) (hp.put (p1 := { p with text := p.text ++ [c] }) rfl) (fun h => .inl ⟨h, rfl⟩) (OthP.put ..) (bndH_set hB b (hp.bnd (p1 := { p with text := p.text ++ [c] }) rfl))
  have hc0 := c.toNat_lt
  rcases (by omega : N < 5 ∨ (N = 5 ∨ N = 7) ∨ N = 6 ∨ N = 8 ∨ N = 9 ∨ 9 < N) with hC | hC | hC | hC | hC | hC
  · obtain ⟨x, hx⟩ : ∃ x, ([72, 84, 84, 80, 47] : List UInt8)[N]? = some x := ⟨_, List.getElem?_eq_getElem (by simpa using hC)⟩
    have la := lat_eq hx
    have g1 : (N : Int) < 5 := by omega
    have g9 : (N : Int) < 9 := by omega
    by_cases hcx : c = x
    · have hgg : goodL N c = true := by unfold goodL; rw [if_pos hC, hx, hcx]; simp
      rw [← hcx] at la
      rcases (by omega : c.toNat < 48 ∨ (48 ≤ c.toNat ∧ c.toNat ≤ 57) ∨ 57 < c.toNat) with hr | hr | hr
      · have d1 : ¬ (48 : Int) ≤ c.toNat := by omega
        have d2 : (c.toNat : Int) ≤ 57 := by omega
        simp [Tryz.ntmps119, Tryz.results119, List.replicate_succ, hrow, hN, d1, d2, m1, m3, m4, hs0 hlt, hs1 hlt, hs2 hlt, hs3 hlt, hs4 hlt, hs5 hlt, bts_snoc', g1, g9, la]
        exact aPost_setN hB hlt (row_refl b j { p with text := p.text ++ [c] }) rfl (hp.bnd (p1 := { p with text := p.text ++ [c] }) rfl) (nxV_bnd hlt (some .line)) (more hgg (by omega))
      · have d1 : (48 : Int) ≤ c.toNat := by omega
        have d2 : (c.toNat : Int) ≤ 57 := by omega
        simp [Tryz.ntmps119, Tryz.results119, List.replicate_succ, hrow, hN, d1, d2, m1, m3, m4, hs0 hlt, hs1 hlt, hs2 hlt, hs3 hlt, hs4 hlt, hs5 hlt, bts_snoc', g1, g9, la]
        exact aPost_setN hB hlt (row_refl b j { p with text := p.text ++ [c] }) rfl (hp.bnd (p1 := { p with text := p.text ++ [c] }) rfl) (nxV_bnd hlt (some .line)) (more hgg (by omega))
      · have d1 : (48 : Int) ≤ c.toNat := by omega
        have d2 : ¬ (c.toNat : Int) ≤ 57 := by omega
        simp [Tryz.ntmps119, Tryz.results119, List.replicate_succ, hrow, hN, d1, d2, m1, m3, m4, hs0 hlt, hs1 hlt, hs2 hlt, hs3 hlt, hs4 hlt, hs5 hlt, bts_snoc', g1, g9, la]
        exact aPost_setN hB hlt (row_refl b j { p with text := p.text ++ [c] }) rfl (hp.bnd (p1 := { p with text := p.text ++ [c] }) rfl) (nxV_bnd hlt (some .line)) (more hgg (by omega))
    · have hgb : goodL N c = false := by unfold goodL; rw [if_pos hC, hx]; simpa using fun e => hcx e.symm
      have hcx2 : ((c.toNat : Int) == (x.toNat : Int)) = false := by rw [beq_eq_false_iff_ne]; intro e; exact hcx (UInt8.toNat_inj.1 (by omega))
      rcases (by omega : c.toNat < 48 ∨ (48 ≤ c.toNat ∧ c.toNat ≤ 57) ∨ 57 < c.toNat) with hr | hr | hr
      · have d1 : ¬ (48 : Int) ≤ c.toNat := by omega
        have d2 : (c.toNat : Int) ≤ 57 := by omega
        simp [Tryz.ntmps119, Tryz.results119, List.replicate_succ, hrow, hN, d1, d2, g1, la, hcx2]
        refine wrong_px E' hp _ _ ?_
        rw [hpan]
        exact bad hgb
      · have d1 : (48 : Int) ≤ c.toNat := by omega
        have d2 : (c.toNat : Int) ≤ 57 := by omega
        simp [Tryz.ntmps119, Tryz.results119, List.replicate_succ, hrow, hN, d1, d2, g1, la, hcx2]
        refine wrong_px E' hp _ _ ?_
        rw [hpan]
        exact bad hgb
      · have d1 : (48 : Int) ≤ c.toNat := by omega
        have d2 : ¬ (c.toNat : Int) ≤ 57 := by omega
        simp [Tryz.ntmps119, Tryz.results119, List.replicate_succ, hrow, hN, d1, d2, g1, la, hcx2]
        refine wrong_px E' hp _ _ ?_
        rw [hpan]
        exact bad hgb
  · have g1 : ¬ (N : Int) < 5 := by omega
    have g9 : (N : Int) < 9 := by omega
    rcases hC with hC | hC
    · have hNv : (N : Int) = 5 := by omega
      rcases (by omega : c.toNat < 48 ∨ (48 ≤ c.toNat ∧ c.toNat ≤ 57) ∨ 57 < c.toNat) with hr | hr | hr
      · have d1 : ¬ (48 : Int) ≤ c.toNat := by omega
        have d2 : (c.toNat : Int) ≤ 57 := by omega
        have hgb : goodL N c = false := by unfold goodL; rw [if_neg (by omega), if_pos (by omega)]; simp; omega
        simp [Tryz.ntmps119, Tryz.results119, List.replicate_succ, hrow, hN, d1, d2, hNv]
        refine wrong_px E' hp _ _ ?_
        rw [hpan]
        exact bad hgb
      · have d1 : (48 : Int) ≤ c.toNat := by omega
        have d2 : (c.toNat : Int) ≤ 57 := by omega
        have hgg : goodL N c = true := by unfold goodL; rw [if_neg (by omega), if_pos (by omega)]; simpa using hr
        simp [Tryz.ntmps119, Tryz.results119, List.replicate_succ, hrow, hN, d1, d2, m1, m3, m4, hs0 hlt, hs1 hlt, hs2 hlt, hs3 hlt, hs4 hlt, hs5 hlt, bts_snoc', hNv]
        exact aPost_setN hB hlt (row_refl b j { p with text := p.text ++ [c] }) rfl (hp.bnd (p1 := { p with text := p.text ++ [c] }) rfl) (nxV_bnd hlt (some .line)) (more hgg (by omega))
      · have d1 : (48 : Int) ≤ c.toNat := by omega
        have d2 : ¬ (c.toNat : Int) ≤ 57 := by omega
        have hgb : goodL N c = false := by unfold goodL; rw [if_neg (by omega), if_pos (by omega)]; simp; omega
        simp [Tryz.ntmps119, Tryz.results119, List.replicate_succ, hrow, hN, d1, d2, hNv]
        refine wrong_px E' hp _ _ ?_
        rw [hpan]
        exact bad hgb
    · have hNv : (N : Int) = 7 := by omega
      rcases (by omega : c.toNat < 48 ∨ (48 ≤ c.toNat ∧ c.toNat ≤ 57) ∨ 57 < c.toNat) with hr | hr | hr
      · have d1 : ¬ (48 : Int) ≤ c.toNat := by omega
        have d2 : (c.toNat : Int) ≤ 57 := by omega
        have hgb : goodL N c = false := by unfold goodL; rw [if_neg (by omega), if_pos (by omega)]; simp; omega
        simp [Tryz.ntmps119, Tryz.results119, List.replicate_succ, hrow, hN, d1, d2, hNv]
        refine wrong_px E' hp _ _ ?_
        rw [hpan]
        exact bad hgb
      · have d1 : (48 : Int) ≤ c.toNat := by omega
        have d2 : (c.toNat : Int) ≤ 57 := by omega
        have hgg : goodL N c = true := by unfold goodL; rw [if_neg (by omega), if_pos (by omega)]; simpa using hr
        simp [Tryz.ntmps119, Tryz.results119, List.replicate_succ, hrow, hN, d1, d2, m1, m3, m4, hs0 hlt, hs1 hlt, hs2 hlt, hs3 hlt, hs4 hlt, hs5 hlt, bts_snoc', hNv]
        exact aPost_setN hB hlt (row_refl b j { p with text := p.text ++ [c] }) rfl (hp.bnd (p1 := { p with text := p.text ++ [c] }) rfl) (nxV_bnd hlt (some .line)) (more hgg (by omega))
      · have d1 : (48 : Int) ≤ c.toNat := by omega
        have d2 : ¬ (c.toNat : Int) ≤ 57 := by omega
        have hgb : goodL N c = false := by unfold goodL; rw [if_neg (by omega), if_pos (by omega)]; simp; omega
        simp [Tryz.ntmps119, Tryz.results119, List.replicate_succ, hrow, hN, d1, d2, hNv]
        refine wrong_px E' hp _ _ ?_
        rw [hpan]
        exact bad hgb
  · have hNv : (N : Int) = 6 := by omega
    by_cases hcx : c = 46
    · have hgg : goodL N c = true := by unfold goodL; rw [if_neg (by omega), if_neg (by omega), if_pos hC, hcx]; simp
      have g9 : (N : Int) < 9 := by omega
      have d1 : ¬ (48 : Int) ≤ c.toNat := by rw [hcx]; decide
      have d2 : (c.toNat : Int) ≤ 57 := by rw [hcx]; decide
      have d3 : (c.toNat : Int) = 46 := by rw [hcx]; decide
      have e10 : bts p.text ++ [[AV.int .u8 46]] = bts (p.text ++ [c]) := by rw [hcx]; exact bts_snoc' p.text 46
      simp [Tryz.ntmps119, Tryz.results119, List.replicate_succ, hrow, hN, d1, d2, m1, m3, m4, hs0 hlt, hs1 hlt, hs2 hlt, hs3 hlt, hs4 hlt, hs5 hlt, bts_snoc', hNv, d3, e10]
      exact aPost_setN hB hlt (row_refl b j { p with text := p.text ++ [c] }) rfl (hp.bnd (p1 := { p with text := p.text ++ [c] }) rfl) (nxV_bnd hlt (some .line)) (more hgg (by omega))
    · have hgb : goodL N c = false := by unfold goodL; rw [if_neg (by omega), if_neg (by omega), if_pos hC]; simpa using hcx
      have hb := (byte_n c 46 (by decide) 46 rfl hcx).1
      rcases (by omega : c.toNat < 48 ∨ (48 ≤ c.toNat ∧ c.toNat ≤ 57) ∨ 57 < c.toNat) with hr | hr | hr
      · have d1 : ¬ (48 : Int) ≤ c.toNat := by omega
        have d2 : (c.toNat : Int) ≤ 57 := by omega
        simp [Tryz.ntmps119, Tryz.results119, List.replicate_succ, hrow, hN, d1, d2, hNv, hb]
        refine wrong_px E' hp _ _ ?_
        rw [hpan]
        exact bad hgb
      · have d1 : (48 : Int) ≤ c.toNat := by omega
        have d2 : (c.toNat : Int) ≤ 57 := by omega
        simp [Tryz.ntmps119, Tryz.results119, List.replicate_succ, hrow, hN, d1, d2, hNv, hb]
        refine wrong_px E' hp _ _ ?_
        rw [hpan]
        exact bad hgb
      · have d1 : (48 : Int) ≤ c.toNat := by omega
        have d2 : ¬ (c.toNat : Int) ≤ 57 := by omega
        simp [Tryz.ntmps119, Tryz.results119, List.replicate_succ, hrow, hN, d1, d2, hNv, hb]
        refine wrong_px E' hp _ _ ?_
        rw [hpan]
        exact bad hgb
  · have hNv : (N : Int) = 8 := by omega
    by_cases hcx : c = 13
    · have hgg : goodL N c = true := by unfold goodL; rw [if_neg (by omega), if_neg (by omega), if_neg (by omega), if_pos hC, hcx]; simp
      have g9 : (N : Int) < 9 := by omega
      have d1 : ¬ (48 : Int) ≤ c.toNat := by rw [hcx]; decide
      have d2 : (c.toNat : Int) ≤ 57 := by rw [hcx]; decide
      have d3 : (c.toNat : Int) = 13 := by rw [hcx]; decide
      have e10 : bts p.text ++ [[AV.int .u8 13]] = bts (p.text ++ [c]) := by rw [hcx]; exact bts_snoc' p.text 13
      simp [Tryz.ntmps119, Tryz.results119, List.replicate_succ, hrow, hN, d1, d2, m1, m3, m4, hs0 hlt, hs1 hlt, hs2 hlt, hs3 hlt, hs4 hlt, hs5 hlt, bts_snoc', hNv, d3, e10]
      exact aPost_setN hB hlt (row_refl b j { p with text := p.text ++ [c] }) rfl (hp.bnd (p1 := { p with text := p.text ++ [c] }) rfl) (nxV_bnd hlt (some .line)) (more hgg (by omega))
    · have hgb : goodL N c = false := by unfold goodL; rw [if_neg (by omega), if_neg (by omega), if_neg (by omega), if_pos hC]; simpa using hcx
      have hb := (byte_n c 13 (by decide) 13 rfl hcx).1
      rcases (by omega : c.toNat < 48 ∨ (48 ≤ c.toNat ∧ c.toNat ≤ 57) ∨ 57 < c.toNat) with hr | hr | hr
      · have d1 : ¬ (48 : Int) ≤ c.toNat := by omega
        have d2 : (c.toNat : Int) ≤ 57 := by omega
        simp [Tryz.ntmps119, Tryz.results119, List.replicate_succ, hrow, hN, d1, d2, hNv, hb]
        refine wrong_px E' hp _ _ ?_
        rw [hpan]
        exact bad hgb
      · have d1 : (48 : Int) ≤ c.toNat := by omega
        have d2 : (c.toNat : Int) ≤ 57 := by omega
        simp [Tryz.ntmps119, Tryz.results119, List.replicate_succ, hrow, hN, d1, d2, hNv, hb]
        refine wrong_px E' hp _ _ ?_
        rw [hpan]
        exact bad hgb
      · have d1 : (48 : Int) ≤ c.toNat := by omega
        have d2 : ¬ (c.toNat : Int) ≤ 57 := by omega
        simp [Tryz.ntmps119, Tryz.results119, List.replicate_succ, hrow, hN, d1, d2, hNv, hb]
        refine wrong_px E' hp _ _ ?_
        rw [hpan]
        exact bad hgb
  · have hNv : (N : Int) = 9 := by omega
    by_cases hcx : c = 10
    · have hgg : goodL N c = true := by unfold goodL; rw [if_neg (by omega), if_neg (by omega), if_neg (by omega), if_neg (by omega), if_pos hC, hcx]; simp
      subst hcx
      have e10 : bts p.text ++ [[AV.int .u8 10]] = bts (p.text ++ [10]) := bts_snoc' p.text 10
      obtain ⟨x5, hx5⟩ : ∃ x, p.text[5]? = some x := ⟨_, List.getElem?_eq_getElem (by omega)⟩
      obtain ⟨x7, hx7⟩ : ∃ x, p.text[7]? = some x := ⟨_, List.getElem?_eq_getElem (by omega)⟩
      have r5 := good_dig (hln 5 x5 hx5) (.inl rfl)
      have r7 := good_dig (hln 7 x7 hx7) (.inr rfl)
      have la5 : lat (bts (p.text ++ [10])) 5 = some [.int .u8 (x5.toNat : Int)] := by
        have : (p.text ++ [10])[5]? = some x5 := by rw [List.getElem?_append_left (by omega)]; exact hx5
        unfold lat bts; rw [List.getElem?_map, this]; rfl
      have la7 : lat (bts (p.text ++ [10])) 7 = some [.int .u8 (x7.toNat : Int)] := by
        have : (p.text ++ [10])[7]? = some x7 := by rw [List.getElem?_append_left (by omega)]; exact hx7
        unfold lat bts; rw [List.getElem?_map, this]; rfl
      have gd5 : p.text.getD 5 0 = x5 := by simp [List.getD, hx5]
      have gd7 : p.text.getD 7 0 = x7 := by simp [List.getD, hx7]
      have hV : vlineS p 10 = (let p1 : Prs := { p with text := [], major := (x5.toNat : Int) - 48, minor := (x7.toNat : Int) - 48 }
          if p1.major ≠ 1 ∨ 1 < p1.minor then wrongS p1 505 117 else if tgtE p.meth p.targ ≠ 0 then wrongS p1 400 (tgtE p.meth p.targ) else .go { p1 with state := 2, begin_ := p.used + 1 } (some .fields)) := by
        unfold vlineS
        rw [hN, if_neg (by rw [hgg]; simp), if_neg (by omega), gd5, gd7]
      obtain ⟨ma, hma⟩ : ∃ m : Int, (x5.toNat : Int) - 48 = m := ⟨_, rfl⟩
      obtain ⟨mi, hmi⟩ : ∃ m : Int, (x7.toNat : Int) - 48 = m := ⟨_, rfl⟩
      rw [hma, hmi] at hV
      dsimp only at hV
      have w5 : IntKind.u8.wrap ((x5.toNat : Int) - 48) = ma := (u8w x5 r5).trans hma
      have w7 : IntKind.u8.wrap ((x7.toNat : Int) - 48) = mi := (u8w x7 r7).trans hmi
      have v5' : IntKind.i64.wrap ma = ma := wrap_in (by omega) (by omega)
      have v7' : IntKind.i64.wrap mi = mi := wrap_in (by omega) (by omega)
      have hp1 : PB (K.set b (({ p with text := [], major := ma, minor := mi } : Prs).av b j)) b j { p with text := [], major := ma, minor := mi } := hp.put rfl
      have hbd1 := bndH_set hB b (hp.bnd (p1 := { p with text := [], major := ma, minor := mi }) rfl)
      have hnil : ∀ l, nilL l (({ p with text := [], major := ma, minor := mi } : Prs).av b j) → nilH (K.set b l) (K.set b (({ p with text := [], major := ma, minor := mi } : Prs).av b j)) := fun l hl => by
        have := nilH_set (K.set b l) b _ _ (hs4 hlt _) hl
        rwa [hs5 hlt] at this
      have hbadv : (ma ≠ 1 ∨ 1 < mi) → R (faultV 505 117 p.used) (K.set b (({ p with text := [], major := ma, minor := mi } : Prs).av b j)) := fun h =>
        hR { p with text := [], major := ma, minor := mi } _ _ _ j _ (by rw [hV, if_pos h]; rfl) hp1 (fun h => .inl ⟨h, rfl⟩) (OthP.put ..) hbd1
      have w11 : IntKind.i64.wrap 1 = 1 := by decide
      by_cases hm1 : ma = 1
      · by_cases hmi1 : 1 < mi
        · simp [Tryz.ntmps119, Tryz.results119, List.replicate_succ, hrow, hN, hNv, m1, m3, m4, e10, la5, la7, w5, w7, v5', v7', w11, hm1, hmi1, hs0 hlt, hs1 hlt, hs2 hlt, hs3 hlt, hs4 hlt, hs5 hlt]
          refine PX.nilTo (H1 := K.set b (({ p with text := [], major := ma, minor := mi } : Prs).av b j)) ?_ (hnil _ (by rw [hm1]; exact nil_text b j { p with text := [], major := 1, minor := mi } rfl)) (by simp)
          refine wrong_px E' hp1 _ _ ?_
          rw [hpan]
          exact hbadv (.inr hmi1)
        · rw [if_neg (by omega)] at hV
          simp [Tryz.ntmps119, Tryz.results119, List.replicate_succ, hrow, hN, hNv, m1, m3, m4, e10, la5, la7, w5, w7, v5', v7', w11, hm1, hmi1, hs0 hlt, hs1 hlt, hs2 hlt, hs3 hlt, hs4 hlt, hs5 hlt]
          refine VCall4_intro fun J => ?_
          refine tparse_pc E' _ hE' p.meth p.targ (by omega) hf.asc (fun fm pt h pa qu hq v => ⟨rfl, ?_⟩)
          by_cases hT : tgtE p.meth p.targ = 0
          · rw [if_neg (by simp [hT])] at hV
            have wu : IntKind.i64.wrap (p.used + 1) = p.used + 1 := wrap_in (by omega) (by omega)
            simp [tgV, hT, wu, hs0 hlt, hs1 hlt, hs2 hlt, hs3 hlt, hs4 hlt, hs5 hlt]
            subst hm1
            exact aPost_setNJ hB hlt (nil_text b j { p with text := [], major := 1, minor := mi, state := 2, begin_ := p.used + 1 } rfl) rfl (hp.bnd (p1 := { p with text := [], major := 1, minor := mi, state := 2, begin_ := p.used + 1 }) rfl) (nxV_bnd hlt (some .fields))
              (hG _ _ j _ hV (hp.put (p1 := { p with text := [], major := 1, minor := mi, state := 2, begin_ := p.used + 1 }) rfl) (fun h => .inl ⟨h, rfl⟩) (OthP.put ..) (bndH_set hB b (hp.bnd (p1 := { p with text := [], major := 1, minor := mi, state := 2, begin_ := p.used + 1 }) rfl)))
          · rw [if_pos hT] at hV
            have hT' : (tgtE p.meth p.targ == 0) = false := by simpa using hT
            have hT2 : (tgtE p.meth p.targ != 0) = true := by simpa using hT
            simp [tgV, hT', hT2, hs0 hlt, hs1 hlt, hs2 hlt, hs3 hlt, hs4 hlt, hs5 hlt]
            have hnA := fun (J : Hp) (l : List AV) (hl : nilL l (({ p with text := [], major := ma, minor := mi } : Prs).av b j)) => show nilH (K.set b l ++ J) (K.set b (({ p with text := [], major := ma, minor := mi } : Prs).av b j) ++ J) by
              have := nilH_set (K.set b l ++ J) b _ _ (hs1 hlt _ _) hl
              rwa [hs2 hlt] at this
            refine PX.nilTo (H1 := K.set b (({ p with text := [], major := ma, minor := mi } : Prs).av b j) ++ [[.int .i64 fm, .str h, .int .i64 pt, .str pa, .str qu, .bool hq]]) ?_ (hnA _ _ (by rw [hm1]; exact nil_text b j { p with text := [], major := 1, minor := mi } rfl)) (by simp)
            refine wrong_px E' (hp1.app _) _ _ ?_
            rw [hpan]
            refine hR _ _ _ _ j _ hV (hp1.app _) (fun h => .inl ⟨h, rfl⟩) ⟨by simp, fun i hi h1 _ => by rw [List.getElem?_append_left (by simpa using hi), List.getElem?_set_ne (Ne.symm h1)]⟩ ?_
            have hbb := bndX_up (M := K.length + 1) hbd1 (by simp)
            have := bndX_app hbb (J := [[AV.int .i64 fm, .str h, .int .i64 pt, .str pa, .str qu, .bool hq]]) (fun X hX y hy => by
              simp only [List.mem_cons, List.not_mem_nil, or_false] at hX
              subst hX
              simp at hy
              rcases hy with rfl | rfl | rfl | rfl | rfl | rfl <;> constructor)
            simpa using this
      · have hm1' : (ma == 1) = false := by simpa using hm1
        have hm2 : (ma != 1) = true := by simpa using hm1
        simp [Tryz.ntmps119, Tryz.results119, List.replicate_succ, hrow, hN, hNv, m1, m3, m4, e10, la5, la7, w5, w7, v5', v7', hm1', hm2, hs0 hlt, hs1 hlt, hs2 hlt, hs3 hlt, hs4 hlt, hs5 hlt]
        refine PX.nilTo (H1 := K.set b (({ p with text := [], major := ma, minor := mi } : Prs).av b j)) ?_ (hnil _ (nil_text b j { p with text := [], major := ma, minor := mi } rfl)) (by simp)
        refine wrong_px E' hp1 _ _ ?_
        rw [hpan]
        exact hbadv (.inl hm1)
    · have hgb : goodL N c = false := by unfold goodL; rw [if_neg (by omega), if_neg (by omega), if_neg (by omega), if_neg (by omega), if_pos hC]; simpa using hcx
      have hb := (byte_n c 10 (by decide) 10 rfl hcx).1
      rcases (by omega : c.toNat < 48 ∨ (48 ≤ c.toNat ∧ c.toNat ≤ 57) ∨ 57 < c.toNat) with hr | hr | hr
      · have d1 : ¬ (48 : Int) ≤ c.toNat := by omega
        have d2 : (c.toNat : Int) ≤ 57 := by omega
        simp [Tryz.ntmps119, Tryz.results119, List.replicate_succ, hrow, hN, d1, d2, hNv, hb]
        refine wrong_px E' hp _ _ ?_
        rw [hpan]
        exact bad hgb
      · have d1 : (48 : Int) ≤ c.toNat := by omega
        have d2 : (c.toNat : Int) ≤ 57 := by omega
        simp [Tryz.ntmps119, Tryz.results119, List.replicate_succ, hrow, hN, d1, d2, hNv, hb]
        refine wrong_px E' hp _ _ ?_
        rw [hpan]
        exact bad hgb
      · have d1 : (48 : Int) ≤ c.toNat := by omega
        have d2 : ¬ (c.toNat : Int) ≤ 57 := by omega
        simp [Tryz.ntmps119, Tryz.results119, List.replicate_succ, hrow, hN, d1, d2, hNv, hb]
        refine wrong_px E' hp _ _ ?_
        rw [hpan]
        exact bad hgb
  · have q5 : ¬ (N : Int) < 5 := by omega
    have f5 : ((N : Int) == 5) = false := by rw [beq_eq_false_iff_ne]; omega
    have f6 : ((N : Int) == 6) = false := by rw [beq_eq_false_iff_ne]; omega
    have f7 : ((N : Int) == 7) = false := by rw [beq_eq_false_iff_ne]; omega
    have f8 : ((N : Int) == 8) = false := by rw [beq_eq_false_iff_ne]; omega
    have f9 : ((N : Int) == 9) = false := by rw [beq_eq_false_iff_ne]; omega
    have hgb : goodL N c = false := by unfold goodL; rw [if_neg (by omega), if_neg (by omega), if_neg (by omega), if_neg (by omega), if_neg (by omega)]
    rcases (by omega : c.toNat < 48 ∨ (48 ≤ c.toNat ∧ c.toNat ≤ 57) ∨ 57 < c.toNat) with hr | hr | hr
    · have d1 : ¬ (48 : Int) ≤ c.toNat := by omega
      have d2 : (c.toNat : Int) ≤ 57 := by omega
      simp [Tryz.ntmps119, Tryz.results119, List.replicate_succ, hrow, hN, d1, d2, q5, f5, f6, f7, f8, f9]
      refine wrong_px E' hp _ _ ?_
      rw [hpan]
      exact bad hgb
    · have d1 : (48 : Int) ≤ c.toNat := by omega
      have d2 : (c.toNat : Int) ≤ 57 := by omega
      simp [Tryz.ntmps119, Tryz.results119, List.replicate_succ, hrow, hN, d1, d2, q5, f5, f6, f7, f8, f9]
      refine wrong_px E' hp _ _ ?_
      rw [hpan]
      exact bad hgb
    · have d1 : (48 : Int) ≤ c.toNat := by omega
      have d2 : ¬ (c.toNat : Int) ≤ 57 := by omega
      simp [Tryz.ntmps119, Tryz.results119, List.replicate_succ, hrow, hN, d1, d2, q5, f5, f6, f7, f8, f9]
      refine wrong_px E' hp _ _ ?_
      rw [hpan]
      exact bad hgb
/-- FEED'S STEPS. -/
theorem feedOk (hE : PE E) : FeedOk E b := by
  intro K j p m c n Q R hf hn hnx hp hG hR
  have hH : ∀ E' : Env, E'.w0 = E.w0 → E'.Fix = E.Fix → HeadOk E' b := fun E' h0 hF => headed_px E' (hE.env h0 hF)
  cases m
  · exact start_px E hE.1.1 K j p c n Q R hf hn hp hG hR
  · exact startEnd_px E K j p c n Q R hf hn hp hG hR
  · exact method_px E hE.1.1 K j p c n Q R hf hn hp hG hR
  · exact target_px E K j p c n Q R hf hn hp hG hR
  · exact line_px E hE K j p c n Q R hf hn hnx hp hG hR
  · exact fields_px E hE.1.1 hH K j p c n Q R hf hn hp hG hR
  · exact counted_px E K j p c n Q R hf hn hp hG hR
  · exact chunked_px E hE.1.1 K j p c n Q R hf hn hp hG hR
end
end Go.Proofs.YtnnhdehmlkkfjaaGreatDoor

set_option linter.unusedVariables false
set_option linter.unusedSimpArgs false
set_option linter.unusedSectionVars false
set_option maxRecDepth 100000
namespace Go.Proofs.YtnnhdehmlkkfjaaGreatDoor
open Go Go.RowKit

/-- Arguments with nil slices, however deep. -/
theorem PC.argsD {P : Program} {E : Env} {f : FuncId} {args args' : List AV} {H : Hp} {Q : AV → Hp → Prop} (h : NilL args args') (hp : PC P E f args' H Q) : PC P E f args H Q := by
  obtain ⟨h1, h2⟩ := h.at
  refine ⟨hp.1, fun w β Rd Ow cargs hr hcell hsz hargs => hp.2 w β Rd Ow cargs hr hcell (by rw [hsz, h1]) (fun t y u hy hu => ?_)⟩
  obtain ⟨x, hx⟩ := pair_at h1 hy
  obtain ⟨r1, r2, r3⟩ := hargs t x u hx hu
  have hd := h2 t x y hx hy
  exact ⟨hd.rel r1, hd.bnd r2, hd.free r3⟩
theorem preH_of {H K : Hp} (h1 : H.length ≤ K.length) (h2 : ∀ i, i < H.length → K[i]? = H[i]?) : ∃ J, K = H ++ J := by
  refine ⟨K.drop H.length, ?_⟩
  apply List.ext_getElem?
  intro i
  by_cases hi : i < H.length
  · rw [List.getElem?_append_left hi, h2 i hi]
  · rw [List.getElem?_append_right (by omega), List.getElem?_drop]
    congr 1; omega
/-- Are limits right? -/
def chkE (a b c d : Int) : Int := if (1 ≤ a ∧ a ≤ 65536) ∧ (2 ≤ b ∧ b ≤ 1048576) ∧ (0 ≤ c ∧ c ≤ 100) ∧ (0 ≤ d ∧ d ≤ 1073741824) then 0 else 115
def limV (a b c d : Int) : AV := .agg [.int .i64 a, .int .i64 b, .int .i64 c, .int .i64 d]
/-- A request, or an empty one. -/
def Rq.if (c : Bool) (r : Rq) : Rq := if c then r else .zero
theorem Rq.nil (m t b : List UInt8) (ma mi : Int) : NilL [.str m, .str t, .int .i64 ma, .int .i64 mi, .nil, .str b, .nil] (Rq.mk m t ma mi [] b []).avs := ⟨.same _, .same _, .same _, .same _, .nil _, .same _, .nil _, trivial⟩
theorem Rq.bnd (r : Rq) (N : Nat) : ∀ x ∈ r.avs, Bnd N x := by
  intro x hx
  simp only [Rq.avs, List.mem_cons, List.not_mem_nil, or_false] at hx
  rcases hx with rfl | rfl | rfl | rfl | rfl | rfl | rfl <;> first | exact bnd_flds _ _ _ | constructor
/-- The fault that is told. -/
def fltV (p : Prs) : AV := if p.state = 5 then .agg [.int .i64 p.fst_, .int .i64 p.ferr, .int .i64 p.fat] else .agg [.int .i64 0, .int .i64 0, .int .i64 0]
section
variable (E : Env) {H : Hp} (Q : AV → Hp → Prop)
theorem cin_pc (n a b : Int) (hQ : Q (.bool (decide (a ≤ n) && decide (n ≤ b))) H) : PC Tryz.prog E 40 [.int .i64 n, .int .i64 a, .int .i64 b] H Q := by
  refine pc_enter Tryz.func40 rfl [] [] (by kernel_rfl) (fun hB => ?_)
  by_cases h1 : a ≤ n
  · by_cases h2 : n ≤ b
    · simp [Tryz.ntmps40, Tryz.results40, List.replicate_succ, h1, h2]
      exact aPost_same0 hB rfl (nilV_refl _) (by simp) (by simpa [h1, h2] using hQ)
    · simp [Tryz.ntmps40, Tryz.results40, List.replicate_succ, h1, h2]
      exact aPost_same0 hB rfl (nilV_refl _) (by simp) (by simpa [h1, h2] using hQ)
  · simp [Tryz.ntmps40, Tryz.results40, List.replicate_succ, h1]
    exact aPost_same0 hB rfl (nilV_refl _) (by simp) (by simpa [h1] using hQ)
theorem pcheck_pc (a b c d : Int) (hQ : Q (.int .i64 (chkE a b c d)) H) : PC Tryz.prog E 20 [limV a b c d] H Q := by
  refine pc_enter Tryz.func20 rfl [] [] (by kernel_rfl) (fun hB => ?_)
  have fin : ∀ e, chkE a b c d = e → Q (.int .i64 e) H := fun e h => h ▸ hQ
  simp [Tryz.ntmps20, Tryz.results20, List.replicate_succ, limV]
  refine cin_pc E _ a 1 65536 ?_
  by_cases h1 : 1 ≤ a ∧ a ≤ 65536
  · have g1 : (decide (1 ≤ a) && decide (a ≤ 65536)) = true := by simpa using h1
    rw [g1]
    simp
    refine cin_pc E _ b 2 1048576 ?_
    by_cases h2 : 2 ≤ b ∧ b ≤ 1048576
    · have g2 : (decide (2 ≤ b) && decide (b ≤ 1048576)) = true := by simpa using h2
      rw [g2]
      simp
      refine cin_pc E _ c 0 100 ?_
      by_cases h3 : 0 ≤ c ∧ c ≤ 100
      · have g3 : (decide (0 ≤ c) && decide (c ≤ 100)) = true := by simpa using h3
        rw [g3]
        simp
        refine cin_pc E _ d 0 1073741824 ?_
        by_cases h4 : 0 ≤ d ∧ d ≤ 1073741824
        · have g4 : (decide (0 ≤ d) && decide (d ≤ 1073741824)) = true := by simpa using h4
          rw [g4]
          simp
          exact aPost_same hB rfl (nilV_refl _) (by simp) (fin 0 (by unfold chkE; rw [if_pos ⟨h1, h2, h3, h4⟩]))
        · have g4 : (decide (0 ≤ d) && decide (d ≤ 1073741824)) = false := by rw [Bool.eq_false_iff]; intro h; simp at h; exact h4 h
          rw [g4]
          simp
          exact aPost_same hB rfl (nilV_refl _) (by simp) (fin 115 (by unfold chkE; rw [if_neg (fun h => h4 h.2.2.2)]))
      · have g3 : (decide (0 ≤ c) && decide (c ≤ 100)) = false := by rw [Bool.eq_false_iff]; intro h; simp at h; exact h3 h
        rw [g3]
        simp
        exact aPost_same hB rfl (nilV_refl _) (by simp) (fin 115 (by unfold chkE; rw [if_neg (fun h => h3 h.2.2.1)]))
    · have g2 : (decide (2 ≤ b) && decide (b ≤ 1048576)) = false := by rw [Bool.eq_false_iff]; intro h; simp at h; exact h2 h
      rw [g2]
      simp
      exact aPost_same hB rfl (nilV_refl _) (by simp) (fin 115 (by unfold chkE; rw [if_neg (fun h => h2 h.2.1)]))
  · have g1 : (decide (1 ≤ a) && decide (a ≤ 65536)) = false := by rw [Bool.eq_false_iff]; intro h; simp at h; exact h1 h
    rw [g1]
    simp
    exact aPost_same hB rfl (nilV_refl _) (by simp) (fin 115 (by unfold chkE; rw [if_neg (fun h => h1 h.1)]))
theorem pusual_pc (hQ : Q (limV 8000 16384 100 1048576) H) : PC Tryz.prog E 17 [] H Q := by
  refine pc_enter Tryz.func17 rfl [] [] (by kernel_rfl) (fun hB => ?_)
  simp [Tryz.ntmps17, Tryz.results17, List.replicate_succ]
  exact aPost_same hB (v0 := limV 8000 16384 100 1048576) (by simp [limV]) (nilV_refl _) (by simp [limV]) hQ
theorem pmeth_pc (hE : SE E) (s : List UInt8) (hl : s.length ≤ cap) (hQ : Q (.bool (tokB s && decide (s.length ≤ 24))) H) : PC Tryz.prog E 21 [.str s] H Q := by
  refine pc_enter Tryz.func21 rfl [] [] (by kernel_rfl) (fun hB => ?_)
  simp [Tryz.ntmps21, Tryz.results21, List.replicate_succ]
  refine isToken_pc E _ _ hE s hl ?_
  cases ht : tokB s with
  | false =>
    rw [ht] at hQ
    simp
    exact aPost_same0 hB rfl (nilV_refl _) (by simp) hQ
  | true =>
    rw [ht] at hQ
    have e : decide ((s.length : Int) ≤ 24) = decide (s.length ≤ 24) := by rw [decide_eq_decide]; omega
    rw [Bool.true_and, ← e] at hQ
    simp
    exact aPost_same0 hB rfl (nilV_refl _) (by simp) hQ
/-- What New makes. -/
def nwH (H : Hp) (a b c d : Int) : Hp := H ++ [[.int .i64 a, .int .i64 b, .int .i64 c, .int .i64 d], (newP a b c d).av (H.length + 1) 0]
theorem nwH_pb (H : Hp) (a b c d : Int) : PB (nwH H a b c d) (H.length + 1) 0 (newP a b c d) := ⟨by unfold nwH; rw [List.getElem?_append_right (by omega)]; simp, fun d hd => by cases hd⟩
theorem nwH_bnd {H : Hp} (hB : BndH H.length H) (a b c d : Int) : BndH (nwH H a b c d).length (nwH H a b c d) := by
  have hl : (nwH H a b c d).length = H.length + 2 := by unfold nwH; simp
  rw [hl]
  unfold nwH
  refine bndX_app (bndX_up hB (by omega)) (fun X hX y hy => ?_)
  simp only [List.mem_cons, List.not_mem_nil, or_false] at hX
  rcases hX with rfl | rfl
  · simp at hy
    rcases hy with rfl | rfl | rfl | rfl <;> exact .int _ _
  · exact Prs.bnd (by omega) (fun d hd => by cases hd) y hy
theorem pnew_pc (a b c d : Int) (hQ1 : chkE a b c d = 0 → BndH (nwH H a b c d).length (nwH H a b c d) → Q (.tup [.ptr (some (H.length + 1, 0)), .int .i64 0]) (nwH H a b c d)) (hQ2 : chkE a b c d ≠ 0 → Q (.tup [.ptr none, .int .i64 (chkE a b c d)]) H) : PC Tryz.prog E 18 [limV a b c d] H Q := by
  refine pc_enter Tryz.func18 rfl [] [] (by kernel_rfl) (fun hB => ?_)
  simp [Tryz.ntmps18, Tryz.results18, List.replicate_succ, limV]
  refine pcheck_pc E _ a b c d ?_
  by_cases h : chkE a b c d = 0
  · have hbn := nwH_bnd hB a b c d
    simp [h]
    refine ⟨.tup [.ptr (some (H.length + 1, 0)), .int .i64 0], _, nwH H a b c d, nwH H a b c d, [], rfl, nilV_refl _, ?_, (List.append_nil _).symm, by unfold nwH; simp, hbn, by unfold nwH; simp, hQ1 h hbn⟩
    exact nilH_app H ⟨nilL_refl _, ⟨.inl rfl, .inl rfl, .inl rfl, .inl rfl, .inl rfl, .inl rfl, .inl rfl, .inl rfl, .inl rfl, .inl rfl, .inl rfl, .inr ⟨rfl, true, 2, rfl⟩, .inl rfl, .inr ⟨rfl, false, 2, rfl⟩, .inl rfl, .inl rfl, .inl rfl, .inr ⟨rfl, true, 1, rfl⟩, .inl rfl, .inl rfl, .inl rfl, .inl rfl, .inr ⟨rfl, true, 1, rfl⟩, .inl rfl, .inl rfl, trivial⟩, trivial⟩
  · have h' : (chkE a b c d == 0) = false := by simpa using h
    have h2 : (chkE a b c d != 0) = true := by simpa using h
    simp [h', h2]
    exact aPost_same hB rfl (nilV_refl _) (by simp) (hQ2 h)
section
variable {b j : Nat} {p : Prs}
theorem copied_pc (r : Rq) (h1 : r.fields.length ≤ 16777216) (h2 : r.trailers.length ≤ 16777216) (hQ : Q r.av H) : PC Tryz.prog E 37 [r.av] H Q := by
  refine pc_enter Tryz.func37 rfl [] [] (by kernel_rfl) (fun hB => ?_)
  have m1 : r.fields.length ≤ maxLen := by unfold maxLen; omega
  have m2 : r.trailers.length ≤ maxLen := by unfold maxLen; omega
  have m3 : r.fields.length * 32 ≤ 140737488355328 := by omega
  have m4 : r.trailers.length * 32 ≤ 140737488355328 := by omega
  simp [Tryz.ntmps37, Tryz.results37, List.replicate_succ, Rq.av, Rq.avs, m1, m2, m3, m4]
  exact aPost_same hB (v0 := r.av) (by simp [Rq.av, Rq.avs]) (nilV_refl _) (by simp [Rq.av, Rq.avs, bnd_flds]) hQ
end
end
end Go.Proofs.YtnnhdehmlkkfjaaGreatDoor

set_option linter.unusedVariables false
set_option linter.unusedSimpArgs false
set_option linter.unusedSectionVars false
set_option maxRecDepth 100000
namespace Go.Proofs.YtnnhdehmlkkfjaaGreatDoor
open Go Go.RowKit

set_option maxHeartbeats 1000000 in
theorem feed0_calls (s : ByteArray) (w : World) : Calls Tryz.prog 23 #[.pointer none, .string s] w fun e w' => e = .returned (.int .i64 0) ∧ Frm (fun _ => False) w w' := by
  go_enter_defers Tryz.func23, Tryz.ntmps23
  go_wp2
  simp only [bodyPostD, Leaves]
  refine ⟨.int .i64 0, ?_, rfl, ((Frm.refl _ _).allocR _).allocR _⟩
  simp [results, Tryz.results23, go_sem, World.cell?_alloc_new]
section
variable (E : Env) {H : Hp} (Q : AV → Hp → Prop)
theorem pstate0_pc (hQ : Q (.int .i64 0) H) : PC Tryz.prog E 27 [.ptr none] H Q := by
  refine pc_enter Tryz.func27 rfl [] [] (by kernel_rfl) (fun hB => ?_)
  simp [Tryz.ntmps27, Tryz.results27, List.replicate_succ]
  exact aPost_same0 hB rfl (nilV_refl _) (by simp) hQ
theorem pused0_pc (hQ : Q (.int .i64 0) H) : PC Tryz.prog E 28 [.ptr none] H Q := by
  refine pc_enter Tryz.func28 rfl [] [] (by kernel_rfl) (fun hB => ?_)
  simp [Tryz.ntmps28, Tryz.results28, List.replicate_succ]
  exact aPost_same0 hB rfl (nilV_refl _) (by simp) hQ
theorem pwaits0_pc (hQ : Q (.bool false) H) : PC Tryz.prog E 29 [.ptr none] H Q := by
  refine pc_enter Tryz.func29 rfl [] [] (by kernel_rfl) (fun hB => ?_)
  simp [Tryz.ntmps29, Tryz.results29, List.replicate_succ]
  exact aPost_same0 hB rfl (nilV_refl _) (by simp) hQ
theorem pnext0_pc (hQ : Q (.int .i64 118) H) : PC Tryz.prog E 34 [.ptr none] H Q := by
  refine pc_enter Tryz.func34 rfl [] [] (by kernel_rfl) (fun hB => ?_)
  simp [Tryz.ntmps34, Tryz.results34, List.replicate_succ]
  exact aPost_same0 hB rfl (nilV_refl _) (by simp) hQ
theorem phead0_pc (hQ : Q (.tup [Rq.zero.av, .bool false]) H) : PC Tryz.prog E 26 [.ptr none] H Q := by
  refine PC.nilD ?_
  refine pc_enter Tryz.func26 rfl [] [] (by kernel_rfl) (fun hB => ?_)
  simp [Tryz.ntmps26, Tryz.results26, List.replicate_succ]
  exact aPost_same hB (v0 := .tup [.agg [.str [], .str [], .int .i64 0, .int .i64 0, .nil, .str [], .nil], .bool false]) (v := .tup [.agg [.str [], .str [], .int .i64 0, .int .i64 0, .nil, .str [], .nil], .bool false]) (by simp) (nilV_refl _) (by simp) ⟨.tup [Rq.zero.av, .bool false], NilD_tup (m := [Rq.zero.av, .bool false]) ⟨NilD_agg (Rq.nil [] [] [] 0 0), .same _, trivial⟩, hQ⟩
theorem prequest0_pc (hQ : Q (.tup [Rq.zero.av, .bool false]) H) : PC Tryz.prog E 24 [.ptr none] H Q := by
  refine PC.nilD ?_
  refine pc_enter Tryz.func24 rfl [] [] (by kernel_rfl) (fun hB => ?_)
  simp [Tryz.ntmps24, Tryz.results24, List.replicate_succ]
  exact aPost_same hB (v0 := .tup [.agg [.str [], .str [], .int .i64 0, .int .i64 0, .nil, .str [], .nil], .bool false]) (v := .tup [.agg [.str [], .str [], .int .i64 0, .int .i64 0, .nil, .str [], .nil], .bool false]) (by simp) (nilV_refl _) (by simp) ⟨.tup [Rq.zero.av, .bool false], NilD_tup (m := [Rq.zero.av, .bool false]) ⟨NilD_agg (Rq.nil [] [] [] 0 0), .same _, trivial⟩, hQ⟩
theorem pfault0_pc (hQ : Q (.tup [.agg [.int .i64 0, .int .i64 0, .int .i64 0], .bool false]) H) : PC Tryz.prog E 25 [.ptr none] H Q := by
  refine pc_enter Tryz.func25 rfl [] [] (by kernel_rfl) (fun hB => ?_)
  simp [Tryz.ntmps25, Tryz.results25, List.replicate_succ]
  exact aPost_same hB (v0 := .tup [.agg [.int .i64 0, .int .i64 0, .int .i64 0], .bool false]) (v := .tup [.agg [.int .i64 0, .int .i64 0, .int .i64 0], .bool false]) (by simp) (nilV_refl _) (by simp) hQ
theorem pfeed0_pc (s : List UInt8) (hQ : Q (.int .i64 0) H) : PC Tryz.prog E 23 [.ptr none, .str s] H Q := by
  refine pc_of_calls (v := .int .i64 0) (by kernel_rfl) (fun _ => True) (fun w hw => trivial) (fun w β Rd cargs hS hsz hargs => ?_) (.int _ _) rfl hQ
  obtain ⟨u, v, rfl, hu, hv⟩ := args2 hsz hargs
  obtain ⟨t, rfl, _, _⟩ := rel_str hv
  cases hu
  exact (feed0_calls t w).mono fun e w' ⟨he, hf⟩ => ⟨_, he, hf, .int _ _⟩
/-! ### Whole -/
def kindP (p : Prs) : Int := if p.state = 4 then 1 else if p.state = 5 then 2 else 0
/-- What Whole answers. -/
def wholV (a b c d : Int) (s : List UInt8) : AV := if chkE a b c d = 0 then
    .tup [(Rq.if (decide ((feedP (newP a b c d) s).1.state = 4)) (feedP (newP a b c d) s).1.rq).av, .int .i64 (feedP (newP a b c d) s).2, fltV (feedP (newP a b c d) s).1, .int .i64 (kindP (feedP (newP a b c d) s).1)]
  else .tup [Rq.zero.av, .int .i64 0, .agg [.int .i64 0, .int .i64 (chkE a b c d), .int .i64 0], .int .i64 2]
theorem chk_lim {a b c d : Int} (h : chkE a b c d = 0) : (1 ≤ a ∧ a ≤ 65536) ∧ (2 ≤ b ∧ b ≤ 1048576) ∧ (0 ≤ c ∧ c ≤ 100) ∧ (0 ≤ d ∧ d ≤ 1073741824) := by
  unfold chkE at h
  split at h
  · assumption
  · cases h
theorem newP_fitC {a b c d : Int} (h : chkE a b c d = 0) : fitP 0 (newP a b c d) := by
  obtain ⟨h1, h2, h3, h4⟩ := chk_lim h
  exact newP_fit h1 h2 h3 h4
/-- What a done parser holds is within its size. -/
theorem fed_fit {a b c d : Int} (h : chkE a b c d = 0) (s : List UInt8) (hs : s.length ≤ 4194304) (h5 : (feedP (newP a b c d) s).1.state ≠ 5) : fsz (feedP (newP a b c d) s).1.fields + (feedP (newP a b c d) s).1.fields.length ≤ 4194304 ∧ (feedP (newP a b c d) s).1.trailers.length ≤ 4194304 := by
  have hf := feedP_fit s (newP a b c d) 0 (newP_fitC h) h5
  have := hf.a
  have := hf.tr
  have := feedP_le (newP a b c d) s
  omega
theorem aPost_back {P : Program} {rs : List ResultVar} {Q : AV → Hp → Prop} {fr : List AV} {H K : Hp} {v0 v : AV} (hB : BndH H.length H) (hle : H.length ≤ K.length) (hk : ∀ i, i < H.length → K[i]? = H[i]?) (h1 : ares P fr K rs = some v0) (h2 : nilV v0 v) (h5 : Bnd H.length v) (h6 : Q v H) : aPost P rs H.length Q .ret fr K := by
  obtain ⟨J, rfl⟩ := preH_of hle hk
  exact aPost_same hB h1 h2 h5 h6
set_option maxHeartbeats 2000000 in
theorem pwhole_pc (hE : PE E) (a b c d : Int) (s : List UInt8) (hs : s.length ≤ 4194304) (hQ : Q (wholV a b c d s) H) : PC Tryz.prog E 12 [limV a b c d, .str s] H Q := by
  refine PC.nilD ?_
  refine pc_enterF (fun i => i = H.length + 4) Tryz.func12 rfl [] [(9, [0, 0, 0, 0, 0, 2, 2])] (by kernel_rfl) (fun E' hS' h0' hF' hB => ?_)
  have hE' := hE.env h0' hF'
  unfold wholV at hQ
  simp [Tryz.ntmps12, Tryz.results12, List.replicate_succ, limV]
  refine pnew_pc E' _ a b c d (fun h0 hBn => ?_) (fun h0 => ?_)
  · rw [if_pos h0] at hQ
    simp
    obtain ⟨H3, hH3⟩ : ∃ H3 : Hp, H ++ [[AV.int .i64 a, AV.int .i64 b, AV.int .i64 c, AV.int .i64 d], [AV.str [], AV.str [], AV.int .i64 0, AV.int .i64 0, AV.nil, AV.str [], AV.nil], [AV.int .i64 0, AV.int .i64 0, AV.int .i64 0]] = H3 := ⟨_, rfl⟩
    have hl3 : H3.length = H.length + 3 := by rw [← hH3]; simp
    have hpb := nwH_pb H3 a b c d
    rw [hH3]
    rw [show H3.length + 1 = H.length + 4 by omega] at hpb
    have hfl := feedP_le (newP a b c d) s
    refine pfeed_pc E' _ hpb (newP_fitC h0) (fun E2 h02 hF2 => feedOk E2 (hE'.env h02 hF2)) s (by omega) (by omega) (fun j1 K1 hp1 hj1 ho1 hB1 => ?_)
    have hfit := fed_fit h0 s hs
    obtain ⟨P, hP⟩ : ∃ P, (feedP (newP a b c d) s).1 = P := ⟨_, rfl⟩
    obtain ⟨N, hN⟩ : ∃ N, (feedP (newP a b c d) s).2 = N := ⟨_, rfl⟩
    rw [hP] at hp1 hfit
    rw [hP, hN] at hQ
    rw [hN]
    have hlen : H.length + 5 ≤ K1.length := by have := ho1.1; unfold nwH at this; simp at this; omega
    have hold : ∀ i, i < H.length + 3 → K1[i]? = H3[i]? := fun i hi => by
      rw [ho1.2 i (by unfold nwH; simp; omega) (by omega) (fun h => by cases h)]
      unfold nwH
      rw [List.getElem?_append_left (by omega)]
    have k1 : K1[H.length + 1]? = some [AV.str [], AV.str [], AV.int .i64 0, AV.int .i64 0, AV.nil, AV.str [], AV.nil] := by rw [hold _ (by omega), ← hH3, List.getElem?_append_right (by omega)]; simp
    have k2 : K1[H.length + 2]? = some [AV.int .i64 0, AV.int .i64 0, AV.int .i64 0] := by rw [hold _ (by omega), ← hH3, List.getElem?_append_right (by omega)]; simp
    have kH : ∀ i, i < H.length → K1[i]? = H[i]? := fun i hi => by rw [hold i (by omega), ← hH3, List.getElem?_append_left hi]
    have hrow := hp1.row
    simp [Prs.av] at hrow
    have e1 : H.length + 1 < K1.length := by omega
    have e2 : H.length + 2 < K1.length := by omega
    have u1 : ∀ x, (K1.set (H.length + 1) x)[H.length + 2]? = some [AV.int .i64 0, AV.int .i64 0, AV.int .i64 0] := fun x => by rw [List.getElem?_set_ne (by omega)]; exact k2
    have u2 : ∀ x, (K1.set (H.length + 1) x)[H.length + 4]? = K1[H.length + 4]? := fun x => List.getElem?_set_ne (by omega)
    have u3 : ∀ x y, ((K1.set (H.length + 1) x).set (H.length + 2) y)[H.length + 1]? = some x := fun x y => by rw [List.getElem?_set_ne (by omega), List.getElem?_set_self e1]
    have u4 : ∀ x y, ((K1.set (H.length + 1) x).set (H.length + 2) y)[H.length + 2]? = some y := fun x y => List.getElem?_set_self (by simpa using e2)
    have kK : ∀ x y i, i < H.length → ((K1.set (H.length + 1) x).set (H.length + 2) y)[i]? = H[i]? := fun x y i hi => by rw [List.getElem?_set_ne (by omega), List.getElem?_set_ne (by omega)]; exact kH i hi
    by_cases h4 : P.state = 4
    · have hk : kindP P = 1 := by unfold kindP; rw [if_pos h4]
      have hd : decide (P.state = 4) = true := by simpa using h4
      have hf5 : P.state ≠ 5 := by omega
      have hfv : fltV P = .agg [.int .i64 0, .int .i64 0, .int .i64 0] := by unfold fltV; rw [if_neg hf5]
      have hrq : Rq.if true P.rq = P.rq := rfl
      rw [hk, hd, hfv, hrq] at hQ
      have := hfit hf5
      simp [Kcall, KP, hrow, h4]
      refine copied_pc E' _ P.rq (by show P.fields.length ≤ _; omega) (by show P.trailers.length ≤ _; omega) ?_
      simp [Rq.av, Rq.avs, k1, k2, u1, u2, u3, u4]
      exact aPost_back hB (v0 := .tup [P.rq.av, .int .i64 N, .agg [.int .i64 0, .int .i64 0, .int .i64 0], .int .i64 1]) (v := .tup [P.rq.av, .int .i64 N, .agg [.int .i64 0, .int .i64 0, .int .i64 0], .int .i64 1]) (by simp; omega) (kK _ _) (by simp [Rq.av, Rq.avs, u3, u4]) (nilV_refl _) (by simp [Rq.av, Rq.avs, bnd_flds]) ⟨_, .same _, hQ⟩
    · have hd : decide (P.state = 4) = false := by simpa using h4
      have h4' : (P.state == 4) = false := by simpa using h4
      have hrq : Rq.if false P.rq = .zero := rfl
      rw [hd, hrq] at hQ
      by_cases h5 : P.state = 5
      · have hk : kindP P = 2 := by unfold kindP; rw [if_neg h4, if_pos h5]
        have hfv : fltV P = .agg [.int .i64 P.fst_, .int .i64 P.ferr, .int .i64 P.fat] := by unfold fltV; rw [if_pos h5]
        rw [hk, hfv] at hQ
        simp [Kcall, KP, hrow, h5, hS', k1, k2, u1, u2, u3, u4]
        exact aPost_back hB (v0 := .tup [.agg [.str [], .str [], .int .i64 0, .int .i64 0, .nil, .str [], .nil], .int .i64 N, .agg [.int .i64 P.fst_, .int .i64 P.ferr, .int .i64 P.fat], .int .i64 2]) (v := .tup [.agg [.str [], .str [], .int .i64 0, .int .i64 0, .nil, .str [], .nil], .int .i64 N, .agg [.int .i64 P.fst_, .int .i64 P.ferr, .int .i64 P.fat], .int .i64 2]) (by simp; omega) (kK _ _) (by simp [u3, u4]) (nilV_refl _) (by simp)
          ⟨.tup [Rq.zero.av, .int .i64 N, .agg [.int .i64 P.fst_, .int .i64 P.ferr, .int .i64 P.fat], .int .i64 2], NilD_tup (m := [Rq.zero.av, .int .i64 N, .agg [.int .i64 P.fst_, .int .i64 P.ferr, .int .i64 P.fat], .int .i64 2]) ⟨NilD_agg (Rq.nil [] [] [] 0 0), .same _, .same _, .same _, trivial⟩, hQ⟩
      · have hk : kindP P = 0 := by unfold kindP; rw [if_neg h4, if_neg h5]
        have hfv : fltV P = .agg [.int .i64 0, .int .i64 0, .int .i64 0] := by unfold fltV; rw [if_neg h5]
        have h5' : (P.state == 5) = false := by simpa using h5
        rw [hk, hfv] at hQ
        simp [Kcall, KP, hrow, h4', h5', k1, k2, u1, u2, u3, u4]
        exact aPost_back hB (v0 := .tup [.agg [.str [], .str [], .int .i64 0, .int .i64 0, .nil, .str [], .nil], .int .i64 N, .agg [.int .i64 0, .int .i64 0, .int .i64 0], .int .i64 0]) (v := .tup [.agg [.str [], .str [], .int .i64 0, .int .i64 0, .nil, .str [], .nil], .int .i64 N, .agg [.int .i64 0, .int .i64 0, .int .i64 0], .int .i64 0]) (by simp; omega) (kK _ _) (by simp [u3, u4]) (nilV_refl _) (by simp)
          ⟨.tup [Rq.zero.av, .int .i64 N, .agg [.int .i64 0, .int .i64 0, .int .i64 0], .int .i64 0], NilD_tup (m := [Rq.zero.av, .int .i64 N, .agg [.int .i64 0, .int .i64 0, .int .i64 0], .int .i64 0]) ⟨NilD_agg (Rq.nil [] [] [] 0 0), .same _, .same _, .same _, trivial⟩, hQ⟩
  · rw [if_neg h0] at hQ
    have h' : (chkE a b c d == 0) = false := by simpa using h0
    have h2 : (chkE a b c d != 0) = true := by simpa using h0
    simp [h', h2]
    exact aPost_same hB (v0 := .tup [.agg [.str [], .str [], .int .i64 0, .int .i64 0, .nil, .str [], .nil], .int .i64 0, .agg [.int .i64 0, .int .i64 (chkE a b c d), .int .i64 0], .int .i64 2]) (v := .tup [.agg [.str [], .str [], .int .i64 0, .int .i64 0, .nil, .str [], .nil], .int .i64 0, .agg [.int .i64 0, .int .i64 (chkE a b c d), .int .i64 0], .int .i64 2]) (by simp) (nilV_refl _) (by simp)
      ⟨.tup [Rq.zero.av, .int .i64 0, .agg [.int .i64 0, .int .i64 (chkE a b c d), .int .i64 0], .int .i64 2], NilD_tup (m := [Rq.zero.av, .int .i64 0, .agg [.int .i64 0, .int .i64 (chkE a b c d), .int .i64 0], .int .i64 2]) ⟨NilD_agg (Rq.nil [] [] [] 0 0), .same _, .same _, .same _, trivial⟩, hQ⟩
end
end Go.Proofs.YtnnhdehmlkkfjaaGreatDoor

set_option linter.unusedVariables false
set_option linter.unusedSimpArgs false
set_option linter.unusedSectionVars false
set_option maxRecDepth 100000
namespace Go.Proofs.YtnnhdehmlkkfjaaGreatDoor
open Go Go.RowKit

section
variable (E : Env) {H : Hp} (Q : AV → Hp → Prop)
def lfI (l : List Fld) (H : Hp) (fr : List AV) (K : Hp) : Prop := K = H ∧ ∃ i : Nat, i ≤ l.length ∧ ∃ x : Nat → AV, fr = [.sl false 2 (flds l), .sl false 2 (flds l), x 2, x 3, x 4, .int .i64 (i : Int), x 6, x 7, x 8, x 9, x 10, x 11, x 12, x 13, x 14, x 15, x 16, x 17, x 18, x 19, x 20, x 21, x 22, x 23, x 24, x 25, x 26, x 27, x 28, x 29, x 30, x 31, x 32, x 33, x 34, x 35, x 36, x 37, x 38, x 39, x 40]
theorem lfields_pc (l : List Fld) (hl : l.length ≤ 1073741824) (hQ : Q (.bool true) H) : PC Tryz.prog E 38 [.sl false 2 (flds l), .sl false 2 (flds l)] H Q := by
  refine pc_enter Tryz.func38 rfl [] [] (by kernel_rfl) (fun hB => ?_)
  simp [Tryz.ntmps38, Tryz.results38, List.replicate_succ]
  refine VL_go (lfI l H) (fun fr _ => l.length - (ai (aget fr 5)).toNat) ⟨rfl, 0, by omega, fr_intro (by simp)⟩ ?_
  rintro fr K ⟨rfl, i, hi, x, rfl⟩
  by_cases h : i < l.length
  · obtain ⟨f, hf⟩ : ∃ f, l[i]? = some f := ⟨_, List.getElem?_eq_getElem h⟩
    have hat := flds_at hf
    have w1 : IntKind.i64.wrap ((i : Int) + 1) = i + 1 := wrap_in (by omega) (by omega)
    simp [h, hat, w1]
    exact Kloop_normal ⟨rfl, i + 1, by omega, fr_intro (by simp)⟩ (by simp; omega)
  · simp [h]
    exact aPost_same0 hB rfl (nilV_refl _) (by simp) hQ
theorem lsame_pc (r : Rq) (h1 : r.fields.length ≤ 1073741824) (h2 : r.trailers.length ≤ 1073741824) (hQ : Q (.bool true) H) : PC Tryz.prog E 16 [r.av, r.av] H Q := by
  refine pc_enter Tryz.func16 rfl [] [] (by kernel_rfl) (fun hB => ?_)
  simp [Tryz.ntmps16, Tryz.results16, List.replicate_succ, Rq.av, Rq.avs]
  refine lfields_pc E _ r.fields h1 ?_
  simp
  refine lfields_pc E _ r.trailers h2 ?_
  simp
  exact aPost_same hB (by simp) (nilV_refl _) (by simp) hQ
theorem llimits_pc (a b c d : Int) (hQ : Q (limV a b c d) H) : PC Tryz.prog E 14 [limV a b c d] H Q := by
  refine pc_enter Tryz.func14 rfl [] [] (by kernel_rfl) (fun hB => ?_)
  simp [Tryz.ntmps14, Tryz.results14, List.replicate_succ, limV]
  exact aPost_same hB (v0 := limV a b c d) (by simp [limV]) (nilV_refl _) (by simp [limV]) hQ
theorem dcheck_pc (a b c d : Int) (hQ : Q (.int .i64 (chkE a b c d)) H) : PC Tryz.prog E 19 [limV a b c d] H Q := by
  refine pc_enter Tryz.func19 rfl [] [] (by kernel_rfl) (fun hB => ?_)
  have fin : ∀ e, chkE a b c d = e → Q (.int .i64 e) H := fun e h => h ▸ hQ
  have bad : ¬ ((1 ≤ a ∧ a ≤ 65536) ∧ (2 ≤ b ∧ b ≤ 1048576) ∧ (0 ≤ c ∧ c ≤ 100) ∧ (0 ≤ d ∧ d ≤ 1073741824)) → Q (.int .i64 115) H := fun h => fin 115 (by unfold chkE; rw [if_neg h])
  by_cases a1 : a < 1
  · simp [Tryz.ntmps19, Tryz.results19, List.replicate_succ, limV, a1]
    exact aPost_same hB rfl (nilV_refl _) (by simp) (bad (by omega))
  by_cases a2 : 65536 < a
  · simp [Tryz.ntmps19, Tryz.results19, List.replicate_succ, limV, a1, a2]
    exact aPost_same hB rfl (nilV_refl _) (by simp) (bad (by omega))
  by_cases b1 : b < 2
  · simp [Tryz.ntmps19, Tryz.results19, List.replicate_succ, limV, a1, a2, b1]
    exact aPost_same hB rfl (nilV_refl _) (by simp) (bad (by omega))
  by_cases b2 : 1048576 < b
  · simp [Tryz.ntmps19, Tryz.results19, List.replicate_succ, limV, a1, a2, b1, b2]
    exact aPost_same hB rfl (nilV_refl _) (by simp) (bad (by omega))
  by_cases c1 : c < 0
  · simp [Tryz.ntmps19, Tryz.results19, List.replicate_succ, limV, a1, a2, b1, b2, c1]
    exact aPost_same hB rfl (nilV_refl _) (by simp) (bad (by omega))
  by_cases c2 : 100 < c
  · simp [Tryz.ntmps19, Tryz.results19, List.replicate_succ, limV, a1, a2, b1, b2, c1, c2]
    exact aPost_same hB rfl (nilV_refl _) (by simp) (bad (by omega))
  by_cases d1 : d < 0
  · simp [Tryz.ntmps19, Tryz.results19, List.replicate_succ, limV, a1, a2, b1, b2, c1, c2, d1]
    exact aPost_same hB rfl (nilV_refl _) (by simp) (bad (by omega))
  by_cases d2 : 1073741824 < d
  · simp [Tryz.ntmps19, Tryz.results19, List.replicate_succ, limV, a1, a2, b1, b2, c1, c2, d1, d2]
    exact aPost_same hB rfl (nilV_refl _) (by simp) (bad (by omega))
  · simp [Tryz.ntmps19, Tryz.results19, List.replicate_succ, limV, a1, a2, b1, b2, c1, c2, d1, d2]
    exact aPost_same hB rfl (nilV_refl _) (by simp) (fin 0 (by unfold chkE; rw [if_pos (by omega)]))
/-! ### A request as the document has it -/
/-! ### A request is read -/
def awkT : List UInt8 := [71, 69, 84, 32, 47, 97, 32, 72, 84, 84, 80, 47, 49, 46, 48, 13, 10, 13, 10, 120]
theorem awk_feed : (feedP (newP 8000 16384 100 1048576) awkT).2 = 19 ∧ (feedP (newP 8000 16384 100 1048576) awkT).1.state = 4 ∧ (feedP (newP 8000 16384 100 1048576) awkT).1.meth = [71, 69, 84] ∧ (feedP (newP 8000 16384 100 1048576) awkT).1.targ = [47, 97] ∧ (feedP (newP 8000 16384 100 1048576) awkT).1.major = 1 := by decide +kernel
theorem lawake_pc (hE : PE E) (hQ : Q (.bool true) H) : PC Tryz.prog E 15 [] H Q := by
  refine pc_enter Tryz.func15 rfl [] [] (by kernel_rfl) (fun hB => ?_)
  simp [Tryz.ntmps15, Tryz.results15, List.replicate_succ]
  refine pusual_pc E _ ?_
  simp
  refine pwhole_pc E _ hE 8000 16384 100 1048576 awkT (by decide) ?_
  obtain ⟨g1, g2, g3, g4, g5⟩ := awk_feed
  have hch : chkE 8000 16384 100 1048576 = 0 := by decide
  have hk : kindP (feedP (newP 8000 16384 100 1048576) awkT).1 = 1 := by unfold kindP; rw [if_pos g2]
  have hf : fltV (feedP (newP 8000 16384 100 1048576) awkT).1 = .agg [.int .i64 0, .int .i64 0, .int .i64 0] := by unfold fltV; rw [if_neg (by omega)]
  unfold wholV
  rw [if_pos hch, hk, hf, g1, g2]
  have hrq : Rq.if (decide ((4 : Int) = 4)) (feedP (newP 8000 16384 100 1048576) awkT).1.rq = (feedP (newP 8000 16384 100 1048576) awkT).1.rq := rfl
  rw [hrq]
  simp [Rq.av, Rq.avs, Prs.rq, g3, g4, g5]
  exact aPost_same hB (by simp) (nilV_refl _) (by simp) hQ
end
end Go.Proofs.YtnnhdehmlkkfjaaGreatDoor

set_option linter.unusedVariables false
set_option linter.unusedSimpArgs false
set_option linter.unusedSectionVars false
set_option maxRecDepth 100000
namespace Go.Proofs.YtnnhdehmlkkfjaaGreatDoor
open Go Go.RowKit

set_option maxRecDepth 100000 in
set_option maxHeartbeats 1000000 in
theorem r1_digit_ok (b : UInt8) (W : World) : Calls Tryz.prog 64 #[.int .u8 b.toNat] W fun e w' => e = .returned (.bool (isDig b)) ∧ w' = W := by
  go_enter Tryz.func64, Tryz.ntmps64
  have hb := b.toNat_lt
  by_cases h1 : 48 ≤ b.toNat
  · by_cases h2 : b.toNat ≤ 57
    · have e1 : isDig b = true := decide_eq_true ⟨h1, h2⟩
      rw [e1]
      go_wp2
      go_ret
      exact ⟨by first | rfl | (simp <;> omega), rfl⟩
    · have e1 : isDig b = false := decide_eq_false (fun h => h2 h.2)
      rw [e1]
      go_wp2
      go_ret
      exact ⟨by first | rfl | (simp <;> omega), rfl⟩
  · have e1 : isDig b = false := decide_eq_false (fun h => h1 h.1)
    rw [e1]
    go_wp2
    go_ret
    exact ⟨by first | rfl | (simp <;> omega), rfl⟩
section
variable (E : Env) (H : Hp) (Q : AV → Hp → Prop)
theorem r1_digit_pc (b : UInt8) (hQ : Q (.bool (isDig b)) H) : PC Tryz.prog E 64 [.int .u8 (b.toNat : Int)] H Q := by
  refine pc_of_calls (v := .bool (isDig b)) (by kernel_rfl) (fun _ => True) (fun w hw => trivial) (fun w β Rd cargs hS hsz hargs => ?_) (.bool _) rfl hQ
  obtain ⟨u, rfl, hu⟩ := args1 hsz hargs
  obtain rfl := rel_int hu
  refine (r1_digit_ok b w).mono ?_
  rintro e w' ⟨rfl, rfl⟩
  exact ⟨_, rfl, Frm.refl _ _, .bool _⟩
theorem r1_letter_pc (b : UInt8) (hQ : Q (.bool (isLet b)) H) : PC Tryz.prog E 65 [.int .u8 (b.toNat : Int)] H Q := by
  refine pc_enter Tryz.func65 rfl [] [] (by kernel_rfl) (fun hB => ?_)
  have fin : ∀ c : Bool, isLet b = c → Q (.bool c) H := fun c hc => hc ▸ hQ
  by_cases h1 : 65 ≤ b.toNat
  · have t1 : (65 : Int) ≤ b.toNat := by omega
    by_cases h2 : b.toNat ≤ 90
    · have t2 : (b.toNat : Int) ≤ 90 := by omega
      simp [Tryz.ntmps65, Tryz.results65, List.replicate_succ, t1, t2]
      exact aPost_same0 hB rfl (nilV_refl _) (by simp) (fin _ (by simp [isLet, h1, h2]))
    · have t2 : ¬ (b.toNat : Int) ≤ 90 := by omega
      by_cases h3 : 97 ≤ b.toNat
      · have t3 : (97 : Int) ≤ b.toNat := by omega
        by_cases h4 : b.toNat ≤ 122
        · have t4 : (b.toNat : Int) ≤ 122 := by omega
          simp [Tryz.ntmps65, Tryz.results65, List.replicate_succ, t1, t2, t3, t4]
          exact aPost_same0 hB rfl (nilV_refl _) (by simp) (fin _ (by simp [isLet, h3, h4]))
        · have t4 : ¬ (b.toNat : Int) ≤ 122 := by omega
          simp [Tryz.ntmps65, Tryz.results65, List.replicate_succ, t1, t2, t3, t4]
          exact aPost_same0 hB rfl (nilV_refl _) (by simp) (fin _ (by simp [isLet, h2, h4]))
      · have t3 : ¬ (97 : Int) ≤ b.toNat := by omega
        simp [Tryz.ntmps65, Tryz.results65, List.replicate_succ, t1, t2, t3]
        exact aPost_same0 hB rfl (nilV_refl _) (by simp) (fin _ (by simp [isLet, h2, h3]))
  · have t1 : ¬ (65 : Int) ≤ b.toNat := by omega
    have t3 : ¬ (97 : Int) ≤ b.toNat := by omega
    simp [Tryz.ntmps65, Tryz.results65, List.replicate_succ, t1, t3]
    exact aPost_same0 hB rfl (nilV_refl _) (by simp) (fin _ (by simp [isLet, h1]; omega))
def r1SignInv (b : UInt8) (H : Hp) (fr : List AV) (H' : Hp) : Prop := H' = H ∧ ∃ i : Nat, i ≤ 15 ∧ (sgs.take i).contains b = false ∧ ∃ x : Nat → AV, fr = [.int .u8 (b.toNat : Int), x 1, x 2, .str sgs, .int .i64 i, x 5, x 6, x 7, x 8, x 9, x 10, x 11, x 12, x 13, x 14, x 15, x 16, x 17, x 18, x 19, x 20, x 21]
theorem r1_sign_pc (b : UInt8) (hQ : Q (.bool (signB b)) H) : PC Tryz.prog E 48 [.int .u8 (b.toNat : Int)] H Q := by
  refine pc_enter Tryz.func48 rfl [] [] (by kernel_rfl) (fun hB => ?_)
  have fin : ∀ c : Bool, signB b = c → Q (.bool c) H := fun c hc => hc ▸ hQ
  simp [Tryz.ntmps48, Tryz.results48, List.replicate_succ]
  refine r1_digit_pc E _ _ b ?_
  cases hd : isDig b
  · simp
    refine r1_letter_pc E _ _ b ?_
    cases hl : isLet b
    · simp
      refine VL_go (r1SignInv b H) (fun fr _ => 15 - (ai (aget fr 4)).toNat) ⟨rfl, 0, by omega, rfl, fr_intro (by simp [sgs])⟩ ?_
      rintro fr H' ⟨rfl, i, hi, hall, x, rfl⟩
      have hlen : sgs.length = 15 := rfl
      by_cases h : i < 15
      · obtain ⟨c, hc⟩ : ∃ c, sgs[i]? = some c := ⟨_, List.getElem?_eq_getElem (by rw [hlen]; exact h)⟩
        have hat := lat_eq hc
        have h15 : (i : Int) < 15 := by omega
        have hw : IntKind.i64.wrap ((i : Int) + 1) = i + 1 := wrap_in (by omega) (by omega)
        by_cases he : c = b
        · have t1 : ((c.toNat : Int) == (b.toNat : Int)) = true := by simp [he]
          simp [hlen, h15, hat, t1]
          refine aPost_same0 hB rfl (nilV_refl _) (by simp) (fin _ ?_)
          rw [← sign_refB, show sgs.contains b = true by rw [List.contains_iff_mem, ← he]; exact List.mem_of_getElem? hc]
          simp
        · have t1 : ((c.toNat : Int) == (b.toNat : Int)) = false := by
            rw [beq_eq_false_iff_ne]
            intro hh
            exact he (UInt8.toNat_inj.1 (by omega))
          simp [hlen, h15, hat, t1, hw]
          refine Kloop_normal ⟨rfl, i + 1, by omega, ?_, fr_intro (by simp)⟩ (by simp; omega)
          rw [List.take_add_one, hc]
          simp at hall
          simp [hall]
          exact fun e => he e.symm
      · obtain rfl : i = 15 := by omega
        simp [hlen]
        refine aPost_same0 hB rfl (nilV_refl _) (by simp) (fin _ ?_)
        rw [← sign_refB, hd, hl]
        exact hall
    · simp
      refine aPost_same0 hB rfl (nilV_refl _) (by simp) (fin _ ?_)
      rw [← sign_refB, hl]; simp
  · simp
    refine aPost_same0 hB rfl (nilV_refl _) (by simp) (fin _ ?_)
    rw [← sign_refB, hd]; simp
def r1TokInv (l : List UInt8) (H : Hp) (fr : List AV) (H' : Hp) : Prop := H' = H ∧ ∃ i : Nat, i ≤ l.length ∧ (l.take i).all signB = true ∧ ∃ x : Nat → AV, fr = [.str l, x 1, x 2, .int .i64 i, x 4, x 5, x 6, x 7, x 8, x 9, x 10, x 11, x 12, x 13, x 14, x 15, x 16]
theorem r1_token_pc (l : List UInt8) (hl : l.length ≤ cap) (hQ : Q (.bool (tokB l)) H) : PC Tryz.prog E 42 [.str l] H Q := by
  simp only [cap] at hl
  refine pc_enter Tryz.func42 rfl [] [] (by kernel_rfl) (fun hB => ?_)
  have fin : ∀ c : Bool, tokB l = c → Q (.bool c) H := fun c hc => hc ▸ hQ
  simp [Tryz.ntmps42, Tryz.results42, List.replicate_succ]
  refine VL_go (r1TokInv l H) (fun fr _ => l.length - (ai (aget fr 3)).toNat) ⟨rfl, 0, by omega, rfl, fr_intro (by simp)⟩ ?_
  rintro fr H' ⟨rfl, i, hi, hall, x, rfl⟩
  by_cases h : i < l.length
  · obtain ⟨b, hb⟩ : ∃ b, l[i]? = some b := ⟨_, List.getElem?_eq_getElem h⟩
    have hat := lat_eq hb
    have hw : IntKind.i64.wrap ((i : Int) + 1) = i + 1 := wrap_in (by omega) (by omega)
    simp [h, hat]
    refine r1_sign_pc E _ _ b ?_
    cases hf : signB b
    · simp [hf]
      exact aPost_same0 hB rfl (nilV_refl _) (by simp) (fin _ (by rw [tokB, all_bad signB l i b hb hf]; rfl))
    · simp [hf, hw]
      refine Kloop_normal ⟨rfl, i + 1, by omega, ?_, fr_intro (by simp)⟩ (by simp; omega)
      rw [all_take signB l i b hb, hall, hf]; rfl
  · have : l.take i = l := List.take_of_length_le (by omega)
    rw [this] at hall
    have ht : tokB l = (l != []) := by rw [tokB, hall, len_ne l 0]; simp
    simp [h]
    exact aPost_same0 hB rfl (nilV_refl _) (by simp) (fin _ ht)
end
section
variable (E : Env) {H : Hp} (Q : AV → Hp → Prop)
end
end Go.Proofs.YtnnhdehmlkkfjaaGreatDoor

set_option linter.unusedVariables false
set_option linter.unusedSimpArgs false
set_option linter.unusedSectionVars false
set_option maxRecDepth 100000
namespace Go.Proofs.YtnnhdehmlkkfjaaGreatDoor
open Go Go.RowKit

section
variable (E : Env) {H : Hp} (Q : AV → Hp → Prop)
theorem dmeth_pc (s : List UInt8) (hl : s.length ≤ cap) (hQ : Q (.bool (tokB s && decide (s.length ≤ 24))) H) : PC Tryz.prog E 22 [.str s] H Q := by
  refine pc_enter Tryz.func22 rfl [] [] (by kernel_rfl) (fun hB => ?_)
  simp [Tryz.ntmps22, Tryz.results22, List.replicate_succ]
  refine r1_token_pc E _ _ s hl ?_
  cases ht : tokB s with
  | false =>
    rw [ht] at hQ
    simp
    exact aPost_same0 hB rfl (nilV_refl _) (by simp) hQ
  | true =>
    rw [ht] at hQ
    have e : decide ((s.length : Int) ≤ 24) = decide (s.length ≤ 24) := by rw [decide_eq_decide]; omega
    rw [Bool.true_and, ← e] at hQ
    simp
    exact aPost_same0 hB rfl (nilV_refl _) (by simp) hQ
set_option maxHeartbeats 1000000 in
theorem lnil_pc (hE : PE E) (s : List UInt8) (hQ : Q (.bool true) H) : PC Tryz.prog E 8 [.str s] H Q := by
  refine pc_enter Tryz.func8 rfl [] [] (by kernel_rfl) (fun hB => ?_)
  simp [Tryz.ntmps8, Tryz.results8, List.replicate_succ]
  refine phead0_pc E _ ?_
  simp [Rq.av, Rq.avs, Rq.zero]
  refine prequest0_pc E _ ?_
  simp [Rq.av, Rq.avs, Rq.zero]
  refine pfault0_pc E _ ?_
  simp
  refine lawake_pc E _ hE ?_
  simp
  refine pfeed0_pc E _ s ?_
  simp
  refine pstate0_pc E _ ?_
  simp
  refine pused0_pc E _ ?_
  simp
  refine pwaits0_pc E _ ?_
  simp
  refine pnext0_pc E _ ?_
  simp
  refine PC.argsD (args' := [Rq.zero.av, Rq.zero.av]) ⟨.same _, NilD_agg (Rq.nil [] [] [] 0 0), trivial⟩ (lsame_pc E _ .zero (by simp [Rq.zero]) (by simp [Rq.zero]) ?_)
  simp
  refine PC.argsD (args' := [Rq.zero.av, Rq.zero.av]) ⟨.same _, NilD_agg (Rq.nil [] [] [] 0 0), trivial⟩ (lsame_pc E _ .zero (by simp [Rq.zero]) (by simp [Rq.zero]) ?_)
  simp
  exact aPost_same hB (v0 := .bool true) (v := .bool true) (by simp) (nilV_refl _) (by simp) hQ
set_option maxHeartbeats 1000000 in
theorem llim_pc (hE : PE E) (a b c d : Int) (s : List UInt8) (hs : s.length ≤ cap) (hQ : Q (.bool true) H) : PC Tryz.prog E 4 [limV a b c d, .str s] H Q := by
  refine pc_enter Tryz.func4 rfl [] [] (by kernel_rfl) (fun hB => ?_)
  simp [Tryz.ntmps4, Tryz.results4, List.replicate_succ, limV]
  refine pusual_pc E _ ?_
  simp [limV]
  refine pnew_pc E _ a b c d (fun h0 hBn => ?_) (fun h0 => ?_)
  · simp [nwH]
    refine llimits_pc E _ a b c d ?_
    simp
    refine dcheck_pc E _ a b c d ?_
    simp [h0]
    refine lawake_pc E _ hE ?_
    simp
    refine pcheck_pc E _ a b c d ?_
    simp [h0]
    refine pmeth_pc E _ hE.1.1 s hs ?_
    simp
    refine dmeth_pc E _ s hs ?_
    simp
    exact aPost_same hB (v0 := .bool true) (v := .bool true) (by simp) (nilV_refl _) (by simp) hQ
  · have h0' : (chkE a b c d == 0) = false := by simpa using h0
    have h02 : (chkE a b c d != 0) = true := by simpa using h0
    simp
    refine llimits_pc E _ a b c d ?_
    simp
    refine dcheck_pc E _ a b c d ?_
    simp
    refine lawake_pc E _ hE ?_
    simp
    refine pcheck_pc E _ a b c d ?_
    simp [h02, h0']
    refine pmeth_pc E _ hE.1.1 s hs ?_
    simp
    refine dmeth_pc E _ s hs ?_
    simp
    exact aPost_same hB (v0 := .bool true) (v := .bool true) (by simp) (nilV_refl _) (by simp) hQ
end
end Go.Proofs.YtnnhdehmlkkfjaaGreatDoor

set_option linter.unusedVariables false
set_option linter.unnecessarySimpa false
set_option linter.unusedSimpArgs false
set_option linter.unusedSectionVars false
set_option maxRecDepth 100000
namespace Go.Proofs.YtnnhdehmlkkfjaaGreatDoor
open Go Go.RowKit Go.Proofs

section
variable (E : Env) (H : Hp) (Q : AV → Hp → Prop)
end
end Go.Proofs.YtnnhdehmlkkfjaaGreatDoor

set_option linter.unusedVariables false
set_option linter.unnecessarySimpa false
set_option linter.unusedSimpArgs false
set_option linter.unusedSectionVars false
set_option maxRecDepth 100000
namespace Go.Proofs.YtnnhdehmlkkfjaaGreatDoor
open Go Go.RowKit Go.Proofs

section
variable (E : Env) (H : Hp) (Q : AV → Hp → Prop)
end
end Go.Proofs.YtnnhdehmlkkfjaaGreatDoor

set_option linter.unusedVariables false
set_option linter.unusedSimpArgs false
set_option maxRecDepth 100000
namespace Go.Proofs.YtnnhdehmlkkfjaaGreatDoor
open Go Go.RowKit Go.Lib

def dgB (k : Nat) : UInt8 := UInt8.ofNat (48 + k)
end Go.Proofs.YtnnhdehmlkkfjaaGreatDoor

set_option linter.unusedVariables false
set_option linter.unnecessarySimpa false
set_option linter.unusedSimpArgs false
set_option linter.unusedSectionVars false
set_option maxRecDepth 100000
namespace Go.Proofs.YtnnhdehmlkkfjaaGreatDoor
open Go Go.RowKit Go.Proofs Go.Lib

/-- A number below a thousand in three digits. -/
def d3 (n : Int) : List UInt8 := [dgB (n.toNat / 100), dgB (n.toNat / 10 % 10), dgB (n.toNat % 10)]
end Go.Proofs.YtnnhdehmlkkfjaaGreatDoor

set_option linter.unusedVariables false
set_option linter.unnecessarySimpa false
set_option linter.unusedSimpArgs false
set_option linter.unusedSectionVars false
set_option maxRecDepth 100000
namespace Go.Proofs.YtnnhdehmlkkfjaaGreatDoor
open Go Go.RowKit Go.Proofs Go.Lib

section
variable (E : Env) (H : Hp) (Q : AV → Hp → Prop)
end
end Go.Proofs.YtnnhdehmlkkfjaaGreatDoor

set_option linter.unusedVariables false
set_option linter.unnecessarySimpa false
set_option linter.unusedSimpArgs false
set_option linter.unusedSectionVars false
set_option maxRecDepth 100000
namespace Go.Proofs.YtnnhdehmlkkfjaaGreatDoor
open Go Go.RowKit Go.Proofs Go.Deep

@[simp] theorem abin_sleql (P : Program) (t : TypeId) (o : Bool) (k : Nat) (r : List AV) (rs : List (List AV)) : abin P .eql t (.sl o k (r :: rs)) .nil = if (tsl P t).isSome then some (.bool false) else none := rfl
@[simp] theorem abin_slneq (P : Program) (t : TypeId) (o : Bool) (k : Nat) (r : List AV) (rs : List (List AV)) : abin P .neq t (.sl o k (r :: rs)) .nil = if (tsl P t).isSome then some (.bool true) else none := rfl
@[simp] theorem abin_bxeql (P : Program) (t : TypeId) (i o n c k : Nat) : abin P .eql t (.bx i o n c k) .nil = if (tsl P t).isSome then some (.bool false) else none := rfl
@[simp] theorem abin_bxneq (P : Program) (t : TypeId) (i o n c k : Nat) : abin P .neq t (.bx i o n c k) .nil = if (tsl P t).isSome then some (.bool true) else none := rfl
section
variable (E : Env) (H : Hp) (Q : AV → Hp → Prop)
variable (i : Nat) (d : Dec) (hd : H[i]? = some d.av)
include hd
end
section
variable (E : Env) (H : Hp) (Q : AV → Hp → Prop)
end
end Go.Proofs.YtnnhdehmlkkfjaaGreatDoor

set_option linter.unusedVariables false
set_option linter.unnecessarySimpa false
set_option linter.unusedSimpArgs false
set_option linter.unusedSectionVars false
set_option maxRecDepth 100000
namespace Go.Proofs.YtnnhdehmlkkfjaaGreatDoor
open Go Go.RowKit Go.Proofs

section
variable (E : Env) (H : Hp) (Q : AV → Hp → Prop)
end
end Go.Proofs.YtnnhdehmlkkfjaaGreatDoor

set_option linter.unusedVariables false
set_option linter.unnecessarySimpa false
set_option linter.unusedSimpArgs false
set_option linter.unusedSectionVars false
set_option maxRecDepth 100000
namespace Go.Proofs.YtnnhdehmlkkfjaaGreatDoor
open Go Go.RowKit Go.Proofs

section
variable {r : Resp} {h : Mann}
end
section
variable (E : Env) (H : Hp) (Q : AV → Hp → Prop)
end
end Go.Proofs.YtnnhdehmlkkfjaaGreatDoor

set_option linter.unusedVariables false
set_option linter.unnecessarySimpa false
set_option linter.unusedSimpArgs false
set_option linter.unusedSectionVars false
set_option maxRecDepth 100000
namespace Go.Proofs.YtnnhdehmlkkfjaaGreatDoor
open Go Go.RowKit Go.Proofs

section
variable (E : Env) (H : Hp) (Q : AV → Hp → Prop)
end
end Go.Proofs.YtnnhdehmlkkfjaaGreatDoor

set_option linter.unusedVariables false
set_option linter.unnecessarySimpa false
set_option linter.unusedSimpArgs false
set_option linter.unusedSectionVars false
set_option maxRecDepth 100000
namespace Go.Proofs.YtnnhdehmlkkfjaaGreatDoor
open Go Go.RowKit Go.Proofs

@[simp] theorem ints_length' (l : List Int) : (ints l).length = l.length := by simp [ints]
section
variable (E : Env) (H : Hp) (Q : AV → Hp → Prop)
end
end Go.Proofs.YtnnhdehmlkkfjaaGreatDoor

set_option linter.unusedVariables false
set_option linter.unnecessarySimpa false
set_option linter.unusedSimpArgs false
set_option linter.unusedSectionVars false
set_option maxRecDepth 100000
namespace Go.Proofs.YtnnhdehmlkkfjaaGreatDoor
open Go Go.RowKit Go.Proofs Go.Deep

end Go.Proofs.YtnnhdehmlkkfjaaGreatDoor

set_option linter.unusedVariables false
set_option linter.unnecessarySimpa false
set_option linter.unusedSimpArgs false
set_option linter.unusedSectionVars false
set_option maxRecDepth 100000
namespace Go.Proofs.YtnnhdehmlkkfjaaGreatDoor
open Go Go.RowKit Go.Proofs

@[simp] theorem strRows_length (l : List (List UInt8)) : (strRows l).length = l.length := by simp [strRows]
section
variable (E : Env) (H : Hp) (Q : AV → Hp → Prop)
end
end Go.Proofs.YtnnhdehmlkkfjaaGreatDoor

set_option linter.unusedVariables false
set_option linter.unnecessarySimpa false
set_option linter.unusedSimpArgs false
set_option linter.unusedSectionVars false
set_option maxRecDepth 100000
namespace Go.Proofs.YtnnhdehmlkkfjaaGreatDoor
open Go Go.RowKit Go.Proofs

section
variable (E : Env) (H : Hp) (Q : AV → Hp → Prop)
end
end Go.Proofs.YtnnhdehmlkkfjaaGreatDoor

set_option linter.unusedVariables false
set_option linter.unnecessarySimpa false
set_option linter.unusedSimpArgs false
set_option linter.unusedSectionVars false
set_option maxRecDepth 100000
namespace Go.Proofs.YtnnhdehmlkkfjaaGreatDoor
open Go Go.RowKit Go.Proofs

section
variable (E : Env) (H : Hp) (Q : AV → Hp → Prop)
end
end Go.Proofs.YtnnhdehmlkkfjaaGreatDoor

set_option linter.unusedVariables false
set_option linter.unnecessarySimpa false
set_option linter.unusedSimpArgs false
set_option linter.unusedSectionVars false
set_option maxRecDepth 100000
namespace Go.Proofs.YtnnhdehmlkkfjaaGreatDoor
open Go Go.RowKit Go.Proofs

section
variable (E : Env) (H : Hp) (Q : AV → Hp → Prop)
end
end Go.Proofs.YtnnhdehmlkkfjaaGreatDoor

set_option linter.unusedVariables false
set_option linter.unnecessarySimpa false
set_option linter.unusedSimpArgs false
set_option linter.unusedSectionVars false
set_option maxRecDepth 100000
namespace Go.Proofs.YtnnhdehmlkkfjaaGreatDoor
open Go Go.RowKit Go.Proofs

end Go.Proofs.YtnnhdehmlkkfjaaGreatDoor

set_option linter.unusedVariables false
set_option linter.unnecessarySimpa false
set_option linter.unusedSimpArgs false
set_option linter.unusedSectionVars false
set_option maxRecDepth 100000
namespace Go.Proofs.YtnnhdehmlkkfjaaGreatDoor
open Go Go.RowKit Go.Proofs

section
variable (E : Env) (H : Hp) (Q : AV → Hp → Prop)
end
end Go.Proofs.YtnnhdehmlkkfjaaGreatDoor

set_option linter.unusedVariables false
set_option linter.unnecessarySimpa false
set_option linter.unusedSimpArgs false
set_option linter.unusedSectionVars false
set_option maxRecDepth 100000
namespace Go.Proofs.YtnnhdehmlkkfjaaGreatDoor
open Go Go.RowKit Go.Proofs

end Go.Proofs.YtnnhdehmlkkfjaaGreatDoor

set_option linter.unusedVariables false
set_option linter.unnecessarySimpa false
set_option linter.unusedSimpArgs false
set_option linter.unusedSectionVars false
set_option maxRecDepth 100000
namespace Go.Proofs.YtnnhdehmlkkfjaaGreatDoor
open Go Go.RowKit Go.Proofs

/-! ### A reader -/
structure RM where
  bytes : List UInt8
  err : Int
  over : Bool
  ended : Bool
  most : Int
  asked : List (List UInt8)
  done : List Rep
/-- The bytes are no part of what is told behind an error. -/
def RM.put (r : RM) (u : List UInt8) : RM := { r with bytes := r.bytes ++ u }
end Go.Proofs.YtnnhdehmlkkfjaaGreatDoor

set_option linter.unusedVariables false
set_option linter.unnecessarySimpa false
set_option linter.unusedSimpArgs false
set_option linter.unusedSectionVars false
set_option maxRecDepth 100000
namespace Go.Proofs.YtnnhdehmlkkfjaaGreatDoor
open Go Go.RowKit Go.Proofs

/-- A reply's cells. -/
def Rep.avs (r : Rep) : List AV := [.int .i64 r.status, .str r.reason, .sl false 2 (flds r.fields), .str r.body, .int .i64 r.minor, .sl false 2 (flds r.trailers), .int .i64 r.kind, .int .i64 r.length, .bool r.persist]
section
variable (E : Env) (H : Hp) (Q : AV → Hp → Prop)
end
end Go.Proofs.YtnnhdehmlkkfjaaGreatDoor

set_option linter.unusedVariables false
set_option linter.unnecessarySimpa false
set_option linter.unusedSimpArgs false
set_option linter.unusedSectionVars false
set_option maxRecDepth 100000
namespace Go.Proofs.YtnnhdehmlkkfjaaGreatDoor
open Go Go.RowKit Go.Proofs

section
variable (E : Env) (H : Hp) (Q : AV → Hp → Prop)
end
end Go.Proofs.YtnnhdehmlkkfjaaGreatDoor

set_option linter.unusedVariables false
set_option linter.unnecessarySimpa false
set_option linter.unusedSimpArgs false
set_option linter.unusedSectionVars false
set_option maxRecDepth 100000
namespace Go.Proofs.YtnnhdehmlkkfjaaGreatDoor
open Go Go.RowKit Go.Proofs

@[simp] theorem bnd_ints {N : Nat} (l : List Int) : (∀ r ∈ ints l, ∀ x ∈ r, Bnd N x) = True := eq_true fun r hr x hx => by
  obtain ⟨z, _, rfl⟩ := List.mem_map.1 hr
  simp at hx
  subst hx
  exact .int _ _
section
variable (E : Env) (H : Hp) (Q : AV → Hp → Prop)
end
end Go.Proofs.YtnnhdehmlkkfjaaGreatDoor

set_option linter.unusedVariables false
set_option linter.unnecessarySimpa false
set_option linter.unusedSimpArgs false
set_option linter.unusedSectionVars false
set_option maxRecDepth 100000
namespace Go.Proofs.YtnnhdehmlkkfjaaGreatDoor
open Go Go.RowKit Go.Proofs

section
variable (E : Env) (H : Hp) (Q : AV → Hp → Prop)
end
end Go.Proofs.YtnnhdehmlkkfjaaGreatDoor

set_option linter.unusedVariables false
set_option linter.unnecessarySimpa false
set_option linter.unusedSimpArgs false
set_option linter.unusedSectionVars false
set_option maxRecDepth 100000
namespace Go.Proofs.YtnnhdehmlkkfjaaGreatDoor
open Go Go.RowKit Go.Proofs Go.Deep

section
variable (E : Env) (H : Hp) (Q : AV → Hp → Prop)
end
end Go.Proofs.YtnnhdehmlkkfjaaGreatDoor

set_option linter.unusedVariables false
set_option linter.unnecessarySimpa false
set_option linter.unusedSimpArgs false
set_option linter.unusedSectionVars false
set_option maxRecDepth 100000
namespace Go.Proofs.YtnnhdehmlkkfjaaGreatDoor
open Go Go.RowKit Go.Proofs Go.Deep

/-- The three tables. -/
def Tabs (W : World) : Prop := Signs W ∧ Tz W ∧ Lib.TabIs Tryz.prog W "internal/strconv.uint64pow10" .u64 Lib.pow10Tab
theorem tab_lt {W : World} (hT : Lib.TabIs Tryz.prog W "internal/strconv.uint64pow10" .u64 Lib.pow10Tab) : 1 < W.heap.size := by
  have := hT
  unfold Lib.TabIs World.var? at this
  rw [pow10Named] at this
  simp only [Option.bind_some] at this
  by_cases h : 1 < W.heap.size
  · exact h
  · rw [Array.getElem?_eq_none (by omega)] at this; cases this
end Go.Proofs.YtnnhdehmlkkfjaaGreatDoor

set_option linter.unusedVariables false
set_option linter.unusedSimpArgs false
set_option linter.unusedSectionVars false
set_option maxRecDepth 100000
namespace Go.Proofs.YtnnhdehmlkkfjaaGreatDoor
open Go Go.RowKit Go.Proofs Go.Deep

/-- What parse's laws need of the world. -/
def PZ (E : Env) : Prop := PE E ∧ SZ E
def MaxLenAt (W : World) : Prop := ∃ m : Int, W.cell? ⟨2, 0, none⟩ = some (.int .i64 m)
theorem maxLen_of_shape {W : World} (h : W.ShapedOpen Tryz.prog) : MaxLenAt W :=
  cell_of_shapedOpen_int (zero := #[.int .i64 0]) (t := 3) h (of_decide_eq_true (by kernel_rfl)) (by kernel_rfl) rfl (by kernel_rfl) (by kernel_rfl) Tryz.underlying3
theorem calls_pz {f : FuncId} {args : List AV} {cargs : Array Value} {W : World} (hT : Tabs W) (hM : MaxLenAt W) (hsz : cargs.size = args.length)
    (hargs : ∀ (t : Nat) x u, args[t]? = some x → cargs[t]? = some u → Rel W (fun _ => 0) (old W) x u ∧ Bnd 0 x ∧ x.free = true)
    (h : ∀ (E : Env) (Q : AV → Hp → Prop), PZ E → Q (.bool true) [] → PC Tryz.prog E f args [] Q) : Calls Tryz.prog f cargs W fun e w' => e = .returned (.bool true) ∧ Frm (fun _ => False) W w' := by
  obtain ⟨m, hm⟩ := hM
  refine calls_of_pcF (fun b => b = 0 ∨ b = 4 ∨ b = 1 ∨ b = 2)
    (fun b hb => ?_) (old W) (fun _ _ h => h) hsz hargs
    (fun E Q h0 hf hq => h E Q ⟨⟨⟨⟨by rw [hf]; exact .inl rfl, by rw [h0]; exact hT.1⟩, by rw [hf]; exact .inr (.inr (.inl rfl)), by rw [h0]; exact hT.2.2⟩, ⟨by rw [hf]; exact .inr (.inr (.inr rfl)), m, by rw [h0]; exact hm⟩⟩, ⟨by rw [hf]; exact .inl rfl, by rw [h0]; exact hT.1⟩, by rw [hf]; exact .inr (.inl rfl), by rw [h0]; exact hT.2.1⟩ hq)
  rcases hb with hb | hb | hb | hb
  · exact law_fix W hT.1 b hb
  · exact hb ▸ World.block_lt_of_cell? _ _ hT.2.1
  · exact hb ▸ tab_lt hT.2.2
  · exact hb ▸ World.block_lt_of_cell? _ _ hm
theorem lnil_true (W : World) (s : ByteArray) (hs : s.size ≤ 1048576) (hT : Tabs W) (hM : MaxLenAt W) :
    Calls Tryz.prog 8 #[.string s] W fun e w' => e = .returned (.bool true) ∧ Frm (fun _ => False) W w' := by
  refine calls_pz (args := [.str s.data.toList]) hT hM rfl (fun t x u hx hu => ?_) (fun E Q hE h => lnil_pc E Q hE.1 s.data.toList h)
  match t with
  | 0 => simp at hx hu; subst hx; subst hu; exact rel_stringW W s hs
  | t + 1 => simp at hx
theorem rel_limits4 {W : World} {cs : Array Value} {ks : List AV} (op : Opened W [.int .i64, .int .i64, .int .i64, .int .i64] cs.toList ks) : ∃ a b c d : Int,
    (-9223372036854775808 ≤ a ∧ a ≤ 9223372036854775807) ∧ (-9223372036854775808 ≤ b ∧ b ≤ 9223372036854775807) ∧ (-9223372036854775808 ≤ c ∧ c ≤ 9223372036854775807) ∧ (-9223372036854775808 ≤ d ∧ d ≤ 9223372036854775807) ∧
    Rel W (fun _ => 0) (old W) (limV a b c d) (.agg cs) ∧ Bnd 0 (limV a b c d) ∧ (limV a b c d).free = true := by
  match ks, op.len with
  | [y0, y1, y2, y3], _ =>
    obtain ⟨z0, rfl, w0⟩ := kind_i64 (op.kind 0 _ _ rfl rfl)
    obtain ⟨z1, rfl, w1⟩ := kind_i64 (op.kind 1 _ _ rfl rfl)
    obtain ⟨z2, rfl, w2⟩ := kind_i64 (op.kind 2 _ _ rfl rfl)
    obtain ⟨z3, rfl, w3⟩ := kind_i64 (op.kind 3 _ _ rfl rfl)
    refine ⟨z0, z1, z2, z3, w0, w1, w2, w3, .agg _ _ (by have := op.clen; simpa using this) (fun x hx => ?_) (fun j x u hx hu => ?_), ?_, rfl⟩
    · simp at hx
      rcases hx with rfl | rfl | rfl | rfl <;> exact ⟨rfl, rfl⟩
    · exact (op.rel j x u hx (by simpa using hu)).2.2.1
    · simp [limV]
theorem llim_true (W : World) (cs : Array Value) (ks : List AV) (op : Opened W [.int .i64, .int .i64, .int .i64, .int .i64] cs.toList ks) (s : ByteArray) (hs : s.size ≤ 1048576) (hT : Tabs W) (hM : MaxLenAt W) :
    Calls Tryz.prog 4 #[.agg cs, .string s] W fun e w' => e = .returned (.bool true) ∧ Frm (fun _ => False) W w' := by
  obtain ⟨a, b, c, d, w0, w1, w2, w3, hr⟩ := rel_limits4 op
  refine calls_pz (args := [limV a b c d, .str s.data.toList]) hT hM rfl (fun t x u hx hu => ?_) (fun E Q hE h => llim_pc E Q hE.1 a b c d s.data.toList (by rw [size_toList]; simp only [cap]; omega) h)
  match t with
  | 0 => simp at hx hu; subst hx; subst hu; exact hr
  | 1 => simp at hx hu; subst hx; subst hu; exact rel_stringW W s hs
  | t + 2 => simp at hx
end Go.Proofs.YtnnhdehmlkkfjaaGreatDoor

set_option linter.unusedVariables false
set_option linter.unusedSimpArgs false
namespace Go.Proofs.YtnnhdehmlkkfjaaGreatDoor
open Go Go.ChangeShapes Go.WideShapes Go.ChangeAt Go.RowKit Go.Deep

theorem signsNamed : Tryz.prog.globalNamed "turnpike/octet.signs" = some 0 := by kernel_rfl
theorem signsType : (Tryz.prog.globals[0]?).map (·.type) = some 140 := by kernel_rfl
theorem signs_of_row {W : World} {rest : List (String × DataW Unit)} (h : laidMet Tryz.prog (("turnpike/octet.signs", Rows.laid_turnpike_octet_signs) :: rest) W) : Signs W := by
  have ht : Lib.TabIs Tryz.prog W "turnpike/octet.signs" .u32 signTab := Lib.tabIs_of_head (rest := rest) signsNamed signsType Tryz.underlying140 Tryz.underlying139 (by kernel_rfl) (by kernel_rfl) h
  intro j z hz
  have hj := (List.getElem?_eq_some_iff.1 hz).1
  have := ht.cell signsNamed j hj
  rw [List.getD, hz] at this
  exact this
end Go.Proofs.YtnnhdehmlkkfjaaGreatDoor

set_option linter.unusedVariables false
set_option linter.unusedSimpArgs false
namespace Go.Proofs.YtnnhdehmlkkfjaaGreatDoor
open Go Go.ChangeShapes Go.WideShapes Go.ChangeAt Go.RowKit Go.Deep

theorem dbNamed : Tryz.prog.globalNamed "math/bits.deBruijn64tab" = some 4 := by kernel_rfl
theorem dbType : (Tryz.prog.globals[4]?).map (·.type) = some 247 := by kernel_rfl
def dbTab : List Int := [0, 1, 56, 2, 57, 49, 28, 3, 61, 58, 42, 50, 38, 29, 17, 4, 62, 47, 59, 36, 45, 43, 51, 22, 53, 39, 33, 30, 24, 18, 12, 5, 63, 55, 48, 27, 60, 41, 37, 16, 46, 35, 44, 21, 52, 32, 23, 11, 54, 26, 40, 15, 34, 20, 31, 10, 25, 14, 19, 9, 13, 8, 7, 6]
theorem tz_of_row {W : World} {rest : List (String × DataW Unit)} (h : laidMet Tryz.prog (("math/bits.deBruijn64tab", Rows.laid_math_bits_deBruijn64tab) :: rest) W) : Tz W := by
  have ht : Lib.TabIs Tryz.prog W "math/bits.deBruijn64tab" .u8 dbTab := Lib.tabIs_of_head (rest := rest) dbNamed dbType Tryz.underlying247 Tryz.underlying5 (by kernel_rfl) (by kernel_rfl) h
  exact ht.cell dbNamed 15 (by decide)
end Go.Proofs.YtnnhdehmlkkfjaaGreatDoor

