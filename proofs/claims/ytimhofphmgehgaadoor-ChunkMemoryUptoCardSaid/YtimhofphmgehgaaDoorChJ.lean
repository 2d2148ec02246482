/- The chunk layer's decoder: fed, and asked. -/
import Derived.Test.YtimhofphmgehgaaDoorChI
set_option linter.unusedVariables false
set_option linter.unnecessarySimpa false
set_option linter.unusedSimpArgs false
set_option linter.unusedSectionVars false
set_option maxRecDepth 100000
namespace Go.Proofs.YtimhofphmgehgaaDoor
open Go Go.RowKit Go.Proofs

def stepD (d : Dec) (b : UInt8) : Dec × Int := match d.st with
  | .size => sizeD d b
  | .data => dataD d b
  | .first => firstD d b
  | .second => secondD d b
  | .trailer => trailerD d b
/-- One byte. -/
def feed1 (d : Dec) (b : UInt8) : Dec := { (stepD { d with total := d.total + 1 } b).1 with err := (stepD { d with total := d.total + 1 } b).2 }
/-- Bytes, as far as they are taken, and how many. -/
def feedD (d : Dec) : List UInt8 → Dec × Nat
  | [] => (d, 0)
  | b :: s => if (feed1 d b).done = true ∨ (feed1 d b).err ≠ 0 then (feed1 d b, 1) else ((feedD (feed1 d b) s).1, (feedD (feed1 d b) s).2 + 1)
def okD (d : Dec) : Prop := d.line.length ≤ d.total ∧ d.body.length ≤ d.total ∧ d.trailers.length ≤ d.total ∧ d.section_ ≤ d.total ∧ (0 ≤ d.most ∧ d.most ≤ 9223372036854775807) ∧ (0 ≤ d.room ∧ d.room ≤ 9223372036854775807) ∧ (0 ≤ d.fields ∧ d.fields ≤ 9223372036854775807) ∧ (d.st = .data → 1 ≤ d.left ∧ d.left ≤ 1099511627776)
theorem stepD_total (d : Dec) (b : UInt8) : (stepD d b).1.total = d.total ∧ (stepD d b).1.most = d.most ∧ (stepD d b).1.room = d.room ∧ (stepD d b).1.fields = d.fields := by
  unfold stepD sizeD dataD firstD secondD trailerD
  (repeat' split) <;> exact ⟨rfl, rfl, rfl, rfl⟩
theorem stepD_ok (d : Dec) (b : UInt8) (h : okD d) (ht : 1 ≤ d.total) (h1 : d.line.length + 1 ≤ d.total) (h2 : d.body.length + 1 ≤ d.total) (h3 : d.trailers.length + 1 ≤ d.total) (h4 : d.section_ + 1 ≤ d.total) : okD (stepD d b).1 := by
  obtain ⟨a1, a2, a3, a4, a5, a6, a7, a8⟩ := h
  unfold stepD
  split
  · unfold sizeD
    split
    · rename_i hst _
      exact ⟨by simpa using h1, a2, a3, a4, a5, a6, a7, fun e => by simp only at e; rw [hst] at e; cases e⟩
    · rename_i hst _
      split
      · exact ⟨by simp, a2, a3, a4, a5, a6, a7, fun e => by simp only at e; rw [hst] at e; cases e⟩
      · rename_i s hs
        split
        · exact ⟨by simp, a2, a3, a4, a5, a6, a7, fun e => by simp only at e; rw [hst] at e; cases e⟩
        · rename_i he
          split
          · exact ⟨by simp, a2, a3, a4, a5, a6, a7, fun e => by simp only at e; rw [hst] at e; cases e⟩
          · split
            · exact ⟨by simp, a2, a3, a4, a5, a6, a7, fun e => by cases e⟩
            · rename_i hz
              have := sizeAns_rng s (by simpa using he)
              exact ⟨by simp, a2, a3, a4, a5, a6, a7, fun e => by simp only; omega⟩
  · rename_i hst
    have hl := a8 hst
    unfold dataD
    split
    · exact ⟨a1, by simpa using h2, a3, a4, a5, a6, a7, fun e => by cases e⟩
    · exact ⟨a1, by simpa using h2, a3, a4, a5, a6, a7, fun e => by simp only; omega⟩
  · rename_i hst
    unfold firstD
    split
    · exact ⟨a1, a2, a3, a4, a5, a6, a7, a8⟩
    · exact ⟨a1, a2, a3, a4, a5, a6, a7, fun e => by cases e⟩
  · rename_i hst
    unfold secondD
    split
    · exact ⟨a1, a2, a3, a4, a5, a6, a7, a8⟩
    · exact ⟨a1, a2, a3, a4, a5, a6, a7, fun e => by cases e⟩
  · rename_i hst
    have nd : ∀ st : Stg, st = d.st → st = .data → 1 ≤ d.left ∧ d.left ≤ 1099511627776 := fun st e e2 => by rw [e, hst] at e2; cases e2
    unfold trailerD
    (repeat' split)
    all_goals first
      | exact ⟨a1, a2, a3, a4, a5, a6, a7, nd _ rfl⟩
      | exact ⟨by simpa using h1, a2, a3, h4, a5, a6, a7, nd _ rfl⟩
      | exact ⟨by simp, a2, a3, h4, a5, a6, a7, nd _ rfl⟩
      | exact ⟨by simp, a2, by simpa using h3, h4, a5, a6, a7, nd _ rfl⟩
theorem feed1_ok (d : Dec) (b : UInt8) (h : okD d) : okD (feed1 d b) ∧ (feed1 d b).total = d.total + 1 := by
  obtain ⟨a1, a2, a3, a4, a5, a6, a7, a8⟩ := h
  have h0 : okD { d with total := d.total + 1 } := ⟨by simp only; omega, by simp only; omega, by simp only; omega, by simp only; omega, a5, a6, a7, a8⟩
  have := stepD_ok { d with total := d.total + 1 } b h0 (by simp) (by simpa using a1) (by simpa using a2) (by simpa using a3) (by simpa using a4)
  exact ⟨this, (stepD_total _ b).1⟩
section
variable (E : Env) (H : Hp) (Q : AV → Hp → Prop) (i : Nat) (d : Dec) (hd : H[i]? = some d.av) (b : UInt8)
include hd
theorem step_pc (hE : SE E) (hk : okD d) (ht : d.total ≤ 1000000000) (hQ : Q (.int .i64 (stepD d b).2) (H.set i (stepD d b).1.av)) : PC Tryd.prog E d.st.fid [.ptr (some (i, 0)), .int .u8 (b.toNat : Int)] H Q := by
  obtain ⟨a1, a2, a3, a4, a5, a6, a7, a8⟩ := hk
  unfold stepD at hQ
  cases hst : d.st with
  | size => rw [hst] at hQ; exact size_pc E H Q i d hd b hE (by omega) (by omega) a5 hQ
  | data => rw [hst] at hQ; exact data_pc E H Q i d hd b (by omega) (a8 hst) hQ
  | first => rw [hst] at hQ; exact first_pc E H Q i d hd b hQ
  | second => rw [hst] at hQ; exact second_pc E H Q i d hd b hQ
  | trailer => rw [hst] at hQ; exact trailer_pc E H Q i d hd b hE (by omega) (by omega) (by omega) hQ
end
def feI (H : Hp) (i : Nat) (d : Dec) (s : List UInt8) (fr : List AV) (H' : Hp) : Prop := ∃ (n : Nat) (d' : Dec), n ≤ s.length ∧ H' = H.set i d'.av ∧ okD d' ∧ d'.total = d.total + n ∧ d'.done = false ∧ d'.err = 0 ∧ feedD d s = ((feedD d' (s.drop n)).1, (feedD d' (s.drop n)).2 + n) ∧
  ∃ x : Nat → AV, fr = [.ptr (some (i, 0)), .str s, x 2, x 3, x 4, x 5, x 6, x 7, x 8, x 9, x 10, x 11, x 12, x 13, x 14, x 15, x 16, x 17, x 18, x 19, x 20, x 21, .str s, .int .i64 s.length, .int .i64 n, x 25, x 26, x 27, x 28, x 29, x 30, x 31, x 32, x 33, x 34, x 35, x 36, x 37, x 38, x 39, x 40, x 41, x 42, x 43, x 44, x 45, x 46, x 47, x 48, x 49, x 50, x 51, x 52, x 53, x 54, x 55, x 56, x 57, x 58, x 59, x 60, x 61, x 62, x 63, x 64, x 65]
section
variable (E : Env) (H : Hp) (Q : AV → Hp → Prop) (i : Nat) (d : Dec) (hd : H[i]? = some d.av)
include hd
set_option maxHeartbeats 1000000 in
theorem feed_pc (hE : SE E) (s : List UInt8) (hk : okD d) (ht : d.total + s.length ≤ 1000000000) (hQ1 : d.done = false → d.err = 0 → Q (.tup [.int .i64 (feedD d s).2, .int .i64 (feedD d s).1.err]) (H.set i (feedD d s).1.av)) (hQ2 : d.done = true ∨ d.err ≠ 0 → Q (.tup [.int .i64 0, .int .i64 103]) H) :
    PC Tryd.prog E 27 [.ptr (some (i, 0)), .str s] H Q := by
  have hlt := dec_lt H i d hd
  have hself : H.set i d.av = H := set_self hd
  have hd' := hd
  refine pc_enter Tryd.func27 rfl [] [] (by kernel_rfl) (fun hB => ?_)
  simp [Dec.av] at hd
  by_cases h1 : d.done = true
  · simp [Tryd.ntmps27, Tryd.results27, List.replicate_succ, hd, h1]
    exact aPost_same0 hB rfl (nilV_refl _) (by simp) (hQ2 (.inl h1))
  · have h1 : d.done = false := by simpa using h1
    by_cases h2 : d.err = 0
    · have hQ := hQ1 h1 h2
      simp [Tryd.ntmps27, Tryd.results27, List.replicate_succ, hd, h1, h2]
      refine VL_go (feI H i d s) (fun fr _ => s.length - (ai (aget fr 24)).toNat) ⟨0, d, by omega, hself.symm, hk, by omega, h1, h2, by simp, fr_intro (by simp)⟩ ?_
      rintro fr H' ⟨n, e, hn, rfl, hke, hte, hde, hee, hfe, x, rfl⟩
      have hes : (H.set i e.av)[i]? = some e.av := List.getElem?_set_self hlt
      by_cases h : n < s.length
      · obtain ⟨b, hb⟩ : ∃ b, s[n]? = some b := ⟨_, List.getElem?_eq_getElem h⟩
        have hat : lat s n = some b := lat_eq hb
        have hw : IntKind.i64.wrap ((e.total : Int) + 1) = ((e.total + 1 : Nat) : Int) := by rw [wrap_in (by omega) (by omega)]; omega
        have hw2 : IntKind.i64.wrap ((n : Int) + 1) = n + 1 := wrap_in (by omega) (by omega)
        have hdr := drop_at s n b hb
        rw [hdr] at hfe
        simp [h, hat, hw, hs0 hlt, hs1 hlt, hs2 hlt, hs3 hlt, hs4 hlt, hs5 hlt, Dec.av, -Int.natCast_add]
        have hes1 : (H.set i ({ e with total := e.total + 1 } : Dec).av)[i]? = some ({ e with total := e.total + 1 } : Dec).av := List.getElem?_set_self hlt
        have hk1 : okD { e with total := e.total + 1 } := by
          obtain ⟨a1, a2, a3, a4, a5, a6, a7, a8⟩ := hke
          exact ⟨by simp only; omega, by simp only; omega, by simp only; omega, by simp only; omega, a5, a6, a7, a8⟩
        refine step_pc E _ _ i { e with total := e.total + 1 } hes1 b hE hk1 (by simp only; omega) ?_
        obtain ⟨hf1, hf2⟩ := feed1_ok e b hke
        have hfd : feedD e (b :: s.drop (n + 1)) = if (feed1 e b).done = true ∨ (feed1 e b).err ≠ 0 then (feed1 e b, 1) else ((feedD (feed1 e b) (s.drop (n + 1))).1, (feedD (feed1 e b) (s.drop (n + 1))).2 + 1) := rfl
        rw [hfd] at hfe
        clear hfd hk1 hes1
        have hfeq : feed1 e b = { (stepD { e with total := e.total + 1 } b).1 with err := (stepD { e with total := e.total + 1 } b).2 } := rfl
        obtain ⟨⟨e2, r⟩, he2⟩ : ∃ p, stepD { e with total := e.total + 1 } b = p := ⟨_, rfl⟩
        rw [he2] at hfeq ⊢
        rw [hfeq] at hfe hf1 hf2
        clear hfeq he2
        simp only at hfe hf1 hf2
        by_cases hdn : e2.done = true
        · rw [if_pos (.inl hdn)] at hfe
          rw [hfe] at hQ
          simp [hs0 hlt, hs1 hlt, hs2 hlt, hs3 hlt, hs4 hlt, hs5 hlt, Dec.av, hdn, hw2]
          refine aPost_set0 hB rfl (nilV_refl _) (({ e2 with err := r, done := true } : Dec).bnd _) (by simp) ?_
          simp only at hQ
          rw [show ((1 + n : Nat) : Int) = (n : Int) + 1 by omega] at hQ
          have hav : ({ e2 with err := r } : Dec).av = ({ e2 with err := r, done := true } : Dec).av := by rw [← hdn]
          rw [hav] at hQ
          exact hQ
        · have hdn : e2.done = false := by simpa using hdn
          by_cases hr : r = 0
          · rw [if_neg (by rw [hdn, hr]; simp)] at hfe
            simp [hs0 hlt, hs1 hlt, hs2 hlt, hs3 hlt, hs4 hlt, hs5 hlt, Dec.av, hdn, hr, hw2]
            refine Kloop_normal ?_ ?_
            rotate_left
            · simp; omega
            have hav : ({ e2 with err := r } : Dec).av = ({ e2 with err := 0, done := false } : Dec).av := by rw [← hdn, ← hr]
            subst hr
            refine ⟨n + 1, { e2 with err := 0 }, by omega, ?_, hf1, by rw [hf2]; omega, hdn, rfl, ?_, fr_intro (by simp)⟩
            · rw [hav]; rfl
            · rw [hfe]; simp only; rw [Nat.add_assoc, Nat.add_comm 1 n]
          · have hr2 : (r != 0) = true := by simpa using hr
            rw [if_pos (.inr hr)] at hfe
            rw [hfe] at hQ
            simp [hs0 hlt, hs1 hlt, hs2 hlt, hs3 hlt, hs4 hlt, hs5 hlt, Dec.av, hdn, hr2, hw2]
            refine aPost_set0 hB rfl (nilV_refl _) (({ e2 with err := r, done := false } : Dec).bnd _) (by simp) ?_
            simp only at hQ
            rw [show ((1 + n : Nat) : Int) = (n : Int) + 1 by omega] at hQ
            have hav : ({ e2 with err := r } : Dec).av = ({ e2 with err := r, done := false } : Dec).av := by rw [← hdn]
            rw [hav] at hQ
            exact hQ
      · obtain rfl : n = s.length := by omega
        rw [List.drop_length] at hfe
        have hfd : feedD e [] = (e, 0) := rfl
        rw [hfd] at hfe
        rw [hfe] at hQ
        simp only [hee, Nat.zero_add] at hQ
        simp [h]
        exact aPost_set0 hB rfl (nilV_refl _) (e.bnd _) (by simp) hQ
    · have h22 : (d.err != 0) = true := by simpa using h2
      simp [Tryd.ntmps27, Tryd.results27, List.replicate_succ, hd, h1, h22]
      exact aPost_same0 hB rfl (nilV_refl _) (by simp) (hQ2 (.inr h2))
end
end Go.Proofs.YtimhofphmgehgaaDoor
