/- The chunk layer's decoder: made, and asked; Decode. -/
import Derived.Test.YtimhofphmgehgaaDoorChK
set_option linter.unusedVariables false
set_option linter.unnecessarySimpa false
set_option linter.unusedSimpArgs false
set_option linter.unusedSectionVars false
set_option maxRecDepth 100000
namespace Go.Proofs.YtimhofphmgehgaaDoor
open Go Go.RowKit Go.Proofs

def newD (most room fields : Int) : Dec := ⟨most, room, fields, .size, [], 0, [], [], 0, 0, false, 0⟩
section
variable (E : Env) (H : Hp) (Q : AV → Hp → Prop)
theorem cnew_pc (most room fields : Int) (hQ1 : 0 ≤ most → 0 ≤ room → 0 ≤ fields → Q (.tup [.ptr (some (H.length, 0)), .int .i64 0]) (H ++ [(newD most room fields).av])) (hQ2 : most < 0 ∨ room < 0 ∨ fields < 0 → Q (.tup [.ptr none, .int .i64 1]) H) :
    PC Tryd.prog E 26 [.int .i64 most, .int .i64 room, .int .i64 fields] H Q := by
  refine pc_enter Tryd.func26 rfl [] [] (by kernel_rfl) (fun hB => ?_)
  by_cases h1 : most < 0
  · simp [Tryd.ntmps26, Tryd.results26, List.replicate_succ, h1]
    exact aPost_same0 hB rfl (nilV_refl _) (by simp) (hQ2 (.inl h1))
  · by_cases h2 : room < 0
    · simp [Tryd.ntmps26, Tryd.results26, List.replicate_succ, h1, h2]
      exact aPost_same0 hB rfl (nilV_refl _) (by simp) (hQ2 (.inr (.inl h2)))
    · by_cases h3 : fields < 0
      · simp [Tryd.ntmps26, Tryd.results26, List.replicate_succ, h1, h2, h3]
        exact aPost_same0 hB rfl (nilV_refl _) (by simp) (hQ2 (.inr (.inr h3)))
      · have hQ := hQ1 (by omega) (by omega) (by omega)
        simp [Tryd.ntmps26, Tryd.results26, List.replicate_succ, h1, h2, h3]
        have hbn : BndH (H.length + 1) (H ++ [(newD most room fields).av]) := fun l hl x hx => by
          rcases List.mem_append.1 hl with h' | h'
          · exact (hB l h' x hx).mono (by omega)
          · simp at h'; subst h'; exact (newD most room fields).bnd _ x hx
        exact ⟨.tup [.ptr (some (H.length, 0)), .int .i64 0], _, H ++ [(newD most room fields).av], H ++ [(newD most room fields).av], [], rfl, nilV_refl _,
          nilH_app H ⟨⟨.inl rfl, .inl rfl, .inl rfl, .inl rfl, .inr ⟨rfl, true, 1, rfl⟩, .inl rfl, .inr ⟨rfl, true, 1, rfl⟩, .inr ⟨rfl, true, 2, rfl⟩, .inl rfl, .inl rfl, .inl rfl, .inl rfl, trivial⟩, trivial⟩,
          (List.append_nil _).symm, by simp, by simpa using hbn, by simp, hQ⟩
theorem done0_pc (hQ : Q (.bool false) H) : PC Tryd.prog E 28 [.ptr none] H Q := by
  refine pc_enter Tryd.func28 rfl [] [] (by kernel_rfl) (fun hB => ?_)
  simp [Tryd.ntmps28, Tryd.results28, List.replicate_succ]
  exact aPost_same0 hB rfl (nilV_refl _) (by simp) hQ
theorem err0_pc (hQ : Q (.int .i64 0) H) : PC Tryd.prog E 29 [.ptr none] H Q := by
  refine pc_enter Tryd.func29 rfl [] [] (by kernel_rfl) (fun hB => ?_)
  simp [Tryd.ntmps29, Tryd.results29, List.replicate_succ]
  exact aPost_same0 hB rfl (nilV_refl _) (by simp) hQ
theorem body0_pc (hQ : Q (.str []) H) : PC Tryd.prog E 32 [.ptr none] H Q := by
  refine pc_enter Tryd.func32 rfl [] [] (by kernel_rfl) (fun hB => ?_)
  simp [Tryd.ntmps32, Tryd.results32, List.replicate_succ]
  exact aPost_same0 hB rfl (nilV_refl _) (by simp) hQ
theorem total0_pc (hQ : Q (.int .i64 0) H) : PC Tryd.prog E 31 [.ptr none] H Q := by
  refine pc_enter Tryd.func31 rfl [] [] (by kernel_rfl) (fun hB => ?_)
  simp [Tryd.ntmps31, Tryd.results31, List.replicate_succ]
  exact aPost_same0 hB rfl (nilV_refl _) (by simp) hQ
theorem trailers0_pc (hQ : Q (.sl false 2 (flds [])) H) : PC Tryd.prog E 33 [.ptr none] H Q := by
  refine pc_enter Tryd.func33 rfl [] [] (by kernel_rfl) (fun hB => ?_)
  simp [Tryd.ntmps33, Tryd.results33, List.replicate_succ]
  exact aPost_same0 hB rfl (nilV_nil false 2) (by simp) hQ
theorem feed0_pc (s : List UInt8) (hQ : Q (.tup [.int .i64 0, .int .i64 103]) H) : PC Tryd.prog E 27 [.ptr none, .str s] H Q := by
  refine pc_enter Tryd.func27 rfl [] [] (by kernel_rfl) (fun hB => ?_)
  simp [Tryd.ntmps27, Tryd.results27, List.replicate_succ]
  exact aPost_same0 hB rfl (nilV_refl _) (by simp) hQ
variable (i : Nat) (d : Dec) (hd : H[i]? = some d.av)
include hd
theorem done_pc (hQ : Q (.bool d.done) H) : PC Tryd.prog E 28 [.ptr (some (i, 0))] H Q := by
  have hlt := dec_lt H i d hd
  refine pc_enter Tryd.func28 rfl [] [] (by kernel_rfl) (fun hB => ?_)
  simp [Dec.av] at hd
  simp [Tryd.ntmps28, Tryd.results28, List.replicate_succ, hd]
  exact aPost_same0 hB rfl (nilV_refl _) (by simp) hQ
theorem err_pc (hQ : Q (.int .i64 d.err) H) : PC Tryd.prog E 29 [.ptr (some (i, 0))] H Q := by
  have hlt := dec_lt H i d hd
  refine pc_enter Tryd.func29 rfl [] [] (by kernel_rfl) (fun hB => ?_)
  simp [Dec.av] at hd
  simp [Tryd.ntmps29, Tryd.results29, List.replicate_succ, hd]
  exact aPost_same0 hB rfl (nilV_refl _) (by simp) hQ
theorem total_pc (hQ : Q (.int .i64 d.total) H) : PC Tryd.prog E 31 [.ptr (some (i, 0))] H Q := by
  have hlt := dec_lt H i d hd
  refine pc_enter Tryd.func31 rfl [] [] (by kernel_rfl) (fun hB => ?_)
  simp [Dec.av] at hd
  simp [Tryd.ntmps31, Tryd.results31, List.replicate_succ, hd]
  exact aPost_same0 hB rfl (nilV_refl _) (by simp) hQ
theorem body_pc (hl : d.body.length ≤ 1073741824) (hQ : Q (.str d.body) H) : PC Tryd.prog E 32 [.ptr (some (i, 0))] H Q := by
  have hm : d.body.length ≤ maxLen := by unfold maxLen; omega
  refine pc_enter Tryd.func32 rfl [] [] (by kernel_rfl) (fun hB => ?_)
  simp [Dec.av] at hd
  simp [Tryd.ntmps32, Tryd.results32, List.replicate_succ, hd, hm]
  exact aPost_same0 hB rfl (nilV_refl _) (by simp) hQ
theorem trailers_pc (hl : d.trailers.length ≤ 1073741824) (hQ : Q (.sl false 2 (flds d.trailers)) H) : PC Tryd.prog E 33 [.ptr (some (i, 0))] H Q := by
  refine pc_enter Tryd.func33 rfl [] [] (by kernel_rfl) (fun hB => ?_)
  simp [Dec.av] at hd
  simp [Tryd.ntmps33, Tryd.results33, List.replicate_succ, hd]
  refine clone_pc E _ _ false d.trailers hl rfl ?_
  simp
  exact aPost_same0 hB rfl (nilV_refl _) (by simp) hQ
end
theorem newD_ok (most room fields : Int) (h1 : 0 ≤ most ∧ most ≤ 9223372036854775807) (h2 : 0 ≤ room ∧ room ≤ 9223372036854775807) (h3 : 0 ≤ fields ∧ fields ≤ 9223372036854775807) : okD (newD most room fields) :=
  ⟨by simp [newD], by simp [newD], by simp [newD], by simp [newD], h1, h2, h3, fun e => by cases e⟩
theorem feedD_le (s : List UInt8) : ∀ d, (feedD d s).2 ≤ s.length := by
  induction s with
  | nil => intro d; exact Nat.le_refl _
  | cons b s ih =>
    intro d
    have hfd : feedD d (b :: s) = if (feed1 d b).done = true ∨ (feed1 d b).err ≠ 0 then (feed1 d b, 1) else ((feedD (feed1 d b) s).1, (feedD (feed1 d b) s).2 + 1) := rfl
    rw [hfd]
    split
    · simp
    · have := ih (feed1 d b); simp; omega
theorem feedD_ok (s : List UInt8) : ∀ d, okD d → okD (feedD d s).1 ∧ (feedD d s).1.total = d.total + (feedD d s).2 := by
  induction s with
  | nil => intro d h; exact ⟨h, rfl⟩
  | cons b s ih =>
    intro d h
    have hfd : feedD d (b :: s) = if (feed1 d b).done = true ∨ (feed1 d b).err ≠ 0 then (feed1 d b, 1) else ((feedD (feed1 d b) s).1, (feedD (feed1 d b) s).2 + 1) := rfl
    obtain ⟨h1, h2⟩ := feed1_ok d b h
    rw [hfd]
    split
    · exact ⟨h1, h2⟩
    · obtain ⟨g1, g2⟩ := ih (feed1 d b) h1
      exact ⟨g1, by rw [g2, h2]; simp only; omega⟩
/-- What Decode answers. -/
def decodeD (s : List UInt8) (most room fields : Int) : List UInt8 × List Fld × Int × Int :=
  if most < 0 ∨ room < 0 ∨ fields < 0 then ([], [], 0, 1)
  else if (feedD (newD most room fields) s).1.err ≠ 0 then ([], [], ((feedD (newD most room fields) s).2 : Int) - 1, (feedD (newD most room fields) s).1.err)
  else if (feedD (newD most room fields) s).1.done = false then ([], [], (s.length : Int), 105)
  else ((feedD (newD most room fields) s).1.body, (feedD (newD most room fields) s).1.trailers, ((feedD (newD most room fields) s).2 : Int), 0)
theorem nilV_tup4 (k : Nat) (a y z : AV) (h0 : a.free = true) (h : y.free = true) (h2 : z.free = true) : nilV (.tup [a, .nil, y, z]) (.tup [a, .sl false k [], y, z]) :=
  .inr ⟨_, _, rfl, rfl, ⟨.inl rfl, .inr ⟨rfl, false, k, rfl⟩, .inl rfl, .inl rfl, trivial⟩, by simp [h0, h, h2]⟩
theorem decode_pc (E : Env) (H : Hp) (Q : AV → Hp → Prop) (hE : SE E) (s : List UInt8) (most room fields : Int) (hs : s.length ≤ 1000000000) (h1 : most ≤ 9223372036854775807) (h2 : room ≤ 9223372036854775807) (h3 : fields ≤ 9223372036854775807)
    (hQ : Q (.tup [.str (decodeD s most room fields).1, .sl false 2 (flds (decodeD s most room fields).2.1), .int .i64 (decodeD s most room fields).2.2.1, .int .i64 (decodeD s most room fields).2.2.2]) H) :
    PC Tryd.prog E 21 [.str s, .int .i64 most, .int .i64 room, .int .i64 fields] H Q := by
  refine pc_enter Tryd.func21 rfl [] [] (by kernel_rfl) (fun hB => ?_)
  simp [Tryd.ntmps21, Tryd.results21, List.replicate_succ]
  refine cnew_pc E _ _ most room fields (fun g1 g2 g3 => ?_) (fun hneg => ?_)
  · have hneg : ¬ (most < 0 ∨ room < 0 ∨ fields < 0) := by omega
    unfold decodeD at hQ
    rw [if_neg hneg] at hQ
    have hnew := newD_ok most room fields ⟨g1, h1⟩ ⟨g2, h2⟩ ⟨g3, h3⟩
    have hat : (H ++ [(newD most room fields).av])[H.length]? = some (newD most room fields).av := by simp
    have hle := feedD_le s (newD most room fields)
    obtain ⟨hok, htot⟩ := feedD_ok s (newD most room fields) hnew
    simp
    refine feed_pc E _ _ H.length _ hat hE s hnew (by simp [newD]; exact hs) (fun _ _ => ?_) (fun h => absurd h (by simp [newD]))
    obtain ⟨⟨d, n⟩, hf⟩ : ∃ p, feedD (newD most room fields) s = p := ⟨_, rfl⟩
    rw [hf] at hQ hle hok htot ⊢
    simp only at hQ hle hok htot
    have ht0 : (newD most room fields).total = 0 := rfl
    rw [ht0] at htot
    obtain ⟨a1, a2, a3, a4, a5, a6, a7, a8⟩ := hok
    have hse : (H ++ [(newD most room fields).av]).set H.length d.av = H ++ [d.av] := by simp
    rw [hse]
    have hat2 : (H ++ [d.av])[H.length]? = some d.av := by simp
    by_cases he : d.err = 0
    · rw [if_neg (by simpa using he)] at hQ
      simp [he]
      refine done_pc E _ _ H.length d hat2 ?_
      cases hdn : d.done with
      | false =>
        rw [if_pos hdn] at hQ
        simp
        exact aPost_same hB (v0 := .tup [.str [], .nil, .int .i64 s.length, .int .i64 105]) (by simp) (nilV_tup4 2 _ _ _ rfl rfl rfl) (by simp) hQ
      | true =>
        rw [if_neg (by rw [hdn]; simp)] at hQ
        simp
        refine body_pc E _ _ H.length d hat2 (by omega) ?_
        simp
        refine trailers_pc E _ _ H.length d hat2 (by omega) ?_
        simp
        exact aPost_same hB (v0 := .tup [.str d.body, .sl false 2 (flds d.trailers), .int .i64 n, .int .i64 0]) (by simp) (nilV_refl _) (by simp) hQ
    · rw [if_pos (by simpa using he)] at hQ
      have he2 : (d.err != 0) = true := by simpa using he
      have hw : IntKind.i64.wrap ((n : Int) - 1) = n - 1 := wrap_in (by omega) (by omega)
      simp [he2, hw]
      exact aPost_same hB (v0 := .tup [.str [], .nil, .int .i64 ((n : Int) - 1), .int .i64 d.err]) (by simp) (nilV_tup4 2 _ _ _ rfl rfl rfl) (by simp) hQ
  · unfold decodeD at hQ
    rw [if_pos hneg] at hQ
    simp
    exact aPost_same0 hB (v0 := .tup [.str [], .nil, .int .i64 0, .int .i64 1]) (by simp) (nilV_tup4 2 _ _ _ rfl rfl rfl) (by simp) hQ
end Go.Proofs.YtimhofphmgehgaaDoor
