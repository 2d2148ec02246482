/- Part 7 of the texts below the law: the abstract machine, the functions that it walks, what they compute. -/
import Derived.Test.YtijnohcaeedffaaWm6
import Derived.JoinedCond
set_option linter.unusedVariables false
set_option linter.unnecessarySimpa false
set_option linter.unusedSimpArgs false
set_option linter.unusedSectionVars false
set_option maxRecDepth 100000
namespace Go.Proofs.Ytijnohcaeedffaa
open Go Go.RowKit

theorem dueT_snoc {lim : Int} {ts : List Tm} {i : Nat} {z : Tm} (hz : ts[i]? = some z) : dueT lim (ts.take (i + 1)) = if z.t ≤ lim then insT z (dueT lim (ts.take i)) else dueT lim (ts.take i) := by
  rw [List.take_add_one, hz, Option.toList_some]
  unfold dueT
  rw [List.filter_append]
  by_cases h : z.t ≤ lim
  · rw [if_pos h, List.filter_cons_of_pos (by simpa using h), List.foldl_append]; rfl
  · rw [if_neg h, List.filter_cons_of_neg (by simpa using h)]; simp
theorem leftT_snoc {lim : Int} {ts : List Tm} {i : Nat} {z : Tm} (hz : ts[i]? = some z) : leftT lim (ts.take (i + 1)) = leftT lim (ts.take i) ++ if lim < z.t then [z] else [] := by
  rw [List.take_add_one, hz, Option.toList_some]
  unfold leftT
  rw [List.filter_append]
  congr 1
  by_cases h : lim < z.t <;> simp [h]
theorem insT_at : ∀ {D : List Tm} {z : Tm} {p : Nat}, p ≤ D.length → (∀ k y, k < p → D[k]? = some y → ¬ tlt z y) → (∀ y, D[p]? = some y → tlt z y) → insT z D = D.take p ++ z :: D.drop p
  | [], z, p, hp, _, _ => by simp at hp; subst hp; rfl
  | x :: D, z, 0, _, _, h => by
    have := h x rfl
    unfold insT
    rw [if_pos this]; rfl
  | x :: D, z, p + 1, hp, h1, h2 => by
    have hx := h1 0 x (by omega) rfl
    unfold insT
    rw [if_neg hx, insT_at (p := p) (by simpa using hp) (fun k y hk hy => h1 (k + 1) y (by omega) (by simpa using hy)) (fun y hy => h2 y (by simpa using hy))]
    rfl
/-- A sorted list while the rows from place k on are moved. -/
def shL (D : List Tm) (k : Nat) : List Tm := (D ++ [(⟨0, 0⟩ : Tm)]).take (k + 1) ++ D.drop k
theorem shL_len {D : List Tm} {k : Nat} (hk : k ≤ D.length) : (shL D k).length = D.length + 1 := by unfold shL; simp; omega
theorem shL_top (D : List Tm) : shL D D.length = D ++ [(⟨0, 0⟩ : Tm)] := by unfold shL; rw [List.take_of_length_le (by simp)]; simp
theorem shL_at {D : List Tm} {k : Nat} {y : Tm} (hk : k < D.length) (hy : D[k]? = some y) : (shL D (k + 1))[k]? = some y := by
  unfold shL
  rw [List.getElem?_append_left (by simp; omega), List.getElem?_take, if_pos (by omega), List.getElem?_append_left hk]; exact hy
theorem shL_set {D : List Tm} {k : Nat} {y : Tm} (hk : k < D.length) (hy : D[k]? = some y) : (shL D (k + 1)).set (k + 1) y = shL D k := by
  refine List.ext_getElem? fun j => ?_
  have hl := shL_len (D := D) (k := k + 1) (by omega)
  by_cases hj : j = k + 1
  · subst hj
    rw [List.getElem?_set_self (by omega)]
    unfold shL
    rw [List.getElem?_append_right (by simp; omega)]
    have : (List.take (k + 1) (D ++ [(⟨0, 0⟩ : Tm)])).length = k + 1 := by simp; omega
    rw [this, Nat.sub_self, List.getElem?_drop]; exact hy.symm
  · rw [List.getElem?_set_ne (Ne.symm hj)]
    unfold shL
    have l1 : (List.take (k + 1 + 1) (D ++ [(⟨0, 0⟩ : Tm)])).length = k + 2 := by simp; omega
    have l2 : (List.take (k + 1) (D ++ [(⟨0, 0⟩ : Tm)])).length = k + 1 := by simp; omega
    by_cases h1 : j < k + 1
    · rw [List.getElem?_append_left (by omega), List.getElem?_append_left (by omega), List.getElem?_take, List.getElem?_take, if_pos (by omega), if_pos h1]
    · rw [List.getElem?_append_right (by omega), List.getElem?_append_right (by omega), l1, l2, List.getElem?_drop, List.getElem?_drop]
      congr 1; omega
theorem shL_fin {D : List Tm} {p : Nat} {z : Tm} (hp : p ≤ D.length) : (shL D p).set p z = D.take p ++ z :: D.drop p := by
  have hl := shL_len hp
  unfold shL at *
  have l1 : (List.take p D).length = p := by simp; omega
  have e : List.take (p + 1) (D ++ [(⟨0, 0⟩ : Tm)]) = D.take p ++ [((D ++ [(⟨0, 0⟩ : Tm)])[p]'(by simp; omega))] := by
    rw [List.take_add_one, List.take_append_of_le_length hp, List.getElem?_eq_getElem (by simp; omega), Option.toList_some]
  rw [e, List.append_assoc, List.set_append_right _ _ (by omega), l1, Nat.sub_self]
  rfl
theorem take_two {A : List AV} {j : Nat} {a b : AV} (ha : A[j]? = some a) (hb : A[j + 1]? = some b) : List.take 2 (List.drop j A) = [a, b] := by
  obtain ⟨h1, h2⟩ := List.getElem?_eq_some_iff.1 ha
  obtain ⟨h3, h4⟩ := List.getElem?_eq_some_iff.1 hb
  rw [List.drop_eq_getElem_cons h1, List.drop_eq_getElem_cons h3, h2, h4]; rfl
/-- A row is stored. -/
theorem GB.mark {P K : Hp} {l : List Tm} {i c : Nat} {A : List AV} (h : GB P K (.bx i 0 l.length c 2) l) (hA : K[i]? = some A) {j : Nat} (hj : j < l.length) (y : Tm) : GB P (K.set i (A.take (j * 2) ++ ([.int .i64 y.n, .int .i64 y.t] ++ A.drop (j * 2 + 2)))) (.bx i 0 l.length c 2) (l.set j y) := by
  have hfl : ∀ m u, m < l.length * 2 → (if j * 2 ≤ m ∧ m < j * 2 + 2 then [AV.int .i64 y.n, .int .i64 y.t][m - j * 2]? = some u else (rowsT l).flatten[m]? = some u) → (rowsT (l.set j y)).flatten[m]? = some u := by
    intro m u hm hu
    have hq : m / 2 < l.length := by omega
    by_cases hmj : m / 2 = j
    · rw [if_pos ⟨by omega, by omega⟩] at hu
      obtain ⟨f1, f2⟩ := flT_at (l := l.set j y) (i := j) (y := y) (List.getElem?_set_self hj)
      rcases Nat.mod_two_eq_zero_or_one m with hm2 | hm2
      · have e : m = j * 2 := by omega
        subst e
        rw [Nat.sub_self] at hu
        rw [f1]; exact hu
      · have e : m = j * 2 + 1 := by omega
        subst e
        rw [show j * 2 + 1 - j * 2 = 1 by omega] at hu
        rw [f2]; exact hu
    · rw [if_neg (by omega)] at hu
      obtain ⟨z, hz⟩ : ∃ z, l[m / 2]? = some z := ⟨_, List.getElem?_eq_getElem hq⟩
      obtain ⟨g1, g2⟩ := flT_at hz
      obtain ⟨f1, f2⟩ := flT_at (l := l.set j y) (i := m / 2) (y := z) (by rw [List.getElem?_set_ne (Ne.symm hmj)]; exact hz)
      rcases Nat.mod_two_eq_zero_or_one m with hm2 | hm2
      · have e : m = m / 2 * 2 := by omega
        rw [← e] at g1 f1
        rw [f1, ← g1]; exact hu
      · have e : m = m / 2 * 2 + 1 := by omega
        rw [← e] at g2 f2
        rw [f2, ← g2]; exact hu
  obtain ⟨b1, b2⟩ := h.bx.mark hA hj (r := [.int .i64 y.n, .int .i64 y.t]) rfl (by simp) (C' := fun m u => (rowsT (l.set j y)).flatten[m]? = some u) hfl
  have hi := (h.bx.lt _ _ _ _ _ rfl).1
  exact ⟨by simp; exact h.len, fun j hj => by rw [getNX (by omega)]; exact h.keep j hj, by simpa using b1, by rw [List.length_set]; exact bndX_put h.bd _ fun x hx => (b2 x hx).bnd _⟩
def daI (H P : Hp) (now lim : Int) (ts : List Tm) (fr : List AV) (K : Hp) : Prop := ∃ (i id c : Nat), i ≤ ts.length ∧ GB P K (.bx id 0 (dueT lim (ts.take i)).length c 2) (dueT lim (ts.take i)) ∧
  ∃ x : Nat → AV, fr = [x 0, .int .i64 lim, .ptr (some (H.length, 0)), x 3, .ptr (some (H.length + 1, 0)), x 5, x 6, .bx id 0 (dueT lim (ts.take i)).length c 2, .sl true 2 (rowsT (leftT lim (ts.take i))), .int .i64 i, x 10, x 11, x 12, x 13, x 14, x 15, x 16, x 17, x 18, x 19, x 20, x 21, x 22, x 23, x 24, x 25, x 26, x 27, x 28, x 29, x 30, x 31, x 32, x 33, x 34, x 35, x 36, x 37, x 38, x 39, x 40, x 41, x 42, x 43, x 44, x 45, x 46, x 47, x 48, x 49, x 50, x 51, x 52, x 53, x 54, x 55, x 56, x 57, x 58, x 59, x 60, x 61, x 62, x 63, x 64, x 65, x 66, x 67, x 68, x 69, x 70, x 71, x 72, x 73, x 74, x 75, x 76, x 77, x 78, x 79, x 80, x 81, x 82, x 83, x 84, x 85, x 86, x 87, x 88, x 89, x 90, x 91, x 92, x 93, x 94, x 95, x 96, x 97, x 98, x 99, x 100, x 101, x 102, x 103, x 104, x 105, x 106, x 107, x 108, x 109, x 110, x 111, x 112, x 113, x 114, x 115, x 116, x 117, x 118, x 119, x 120, x 121, x 122, x 123, x 124, x 125, x 126, x 127, x 128, x 129]
def daJ (H K0 : Hp) (lim : Int) (ts : List Tm) (i id c : Nat) (D : List Tm) (z : Tm) (fr : List AV) (K : Hp) : Prop := K = K0 ∧ ∃ p : Nat, p ≤ D.length ∧ (∀ k y, p ≤ k → D[k]? = some y → tlt z y) ∧
  ∃ x : Nat → AV, fr = [x 0, .int .i64 lim, .ptr (some (H.length, 0)), x 3, .ptr (some (H.length + 1, 0)), x 5, x 6, .bx id 0 D.length c 2, .sl true 2 (rowsT (leftT lim (ts.take i))), .int .i64 i, .int .i64 p, x 11, x 12, x 13, x 14, x 15, x 16, x 17, x 18, x 19, x 20, x 21, x 22, x 23, x 24, x 25, x 26, x 27, x 28, x 29, x 30, x 31, x 32, x 33, x 34, x 35, x 36, x 37, x 38, x 39, x 40, x 41, x 42, x 43, x 44, x 45, x 46, x 47, x 48, x 49, x 50, x 51, x 52, x 53, x 54, x 55, x 56, x 57, x 58, x 59, x 60, x 61, x 62, x 63, x 64, x 65, x 66, x 67, x 68, x 69, x 70, x 71, x 72, x 73, x 74, x 75, x 76, x 77, x 78, x 79, x 80, x 81, x 82, x 83, x 84, x 85, x 86, x 87, x 88, x 89, x 90, x 91, x 92, x 93, x 94, x 95, x 96, x 97, x 98, x 99, x 100, x 101, x 102, x 103, x 104, x 105, x 106, x 107, x 108, x 109, x 110, x 111, x 112, x 113, x 114, x 115, x 116, x 117, x 118, x 119, x 120, x 121, x 122, x 123, x 124, x 125, x 126, x 127, x 128, x 129]
def daL (H P : Hp) (lim : Int) (ts : List Tm) (i : Nat) (D : List Tm) (z : Tm) (fr : List AV) (K : Hp) : Prop := ∃ p k id c : Nat, insT z D = D.take p ++ z :: D.drop p ∧ p ≤ k ∧ k ≤ D.length ∧ GB P K (.bx id 0 (shL D k).length c 2) (shL D k) ∧
  ∃ x : Nat → AV, fr = [x 0, .int .i64 lim, .ptr (some (H.length, 0)), x 3, .ptr (some (H.length + 1, 0)), x 5, x 6, .bx id 0 (D.length + 1) c 2, .sl true 2 (rowsT (leftT lim (ts.take i))), .int .i64 i, .int .i64 p, .int .i64 k, x 12, x 13, x 14, x 15, x 16, x 17, x 18, x 19, x 20, x 21, x 22, x 23, x 24, x 25, x 26, x 27, x 28, x 29, x 30, x 31, x 32, x 33, x 34, x 35, x 36, x 37, x 38, x 39, x 40, x 41, x 42, x 43, x 44, x 45, x 46, x 47, x 48, x 49, x 50, x 51, x 52, x 53, x 54, x 55, x 56, x 57, x 58, x 59, x 60, x 61, x 62, x 63, x 64, x 65, x 66, x 67, x 68, x 69, x 70, x 71, x 72, x 73, x 74, x 75, x 76, x 77, x 78, x 79, x 80, x 81, x 82, x 83, x 84, x 85, x 86, x 87, x 88, x 89, x 90, x 91, x 92, x 93, x 94, x 95, x 96, x 97, x 98, x 99, x 100, x 101, x 102, x 103, x 104, x 105, x 106, x 107, x 108, x 109, x 110, x 111, x 112, x 113, x 114, x 115, x 116, x 117, x 118, x 119, x 120, x 121, x 122, x 123, x 124, x 125, x 126, x 127, x 128, x 129]
theorem shareV {I P : List AV → Hp → Prop} {G : Prop} (main : (∀ fr H', I fr H' → P fr H') → G) (tail : ∀ fr H', I fr H' → P fr H') : G := main tail
section
variable {H : Hp} (E : Env) (Q : AV → Hp → Prop)
set_option maxHeartbeats 8000000 in
theorem dadvB_pc (now : Nat) (lim : Int) (ts : List Tm) (hnd : ts.Nodup) (hl : ts.length ≤ 1000000000)
    (hQ0 : badT now lim = true → Q (.tup [dwA now ts, .sl false 2 [], .int .i64 250]) H)
    (hQ : ∀ K i c, badT now lim = false → GB H K (.bx i 0 (dueT lim ts).length c 2) (dueT lim ts) → Q (.tup [dwA lim (leftT lim ts), .bx i 0 (dueT lim ts).length c 2, .int .i64 0]) K) : PC Try.prog E 17 [dwA now ts, .int .i64 lim] H Q := by
  refine pc_enter Try.func17 rfl [39] [(3, [3]), (12, [0, 0, 0, 3])] (by kernel_rfl) (fun hB => ?_)
  by_cases h1 : lim < now
  · have hq := hQ0 (by unfold badT; simp [h1])
    simp [Try.ntmps17, Try.results17, List.replicate_succ, dwA, h1]
    exact aPost_lawX hB (by simp) (fun j hj => List.getElem?_append_left hj) (v0 := .tup [dwA now ts, .sl false 2 [], .int .i64 250]) (by simp [dwA]) (by simp [bnd_dwA]) hq
  by_cases h2 : 281474976710656 < lim
  · have hq := hQ0 (by unfold badT; simp [h2])
    simp [Try.ntmps17, Try.results17, List.replicate_succ, dwA, h1, h2]
    exact aPost_lawX hB (by simp) (fun j hj => List.getElem?_append_left hj) (v0 := .tup [dwA now ts, .sl false 2 [], .int .i64 250]) (by simp [dwA]) (by simp [bnd_dwA]) hq
  have hok : badT now lim = false := by unfold badT; rw [decide_eq_false h1, decide_eq_false h2]; rfl
  simp [Try.ntmps17, Try.results17, List.replicate_succ, dwA, h1, h2]
  obtain ⟨P, hP⟩ : ∃ P, P = H ++ [[AV.int .i64 now, .sl false 2 (rowsT ts)], [.int .i64 0, .nil]] := ⟨_, rfl⟩
  have hPl : P.length = H.length + 2 := by rw [hP]; simp
  have hBP : BndH P.length P := by
    rw [hP]
    refine bndX_app (bndX_up hB (by simp)) fun l hl x hx => ?_
    simp at hl
    rcases hl with rfl | rfl
    · simp at hx
      rcases hx with rfl | rfl
      · exact .int _ _
      · exact bnd_rowsT _ _ _
    · simp at hx
      rcases hx with rfl | rfl
      · exact .int _ _
      · exact .nil
  have hz0 := GB.zero hBP
  have hPH : ∀ j, j < H.length → P[j]? = H[j]? := fun j hj => by rw [hP]; exact List.getElem?_append_left hj
  have hP0 : P[H.length]? = some [.int .i64 now, .sl false 2 (rowsT ts)] := by rw [hP]; simp
  have hP1 : P[H.length + 1]? = some [.int .i64 0, .nil] := by rw [hP]; simp
  rw [show H ++ [[AV.int .i64 now, .sl false 2 (rowsT ts)], [.int .i64 0, .nil], []] = P ++ [[]] by rw [hP]; simp]
  refine VL_go (daI H P now lim ts) (fun fr _ => ts.length - (ai (aget fr 9)).toNat) ⟨0, P.length, 0, by omega, by simpa [dueT] using hz0, fr_intro (by simp [hPl, dueT, leftT, rowsT])⟩ ?_
  clear hz0 hP
  rintro fr K ⟨i, id, c, hi, hg, x, rfl⟩
  have hw2 : IntKind.i64.wrap ((i : Int) + 1) = i + 1 := wrap_in (by omega) (by omega)
  have hk0 : K[H.length]? = some [.int .i64 now, .sl false 2 (rowsT ts)] := (hg.keep _ (by omega)).trans hP0
  have hk1 : K[H.length + 1]? = some [.int .i64 0, .nil] := (hg.keep _ (by omega)).trans hP1
  have hdl := due_len lim (ts.take i)
  rw [List.length_take] at hdl
  by_cases h : i < ts.length
  · obtain ⟨z, hz⟩ : ∃ z, ts[i]? = some z := ⟨_, List.getElem?_eq_getElem h⟩
    have hat := rowsT_at hz
    have hsn := dueT_snoc (lim := lim) hz
    have hsl := leftT_snoc (lim := lim) hz
    by_cases h3 : lim < z.t
    · rw [if_neg (by omega)] at hsn
      rw [if_pos h3] at hsl
      have p1 : (leftT lim (ts.take i)).length + 1 ≤ maxLen := by unfold maxLen; omega
      have p2 : ((leftT lim (ts.take i)).length + 1) * 16 ≤ 140737488355328 := by omega
      simp [h, hk0, hat, rowsT_len, h3, hw2, p1, p2]
      exact Kloop_normal ⟨i + 1, id, c, by omega, by rw [hsn]; exact hg, fr_intro (by simp [hsn, hsl, ← rowsT_snoc])⟩ (by simp; omega)
    · rw [if_pos (by omega)] at hsn
      rw [if_neg h3, List.append_nil] at hsl
      have hsr := (dueT_spec (lim := lim) (hnd.sublist (List.take_sublist i ts))).1
      have hDl : (dueT lim (ts.take i)).length ≤ i := by omega
      clear hdl
      simp [h, hk0, hat, rowsT_len, h3]
      generalize hD : dueT lim (ts.take i) = D at *
      apply shareV (I := daL H P lim ts i D z)
      · intro hgo
        refine VL_go (daJ H K lim ts i id c D z) (fun fr _ => (ai (aget fr 10)).toNat) ⟨rfl, D.length, Nat.le_refl _, fun k y hk hy => by have := ltX hy; omega, fr_intro (by simp)⟩ ?_
        rintro fr K ⟨rfl, p, hp, hgt, x, rfl⟩
        obtain ⟨hid, hil⟩ := hg.bx.lt _ _ _ _ _ rfl
        obtain ⟨A, hA⟩ : ∃ A, K[id]? = some A := ⟨_, List.getElem?_eq_getElem hil⟩
        obtain ⟨a1, a2, a3, a4, a5, a6, a7, a8, a9⟩ := hg.bx.cells hA
        have stop : (∀ k y, k < p → D[k]? = some y → ¬ tlt z y) → insT z D = D.take p ++ z :: D.drop p := fun hle => insT_at hp hle fun y hy => hgt p y (Nat.le_refl _) hy
        have hfree : (∀ y ∈ A.take (D.length * 2), y.free = true) = True := eq_true fun y hy => (a2 y (List.mem_of_mem_take hy)).free
        have p1 : D.length + 1 ≤ maxLen := by unfold maxLen; omega
        have p2 : (D.length + 1) * 16 ≤ 140737488355328 := by omega
        have w3 : IntKind.i64.wrap ((D.length : Int) + 1 - 1) = D.length := by rw [wrap_in (by omega) (by omega)]; omega
        have w4 : IntKind.i64.wrap (D.length : Int) = D.length := wrap_in (by omega) (by omega)
        cases p with
        | zero =>
          have hst := stop fun k y hk => by omega
          by_cases hroom : D.length + 1 ≤ c
          · have hle3 : (D.length + 1) * 2 ≤ A.length := by rw [a4]; exact mul_rows hroom
            simp [hk0, hat, hA, hfree, hroom, a3, hle3, w3, w4]
            have hf := hg.room hA hroom ⟨0, 0⟩
            exact hgo _ _ ⟨_, D.length, id, c, hst, by omega, Nat.le_refl _, by rw [shL_top]; simpa using hf, fr_intro (by simp)⟩
          · simp [hk0, hat, hA, hfree, hroom, a3, p1, p2]
            refine VGrow_intro fun c' hc1 hc2 => ?_
            simp [w3, w4]
            have hf := hg.grow hA hc1 hc2 ⟨0, 0⟩
            exact hgo _ _ ⟨_, D.length, K.length, c', hst, by omega, Nat.le_refl _, by rw [shL_top]; simpa [zAl] using hf, fr_intro (by simp)⟩
        | succ m =>
          obtain ⟨v, hv⟩ : ∃ v, D[m]? = some v := ⟨_, List.getElem?_eq_getElem (by omega)⟩
          obtain ⟨b1, b2⟩ := hg.at hA hv
          have hm : m < D.length := by omega
          have hpos : (0 : Int) < (m : Int) + 1 := by omega
          have hwm : IntKind.i64.wrap (m : Int) = m := wrap_in (by omega) (by omega)
          have hgt' : tlt z v → ∀ k y, m ≤ k → D[k]? = some y → tlt z y := fun hzv k y hk hy => by
            by_cases e : k = m
            · subst e; rw [hv] at hy; cases hy; exact hzv
            · exact hgt k y (by omega) hy
          by_cases c1 : z.t < v.t
          · simp [hk0, hat, hA, b1, b2, hm, hpos, hwm, c1]
            exact Kloop_normal ⟨rfl, m, by omega, hgt' (.inl c1), fr_intro (by simp)⟩ (by simp)
          by_cases c2 : v.t = z.t
          · by_cases c3 : z.n < v.n
            · simp [hk0, hat, hA, b1, b2, hm, hpos, hwm, c2, c3]
              exact Kloop_normal ⟨rfl, m, by omega, hgt' (.inr ⟨c2.symm, c3⟩), fr_intro (by simp)⟩ (by simp)
            · have hst := stop fun k y hk hy hlt => by
                have hkl := ltX hy
                have hml := ltX hv
                rcases Nat.lt_or_ge k m with q | q
                · have := List.pairwise_iff_getElem.1 hsr k m hkl hml q
                  rw [(List.getElem?_eq_some_iff.1 hy).2, (List.getElem?_eq_some_iff.1 hv).2] at this
                  unfold tlt at this hlt
                  omega
                · have e : k = m := by omega
                  subst e
                  rw [hv] at hy; cases hy
                  unfold tlt at hlt
                  omega
              by_cases hroom : D.length + 1 ≤ c
              · have hle3 : (D.length + 1) * 2 ≤ A.length := by rw [a4]; exact mul_rows hroom
                simp [hk0, hat, hA, b1, b2, hm, hpos, hwm, c2, c3, hfree, hroom, a3, hle3, w3, w4]
                have hf := hg.room hA hroom ⟨0, 0⟩
                exact hgo _ _ ⟨_, D.length, id, c, hst, by omega, Nat.le_refl _, by rw [shL_top]; simpa using hf, fr_intro (by simp)⟩
              · simp [hk0, hat, hA, b1, b2, hm, hpos, hwm, c2, c3, hfree, hroom, a3, p1, p2]
                refine VGrow_intro fun c' hc1 hc2 => ?_
                simp [w3, w4]
                have hf := hg.grow hA hc1 hc2 ⟨0, 0⟩
                exact hgo _ _ ⟨_, D.length, K.length, c', hst, by omega, Nat.le_refl _, by rw [shL_top]; simpa [zAl] using hf, fr_intro (by simp)⟩
          · have c2' : (v.t == z.t) = false := beq_eq_false_iff_ne.2 c2
            have hst := stop fun k y hk hy hlt => by
              have hkl := ltX hy
              have hml := ltX hv
              rcases Nat.lt_or_ge k m with q | q
              · have := List.pairwise_iff_getElem.1 hsr k m hkl hml q
                rw [(List.getElem?_eq_some_iff.1 hy).2, (List.getElem?_eq_some_iff.1 hv).2] at this
                unfold tlt at this hlt
                omega
              · have e : k = m := by omega
                subst e
                rw [hv] at hy; cases hy
                unfold tlt at hlt
                omega
            by_cases hroom : D.length + 1 ≤ c
            · have hle3 : (D.length + 1) * 2 ≤ A.length := by rw [a4]; exact mul_rows hroom
              simp [hk0, hat, hA, b1, b2, hm, hpos, hwm, c1, c2', hfree, hroom, a3, hle3, w3, w4]
              have hf := hg.room hA hroom ⟨0, 0⟩
              exact hgo _ _ ⟨_, D.length, id, c, hst, by omega, Nat.le_refl _, by rw [shL_top]; simpa using hf, fr_intro (by simp)⟩
            · simp [hk0, hat, hA, b1, b2, hm, hpos, hwm, c1, c2', hfree, hroom, a3, p1, p2]
              refine VGrow_intro fun c' hc1 hc2 => ?_
              simp [w3, w4]
              have hf := hg.grow hA hc1 hc2 ⟨0, 0⟩
              exact hgo _ _ ⟨_, D.length, K.length, c', hst, by omega, Nat.le_refl _, by rw [shL_top]; simpa [zAl] using hf, fr_intro (by simp)⟩
      · intro fr K2 hI
        refine VL_go (daL H P lim ts i D z) (fun fr _ => (ai (aget fr 11)).toNat) hI ?_
        clear hI
        rintro fr K2 ⟨p, k, id2, cc, hst, hpk, hkD, hg2, x, rfl⟩
        have hlk := shL_len hkD
        obtain ⟨hid2, hil2⟩ := hg2.bx.lt _ _ _ _ _ rfl
        obtain ⟨A, hA⟩ : ∃ A, K2[id2]? = some A := ⟨_, List.getElem?_eq_getElem hil2⟩
        obtain ⟨a1, a2, a3, a4, a5, a6, a7, a8, a9⟩ := hg2.bx.cells hA
        have hk20 : K2[H.length]? = some [.int .i64 now, .sl false 2 (rowsT ts)] := (hg2.keep _ (by omega)).trans hP0
        have n1 : id2 ≠ H.length := by omega
        by_cases h5 : p < k
        · obtain ⟨k, rfl⟩ : ∃ m, k = m + 1 := ⟨k - 1, by omega⟩
          obtain ⟨v, hv⟩ : ∃ v, D[k]? = some v := ⟨_, List.getElem?_eq_getElem (by omega)⟩
          obtain ⟨b1, b2⟩ := hg2.at hA (shL_at (by omega) hv)
          have hmk := hg2.mark hA (j := k + 1) (by omega) v
          rw [shL_set (by omega) hv] at hmk
          have e0 := shL_len (D := D) (k := k) (by omega)
          rw [hlk] at hmk
          have hwm : IntKind.i64.wrap (k : Int) = k := wrap_in (by omega) (by omega)
          have h5' : (p : Int) < (k : Int) + 1 := by omega
          have hti : ((k : Int) + 1).toNat = k + 1 := by omega
          have hge : (0 : Int) ≤ (k : Int) + 1 := by omega
          have f1 : k < D.length + 1 := by omega
          have f2 : k + 1 < D.length + 1 := by omega
          have f3 : k * 2 + 2 ≤ A.length := by omega
          have f4 : (k + 1) * 2 + 2 ≤ A.length := by omega
          have ht2 := take_two b1 b2
          have hds := smps_dis a2
          simp [hA, ht2, hds, hwm, h5', hti, hge, f1, f2, f3, f4]
          exact Kloop_normal ⟨p, k, id2, cc, hst, by omega, by omega, by rw [e0]; simpa using hmk, fr_intro (by simp)⟩ (by simp)
        · have e : k = p := by omega
          subst e
          have hmk := hg2.mark hA (j := k) (by omega) z
          rw [shL_fin hkD, ← hst] at hmk
          have f2 : k < D.length + 1 := by omega
          have f4 : k * 2 + 2 ≤ A.length := by omega
          simp [hA, hk20, hat, f2, f4, hw2]
          rw [hlk, ← insT_len z D] at hmk
          exact Kloop_normal ⟨i + 1, id2, cc, by omega, by rw [hsn]; simpa using hmk, fr_intro (by simp [hsn, hsl, insT_len])⟩ (by simp; omega)
  · have ej : i = ts.length := by omega
    subst ej
    rw [List.take_length] at hg
    simp [h, hk0, hk1, rowsT_len]
    have hi := (hg.bx.lt _ _ _ _ _ rfl)
    have hle := hg.len
    have g2 := (hg.base (P' := H) (by omega) hPH).put2 (j := H.length + 1) (r := [.int .i64 lim, .sl false 2 (rowsT (leftT lim ts))]) (fun i' o m c k e => by cases e; omega) (by omega) (fun x hx => by
      simp at hx
      rcases hx with rfl | rfl
      · exact .int _ _
      · exact bnd_rowsT _ _ _)
    have hq := hQ _ id c hok g2
    exact aPost_upX (v := .tup [dwA lim (leftT lim ts), .bx id 0 (dueT lim ts).length c 2, .int .i64 0]) (by simp [dwA, hk1, List.getElem?_set_self']) (by simp; omega) g2.bd (by simp [bnd_dwA, hi.2]) hq
theorem dadv_pc (now : Nat) (lim : Int) (ts : List Tm) (hnd : ts.Nodup) (hl : ts.length ≤ 1000000000) (hB : BndH H.length H)
    (hQ0 : badT now lim = true → Q (.tup [dwA now ts, .sl false 2 [], .int .i64 250]) H)
    (hQ : badT now lim = false → Q (.tup [dwA lim (leftT lim ts), .sl false 2 (rowsT (dueT lim ts)), .int .i64 0]) H) : PC Try.prog E 17 [dwA now ts, .int .i64 lim] H Q := by
  refine PC.sees hB (dadvB_pc E _ now lim ts hnd hl (fun h => ?_) (fun K i c h hg => ?_))
  · exact ⟨_, [dwA now ts, .sl false 2 [], .int .i64 250], rfl, Nat.le_refl _, fun _ _ => rfl, ⟨.inl (.inl ⟨rfl, bnd_dwA _ _ _⟩), .inl (.inl ⟨rfl, bnd_rowsT _ false []⟩), .inl (.inl ⟨rfl, .int _ _⟩), trivial⟩, hQ0 h⟩
  · exact ⟨_, [dwA lim (leftT lim ts), .sl false 2 (rowsT (dueT lim ts)), .int .i64 0], rfl, hg.len, hg.keep, ⟨.inl (.inl ⟨rfl, bnd_dwA _ _ _⟩), .inl (hg.see (Nat.le_refl _)), .inl (.inl ⟨rfl, .int _ _⟩), trivial⟩, hQ h⟩
end
end Go.Proofs.Ytijnohcaeedffaa

set_option linter.unusedVariables false
set_option linter.unnecessarySimpa false
set_option linter.unusedSimpArgs false
set_option linter.unusedSectionVars false
set_option maxRecDepth 100000
namespace Go.Proofs.Ytijnohcaeedffaa
open Go Go.RowKit

def samI (l : List Tm) (K0 : Hp) (fr : List AV) (K : Hp) : Prop := K = K0 ∧ ∃ j : Nat, j ≤ l.length ∧ ∃ x : Nat → AV, fr = [.sl false 2 (rowsT l), .sl false 2 (rowsT l), x 2, x 3, x 4, .int .i64 j, x 6, x 7, x 8, x 9, x 10, x 11, x 12, x 13, x 14, x 15, x 16, x 17, x 18, x 19, x 20, x 21, x 22, x 23, x 24, x 25, x 26, x 27, x 28, x 29, x 30, x 31, x 32, x 33, x 34, x 35, x 36, x 37, x 38, x 39, x 40]
section
variable {H : Hp} (E : Env) (Q : AV → Hp → Prop)
theorem wsame_pc (l : List Tm) (hl : l.length ≤ 1000000000) (hQ : Q (.bool true) H) : PC Try.prog E 18 [.sl false 2 (rowsT l), .sl false 2 (rowsT l)] H Q := by
  refine pc_enter Try.func18 rfl [] [] (by kernel_rfl) (fun hB => ?_)
  simp [Try.ntmps18, Try.results18, List.replicate_succ, rowsT_len]
  refine VL_go (samI l H) (fun fr _ => l.length - (ai (aget fr 5)).toNat) ⟨rfl, 0, by omega, fr_intro (by simp)⟩ ?_
  rintro fr K ⟨rfl, j, hj, x, rfl⟩
  have hw2 : IntKind.i64.wrap ((j : Int) + 1) = j + 1 := wrap_in (by omega) (by omega)
  by_cases h : j < l.length
  · obtain ⟨z, hz⟩ : ∃ z, l[j]? = some z := ⟨_, List.getElem?_eq_getElem h⟩
    have hat := rowsT_at hz
    simp [h, hat, rowsT_len, hw2]
    exact Kloop_normal ⟨rfl, j + 1, by omega, fr_intro (by simp)⟩ (by simp; omega)
  · simp [h, rowsT_len]
    exact aPost_same0 hB rfl (nilV_refl _) (by simp) hQ
variable {M : Nat → Prop} {iw now : Nat} {st : Int} {ts : List Tm}
end
end Go.Proofs.Ytijnohcaeedffaa

set_option linter.unusedVariables false
set_option linter.unnecessarySimpa false
set_option linter.unusedSimpArgs false
set_option linter.unusedSectionVars false
set_option maxRecDepth 100000
namespace Go.Proofs.Ytijnohcaeedffaa
open Go Go.RowKit Go.ChangeShapes Go.WideShapes Go.ChangeAt Go.Deep

structure Op25 where
  k : Int
  n : Int
  t : Int
def rowsO (l : List Op25) : List (List AV) := l.map fun o => [.int .i64 o.k, .int .i64 o.n, .int .i64 o.t]
theorem rowsO_len (l : List Op25) : (rowsO l).length = l.length := List.length_map ..
theorem rowsO_at {l : List Op25} {i : Nat} {o : Op25} (h : l[i]? = some o) : lat (rowsO l) i = some [.int .i64 o.k, .int .i64 o.n, .int .i64 o.t] := by show (rowsO l)[i]? = _; simp [rowsO, h]
def okO (l : List Op25) : Prop := ∀ o ∈ l, okKey o.k ∧ okKey o.n ∧ okKey o.t
def opK25 : List CK := [.int .i64, .int .i64, .int .i64]
theorem ops25_of_rows : ∀ (rows : List (List AV)), (∀ r ∈ rows, r.length = 3 ∧ ∀ (j : Nat) k y, opK25[j]? = some k → r[j]? = some y → KindOf k y) → ∃ l : List Op25, rows = rowsO l ∧ okO l
  | [], _ => ⟨[], rfl, nofun⟩
  | r :: rows, h => by
    obtain ⟨l, rfl, hl⟩ := ops25_of_rows rows fun r' hr' => h r' (List.mem_cons_of_mem _ hr')
    obtain ⟨h1, h2⟩ := h r (List.mem_cons_self ..)
    match r, h1, h2 with
    | [a, b, c], _, h2 =>
      obtain ⟨k, rfl, hk⟩ := int_kind (h2 0 _ a rfl rfl)
      obtain ⟨n, rfl, hn⟩ := int_kind (h2 1 _ b rfl rfl)
      obtain ⟨t, rfl, ht⟩ := int_kind (h2 2 _ c rfl rfl)
      refine ⟨⟨k, n, t⟩ :: l, rfl, fun y hy => ?_⟩
      rcases List.mem_cons.1 hy with rfl | hy
      · exact ⟨hk, hn, ht⟩
      · exact hl y hy
section
variable {H K : Hp} {M1 M2 : Nat → Prop} {i1 n1 i2 n2 : Nat} {s1 s2 : Int} {t1 t2 : List Tm}
theorem Ups.put {M : Nat → Prop} (h : Ups H K M) {j : Nat} (hj : H.length ≤ j) (r : List AV) : Ups H (K.set j r) M :=
  ⟨by simpa using h.le, fun i hi => (getNX (by omega) r).trans (h.keep i hi), h.abv⟩
theorem Two.put (h : Two H K M1 M2 i1 n1 s1 t1 i2 n2 s2 t2) {j : Nat} (hj : H.length ≤ j) (h1 : ¬ M1 j) (h2 : ¬ M2 j) (r : List AV) : Two H (K.set j r) M1 M2 i1 n1 s1 t1 i2 n2 s2 t2 :=
  ⟨h.w1.keep (by simp) fun i hi => getNX (fun e => h1 (by rw [e]; exact hi)) r, h.w2.keep (by simp) fun i hi => getNX (fun e => h2 (by rw [e]; exact hi)) r, h.u1.put hj r, h.a2, h.dis⟩
end
section
variable {H : Hp} (E : Env) (Q : AV → Hp → Prop)
end
end Go.Proofs.Ytijnohcaeedffaa

set_option linter.unusedVariables false
set_option linter.unnecessarySimpa false
set_option linter.unusedSimpArgs false
set_option linter.unusedSectionVars false
set_option maxRecDepth 100000
namespace Go.Proofs.Ytijnohcaeedffaa
open Go Go.RowKit

/-- What a marked list holds. -/
def mkC (i : Nat) (m : Nat) (u : AV) : Prop := (m % 2 = 0 → u = .int .i64 (-1 - (i : Int))) ∧ (m % 2 = 1 → u = .int .i64 (-1 - ((m / 2 : Nat) : Int)))
/-- A list: its value, its length, the operation that it came from. -/
structure Ml where
  v : AV
  n : Nat
  i : Nat
def rowsM (l : List Ml) : List (List AV) := l.map fun e => [e.v]
theorem rowsM_len (l : List Ml) : (rowsM l).length = l.length := List.length_map ..
theorem rowsM_at {l : List Ml} {i : Nat} {e : Ml} (h : l[i]? = some e) : lat (rowsM l) i = some [e.v] := by show (rowsM l)[i]? = _; simp [rowsM, h]
structure MemS (H K : Hp) (M : Nat → Prop) (now : Nat) (st : Int) (ts : List Tm) (i : Nat) (LS : List Ml) (L0 : Nat) : Prop where
  w : Wh M K H.length now st ts
  u : Ups H K M
  m : K[H.length + 1]? = some [.int .i64 now, .sl false 2 (rowsT ts)]
  nm : ¬ M (H.length + 1)
  bd : 0 ≤ st ∧ st + 576 * ts.length ≤ 576 * i ∧ ts.length ≤ i
  ls : ∀ e ∈ LS, BX K (fun j => H.length + 1 < j ∧ j < L0 ∧ ¬ M j) 2 e.v e.n (mkC e.i)
  tg : LS.Pairwise fun a b => a.i < b.i
  tl : ∀ e ∈ LS, e.i < i
  l0 : H.length + 2 ≤ L0 ∧ L0 ≤ K.length
section
variable {H K K' : Hp} {M M' : Nat → Prop} {now : Nat} {st : Int} {ts : List Tm} {i L0 : Nat} {LS : List Ml}
theorem MemS.app (h : MemS H K M now st ts i LS L0) (J : Hp) : MemS H (K ++ J) M now st ts i LS L0 := by
  have hl := h.l0
  have hle := h.u.le
  refine ⟨h.w.keep (by simp) fun j hj => List.getElem?_append_left (h.w.lt j hj), ⟨by simp; omega, fun j hj => (List.getElem?_append_left (by omega)).trans (h.u.keep j hj), h.u.abv⟩, (List.getElem?_append_left (ltX h.m)).trans h.m, h.nm, h.bd, fun e he => (h.ls e he).app J, h.tg, h.tl, hl.1, by simp; omega⟩
theorem MemS.put (h : MemS H K M now st ts i LS L0) {j : Nat} (hj : L0 ≤ j) (hM : ¬ M j) (r : List AV) : MemS H (K.set j r) M now st ts i LS L0 := by
  have hl := h.l0
  refine ⟨h.w.keep (by simp) fun k hk => getNX (fun e => hM (by rw [e]; exact hk)) _, h.u.put (by omega) r, (getNX (by omega) _).trans h.m, h.nm, h.bd, fun e he => (h.ls e he).put (fun i' o m c k' ee => by have := ((h.ls e he).lt _ _ _ _ _ ee).1; omega) r, h.tg, h.tl, hl.1, by simpa using hl.2⟩
/-- Behind a call on the wheel; the document's is written. -/
theorem MemS.next (h : MemS H K M now st ts i LS L0) {now' : Nat} {st' : Int} {ts' : List Tm} (hW : Wh M' K' H.length now' st' ts') (hL : Lft M M' K K') (hb : 0 ≤ st' ∧ st' + 576 * ts'.length ≤ 576 * (i + 1 : Nat) ∧ ts'.length ≤ i + 1) : MemS H (K'.set (H.length + 1) [.int .i64 now', .sl false 2 (rowsT ts')]) M' now' st' ts' (i + 1) LS L0 := by
  have hl := h.l0
  obtain ⟨f, nm'⟩ : K'[H.length + 1]? = K[H.length + 1]? ∧ ¬ M' (H.length + 1) := ⟨hL.keep _ (ltX h.m) h.nm, fun hm => by
    rcases hL.sub _ hm with a | a
    · exact h.nm a
    · have := ltX h.m; omega⟩
  have hlt := ltX (f.trans h.m)
  refine ⟨hW.keep (by simp) fun k hk => getNX (fun e => nm' (by rw [e]; exact hk)) _, (h.u.go hL).put (by omega) _, List.getElem?_set_self hlt, nm', hb, fun e he => ?_, h.tg, fun e he => by have := h.tl e he; omega, hl.1, by have := hL.le; simp; omega⟩
  refine (BX.of_eq (K' := K') (h.ls e he) (fun i' _ _ _ _ ee => ?_) (G' := fun j => H.length + 1 < j ∧ j < L0 ∧ ¬ M' j) (fun i' _ _ _ _ ee => ?_) (fun _ _ _ _ h => h)).put (fun i' o m c k' ee => by have := ((h.ls e he).lt _ _ _ _ _ ee).1; omega) _
  · obtain ⟨⟨q1, q2, q3⟩, q4⟩ := (h.ls e he).lt _ _ _ _ _ ee
    exact hL.keep _ q4 q3
  · obtain ⟨⟨q1, q2, q3⟩, q4⟩ := (h.ls e he).lt _ _ _ _ _ ee
    exact ⟨q1, q2, fun hm => by
      rcases hL.sub _ hm with a | a
      · exact q3 a
      · omega⟩
/-- A list more. -/
theorem MemS.more (h : MemS H K M now st ts (i + 1) LS L0) (hi : ∀ e ∈ LS, e.i < i) {v : AV} {n : Nat} (hv : BX K (fun j => L0 ≤ j ∧ ¬ M j) 2 v n (mkC i)) : MemS H K M now st ts (i + 1) (LS ++ [⟨v, n, i⟩]) K.length := by
  have hl := h.l0
  refine ⟨h.w, h.u, h.m, h.nm, h.bd, fun e he => ?_, List.pairwise_append.2 ⟨h.tg, List.pairwise_singleton .., fun a ha b hb => ?_⟩, fun e he => ?_, by omega, Nat.le_refl _⟩
  · rcases List.mem_append.1 he with he | he
    · exact (h.ls e he).of_eq (fun _ _ _ _ _ _ => rfl) (fun i' _ _ _ _ ee => by
        obtain ⟨⟨q1, q2, q3⟩, q4⟩ := (h.ls e he).lt _ _ _ _ _ ee
        exact ⟨q1, q4, q3⟩) (fun _ _ _ _ h => h)
    · simp at he; subst he
      exact hv.of_eq (fun _ _ _ _ _ _ => rfl) (fun i' _ _ _ _ ee => by
        obtain ⟨⟨q1, q2⟩, q4⟩ := hv.lt _ _ _ _ _ ee
        exact ⟨by omega, q4, q2⟩) (fun _ _ _ _ h => h)
  · simp at hb; subst hb; exact hi a ha
  · rcases List.mem_append.1 he with he | he
    · exact h.tl e he
    · simp at he; subst he; simp
/-- A box is written behind what is known of a list. -/
theorem BX.keepPre {G : Nat → Prop} {k n j : Nat} {v : AV} {C : Nat → AV → Prop} {A A' : List AV} (h : BX K G k v n C) (hA : K[j]? = some A) (hl : A'.length = A.length) (hs : ∀ y ∈ A', smp y) (hp : ∀ m, m < n * k → A'[m]? = A[m]?) : BX (K.set j A') G k v n C := by
  rcases h with h | ⟨i, c, B, h1, rfl, h2, h3, h4, h5, h6, h7⟩
  · exact .inl h
  · by_cases e : i = j
    · subst e
      rw [hA] at h2; cases h2
      exact .inr ⟨i, c, A', h1, rfl, List.getElem?_set_self (ltX hA), by omega, h4, h5, hs, fun m y hm hy => h7 m y hm (by rw [← hp m hm]; exact hy)⟩
    · exact .inr ⟨i, c, B, h1, rfl, (getNX (Ne.symm e) _).trans h2, h3, h4, h5, h6, h7⟩
end
end Go.Proofs.Ytijnohcaeedffaa

set_option linter.unusedVariables false
set_option linter.unnecessarySimpa false
set_option linter.unusedSimpArgs false
set_option linter.unusedSectionVars false
set_option maxRecDepth 100000
namespace Go.Proofs.Ytijnohcaeedffaa
open Go Go.RowKit Go.ChangeShapes Go.WideShapes Go.ChangeAt Go.Deep

theorem shareY {I P : List AV → Hp → Prop} {G : Prop} (main : (∀ fr H', I fr H' → P fr H') → G) (tail : ∀ fr H', I fr H' → P fr H') : G := main tail
def myI (H : Hp) (sc : List Op25) (fr : List AV) (K : Hp) : Prop := ∃ (i : Nat) (M : Nat → Prop) (now : Nat) (st : Int) (ts : List Tm) (LS : List Ml) (L0 : Nat), MemS H K M now st ts i LS L0 ∧ LS.length ≤ i ∧ i ≤ sc.length ∧ BndH K.length K ∧
  ∃ x : Nat → AV, fr = [x 0, .sl false 3 (rowsO sc), x 2, x 3, x 4, .ptr (some (H.length, 0)), x 6, .ptr (some (H.length + 1, 0)), x 8, .sl true 1 (rowsM LS), .int .i64 i, x 11, x 12, x 13, x 14, x 15, x 16, x 17, x 18, x 19, x 20, x 21, x 22, x 23, x 24, x 25, x 26, x 27, x 28, x 29, x 30, x 31, x 32, x 33, x 34, x 35, x 36, x 37, x 38, x 39, x 40, x 41, x 42, x 43, x 44, x 45, x 46, x 47, x 48, x 49, x 50, x 51, x 52, x 53, x 54, x 55, x 56, x 57, x 58, x 59, x 60, x 61, x 62, x 63, x 64, x 65, x 66, x 67, x 68, x 69, x 70, x 71, x 72, x 73, x 74, x 75, x 76, x 77, x 78, x 79, x 80, x 81, x 82, x 83, x 84, x 85, x 86, x 87, x 88, x 89, x 90, x 91, x 92, x 93, x 94, x 95, x 96, x 97, x 98, x 99, x 100, x 101, x 102, x 103, x 104, x 105, x 106, x 107, x 108, x 109, x 110, x 111, x 112, x 113, x 114, x 115, x 116, x 117, x 118, x 119, x 120, x 121, x 122, x 123, x 124, x 125, x 126, x 127, x 128, x 129, x 130, x 131, x 132, x 133, x 134, x 135, x 136, x 137, x 138, x 139, x 140, x 141, x 142, x 143, x 144, x 145, x 146, x 147, x 148, x 149, x 150, x 151, x 152, x 153, x 154, x 155, x 156, x 157, x 158, x 159, x 160, x 161, x 162, x 163, x 164, x 165, x 166, x 167, x 168, x 169, x 170, x 171, x 172, x 173, x 174, x 175, x 176, x 177, x 178, x 179, x 180, x 181, x 182, x 183, x 184, x 185, x 186, x 187, x 188, x 189, x 190, x 191]
/-- The list that came out is marked. -/
def myM (H : Hp) (sc : List Op25) (i : Nat) (LS : List Ml) (L0 : Nat) (fr : List AV) (K : Hp) : Prop := ∃ (M : Nat → Prop) (now : Nat) (st : Int) (ts : List Tm) (n j : Nat) (v : AV), MemS H K M now st ts (i + 1) LS L0 ∧ BX K (fun j => L0 ≤ j ∧ ¬ M j) 2 v n (fun m u => m < j * 2 → mkC i m u) ∧ j ≤ n ∧ n ≤ 1048576 ∧ BndH K.length K ∧
  ∃ x : Nat → AV, fr = [x 0, .sl false 3 (rowsO sc), x 2, x 3, x 4, .ptr (some (H.length, 0)), x 6, .ptr (some (H.length + 1, 0)), x 8, .sl true 1 (rowsM LS), .int .i64 i, x 11, x 12, x 13, x 14, x 15, x 16, v, x 18, .int .i64 j, x 20, x 21, x 22, x 23, x 24, x 25, x 26, x 27, x 28, x 29, x 30, x 31, x 32, x 33, x 34, x 35, x 36, x 37, x 38, x 39, x 40, x 41, x 42, x 43, x 44, x 45, x 46, x 47, x 48, x 49, x 50, x 51, x 52, x 53, x 54, x 55, x 56, x 57, x 58, x 59, x 60, x 61, x 62, x 63, x 64, x 65, x 66, x 67, x 68, x 69, x 70, x 71, x 72, x 73, x 74, x 75, x 76, x 77, x 78, x 79, x 80, x 81, x 82, x 83, x 84, x 85, x 86, x 87, x 88, x 89, x 90, x 91, x 92, x 93, x 94, x 95, x 96, x 97, x 98, x 99, x 100, x 101, x 102, x 103, x 104, x 105, x 106, x 107, x 108, x 109, x 110, x 111, x 112, x 113, x 114, x 115, x 116, x 117, x 118, x 119, x 120, x 121, x 122, x 123, x 124, x 125, x 126, x 127, x 128, x 129, x 130, x 131, x 132, x 133, x 134, x 135, x 136, x 137, x 138, x 139, x 140, x 141, x 142, x 143, x 144, x 145, x 146, x 147, x 148, x 149, x 150, x 151, x 152, x 153, x 154, x 155, x 156, x 157, x 158, x 159, x 160, x 161, x 162, x 163, x 164, x 165, x 166, x 167, x 168, x 169, x 170, x 171, x 172, x 173, x 174, x 175, x 176, x 177, x 178, x 179, x 180, x 181, x 182, x 183, x 184, x 185, x 186, x 187, x 188, x 189, x 190, x 191]
/-- It is grown. -/
def myG (H : Hp) (sc : List Op25) (i : Nat) (LS : List Ml) (L0 : Nat) (fr : List AV) (K : Hp) : Prop := ∃ (M : Nat → Prop) (now : Nat) (st : Int) (ts : List Tm) (n j : Nat) (v gv : AV), MemS H K M now st ts (i + 1) LS L0 ∧ BX K (fun j => L0 ≤ j ∧ ¬ M j) 2 v n (mkC i) ∧ BX K (fun j => L0 ≤ j ∧ ¬ M j) 2 gv (n + j) (fun _ _ => True) ∧ j ≤ 20 ∧ n ≤ 1048576 ∧ BndH K.length K ∧
  ∃ x : Nat → AV, fr = [x 0, .sl false 3 (rowsO sc), x 2, x 3, x 4, .ptr (some (H.length, 0)), x 6, .ptr (some (H.length + 1, 0)), x 8, .sl true 1 (rowsM LS), .int .i64 i, x 11, x 12, x 13, x 14, x 15, x 16, v, x 18, x 19, gv, .int .i64 j, x 22, x 23, x 24, x 25, x 26, x 27, x 28, x 29, x 30, x 31, x 32, x 33, x 34, x 35, x 36, x 37, x 38, x 39, x 40, x 41, x 42, x 43, x 44, x 45, x 46, x 47, x 48, x 49, x 50, x 51, x 52, x 53, x 54, x 55, x 56, x 57, x 58, x 59, x 60, x 61, x 62, x 63, x 64, x 65, x 66, x 67, x 68, x 69, x 70, x 71, x 72, x 73, x 74, x 75, x 76, x 77, x 78, x 79, x 80, x 81, x 82, x 83, x 84, x 85, x 86, x 87, x 88, x 89, x 90, x 91, x 92, x 93, x 94, x 95, x 96, x 97, x 98, x 99, x 100, x 101, x 102, x 103, x 104, x 105, x 106, x 107, x 108, x 109, x 110, x 111, x 112, x 113, x 114, x 115, x 116, x 117, x 118, x 119, x 120, x 121, x 122, x 123, x 124, x 125, x 126, x 127, x 128, x 129, x 130, x 131, x 132, x 133, x 134, x 135, x 136, x 137, x 138, x 139, x 140, x 141, x 142, x 143, x 144, x 145, x 146, x 147, x 148, x 149, x 150, x 151, x 152, x 153, x 154, x 155, x 156, x 157, x 158, x 159, x 160, x 161, x 162, x 163, x 164, x 165, x 166, x 167, x 168, x 169, x 170, x 171, x 172, x 173, x 174, x 175, x 176, x 177, x 178, x 179, x 180, x 181, x 182, x 183, x 184, x 185, x 186, x 187, x 188, x 189, x 190, x 191]
/-- All lists are looked at. -/
def myX (H : Hp) (sc : List Op25) (i : Nat) (LS : List Ml) (K0 : Hp) (fr : List AV) (K : Hp) : Prop := K = K0 ∧ ∃ y : Nat, y ≤ LS.length ∧
  ∃ x : Nat → AV, fr = [x 0, .sl false 3 (rowsO sc), x 2, x 3, x 4, .ptr (some (H.length, 0)), x 6, .ptr (some (H.length + 1, 0)), x 8, .sl true 1 (rowsM LS), .int .i64 i, x 11, x 12, x 13, x 14, x 15, x 16, x 17, x 18, x 19, x 20, x 21, .int .i64 y, x 23, x 24, x 25, x 26, x 27, x 28, x 29, x 30, x 31, x 32, x 33, x 34, x 35, x 36, x 37, x 38, x 39, x 40, x 41, x 42, x 43, x 44, x 45, x 46, x 47, x 48, x 49, x 50, x 51, x 52, x 53, x 54, x 55, x 56, x 57, x 58, x 59, x 60, x 61, x 62, x 63, x 64, x 65, x 66, x 67, x 68, x 69, x 70, x 71, x 72, x 73, x 74, x 75, x 76, x 77, x 78, x 79, x 80, x 81, x 82, x 83, x 84, x 85, x 86, x 87, x 88, x 89, x 90, x 91, x 92, x 93, x 94, x 95, x 96, x 97, x 98, x 99, x 100, x 101, x 102, x 103, x 104, x 105, x 106, x 107, x 108, x 109, x 110, x 111, x 112, x 113, x 114, x 115, x 116, x 117, x 118, x 119, x 120, x 121, x 122, x 123, x 124, x 125, x 126, x 127, x 128, x 129, x 130, x 131, x 132, x 133, x 134, x 135, x 136, x 137, x 138, x 139, x 140, x 141, x 142, x 143, x 144, x 145, x 146, x 147, x 148, x 149, x 150, x 151, x 152, x 153, x 154, x 155, x 156, x 157, x 158, x 159, x 160, x 161, x 162, x 163, x 164, x 165, x 166, x 167, x 168, x 169, x 170, x 171, x 172, x 173, x 174, x 175, x 176, x 177, x 178, x 179, x 180, x 181, x 182, x 183, x 184, x 185, x 186, x 187, x 188, x 189, x 190, x 191]
def myY (H : Hp) (sc : List Op25) (i : Nat) (LS : List Ml) (K0 : Hp) (y n : Nat) (fr : List AV) (K : Hp) : Prop := K = K0 ∧ ∃ z : Nat, z ≤ n ∧
  ∃ x : Nat → AV, fr = [x 0, .sl false 3 (rowsO sc), x 2, x 3, x 4, .ptr (some (H.length, 0)), x 6, .ptr (some (H.length + 1, 0)), x 8, .sl true 1 (rowsM LS), .int .i64 i, x 11, x 12, x 13, x 14, x 15, x 16, x 17, x 18, x 19, x 20, x 21, .int .i64 y, .int .i64 z, x 24, x 25, x 26, x 27, x 28, x 29, x 30, x 31, x 32, x 33, x 34, x 35, x 36, x 37, x 38, x 39, x 40, x 41, x 42, x 43, x 44, x 45, x 46, x 47, x 48, x 49, x 50, x 51, x 52, x 53, x 54, x 55, x 56, x 57, x 58, x 59, x 60, x 61, x 62, x 63, x 64, x 65, x 66, x 67, x 68, x 69, x 70, x 71, x 72, x 73, x 74, x 75, x 76, x 77, x 78, x 79, x 80, x 81, x 82, x 83, x 84, x 85, x 86, x 87, x 88, x 89, x 90, x 91, x 92, x 93, x 94, x 95, x 96, x 97, x 98, x 99, x 100, x 101, x 102, x 103, x 104, x 105, x 106, x 107, x 108, x 109, x 110, x 111, x 112, x 113, x 114, x 115, x 116, x 117, x 118, x 119, x 120, x 121, x 122, x 123, x 124, x 125, x 126, x 127, x 128, x 129, x 130, x 131, x 132, x 133, x 134, x 135, x 136, x 137, x 138, x 139, x 140, x 141, x 142, x 143, x 144, x 145, x 146, x 147, x 148, x 149, x 150, x 151, x 152, x 153, x 154, x 155, x 156, x 157, x 158, x 159, x 160, x 161, x 162, x 163, x 164, x 165, x 166, x 167, x 168, x 169, x 170, x 171, x 172, x 173, x 174, x 175, x 176, x 177, x 178, x 179, x 180, x 181, x 182, x 183, x 184, x 185, x 186, x 187, x 188, x 189, x 190, x 191]
theorem BT.sees {H K : Hp} {v : AV} {l : List Tm} (h : BT H K v l) : seesBx K v (.sl false 2 (rowsT l)) := by
  rcases h with ⟨h0, rfl⟩ | ⟨i, c, A, h1, rfl, h2, h3, h4, h5, h6, h7⟩
  · have : l = [] := List.eq_nil_of_length_eq_zero h0
    subst this
    exact .inr (.inl ⟨rfl, 2, rfl⟩)
  · refine .inr (.inr ⟨i, 0, l.length, c, 2, rowsT l, A, rfl, rfl, rowsT_len l, fun r hr => ?_, h2, by rw [h3]; have := mul_rows (k := 2) h4; omega, fun j u hu => ?_, fun r hr x hx => ?_⟩)
    · obtain ⟨y, _, rfl⟩ := List.mem_map.1 hr; rfl
    · have hj : j < l.length * 2 := by have := ltX hu; rw [flT_len] at this; exact this
      have hj2 : j < A.length := by rw [h3]; have := mul_rows (k := 2) h4; omega
      have : (rowsT l).flatten[j]? = some A[j] := h7 j _ hj (List.getElem?_eq_getElem hj2)
      rw [hu] at this
      rw [Nat.zero_add, List.getElem?_eq_getElem hj2]
      exact this.symm
    · obtain ⟨y, _, rfl⟩ := List.mem_map.1 hr
      simp at hx
      rcases hx with rfl | rfl <;> rfl
section
variable {H : Hp} (E : Env) (Q : AV → Hp → Prop)
theorem wsameB_pc (v : AV) (l : List Tm) (hs : seesBx H v (.sl false 2 (rowsT l))) (hl : l.length ≤ 1000000000) (hQ : Q (.bool true) H) : PC Try.prog E 18 [v, .sl false 2 (rowsT l)] H Q :=
  PC.pure (args' := [.sl false 2 (rowsT l), .sl false 2 (rowsT l)]) (by kernel_rfl) ⟨hs, .inl rfl, trivial⟩ (fun y hy => by
    simp at hy
    subst hy
    exact ⟨bnd_rowsT 0 false l, rfl⟩) (by simp) (fun E' Q' h0 hF hq => wsame_pc E' Q' l hl hq) hQ
set_option maxHeartbeats 8000000 in
theorem wmem_pc (now : Int) (sc : List Op25) (hk : okO sc) (hl : sc.length ≤ 1048576) (hQ : Q (.bool true) H) : PC Try.prog E 5 [.int .i64 now, .sl false 3 (rowsO sc)] H Q := by
  refine pc_enter Try.func5 rfl [124] [(30, [0, 0, 0, 3]), (40, [0, 1])] (by kernel_rfl) (fun hB => ?_)
  simp [Try.ntmps5, Try.results5, List.replicate_succ]
  refine PC.bnd (wnew_pc E _ now (fun hb _ _ => ?_) (fun n row e hn hb hW1 hB1 _ => ?_))
  · simp [Kcall, KP]
    refine dnew_pc E _ now (fun _ => ?_) (fun h => by rw [hb] at h; cases h)
    simp [Kcall, KP, dwA]
    refine PC.bnd (awake_pc E _ (fun _ _ => ?_))
    simp [Kcall, KP]
    exact aPost_lawX hB (by simp) (fun j hj => List.getElem?_append_left hj) rfl (by simp) hQ
  have u1 := (Ups.refl H).go (Lft.new H row)
  simp [Kcall, KP]
  refine dnew_pc E _ now (fun h => by rw [hb] at h; cases h) (fun _ => ?_)
  simp [Kcall, KP, dwA]
  refine PC.bnd (awake_pc E _ (fun hB2 _ => ?_))
  simp [Kcall, KP]
  subst e
  have hW2 : Wh (fun j => j = H.length) (H ++ [row, [.int .i64 n, .sl false 2 (rowsT [])]]) H.length n 0 [] := hW1.keep (by simp) fun j hj => by
    rw [show H ++ [row, [AV.int .i64 n, .sl false 2 (rowsT [])]] = (H ++ [row]) ++ [[AV.int .i64 n, .sl false 2 (rowsT [])]] by simp]
    exact List.getElem?_append_left (by simp; omega)
  have u2 : Ups H (H ++ [row, [.int .i64 n, .sl false 2 (rowsT [])]]) (fun j => j = H.length) := ⟨by simp, fun j hj => List.getElem?_append_left hj, fun j hj => by omega⟩
  have hM0 : MemS H (H ++ [row, [.int .i64 n, .sl false 2 (rowsT [])]]) (fun j => j = H.length) n 0 [] 0 [] (H.length + 2) := ⟨hW2, u2, by simp, by omega, by simp, nofun, List.Pairwise.nil, nofun, by simp⟩
  refine VL_go (myI H sc) (fun fr _ => sc.length - (ai (aget fr 10)).toNat) ⟨0, _, n, 0, [], [], _, hM0, by simp, by omega, hB2, fr_intro (by simp [rowsM])⟩ ?_
  clear hW1 hW2 u1 u2 hB1 hB2 hM0
  rintro fr K ⟨i, M, n, st, ts, LS, L0, hS, hLl, hi, hBK, x, rfl⟩
  have hw1 : IntKind.i64.wrap ((i : Int) + 1) = i + 1 := wrap_in (by omega) (by omega)
  have hbd := hS.bd
  by_cases h1 : i < sc.length
  · obtain ⟨o, ho⟩ : ∃ o, sc[i]? = some o := ⟨_, List.getElem?_eq_getElem h1⟩
    have hat := rowsO_at ho
    obtain ⟨c1, c2, c3⟩ := hk o (List.mem_of_getElem? ho)
    have b1 := Int.lt_tmod_of_pos o.k (by decide : (0 : Int) < 2)
    have b2 := Int.tmod_lt_of_pos o.k (by decide : (0 : Int) < 2)
    have w2 : IntKind.i64.wrap (o.k.tmod 2) = o.k.tmod 2 := wrap_in (by omega) (by omega)
    have hm := hS.m
    have hlm := ltX hm
    have hnd := hS.w.nd
    have hndp := hS.w.nodup
    have hnow := hS.w.nowle
    have hSo := hS.app [[.int .i64 o.k, .int .i64 o.n, .int .i64 o.t]]
    have hBo : BndH (K ++ [[AV.int .i64 o.k, .int .i64 o.n, .int .i64 o.t]]).length (K ++ [[AV.int .i64 o.k, .int .i64 o.n, .int .i64 o.t]]) := bndX_app (bndX_up hBK (by simp)) fun l hl x hx => by
      simp at hl; subst hl
      simp at hx
      rcases hx with rfl | rfl | rfl <;> exact .int _ _
    by_cases he : o.k.tmod 2 = 0
    · simp [h1, hat, rowsO_len, w2, he, getX hlm, hm]
      refine dset_pc E _ n ts o.n o.t hnd (by omega) hnow hBo ?_
      simp [Kcall, KP, dwA]
      have hS2 := hS.app [[.int .i64 o.k, .int .i64 o.n, .int .i64 o.t], [.int .i64 n, .sl false 2 (rowsT (setM n ts o.n o.t))]]
      refine PC.bnd (wset_pc E _ hS2.w o.n o.t c2 c3 (by omega) (fun K2 M' hW hL hBK2 _ => ?_))
      have f7 : K2[H.length + 1]? = some [.int .i64 n, .sl false 2 (rowsT ts)] := (hL.keep _ (ltX hS2.m) hS2.nm).trans hS2.m
      have f12 : K2[K.length + 1]? = some [.int .i64 n, .sl false 2 (rowsT (setM n ts o.n o.t))] := by
        rw [hL.keep _ (by simp) (fun hm2 => by have := hS.w.lt _ hm2; omega), List.getElem?_append_right (by omega)]
        simp
      have hsl := setM_len n ts o.n o.t
      simp [Kcall, KP, f7, f12, hw1]
      have hN := hS2.next hW hL (by omega)
      have hbd2 : BndH (K2.set (H.length + 1) [.int .i64 n, .sl false 2 (rowsT (setM n ts o.n o.t))]).length (K2.set (H.length + 1) [.int .i64 n, .sl false 2 (rowsT (setM n ts o.n o.t))]) := by
        rw [List.length_set]
        exact bndX_put hBK2 _ fun x hx => by
          simp at hx
          rcases hx with rfl | rfl
          · exact .int _ _
          · exact bnd_rowsT _ _ _
      exact Kloop_normal ⟨i + 1, M', n, st, _, LS, L0, hN, by omega, by omega, hbd2, fr_intro (by simp)⟩ (by simp; omega)
    · have he' : (o.k.tmod 2 == 0) = false := beq_eq_false_iff_ne.2 he
      simp [h1, hat, rowsO_len, w2, he', getX hlm, hm]
      have two : ∀ (N : Nat) (now' : Int) (l : List Tm), ∀ x ∈ [AV.int .i64 now', .sl false 2 (rowsT l)], Bnd N x := fun N now' l x hx => by
        simp at hx
        rcases hx with rfl | rfl
        · exact .int _ _
        · exact bnd_rowsT _ _ _
      apply shareY (I := myM H sc i LS L0)
      · intro hgo
        have c4 := due_len o.t ts
        cases hbad : badT n o.t with
        | true =>
          refine dadv_pc E _ n o.t ts hndp (by omega) hBo (fun _ => ?_) (fun hb => by rw [hbad] at hb; cases hb)
          simp [Kcall, KP, dwA]
          have hS2 := hS.app [[.int .i64 o.k, .int .i64 o.n, .int .i64 o.t], [.int .i64 n, .sl false 2 (rowsT ts)]]
          refine PC.bnd (wadvB_pc E _ hS2.w ⟨by omega, by omega⟩ o.t (fun _ hB5 _ => ?_) (fun K2 st' tk v _ hb => by rw [hbad] at hb; cases hb))
          simp [Kcall, KP]
          refine PC.bnd (wsameB_pc E _ .nil [] (.inr (.inl ⟨rfl, 2, rfl⟩)) (by simp) (fun hB6 _ => ?_))
          have f7 := hS2.m
          simp [Kcall, KP, getX hlm, hm]
          have hN := hS2.next hS2.w (Lft.refl _ _) (by omega)
          have hbd2 := bndX_put hB6 (H.length + 1) (two _ n ts)
          refine hgo _ _ ⟨M, n, st, ts, 0, 0, .nil, hN, .nil, by omega, by omega, by rw [List.length_set]; exact hbd2, fr_intro (by simp)⟩
        | false =>
          refine dadv_pc E _ n o.t ts hndp (by omega) hBo (fun hb => by rw [hbad] at hb; cases hb) (fun _ => ?_)
          simp [Kcall, KP, dwA]
          have hS2 := hS.app [[.int .i64 o.k, .int .i64 o.n, .int .i64 o.t], [.int .i64 o.t, .sl false 2 (rowsT (leftT o.t ts))]]
          refine PC.bnd (wadvB_pc E _ hS2.w ⟨by omega, by omega⟩ o.t (fun hb => by rw [hbad] at hb; cases hb) (fun K2 st' tk v htk _ _ _ hW hL hv hBK2 d1 d2 _ hB5 _ => ?_))
          obtain ⟨vf, vo, vd, vb⟩ := BX.facts hv
          simp [Kcall, KP, vd]
          refine PC.bnd (wsameB_pc E _ v (dueT o.t ts) hv.sees (by omega) (fun hB6 _ => ?_))
          have f7 : K2[H.length + 1]? = some [.int .i64 n, .sl false 2 (rowsT ts)] := (hL.keep _ (ltX hS2.m) hS2.nm).trans hS2.m
          have f14 : K2[K.length + 1]? = some [.int .i64 o.t, .sl false 2 (rowsT (leftT o.t ts))] := by
            rw [hL.keep _ (by simp) (fun hm2 => by have := hS.w.lt _ hm2; omega), List.getElem?_append_right (by omega)]
            simp
          simp [Kcall, KP, f7, f14, vd]
          have hN := hS2.next hW hL (by omega)
          have hbd2 := bndX_put hB6 (H.length + 1) (two _ o.t (leftT o.t ts))
          have hl0 := hS.l0
          rw [← htk] at hN
          refine hgo _ _ ⟨M, tk, st', _, (dueT o.t ts).length, 0, v, hN, ?_, by omega, by omega, by rw [List.length_set]; exact hbd2, fr_intro (by simp)⟩
          exact (BX.of_eq (K' := K2) hv (fun _ _ _ _ _ _ => rfl) (G' := fun j => L0 ≤ j ∧ ¬ M j) (fun i' _ _ _ _ ee => by
            have q1 := (BX.lt hv _ _ _ _ _ ee).1
            simp at q1
            exact ⟨by omega, fun hm2 => by have := hS.w.lt _ hm2; omega⟩) (fun m u _ _ _ hlt => by omega)).put (fun i' o' m c' k' ee => by
            have q1 := (BX.lt hv _ _ _ _ _ ee).1
            simp at q1
            omega) _
      · intro fr K hI
        refine VL_go (myM H sc i LS L0) (fun fr _ => 1048577 - (ai (aget fr 19)).toNat) hI ?_
        have hLi := hS.tl
        clear hI hSo hBo hm hlm hnd hndp hnow hBK
        rintro fr K ⟨M, n, st, ts, len, j, v, hS, hv, hj, hn, hBK, x, rfl⟩
        have wj : IntKind.i64.wrap ((j : Int) + 1) = j + 1 := wrap_in (by omega) (by omega)
        have wi : IntKind.i64.wrap (-1 - (i : Int)) = -1 - i := wrap_in (by omega) (by omega)
        have wm : IntKind.i64.wrap (-1 - (j : Int)) = -1 - j := wrap_in (by omega) (by omega)
        obtain ⟨vf, vo, vd, vb⟩ := hv.facts
        have hvl : ∀ t, (tsl Try.prog t).isSome = true → alen Try.prog t v = some (.int .i64 len) := fun t h => hv.alen h
        by_cases h5 : j < len
        · rcases id hv with ⟨h0, _⟩ | ⟨vi, vc, A, hvi, rfl, hA, h3, h4, h5', h6, h7⟩
          · omega
          have hjl : j * 2 + 2 ≤ A.length := by rw [h3]; have := mul_rows (k := 2) (show j + 1 ≤ vc by omega); omega
          simp [h5, hA, hjl, wj, wi, wm]
          obtain ⟨b1, b2⟩ := hv.mark hA h5 (r := [.int .i64 (-1 - (i : Int)), .int .i64 (-1 - (j : Int))]) rfl (by simp) (C' := fun m u => m < (j + 1) * 2 → mkC i m u) (fun m u hm hu hlt => by
            by_cases hin : j * 2 ≤ m ∧ m < j * 2 + 2
            · rw [if_pos hin] at hu
              rcases (show m = j * 2 ∨ m = j * 2 + 1 by omega) with rfl | rfl
              · rw [Nat.sub_self] at hu
                simp at hu; subst hu
                exact ⟨fun _ => rfl, fun h => by omega⟩
              · rw [show j * 2 + 1 - j * 2 = 1 by omega] at hu
                simp at hu; subst hu
                exact ⟨fun h => by omega, fun _ => by rw [show (j * 2 + 1) / 2 = j by omega]⟩
            · rw [if_neg hin] at hu
              exact hu (by omega))
          exact Kloop_normal ⟨M, n, st, ts, len, j + 1, _, hS.put hvi.1 hvi.2 _, b1, by omega, hn, by rw [List.length_set]; exact bndX_put hBK _ fun y hy => (b2 y hy).bnd _, fr_intro (by simp)⟩ (by simp; omega)
        have ej : j = len := by omega
        subst ej
        have hv2 : BX K (fun j => L0 ≤ j ∧ ¬ M j) 2 v j (mkC i) := hv.of_eq (fun _ _ _ _ _ _ => rfl) (fun i' _ _ _ _ ee => (hv.lt _ _ _ _ _ ee).1) (fun m u hm _ h => h hm)
        have hv3 : BX K (fun j => L0 ≤ j ∧ ¬ M j) 2 v j (fun _ _ => True) := hv.of_eq (fun _ _ _ _ _ _ => rfl) (fun i' _ _ _ _ ee => (hv.lt _ _ _ _ _ ee).1) (fun _ _ _ _ _ => trivial)
        simp [-alen, hvl, vd]
        refine VL_go (myG H sc i LS L0) (fun fr _ => 20 - (ai (aget fr 21)).toNat) ⟨M, n, st, ts, j, 0, v, v, hS, hv2, hv3, by omega, hn, hBK, fr_intro (by simp)⟩ ?_
        clear hv hv2 hv3 vf vo vd vb hvl hS hBK
        rintro fr K ⟨M, n, st, ts, len, j, v, gv, hS, hv, hg, hj, hn, hBK, x, rfl⟩
        have wj : IntKind.i64.wrap ((j : Int) + 1) = j + 1 := wrap_in (by omega) (by omega)
        have hl0 := hS.l0
        by_cases h5 : j < 20
        · have h20 : (j : Int) < 20 := by omega
          obtain ⟨q, hq⟩ : ∃ q, len + j = q := ⟨_, rfl⟩
          have hq1 : len + (j + 1) = q + 1 := by omega
          rw [hq] at hg
          have m1 : q + 1 ≤ maxLen := by unfold maxLen; omega
          have m2 : (q + 1) * 16 ≤ 140737488355328 := by omega
          have hGv : L0 ≤ K.length ∧ ¬ M K.length := ⟨hl0.2, fun hm2 => by have := hS.w.lt _ hm2; omega⟩
          rcases id hg with ⟨h0, rfl⟩ | ⟨vi, vc, A, hvi, rfl, hA, h3, h4, h5', h6, h7⟩
          · subst h0
            have m0 : 1 ≤ maxLen := by unfold maxLen; omega
            simp [h20, m0]
            refine VGrow_intro fun c hc1 hc2 => ?_
            simp [wj]
            obtain ⟨b1, b2⟩ := BX.grow (K := K) (G := fun j => L0 ≤ j ∧ ¬ M j) (n := 0) (k := 2) (C := fun _ _ => True) (C' := fun _ _ => True) (c' := c) (L := []) (r := [.int .i64 77, .int .i64 77]) (z := zAl) (by simp) (by simp) (fun _ _ _ _ => trivial) (by omega) hc2 hGv rfl (by simp) rfl (by simp [zAl]) (fun _ _ _ _ => trivial)
            simp only [List.nil_append, Nat.zero_add] at b1 b2
            exact Kloop_normal ⟨M, n, st, ts, len, j + 1, v, _, hS.app _, hv.app _, by rw [hq1]; exact b1, by omega, hn, bndX_app (bndX_up hBK (by simp)) fun l hl y hy => by simp only [List.mem_cons, List.not_mem_nil, or_false] at hl; subst hl; exact (b2 y hy).bnd _, fr_intro (by simp)⟩ (by simp; omega)
          · have hfree : (∀ y ∈ A.take (q * 2), y.free = true) = True := eq_true fun y hy => (h6 y (List.mem_of_mem_take hy)).free
            have hA1 : q * 2 ≤ A.length := by rw [h3]; exact mul_rows h4
            by_cases hroom : q + 1 ≤ vc
            · have hA3 : (q + 1) * 2 ≤ A.length := by rw [h3]; exact mul_rows hroom
              simp [h20, hA, hfree, hroom, hA1, hA3, wj]
              obtain ⟨b1, b2⟩ := hg.room hA hroom (r := [.int .i64 77, .int .i64 77]) rfl (by simp) (C' := fun _ _ => True) (fun _ _ _ _ => trivial)
              have hkp := hv.keepPre hA (A' := A.take (q * 2) ++ ([.int .i64 77, .int .i64 77] ++ A.drop (q * 2 + 2))) (by simp; omega) b2 (fun m hm => by
                rw [List.getElem?_append_left (by simp; omega), List.getElem?_take_of_lt (by omega)])
              exact Kloop_normal ⟨M, n, st, ts, len, j + 1, v, _, hS.put hvi.1 hvi.2 _, hkp, by rw [hq1]; exact b1, by omega, hn, by rw [List.length_set]; exact bndX_put hBK _ fun y hy => (b2 y hy).bnd _, fr_intro (by simp)⟩ (by simp; omega)
            · simp [h20, hA, hfree, hroom, hA1, m1, m2]
              refine VGrow_intro fun c hc1 hc2 => ?_
              simp [wj]
              obtain ⟨a1, a2, a3, a4, a5, a6, a7, a8, a9⟩ := hg.cells hA
              obtain ⟨b1, b2⟩ := BX.grow (K := K) (G := fun j => L0 ≤ j ∧ ¬ M j) (n := q) (k := 2) (C := fun _ _ => True) (C' := fun _ _ => True) (c' := c) (L := A.take (q * 2)) (r := [.int .i64 77, .int .i64 77]) (z := zAl) a1 (fun y hy => a2 y (List.mem_of_mem_take hy)) (fun _ _ _ _ => trivial) hc1 hc2 hGv rfl (by simp) rfl (by simp [zAl]) (fun _ _ _ _ => trivial)
              exact Kloop_normal ⟨M, n, st, ts, len, j + 1, v, _, hS.app _, hv.app _, by rw [hq1]; exact b1, by omega, hn, bndX_app (bndX_up hBK (by simp)) fun l hl y hy => by simp only [List.mem_cons, List.not_mem_nil, or_false] at hl; subst hl; exact (b2 y hy).bnd _, fr_intro (by simp)⟩ (by simp; omega)
        have h20 : ¬ (j : Int) < 20 := by omega
        obtain ⟨vf, vo, vd, vb⟩ := hv.facts
        have m1 : LS.length + 1 ≤ maxLen := by unfold maxLen; omega
        have m2 : (LS.length + 1) * 24 ≤ 140737488355328 := by omega
        have hLS := hS.tl
        have hN := hS.more (v := v) (n := len) (fun e he => by
          have := hLi e he
          omega) hv
        apply shareY (I := myX H sc i (LS ++ [⟨v, len, i⟩]) K)
        · intro hgo
          rcases id hv with ⟨_, rfl⟩ | ⟨vi, vc, A, _, rfl, _⟩
          · simp [h20, rowsM_len, m1, m2]
            exact hgo _ _ ⟨rfl, 0, by omega, fr_intro (by simp [rowsM])⟩
          · simp [h20, rowsM_len, m1, m2]
            exact hgo _ _ ⟨rfl, 0, by omega, fr_intro (by simp [rowsM])⟩
        · intro fr K1 hI
          generalize hLS2 : LS ++ [(⟨v, len, i⟩ : Ml)] = LS2 at *
          have hlen2 : LS2.length ≤ i + 1 := by rw [← hLS2]; simp; omega
          refine VL_go (myX H sc i LS2 K) (fun fr _ => LS2.length - (ai (aget fr 22)).toNat) hI ?_
          clear hI
          rintro fr K1 ⟨rfl, y, hy, x, rfl⟩
          have wy : IntKind.i64.wrap ((y : Int) + 1) = y + 1 := wrap_in (by omega) (by omega)
          by_cases h6 : y < LS2.length
          · obtain ⟨e, he⟩ : ∃ e, LS2[y]? = some e := ⟨_, List.getElem?_eq_getElem h6⟩
            have hat2 := rowsM_at he
            have hem := List.mem_of_getElem? he
            have hev := hN.ls e hem
            simp [h6, rowsM_len]
            refine VL_go (myY H sc i LS2 K1 y e.n) (fun fr _ => e.n - (ai (aget fr 23)).toNat) ⟨rfl, 0, by omega, fr_intro (by simp)⟩ ?_
            rintro fr K2 ⟨rfl, z, hz, x, rfl⟩
            have hvl : ∀ t, (tsl Try.prog t).isSome = true → alen Try.prog t e.v = some (.int .i64 e.n) := fun t h => hev.alen h
            obtain ⟨vf, vo, vd, vb⟩ := hev.facts
            by_cases h7 : z < e.n
            · rcases id hev with ⟨h0, _⟩ | ⟨vi, vc, A, hvi, hee, hA, h3, h4, h5', h6', h7'⟩
              · omega
              have hzl : z * 2 + 2 ≤ A.length := by rw [h3]; have := mul_rows (k := 2) (show z + 1 ≤ vc by omega); omega
              have a0 : A[z * 2]? = some (.int .i64 (-1 - (e.i : Int))) := by
                have q := List.getElem?_eq_getElem (show z * 2 < A.length by omega)
                rw [q, (h7' _ _ (by omega) q).1 (by omega)]
              have a1 : A[z * 2 + 1]? = some (.int .i64 (-1 - (z : Int))) := by
                have q := List.getElem?_eq_getElem (show z * 2 + 1 < A.length by omega)
                rw [q, (h7' _ _ (by omega) q).2 (by omega), show (z * 2 + 1) / 2 = z by omega]
              unfold maxLen at h5'
              have wz : IntKind.i64.wrap ((z : Int) + 1) = z + 1 := wrap_in (by omega) (by omega)
              have wz2 : IntKind.i64.wrap (-1 - (z : Int)) = -1 - z := wrap_in (by omega) (by omega)
              have hvl2 : ∀ t, (tsl Try.prog t).isSome = true → alen Try.prog t (.bx vi 0 e.n vc 2) = some (.int .i64 e.n) := by rw [← hee]; exact hvl
              match y, hy, h6, he, hat2, wy with
              | 0, hy, h6, he, hat2, wy =>
                simp [-alen, hvl2, vd, hat2, h7, hee, hA, hzl, a0, a1, wz, wz2]
                exact Kloop_normal ⟨rfl, z + 1, by omega, fr_intro (by simp)⟩ (by simp; omega)
              | y + 1, hy, h6, he, hat2, wy =>
                obtain ⟨e', he'⟩ : ∃ e', LS2[y]? = some e' := ⟨_, List.getElem?_eq_getElem (by omega)⟩
                have hat3 := rowsM_at he'
                have hev2 := hN.ls e' (List.mem_of_getElem? he')
                have hvl3 : ∀ t, (tsl Try.prog t).isSome = true → alen Try.prog t e'.v = some (.int .i64 e'.n) := fun t h => hev2.alen h
                obtain ⟨_, _, vd2, _⟩ := hev2.facts
                have hge : (0 : Int) ≤ (y : Int) + 1 := by omega
                have hgt : (0 : Int) < (y : Int) + 1 := by omega
                have hti : ((y : Int) + 1).toNat = y + 1 := by omega
                have wyy : IntKind.i64.wrap (y : Int) = y := wrap_in (by omega) (by omega)
                have htg : e'.i < e.i := by
                  obtain ⟨g1, g2⟩ := List.getElem?_eq_some_iff.1 he'
                  obtain ⟨g3, g4⟩ := List.getElem?_eq_some_iff.1 he
                  rw [← g2, ← g4]
                  exact List.pairwise_iff_getElem.1 hN.tg _ _ g1 g3 (by omega)
                have hne : ((-1 - (e.i : Int)) == (-1 - (e'.i : Int))) = false := beq_eq_false_iff_ne.2 (by omega)
                by_cases h8 : 0 < e'.n
                · rcases id hev2 with ⟨h0, _⟩ | ⟨vi2, vc2, A2, _, hee2, hA2, g3, g4, g5, g6, g7⟩
                  · omega
                  have hzl2 : 2 ≤ A2.length := by rw [g3]; have := mul_rows (k := 2) (show 1 ≤ vc2 by omega); omega
                  have b0 : A2[0]? = some (.int .i64 (-1 - (e'.i : Int))) := by
                    have q := List.getElem?_eq_getElem (show 0 < A2.length by omega)
                    rw [q, (g7 _ _ (by omega) q).1 (by omega)]
                  have hvl4 : ∀ t, (tsl Try.prog t).isSome = true → alen Try.prog t (.bx vi2 0 e'.n vc2 2) = some (.int .i64 e'.n) := by rw [← hee2]; exact hvl3
                  simp [-alen, hvl2, vd, hat2, h7, hee, hA, hzl, a0, a1, wz, wz2, hge, hgt, hti, wyy, hat3, hee2, hvl4, h8, hA2, hzl2, b0, hne]
                  exact Kloop_normal ⟨rfl, z + 1, by omega, fr_intro (by simp)⟩ (by simp; omega)
                · simp [-alen, hvl2, vd, hat2, h7, hee, hA, hzl, a0, a1, wz, wz2, hge, hgt, hti, wyy, hat3, hvl3, vd2, h8]
                  exact Kloop_normal ⟨rfl, z + 1, by omega, fr_intro (by simp)⟩ (by simp; omega)
            · simp [-alen, hvl, vd, hat2, h7, wy]
              exact Kloop_normal ⟨rfl, y + 1, by omega, fr_intro (by simp)⟩ (by simp; omega)
          · simp [h6, rowsM_len, hw1]
            exact Kloop_normal ⟨i + 1, M, n, st, ts, LS2, K1.length, hN, hlen2, by omega, hBK, fr_intro (by simp)⟩ (by simp; omega)
  · have hpre : preH K K := preH_refl K
    have hm := hS.m
    simp [h1, rowsO_len]
    refine PC.bnd (wlen_pc E _ hS.w (fun _ _ => ?_))
    simp [Kcall, KP, hm, rowsT_len, hpre]
    exact aPost_lawX hB hS.u.le hS.u.keep rfl (by simp) hQ
theorem wmem_true (W : World) (now : Int) (bo : Option Addr) (len cap : Nat) (rows : List (List AV)) (r0 : okKey now) (hr : Rel W (fun _ => 0) (old W) (.sl false 3 rows) (.slice bo len cap)) (hn : Bnd 0 (.sl false 3 rows))
    (hk : ∀ r ∈ rows, r.length = 3 ∧ ∀ (j : Nat) k y, opK25[j]? = some k → r[j]? = some y → KindOf k y) (e : rows.length = len) (hb : len ≤ 1048576) :
    Calls Try.prog 5 #[.int .i64 now, .slice bo len cap] W fun e w' => e = .returned (.bool true) ∧ Frm (fun _ => False) W w' := by
  obtain ⟨sc, rfl, hs⟩ := ops25_of_rows rows hk
  rw [rowsO_len] at e
  refine calls_of_pc (args := [.int .i64 now, .sl false 3 (rowsO sc)]) (old W) (fun _ _ h => h) rfl (fun t x u hx hu => ?_) (fun E Q h => wmem_pc E Q now sc hs (by omega) h)
  match t with
  | 0 => simp at hx hu; subst hx; subst hu; exact ⟨.int _ _, .int _ _, rfl⟩
  | 1 => simp at hx hu; subst hx; subst hu; exact ⟨hr, hn, rfl⟩
  | t + 2 => simp at hx
end
end Go.Proofs.Ytijnohcaeedffaa

