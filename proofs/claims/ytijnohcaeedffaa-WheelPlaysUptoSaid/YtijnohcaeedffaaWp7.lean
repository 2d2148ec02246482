/- Part 7 of the texts below the law: the abstract machine, the functions that it walks, what they compute. -/
import Derived.Test.YtijnohcaeedffaaWp6
import Derived.JoinedCond
set_option linter.unusedVariables false
set_option linter.unnecessarySimpa false
set_option linter.unusedSimpArgs false
set_option linter.unusedSectionVars false
set_option maxRecDepth 100000
namespace Go.Proofs.Ytijnohcaeedffaa
open Go Go.RowKit

theorem dueT_snoc {lim : Int} {ts : List Tm} {i : Nat} {z : Tm} (hz : ts[i]? = some z) : dueT lim (ts.take (i + 1)) = if z.t ≤ lim then insT z (dueT lim (ts.take i)) else dueT lim (ts.take i) := by
  rw [List.take_add_one, hz, Option.toList_some]
  unfold dueT
  rw [List.filter_append]
  by_cases h : z.t ≤ lim
  · rw [if_pos h, List.filter_cons_of_pos (by simpa using h), List.foldl_append]; rfl
  · rw [if_neg h, List.filter_cons_of_neg (by simpa using h)]; simp
theorem leftT_snoc {lim : Int} {ts : List Tm} {i : Nat} {z : Tm} (hz : ts[i]? = some z) : leftT lim (ts.take (i + 1)) = leftT lim (ts.take i) ++ if lim < z.t then [z] else [] := by
  rw [List.take_add_one, hz, Option.toList_some]
  unfold leftT
  rw [List.filter_append]
  congr 1
  by_cases h : lim < z.t <;> simp [h]
theorem insT_at : ∀ {D : List Tm} {z : Tm} {p : Nat}, p ≤ D.length → (∀ k y, k < p → D[k]? = some y → ¬ tlt z y) → (∀ y, D[p]? = some y → tlt z y) → insT z D = D.take p ++ z :: D.drop p
  | [], z, p, hp, _, _ => by simp at hp; subst hp; rfl
  | x :: D, z, 0, _, _, h => by
    have := h x rfl
    unfold insT
    rw [if_pos this]; rfl
  | x :: D, z, p + 1, hp, h1, h2 => by
    have hx := h1 0 x (by omega) rfl
    unfold insT
    rw [if_neg hx, insT_at (p := p) (by simpa using hp) (fun k y hk hy => h1 (k + 1) y (by omega) (by simpa using hy)) (fun y hy => h2 y (by simpa using hy))]
    rfl
/-- A sorted list while the rows from place k on are moved. -/
def shL (D : List Tm) (k : Nat) : List Tm := (D ++ [(⟨0, 0⟩ : Tm)]).take (k + 1) ++ D.drop k
theorem shL_len {D : List Tm} {k : Nat} (hk : k ≤ D.length) : (shL D k).length = D.length + 1 := by unfold shL; simp; omega
theorem shL_top (D : List Tm) : shL D D.length = D ++ [(⟨0, 0⟩ : Tm)] := by unfold shL; rw [List.take_of_length_le (by simp)]; simp
theorem shL_at {D : List Tm} {k : Nat} {y : Tm} (hk : k < D.length) (hy : D[k]? = some y) : (shL D (k + 1))[k]? = some y := by
  unfold shL
  rw [List.getElem?_append_left (by simp; omega), List.getElem?_take, if_pos (by omega), List.getElem?_append_left hk]; exact hy
theorem shL_set {D : List Tm} {k : Nat} {y : Tm} (hk : k < D.length) (hy : D[k]? = some y) : (shL D (k + 1)).set (k + 1) y = shL D k := by
  refine List.ext_getElem? fun j => ?_
  have hl := shL_len (D := D) (k := k + 1) (by omega)
  by_cases hj : j = k + 1
  · subst hj
    rw [List.getElem?_set_self (by omega)]
    unfold shL
    rw [List.getElem?_append_right (by simp; omega)]
    have : (List.take (k + 1) (D ++ [(⟨0, 0⟩ : Tm)])).length = k + 1 := by simp; omega
    rw [this, Nat.sub_self, List.getElem?_drop]; exact hy.symm
  · rw [List.getElem?_set_ne (Ne.symm hj)]
    unfold shL
    have l1 : (List.take (k + 1 + 1) (D ++ [(⟨0, 0⟩ : Tm)])).length = k + 2 := by simp; omega
    have l2 : (List.take (k + 1) (D ++ [(⟨0, 0⟩ : Tm)])).length = k + 1 := by simp; omega
    by_cases h1 : j < k + 1
    · rw [List.getElem?_append_left (by omega), List.getElem?_append_left (by omega), List.getElem?_take, List.getElem?_take, if_pos (by omega), if_pos h1]
    · rw [List.getElem?_append_right (by omega), List.getElem?_append_right (by omega), l1, l2, List.getElem?_drop, List.getElem?_drop]
      congr 1; omega
theorem shL_fin {D : List Tm} {p : Nat} {z : Tm} (hp : p ≤ D.length) : (shL D p).set p z = D.take p ++ z :: D.drop p := by
  have hl := shL_len hp
  unfold shL at *
  have l1 : (List.take p D).length = p := by simp; omega
  have e : List.take (p + 1) (D ++ [(⟨0, 0⟩ : Tm)]) = D.take p ++ [((D ++ [(⟨0, 0⟩ : Tm)])[p]'(by simp; omega))] := by
    rw [List.take_add_one, List.take_append_of_le_length hp, List.getElem?_eq_getElem (by simp; omega), Option.toList_some]
  rw [e, List.append_assoc, List.set_append_right _ _ (by omega), l1, Nat.sub_self]
  rfl
theorem take_two {A : List AV} {j : Nat} {a b : AV} (ha : A[j]? = some a) (hb : A[j + 1]? = some b) : List.take 2 (List.drop j A) = [a, b] := by
  obtain ⟨h1, h2⟩ := List.getElem?_eq_some_iff.1 ha
  obtain ⟨h3, h4⟩ := List.getElem?_eq_some_iff.1 hb
  rw [List.drop_eq_getElem_cons h1, List.drop_eq_getElem_cons h3, h2, h4]; rfl
/-- A row is stored. -/
theorem GB.mark {P K : Hp} {l : List Tm} {i c : Nat} {A : List AV} (h : GB P K (.bx i 0 l.length c 2) l) (hA : K[i]? = some A) {j : Nat} (hj : j < l.length) (y : Tm) : GB P (K.set i (A.take (j * 2) ++ ([.int .i64 y.n, .int .i64 y.t] ++ A.drop (j * 2 + 2)))) (.bx i 0 l.length c 2) (l.set j y) := by
  have hfl : ∀ m u, m < l.length * 2 → (if j * 2 ≤ m ∧ m < j * 2 + 2 then [AV.int .i64 y.n, .int .i64 y.t][m - j * 2]? = some u else (rowsT l).flatten[m]? = some u) → (rowsT (l.set j y)).flatten[m]? = some u := by
    intro m u hm hu
    have hq : m / 2 < l.length := by omega
    by_cases hmj : m / 2 = j
    · rw [if_pos ⟨by omega, by omega⟩] at hu
      obtain ⟨f1, f2⟩ := flT_at (l := l.set j y) (i := j) (y := y) (List.getElem?_set_self hj)
      rcases Nat.mod_two_eq_zero_or_one m with hm2 | hm2
      · have e : m = j * 2 := by omega
        subst e
        rw [Nat.sub_self] at hu
        rw [f1]; exact hu
      · have e : m = j * 2 + 1 := by omega
        subst e
        rw [show j * 2 + 1 - j * 2 = 1 by omega] at hu
        rw [f2]; exact hu
    · rw [if_neg (by omega)] at hu
      obtain ⟨z, hz⟩ : ∃ z, l[m / 2]? = some z := ⟨_, List.getElem?_eq_getElem hq⟩
      obtain ⟨g1, g2⟩ := flT_at hz
      obtain ⟨f1, f2⟩ := flT_at (l := l.set j y) (i := m / 2) (y := z) (by rw [List.getElem?_set_ne (Ne.symm hmj)]; exact hz)
      rcases Nat.mod_two_eq_zero_or_one m with hm2 | hm2
      · have e : m = m / 2 * 2 := by omega
        rw [← e] at g1 f1
        rw [f1, ← g1]; exact hu
      · have e : m = m / 2 * 2 + 1 := by omega
        rw [← e] at g2 f2
        rw [f2, ← g2]; exact hu
  obtain ⟨b1, b2⟩ := h.bx.mark hA hj (r := [.int .i64 y.n, .int .i64 y.t]) rfl (by simp) (C' := fun m u => (rowsT (l.set j y)).flatten[m]? = some u) hfl
  have hi := (h.bx.lt _ _ _ _ _ rfl).1
  exact ⟨by simp; exact h.len, fun j hj => by rw [getNX (by omega)]; exact h.keep j hj, by simpa using b1, by rw [List.length_set]; exact bndX_put h.bd _ fun x hx => (b2 x hx).bnd _⟩
def daI (H P : Hp) (now lim : Int) (ts : List Tm) (fr : List AV) (K : Hp) : Prop := ∃ (i id c : Nat), i ≤ ts.length ∧ GB P K (.bx id 0 (dueT lim (ts.take i)).length c 2) (dueT lim (ts.take i)) ∧
  ∃ x : Nat → AV, fr = [x 0, .int .i64 lim, .ptr (some (H.length, 0)), x 3, .ptr (some (H.length + 1, 0)), x 5, x 6, .bx id 0 (dueT lim (ts.take i)).length c 2, .sl true 2 (rowsT (leftT lim (ts.take i))), .int .i64 i, x 10, x 11, x 12, x 13, x 14, x 15, x 16, x 17, x 18, x 19, x 20, x 21, x 22, x 23, x 24, x 25, x 26, x 27, x 28, x 29, x 30, x 31, x 32, x 33, x 34, x 35, x 36, x 37, x 38, x 39, x 40, x 41, x 42, x 43, x 44, x 45, x 46, x 47, x 48, x 49, x 50, x 51, x 52, x 53, x 54, x 55, x 56, x 57, x 58, x 59, x 60, x 61, x 62, x 63, x 64, x 65, x 66, x 67, x 68, x 69, x 70, x 71, x 72, x 73, x 74, x 75, x 76, x 77, x 78, x 79, x 80, x 81, x 82, x 83, x 84, x 85, x 86, x 87, x 88, x 89, x 90, x 91, x 92, x 93, x 94, x 95, x 96, x 97, x 98, x 99, x 100, x 101, x 102, x 103, x 104, x 105, x 106, x 107, x 108, x 109, x 110, x 111, x 112, x 113, x 114, x 115, x 116, x 117, x 118, x 119, x 120, x 121, x 122, x 123, x 124, x 125, x 126, x 127, x 128, x 129]
def daJ (H K0 : Hp) (lim : Int) (ts : List Tm) (i id c : Nat) (D : List Tm) (z : Tm) (fr : List AV) (K : Hp) : Prop := K = K0 ∧ ∃ p : Nat, p ≤ D.length ∧ (∀ k y, p ≤ k → D[k]? = some y → tlt z y) ∧
  ∃ x : Nat → AV, fr = [x 0, .int .i64 lim, .ptr (some (H.length, 0)), x 3, .ptr (some (H.length + 1, 0)), x 5, x 6, .bx id 0 D.length c 2, .sl true 2 (rowsT (leftT lim (ts.take i))), .int .i64 i, .int .i64 p, x 11, x 12, x 13, x 14, x 15, x 16, x 17, x 18, x 19, x 20, x 21, x 22, x 23, x 24, x 25, x 26, x 27, x 28, x 29, x 30, x 31, x 32, x 33, x 34, x 35, x 36, x 37, x 38, x 39, x 40, x 41, x 42, x 43, x 44, x 45, x 46, x 47, x 48, x 49, x 50, x 51, x 52, x 53, x 54, x 55, x 56, x 57, x 58, x 59, x 60, x 61, x 62, x 63, x 64, x 65, x 66, x 67, x 68, x 69, x 70, x 71, x 72, x 73, x 74, x 75, x 76, x 77, x 78, x 79, x 80, x 81, x 82, x 83, x 84, x 85, x 86, x 87, x 88, x 89, x 90, x 91, x 92, x 93, x 94, x 95, x 96, x 97, x 98, x 99, x 100, x 101, x 102, x 103, x 104, x 105, x 106, x 107, x 108, x 109, x 110, x 111, x 112, x 113, x 114, x 115, x 116, x 117, x 118, x 119, x 120, x 121, x 122, x 123, x 124, x 125, x 126, x 127, x 128, x 129]
def daL (H P : Hp) (lim : Int) (ts : List Tm) (i : Nat) (D : List Tm) (z : Tm) (fr : List AV) (K : Hp) : Prop := ∃ p k id c : Nat, insT z D = D.take p ++ z :: D.drop p ∧ p ≤ k ∧ k ≤ D.length ∧ GB P K (.bx id 0 (shL D k).length c 2) (shL D k) ∧
  ∃ x : Nat → AV, fr = [x 0, .int .i64 lim, .ptr (some (H.length, 0)), x 3, .ptr (some (H.length + 1, 0)), x 5, x 6, .bx id 0 (D.length + 1) c 2, .sl true 2 (rowsT (leftT lim (ts.take i))), .int .i64 i, .int .i64 p, .int .i64 k, x 12, x 13, x 14, x 15, x 16, x 17, x 18, x 19, x 20, x 21, x 22, x 23, x 24, x 25, x 26, x 27, x 28, x 29, x 30, x 31, x 32, x 33, x 34, x 35, x 36, x 37, x 38, x 39, x 40, x 41, x 42, x 43, x 44, x 45, x 46, x 47, x 48, x 49, x 50, x 51, x 52, x 53, x 54, x 55, x 56, x 57, x 58, x 59, x 60, x 61, x 62, x 63, x 64, x 65, x 66, x 67, x 68, x 69, x 70, x 71, x 72, x 73, x 74, x 75, x 76, x 77, x 78, x 79, x 80, x 81, x 82, x 83, x 84, x 85, x 86, x 87, x 88, x 89, x 90, x 91, x 92, x 93, x 94, x 95, x 96, x 97, x 98, x 99, x 100, x 101, x 102, x 103, x 104, x 105, x 106, x 107, x 108, x 109, x 110, x 111, x 112, x 113, x 114, x 115, x 116, x 117, x 118, x 119, x 120, x 121, x 122, x 123, x 124, x 125, x 126, x 127, x 128, x 129]
theorem shareV {I P : List AV → Hp → Prop} {G : Prop} (main : (∀ fr H', I fr H' → P fr H') → G) (tail : ∀ fr H', I fr H' → P fr H') : G := main tail
section
variable {H : Hp} (E : Env) (Q : AV → Hp → Prop)
set_option maxHeartbeats 8000000 in
theorem dadvB_pc (now : Nat) (lim : Int) (ts : List Tm) (hnd : ts.Nodup) (hl : ts.length ≤ 1000000000)
    (hQ0 : badT now lim = true → Q (.tup [dwA now ts, .sl false 2 [], .int .i64 250]) H)
    (hQ : ∀ K i c, badT now lim = false → GB H K (.bx i 0 (dueT lim ts).length c 2) (dueT lim ts) → Q (.tup [dwA lim (leftT lim ts), .bx i 0 (dueT lim ts).length c 2, .int .i64 0]) K) : PC Try.prog E 17 [dwA now ts, .int .i64 lim] H Q := by
  refine pc_enter Try.func17 rfl [39] [(3, [3]), (12, [0, 0, 0, 3])] (by kernel_rfl) (fun hB => ?_)
  by_cases h1 : lim < now
  · have hq := hQ0 (by unfold badT; simp [h1])
    simp [Try.ntmps17, Try.results17, List.replicate_succ, dwA, h1]
    exact aPost_lawX hB (by simp) (fun j hj => List.getElem?_append_left hj) (v0 := .tup [dwA now ts, .sl false 2 [], .int .i64 250]) (by simp [dwA]) (by simp [bnd_dwA]) hq
  by_cases h2 : 281474976710656 < lim
  · have hq := hQ0 (by unfold badT; simp [h2])
    simp [Try.ntmps17, Try.results17, List.replicate_succ, dwA, h1, h2]
    exact aPost_lawX hB (by simp) (fun j hj => List.getElem?_append_left hj) (v0 := .tup [dwA now ts, .sl false 2 [], .int .i64 250]) (by simp [dwA]) (by simp [bnd_dwA]) hq
  have hok : badT now lim = false := by unfold badT; rw [decide_eq_false h1, decide_eq_false h2]; rfl
  simp [Try.ntmps17, Try.results17, List.replicate_succ, dwA, h1, h2]
  obtain ⟨P, hP⟩ : ∃ P, P = H ++ [[AV.int .i64 now, .sl false 2 (rowsT ts)], [.int .i64 0, .nil]] := ⟨_, rfl⟩
  have hPl : P.length = H.length + 2 := by rw [hP]; simp
  have hBP : BndH P.length P := by
    rw [hP]
    refine bndX_app (bndX_up hB (by simp)) fun l hl x hx => ?_
    simp at hl
    rcases hl with rfl | rfl
    · simp at hx
      rcases hx with rfl | rfl
      · exact .int _ _
      · exact bnd_rowsT _ _ _
    · simp at hx
      rcases hx with rfl | rfl
      · exact .int _ _
      · exact .nil
  have hz0 := GB.zero hBP
  have hPH : ∀ j, j < H.length → P[j]? = H[j]? := fun j hj => by rw [hP]; exact List.getElem?_append_left hj
  have hP0 : P[H.length]? = some [.int .i64 now, .sl false 2 (rowsT ts)] := by rw [hP]; simp
  have hP1 : P[H.length + 1]? = some [.int .i64 0, .nil] := by rw [hP]; simp
  rw [show H ++ [[AV.int .i64 now, .sl false 2 (rowsT ts)], [.int .i64 0, .nil], []] = P ++ [[]] by rw [hP]; simp]
  refine VL_go (daI H P now lim ts) (fun fr _ => ts.length - (ai (aget fr 9)).toNat) ⟨0, P.length, 0, by omega, by simpa [dueT] using hz0, fr_intro (by simp [hPl, dueT, leftT, rowsT])⟩ ?_
  clear hz0 hP
  rintro fr K ⟨i, id, c, hi, hg, x, rfl⟩
  have hw2 : IntKind.i64.wrap ((i : Int) + 1) = i + 1 := wrap_in (by omega) (by omega)
  have hk0 : K[H.length]? = some [.int .i64 now, .sl false 2 (rowsT ts)] := (hg.keep _ (by omega)).trans hP0
  have hk1 : K[H.length + 1]? = some [.int .i64 0, .nil] := (hg.keep _ (by omega)).trans hP1
  have hdl := due_len lim (ts.take i)
  rw [List.length_take] at hdl
  by_cases h : i < ts.length
  · obtain ⟨z, hz⟩ : ∃ z, ts[i]? = some z := ⟨_, List.getElem?_eq_getElem h⟩
    have hat := rowsT_at hz
    have hsn := dueT_snoc (lim := lim) hz
    have hsl := leftT_snoc (lim := lim) hz
    by_cases h3 : lim < z.t
    · rw [if_neg (by omega)] at hsn
      rw [if_pos h3] at hsl
      have p1 : (leftT lim (ts.take i)).length + 1 ≤ maxLen := by unfold maxLen; omega
      have p2 : ((leftT lim (ts.take i)).length + 1) * 16 ≤ 140737488355328 := by omega
      simp [h, hk0, hat, rowsT_len, h3, hw2, p1, p2]
      exact Kloop_normal ⟨i + 1, id, c, by omega, by rw [hsn]; exact hg, fr_intro (by simp [hsn, hsl, ← rowsT_snoc])⟩ (by simp; omega)
    · rw [if_pos (by omega)] at hsn
      rw [if_neg h3, List.append_nil] at hsl
      have hsr := (dueT_spec (lim := lim) (hnd.sublist (List.take_sublist i ts))).1
      have hDl : (dueT lim (ts.take i)).length ≤ i := by omega
      clear hdl
      simp [h, hk0, hat, rowsT_len, h3]
      generalize hD : dueT lim (ts.take i) = D at *
      apply shareV (I := daL H P lim ts i D z)
      · intro hgo
        refine VL_go (daJ H K lim ts i id c D z) (fun fr _ => (ai (aget fr 10)).toNat) ⟨rfl, D.length, Nat.le_refl _, fun k y hk hy => by have := ltX hy; omega, fr_intro (by simp)⟩ ?_
        rintro fr K ⟨rfl, p, hp, hgt, x, rfl⟩
        obtain ⟨hid, hil⟩ := hg.bx.lt _ _ _ _ _ rfl
        obtain ⟨A, hA⟩ : ∃ A, K[id]? = some A := ⟨_, List.getElem?_eq_getElem hil⟩
        obtain ⟨a1, a2, a3, a4, a5, a6, a7, a8, a9⟩ := hg.bx.cells hA
        have stop : (∀ k y, k < p → D[k]? = some y → ¬ tlt z y) → insT z D = D.take p ++ z :: D.drop p := fun hle => insT_at hp hle fun y hy => hgt p y (Nat.le_refl _) hy
        have hfree : (∀ y ∈ A.take (D.length * 2), y.free = true) = True := eq_true fun y hy => (a2 y (List.mem_of_mem_take hy)).free
        have p1 : D.length + 1 ≤ maxLen := by unfold maxLen; omega
        have p2 : (D.length + 1) * 16 ≤ 140737488355328 := by omega
        have w3 : IntKind.i64.wrap ((D.length : Int) + 1 - 1) = D.length := by rw [wrap_in (by omega) (by omega)]; omega
        have w4 : IntKind.i64.wrap (D.length : Int) = D.length := wrap_in (by omega) (by omega)
        cases p with
        | zero =>
          have hst := stop fun k y hk => by omega
          by_cases hroom : D.length + 1 ≤ c
          · have hle3 : (D.length + 1) * 2 ≤ A.length := by rw [a4]; exact mul_rows hroom
            simp [hk0, hat, hA, hfree, hroom, a3, hle3, w3, w4]
            have hf := hg.room hA hroom ⟨0, 0⟩
            exact hgo _ _ ⟨_, D.length, id, c, hst, by omega, Nat.le_refl _, by rw [shL_top]; simpa using hf, fr_intro (by simp)⟩
          · simp [hk0, hat, hA, hfree, hroom, a3, p1, p2]
            refine VGrow_intro fun c' hc1 hc2 => ?_
            simp [w3, w4]
            have hf := hg.grow hA hc1 hc2 ⟨0, 0⟩
            exact hgo _ _ ⟨_, D.length, K.length, c', hst, by omega, Nat.le_refl _, by rw [shL_top]; simpa [zAl] using hf, fr_intro (by simp)⟩
        | succ m =>
          obtain ⟨v, hv⟩ : ∃ v, D[m]? = some v := ⟨_, List.getElem?_eq_getElem (by omega)⟩
          obtain ⟨b1, b2⟩ := hg.at hA hv
          have hm : m < D.length := by omega
          have hpos : (0 : Int) < (m : Int) + 1 := by omega
          have hwm : IntKind.i64.wrap (m : Int) = m := wrap_in (by omega) (by omega)
          have hgt' : tlt z v → ∀ k y, m ≤ k → D[k]? = some y → tlt z y := fun hzv k y hk hy => by
            by_cases e : k = m
            · subst e; rw [hv] at hy; cases hy; exact hzv
            · exact hgt k y (by omega) hy
          by_cases c1 : z.t < v.t
          · simp [hk0, hat, hA, b1, b2, hm, hpos, hwm, c1]
            exact Kloop_normal ⟨rfl, m, by omega, hgt' (.inl c1), fr_intro (by simp)⟩ (by simp)
          by_cases c2 : v.t = z.t
          · by_cases c3 : z.n < v.n
            · simp [hk0, hat, hA, b1, b2, hm, hpos, hwm, c2, c3]
              exact Kloop_normal ⟨rfl, m, by omega, hgt' (.inr ⟨c2.symm, c3⟩), fr_intro (by simp)⟩ (by simp)
            · have hst := stop fun k y hk hy hlt => by
                have hkl := ltX hy
                have hml := ltX hv
                rcases Nat.lt_or_ge k m with q | q
                · have := List.pairwise_iff_getElem.1 hsr k m hkl hml q
                  rw [(List.getElem?_eq_some_iff.1 hy).2, (List.getElem?_eq_some_iff.1 hv).2] at this
                  unfold tlt at this hlt
                  omega
                · have e : k = m := by omega
                  subst e
                  rw [hv] at hy; cases hy
                  unfold tlt at hlt
                  omega
              by_cases hroom : D.length + 1 ≤ c
              · have hle3 : (D.length + 1) * 2 ≤ A.length := by rw [a4]; exact mul_rows hroom
                simp [hk0, hat, hA, b1, b2, hm, hpos, hwm, c2, c3, hfree, hroom, a3, hle3, w3, w4]
                have hf := hg.room hA hroom ⟨0, 0⟩
                exact hgo _ _ ⟨_, D.length, id, c, hst, by omega, Nat.le_refl _, by rw [shL_top]; simpa using hf, fr_intro (by simp)⟩
              · simp [hk0, hat, hA, b1, b2, hm, hpos, hwm, c2, c3, hfree, hroom, a3, p1, p2]
                refine VGrow_intro fun c' hc1 hc2 => ?_
                simp [w3, w4]
                have hf := hg.grow hA hc1 hc2 ⟨0, 0⟩
                exact hgo _ _ ⟨_, D.length, K.length, c', hst, by omega, Nat.le_refl _, by rw [shL_top]; simpa [zAl] using hf, fr_intro (by simp)⟩
          · have c2' : (v.t == z.t) = false := beq_eq_false_iff_ne.2 c2
            have hst := stop fun k y hk hy hlt => by
              have hkl := ltX hy
              have hml := ltX hv
              rcases Nat.lt_or_ge k m with q | q
              · have := List.pairwise_iff_getElem.1 hsr k m hkl hml q
                rw [(List.getElem?_eq_some_iff.1 hy).2, (List.getElem?_eq_some_iff.1 hv).2] at this
                unfold tlt at this hlt
                omega
              · have e : k = m := by omega
                subst e
                rw [hv] at hy; cases hy
                unfold tlt at hlt
                omega
            by_cases hroom : D.length + 1 ≤ c
            · have hle3 : (D.length + 1) * 2 ≤ A.length := by rw [a4]; exact mul_rows hroom
              simp [hk0, hat, hA, b1, b2, hm, hpos, hwm, c1, c2', hfree, hroom, a3, hle3, w3, w4]
              have hf := hg.room hA hroom ⟨0, 0⟩
              exact hgo _ _ ⟨_, D.length, id, c, hst, by omega, Nat.le_refl _, by rw [shL_top]; simpa using hf, fr_intro (by simp)⟩
            · simp [hk0, hat, hA, b1, b2, hm, hpos, hwm, c1, c2', hfree, hroom, a3, p1, p2]
              refine VGrow_intro fun c' hc1 hc2 => ?_
              simp [w3, w4]
              have hf := hg.grow hA hc1 hc2 ⟨0, 0⟩
              exact hgo _ _ ⟨_, D.length, K.length, c', hst, by omega, Nat.le_refl _, by rw [shL_top]; simpa [zAl] using hf, fr_intro (by simp)⟩
      · intro fr K2 hI
        refine VL_go (daL H P lim ts i D z) (fun fr _ => (ai (aget fr 11)).toNat) hI ?_
        clear hI
        rintro fr K2 ⟨p, k, id2, cc, hst, hpk, hkD, hg2, x, rfl⟩
        have hlk := shL_len hkD
        obtain ⟨hid2, hil2⟩ := hg2.bx.lt _ _ _ _ _ rfl
        obtain ⟨A, hA⟩ : ∃ A, K2[id2]? = some A := ⟨_, List.getElem?_eq_getElem hil2⟩
        obtain ⟨a1, a2, a3, a4, a5, a6, a7, a8, a9⟩ := hg2.bx.cells hA
        have hk20 : K2[H.length]? = some [.int .i64 now, .sl false 2 (rowsT ts)] := (hg2.keep _ (by omega)).trans hP0
        have n1 : id2 ≠ H.length := by omega
        by_cases h5 : p < k
        · obtain ⟨k, rfl⟩ : ∃ m, k = m + 1 := ⟨k - 1, by omega⟩
          obtain ⟨v, hv⟩ : ∃ v, D[k]? = some v := ⟨_, List.getElem?_eq_getElem (by omega)⟩
          obtain ⟨b1, b2⟩ := hg2.at hA (shL_at (by omega) hv)
          have hmk := hg2.mark hA (j := k + 1) (by omega) v
          rw [shL_set (by omega) hv] at hmk
          have e0 := shL_len (D := D) (k := k) (by omega)
          rw [hlk] at hmk
          have hwm : IntKind.i64.wrap (k : Int) = k := wrap_in (by omega) (by omega)
          have h5' : (p : Int) < (k : Int) + 1 := by omega
          have hti : ((k : Int) + 1).toNat = k + 1 := by omega
          have hge : (0 : Int) ≤ (k : Int) + 1 := by omega
          have f1 : k < D.length + 1 := by omega
          have f2 : k + 1 < D.length + 1 := by omega
          have f3 : k * 2 + 2 ≤ A.length := by omega
          have f4 : (k + 1) * 2 + 2 ≤ A.length := by omega
          have ht2 := take_two b1 b2
          have hds := smps_dis a2
          simp [hA, ht2, hds, hwm, h5', hti, hge, f1, f2, f3, f4]
          exact Kloop_normal ⟨p, k, id2, cc, hst, by omega, by omega, by rw [e0]; simpa using hmk, fr_intro (by simp)⟩ (by simp)
        · have e : k = p := by omega
          subst e
          have hmk := hg2.mark hA (j := k) (by omega) z
          rw [shL_fin hkD, ← hst] at hmk
          have f2 : k < D.length + 1 := by omega
          have f4 : k * 2 + 2 ≤ A.length := by omega
          simp [hA, hk20, hat, f2, f4, hw2]
          rw [hlk, ← insT_len z D] at hmk
          exact Kloop_normal ⟨i + 1, id2, cc, by omega, by rw [hsn]; simpa using hmk, fr_intro (by simp [hsn, hsl, insT_len])⟩ (by simp; omega)
  · have ej : i = ts.length := by omega
    subst ej
    rw [List.take_length] at hg
    simp [h, hk0, hk1, rowsT_len]
    have hi := (hg.bx.lt _ _ _ _ _ rfl)
    have hle := hg.len
    have g2 := (hg.base (P' := H) (by omega) hPH).put2 (j := H.length + 1) (r := [.int .i64 lim, .sl false 2 (rowsT (leftT lim ts))]) (fun i' o m c k e => by cases e; omega) (by omega) (fun x hx => by
      simp at hx
      rcases hx with rfl | rfl
      · exact .int _ _
      · exact bnd_rowsT _ _ _)
    have hq := hQ _ id c hok g2
    exact aPost_upX (v := .tup [dwA lim (leftT lim ts), .bx id 0 (dueT lim ts).length c 2, .int .i64 0]) (by simp [dwA, hk1, List.getElem?_set_self']) (by simp; omega) g2.bd (by simp [bnd_dwA, hi.2]) hq
theorem dadv_pc (now : Nat) (lim : Int) (ts : List Tm) (hnd : ts.Nodup) (hl : ts.length ≤ 1000000000) (hB : BndH H.length H)
    (hQ0 : badT now lim = true → Q (.tup [dwA now ts, .sl false 2 [], .int .i64 250]) H)
    (hQ : badT now lim = false → Q (.tup [dwA lim (leftT lim ts), .sl false 2 (rowsT (dueT lim ts)), .int .i64 0]) H) : PC Try.prog E 17 [dwA now ts, .int .i64 lim] H Q := by
  refine PC.sees hB (dadvB_pc E _ now lim ts hnd hl (fun h => ?_) (fun K i c h hg => ?_))
  · exact ⟨_, [dwA now ts, .sl false 2 [], .int .i64 250], rfl, Nat.le_refl _, fun _ _ => rfl, ⟨.inl (.inl ⟨rfl, bnd_dwA _ _ _⟩), .inl (.inl ⟨rfl, bnd_rowsT _ false []⟩), .inl (.inl ⟨rfl, .int _ _⟩), trivial⟩, hQ0 h⟩
  · exact ⟨_, [dwA lim (leftT lim ts), .sl false 2 (rowsT (dueT lim ts)), .int .i64 0], rfl, hg.len, hg.keep, ⟨.inl (.inl ⟨rfl, bnd_dwA _ _ _⟩), .inl (hg.see (Nat.le_refl _)), .inl (.inl ⟨rfl, .int _ _⟩), trivial⟩, hQ h⟩
end
end Go.Proofs.Ytijnohcaeedffaa

set_option linter.unusedVariables false
set_option linter.unnecessarySimpa false
set_option linter.unusedSimpArgs false
set_option linter.unusedSectionVars false
set_option maxRecDepth 100000
namespace Go.Proofs.Ytijnohcaeedffaa
open Go Go.RowKit

def samI (l : List Tm) (K0 : Hp) (fr : List AV) (K : Hp) : Prop := K = K0 ∧ ∃ j : Nat, j ≤ l.length ∧ ∃ x : Nat → AV, fr = [.sl false 2 (rowsT l), .sl false 2 (rowsT l), x 2, x 3, x 4, .int .i64 j, x 6, x 7, x 8, x 9, x 10, x 11, x 12, x 13, x 14, x 15, x 16, x 17, x 18, x 19, x 20, x 21, x 22, x 23, x 24, x 25, x 26, x 27, x 28, x 29, x 30, x 31, x 32, x 33, x 34, x 35, x 36, x 37, x 38, x 39, x 40]
/-- What is done to a wheel. -/
def opA (k n t : Int) : AV := .agg [.int .i64 k, .int .i64 n, .int .i64 t]
section
variable {H : Hp} (E : Env) (Q : AV → Hp → Prop)
theorem wsame_pc (l : List Tm) (hl : l.length ≤ 1000000000) (hQ : Q (.bool true) H) : PC Try.prog E 18 [.sl false 2 (rowsT l), .sl false 2 (rowsT l)] H Q := by
  refine pc_enter Try.func18 rfl [] [] (by kernel_rfl) (fun hB => ?_)
  simp [Try.ntmps18, Try.results18, List.replicate_succ, rowsT_len]
  refine VL_go (samI l H) (fun fr _ => l.length - (ai (aget fr 5)).toNat) ⟨rfl, 0, by omega, fr_intro (by simp)⟩ ?_
  rintro fr K ⟨rfl, j, hj, x, rfl⟩
  have hw2 : IntKind.i64.wrap ((j : Int) + 1) = j + 1 := wrap_in (by omega) (by omega)
  by_cases h : j < l.length
  · obtain ⟨z, hz⟩ : ∃ z, l[j]? = some z := ⟨_, List.getElem?_eq_getElem h⟩
    have hat := rowsT_at hz
    simp [h, hat, rowsT_len, hw2]
    exact Kloop_normal ⟨rfl, j + 1, by omega, fr_intro (by simp)⟩ (by simp; omega)
  · simp [h, rowsT_len]
    exact aPost_same0 hB rfl (nilV_refl _) (by simp) hQ
variable {M : Nat → Prop} {iw now : Nat} {st : Int} {ts : List Tm}
set_option maxHeartbeats 8000000 in
theorem step25_pc (h : Wh M H iw now st ts) (k n t : Int) (hk : okKey k) (hn : okKey n) (ht : okKey t) (few : ts.length < 1000000000) (hst : 0 ≤ st ∧ st + 576 * (ts.length + 1) ≤ 4611686018427387904)
    (hQ : ∀ H' M' now' st' ts', Wh M' H' iw now' st' ts' → Lft M M' H H' → 0 ≤ st' → st' + 576 * ts'.length ≤ st + 576 * ts.length + 576 → ts'.length ≤ ts.length + 1 → Q (.tup [dwA now' ts', .bool true]) H') : PC Try.prog E 20 [.ptr (some (iw, 0)), dwA now ts, opA k n t] H Q := by
  have hnow := h.nowle
  have hnd := h.nd
  have hndp := h.nodup
  have hiw := h.lt iw h.own
  refine pc_enterL (fun i => H.length ≤ i ∧ i ≠ H.length + 2) Try.func20 rfl [] [(4, [2, 0, 0, 2, 0, 2, 2, 0, 0, 2]), (7, [2, 0, 0, 2, 2, 0, 0, 2]), (23, [2, 0, 0, 2, 0, 0, 0, 0, 0, 2]), (24, [2, 0, 2, 0, 2, 0, 0, 2])] (by kernel_rfl) (fun E hS hB => ?_)
  have b1 := Int.lt_tmod_of_pos k (by decide : (0 : Int) < 7)
  have b2 := Int.tmod_lt_of_pos k (by decide : (0 : Int) < 7)
  have p : (k.tmod 7 + 7).tmod 7 = k % 7 := by
    rw [Int.tmod_eq_emod_of_nonneg (by omega), Int.add_emod_right, Int.tmod_def, Int.sub_mul_emod_self_left]
  have w1 : IntKind.i64.wrap (k.tmod 7) = k.tmod 7 := wrap_in (by omega) (by omega)
  have w2 : IntKind.i64.wrap (k.tmod 7 + 7) = k.tmod 7 + 7 := wrap_in (by omega) (by omega)
  have w3 : IntKind.i64.wrap (k % 7) = k % 7 := wrap_in (by omega) (by omega)
  have fin : ∀ (J K : Hp) (M' : Nat → Prop) (now' : Nat) (st' : Int) (ts' : List Tm) (r : List AV), 3 ≤ J.length → Wh M' K iw now' st' ts' → Lft M M' (H ++ J) K → Wh M' (K.set (H.length + 2) r) iw now' st' ts' ∧ Lft M M' H (K.set (H.length + 2) r) := by
    intro J K M' now' st' ts' r hJ hW hL
    have hle := hL.le
    rw [List.length_append] at hle
    have hne : ∀ j, M' j → j ≠ H.length + 2 := fun j hj e => by
      rcases hL.sub j hj with h1 | h1
      · have := h.lt j h1; omega
      · rw [List.length_append] at h1; omega
    refine ⟨hW.keep (by simp) fun j hj => getNX (Ne.symm (hne j hj)) _, ⟨by simp; omega, fun j hj => ?_, fun j hj hM => ?_⟩⟩
    · rcases hL.sub j hj with h1 | h1
      · exact .inl h1
      · rw [List.length_append] at h1; exact .inr (by omega)
    · rw [getNX (by omega), hL.keep j (by simp; omega) hM]
      exact List.getElem?_append_left hj
  have up : ∀ J : Hp, Wh M (H ++ J) iw now st ts := fun J => h.keep (by simp) fun j hj => List.getElem?_append_left (h.lt j hj)
  have frm : ∀ (J K : Hp) (M' : Nat → Prop), Lft M M' (H ++ J) K → ∀ j, H.length ≤ j → j < (H ++ J).length → K[j]? = (H ++ J)[j]? := fun J K M' hL j h1 h2 => hL.keep j h2 fun hm => by have := h.lt j hm; omega
  have kp : ∀ (J K : Hp) (M' : Nat → Prop), Lft M M' (H ++ J) K → ∀ j, H.length ≤ j → ¬ j = H.length + 2 → j < (H ++ J).length → K[j]? = (H ++ J)[j]? := fun J K M' hL j h1 _ h2 => hL.keep j h2 fun hm => by have := h.lt j hm; omega
  have hB3 : BndH (H ++ [[AV.int .i64 now, .sl false 2 (rowsT ts)], [.int .i64 k, .int .i64 n, .int .i64 t], [.int .i64 0, .nil]]).length (H ++ [[AV.int .i64 now, .sl false 2 (rowsT ts)], [.int .i64 k, .int .i64 n, .int .i64 t], [.int .i64 0, .nil]]) := bndX_app (bndX_up hB (by simp)) fun l hl x hx => by
    simp at hl
    rcases hl with rfl | rfl | rfl
    · simp at hx
      rcases hx with rfl | rfl
      · exact .int _ _
      · exact bnd_rowsT _ _ _
    · simp at hx
      rcases hx with rfl | rfl | rfl <;> exact .int _ _
    · simp at hx
      rcases hx with rfl | rfl
      · exact .int _ _
      · exact .nil
  have two : ∀ (N : Nat) (now' : Int) (l : List Tm), ∀ x ∈ [AV.int .i64 now', .sl false 2 (rowsT l)], Bnd N x := fun N now' l x hx => by
    simp at hx
    rcases hx with rfl | rfl
    · exact .int _ _
    · exact bnd_rowsT _ _ _
  obtain ⟨q, hq, hq7⟩ : ∃ q : Nat, k % 7 = q ∧ q < 7 := ⟨(k % 7).toNat, by omega, by omega⟩
  rw [hq] at p w3
  rcases (by omega : q = 0 ∨ q = 1 ∨ q = 2 ∨ q = 3 ∨ q = 4 ∨ q = 5 ∨ q = 6) with rfl | rfl | rfl | rfl | rfl | rfl | rfl
  all_goals simp [Try.ntmps20, Try.results20, List.replicate_succ, dwA, opA, w1, w2, w3, p, hS]
  · refine dset_pc E _ now ts n t hnd (by omega) hnow hB3 ?_
    simp [Kcall, KP, dwA, hS]
    refine PC.bnd (wset_pc E _ (up _) n t hn ht few (fun K M' hW hL hBK _ => ?_))
    have f6 := frm _ K M' hL (H.length + 2) (by omega) (by simp)
    have hkp := kp _ K M' hL
    simp only [List.length_append, List.length_cons, List.length_nil] at hkp
    simp at f6
    simp [Kcall, KP, hS, hL.le, f6]
    refine ⟨⟨by have := hL.le; simp at this; omega, fun j a b c => kp _ K M' hL j a b (by simp; omega)⟩, ?_⟩
    have hsl := setM_len now ts n t
    obtain ⟨hW', hL'⟩ := fin _ K M' now st (setM now ts n t) [.int .i64 (now : Nat), .sl false 2 (rowsT (setM now ts n t))] (by simp) hW hL
    have hq := hQ _ M' now st (setM now ts n t) hW' hL' (by omega) (by omega) hsl
    exact aPost_upX (v := .tup [dwA (now : Nat) (setM now ts n t), .bool true]) (by simp [dwA, f6, List.getElem?_set_self']) (by have := hL.le; simp at this ⊢; omega) (by rw [List.length_set]; exact bndX_put hBK _ (two _ now (setM now ts n t))) (by simp [bnd_dwA]) hq
  · refine dstop_pc E _ now n ts hnd (by omega) hB3 ?_
    simp [Kcall, KP, dwA, hS]
    refine PC.bnd (wstop_pc E _ (up _) n hn (fun K hW hL _ hBK _ => ?_))
    have f6 := frm _ K M hL (H.length + 2) (by omega) (by simp)
    simp at f6
    simp [Kcall, KP, hS, hL.le, f6]
    refine ⟨⟨by have := hL.le; simp at this; omega, fun j a b c => kp _ K M hL j a b (by simp; omega)⟩, ?_⟩
    have hsl : (offN ts n).length ≤ ts.length := List.length_filter_le ..
    obtain ⟨hW', hL'⟩ := fin _ K M now st (offN ts n) [.int .i64 (now : Nat), .sl false 2 (rowsT (offN ts n))] (by simp) hW hL
    have hq := hQ _ M now st (offN ts n) hW' hL' (by omega) (by omega) (by omega)
    exact aPost_upX (v := .tup [dwA (now : Nat) (offN ts n), .bool true]) (by simp [dwA, f6, List.getElem?_set_self']) (by have := hL.le; simp at this ⊢; omega) (by rw [List.length_set]; exact bndX_put hBK _ (two _ now (offN ts n))) (by simp [bnd_dwA]) hq
  · refine PC.bnd (wdue_pc E _ (up _) n hn (fun _ _ => ?_))
    simp [Kcall, KP, dwA, hS]
    refine ddue_pc E _ now n ts (by omega) ?_
    simp [Kcall, KP, dwA, hS]
    have hq := hQ H M now st ts h (Lft.refl M H) (by omega) (by omega) (by omega)
    exact aPost_lawX hB (by simp) (fun j hj => List.getElem?_append_left hj) (v0 := .tup [dwA now ts, .bool true]) (by simp [dwA]) (by simp [bnd_dwA]) hq
  · refine PC.bnd (wnext_pc E _ (up _) (fun _ _ => ?_))
    simp [Kcall, KP, dwA, hS]
    refine dnext_pc E _ now ts (by omega) ?_
    simp [Kcall, KP, dwA, hS]
    have hq := hQ H M now st ts h (Lft.refl M H) (by omega) (by omega) (by omega)
    exact aPost_lawX hB (by simp) (fun j hj => List.getElem?_append_left hj) (v0 := .tup [dwA now ts, .bool true]) (by simp [dwA]) (by simp [bnd_dwA]) hq
  · have c1 := due_len t ts
    cases hbad : badT now t with
    | true =>
      refine dadv_pc E _ now t ts hndp (by omega) hB3 (fun _ => ?_) (fun hb => by rw [hbad] at hb; cases hb)
      simp [Kcall, KP, dwA, hS]
      refine PC.bnd (wadv_pc E _ (up _) ⟨by omega, by omega⟩ t (fun _ hB5 _ => ?_) (fun K st' tk _ hb => by rw [hbad] at hb; cases hb))
      simp [Kcall, KP, hS]
      refine PC.bnd (wsame_pc E _ [] (by simp) (fun hB6 _ => ?_))
      simp [Kcall, KP, hS]
      have hq := hQ H M now st ts h (Lft.refl M H) (by omega) (by omega) (by omega)
      exact aPost_lawX hB (by simp) (fun j hj => List.getElem?_append_left hj) (v0 := .tup [dwA now ts, .bool true]) (by simp [dwA]) (by simp [bnd_dwA]) hq
    | false =>
      refine dadv_pc E _ now t ts hndp (by omega) hB3 (fun hb => by rw [hbad] at hb; cases hb) (fun _ => ?_)
      simp [Kcall, KP, dwA, hS]
      refine PC.bnd (wadv_pc E _ (up _) ⟨by omega, by omega⟩ t (fun hb => by rw [hbad] at hb; cases hb) (fun K st' tk htk _ _ _ hW hL hl6 d1 d2 _ hBK _ => ?_))
      have f6 := frm _ K M hL (H.length + 2) (by omega) (by simp)
      have f7 := frm _ K M hL (H.length + 3) (by omega) (by simp)
      simp at f6 f7
      simp [Kcall, KP, hS, f7]
      refine PC.bnd (wsame_pc E _ (dueT t ts) (by omega) (fun hB6 _ => ?_))
      simp [Kcall, KP, hS, f6, f7]
      obtain ⟨hW', hL'⟩ := fin _ K M tk st' (leftT t ts) [.int .i64 t, .sl false 2 (rowsT (leftT t ts))] (by simp) hW hL
      have hq := hQ _ M tk st' (leftT t ts) hW' hL' (by omega) (by omega) (by omega)
      rw [← htk] at hq
      exact aPost_upX (v := .tup [dwA t (leftT t ts), .bool true]) (by simp [dwA, f6, List.getElem?_set_self']) (by have := hL.le; simp at this ⊢; omega) (by rw [List.length_set]; exact bndX_put hBK _ (two _ t (leftT t ts))) (by simp [bnd_dwA]) hq
  · by_cases g1 : 0 ≤ t
    · by_cases g2 : t ≤ 281474976710656
      · have wa : IntKind.i64.wrap (t + now) = t + now := wrap_in (by omega) (by omega)
        simp [g1, g2, wa, dwA, hS]
        have c1 := due_len (t + now) ts
        cases hbad : badT now (t + now) with
        | true =>
          refine dadv_pc E _ now (t + now) ts hndp (by omega) hB3 (fun _ => ?_) (fun hb => by rw [hbad] at hb; cases hb)
          simp [Kcall, KP, dwA, hS]
          refine PC.bnd (wadv_pc E _ (up _) ⟨by omega, by omega⟩ (t + now) (fun _ hB5 _ => ?_) (fun K st' tk _ hb => by rw [hbad] at hb; cases hb))
          simp [Kcall, KP, hS]
          refine PC.bnd (wsame_pc E _ [] (by simp) (fun hB6 _ => ?_))
          simp [Kcall, KP, hS]
          have hq := hQ H M now st ts h (Lft.refl M H) (by omega) (by omega) (by omega)
          exact aPost_lawX hB (by simp) (fun j hj => List.getElem?_append_left hj) (v0 := .tup [dwA now ts, .bool true]) (by simp [dwA]) (by simp [bnd_dwA]) hq
        | false =>
          refine dadv_pc E _ now (t + now) ts hndp (by omega) hB3 (fun hb => by rw [hbad] at hb; cases hb) (fun _ => ?_)
          simp [Kcall, KP, dwA, hS]
          refine PC.bnd (wadv_pc E _ (up _) ⟨by omega, by omega⟩ (t + now) (fun hb => by rw [hbad] at hb; cases hb) (fun K st' tk htk _ _ _ hW hL hl6 d1 d2 _ hBK _ => ?_))
          have f6 := frm _ K M hL (H.length + 2) (by omega) (by simp)
          have f7 := frm _ K M hL (H.length + 3) (by omega) (by simp)
          simp at f6 f7
          simp [Kcall, KP, hS, f7]
          refine PC.bnd (wsame_pc E _ (dueT (t + now) ts) (by omega) (fun hB6 _ => ?_))
          simp [Kcall, KP, hS, f6, f7]
          obtain ⟨hW', hL'⟩ := fin _ K M tk st' (leftT (t + now) ts) [.int .i64 (t + now), .sl false 2 (rowsT (leftT (t + now) ts))] (by simp) hW hL
          have hq := hQ _ M tk st' (leftT (t + now) ts) hW' hL' (by omega) (by omega) (by omega)
          rw [← htk] at hq
          exact aPost_upX (v := .tup [dwA (t + now) (leftT (t + now) ts), .bool true]) (by simp [dwA, f6, List.getElem?_set_self']) (by have := hL.le; simp at this ⊢; omega) (by rw [List.length_set]; exact bndX_put hBK _ (two _ (t + now) (leftT (t + now) ts))) (by simp [bnd_dwA]) hq
      · simp [g1, g2, dwA, hS]
        have c1 := due_len t ts
        cases hbad : badT now t with
        | true =>
          refine dadv_pc E _ now t ts hndp (by omega) hB3 (fun _ => ?_) (fun hb => by rw [hbad] at hb; cases hb)
          simp [Kcall, KP, dwA, hS]
          refine PC.bnd (wadv_pc E _ (up _) ⟨by omega, by omega⟩ t (fun _ hB5 _ => ?_) (fun K st' tk _ hb => by rw [hbad] at hb; cases hb))
          simp [Kcall, KP, hS]
          refine PC.bnd (wsame_pc E _ [] (by simp) (fun hB6 _ => ?_))
          simp [Kcall, KP, hS]
          have hq := hQ H M now st ts h (Lft.refl M H) (by omega) (by omega) (by omega)
          exact aPost_lawX hB (by simp) (fun j hj => List.getElem?_append_left hj) (v0 := .tup [dwA now ts, .bool true]) (by simp [dwA]) (by simp [bnd_dwA]) hq
        | false =>
          refine dadv_pc E _ now t ts hndp (by omega) hB3 (fun hb => by rw [hbad] at hb; cases hb) (fun _ => ?_)
          simp [Kcall, KP, dwA, hS]
          refine PC.bnd (wadv_pc E _ (up _) ⟨by omega, by omega⟩ t (fun hb => by rw [hbad] at hb; cases hb) (fun K st' tk htk _ _ _ hW hL hl6 d1 d2 _ hBK _ => ?_))
          have f6 := frm _ K M hL (H.length + 2) (by omega) (by simp)
          have f7 := frm _ K M hL (H.length + 3) (by omega) (by simp)
          simp at f6 f7
          simp [Kcall, KP, hS, f7]
          refine PC.bnd (wsame_pc E _ (dueT t ts) (by omega) (fun hB6 _ => ?_))
          simp [Kcall, KP, hS, f6, f7]
          obtain ⟨hW', hL'⟩ := fin _ K M tk st' (leftT t ts) [.int .i64 t, .sl false 2 (rowsT (leftT t ts))] (by simp) hW hL
          have hq := hQ _ M tk st' (leftT t ts) hW' hL' (by omega) (by omega) (by omega)
          rw [← htk] at hq
          exact aPost_upX (v := .tup [dwA t (leftT t ts), .bool true]) (by simp [dwA, f6, List.getElem?_set_self']) (by have := hL.le; simp at this ⊢; omega) (by rw [List.length_set]; exact bndX_put hBK _ (two _ t (leftT t ts))) (by simp [bnd_dwA]) hq
    · simp [g1, dwA, hS]
      have c1 := due_len t ts
      cases hbad : badT now t with
      | true =>
        refine dadv_pc E _ now t ts hndp (by omega) hB3 (fun _ => ?_) (fun hb => by rw [hbad] at hb; cases hb)
        simp [Kcall, KP, dwA, hS]
        refine PC.bnd (wadv_pc E _ (up _) ⟨by omega, by omega⟩ t (fun _ hB5 _ => ?_) (fun K st' tk _ hb => by rw [hbad] at hb; cases hb))
        simp [Kcall, KP, hS]
        refine PC.bnd (wsame_pc E _ [] (by simp) (fun hB6 _ => ?_))
        simp [Kcall, KP, hS]
        have hq := hQ H M now st ts h (Lft.refl M H) (by omega) (by omega) (by omega)
        exact aPost_lawX hB (by simp) (fun j hj => List.getElem?_append_left hj) (v0 := .tup [dwA now ts, .bool true]) (by simp [dwA]) (by simp [bnd_dwA]) hq
      | false =>
        refine dadv_pc E _ now t ts hndp (by omega) hB3 (fun hb => by rw [hbad] at hb; cases hb) (fun _ => ?_)
        simp [Kcall, KP, dwA, hS]
        refine PC.bnd (wadv_pc E _ (up _) ⟨by omega, by omega⟩ t (fun hb => by rw [hbad] at hb; cases hb) (fun K st' tk htk _ _ _ hW hL hl6 d1 d2 _ hBK _ => ?_))
        have f6 := frm _ K M hL (H.length + 2) (by omega) (by simp)
        have f7 := frm _ K M hL (H.length + 3) (by omega) (by simp)
        simp at f6 f7
        simp [Kcall, KP, hS, f7]
        refine PC.bnd (wsame_pc E _ (dueT t ts) (by omega) (fun hB6 _ => ?_))
        simp [Kcall, KP, hS, f6, f7]
        obtain ⟨hW', hL'⟩ := fin _ K M tk st' (leftT t ts) [.int .i64 t, .sl false 2 (rowsT (leftT t ts))] (by simp) hW hL
        have hq := hQ _ M tk st' (leftT t ts) hW' hL' (by omega) (by omega) (by omega)
        rw [← htk] at hq
        exact aPost_upX (v := .tup [dwA t (leftT t ts), .bool true]) (by simp [dwA, f6, List.getElem?_set_self']) (by have := hL.le; simp at this ⊢; omega) (by rw [List.length_set]; exact bndX_put hBK _ (two _ t (leftT t ts))) (by simp [bnd_dwA]) hq
  · refine PC.bnd (wlen_pc E _ (up _) (fun _ _ => ?_))
    simp [Kcall, KP, dwA, hS, rowsT_len]
    have hq := hQ H M now st ts h (Lft.refl M H) (by omega) (by omega) (by omega)
    exact aPost_lawX hB (by simp) (fun j hj => List.getElem?_append_left hj) (v0 := .tup [dwA now ts, .bool true]) (by simp [dwA]) (by simp [bnd_dwA]) hq
end
end Go.Proofs.Ytijnohcaeedffaa

set_option linter.unusedVariables false
set_option linter.unnecessarySimpa false
set_option linter.unusedSimpArgs false
set_option linter.unusedSectionVars false
set_option maxRecDepth 100000
namespace Go.Proofs.Ytijnohcaeedffaa
open Go Go.RowKit Go.ChangeShapes Go.WideShapes Go.ChangeAt Go.Deep

structure Op25 where
  k : Int
  n : Int
  t : Int
def rowsO (l : List Op25) : List (List AV) := l.map fun o => [.int .i64 o.k, .int .i64 o.n, .int .i64 o.t]
theorem rowsO_len (l : List Op25) : (rowsO l).length = l.length := List.length_map ..
theorem rowsO_at {l : List Op25} {i : Nat} {o : Op25} (h : l[i]? = some o) : lat (rowsO l) i = some [.int .i64 o.k, .int .i64 o.n, .int .i64 o.t] := by show (rowsO l)[i]? = _; simp [rowsO, h]
def okO (l : List Op25) : Prop := ∀ o ∈ l, okKey o.k ∧ okKey o.n ∧ okKey o.t
def opK25 : List CK := [.int .i64, .int .i64, .int .i64]
theorem ops25_of_rows : ∀ (rows : List (List AV)), (∀ r ∈ rows, r.length = 3 ∧ ∀ (j : Nat) k y, opK25[j]? = some k → r[j]? = some y → KindOf k y) → ∃ l : List Op25, rows = rowsO l ∧ okO l
  | [], _ => ⟨[], rfl, nofun⟩
  | r :: rows, h => by
    obtain ⟨l, rfl, hl⟩ := ops25_of_rows rows fun r' hr' => h r' (List.mem_cons_of_mem _ hr')
    obtain ⟨h1, h2⟩ := h r (List.mem_cons_self ..)
    match r, h1, h2 with
    | [a, b, c], _, h2 =>
      obtain ⟨k, rfl, hk⟩ := int_kind (h2 0 _ a rfl rfl)
      obtain ⟨n, rfl, hn⟩ := int_kind (h2 1 _ b rfl rfl)
      obtain ⟨t, rfl, ht⟩ := int_kind (h2 2 _ c rfl rfl)
      refine ⟨⟨k, n, t⟩ :: l, rfl, fun y hy => ?_⟩
      rcases List.mem_cons.1 hy with rfl | hy
      · exact ⟨hk, hn, ht⟩
      · exact hl y hy
section
variable {H K : Hp} {M1 M2 : Nat → Prop} {i1 n1 i2 n2 : Nat} {s1 s2 : Int} {t1 t2 : List Tm}
theorem Ups.put {M : Nat → Prop} (h : Ups H K M) {j : Nat} (hj : H.length ≤ j) (r : List AV) : Ups H (K.set j r) M :=
  ⟨by simpa using h.le, fun i hi => (getNX (by omega) r).trans (h.keep i hi), h.abv⟩
theorem Two.put (h : Two H K M1 M2 i1 n1 s1 t1 i2 n2 s2 t2) {j : Nat} (hj : H.length ≤ j) (h1 : ¬ M1 j) (h2 : ¬ M2 j) (r : List AV) : Two H (K.set j r) M1 M2 i1 n1 s1 t1 i2 n2 s2 t2 :=
  ⟨h.w1.keep (by simp) fun i hi => getNX (fun e => h1 (by rw [e]; exact hi)) r, h.w2.keep (by simp) fun i hi => getNX (fun e => h2 (by rw [e]; exact hi)) r, h.u1.put hj r, h.a2, h.dis⟩
/-- Boxes that are no wheel's stay. -/
theorem Two.stay (h : Two H K M1 M2 i1 n1 s1 t1 i2 n2 s2 t2) {K' : Hp} {M' : Nat → Prop} (hl : Lft M1 M' K K') {j : Nat} (hj : j < K.length) (h1 : ¬ M1 j) : K'[j]? = K[j]? ∧ ¬ M' j :=
  ⟨hl.keep j hj h1, fun hm => by
    rcases hl.sub j hm with a | a
    · exact h1 a
    · omega⟩
end
section
variable {H : Hp} (E : Env) (Q : AV → Hp → Prop)
end
end Go.Proofs.Ytijnohcaeedffaa

set_option linter.unusedVariables false
set_option linter.unnecessarySimpa false
set_option linter.unusedSimpArgs false
set_option linter.unusedSectionVars false
set_option maxRecDepth 100000
namespace Go.Proofs.Ytijnohcaeedffaa
open Go Go.RowKit Go.ChangeShapes Go.WideShapes Go.ChangeAt Go.Deep

theorem Lft.stay {M M' : Nat → Prop} {K K' : Hp} (hl : Lft M M' K K') {j : Nat} (hj : j < K.length) (h1 : ¬ M j) : K'[j]? = K[j]? ∧ ¬ M' j :=
  ⟨hl.keep j hj h1, fun hm => by
    rcases hl.sub j hm with a | a
    · exact h1 a
    · omega⟩
def pl25 (H : Hp) (sc : List Op25) (fr : List AV) (K : Hp) : Prop := ∃ (i : Nat) (M : Nat → Prop) (now : Nat) (st : Int) (ts : List Tm), Wh M K H.length now st ts ∧ Ups H K M ∧ K[H.length + 1]? = some [.int .i64 now, .sl false 2 (rowsT ts)] ∧ ¬ M (H.length + 1) ∧ i ≤ sc.length ∧ (0 ≤ st ∧ st + 576 * ts.length ≤ 576 * i ∧ ts.length ≤ i) ∧
  ∃ x : Nat → AV, fr = [x 0, .sl false 3 (rowsO sc), x 2, x 3, x 4, .ptr (some (H.length, 0)), x 6, .ptr (some (H.length + 1, 0)), x 8, .int .i64 i, x 10, x 11, x 12, x 13, x 14, x 15, x 16, x 17, x 18, x 19, x 20, x 21, x 22, x 23, x 24, x 25, x 26, x 27, x 28, x 29, x 30, x 31, x 32, x 33, x 34, x 35, x 36, x 37, x 38, x 39, x 40, x 41, x 42, x 43, x 44, x 45, x 46, x 47, x 48, x 49, x 50, x 51, x 52, x 53, x 54, x 55, x 56, x 57, x 58, x 59, x 60, x 61, x 62, x 63, x 64, x 65, x 66, x 67, x 68, x 69, x 70, x 71, x 72, x 73, x 74, x 75, x 76, x 77, x 78, x 79, x 80, x 81, x 82, x 83, x 84]
section
variable {H : Hp} (E : Env) (Q : AV → Hp → Prop)
set_option maxHeartbeats 4000000 in
theorem plays_pc (now : Int) (sc : List Op25) (hk : okO sc) (hl : sc.length ≤ 1048576) (hQ : Q (.bool true) H) : PC Try.prog E 8 [.int .i64 now, .sl false 3 (rowsO sc)] H Q := by
  refine pc_enter Try.func8 rfl [] [(7, [0, 1]), (12, [7, 6, 10, 0, 0, 0, 0, 0, 0, 0, 0, 0, 0, 0, 0, 0]), (13, [0, 0, 0, 0, 1]), (16, [0, 1])] (by kernel_rfl) (fun hB => ?_)
  simp [Try.ntmps8, Try.results8, List.replicate_succ]
  refine PC.bnd (wnew_pc E _ now (fun hb _ _ => ?_) (fun n row e hn hb hW1 hB1 _ => ?_))
  · simp [Kcall, KP, preH_refl]
    refine dnew_pc E _ now (fun _ => ?_) (fun h => by rw [hb] at h; cases h)
    simp [Kcall, KP, dwA]
    refine PC.bnd (awake_pc E _ (fun _ _ => ?_))
    simp [Kcall, KP, preH_refl]
    exact aPost_lawX hB (by simp) (fun j hj => List.getElem?_append_left hj) rfl (by simp) hQ
  have u1 := (Ups.refl H).go (Lft.new H row)
  simp [Kcall, KP, preH_refl]
  refine dnew_pc E _ now (fun h => by rw [hb] at h; cases h) (fun _ => ?_)
  simp [Kcall, KP, dwA]
  refine PC.bnd (awake_pc E _ (fun _ _ => ?_))
  simp [Kcall, KP, preH_refl]
  subst e
  have hW2 : Wh (fun j => j = H.length) (H ++ [row, [.int .i64 n, .sl false 2 []]]) H.length n 0 [] := hW1.keep (by simp) fun j hj => by
    rw [show H ++ [row, [AV.int .i64 n, .sl false 2 []]] = (H ++ [row]) ++ [[AV.int .i64 n, .sl false 2 []]] by simp]
    exact List.getElem?_append_left (by simp; omega)
  have u2 : Ups H (H ++ [row, [.int .i64 n, .sl false 2 []]]) (fun j => j = H.length) := ⟨by simp, fun j hj => List.getElem?_append_left hj, fun j hj => by omega⟩
  have ez : rowsT [] = [] := rfl
  rw [ez]
  refine PC.bnd (wnow_pc E _ hW2 (fun _ _ => ?_))
  simp [Kcall, KP, preH_refl]
  refine PC.bnd (wlen_pc E _ hW2 (fun _ _ => ?_))
  simp [Kcall, KP, preH_refl]
  refine PC.bnd (wsteps_pc E _ hW2 (fun _ _ => ?_))
  simp [Kcall, KP, preH_refl]
  refine VL_go (pl25 H sc) (fun fr _ => sc.length - (ai (aget fr 9)).toNat) ⟨0, _, n, 0, [], hW2, u2, by simp [rowsT], by omega, by omega, by simp, fr_intro (by simp)⟩ ?_
  clear hW1 hW2 u1 u2 hB1
  rintro fr K ⟨i, M, n, st, ts, hW, hu, hq, hm, hi, ⟨a1, a2, a3⟩, x, rfl⟩
  have hw1 : IntKind.i64.wrap ((i : Int) + 1) = i + 1 := wrap_in (by omega) (by omega)
  by_cases h1 : i < sc.length
  · obtain ⟨o, ho⟩ : ∃ o, sc[i]? = some o := ⟨_, List.getElem?_eq_getElem h1⟩
    have hat := rowsO_at ho
    obtain ⟨c1, c2, c3⟩ := hk o (List.mem_of_getElem? ho)
    have hs : swP 13 6 10 = [0, 1, 2, 3, 4, 5, 10, 6, 7, 8, 9, 11, 12] := by decide
    simp [h1, rowsO_len]
    refine VBoth_intro ?_ ?_
    · simp [hat, hq]
      refine PC.bnd (step25_pc E _ hW o.k o.n o.t c1 c2 c3 (by omega) ⟨by omega, by omega⟩ (fun K2 M' n' st' ts' hW2 hL d1 d2 d3 hBK _ => ?_))
      obtain ⟨f2, m2⟩ := hL.stay (ltX hq) hm
      rw [hq] at f2
      have hlt := ltX f2
      simp [Kcall, KP, dwA, preH_refl, getX hlt, f2]
      have hW3 : Wh M' (K2 ++ [[.int .i64 n', .sl false 2 (rowsT ts')]]) H.length n' st' ts' := hW2.keep (by simp) fun j hj => List.getElem?_append_left (hW2.lt j hj)
      refine PC.bnd (wnow_pc E _ hW3 (fun _ _ => ?_))
      simp [Kcall, KP, preH_refl, getX hlt, setX hlt, f2, hw1]
      have hu2 := hu.go hL
      exact Kloop_normal ⟨i + 1, M', n', st', ts', hW2.keep (by simp) fun j hj => by
          rw [List.getElem?_append_left (by simpa using hW2.lt j hj), getNX (fun e => m2 (by rw [e]; exact hj))], ⟨by have := hu2.le; simp; omega, fun j hj => by
          rw [List.getElem?_append_left (by have := hu2.le; simp; omega), getNX (by omega)]; exact hu2.keep j hj, hu2.abv⟩, by rw [List.getElem?_append_left (by simpa using hlt)]; exact List.getElem?_set_self hlt, m2, by omega, ⟨by omega, by omega, by omega⟩, fr_intro (by simp)⟩ (by simp; omega)
    · simp [hs, puQ, opsQ, hat, hq]
      have hW0 : Wh M (K ++ [[.int .i64 0, .nil]]) H.length n st ts := hW.keep (by simp) fun j hj => List.getElem?_append_left (hW.lt j hj)
      refine PC.bnd (step25_pc E _ hW0 o.k o.n o.t c1 c2 c3 (by omega) ⟨by omega, by omega⟩ (fun K2 M' n' st' ts' hW2 hL d1 d2 d3 hBK _ => ?_))
      have hlq := ltX hq
      obtain ⟨f2, m2⟩ := hL.stay (j := H.length + 1) (by simp; omega) hm
      obtain ⟨f3, m3⟩ := hL.stay (j := K.length) (by simp) (fun hM => by have := hW.lt _ hM; omega)
      rw [List.getElem?_append_left hlq, hq] at f2
      rw [List.getElem?_append_right (Nat.le_refl _), Nat.sub_self] at f3
      replace f3 : K2[K.length]? = some [.int .i64 0, .nil] := f3
      have hlt := ltX f2
      have hlt3 := ltX f3
      have n1 : ¬ K.length = H.length + 1 := by omega
      have n2 : ¬ H.length + 1 = K.length := by omega
      have g2 : (K2.set K.length [.int .i64 n', .sl false 2 (rowsT ts')])[H.length + 1]? = some [.int .i64 n, .sl false 2 (rowsT ts)] := (getNX n1 _).trans f2
      have g3 : (K2.set K.length [.int .i64 n', .sl false 2 (rowsT ts')])[K.length]? = some [.int .i64 n', .sl false 2 (rowsT ts')] := List.getElem?_set_self hlt3
      simp [Kcall, KP, dwA, preH_refl, f2, f3]
      have hW3 : Wh M' (K2.set K.length [.int .i64 n', .sl false 2 (rowsT ts')]) H.length n' st' ts' := hW2.keep (by simp) fun j hj => getNX (fun e => m3 (by rw [e]; exact hj)) _
      refine PC.bnd (wnow_pc E _ hW3 (fun _ _ => ?_))
      simp [Kcall, KP, preH_refl, g2, g3, hw1]
      have hu0 : Ups H (K ++ [[.int .i64 0, .nil]]) M := ⟨by have := hu.le; simp; omega, fun j hj => (List.getElem?_append_left (by have := hu.le; omega)).trans (hu.keep j hj), hu.abv⟩
      have hu2 := hu0.go hL
      have hle := hu2.le
      have hle0 := hu.le
      exact Kloop_normal ⟨i + 1, M', n', st', ts', hW3.keep (by simp) fun j hj => getNX (fun e => m2 (by rw [e]; exact hj)) _, (hu2.put (j := K.length) (by omega) _).put (j := H.length + 1) (by omega) _, List.getElem?_set_self (by simpa using hlt), m2, by omega, ⟨by omega, by omega, by omega⟩, fr_intro (by simp)⟩ (by simp; omega)
  · simp [h1, rowsO_len]
    refine PC.bnd (wlen_pc E _ hW (fun _ _ => ?_))
    simp [Kcall, KP, hq, rowsT_len, preH_refl]
    exact aPost_lawX hB hu.le hu.keep rfl (by simp) hQ
theorem plays_true (W : World) (now : Int) (bo : Option Addr) (len cap : Nat) (rows : List (List AV)) (r0 : okKey now) (hr : Rel W (fun _ => 0) (old W) (.sl false 3 rows) (.slice bo len cap)) (hn : Bnd 0 (.sl false 3 rows))
    (hk : ∀ r ∈ rows, r.length = 3 ∧ ∀ (j : Nat) k y, opK25[j]? = some k → r[j]? = some y → KindOf k y) (e : rows.length = len) (hb : len ≤ 1048576) :
    Calls Try.prog 8 #[.int .i64 now, .slice bo len cap] W fun e w' => e = .returned (.bool true) ∧ Frm (fun _ => False) W w' := by
  obtain ⟨sc, rfl, hs⟩ := ops25_of_rows rows hk
  rw [rowsO_len] at e
  refine calls_of_pc (args := [.int .i64 now, .sl false 3 (rowsO sc)]) (old W) (fun _ _ h => h) rfl (fun t x u hx hu => ?_) (fun E Q h => plays_pc E Q now sc hs (by omega) h)
  match t with
  | 0 => simp at hx hu; subst hx; subst hu; exact ⟨.int _ _, .int _ _, rfl⟩
  | 1 => simp at hx hu; subst hx; subst hu; exact ⟨hr, hn, rfl⟩
  | t + 2 => simp at hx
end
end Go.Proofs.Ytijnohcaeedffaa

