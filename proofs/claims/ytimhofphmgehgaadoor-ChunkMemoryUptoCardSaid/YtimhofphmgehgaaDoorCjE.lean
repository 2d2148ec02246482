/- The chunk layer's printer: a chunk is laid behind others. -/
import Derived.Test.YtimhofphmgehgaaDoorCjD
import Derived.Test.YtimhofphmgehgaaDoorBld
set_option linter.unusedVariables false
set_option linter.unnecessarySimpa false
set_option linter.unusedSimpArgs false
set_option linter.unusedSectionVars false
set_option maxRecDepth 100000
namespace Go.Proofs.YtimhofphmgehgaaDoor
open Go Go.RowKit Go.Proofs

/-- A nil argument is a slice of no rows. -/
theorem PC.argsNil {P : Program} {E : Env} {f : FuncId} {args args' : List AV} {H : Hp} {Q : AV → Hp → Prop} (h : nilL args args') (hf : ∀ x ∈ args', x.free = true) (hp : PC P E f args' H Q) : PC P E f args H Q := by
  obtain ⟨h1, h2⟩ := nilL_at h
  refine ⟨hp.1, fun w β Rd Ow cargs hr hcell hsz hargs => hp.2 w β Rd Ow cargs hr hcell (by rw [hsz, h1]) (fun t y u hy hu => ?_)⟩
  obtain ⟨x, hx, hn⟩ := h2 t y hy
  obtain ⟨r1, r2, r3⟩ := hargs t x u hx hu
  obtain ⟨q1, q2, _⟩ := nil1_rel hn r1 r2
  exact ⟨q1, q2, hf y (mem_at hy)⟩
def u8L (l : List UInt8) : List AV := l.map fun b => .int .u8 (b.toNat : Int)
theorem u8L_app (l m : List UInt8) : u8L (l ++ m) = u8L l ++ u8L m := by simp [u8L]
@[simp] theorem u8L_length (l : List UInt8) : (u8L l).length = l.length := by simp [u8L]
theorem bts_flat8 (l : List UInt8) : (bts l).flatten = u8L l := by
  induction l with
  | nil => rfl
  | cons b l ih =>
    show _ :: (bts l).flatten = _
    rw [ih]; rfl
theorem flat_take_le (strs : List (List UInt8)) (j : Nat) : (strs.take j).flatten.length ≤ strs.flatten.length := by
  have := congrArg (fun l => (List.flatten l).length) (List.take_append_drop j strs)
  simp only [List.flatten_append, List.length_append] at this
  omega
def strRows (strs : List (List UInt8)) : List (List AV) := strs.map fun s => [.str s]
theorem strRows_at {strs : List (List UInt8)} {j : Nat} {s : List UInt8} (h : strs[j]? = some s) : lat (strRows strs) j = some [.str s] := by simp [lat, strRows, h]
/-- A chunk is written, text by text. -/
def putInv (H0 : Hp) (N0 : Nat) (out : List UInt8) (strs : List (List UInt8)) (M : Nat) (fr : List AV) (H' : Hp) : Prop :=
  ∃ (J' : Hp) (tail : List AV) (j : Nat), j ≤ strs.length ∧ H' = H0 ++ (J' ++ [u8L (out ++ (strs.take j).flatten) ++ tail]) ∧ (∀ l ∈ J', ∀ x ∈ l, ∃ z, x = .int .u8 z) ∧ (∀ x ∈ tail, ∃ z, x = .int .u8 z) ∧ N0 ≤ H0.length + J'.length + 1 ∧
    out.length + M ≤ out.length + (strs.take j).flatten.length + tail.length ∧ out.length + (strs.take j).flatten.length + tail.length ≤ maxLen ∧
    ∃ x : Nat → AV, fr = [.bx (H0.length + J'.length) 0 (out.length + M) (out.length + (strs.take j).flatten.length + tail.length) 1, x 1, x 2, x 3, x 4, x 5, x 6, .int .i64 ((out.length + (strs.take j).flatten.length : Nat) : Int), x 8, x 9, x 10, x 11, x 12, x 13, x 14, x 15, x 16, x 17, x 18, x 19, x 20, x 21, x 22, x 23, x 24, x 25, x 26, x 27, .sl true 1 (strRows strs), .int .i64 strs.length, .int .i64 j, x 31, x 32, x 33, x 34, x 35, x 36, x 37, x 38, x 39, x 40, x 41, x 42]
/-- Bytes of one's own, behind boxes H0. -/
def OutAt (H0 : Hp) (v : AV) (out : List UInt8) (H : Hp) : Prop := ∃ J, H = H0 ++ J ∧ (∀ l ∈ J, ∀ x ∈ l, ∃ z, x = .int .u8 z) ∧ ((v = .nil ∧ out = []) ∨
  ∃ J1 tail, J = J1 ++ [u8L out ++ tail] ∧ v = .bx (H0.length + J1.length) 0 out.length (out.length + tail.length) 1 ∧ out.length + tail.length ≤ maxLen)
section
variable (E : Env) (H : Hp) (Q : AV → Hp → Prop)
theorem printSizeNil_pc (hE : SZ E) (n : Nat) (hn : n ≤ 1099511627776) (hQ : Q (.tup [.str (hexD n), .int .i64 0]) H) : PC Tryd.prog E 35 [.int .i64 n, .nil] H Q := by
  have hl := hexD_len11 n hn
  refine PC.argsNil (args' := [.int .i64 n, .sl false 3 (prs [])]) ⟨.inl rfl, .inr ⟨rfl, false, 3, rfl⟩, trivial⟩ (by simp) (printSize_pc E H Q hE n [] (by simp [psz]) ?_)
  have e : sizeP n [] = (hexD n, 0) := by
    unfold sizeP
    rw [if_neg (by omega), if_neg (by simp), if_neg (by simp [prt]; omega)]
    simp [prt]
  rw [e]; exact hQ
theorem put_pc (hE : SZ E) (H0 : Hp) (v : AV) (out p : List UInt8) (hv : OutAt H0 v out H) (hp : p.length ≤ 4194304) (hl : out.length ≤ 1073741824) (hQ : ∀ v' H', OutAt H0 v' (out ++ chunkT p) H' → Q v' H') : PC Tryd.prog E 64 [v, .str p] H Q := by
  obtain ⟨size, hsz⟩ : ∃ s, hexD p.length = s := ⟨_, rfl⟩
  have hs11 := hexD_len11 p.length (by omega)
  rw [hsz] at hs11
  obtain ⟨J, rfl, hJ, hv⟩ := hv
  have hw1 : IntKind.i64.wrap ((size.length : Int) + p.length) = ((size.length + p.length : Nat) : Int) := by rw [wrap_in (by omega) (by omega)]; omega
  have hw2 : IntKind.i64.wrap (((size.length + p.length : Nat) : Int) + 4) = ((size.length + p.length + 4 : Nat) : Int) := by rw [wrap_in (by omega) (by omega)]; omega
  obtain ⟨M, hM⟩ : ∃ M, size.length + p.length + 4 = M := ⟨_, rfl⟩
  rw [hM] at hw2
  have hM0 : ¬ M = 0 := by omega
  have m1 : M ≤ maxLen := by unfold maxLen; omega
  have m2 : M ≤ 140737488355328 := by omega
  have hch : size ++ ([13, 10] ++ (p ++ [13, 10])) = chunkT p := by unfold chunkT; rw [hsz]; simp
  obtain ⟨strs, hstrs⟩ : ∃ strs : List (List UInt8), [size, [13, 10], p, [13, 10]] = strs := ⟨_, rfl⟩
  have hsl : strs.length = 4 := by rw [← hstrs]; rfl
  have hsf : strs.flatten = chunkT p := by rw [← hstrs, ← hch]; simp
  have hsM : strs.flatten.length = M := by rw [← hM, ← hstrs]; simp; omega
  have hrows : strRows strs = [[AV.str size], [.str [13, 10]], [.str p], [.str [13, 10]]] := by rw [← hstrs]; rfl
  have hlast : ∀ j, j < 4 → (strs.take j).flatten.length + 2 ≤ M := fun j hj => by
    have h1 : (strs.take j).flatten.length ≤ (strs.take 3).flatten.length := by
      have := flat_take_le (strs.take 3) j
      rw [List.take_take, Nat.min_eq_left (by omega)] at this
      exact this
    have h2 : (strs.take 3).flatten.length = size.length + (2 + p.length) := by rw [← hstrs]; simp; omega
    omega
  have hM1 : M ≤ 8388608 := by omega
  have r4 : (([0, 1, 2, 3] : List Nat) = List.range 4) = True := eq_true rfl
  have hzero : ∀ (n : Nat) (x : AV), x ∈ List.replicate n (AV.int .u8 0) → ∃ z, x = .int .u8 z := fun n x hx => ⟨0, (List.mem_replicate.1 hx).2⟩
  have hB0 : ∀ N, BndH (H0 ++ J).length (H0 ++ J) → (H0 ++ J).length ≤ N → ∀ l ∈ H0, ∀ x ∈ l, Bnd N x := fun N hB hN l hl x hx => (hB l (List.mem_append_left _ hl) x hx).mono hN
  rcases hv with ⟨rfl, hout⟩ | ⟨J1, tail, rfl, rfl, htl⟩
  case' inl =>
    obtain ⟨N0, hN0⟩ : ∃ N0, H0.length + J.length = N0 := ⟨_, rfl⟩
    refine pc_enter Tryd.func64 rfl [] [(3, [0, 0, 0, 0, 0, 0, 0, 3]), (7, [0, 0, 0, 0, 0, 3])] (by kernel_rfl) (fun hB => ?_)
    simp [Tryd.ntmps64, Tryd.results64, List.replicate_succ]
    refine printSizeNil_pc E _ _ hE p.length (by omega) ?_
    rw [hsz]
    simp [hw1, hw2, m1, m2, hM0, -Int.natCast_add]
    refine VGrow_intro fun c hc1 hc2 => ?_
    simp [r4]
    rw [hN0]
    refine VL_go (putInv H0 N0 out strs M) (fun fr _ => 4 - (ai (aget fr 30)).toNat) ?_ ?_
    · refine ⟨J, List.replicate (M + (c - M)) (.int .u8 0), 0, by omega, by simp [u8L, hout], hJ, hzero _, by omega, by simp, by simp [hout]; omega, fr_intro (by simp [hrows, hsl, hout, hN0]; omega)⟩
    have hBN : ∀ N, N0 ≤ N → ∀ l ∈ H0, ∀ x ∈ l, Bnd N x := fun N hN => hB0 N hB (by simp; omega)
    clear hJ hB hN0 hc1 hc2 hB0 hout
  case' inr =>
    obtain ⟨N0, hN0⟩ : ∃ N0, H0.length + (J1.length + 1) = N0 := ⟨_, rfl⟩
    have hfree : (∀ x ∈ u8L out, x.free = true) = True := eq_true fun x hx => by obtain ⟨b, _, rfl⟩ := List.mem_map.1 hx; rfl
    have hdrop : List.drop (out.length + M) (u8L out ++ tail) = tail.drop M := by rw [List.drop_append, List.drop_of_length_le (by simp only [u8L_length]; omega)]; simp
    have htu : ∀ x ∈ tail, ∃ z, x = .int .u8 z := fun x hx => hJ (u8L out ++ tail) (by simp) x (List.mem_append_right _ hx)
    have hJ1 : ∀ l ∈ J1, ∀ x ∈ l, ∃ z, x = .int .u8 z := fun l hl => hJ l (List.mem_append_left _ hl)
    have hrow : ∀ x ∈ u8L out ++ tail, ∃ z, x = .int .u8 z := hJ _ (by simp)
    refine pc_enter Tryd.func64 rfl [] [(3, [0, 0, 0, 0, 0, 0, 0, 3]), (7, [0, 0, 0, 0, 0, 3])] (by kernel_rfl) (fun hB => ?_)
    simp [Tryd.ntmps64, Tryd.results64, List.replicate_succ]
    refine printSizeNil_pc E _ _ hE p.length (by omega) ?_
    rw [hsz]
    have hBN : ∀ N, N0 ≤ N → ∀ l ∈ H0, ∀ x ∈ l, Bnd N x := fun N hN => hB0 N hB (by simp; omega)
    rcases Nat.lt_or_ge (out.length + tail.length) (out.length + M) with hroom | hroom
    case' inr =>
      simp [hw1, hw2, m1, m2, hM0, hroom, hfree, hdrop, r4, -Int.natCast_add]
      rw [hN0]
      refine VL_go (putInv H0 N0 out strs M) (fun fr _ => 4 - (ai (aget fr 30)).toNat) ?_ ?_
      · refine ⟨J1, List.replicate M (.int .u8 0) ++ tail.drop M, 0, by omega, by simp, hJ1, fun x hx => ?_, by omega, by simp, by simp; omega, fr_intro (by simp [hrows, hsl]; omega)⟩
        rcases List.mem_append.1 hx with h | h
        · exact hzero _ x h
        · exact htu x (List.mem_of_mem_drop h)
      clear hJ hB hN0 hfree hdrop htu hJ1 hroom htl hB0 hrow
    case' inl =>
      have hroom' : ¬ out.length + M ≤ out.length + tail.length := by omega
      have hm3 : out.length + M ≤ maxLen := by unfold maxLen; omega
      have hm4 : out.length + M ≤ 140737488355328 := by omega
      simp [hw1, hw2, m1, m2, hM0, hroom', hfree, hm3, hm4, -Int.natCast_add]
      refine VGrow_intro fun c hc1 hc2 => ?_
      simp [r4]
      rw [hN0]
      refine VL_go (putInv H0 N0 out strs M) (fun fr _ => 4 - (ai (aget fr 30)).toNat) ?_ ?_
      · refine ⟨J1 ++ [u8L out ++ tail], List.replicate M (.int .u8 0) ++ List.replicate (c - (out.length + M)) (.int .u8 0), 0, by omega, by simp, fun l hl => ?_, fun x hx => ?_, by simp; omega, by simp, by simp; omega, fr_intro (by simp [hrows, hsl]; omega)⟩
        · rcases List.mem_append.1 hl with h | h
          · exact hJ1 l h
          · simp at h; subst h; exact hrow
        · rcases List.mem_append.1 hx with h | h <;> exact hzero _ x h
      clear hJ hB hN0 hfree hdrop htu hJ1 hroom htl hB0 hroom' hm3 hm4 hc1 hc2 hrow
  all_goals
    rintro fr H' ⟨J', tl, j, hj, rfl, hJ', htl', hN, hge, hle, x, rfl⟩
    obtain ⟨pre, hpre⟩ : ∃ q, out ++ (strs.take j).flatten = q := ⟨_, rfl⟩
    have hpl : out.length + (strs.take j).flatten.length = pre.length := by rw [← hpre, List.length_append]
    rw [hpl] at hge hle ⊢
    rw [hpre]
    have hget : ∀ r : List AV, (H0 ++ (J' ++ [r]))[H0.length + J'.length]? = some r := fun r => by rw [← List.append_assoc, List.getElem?_append_right (by simp)]; simp
    have hset : ∀ r q : List AV, (H0 ++ (J' ++ [r])).set (H0.length + J'.length) q = H0 ++ (J' ++ [q]) := fun r q => by rw [← List.append_assoc, List.set_append_right _ _ (by simp), List.append_assoc]; simp
    by_cases h : j < strs.length
    · obtain ⟨s, hs⟩ : ∃ s, strs[j]? = some s := ⟨_, List.getElem?_eq_getElem h⟩
      have hat := strRows_at hs
      have hl2 := hlast j (by omega)
      have hnext : (strs.take (j + 1)).flatten = (strs.take j).flatten ++ s := by rw [List.take_add_one, hs]; simp
      have hpn : pre ++ s = out ++ (strs.take (j + 1)).flatten := by rw [hnext, ← hpre]; simp
      have hle2 : pre.length + s.length ≤ out.length + M := by
        have := flat_take_le strs (j + 1)
        have e := congrArg List.length hpn
        rw [List.length_append, List.length_append] at e
        omega
      have q1 : pre.length ≤ out.length + M := by omega
      have q2 : out.length + M ≤ pre.length + tl.length := by omega
      have q3 : ¬ pre.length + tl.length = pre.length := by omega
      have q4 : s.length ≤ out.length + M - pre.length := by omega
      have q5 : pre.length + s.length ≤ pre.length + tl.length := by omega
      have q6 : s.length ≤ tl.length := by omega
      have hw3 : IntKind.i64.wrap ((pre.length : Int) + s.length) = ((pre.length + s.length : Nat) : Int) := by rw [wrap_in (by omega) (by omega)]; omega
      have hw4 : IntKind.i64.wrap ((j : Int) + 1) = j + 1 := wrap_in (by omega) (by omega)
      have hne : ¬ tl = [] := fun e => by rw [e] at q2; simp at q2; omega
      have e1 : List.take pre.length (u8L pre ++ tl) = u8L pre := by rw [List.take_append_of_le_length (by simp), List.take_of_length_le (by simp)]
      have e2 : List.drop (pre.length + s.length) (u8L pre ++ tl) = tl.drop s.length := by rw [List.drop_append, List.drop_of_length_le (by simp)]; simp
      simp [h, hat, q1, q2, q4, q5, q6, hne, hget, hset, hw3, hw4, e1, e2, bts_flat8, -Int.natCast_add]
      refine Kloop_normal ⟨J', tl.drop s.length, j + 1, by omega, by rw [← hpn, u8L_app]; simp, hJ', fun y hy => htl' y (List.mem_of_mem_drop hy), hN, ?_, ?_, fr_intro ?_⟩ (by simp; omega)
      all_goals
        have e3 : out.length + (strs.take (j + 1)).flatten.length = pre.length + s.length := by rw [← List.length_append, ← hpn, List.length_append]
        rw [e3]
        try (rw [List.length_drop]; omega)
      have e4 : pre.length + s.length + (tl.drop s.length).length = pre.length + tl.length := by rw [List.length_drop]; omega
      rw [e4]
      simp
    · obtain rfl : j = strs.length := by omega
      simp
      have hfull : out ++ chunkT p = pre := by rw [← hpre, List.take_of_length_le (Nat.le_refl _), hsf]
      rw [hfull] at hQ
      have hn : out.length + M = pre.length := by rw [← hpl, List.take_of_length_le (Nat.le_refl _), hsM]
      rw [hn]
      have hcells : ∀ y ∈ u8L pre ++ tl, ∃ z, y = .int .u8 z := fun y hy => by
        rcases List.mem_append.1 hy with h | h
        · obtain ⟨b, _, rfl⟩ := List.mem_map.1 h; exact ⟨_, rfl⟩
        · exact htl' y h
      have hJall : ∀ l ∈ J' ++ [u8L pre ++ tl], ∀ y ∈ l, ∃ z, y = .int .u8 z := fun l hl => by
        rcases List.mem_append.1 hl with h | h
        · exact hJ' l h
        · simp at h; subst h; exact hcells
      refine ⟨.bx (H0.length + J'.length) 0 pre.length (pre.length + tl.length) 1, _, _, H0 ++ (J' ++ [u8L pre ++ tl]), [], by simp, nilV_refl _, nilH_refl _, by simp, by simp; omega, fun l hl y hy => ?_, by simp, hQ _ _ ⟨_, rfl, hJall, .inr ⟨J', tl, rfl, rfl, hle⟩⟩⟩
      rcases List.mem_append.1 hl with h | h
      · exact hBN _ (by simp; omega) l h y hy
      · obtain ⟨z, rfl⟩ := hJall l h y hy; exact .int _ _
end
end Go.Proofs.YtimhofphmgehgaaDoor
