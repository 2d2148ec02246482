/- The octet layer in the abstract machine: parameters. -/
import Derived.Test.YtjphdipbajfojaaDoorOctE
import Derived.Test.YtjphdipbajfojaaDoorOctQ
set_option linter.unusedVariables false
set_option linter.unusedSimpArgs false
set_option linter.unusedSectionVars false
set_option maxRecDepth 100000
namespace Go.Proofs.YtjphdipbajfojaaDoor
open Go Go.RowKit

def parRow (p : Par) : List AV := [.str p.name, .str p.value, .bool p.has]
def prs (l : List Par) : List (List AV) := l.map parRow
@[simp] theorem prs_length (l : List Par) : (prs l).length = l.length := by simp [prs]
theorem prs_snoc (l : List Par) (p : Par) : prs l ++ [[.str p.name, .str p.value, .bool p.has]] = prs (l ++ [p]) := by simp [prs, parRow]
theorem prs_at {l : List Par} {i : Nat} {p : Par} (h : l[i]? = some p) : lat (prs l) i = some [.str p.name, .str p.value, .bool p.has] := by simp [lat, prs, h, parRow]
theorem bnd_prs {N : Nat} (o k) (l : List Par) : Bnd N (.sl o k (prs l)) := .sl _ _ _ fun r hr x hx => by
  obtain ⟨c, _, rfl⟩ := List.mem_map.1 hr
  simp [parRow] at hx
  rcases hx with rfl | rfl | rfl
  · exact .str _
  · exact .str _
  · exact .bool _
@[simp high] theorem bnd_prs' {N : Nat} (o k) (l : List Par) : Bnd N (.sl o k (prs l)) := bnd_prs o k l

def parAns (l : List UInt8) : List Par × Int × Int := match pars signB l with
  | some p => (p.1, (p.2 : Int), 0)
  | none => ([], 0, 15)
def valAns (l : List UInt8) : List UInt8 × Int × Bool := match pval signB l with
  | some p => (p.1, (p.2 : Int), true)
  | none => ([], 0, false)
theorem nilV_tup3 (k : Nat) (y z : AV) (h : y.free = true) (h2 : z.free = true) : nilV (.tup [.nil, y, z]) (.tup [.sl false k [], y, z]) :=
  .inr ⟨_, _, rfl, rfl, ⟨.inr ⟨rfl, false, k, rfl⟩, .inl rfl, .inl rfl, trivial⟩, by simp [h, h2]⟩
theorem pval_le {l x : List UInt8} {k : Nat} (h : pval signB l = some (x, k)) : 1 ≤ k ∧ k ≤ l.length ∧ x.length ≤ k := by
  unfold pval at h
  split at h
  · cases h
    have := run_le signB l
    rw [List.length_take]; omega
  · have := unquote_le h; omega

/-- Where a loop over parameters stands. -/
def parsIs (l : List UInt8) (out : List Par) (e : Nat) : Prop := pars signB l = (pars signB (l.drop e)).map fun p => (out ++ p.1, p.2 + e)
theorem parsIs_start (l : List UInt8) : parsIs l [] 0 := by unfold parsIs; cases h : pars signB l <;> simp [h]
section
variable {l : List UInt8} {out : List Par} {e b m n : Nat} (h : parsIs l out e) (hb : run blankB (l.drop e) = b)
include h hb
theorem parsIs_end (h0 : l[e + b]? ≠ some 59) : parAns l = (out, (e : Int), 0) := by
  unfold parsIs at h
  rw [pars_end signB (l.drop e) (by rw [hb, List.getElem?_drop]; exact h0)] at h
  unfold parAns; rw [h]; simp
variable (h0 : l[e + b]? = some 59) (hm : run blankB (l.drop (e + b + 1)) = m) (hn : run signB (l.drop (e + b + 1 + m)) = n)
include h0 hm hn
theorem pi_facts : (l.drop e)[b]? = some 59 ∧ run blankB ((l.drop e).drop (b + 1)) = m ∧ run signB ((l.drop e).drop (b + 1 + m)) = n := by
  refine ⟨by rw [List.getElem?_drop]; exact h0, by rw [List.drop_drop, ← Nat.add_assoc]; exact hm, by rw [List.drop_drop, ← Nat.add_assoc, ← Nat.add_assoc]; exact hn⟩
theorem parsIs_skip (hz : n = 0) : parsIs l out (e + b + 1) := by
  obtain ⟨f1, f2, f3⟩ := pi_facts h hb h0 hm hn
  unfold parsIs at h ⊢
  rw [h, pars_skip signB (l.drop e) b m n hb f1 f2 f3 hz, List.drop_drop, ← Nat.add_assoc]
  cases pars signB (l.drop (e + b + 1)) with
  | none => rfl
  | some p => simp; omega
theorem parsIs_plain (hz : n ≠ 0) (he : l[e + b + 1 + m + n]? ≠ some 61) : parsIs l (out ++ [⟨(l.drop (e + b + 1 + m)).take n, [], false⟩]) (e + b + 1 + m + n) := by
  obtain ⟨f1, f2, f3⟩ := pi_facts h hb h0 hm hn
  unfold parsIs at h ⊢
  have e1 : e + (b + 1 + m + n) = e + b + 1 + m + n := by omega
  have e2 : e + (b + 1 + m) = e + b + 1 + m := by omega
  rw [h, pars_plain signB (l.drop e) b m n hb f1 f2 f3 hz (by rw [List.getElem?_drop, e1]; exact he), List.drop_drop, List.drop_drop, e1, e2]
  cases pars signB (l.drop (e + b + 1 + m + n)) with
  | none => rfl
  | some p => simp; omega
theorem parsIs_bad (hz : n ≠ 0) (he : l[e + b + 1 + m + n]? = some 61) (hv : pval signB (l.drop (e + b + 1 + m + n + 1)) = none) : parAns l = ([], 0, 15) := by
  obtain ⟨f1, f2, f3⟩ := pi_facts h hb h0 hm hn
  unfold parsIs at h
  have e1 : e + (b + 1 + m + n) = e + b + 1 + m + n := by omega
  rw [pars_bad signB (l.drop e) b m n hb f1 f2 f3 hz (by rw [List.getElem?_drop, e1]; exact he) (by rw [List.drop_drop, show e + (b + 1 + m + n + 1) = e + b + 1 + m + n + 1 by omega]; exact hv)] at h
  unfold parAns; rw [h]; rfl
theorem parsIs_value (hz : n ≠ 0) (he : l[e + b + 1 + m + n]? = some 61) {x : List UInt8} {k : Nat} (hv : pval signB (l.drop (e + b + 1 + m + n + 1)) = some (x, k)) : parsIs l (out ++ [⟨(l.drop (e + b + 1 + m)).take n, x, true⟩]) (e + b + 1 + m + n + 1 + k) := by
  obtain ⟨f1, f2, f3⟩ := pi_facts h hb h0 hm hn
  unfold parsIs at h ⊢
  have e1 : e + (b + 1 + m + n) = e + b + 1 + m + n := by omega
  have e2 : e + (b + 1 + m) = e + b + 1 + m := by omega
  have e3 : e + (b + 1 + m + n + 1 + k) = e + b + 1 + m + n + 1 + k := by omega
  rw [h, pars_value signB (l.drop e) b m n hb f1 f2 f3 hz (by rw [List.getElem?_drop, e1]; exact he) (by rw [List.drop_drop, show e + (b + 1 + m + n + 1) = e + b + 1 + m + n + 1 by omega]; exact hv), List.drop_drop, List.drop_drop, e2, e3]
  cases pars signB (l.drop (e + b + 1 + m + n + 1 + k)) with
  | none => rfl
  | some p => simp; omega
end

section
variable (E : Env) (H : Hp) (Q : AV → Hp → Prop)
theorem isBlank_pc (b : UInt8) (hQ : Q (.bool (blankB b)) H) : PC Tryd.prog E 56 [.int .u8 (b.toNat : Int)] H Q := by
  refine pc_enter Tryd.func56 rfl [] [] (by kernel_rfl) (fun hB => ?_)
  have fin : ∀ c : Bool, blankB b = c → Q (.bool c) H := fun c hc => hc ▸ hQ
  by_cases h1 : b.toNat = 32
  · have t1 : ((b.toNat : Int) == 32) = true := by simp; omega
    simp [Tryd.ntmps56, Tryd.results56, List.replicate_succ, t1]
    exact aPost_same0 hB rfl (nilV_refl _) (by simp) (fin _ (by rw [blank_iff]; simp [h1]))
  · have t1 : ((b.toNat : Int) == 32) = false := by simp; omega
    by_cases h2 : b.toNat = 9
    · have t2 : ((b.toNat : Int) == 9) = true := by simp; omega
      simp [Tryd.ntmps56, Tryd.results56, List.replicate_succ, t1, t2]
      exact aPost_same0 hB rfl (nilV_refl _) (by simp) (fin _ (by rw [blank_iff]; simp [h2]))
    · have t2 : ((b.toNat : Int) == 9) = false := by simp; omega
      simp [Tryd.ntmps56, Tryd.results56, List.replicate_succ, t1, t2]
      exact aPost_same0 hB rfl (nilV_refl _) (by simp) (fin _ (by rw [blank_iff]; simp [h1, h2]))
def runInv (p : UInt8 → Bool) (l : List UInt8) (a : Nat) (fid : Nat) (H : Hp) (fr : List AV) (H' : Hp) : Prop := H' = H ∧ ∃ n : Nat, a + n ≤ l.length ∧ ((l.drop a).take n).all p = true ∧ ∃ x : Nat → AV, fr = [.str l, .int .i64 a, .fn fid [], x 3, x 4, x 5, x 6, .int .i64 n, x 8, x 9, x 10, x 11, x 12, x 13, x 14, x 15, x 16, x 17, x 18, x 19, x 20, x 21, x 22, x 23, x 24, x 25]
theorem run_pc (p : UInt8 → Bool) (fid : FuncId) (hp : ∀ (b : UInt8) (Q : AV → Hp → Prop), Q (.bool (p b)) H → PC Tryd.prog E fid [.int .u8 (b.toNat : Int)] H Q) (l : List UInt8) (a : Nat) (hl : l.length ≤ cap) (ha : a ≤ l.length)
    (hQ : Q (.int .i64 (run p (l.drop a) : Nat)) H) : PC Tryd.prog E 55 [.str l, .int .i64 a, .fn fid []] H Q := by
  simp only [cap] at hl
  refine pc_enter Tryd.func55 rfl [] [] (by kernel_rfl) (fun hB => ?_)
  have fin : ∀ n : Nat, run p (l.drop a) = n → Q (.int .i64 n) H := fun n hn => hn ▸ hQ
  simp [Tryd.ntmps55, Tryd.results55, List.replicate_succ]
  refine VL_go (runInv p l a fid H) (fun fr _ => l.length - (ai (aget fr 7)).toNat) ⟨rfl, 0, by omega, rfl, fr_intro (by simp)⟩ ?_
  rintro fr H' ⟨rfl, n, hn, hall, x, rfl⟩
  obtain ⟨i, hi⟩ : ∃ i, i = a + n := ⟨_, rfl⟩
  have hw0 : IntKind.i64.wrap ((a : Int) + n) = (i : Int) := by rw [wrap_in (by omega) (by omega)]; omega
  have hw : IntKind.i64.wrap ((n : Int) + 1) = n + 1 := wrap_in (by omega) (by omega)
  by_cases h : i < l.length
  · obtain ⟨b, hb⟩ : ∃ b, l[i]? = some b := ⟨_, List.getElem?_eq_getElem h⟩
    have hb2 : (l.drop a)[n]? = some b := by rw [List.getElem?_drop, ← hi]; exact hb
    have hat := lat_eq hb
    simp [hw0, h, hat]
    refine hp b _ ?_
    cases hf : p b
    · simp [hf]
      refine aPost_same0 hB rfl (nilV_refl _) (by simp) (fin n (run_step p _ n hall (by rw [List.length_drop]; omega) (fun c hc => ?_)))
      rw [hb2] at hc; cases hc; exact hf
    · simp [hf, hw]
      exact Kloop_normal ⟨rfl, n + 1, by omega, by rw [all_step p (l.drop a) n b hb2, hall, hf]; rfl, fr_intro (by simp)⟩ (by simp; omega)
  · simp [hw0, h]
    refine aPost_same0 hB rfl (nilV_refl _) (by simp) (fin n (run_step p _ n hall (by rw [List.length_drop]; omega) (fun c hc => ?_)))
    rw [List.getElem?_drop] at hc
    have := (List.getElem?_eq_some_iff.1 hc).1
    omega
theorem value_pc (hE : SE E) (l : List UInt8) (hl : l.length ≤ 8388608) (hQ : Q (.tup [.str (valAns l).1, .int .i64 (valAns l).2.1, .bool (valAns l).2.2]) H) : PC Tryd.prog E 58 [.str l] H Q := by
  refine pc_enter Tryd.func58 rfl [] [] (by kernel_rfl) (fun hB => ?_)
  simp [Tryd.ntmps58, Tryd.results58, List.replicate_succ]
  refine run_pc E _ _ signB _ (fun b Q hQ => isSign_pc E _ Q hE b hQ) l 0 (by simp only [cap]; omega) (by omega) ?_
  rw [List.drop_zero]
  obtain ⟨n, hn⟩ : ∃ n, run signB l = n := ⟨_, rfl⟩
  have hnl := run_le signB l
  rw [hn] at hnl ⊢
  by_cases h0 : 0 < n
  · have hv : valAns l = (l.take n, (n : Int), true) := by unfold valAns pval; rw [hn, if_pos h0]
    rw [hv] at hQ
    simp [h0, hnl]
    exact aPost_same0 hB rfl (nilV_refl _) (by simp) hQ
  · simp [h0]
    refine unquote_pc E _ _ l (by omega) ?_
    cases hu : unquote l with
    | none =>
      have ha : unqAns l = ([], 0, 13) := by unfold unqAns; rw [hu]
      have hv : valAns l = ([], 0, false) := by unfold valAns pval; rw [hn, if_neg h0, hu]
      rw [hv] at hQ
      simp [ha]
      exact aPost_same0 hB rfl (nilV_refl _) (by simp) hQ
    | some p =>
      have ha : unqAns l = (p.1, (p.2 : Int), 0) := by unfold unqAns; rw [hu]
      have hv : valAns l = (p.1, (p.2 : Int), true) := by unfold valAns pval; rw [hn, if_neg h0, hu]
      rw [hv] at hQ
      simp [ha]
      exact aPost_same0 hB rfl (nilV_refl _) (by simp) hQ

def parsInv (l : List UInt8) (H : Hp) (fr : List AV) (H' : Hp) : Prop := ∃ (J : Hp) (e : Nat) (out : List Par), H' = H ++ J ∧ e ≤ l.length ∧ out.length ≤ e ∧ parsIs l out e ∧ ∃ x : Nat → AV, fr = [.str l, x 1, x 2, x 3, x 4, .sl true 3 (prs out), .int .i64 e, x 7, x 8, x 9, x 10, x 11, x 12, x 13, x 14, x 15, x 16, x 17, x 18, x 19, x 20, x 21, x 22, x 23, x 24, x 25, x 26, x 27, x 28, x 29, x 30, x 31, x 32, x 33, x 34, x 35, x 36, x 37, x 38, x 39, x 40, x 41, x 42, x 43, x 44, x 45, x 46, x 47, x 48, x 49, x 50, x 51, x 52, x 53, x 54, x 55, x 56, x 57, x 58, x 59, x 60, x 61, x 62, x 63, x 64, x 65, x 66, x 67, x 68, x 69, x 70, x 71, x 72, x 73, x 74, x 75, x 76, x 77, x 78, x 79, x 80, x 81, x 82, x 83]
theorem params_pc (hE : SE E) (l : List UInt8) (hl : l.length ≤ 8388608) (hQ : Q (.tup [.sl false 3 (prs (parAns l).1), .int .i64 (parAns l).2.1, .int .i64 (parAns l).2.2]) H) : PC Tryd.prog E 28 [.str l] H Q := by
  refine pc_enter Tryd.func28 rfl [80] [] (by kernel_rfl) (fun hB => ?_)
  simp [Tryd.ntmps28, Tryd.results28, List.replicate_succ]
  refine VL_nil 5 3 (by rfl) ?_
  simp only [List.set_cons_succ, List.set_cons_zero]
  refine VL_go (parsInv l H) (fun fr _ => l.length - (ai (aget fr 6)).toNat) ⟨[], 0, [], by simp, by omega, by simp, parsIs_start l, fr_intro (by simp [prs])⟩ ?_
  rintro fr H' ⟨J, e, out, rfl, he, hout, hp, x, rfl⟩
  have hcap : l.length ≤ cap := by simp only [cap]; omega
  have hm : out.length + 1 ≤ maxLen ∧ (out.length + 1) * 40 ≤ 140737488355328 := by unfold maxLen; omega
  obtain ⟨H1, hH1⟩ : ∃ H1, H ++ J = H1 := ⟨_, rfl⟩
  simp
  refine run_pc E _ _ blankB _ (fun b Q hQ => isBlank_pc E _ Q b hQ) l e hcap he ?_
  obtain ⟨b, hb⟩ : ∃ n, run blankB (l.drop e) = n := ⟨_, rfl⟩
  have hbl := run_le blankB (l.drop e)
  rw [List.length_drop] at hbl
  rw [hb] at hbl ⊢
  obtain ⟨a, ha⟩ : ∃ a, a = e + b := ⟨_, rfl⟩
  have hw1 : IntKind.i64.wrap ((e : Int) + b) = (a : Int) := by rw [wrap_in (by omega) (by omega)]; omega
  have hcase : l[a]? = some 59 ∨ l[a]? ≠ some 59 := by
    by_cases h : l[a]? = some 59
    · exact .inl h
    · exact .inr h
  rcases hcase with h59 | h59
  · have halt := (List.getElem?_eq_some_iff.1 h59).1
    have t1 : ((a : Int) == (l.length : Int)) = false := by simp; omega
    have hat := lat_eq h59
    obtain ⟨a1, ha1⟩ : ∃ a1, a1 = a + 1 := ⟨_, rfl⟩
    have hw2 : IntKind.i64.wrap ((a : Int) + 1) = (a1 : Int) := by rw [wrap_in (by omega) (by omega)]; omega
    simp [hw1, t1, hat, hw2]
    refine run_pc E _ _ blankB _ (fun b Q hQ => isBlank_pc E _ Q b hQ) l a1 hcap (by omega) ?_
    obtain ⟨m, hmm⟩ : ∃ n, run blankB (l.drop a1) = n := ⟨_, rfl⟩
    have hml := run_le blankB (l.drop a1)
    rw [List.length_drop] at hml
    rw [hmm] at hml ⊢
    obtain ⟨a2, ha2⟩ : ∃ a2, a2 = a1 + m := ⟨_, rfl⟩
    have hw3 : IntKind.i64.wrap ((a1 : Int) + m) = (a2 : Int) := by rw [wrap_in (by omega) (by omega)]; omega
    simp [hw3]
    refine run_pc E _ _ signB _ (fun b Q hQ => isSign_pc E _ Q hE b hQ) l a2 hcap (by omega) ?_
    obtain ⟨n, hn⟩ : ∃ n, run signB (l.drop a2) = n := ⟨_, rfl⟩
    have hnl := run_le signB (l.drop a2)
    rw [List.length_drop] at hnl
    rw [hn] at hnl ⊢
    obtain ⟨a3, ha3⟩ : ∃ a3, a3 = a2 + n := ⟨_, rfl⟩
    have hw4 : IntKind.i64.wrap ((a2 : Int) + n) = (a3 : Int) := by rw [wrap_in (by omega) (by omega)]; omega
    have x0 : l[e + b]? = some 59 := by rw [← ha]; exact h59
    have x1 : run blankB (l.drop (e + b + 1)) = m := by rw [← ha, ← ha1]; exact hmm
    have x2 : run signB (l.drop (e + b + 1 + m)) = n := by rw [← ha, ← ha1, ← ha2]; exact hn
    have ee : e + b + 1 + m + n = a3 := by omega
    by_cases hz : n = 0
    · have hsk := parsIs_skip hp hb x0 x1 x2 hz
      rw [show e + b + 1 = a1 by omega] at hsk
      have t2 : ((n : Int) == 0) = true := by simp [hz]
      simp [hz]
      exact Kloop_normal ⟨J, a1, out, rfl, by omega, by omega, hsk, fr_intro (by simp)⟩ (by simp; omega)
    · have t0 : ((n : Int) == 0) = false := by simp; omega
      have hnm : (l.drop a2).take (a3 - a2) = (l.drop a2).take n := by rw [show a3 - a2 = n by omega]
      have hle1 : a2 ≤ a3 := by omega
      have hle2 : a3 ≤ l.length := by omega
      by_cases h61 : l[a3]? = some 61
      · have h3 := (List.getElem?_eq_some_iff.1 h61).1
        have hat2 := lat_eq h61
        obtain ⟨a4, ha4⟩ : ∃ a4, a4 = a3 + 1 := ⟨_, rfl⟩
        have hw5 : IntKind.i64.wrap ((a3 : Int) + 1) = (a4 : Int) := by rw [wrap_in (by omega) (by omega)]; omega
        have hd : (l.drop a4).take (l.length - a4) = l.drop a4 := List.take_of_length_le (by rw [List.length_drop]; omega)
        have ha4l : a4 ≤ l.length := by omega
        simp [t0, hw4, hle1, hle2, hnm, h3, hat2, hw5, ha4l, hd]
        refine value_pc E _ _ hE (l.drop a4) (by rw [List.length_drop]; omega) ?_
        cases hv : pval signB (l.drop a4) with
        | none =>
          have hva : valAns (l.drop a4) = ([], 0, false) := by unfold valAns; rw [hv]
          have hbad := parsIs_bad hp hb x0 x1 x2 hz (by rw [ee]; exact h61) (by rw [ee, ← ha4]; exact hv)
          rw [hbad] at hQ
          simp [hva]
          exact aPost_same hB rfl (nilV_tup3 3 _ _ rfl rfl) (by simp) hQ
        | some q =>
          obtain ⟨y, k⟩ := q
          have hva : valAns (l.drop a4) = (y, (k : Int), true) := by unfold valAns; rw [hv]
          have hk := pval_le hv
          rw [List.length_drop] at hk
          have hvv := parsIs_value hp hb x0 x1 x2 hz (by rw [ee]; exact h61) (x := y) (k := k) (by rw [ee, ← ha4]; exact hv)
          obtain ⟨a5, ha5⟩ : ∃ a5, a5 = a3 + 1 + k := ⟨_, rfl⟩
          have hw6 : IntKind.i64.wrap (1 + (k : Int)) = 1 + k := wrap_in (by omega) (by omega)
          have hw7 : IntKind.i64.wrap ((a3 : Int) + (1 + k)) = (a5 : Int) := by rw [wrap_in (by omega) (by omega)]; omega
          rw [show e + b + 1 + m = a2 by omega, show a2 + n + 1 + k = a5 by omega] at hvv
          simp [hva, hw6, hw7, hm]
          exact Kloop_normal ⟨J ++ [[.str ((l.drop a2).take n), .str y, .bool true]], a5, _, by simp, by omega, by simp; omega, hvv, fr_intro (by simp [prs, parRow])⟩ (by simp; omega)
      · have hpl := parsIs_plain hp hb x0 x1 x2 hz (by rw [ee]; exact h61)
        rw [show e + b + 1 + m = a2 by omega, show a2 + n = a3 by omega] at hpl
        have hcase : a3 = l.length ∨ (a3 < l.length ∧ ∃ c, l[a3]? = some c ∧ c.toNat ≠ 61) := by
          by_cases h : a3 < l.length
          · obtain ⟨c, hc⟩ : ∃ b, l[a3]? = some b := ⟨_, List.getElem?_eq_getElem h⟩
            exact .inr ⟨h, c, hc, fun hh => h61 (by rw [hc, UInt8.toNat_inj.1 (show c.toNat = (61 : UInt8).toNat from hh)])⟩
          · exact .inl (by omega)
        rcases hcase with hE3 | ⟨h, c, hc, hcn⟩
        · have hnl3 : ¬ a3 < l.length := by omega
          simp [t0, hw4, hle1, hle2, hnm, hnl3, hm]
          exact Kloop_normal ⟨J ++ [[.str ((l.drop a2).take n), .str [], .bool false]], a3, _, by simp, by omega, by simp; omega, hpl, fr_intro (by simp [prs, parRow])⟩ (by simp; omega)
        · have t2 : ((c.toNat : Int) == 61) = false := by simp; omega
          have hat2 := lat_eq hc
          simp [t0, hw4, hle1, hle2, hnm, h, hat2, t2, hm]
          exact Kloop_normal ⟨J ++ [[.str ((l.drop a2).take n), .str [], .bool false]], a3, _, by simp, by omega, by simp; omega, hpl, fr_intro (by simp [prs, parRow])⟩ (by simp; omega)
  · have hans := parsIs_end hp hb (by rw [← ha]; exact h59)
    rw [hans] at hQ
    have hcase : a = l.length ∨ (a < l.length ∧ ∃ c, l[a]? = some c ∧ c.toNat ≠ 59) := by
      by_cases h : a < l.length
      · obtain ⟨c, hc⟩ : ∃ b, l[a]? = some b := ⟨_, List.getElem?_eq_getElem h⟩
        exact .inr ⟨h, c, hc, fun hh => h59 (by rw [hc, UInt8.toNat_inj.1 (show c.toNat = (59 : UInt8).toNat from hh)])⟩
      · exact .inl (by omega)
    rcases hcase with rfl | ⟨h, c, hc, hcn⟩
    · have t1 : ((l.length : Int) == (l.length : Int)) = true := by simp
      simp [hw1]
      exact aPost_same hB rfl (nilV_refl _) (by simp) hQ
    · have t1 : ((a : Int) == (l.length : Int)) = false := by simp; omega
      have t2 : ((c.toNat : Int) != 59) = true := by simp; omega
      have hat := lat_eq hc
      simp [hw1, t1, hat, t2]
      exact aPost_same hB rfl (nilV_refl _) (by simp) hQ
end
end Go.Proofs.YtjphdipbajfojaaDoor
