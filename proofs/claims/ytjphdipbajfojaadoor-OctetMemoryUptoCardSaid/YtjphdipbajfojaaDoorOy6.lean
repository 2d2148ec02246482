/- Part 6 of the texts below the law: the abstract machine, the functions that it walks, what they compute. -/
import Derived.Test.YtjphdipbajfojaaDoorOy5
import Derived.Test.YtjphdipbajfojaaDoorRows
import Derived.ProofKit
import Derived.OpenShut
import Derived.SizedLaws
import Derived.Deep.Slices
import Derived.Deep.Fields
import Derived.SliceStrings
import Derived.Test.YtjphdipbajfojaaDoorCards
import Derived.Test.YtjphdipbajfojaaDoorTie
import Derived.Deep.DeepHandedRow
import Derived.Lib.LaidTab
import Derived.ChangeMaps5
import Derived.Lib.ItoaLen
import Derived.Stop.LaidErr
import Derived.Lay
set_option linter.unusedVariables false
set_option linter.unusedSimpArgs false
namespace Go.Proofs.YtjphdipbajfojaaDoor
open Go Go.ChangeShapes Go.WideShapes Go.ChangeAt Go.RowKit Go.Deep

theorem Tryd.own : ownKnob Tryd.prog.godebug = none := by kernel_rfl
theorem Tryd.laidOut : laidOutB Tryd.prog = true := by kernel_rfl

section
variable {H : Type} {enc : TypeId × Value → H}

/-- ARGUMENTS READ AGAIN where nothing old has turned. -/
theorem Frm.trodAll {P : Program} (hl : laidOutB P = true) {W W' : World} (hF : Frm (fun _ => False) W W') (sp : Nat → Bool) : ∀ {ts : List TypeId} {vs : List Value} {ds : List (DataW H)} {ps : List MemPlace}, (∀ t ∈ ts, P.readableRec t = true ∧ t < P.types.size) → DataW.TrodAll enc P W 0 (fun _ => true) true ts vs ds ps → (∀ p ∈ ps, sp p.block = true) → (∀ p ∈ ps, p.block < W.heap.size) → DataW.TrodAll enc P W' 0 sp true ts vs ds ps
  | [], [], [], _, _, h, _, _ => h
  | _ :: _, _ :: _, _ :: _, _, hT, ⟨p, q, h1, h2, e⟩, hs, hlt =>
    ⟨p, q, WideElems.Trod_stays hl (hT _ (List.mem_cons.2 (Or.inl rfl))).1 (hT _ (List.mem_cons.2 (Or.inl rfl))).2 h1
      (fun x hx => (hF.toBelow (Nat.le_refl _) (fun _ _ => id)).same (hlt x (by rw [e]; exact List.mem_append_left _ hx))) (fun x hx => hs x (by rw [e]; exact List.mem_append_left _ hx)),
      Frm.trodAll hl hF sp (fun t ht => hT t (List.mem_cons.2 (Or.inr ht))) h2 (fun x hx => hs x (by rw [e]; exact List.mem_append_right _ hx)) (fun x hx => hlt x (by rw [e]; exact List.mem_append_right _ hx)), e⟩

/-- THE POST OF A LAW: true, and nothing old has turned. -/
theorem law_post {P : Program} (hl : laidOutB P = true) {f : Func} {s : ChangeSpec} {W W' : World} {args : Array Value} {ds gs : List (DataW H)} {before : List MemPlace} {tb : TypeId} (hb : P.underlying tb = some .bool)
    (hr : f.resultTypes = #[tb]) (hs : s.vars = []) (hT : f.params.all (fun t => P.readableRec t && decide (t < P.types.size)) = true)
    (hspec : s.fn H ds = { results := [.lit (.bool true)], args := ds })
    (hW : DataW.Whole enc P f.params.toList s.vars false W args.toList ds gs before) (hF : Frm (fun _ => False) W W') :
    s.post enc P f false true false false W args (.bool true) W' := by
  have hT' : ∀ t ∈ f.params.toList, P.readableRec t = true ∧ t < P.types.size := by
    intro t ht
    have := Array.all_eq_true_iff_forall_mem.1 hT t (by simpa using ht)
    simpa using this
  have hW' := hW
  obtain ⟨p, q, hA, hV, rfl, hfz, hnd⟩ := hW
  rw [hs] at hV
  obtain ⟨rfl, rfl⟩ := trodVars_none hV
  have hB := hF.toBelow (Nat.le_refl _) (fun _ _ => id)
  simp only [List.append_nil] at hW' hfz
  have hold : ∀ x ∈ p, decide (x.block < W.heap.size) = true := fun x hx => by simpa using hW'.lt x hx
  have hargs : ∀ sp : Nat → Bool, (∀ x ∈ p, sp x.block = true) → DataW.TrodAll enc P W' 0 sp true f.params.toList args.toList ds p := fun sp h => hF.trodAll hl sp hT' hA h (fun x hx => hW'.lt x hx)
  have hres : ∀ (b : Nat) (sp : Nat → Bool) (hd : Bool), DataW.TrodAll enc P W' b sp hd f.resultTypes.toList ((Value.bool true).resultList f.resultTypes.size) [.lit (.bool true)] [] := fun b sp hd => by
    rw [hr]; exact trodAll_mk1 (shut_bool hb true)
  have e1 : (s.fn H (ds ++ [])) = { results := [.lit (.bool true)], args := ds } := by rw [List.append_nil]; exact hspec
  refine ⟨ds, [], p, [], p, [], hW', ?_, ?_, ?_, World.keptBut_mono (fun x hx => hx) (hB.frame _), fun h => by cases h⟩
  · rw [e1]; exact hres _ _ _
  · rw [e1]; exact hargs _ hold
  · rw [e1, hs]; exact rfl

end
end Go.Proofs.YtjphdipbajfojaaDoor

set_option linter.unusedVariables false
set_option linter.unusedSimpArgs false
namespace Go.Proofs.YtjphdipbajfojaaDoor
open Go Go.ChangeShapes Go.WideShapes Go.ChangeAt Go.RowKit Go.Deep

theorem signsNamed : Tryd.prog.globalNamed "turnpike/octet.signs" = some 0 := by kernel_rfl
theorem signsType : (Tryd.prog.globals[0]?).map (·.type) = some 87 := by kernel_rfl
theorem signs_of_row {W : World} {rest : List (String × DataW Unit)} (h : laidMet Tryd.prog (("turnpike/octet.signs", Rows.laid_turnpike_octet_signs) :: rest) W) : Signs W := by
  have ht : Lib.TabIs Tryd.prog W "turnpike/octet.signs" .u32 signTab := Lib.tabIs_of_head (rest := rest) signsNamed signsType Tryd.underlying87 Tryd.underlying86 (by kernel_rfl) (by kernel_rfl) h
  intro j z hz
  have hj := (List.getElem?_eq_some_iff.1 hz).1
  have := ht.cell signsNamed j hj
  rw [List.getD, hz] at this
  exact this
end Go.Proofs.YtjphdipbajfojaaDoor

set_option linter.unusedVariables false
set_option linter.unusedSimpArgs false
namespace Go.Proofs.YtjphdipbajfojaaDoor
open Go Go.ChangeShapes Go.WideShapes Go.ChangeAt Go.RowKit Go.Deep

inductive CK where
  | int (k : IntKind)
  | bool
  | str
  | u8s
def KindOf : CK → AV → Prop
  | .int k, .int k' z => k = k' ∧ (Lit.int k z).wf = true
  | .bool, .bool _ => True
  | .str, .str _ => True
  | .u8s, .sl false 1 rows => ∃ l, rows = bts l
  | _, _ => False
def shapeL (g : TypeId → Option (List CK)) : Nat → List Field → Option (List CK)
  | _, [] => some []
  | off, f :: r => if f.offset = off then match g f.type with
    | some a => (shapeL g (off + a.length) r).map (a ++ ·)
    | none => none else none
def shape (P : Program) : Nat → TypeId → Option (List CK)
  | 0, _ => none
  | n + 1, t => match P.underlying t with
    | some (.int k) => some [.int k]
    | some .bool => some [.bool]
    | some .string => some [.str]
    | some (.slice e) => match P.underlying e with
      | some (.int .u8) => if P.cellsOf e = 1 then some [.u8s] else none
      | _ => none
    | some (.struct fs) => match shapeL (shape P n) 0 fs.toList with
      | some ks => if ks.length = P.cellsOf t then some ks else none
      | none => none
    | _ => none
structure Opened (W : World) (ks : List CK) (cs : List Value) (avs : List AV) : Prop where
  len : avs.length = ks.length
  clen : cs.length = ks.length
  kind : ∀ (j : Nat) k x, ks[j]? = some k → avs[j]? = some x → KindOf k x
  rel : ∀ (j : Nat) x u, avs[j]? = some x → cs[j]? = some u → x.free = true ∧ x.one = true ∧ Rel W (fun _ => 0) (old W) x u ∧ Bnd 0 x
theorem Opened.one {W : World} {k : CK} {v : Value} {x : AV} (h1 : KindOf k x) (h2 : x.free = true ∧ x.one = true ∧ Rel W (fun _ => 0) (old W) x v ∧ Bnd 0 x) : Opened W [k] [v] [x] := by
  refine ⟨rfl, rfl, fun j k' x' hk hx => ?_, fun j x' u hx hu => ?_⟩
  · cases j with
    | zero => simp at hk hx; subst hk; subst hx; exact h1
    | succ j => simp at hk
  · cases j with
    | zero => simp at hu hx; subst hu; subst hx; exact h2
    | succ j => simp at hu
theorem Opened.app {W : World} {ks ms : List CK} {cs ds : List Value} {av1 bs : List AV} (h : Opened W ks cs av1) (k : Opened W ms ds bs) : Opened W (ks ++ ms) (cs ++ ds) (av1 ++ bs) := by
  refine ⟨by simp [h.len, k.len], by simp [h.clen, k.clen], fun j k' x' hk hx => ?_, fun j x' u hx hu => ?_⟩
  · by_cases hj : j < ks.length
    · rw [List.getElem?_append_left hj] at hk
      rw [List.getElem?_append_left (by rw [h.len]; exact hj)] at hx
      exact h.kind j k' x' hk hx
    · rw [List.getElem?_append_right (by omega)] at hk
      rw [List.getElem?_append_right (by rw [h.len]; omega), h.len] at hx
      exact k.kind _ k' x' hk hx
  · by_cases hj : j < av1.length
    · rw [List.getElem?_append_left hj] at hx
      rw [List.getElem?_append_left (by rw [h.clen, ← h.len]; exact hj)] at hu
      exact h.rel j x' u hx hu
    · rw [List.getElem?_append_right (by omega)] at hx
      rw [List.getElem?_append_right (by rw [h.clen, ← h.len]; omega), h.clen, ← h.len] at hu
      exact k.rel _ x' u hx hu
section
variable {H : Type} {enc : TypeId × Value → H}
end
end Go.Proofs.YtjphdipbajfojaaDoor

set_option linter.unusedVariables false
set_option linter.unusedSimpArgs false
set_option maxRecDepth 100000
namespace Go.Proofs.YtjphdipbajfojaaDoor
open Go Go.RowKit

section
variable (E : Env) (H : Hp) (Q : AV → Hp → Prop)
end
theorem law_fix (W : World) (hS : Signs W) : ∀ b, b = 0 → b < W.heap.size := fun b hb => hb ▸ World.block_lt_of_cell? _ _ (hS 0 _ rfl)
end Go.Proofs.YtjphdipbajfojaaDoor

set_option linter.unusedVariables false
set_option linter.unusedSimpArgs false
set_option linter.unusedSectionVars false
set_option maxRecDepth 100000
namespace Go.Proofs.YtjphdipbajfojaaDoor
open Go Go.RowKit

def parRow (p : Par) : List AV := [.str p.name, .str p.value, .bool p.has]
def prs (l : List Par) : List (List AV) := l.map parRow
@[simp] theorem prs_length (l : List Par) : (prs l).length = l.length := by simp [prs]
theorem prs_at {l : List Par} {i : Nat} {p : Par} (h : l[i]? = some p) : lat (prs l) i = some [.str p.name, .str p.value, .bool p.has] := by simp [lat, prs, h, parRow]
theorem bnd_prs {N : Nat} (o k) (l : List Par) : Bnd N (.sl o k (prs l)) := .sl _ _ _ fun r hr x hx => by
  obtain ⟨c, _, rfl⟩ := List.mem_map.1 hr
  simp [parRow] at hx
  rcases hx with rfl | rfl | rfl
  · exact .str _
  · exact .str _
  · exact .bool _
@[simp high] theorem bnd_prs' {N : Nat} (o k) (l : List Par) : Bnd N (.sl o k (prs l)) := bnd_prs o k l

def parAns (l : List UInt8) : List Par × Int × Int := match pars signB l with
  | some p => (p.1, (p.2 : Int), 0)
  | none => ([], 0, 15)
def valAns (l : List UInt8) : List UInt8 × Int × Bool := match pval signB l with
  | some p => (p.1, (p.2 : Int), true)
  | none => ([], 0, false)
theorem nilV_tup3 (k : Nat) (y z : AV) (h : y.free = true) (h2 : z.free = true) : nilV (.tup [.nil, y, z]) (.tup [.sl false k [], y, z]) :=
  .inr ⟨_, _, rfl, rfl, ⟨.inr ⟨rfl, false, k, rfl⟩, .inl rfl, .inl rfl, trivial⟩, by simp [h, h2]⟩
theorem pval_le {l x : List UInt8} {k : Nat} (h : pval signB l = some (x, k)) : 1 ≤ k ∧ k ≤ l.length ∧ x.length ≤ k := by
  unfold pval at h
  split at h
  · cases h
    have := run_le signB l
    rw [List.length_take]; omega
  · have := unquote_le h; omega

/-- Where a loop over parameters stands. -/
def parsIs (l : List UInt8) (out : List Par) (e : Nat) : Prop := pars signB l = (pars signB (l.drop e)).map fun p => (out ++ p.1, p.2 + e)
theorem parsIs_start (l : List UInt8) : parsIs l [] 0 := by unfold parsIs; cases h : pars signB l <;> simp [h]
section
variable {l : List UInt8} {out : List Par} {e b m n : Nat} (h : parsIs l out e) (hb : run blankB (l.drop e) = b)
include h hb
theorem parsIs_end (h0 : l[e + b]? ≠ some 59) : parAns l = (out, (e : Int), 0) := by
  unfold parsIs at h
  rw [pars_end signB (l.drop e) (by rw [hb, List.getElem?_drop]; exact h0)] at h
  unfold parAns; rw [h]; simp
variable (h0 : l[e + b]? = some 59) (hm : run blankB (l.drop (e + b + 1)) = m) (hn : run signB (l.drop (e + b + 1 + m)) = n)
include h0 hm hn
theorem pi_facts : (l.drop e)[b]? = some 59 ∧ run blankB ((l.drop e).drop (b + 1)) = m ∧ run signB ((l.drop e).drop (b + 1 + m)) = n := by
  refine ⟨by rw [List.getElem?_drop]; exact h0, by rw [List.drop_drop, ← Nat.add_assoc]; exact hm, by rw [List.drop_drop, ← Nat.add_assoc, ← Nat.add_assoc]; exact hn⟩
theorem parsIs_skip (hz : n = 0) : parsIs l out (e + b + 1) := by
  obtain ⟨f1, f2, f3⟩ := pi_facts h hb h0 hm hn
  unfold parsIs at h ⊢
  rw [h, pars_skip signB (l.drop e) b m n hb f1 f2 f3 hz, List.drop_drop, ← Nat.add_assoc]
  cases pars signB (l.drop (e + b + 1)) with
  | none => rfl
  | some p => simp; omega
theorem parsIs_plain (hz : n ≠ 0) (he : l[e + b + 1 + m + n]? ≠ some 61) : parsIs l (out ++ [⟨(l.drop (e + b + 1 + m)).take n, [], false⟩]) (e + b + 1 + m + n) := by
  obtain ⟨f1, f2, f3⟩ := pi_facts h hb h0 hm hn
  unfold parsIs at h ⊢
  have e1 : e + (b + 1 + m + n) = e + b + 1 + m + n := by omega
  have e2 : e + (b + 1 + m) = e + b + 1 + m := by omega
  rw [h, pars_plain signB (l.drop e) b m n hb f1 f2 f3 hz (by rw [List.getElem?_drop, e1]; exact he), List.drop_drop, List.drop_drop, e1, e2]
  cases pars signB (l.drop (e + b + 1 + m + n)) with
  | none => rfl
  | some p => simp; omega
theorem parsIs_bad (hz : n ≠ 0) (he : l[e + b + 1 + m + n]? = some 61) (hv : pval signB (l.drop (e + b + 1 + m + n + 1)) = none) : parAns l = ([], 0, 15) := by
  obtain ⟨f1, f2, f3⟩ := pi_facts h hb h0 hm hn
  unfold parsIs at h
  have e1 : e + (b + 1 + m + n) = e + b + 1 + m + n := by omega
  rw [pars_bad signB (l.drop e) b m n hb f1 f2 f3 hz (by rw [List.getElem?_drop, e1]; exact he) (by rw [List.drop_drop, show e + (b + 1 + m + n + 1) = e + b + 1 + m + n + 1 by omega]; exact hv)] at h
  unfold parAns; rw [h]; rfl
theorem parsIs_value (hz : n ≠ 0) (he : l[e + b + 1 + m + n]? = some 61) {x : List UInt8} {k : Nat} (hv : pval signB (l.drop (e + b + 1 + m + n + 1)) = some (x, k)) : parsIs l (out ++ [⟨(l.drop (e + b + 1 + m)).take n, x, true⟩]) (e + b + 1 + m + n + 1 + k) := by
  obtain ⟨f1, f2, f3⟩ := pi_facts h hb h0 hm hn
  unfold parsIs at h ⊢
  have e1 : e + (b + 1 + m + n) = e + b + 1 + m + n := by omega
  have e2 : e + (b + 1 + m) = e + b + 1 + m := by omega
  have e3 : e + (b + 1 + m + n + 1 + k) = e + b + 1 + m + n + 1 + k := by omega
  rw [h, pars_value signB (l.drop e) b m n hb f1 f2 f3 hz (by rw [List.getElem?_drop, e1]; exact he) (by rw [List.drop_drop, show e + (b + 1 + m + n + 1) = e + b + 1 + m + n + 1 by omega]; exact hv), List.drop_drop, List.drop_drop, e2, e3]
  cases pars signB (l.drop (e + b + 1 + m + n + 1 + k)) with
  | none => rfl
  | some p => simp; omega
end

section
variable (E : Env) (H : Hp) (Q : AV → Hp → Prop)
theorem isBlank_pc (b : UInt8) (hQ : Q (.bool (blankB b)) H) : PC Tryd.prog E 56 [.int .u8 (b.toNat : Int)] H Q := by
  refine pc_enter Tryd.func56 rfl [] [] (by kernel_rfl) (fun hB => ?_)
  have fin : ∀ c : Bool, blankB b = c → Q (.bool c) H := fun c hc => hc ▸ hQ
  by_cases h1 : b.toNat = 32
  · have t1 : ((b.toNat : Int) == 32) = true := by simp; omega
    simp [Tryd.ntmps56, Tryd.results56, List.replicate_succ, t1]
    exact aPost_same0 hB rfl (nilV_refl _) (by simp) (fin _ (by rw [blank_iff]; simp [h1]))
  · have t1 : ((b.toNat : Int) == 32) = false := by simp; omega
    by_cases h2 : b.toNat = 9
    · have t2 : ((b.toNat : Int) == 9) = true := by simp; omega
      simp [Tryd.ntmps56, Tryd.results56, List.replicate_succ, t1, t2]
      exact aPost_same0 hB rfl (nilV_refl _) (by simp) (fin _ (by rw [blank_iff]; simp [h2]))
    · have t2 : ((b.toNat : Int) == 9) = false := by simp; omega
      simp [Tryd.ntmps56, Tryd.results56, List.replicate_succ, t1, t2]
      exact aPost_same0 hB rfl (nilV_refl _) (by simp) (fin _ (by rw [blank_iff]; simp [h1, h2]))
def runInv (p : UInt8 → Bool) (l : List UInt8) (a : Nat) (fid : Nat) (H : Hp) (fr : List AV) (H' : Hp) : Prop := H' = H ∧ ∃ n : Nat, a + n ≤ l.length ∧ ((l.drop a).take n).all p = true ∧ ∃ x : Nat → AV, fr = [.str l, .int .i64 a, .fn fid [], x 3, x 4, x 5, x 6, .int .i64 n, x 8, x 9, x 10, x 11, x 12, x 13, x 14, x 15, x 16, x 17, x 18, x 19, x 20, x 21, x 22, x 23, x 24, x 25]
theorem run_pc (p : UInt8 → Bool) (fid : FuncId) (hp : ∀ (b : UInt8) (Q : AV → Hp → Prop), Q (.bool (p b)) H → PC Tryd.prog E fid [.int .u8 (b.toNat : Int)] H Q) (l : List UInt8) (a : Nat) (hl : l.length ≤ cap) (ha : a ≤ l.length)
    (hQ : Q (.int .i64 (run p (l.drop a) : Nat)) H) : PC Tryd.prog E 55 [.str l, .int .i64 a, .fn fid []] H Q := by
  simp only [cap] at hl
  refine pc_enter Tryd.func55 rfl [] [] (by kernel_rfl) (fun hB => ?_)
  have fin : ∀ n : Nat, run p (l.drop a) = n → Q (.int .i64 n) H := fun n hn => hn ▸ hQ
  simp [Tryd.ntmps55, Tryd.results55, List.replicate_succ]
  refine VL_go (runInv p l a fid H) (fun fr _ => l.length - (ai (aget fr 7)).toNat) ⟨rfl, 0, by omega, rfl, fr_intro (by simp)⟩ ?_
  rintro fr H' ⟨rfl, n, hn, hall, x, rfl⟩
  obtain ⟨i, hi⟩ : ∃ i, i = a + n := ⟨_, rfl⟩
  have hw0 : IntKind.i64.wrap ((a : Int) + n) = (i : Int) := by rw [wrap_in (by omega) (by omega)]; omega
  have hw : IntKind.i64.wrap ((n : Int) + 1) = n + 1 := wrap_in (by omega) (by omega)
  by_cases h : i < l.length
  · obtain ⟨b, hb⟩ : ∃ b, l[i]? = some b := ⟨_, List.getElem?_eq_getElem h⟩
    have hb2 : (l.drop a)[n]? = some b := by rw [List.getElem?_drop, ← hi]; exact hb
    have hat := lat_eq hb
    simp [hw0, h, hat]
    refine hp b _ ?_
    cases hf : p b
    · simp [hf]
      refine aPost_same0 hB rfl (nilV_refl _) (by simp) (fin n (run_step p _ n hall (by rw [List.length_drop]; omega) (fun c hc => ?_)))
      rw [hb2] at hc; cases hc; exact hf
    · simp [hf, hw]
      exact Kloop_normal ⟨rfl, n + 1, by omega, by rw [all_step p (l.drop a) n b hb2, hall, hf]; rfl, fr_intro (by simp)⟩ (by simp; omega)
  · simp [hw0, h]
    refine aPost_same0 hB rfl (nilV_refl _) (by simp) (fin n (run_step p _ n hall (by rw [List.length_drop]; omega) (fun c hc => ?_)))
    rw [List.getElem?_drop] at hc
    have := (List.getElem?_eq_some_iff.1 hc).1
    omega
theorem value_pc (hE : SE E) (l : List UInt8) (hl : l.length ≤ 8388608) (hQ : Q (.tup [.str (valAns l).1, .int .i64 (valAns l).2.1, .bool (valAns l).2.2]) H) : PC Tryd.prog E 58 [.str l] H Q := by
  refine pc_enter Tryd.func58 rfl [] [] (by kernel_rfl) (fun hB => ?_)
  simp [Tryd.ntmps58, Tryd.results58, List.replicate_succ]
  refine run_pc E _ _ signB _ (fun b Q hQ => isSign_pc E _ Q hE b hQ) l 0 (by simp only [cap]; omega) (by omega) ?_
  rw [List.drop_zero]
  obtain ⟨n, hn⟩ : ∃ n, run signB l = n := ⟨_, rfl⟩
  have hnl := run_le signB l
  rw [hn] at hnl ⊢
  by_cases h0 : 0 < n
  · have hv : valAns l = (l.take n, (n : Int), true) := by unfold valAns pval; rw [hn, if_pos h0]
    rw [hv] at hQ
    simp [h0, hnl]
    exact aPost_same0 hB rfl (nilV_refl _) (by simp) hQ
  · simp [h0]
    refine unquote_pc E _ _ l (by omega) ?_
    cases hu : unquote l with
    | none =>
      have ha : unqAns l = ([], 0, 13) := by unfold unqAns; rw [hu]
      have hv : valAns l = ([], 0, false) := by unfold valAns pval; rw [hn, if_neg h0, hu]
      rw [hv] at hQ
      simp [ha]
      exact aPost_same0 hB rfl (nilV_refl _) (by simp) hQ
    | some p =>
      have ha : unqAns l = (p.1, (p.2 : Int), 0) := by unfold unqAns; rw [hu]
      have hv : valAns l = (p.1, (p.2 : Int), true) := by unfold valAns pval; rw [hn, if_neg h0, hu]
      rw [hv] at hQ
      simp [ha]
      exact aPost_same0 hB rfl (nilV_refl _) (by simp) hQ

def parsInv (l : List UInt8) (H : Hp) (fr : List AV) (H' : Hp) : Prop := ∃ (J : Hp) (e : Nat) (out : List Par), H' = H ++ J ∧ e ≤ l.length ∧ out.length ≤ e ∧ parsIs l out e ∧ ∃ x : Nat → AV, fr = [.str l, x 1, x 2, x 3, x 4, .sl true 3 (prs out), .int .i64 e, x 7, x 8, x 9, x 10, x 11, x 12, x 13, x 14, x 15, x 16, x 17, x 18, x 19, x 20, x 21, x 22, x 23, x 24, x 25, x 26, x 27, x 28, x 29, x 30, x 31, x 32, x 33, x 34, x 35, x 36, x 37, x 38, x 39, x 40, x 41, x 42, x 43, x 44, x 45, x 46, x 47, x 48, x 49, x 50, x 51, x 52, x 53, x 54, x 55, x 56, x 57, x 58, x 59, x 60, x 61, x 62, x 63, x 64, x 65, x 66, x 67, x 68, x 69, x 70, x 71, x 72, x 73, x 74, x 75, x 76, x 77, x 78, x 79, x 80, x 81, x 82, x 83]
theorem params_pc (hE : SE E) (l : List UInt8) (hl : l.length ≤ 8388608) (hQ : Q (.tup [.sl false 3 (prs (parAns l).1), .int .i64 (parAns l).2.1, .int .i64 (parAns l).2.2]) H) : PC Tryd.prog E 28 [.str l] H Q := by
  refine pc_enter Tryd.func28 rfl [80] [] (by kernel_rfl) (fun hB => ?_)
  simp [Tryd.ntmps28, Tryd.results28, List.replicate_succ]
  refine VL_nil 5 3 (by rfl) ?_
  simp only [List.set_cons_succ, List.set_cons_zero]
  refine VL_go (parsInv l H) (fun fr _ => l.length - (ai (aget fr 6)).toNat) ⟨[], 0, [], by simp, by omega, by simp, parsIs_start l, fr_intro (by simp [prs])⟩ ?_
  rintro fr H' ⟨J, e, out, rfl, he, hout, hp, x, rfl⟩
  have hcap : l.length ≤ cap := by simp only [cap]; omega
  have hm : out.length + 1 ≤ maxLen ∧ (out.length + 1) * 40 ≤ 140737488355328 := by unfold maxLen; omega
  obtain ⟨H1, hH1⟩ : ∃ H1, H ++ J = H1 := ⟨_, rfl⟩
  simp
  refine run_pc E _ _ blankB _ (fun b Q hQ => isBlank_pc E _ Q b hQ) l e hcap he ?_
  obtain ⟨b, hb⟩ : ∃ n, run blankB (l.drop e) = n := ⟨_, rfl⟩
  have hbl := run_le blankB (l.drop e)
  rw [List.length_drop] at hbl
  rw [hb] at hbl ⊢
  obtain ⟨a, ha⟩ : ∃ a, a = e + b := ⟨_, rfl⟩
  have hw1 : IntKind.i64.wrap ((e : Int) + b) = (a : Int) := by rw [wrap_in (by omega) (by omega)]; omega
  have hcase : l[a]? = some 59 ∨ l[a]? ≠ some 59 := by
    by_cases h : l[a]? = some 59
    · exact .inl h
    · exact .inr h
  rcases hcase with h59 | h59
  · have halt := (List.getElem?_eq_some_iff.1 h59).1
    have t1 : ((a : Int) == (l.length : Int)) = false := by simp; omega
    have hat := lat_eq h59
    obtain ⟨a1, ha1⟩ : ∃ a1, a1 = a + 1 := ⟨_, rfl⟩
    have hw2 : IntKind.i64.wrap ((a : Int) + 1) = (a1 : Int) := by rw [wrap_in (by omega) (by omega)]; omega
    simp [hw1, t1, hat, hw2]
    refine run_pc E _ _ blankB _ (fun b Q hQ => isBlank_pc E _ Q b hQ) l a1 hcap (by omega) ?_
    obtain ⟨m, hmm⟩ : ∃ n, run blankB (l.drop a1) = n := ⟨_, rfl⟩
    have hml := run_le blankB (l.drop a1)
    rw [List.length_drop] at hml
    rw [hmm] at hml ⊢
    obtain ⟨a2, ha2⟩ : ∃ a2, a2 = a1 + m := ⟨_, rfl⟩
    have hw3 : IntKind.i64.wrap ((a1 : Int) + m) = (a2 : Int) := by rw [wrap_in (by omega) (by omega)]; omega
    simp [hw3]
    refine run_pc E _ _ signB _ (fun b Q hQ => isSign_pc E _ Q hE b hQ) l a2 hcap (by omega) ?_
    obtain ⟨n, hn⟩ : ∃ n, run signB (l.drop a2) = n := ⟨_, rfl⟩
    have hnl := run_le signB (l.drop a2)
    rw [List.length_drop] at hnl
    rw [hn] at hnl ⊢
    obtain ⟨a3, ha3⟩ : ∃ a3, a3 = a2 + n := ⟨_, rfl⟩
    have hw4 : IntKind.i64.wrap ((a2 : Int) + n) = (a3 : Int) := by rw [wrap_in (by omega) (by omega)]; omega
    have x0 : l[e + b]? = some 59 := by rw [← ha]; exact h59
    have x1 : run blankB (l.drop (e + b + 1)) = m := by rw [← ha, ← ha1]; exact hmm
    have x2 : run signB (l.drop (e + b + 1 + m)) = n := by rw [← ha, ← ha1, ← ha2]; exact hn
    have ee : e + b + 1 + m + n = a3 := by omega
    by_cases hz : n = 0
    · have hsk := parsIs_skip hp hb x0 x1 x2 hz
      rw [show e + b + 1 = a1 by omega] at hsk
      have t2 : ((n : Int) == 0) = true := by simp [hz]
      simp [hz]
      exact Kloop_normal ⟨J, a1, out, rfl, by omega, by omega, hsk, fr_intro (by simp)⟩ (by simp; omega)
    · have t0 : ((n : Int) == 0) = false := by simp; omega
      have hnm : (l.drop a2).take (a3 - a2) = (l.drop a2).take n := by rw [show a3 - a2 = n by omega]
      have hle1 : a2 ≤ a3 := by omega
      have hle2 : a3 ≤ l.length := by omega
      by_cases h61 : l[a3]? = some 61
      · have h3 := (List.getElem?_eq_some_iff.1 h61).1
        have hat2 := lat_eq h61
        obtain ⟨a4, ha4⟩ : ∃ a4, a4 = a3 + 1 := ⟨_, rfl⟩
        have hw5 : IntKind.i64.wrap ((a3 : Int) + 1) = (a4 : Int) := by rw [wrap_in (by omega) (by omega)]; omega
        have hd : (l.drop a4).take (l.length - a4) = l.drop a4 := List.take_of_length_le (by rw [List.length_drop]; omega)
        have ha4l : a4 ≤ l.length := by omega
        simp [t0, hw4, hle1, hle2, hnm, h3, hat2, hw5, ha4l, hd]
        refine value_pc E _ _ hE (l.drop a4) (by rw [List.length_drop]; omega) ?_
        cases hv : pval signB (l.drop a4) with
        | none =>
          have hva : valAns (l.drop a4) = ([], 0, false) := by unfold valAns; rw [hv]
          have hbad := parsIs_bad hp hb x0 x1 x2 hz (by rw [ee]; exact h61) (by rw [ee, ← ha4]; exact hv)
          rw [hbad] at hQ
          simp [hva]
          exact aPost_same hB rfl (nilV_tup3 3 _ _ rfl rfl) (by simp) hQ
        | some q =>
          obtain ⟨y, k⟩ := q
          have hva : valAns (l.drop a4) = (y, (k : Int), true) := by unfold valAns; rw [hv]
          have hk := pval_le hv
          rw [List.length_drop] at hk
          have hvv := parsIs_value hp hb x0 x1 x2 hz (by rw [ee]; exact h61) (x := y) (k := k) (by rw [ee, ← ha4]; exact hv)
          obtain ⟨a5, ha5⟩ : ∃ a5, a5 = a3 + 1 + k := ⟨_, rfl⟩
          have hw6 : IntKind.i64.wrap (1 + (k : Int)) = 1 + k := wrap_in (by omega) (by omega)
          have hw7 : IntKind.i64.wrap ((a3 : Int) + (1 + k)) = (a5 : Int) := by rw [wrap_in (by omega) (by omega)]; omega
          rw [show e + b + 1 + m = a2 by omega, show a2 + n + 1 + k = a5 by omega] at hvv
          simp [hva, hw6, hw7, hm]
          exact Kloop_normal ⟨J ++ [[.str ((l.drop a2).take n), .str y, .bool true]], a5, _, by simp, by omega, by simp; omega, hvv, fr_intro (by simp [prs, parRow])⟩ (by simp; omega)
      · have hpl := parsIs_plain hp hb x0 x1 x2 hz (by rw [ee]; exact h61)
        rw [show e + b + 1 + m = a2 by omega, show a2 + n = a3 by omega] at hpl
        have hcase : a3 = l.length ∨ (a3 < l.length ∧ ∃ c, l[a3]? = some c ∧ c.toNat ≠ 61) := by
          by_cases h : a3 < l.length
          · obtain ⟨c, hc⟩ : ∃ b, l[a3]? = some b := ⟨_, List.getElem?_eq_getElem h⟩
            exact .inr ⟨h, c, hc, fun hh => h61 (by rw [hc, UInt8.toNat_inj.1 (show c.toNat = (61 : UInt8).toNat from hh)])⟩
          · exact .inl (by omega)
        rcases hcase with hE3 | ⟨h, c, hc, hcn⟩
        · have hnl3 : ¬ a3 < l.length := by omega
          simp [t0, hw4, hle1, hle2, hnm, hnl3, hm]
          exact Kloop_normal ⟨J ++ [[.str ((l.drop a2).take n), .str [], .bool false]], a3, _, by simp, by omega, by simp; omega, hpl, fr_intro (by simp [prs, parRow])⟩ (by simp; omega)
        · have t2 : ((c.toNat : Int) == 61) = false := by simp; omega
          have hat2 := lat_eq hc
          simp [t0, hw4, hle1, hle2, hnm, h, hat2, t2, hm]
          exact Kloop_normal ⟨J ++ [[.str ((l.drop a2).take n), .str [], .bool false]], a3, _, by simp, by omega, by simp; omega, hpl, fr_intro (by simp [prs, parRow])⟩ (by simp; omega)
  · have hans := parsIs_end hp hb (by rw [← ha]; exact h59)
    rw [hans] at hQ
    have hcase : a = l.length ∨ (a < l.length ∧ ∃ c, l[a]? = some c ∧ c.toNat ≠ 59) := by
      by_cases h : a < l.length
      · obtain ⟨c, hc⟩ : ∃ b, l[a]? = some b := ⟨_, List.getElem?_eq_getElem h⟩
        exact .inr ⟨h, c, hc, fun hh => h59 (by rw [hc, UInt8.toNat_inj.1 (show c.toNat = (59 : UInt8).toNat from hh)])⟩
      · exact .inl (by omega)
    rcases hcase with rfl | ⟨h, c, hc, hcn⟩
    · have t1 : ((l.length : Int) == (l.length : Int)) = true := by simp
      simp [hw1]
      exact aPost_same hB rfl (nilV_refl _) (by simp) hQ
    · have t1 : ((a : Int) == (l.length : Int)) = false := by simp; omega
      have t2 : ((c.toNat : Int) != 59) = true := by simp; omega
      have hat := lat_eq hc
      simp [hw1, t1, hat, t2]
      exact aPost_same hB rfl (nilV_refl _) (by simp) hQ
end
end Go.Proofs.YtjphdipbajfojaaDoor

set_option linter.unusedVariables false
set_option linter.unusedSimpArgs false
set_option linter.unusedSectionVars false
set_option maxRecDepth 100000
namespace Go.Proofs.YtjphdipbajfojaaDoor
open Go Go.RowKit

section
variable (E : Env) (H : Hp) (Q : AV → Hp → Prop)
def refRunInv (p : UInt8 → Bool) (l : List UInt8) (a : Nat) (H : Hp) (fr : List AV) (H' : Hp) : Prop := H' = H ∧ ∃ n : Nat, a + n ≤ l.length ∧ ((l.drop a).take n).all p = true ∧ ∃ x : Nat → AV, fr = [.str l, .int .i64 a, x 2, x 3, x 4, .int .i64 n, x 6, x 7, x 8, x 9, x 10, x 11, x 12, x 13, x 14, x 15, x 16, x 17, x 18, x 19, x 20, x 21, x 22]
theorem ref_blanks_pc (l : List UInt8) (a : Nat) (hl : l.length ≤ cap) (ha : a ≤ l.length) (hQ : Q (.int .i64 (run blankB (l.drop a) : Nat)) H) : PC Tryd.prog E 59 [.str l, .int .i64 a] H Q := by
  simp only [cap] at hl
  refine pc_enter Tryd.func59 rfl [] [] (by kernel_rfl) (fun hB => ?_)
  have fin : ∀ n : Nat, run blankB (l.drop a) = n → Q (.int .i64 n) H := fun n hn => hn ▸ hQ
  simp [Tryd.ntmps59, Tryd.results59, List.replicate_succ]
  refine VL_go (refRunInv blankB l a H) (fun fr _ => l.length - (ai (aget fr 5)).toNat) ⟨rfl, 0, by omega, rfl, fr_intro (by simp)⟩ ?_
  rintro fr H' ⟨rfl, n, hn, hall, x, rfl⟩
  obtain ⟨i, hi⟩ : ∃ i, i = a + n := ⟨_, rfl⟩
  have hw0 : IntKind.i64.wrap ((a : Int) + n) = (i : Int) := by rw [wrap_in (by omega) (by omega)]; omega
  have hw : IntKind.i64.wrap ((n : Int) + 1) = n + 1 := wrap_in (by omega) (by omega)
  by_cases h : i < l.length
  · obtain ⟨b, hb⟩ : ∃ b, l[i]? = some b := ⟨_, List.getElem?_eq_getElem h⟩
    have hb2 : (l.drop a)[n]? = some b := by rw [List.getElem?_drop, ← hi]; exact hb
    have hat := lat_eq hb
    simp [hw0, h, hat]
    refine ref_blank_pc E _ _ b ?_
    cases hf : blankB b
    · simp [hf]
      refine aPost_same0 hB rfl (nilV_refl _) (by simp) (fin n (run_step blankB _ n hall (by rw [List.length_drop]; omega) (fun c hc => ?_)))
      rw [hb2] at hc; cases hc; exact hf
    · simp [hf, hw]
      exact Kloop_normal ⟨rfl, n + 1, by omega, by rw [all_step blankB (l.drop a) n b hb2, hall, hf]; rfl, fr_intro (by simp)⟩ (by simp; omega)
  · simp [hw0, h]
    refine aPost_same0 hB rfl (nilV_refl _) (by simp) (fin n (run_step blankB _ n hall (by rw [List.length_drop]; omega) (fun c hc => ?_)))
    rw [List.getElem?_drop] at hc
    have := (List.getElem?_eq_some_iff.1 hc).1
    omega
theorem ref_signs_pc (l : List UInt8) (a : Nat) (hl : l.length ≤ cap) (ha : a ≤ l.length) (hQ : Q (.int .i64 (run signB (l.drop a) : Nat)) H) : PC Tryd.prog E 60 [.str l, .int .i64 a] H Q := by
  simp only [cap] at hl
  refine pc_enter Tryd.func60 rfl [] [] (by kernel_rfl) (fun hB => ?_)
  have fin : ∀ n : Nat, run signB (l.drop a) = n → Q (.int .i64 n) H := fun n hn => hn ▸ hQ
  simp [Tryd.ntmps60, Tryd.results60, List.replicate_succ]
  refine VL_go (refRunInv signB l a H) (fun fr _ => l.length - (ai (aget fr 5)).toNat) ⟨rfl, 0, by omega, rfl, fr_intro (by simp)⟩ ?_
  rintro fr H' ⟨rfl, n, hn, hall, x, rfl⟩
  obtain ⟨i, hi⟩ : ∃ i, i = a + n := ⟨_, rfl⟩
  have hw0 : IntKind.i64.wrap ((a : Int) + n) = (i : Int) := by rw [wrap_in (by omega) (by omega)]; omega
  have hw : IntKind.i64.wrap ((n : Int) + 1) = n + 1 := wrap_in (by omega) (by omega)
  by_cases h : i < l.length
  · obtain ⟨b, hb⟩ : ∃ b, l[i]? = some b := ⟨_, List.getElem?_eq_getElem h⟩
    have hb2 : (l.drop a)[n]? = some b := by rw [List.getElem?_drop, ← hi]; exact hb
    have hat := lat_eq hb
    simp [hw0, h, hat]
    refine ref_sign_pc E _ _ b ?_
    cases hf : signB b
    · simp [hf]
      refine aPost_same0 hB rfl (nilV_refl _) (by simp) (fin n (run_step signB _ n hall (by rw [List.length_drop]; omega) (fun c hc => ?_)))
      rw [hb2] at hc; cases hc; exact hf
    · simp [hf, hw]
      exact Kloop_normal ⟨rfl, n + 1, by omega, by rw [all_step signB (l.drop a) n b hb2, hall, hf]; rfl, fr_intro (by simp)⟩ (by simp; omega)
  · simp [hw0, h]
    refine aPost_same0 hB rfl (nilV_refl _) (by simp) (fin n (run_step signB _ n hall (by rw [List.length_drop]; omega) (fun c hc => ?_)))
    rw [List.getElem?_drop] at hc
    have := (List.getElem?_eq_some_iff.1 hc).1
    omega

def refParsInv (l : List UInt8) (H : Hp) (fr : List AV) (H' : Hp) : Prop := ∃ (J : Hp) (e : Nat) (out : List Par), H' = H ++ J ∧ e ≤ l.length ∧ out.length ≤ e ∧ parsIs l out e ∧ ∃ x : Nat → AV, fr = [.str l, x 1, x 2, x 3, x 4, .sl true 3 (prs out), .int .i64 e, x 7, x 8, x 9, x 10, x 11, x 12, x 13, x 14, x 15, x 16, x 17, x 18, x 19, x 20, x 21, x 22, x 23, x 24, x 25, x 26, x 27, x 28, x 29, x 30, x 31, x 32, x 33, x 34, x 35, x 36, x 37, x 38, x 39, x 40, x 41, x 42, x 43, x 44, x 45, x 46, x 47, x 48, x 49, x 50, x 51, x 52, x 53, x 54, x 55, x 56, x 57, x 58, x 59, x 60, x 61, x 62, x 63, x 64, x 65, x 66, x 67, x 68, x 69, x 70, x 71, x 72, x 73, x 74, x 75, x 76, x 77, x 78, x 79, x 80, x 81, x 82, x 83, x 84, x 85, x 86, x 87, x 88, x 89, x 90, x 91, x 92, x 93, x 94, x 95, x 96, x 97, x 98, x 99]
set_option maxHeartbeats 2000000 in
theorem ref_params_pc (l : List UInt8) (hl : l.length ≤ 8388608) (hQ : Q (.tup [.sl false 3 (prs (parAns l).1), .int .i64 (parAns l).2.1, .int .i64 (parAns l).2.2]) H) : PC Tryd.prog E 29 [.str l] H Q := by
  refine pc_enter Tryd.func29 rfl [95] [] (by kernel_rfl) (fun hB => ?_)
  simp [Tryd.ntmps29, Tryd.results29, List.replicate_succ]
  refine VL_go (refParsInv l H) (fun fr _ => l.length - (ai (aget fr 6)).toNat) ⟨[], 0, [], by simp, by omega, by simp, parsIs_start l, fr_intro (by simp [prs])⟩ ?_
  rintro fr H' ⟨J, e, out, rfl, he, hout, hp, x, rfl⟩
  have hcap : l.length ≤ cap := by simp only [cap]; omega
  have hm : out.length + 1 ≤ maxLen ∧ (out.length + 1) * 40 ≤ 140737488355328 := by unfold maxLen; omega
  simp
  refine ref_blanks_pc E _ _ l e hcap he ?_
  obtain ⟨b, hb⟩ : ∃ n, run blankB (l.drop e) = n := ⟨_, rfl⟩
  have hbl := run_le blankB (l.drop e)
  rw [List.length_drop] at hbl
  rw [hb] at hbl ⊢
  obtain ⟨a, ha⟩ : ∃ a, a = e + b := ⟨_, rfl⟩
  have hw1 : IntKind.i64.wrap ((e : Int) + b) = (a : Int) := by rw [wrap_in (by omega) (by omega)]; omega
  have hcase : l[a]? = some 59 ∨ l[a]? ≠ some 59 := by
    by_cases h : l[a]? = some 59
    · exact .inl h
    · exact .inr h
  rcases hcase with h59 | h59
  · have halt := (List.getElem?_eq_some_iff.1 h59).1
    have t1 : ¬ (l.length : Int) ≤ (a : Int) := by omega
    have t1' : ¬ l.length ≤ a := by omega
    have hat := lat_eq h59
    obtain ⟨a1, ha1⟩ : ∃ a1, a1 = a + 1 := ⟨_, rfl⟩
    have hw2 : IntKind.i64.wrap ((a : Int) + 1) = (a1 : Int) := by rw [wrap_in (by omega) (by omega)]; omega
    simp [hw1, t1', hat, hw2]
    refine ref_blanks_pc E _ _ l a1 hcap (by omega) ?_
    obtain ⟨m, hmm⟩ : ∃ n, run blankB (l.drop a1) = n := ⟨_, rfl⟩
    have hml := run_le blankB (l.drop a1)
    rw [List.length_drop] at hml
    rw [hmm] at hml ⊢
    obtain ⟨a2, ha2⟩ : ∃ a2, a2 = a1 + m := ⟨_, rfl⟩
    have hw3 : IntKind.i64.wrap ((a1 : Int) + m) = (a2 : Int) := by rw [wrap_in (by omega) (by omega)]; omega
    simp [hw3]
    refine ref_signs_pc E _ _ l a2 hcap (by omega) ?_
    obtain ⟨n, hn⟩ : ∃ n, run signB (l.drop a2) = n := ⟨_, rfl⟩
    have hnl := run_le signB (l.drop a2)
    rw [List.length_drop] at hnl
    rw [hn] at hnl ⊢
    obtain ⟨a3, ha3⟩ : ∃ a3, a3 = a2 + n := ⟨_, rfl⟩
    have hw4 : IntKind.i64.wrap ((a2 : Int) + n) = (a3 : Int) := by rw [wrap_in (by omega) (by omega)]; omega
    have x0 : l[e + b]? = some 59 := by rw [← ha]; exact h59
    have x1 : run blankB (l.drop (e + b + 1)) = m := by rw [← ha, ← ha1]; exact hmm
    have x2 : run signB (l.drop (e + b + 1 + m)) = n := by rw [← ha, ← ha1, ← ha2]; exact hn
    have ee : e + b + 1 + m + n = a3 := by omega
    by_cases hz : n = 0
    · have hsk := parsIs_skip hp hb x0 x1 x2 hz
      rw [show e + b + 1 = a1 by omega] at hsk
      have t2 : ((n : Int) == 0) = true := by simp [hz]
      simp [hz]
      exact Kloop_normal ⟨J, a1, out, rfl, by omega, by omega, hsk, fr_intro (by simp)⟩ (by simp; omega)
    · have t0 : ((n : Int) == 0) = false := by simp; omega
      have hnm : (l.drop a2).take (a3 - a2) = (l.drop a2).take n := by rw [show a3 - a2 = n by omega]
      have hle1 : a2 ≤ a3 := by omega
      have hle2 : a3 ≤ l.length := by omega
      by_cases h61 : l[a3]? = some 61
      · have h3 := (List.getElem?_eq_some_iff.1 h61).1
        have hat2 := lat_eq h61
        obtain ⟨a4, ha4⟩ : ∃ a4, a4 = a3 + 1 := ⟨_, rfl⟩
        have hw5 : IntKind.i64.wrap ((a3 : Int) + 1) = (a4 : Int) := by rw [wrap_in (by omega) (by omega)]; omega
        have hd : (l.drop a4).take (l.length - a4) = l.drop a4 := List.take_of_length_le (by rw [List.length_drop]; omega)
        have ha4l : a4 ≤ l.length := by omega
        simp [t0, hw4, hle1, hle2, hnm, h3, hat2, hw5]
        refine ref_signs_pc E _ _ l a4 hcap ha4l ?_
        obtain ⟨k0, hk0⟩ : ∃ n, run signB (l.drop a4) = n := ⟨_, rfl⟩
        have hkl := run_le signB (l.drop a4)
        rw [List.length_drop] at hkl
        rw [hk0] at hkl ⊢
        obtain ⟨a5, ha5⟩ : ∃ a5, a5 = a4 + k0 := ⟨_, rfl⟩
        have hw6 : IntKind.i64.wrap ((a4 : Int) + k0) = (a5 : Int) := by rw [wrap_in (by omega) (by omega)]; omega
        have hle5 : a4 ≤ a5 := by omega
        have hle6 : a5 ≤ l.length := by omega
        have hnm5 : (l.drop a4).take (a5 - a4) = (l.drop a4).take k0 := by rw [show a5 - a4 = k0 by omega]
        by_cases hk : k0 = 0
        · have tk : ((k0 : Int) == 0) = true := by simp [hk]
          have hpv : pval signB (l.drop a4) = unquote (l.drop a4) := by unfold pval; rw [hk0, if_neg (by omega)]
          simp [hw6, hle5, hle6, hnm5, tk, ha4l, hd]
          refine ref_unquote_pc E _ _ (l.drop a4) (by rw [List.length_drop]; omega) ?_
          cases hv : unquote (l.drop a4) with
          | none =>
            have hva : unqAns (l.drop a4) = ([], 0, 13) := by unfold unqAns; rw [hv]
            have hbad := parsIs_bad hp hb x0 x1 x2 hz (by rw [ee]; exact h61) (by rw [ee, ← ha4, hpv]; exact hv)
            rw [hbad] at hQ
            simp [hva]
            exact aPost_same hB rfl (nilV_refl _) (by simp) hQ
          | some q =>
            obtain ⟨y, k⟩ := q
            have hva : unqAns (l.drop a4) = (y, (k : Int), 0) := by unfold unqAns; rw [hv]
            have hk2 := unquote_le hv
            rw [List.length_drop] at hk2
            have hvv := parsIs_value hp hb x0 x1 x2 hz (by rw [ee]; exact h61) (x := y) (k := k) (by rw [ee, ← ha4, hpv]; exact hv)
            obtain ⟨a6, ha6⟩ : ∃ a6, a6 = a3 + 1 + k := ⟨_, rfl⟩
            have hw7 : IntKind.i64.wrap ((a4 : Int) + k) = (a6 : Int) := by rw [wrap_in (by omega) (by omega)]; omega
            rw [show e + b + 1 + m = a2 by omega, show a2 + n + 1 + k = a6 by omega] at hvv
            simp [hva, hw7, hm]
            exact Kloop_normal ⟨J ++ [[.str ((l.drop a2).take n), .str y, .bool true]], a6, _, by simp, by omega, by simp; omega, hvv, fr_intro (by simp [prs, parRow])⟩ (by simp; omega)
        · have tk : ((k0 : Int) == 0) = false := by simp; omega
          have hpv : pval signB (l.drop a4) = some ((l.drop a4).take k0, k0) := by unfold pval; rw [hk0, if_pos (by omega)]
          have hvv := parsIs_value hp hb x0 x1 x2 hz (by rw [ee]; exact h61) (x := (l.drop a4).take k0) (k := k0) (by rw [ee, ← ha4]; exact hpv)
          rw [show e + b + 1 + m = a2 by omega, show a2 + n + 1 + k0 = a5 by omega] at hvv
          simp [hw6, hle5, hle6, hnm5, tk, hm]
          exact Kloop_normal ⟨J ++ [[.str ((l.drop a2).take n), .str ((l.drop a4).take k0), .bool true]], a5, _, by simp, by omega, by simp; omega, hvv, fr_intro (by simp [prs, parRow])⟩ (by simp; omega)
      · have hpl := parsIs_plain hp hb x0 x1 x2 hz (by rw [ee]; exact h61)
        rw [show e + b + 1 + m = a2 by omega, show a2 + n = a3 by omega] at hpl
        have hcase : a3 = l.length ∨ (a3 < l.length ∧ ∃ c, l[a3]? = some c ∧ c.toNat ≠ 61) := by
          by_cases h : a3 < l.length
          · obtain ⟨c, hc⟩ : ∃ b, l[a3]? = some b := ⟨_, List.getElem?_eq_getElem h⟩
            exact .inr ⟨h, c, hc, fun hh => h61 (by rw [hc, UInt8.toNat_inj.1 (show c.toNat = (61 : UInt8).toNat from hh)])⟩
          · exact .inl (by omega)
        rcases hcase with hE3 | ⟨h, c, hc, hcn⟩
        · have hnl3 : ¬ a3 < l.length := by omega
          simp [t0, hw4, hle1, hle2, hnm, hnl3, hm]
          exact Kloop_normal ⟨J ++ [[.str ((l.drop a2).take n), .str [], .bool false]], a3, _, by simp, by omega, by simp; omega, hpl, fr_intro (by simp [prs, parRow])⟩ (by simp; omega)
        · have t2 : ((c.toNat : Int) == 61) = false := by simp; omega
          have hat2 := lat_eq hc
          simp [t0, hw4, hle1, hle2, hnm, h, hat2, t2, hm]
          exact Kloop_normal ⟨J ++ [[.str ((l.drop a2).take n), .str [], .bool false]], a3, _, by simp, by omega, by simp; omega, hpl, fr_intro (by simp [prs, parRow])⟩ (by simp; omega)
  · have hans := parsIs_end hp hb (by rw [← ha]; exact h59)
    rw [hans] at hQ
    have hcase : a = l.length ∨ (a < l.length ∧ ∃ c, l[a]? = some c ∧ c.toNat ≠ 59) := by
      by_cases h : a < l.length
      · obtain ⟨c, hc⟩ : ∃ b, l[a]? = some b := ⟨_, List.getElem?_eq_getElem h⟩
        exact .inr ⟨h, c, hc, fun hh => h59 (by rw [hc, UInt8.toNat_inj.1 (show c.toNat = (59 : UInt8).toNat from hh)])⟩
      · exact .inl (by omega)
    rcases hcase with rfl | ⟨h, c, hc, hcn⟩
    · simp [hw1]
      exact aPost_same hB rfl (nilV_refl _) (by simp) hQ
    · have t1 : ¬ l.length ≤ a := by omega
      have t2 : ((c.toNat : Int) != 59) = true := by simp; omega
      have hat := lat_eq hc
      simp [hw1, t1, hat, t2]
      exact aPost_same hB rfl (nilV_refl _) (by simp) hQ

def alikeInv (a b : List Par) (H : Hp) (fr : List AV) (H' : Hp) : Prop := H' = H ∧ ∃ i : Nat, i ≤ a.length ∧ a.take i = b.take i ∧ ∃ x : Nat → AV, fr = [.sl false 3 (prs a), .sl false 3 (prs b), x 2, x 3, x 4, .int .i64 i, x 6, x 7, x 8, x 9, x 10, x 11, x 12, x 13, x 14, x 15, x 16, x 17, x 18, x 19, x 20, x 21, x 22, x 23, x 24, x 25, x 26, x 27, x 28, x 29, x 30, x 31, x 32, x 33, x 34, x 35, x 36, x 37, x 38, x 39, x 40, x 41, x 42, x 43, x 44, x 45, x 46, x 47, x 48, x 49, x 50, x 51, x 52, x 53]
theorem alike_pc (a b : List Par) (ha : a.length ≤ cap) (hQ : Q (.bool (decide (a = b))) H) : PC Tryd.prog E 30 [.sl false 3 (prs a), .sl false 3 (prs b)] H Q := by
  simp only [cap] at ha
  refine pc_enter Tryd.func30 rfl [] [] (by kernel_rfl) (fun hB => ?_)
  have fin : ∀ c : Bool, decide (a = b) = c → Q (.bool c) H := fun c hc => hc ▸ hQ
  by_cases hl : a.length = b.length
  · have t1 : ((a.length : Int) != (b.length : Int)) = false := by simp; omega
    simp [Tryd.ntmps30, Tryd.results30, List.replicate_succ, t1]
    refine VL_go (alikeInv a b H) (fun fr _ => a.length - (ai (aget fr 5)).toNat) ⟨rfl, 0, by omega, rfl, fr_intro (by simp)⟩ ?_
    rintro fr H' ⟨rfl, i, hi, hab, x, rfl⟩
    by_cases h : i < a.length
    · obtain ⟨u, hu⟩ : ∃ u, a[i]? = some u := ⟨_, List.getElem?_eq_getElem h⟩
      obtain ⟨v, hv⟩ : ∃ u, b[i]? = some u := ⟨_, List.getElem?_eq_getElem (by omega)⟩
      have hat1 := prs_at hu
      have hat2 := prs_at hv
      have hw : IntKind.i64.wrap ((i : Int) + 1) = i + 1 := wrap_in (by omega) (by omega)
      obtain ⟨n1, v1, h1⟩ := u
      obtain ⟨n2, v2, h2⟩ := v
      simp only at hat1 hat2
      by_cases hn : n1 = n2
      · have s1 : (n1 != n2) = false := by simp [hn]
        by_cases hvv : v1 = v2
        · have s2 : (v1 != v2) = false := by simp [hvv]
          by_cases hh : h1 = h2
          · have s3 : (h1 != h2) = false := by simp [hh]
            simp [h, hat1, hat2, s1, s2, s3, hw]
            refine Kloop_normal ⟨rfl, i + 1, by omega, ?_, fr_intro (by simp)⟩ (by simp; omega)
            rw [List.take_add_one, List.take_add_one, hab, hu, hv, hn, hvv, hh]
          · have s3 : (h1 != h2) = true := by simpa using hh
            simp [h, hat1, hat2, s1, s2, s3]
            refine aPost_same0 hB rfl (nilV_refl _) (by simp) (fin false (decide_eq_false fun e => hh ?_))
            rw [e, hv] at hu; cases hu; rfl
        · have s2 : (v1 != v2) = true := by simpa using hvv
          simp [h, hat1, hat2, s1, s2]
          refine aPost_same0 hB rfl (nilV_refl _) (by simp) (fin false (decide_eq_false fun e => hvv ?_))
          rw [e, hv] at hu; cases hu; rfl
      · have s1 : (n1 != n2) = true := by simpa using hn
        simp [h, hat1, hat2, s1]
        refine aPost_same0 hB rfl (nilV_refl _) (by simp) (fin false (decide_eq_false fun e => hn ?_))
        rw [e, hv] at hu; cases hu; rfl
    · simp [h]
      refine aPost_same0 hB rfl (nilV_refl _) (by simp) (fin true (decide_eq_true ?_))
      rw [List.take_of_length_le (by omega), List.take_of_length_le (by omega)] at hab
      exact hab
  · have t1 : ((a.length : Int) != (b.length : Int)) = true := by simp; omega
    simp [Tryd.ntmps30, Tryd.results30, List.replicate_succ, t1]
    exact aPost_same0 hB rfl (nilV_refl _) (by simp) (fin false (decide_eq_false fun e => hl (by rw [e])))

theorem params_pc_len {s : List UInt8} {l : List Par} {k : Nat} : ∀ (n : Nat) (s : List UInt8) (l : List Par) (k : Nat), s.length ≤ n → pars signB s = some (l, k) → l.length ≤ s.length := by
  intro n
  induction n with
  | zero =>
    intro s l k hn h
    have : s = [] := List.length_eq_zero_iff.1 (by omega)
    subst this
    rw [pars_end signB [] (by simp)] at h
    cases h; simp
  | succ n ih =>
    intro s l k hn h
    by_cases h0 : s[run blankB s]? = some 59
    · have hlt := (List.getElem?_eq_some_iff.1 h0).1
      obtain ⟨m, hm⟩ : ∃ m, run blankB (s.drop (run blankB s + 1)) = m := ⟨_, rfl⟩
      obtain ⟨j, hj⟩ : ∃ j, run signB (s.drop (run blankB s + 1 + m)) = j := ⟨_, rfl⟩
      have hjl := run_le signB (s.drop (run blankB s + 1 + m))
      rw [hj, List.length_drop] at hjl
      by_cases hz : j = 0
      · rw [pars_skip signB s _ m j rfl h0 hm hj hz] at h
        cases hp : pars signB (s.drop (run blankB s + 1)) with
        | none => rw [hp] at h; cases h
        | some p =>
          rw [hp] at h; simp at h
          obtain ⟨rfl, _⟩ := h
          have := ih _ p.1 p.2 (by rw [List.length_drop]; omega) hp
          rw [List.length_drop] at this; omega
      · by_cases h1 : s[run blankB s + 1 + m + j]? = some 61
        · have h1l := (List.getElem?_eq_some_iff.1 h1).1
          cases hv : pval signB (s.drop (run blankB s + 1 + m + j + 1)) with
          | none => rw [pars_bad signB s _ m j rfl h0 hm hj hz h1 hv] at h; cases h
          | some q =>
            rw [pars_value signB s _ m j rfl h0 hm hj hz h1 (x := q.1) (k := q.2) hv] at h
            cases hp : pars signB (s.drop (run blankB s + 1 + m + j + 1 + q.2)) with
            | none => rw [hp] at h; cases h
            | some p =>
              rw [hp] at h; simp at h
              obtain ⟨rfl, _⟩ := h
              have := ih _ p.1 p.2 (by rw [List.length_drop]; omega) hp
              rw [List.length_drop] at this; simp; omega
        · rw [pars_plain signB s _ m j rfl h0 hm hj hz h1] at h
          cases hp : pars signB (s.drop (run blankB s + 1 + m + j)) with
          | none => rw [hp] at h; cases h
          | some p =>
            rw [hp] at h; simp at h
            obtain ⟨rfl, _⟩ := h
            have := ih _ p.1 p.2 (by rw [List.length_drop]; omega) hp
            rw [List.length_drop] at this; simp; omega
    · rw [pars_end signB s h0] at h
      cases h; simp
theorem parAns_len (l : List UInt8) : (parAns l).1.length ≤ l.length := by
  unfold parAns
  cases h : pars signB l with
  | none => simp
  | some p => exact params_pc_len (s := l) (l := p.1) (k := p.2) _ l p.1 p.2 (Nat.le_refl _) h
end
end Go.Proofs.YtjphdipbajfojaaDoor

set_option linter.unusedVariables false
set_option linter.unusedSimpArgs false
set_option linter.unusedSectionVars false
set_option maxRecDepth 100000
namespace Go.Proofs.YtjphdipbajfojaaDoor
open Go Go.RowKit

section
variable (E : Env) (H : Hp) (Q : AV → Hp → Prop)
end
end Go.Proofs.YtjphdipbajfojaaDoor

set_option linter.unusedVariables false
set_option linter.unnecessarySimpa false
set_option linter.unusedSimpArgs false
set_option linter.unusedSectionVars false
set_option maxRecDepth 100000
namespace Go.Proofs.YtjphdipbajfojaaDoor
open Go Go.RowKit

theorem strs_row (l : List (List UInt8)) : ∀ r ∈ strs l, r.length = 1 := fun r hr => by obtain ⟨b, _, rfl⟩ := List.mem_map.1 hr; rfl
theorem prs_row (l : List Par) : ∀ r ∈ prs l, r.length = 3 := fun r hr => by obtain ⟨b, _, rfl⟩ := List.mem_map.1 hr; rfl
theorem strs_free (l : List (List UInt8)) : ∀ r ∈ strs l, ∀ x ∈ r, x.free = true := fun r hr x hx => by
  obtain ⟨b, _, rfl⟩ := List.mem_map.1 hr
  simp at hx; subst hx; rfl
theorem prs_free (l : List Par) : ∀ r ∈ prs l, ∀ x ∈ r, x.free = true := fun r hr x hx => by
  obtain ⟨b, _, rfl⟩ := List.mem_map.1 hr
  simp [parRow] at hx
  rcases hx with rfl | rfl | rfl <;> rfl
section
variable (E : Env) (H : Hp) (Q : AV → Hp → Prop)
def listInvB (ps : List (List UInt8)) (H : Hp) (fr : List AV) (K : Hp) : Prop := ∃ (i : Nat) (own : Bool) (v : AV), i ≤ ps.length ∧ BR K H.length 1 v (strs (keepB (ps.take i))) ∧ Kpt H K ∧ BndH K.length K ∧ ∃ x : Nat → AV, fr = [x 0, x 1, x 2, x 3, x 4, x 5, x 6, x 7, x 8, x 9, v, x 11, x 12, x 13, x 14, x 15, x 16, x 17, x 18, x 19, x 20, x 21, x 22, x 23, x 24, x 25, x 26, x 27, x 28, x 29, x 30, x 31, x 32, x 33, x 34, x 35, x 36, x 37, x 38, x 39, x 40, x 41, x 42, x 43, x 44, x 45, x 46, x 47, x 48, x 49, x 50, x 51, x 52, x 53, x 54, x 55, x 56, x 57, .sl own 1 (strs ps), .int .i64 ps.length, .int .i64 i, x 61, x 62, x 63, x 64, x 65, x 66, x 67, x 68, x 69, x 70, x 71, x 72, x 73]
theorem list_bx (l : List UInt8) (hl : l.length ≤ 4194304) (hQ : ∀ K v, BR K H.length 1 v (strs (listAns l).1) → Kpt H K → BndH K.length K → Q (.tup [v, .int .i64 (listAns l).2]) K) : PC Tryd.prog E 42 [.str l] H Q := by
  refine pc_enter Tryd.func42 rfl [43, 53] [(20, [0, 0, 0, 3])] (by kernel_rfl) (fun hB => ?_)
  simp [Tryd.ntmps42, Tryd.results42, List.replicate_succ]
  refine VL_nil 4 1 (by rfl) ?_
  simp only [List.set_cons_succ, List.set_cons_zero]
  refine VL_go (listInv1 l H) (fun fr _ => l.length - (ai (aget fr 6)).toNat) ⟨rfl, 0, 0, [], by omega, by omega, by simp, cutIs_start l, fr_intro (by simp [strs])⟩ ?_
  rintro fr H' ⟨rfl, f, i, out, hf, hi, hout, hc, x, rfl⟩
  have hm : out.length + 1 ≤ maxLen ∧ (out.length + 1) * 16 ≤ 140737488355328 := by unfold maxLen; omega
  by_cases h : i < l.length
  · have t1 : ((i : Int) == (l.length : Int)) = false := by simp; omega
    have hw : IntKind.i64.wrap ((i : Int) + 1) = i + 1 := wrap_in (by omega) (by omega)
    obtain ⟨b, hb⟩ : ∃ b, l[i]? = some b := ⟨_, List.getElem?_eq_getElem h⟩
    have hat := lat_eq hb
    have hbn := b.toNat_lt
    by_cases b34 : b.toNat = 34
    · have hx34 : b = 34 := UInt8.toNat_inj.1 b34
      have hb' : l[i]? = some 34 := by rw [hb, hx34]
      have t2 : ((b.toNat : Int) == 34) = true := by simp; omega
      have hd : (l.drop i).take (l.length - i) = l.drop i := List.take_of_length_le (by rw [List.length_drop]; omega)
      simp [t1, hat, t2, hd, hi]
      refine unquote_pc E _ _ (l.drop i) (by rw [List.length_drop]; omega) ?_
      cases hu : unquote (l.drop i) with
      | none =>
        have ha : unqAns (l.drop i) = ([], 0, 13) := by unfold unqAns; rw [hu]
        have hbad := listAns_bad (cutIs_bad hc hf hb' hu)
        rw [hbad] at hQ
        simp [ha]
        exact aPost_upX rfl (Nat.le_refl _) hB (by simp) (hQ _ _ BR.nil (Kpt.refl _) hB)
      | some p =>
        obtain ⟨y, k⟩ := p
        have ha : unqAns (l.drop i) = (y, (k : Int), 0) := by unfold unqAns; rw [hu]
        have hk := unquote_le hu
        rw [List.length_drop] at hk
        have hw2 : IntKind.i64.wrap ((i : Int) + k) = i + k := wrap_in (by omega) (by omega)
        simp [ha, hw2]
        exact Kloop_normal ⟨rfl, f, i + k, out, by omega, by omega, by omega, cutIs_quote hc hf hb' hu, fr_intro (by simp)⟩ (by simp; omega)
    · have t2 : ((b.toNat : Int) == 34) = false := by simp; omega
      have ne34 : b ≠ 34 := by rintro rfl; exact b34 rfl
      by_cases b44 : b.toNat = 44
      · have hx44 : b = 44 := UInt8.toNat_inj.1 b44
        have hb' : l[i]? = some 44 := by rw [hb, hx44]
        have t3 : ((b.toNat : Int) == 44) = true := by simp; omega
        simp [t1, hat, t2, t3, hf, hi, hm, hw]
        exact Kloop_normal ⟨rfl, i + 1, i + 1, out ++ [(l.drop f).take (i - f)], by omega, by omega, by simp; omega, cutIs_comma hc hf hb', fr_intro (by simp [strs])⟩ (by simp; omega)
      · have t3 : ((b.toNat : Int) == 44) = false := by simp; omega
        have ne44 : b ≠ 44 := by rintro rfl; exact b44 rfl
        simp [t1, hat, t2, t3, hw]
        exact Kloop_normal ⟨rfl, f, i + 1, out, by omega, by omega, by omega, cutIs_plain hc hf hb ne44 ne34, fr_intro (by simp)⟩ (by simp; omega)
  · obtain rfl : i = l.length := by omega
    have hcut := cutIs_end hc hf (Nat.le_refl _)
    have t1 : ((l.length : Int) == (l.length : Int)) = true := by simp
    obtain ⟨ps, hps⟩ : ∃ ps, out ++ [(l.drop f).take (l.length - f)] = ps := ⟨_, rfl⟩
    have hpl : ps.length = out.length + 1 := by rw [← hps]; simp
    rw [hps] at hcut
    have hans := listAns_ok hcut
    rw [hans] at hQ
    simp [hf, hm]
    refine VL_go (listInvB ps H') (fun fr _ => ps.length - (ai (aget fr 60)).toNat) ⟨0, true, .nil, by omega, BR.nil, Kpt.refl _, hB, fr_intro (by rw [hpl, ← hps]; simp [strs])⟩ ?_
    rintro fr K ⟨i, own, v, hi2, hv, hK, hBK, y, rfl⟩
    have hkl : (keepB (ps.take i)).length ≤ ps.length := by
      have := keepB_le (ps.take i)
      rw [List.length_take] at this; omega
    obtain ⟨vf, vo, vd, vb⟩ := BX.facts hv
    by_cases h2 : i < ps.length
    · obtain ⟨p, hp⟩ : ∃ b, ps[i]? = some b := ⟨_, List.getElem?_eq_getElem h2⟩
      have hat := strs_at hp
      have hw : IntKind.i64.wrap ((i : Int) + 1) = i + 1 := wrap_in (by omega) (by omega)
      have hst := keepB_take ps i p hp
      have hpl2 : p.length ≤ cap := by
        have := cut_mem _ [] l ps (Nat.le_refl _) hcut p (List.mem_of_getElem? hp)
        simp only [cap]; simp at this; omega
      simp [h2, hat]
      refine trim_pc E _ _ p hpl2 ?_
      cases ht : (trimB p).isEmpty
      · have hne : (trimB p != []) = true := by rw [len_ne _ 0, ht]; rfl
        rw [ht] at hst
        simp [hne, -axapp, vd]
        refine VXappR hv (strs_row _) hK hBK (by omega) rfl (by simp) rfl (by simp) (by rw [strs_len]; unfold maxLen; omega) (by rw [strs_len]; omega) (fun K' v' hv' hK' hB' => ?_)
        simp [hw]
        exact Kloop_normal ⟨i + 1, own, v', by omega, by rw [hst]; simpa [strs] using hv', hK', hB', fr_intro (by simp)⟩ (by simp; omega)
      · have hne : (trimB p != []) = false := by rw [len_ne _ 0, ht]; rfl
        rw [ht] at hst
        simp [hne, hw]
        exact Kloop_normal ⟨i + 1, own, v, by omega, by rw [hst]; simpa [strs] using hv, hK, hBK, fr_intro (by simp)⟩ (by simp; omega)
    · have ha : ps.take i = ps := List.take_of_length_le (by omega)
      rw [ha] at hv
      simp [h2, vd]
      exact aPost_upX (v := .tup [v, .int .i64 0]) (by simp [vd]) hK.1 hBK (by simpa using vb) (hQ K v hv hK hBK)
end
end Go.Proofs.YtjphdipbajfojaaDoor

set_option linter.unusedVariables false
set_option linter.unnecessarySimpa false
set_option linter.unusedSimpArgs false
set_option linter.unusedSectionVars false
set_option maxRecDepth 100000
namespace Go.Proofs.YtjphdipbajfojaaDoor
open Go Go.RowKit

theorem BR.str {K : Hp} {lo : Nat} {v : AV} {ps : List (List UInt8)} (h : BR K lo 1 v (strs ps)) {i : Nat} {p : List UInt8} (hi : ps[i]? = some p) : ∃ d c A, v = .bx d 0 ps.length c 1 ∧ K[d]? = some A ∧ A[i]? = some (.str p) ∧ i + 1 ≤ A.length := by
  have hl := (List.getElem?_eq_some_iff.1 hi).1
  rcases h with ⟨h0, _⟩ | ⟨d, c, A, h1, rfl, h2, h3, h4, h5, h6, h7⟩
  · rw [strs_len] at h0; omega
  · rw [strs_len] at *
    have hA : i < A.length := by omega
    refine ⟨d, c, A, rfl, h2, ?_, hA⟩
    have : (strs ps).flatten[i]? = some A[i] := h7 i _ (by omega) (List.getElem?_eq_getElem hA)
    rw [strs_flat, hi] at this
    rw [List.getElem?_eq_getElem hA, ← this]; rfl
section
variable (E : Env) {H : Hp} (Q : AV → Hp → Prop)
def tokInvB (ps : List (List UInt8)) (v : AV) (K0 : Hp) (fr : List AV) (K : Hp) : Prop := K = K0 ∧ ∃ i : Nat, i ≤ ps.length ∧ (ps.take i).all tokB = true ∧ ∃ x : Nat → AV, fr = [x 0, x 1, x 2, x 3, v, x 5, x 6, x 7, x 8, x 9, x 10, x 11, x 12, x 13, x 14, x 15, v, .int .i64 ps.length, .int .i64 i, x 19, x 20, x 21, x 22, x 23, x 24, x 25, x 26]
theorem tokens_bx (hE : SE E) (l : List UInt8) (hl : l.length ≤ 4194304) (hQ : ∀ K v, BR K H.length 1 v (strs (tokAns l).1) → Kpt H K → BndH K.length K → Q (.tup [v, .int .i64 (tokAns l).2]) K) : PC Tryd.prog E 45 [.str l] H Q := by
  refine pc_enter Tryd.func45 rfl [] [] (by kernel_rfl) (fun hB => ?_)
  simp [Tryd.ntmps45, Tryd.results45, List.replicate_succ]
  refine list_bx E _ _ l hl (fun K v hv hK hBK => ?_)
  obtain ⟨vf, vo, vd, vb⟩ := BX.facts hv
  have bad : ∀ e : Int, tokAns l = ([], e) → Q (.tup [.nil, .int .i64 e]) K := fun e h => by rw [h] at hQ; exact hQ K .nil BR.nil hK hBK
  cases hb : listB l with
  | none =>
    have ha : listAns l = ([], 14) := by unfold listAns; rw [hb]
    have ht : tokAns l = ([], 14) := by unfold tokAns; rw [hb]
    simp [Kcall, KP, ha]
    exact aPost_upX rfl hK.1 hBK (by simp) (bad _ ht)
  | some ps =>
    have ha : listAns l = (ps, 0) := by unfold listAns; rw [hb]
    have hpl := listB_len hb
    rw [ha] at hv
    have hal : ∀ t, (tsl Tryd.prog t).isSome = true → alen Tryd.prog t v = some (.int .i64 ps.length) := fun t ht => by have := BX.alen hv ht; rwa [strs_len] at this
    simp [Kcall, KP, ha, -alen, hal, vd]
    refine VL_go (tokInvB ps v K) (fun fr _ => ps.length - (ai (aget fr 18)).toNat) ⟨rfl, 0, by omega, rfl, fr_intro (by simp)⟩ ?_
    rintro fr H' ⟨rfl, i, hi, hall, x, rfl⟩
    by_cases h : i < ps.length
    · obtain ⟨p, hp⟩ : ∃ b, ps[i]? = some b := ⟨_, List.getElem?_eq_getElem h⟩
      obtain ⟨d, c, A, rfl, hA, hAi, hAl⟩ := BR.str hv hp
      have hw : IntKind.i64.wrap ((i : Int) + 1) = i + 1 := wrap_in (by omega) (by omega)
      have hpm := listB_mem hb p (List.mem_of_getElem? hp)
      simp [h, hA, hAi, hAl]
      refine isToken_pc E _ _ hE p (by simp only [cap]; omega) ?_
      cases hf : tokB p
      · have ht : tokAns l = ([], 10) := by unfold tokAns; rw [hb]; simp only [all_stop tokB ps i p hp hf]; rfl
        simp [hf]
        exact aPost_upX rfl hK.1 hBK (by simp) (bad _ ht)
      · simp [hf, hw]
        exact Kloop_normal ⟨rfl, i + 1, by omega, by rw [all_step tokB ps i p hp, hall, hf]; rfl, fr_intro (by simp)⟩ (by simp; omega)
    · rw [List.take_of_length_le (by omega)] at hall
      have ht : tokAns l = (ps, 0) := by unfold tokAns; rw [hb]; simp only [hall]; rfl
      rw [ht] at hQ
      simp [h, vd]
      exact aPost_upX (v := .tup [v, .int .i64 0]) (by simp [vd]) hK.1 hBK (by simpa using vb) (hQ H' v hv hK hBK)
def parsInvB (l : List UInt8) (H : Hp) (fr : List AV) (K : Hp) : Prop := ∃ (e : Nat) (out : List Par) (v : AV), e ≤ l.length ∧ out.length ≤ e ∧ parsIs l out e ∧ BR K H.length 3 v (prs out) ∧ Kpt H K ∧ BndH K.length K ∧ ∃ x : Nat → AV, fr = [.str l, x 1, x 2, x 3, x 4, v, .int .i64 e, x 7, x 8, x 9, x 10, x 11, x 12, x 13, x 14, x 15, x 16, x 17, x 18, x 19, x 20, x 21, x 22, x 23, x 24, x 25, x 26, x 27, x 28, x 29, x 30, x 31, x 32, x 33, x 34, x 35, x 36, x 37, x 38, x 39, x 40, x 41, x 42, x 43, x 44, x 45, x 46, x 47, x 48, x 49, x 50, x 51, x 52, x 53, x 54, x 55, x 56, x 57, x 58, x 59, x 60, x 61, x 62, x 63, x 64, x 65, x 66, x 67, x 68, x 69, x 70, x 71, x 72, x 73, x 74, x 75, x 76, x 77, x 78, x 79, x 80, x 81, x 82, x 83]
theorem params_bx (hE : SE E) (l : List UInt8) (hl : l.length ≤ 8388608) (hQ : ∀ K v, BR K H.length 3 v (prs (parAns l).1) → Kpt H K → BndH K.length K → Q (.tup [v, .int .i64 (parAns l).2.1, .int .i64 (parAns l).2.2]) K) : PC Tryd.prog E 28 [.str l] H Q := by
  refine pc_enter Tryd.func28 rfl [80] [(18, [0, 0, 0, 3])] (by kernel_rfl) (fun hB => ?_)
  simp [Tryd.ntmps28, Tryd.results28, List.replicate_succ]
  refine VL_go (parsInvB l H) (fun fr _ => l.length - (ai (aget fr 6)).toNat) ⟨0, [], .nil, by omega, by simp, parsIs_start l, BR.nil, Kpt.refl _, hB, fr_intro (by simp [prs])⟩ ?_
  rintro fr K ⟨e, out, v, he, hout, hp, hv, hK, hBK, x, rfl⟩
  obtain ⟨vf, vo, vd, vb⟩ := BX.facts hv
  have pl : (prs out).length = out.length := List.length_map ..
  have hcap : l.length ≤ cap := by simp only [cap]; omega
  have hm : out.length + 1 ≤ maxLen ∧ (out.length + 1) * 40 ≤ 140737488355328 := by unfold maxLen; omega
  simp
  refine run_pc E _ _ blankB _ (fun b Q hQ => isBlank_pc E _ Q b hQ) l e hcap he ?_
  obtain ⟨b, hb⟩ : ∃ n, run blankB (l.drop e) = n := ⟨_, rfl⟩
  have hbl := run_le blankB (l.drop e)
  rw [List.length_drop] at hbl
  rw [hb] at hbl ⊢
  obtain ⟨a, ha⟩ : ∃ a, a = e + b := ⟨_, rfl⟩
  have hw1 : IntKind.i64.wrap ((e : Int) + b) = (a : Int) := by rw [wrap_in (by omega) (by omega)]; omega
  have hcase : l[a]? = some 59 ∨ l[a]? ≠ some 59 := by
    by_cases h : l[a]? = some 59
    · exact .inl h
    · exact .inr h
  rcases hcase with h59 | h59
  · have halt := (List.getElem?_eq_some_iff.1 h59).1
    have t1 : ((a : Int) == (l.length : Int)) = false := by simp; omega
    have hat := lat_eq h59
    obtain ⟨a1, ha1⟩ : ∃ a1, a1 = a + 1 := ⟨_, rfl⟩
    have hw2 : IntKind.i64.wrap ((a : Int) + 1) = (a1 : Int) := by rw [wrap_in (by omega) (by omega)]; omega
    simp [hw1, t1, hat, hw2]
    refine run_pc E _ _ blankB _ (fun b Q hQ => isBlank_pc E _ Q b hQ) l a1 hcap (by omega) ?_
    obtain ⟨m, hmm⟩ : ∃ n, run blankB (l.drop a1) = n := ⟨_, rfl⟩
    have hml := run_le blankB (l.drop a1)
    rw [List.length_drop] at hml
    rw [hmm] at hml ⊢
    obtain ⟨a2, ha2⟩ : ∃ a2, a2 = a1 + m := ⟨_, rfl⟩
    have hw3 : IntKind.i64.wrap ((a1 : Int) + m) = (a2 : Int) := by rw [wrap_in (by omega) (by omega)]; omega
    simp [hw3]
    refine run_pc E _ _ signB _ (fun b Q hQ => isSign_pc E _ Q hE b hQ) l a2 hcap (by omega) ?_
    obtain ⟨n, hn⟩ : ∃ n, run signB (l.drop a2) = n := ⟨_, rfl⟩
    have hnl := run_le signB (l.drop a2)
    rw [List.length_drop] at hnl
    rw [hn] at hnl ⊢
    obtain ⟨a3, ha3⟩ : ∃ a3, a3 = a2 + n := ⟨_, rfl⟩
    have hw4 : IntKind.i64.wrap ((a2 : Int) + n) = (a3 : Int) := by rw [wrap_in (by omega) (by omega)]; omega
    have x0 : l[e + b]? = some 59 := by rw [← ha]; exact h59
    have x1 : run blankB (l.drop (e + b + 1)) = m := by rw [← ha, ← ha1]; exact hmm
    have x2 : run signB (l.drop (e + b + 1 + m)) = n := by rw [← ha, ← ha1, ← ha2]; exact hn
    have ee : e + b + 1 + m + n = a3 := by omega
    by_cases hz : n = 0
    · have hsk := parsIs_skip hp hb x0 x1 x2 hz
      rw [show e + b + 1 = a1 by omega] at hsk
      have t2 : ((n : Int) == 0) = true := by simp [hz]
      simp [hz]
      exact Kloop_normal ⟨a1, out, v, by omega, by omega, hsk, hv, hK, hBK, fr_intro (by simp)⟩ (by simp; omega)
    · have t0 : ((n : Int) == 0) = false := by simp; omega
      have hnm : (l.drop a2).take (a3 - a2) = (l.drop a2).take n := by rw [show a3 - a2 = n by omega]
      have hle1 : a2 ≤ a3 := by omega
      have hle2 : a3 ≤ l.length := by omega
      by_cases h61 : l[a3]? = some 61
      · have h3 := (List.getElem?_eq_some_iff.1 h61).1
        have hat2 := lat_eq h61
        obtain ⟨a4, ha4⟩ : ∃ a4, a4 = a3 + 1 := ⟨_, rfl⟩
        have hw5 : IntKind.i64.wrap ((a3 : Int) + 1) = (a4 : Int) := by rw [wrap_in (by omega) (by omega)]; omega
        have hd : (l.drop a4).take (l.length - a4) = l.drop a4 := List.take_of_length_le (by rw [List.length_drop]; omega)
        have ha4l : a4 ≤ l.length := by omega
        simp [t0, hw4, hle1, hle2, hnm, h3, hat2, hw5, ha4l, hd]
        refine value_pc E _ _ hE (l.drop a4) (by rw [List.length_drop]; omega) ?_
        cases hpv : pval signB (l.drop a4) with
        | none =>
          have hva : valAns (l.drop a4) = ([], 0, false) := by unfold valAns; rw [hpv]
          have hbad := parsIs_bad hp hb x0 x1 x2 hz (by rw [ee]; exact h61) (by rw [ee, ← ha4]; exact hpv)
          rw [hbad] at hQ
          simp [hva]
          exact aPost_end rfl (nilV_refl _) hK.1 hBK (by simp) (hQ _ _ BR.nil hK hBK)
        | some q =>
          obtain ⟨y, k⟩ := q
          have hva : valAns (l.drop a4) = (y, (k : Int), true) := by unfold valAns; rw [hpv]
          have hk := pval_le hpv
          rw [List.length_drop] at hk
          have hvv := parsIs_value hp hb x0 x1 x2 hz (by rw [ee]; exact h61) (x := y) (k := k) (by rw [ee, ← ha4]; exact hpv)
          obtain ⟨a5, ha5⟩ : ∃ a5, a5 = a3 + 1 + k := ⟨_, rfl⟩
          have hw6 : IntKind.i64.wrap (1 + (k : Int)) = 1 + k := wrap_in (by omega) (by omega)
          have hw7 : IntKind.i64.wrap ((a3 : Int) + (1 + k)) = (a5 : Int) := by rw [wrap_in (by omega) (by omega)]; omega
          rw [show e + b + 1 + m = a2 by omega, show a2 + n + 1 + k = a5 by omega] at hvv
          simp [hva, hw6, hw7, hm, -axapp, vd]
          have hv1 : BR (K ++ [[.str ((l.drop a2).take n), .str y, .bool true]]) H.length 3 v (prs out) := hv.keep fun j hj => List.getElem?_append_left hj
          refine VXappR hv1 (prs_row _) (hK.more _) (bndX_app (bndX_up hBK (by simp)) fun X hX y hy => by simp at hX; subst hX; simp at hy; rcases hy with rfl | rfl | rfl <;> constructor) (by omega) rfl (by simp) rfl (by simp) (by rw [pl]; exact hm.1) (by rw [pl]; exact hm.2) (fun K' v' hv' hK' hB' => ?_)
          simp
          exact Kloop_normal ⟨a5, _, v', by omega, by simp; omega, hvv, by simpa [prs, parRow] using hv', hK', hB', fr_intro (by simp)⟩ (by simp; omega)
      · have hpl := parsIs_plain hp hb x0 x1 x2 hz (by rw [ee]; exact h61)
        rw [show e + b + 1 + m = a2 by omega, show a2 + n = a3 by omega] at hpl
        have hcase : a3 = l.length ∨ (a3 < l.length ∧ ∃ c, l[a3]? = some c ∧ c.toNat ≠ 61) := by
          by_cases h : a3 < l.length
          · obtain ⟨c, hc⟩ : ∃ b, l[a3]? = some b := ⟨_, List.getElem?_eq_getElem h⟩
            exact .inr ⟨h, c, hc, fun hh => h61 (by rw [hc, UInt8.toNat_inj.1 (show c.toNat = (61 : UInt8).toNat from hh)])⟩
          · exact .inl (by omega)
        rcases hcase with hE3 | ⟨h, c, hc, hcn⟩
        · have hnl3 : ¬ a3 < l.length := by omega
          simp [t0, hw4, hle1, hle2, hnm, hnl3, hm, -axapp, vd]
          have hv1 : BR (K ++ [[.str ((l.drop a2).take n), .str [], .bool false]]) H.length 3 v (prs out) := hv.keep fun j hj => List.getElem?_append_left hj
          refine VXappR hv1 (prs_row _) (hK.more _) (bndX_app (bndX_up hBK (by simp)) fun X hX y hy => by simp at hX; subst hX; simp at hy; rcases hy with rfl | rfl | rfl <;> constructor) (by omega) rfl (by simp) rfl (by simp) (by rw [pl]; exact hm.1) (by rw [pl]; exact hm.2) (fun K' v' hv' hK' hB' => ?_)
          simp
          exact Kloop_normal ⟨a3, _, v', by omega, by simp; omega, hpl, by simpa [prs, parRow] using hv', hK', hB', fr_intro (by simp)⟩ (by simp; omega)
        · have t2 : ((c.toNat : Int) == 61) = false := by simp; omega
          have hat2 := lat_eq hc
          simp [t0, hw4, hle1, hle2, hnm, h, hat2, t2, hm, -axapp, vd]
          have hv1 : BR (K ++ [[.str ((l.drop a2).take n), .str [], .bool false]]) H.length 3 v (prs out) := hv.keep fun j hj => List.getElem?_append_left hj
          refine VXappR hv1 (prs_row _) (hK.more _) (bndX_app (bndX_up hBK (by simp)) fun X hX y hy => by simp at hX; subst hX; simp at hy; rcases hy with rfl | rfl | rfl <;> constructor) (by omega) rfl (by simp) rfl (by simp) (by rw [pl]; exact hm.1) (by rw [pl]; exact hm.2) (fun K' v' hv' hK' hB' => ?_)
          simp
          exact Kloop_normal ⟨a3, _, v', by omega, by simp; omega, hpl, by simpa [prs, parRow] using hv', hK', hB', fr_intro (by simp)⟩ (by simp; omega)
  · have hans := parsIs_end hp hb (by rw [← ha]; exact h59)
    rw [hans] at hQ
    have hcase : a = l.length ∨ (a < l.length ∧ ∃ c, l[a]? = some c ∧ c.toNat ≠ 59) := by
      by_cases h : a < l.length
      · obtain ⟨c, hc⟩ : ∃ b, l[a]? = some b := ⟨_, List.getElem?_eq_getElem h⟩
        exact .inr ⟨h, c, hc, fun hh => h59 (by rw [hc, UInt8.toNat_inj.1 (show c.toNat = (59 : UInt8).toNat from hh)])⟩
      · exact .inl (by omega)
    rcases hcase with rfl | ⟨h, c, hc, hcn⟩
    · have t1 : ((l.length : Int) == (l.length : Int)) = true := by simp
      simp [hw1]
      exact aPost_upX (v := .tup [v, .int .i64 e, .int .i64 0]) (by simp [vd]) hK.1 hBK (by simpa using vb) (hQ K v hv hK hBK)
    · have t1 : ((a : Int) == (l.length : Int)) = false := by simp; omega
      have t2 : ((c.toNat : Int) != 59) = true := by simp; omega
      have hat := lat_eq hc
      simp [hw1, t1, hat, t2]
      exact aPost_upX (v := .tup [v, .int .i64 e, .int .i64 0]) (by simp [vd]) hK.1 hBK (by simpa using vb) (hQ K v hv hK hBK)
end
end Go.Proofs.YtjphdipbajfojaaDoor

set_option linter.unusedVariables false
set_option linter.unusedSimpArgs false
set_option maxRecDepth 100000
namespace Go.Proofs.YtjphdipbajfojaaDoor
open Go Go.RowKit Go.Lib

/-! ### Plain -/
/-! ### The walks -/
/-- .. and the table of tens. -/
def SE2 (E : Env) : Prop := SE E ∧ E.Fix 2 ∧ TabIs Tryd.prog E.w0 "internal/strconv.uint64pow10" .u64 pow10Tab
theorem pow10Named : Tryd.prog.globalNamed "internal/strconv.uint64pow10" = some 2 := by kernel_rfl
theorem SE2.tab {E : Env} (h : SE2 E) {w : World} (hw : ∀ b, E.Fix b → w.heap[b]? = E.w0.heap[b]?) : TabIs Tryd.prog w "internal/strconv.uint64pow10" .u64 pow10Tab := by
  have := h.2.2
  unfold TabIs World.var? at this ⊢
  rw [pow10Named] at this ⊢
  simp only [Option.bind_some] at this ⊢
  rw [hw _ h.2.1]; exact this

section
variable (E : Env) (H : Hp) (Q : AV → Hp → Prop)
theorem itoa_le (n : Int) (h0 : -9223372036854775808 ≤ n) (h1 : n ≤ 9223372036854775807) : (itoa n).length ≤ 21 ∧ (decDigits n.natAbs).length ≤ 21 := by
  have h := itoa_length_le n h0 h1
  refine ⟨h, ?_⟩
  unfold itoa at h
  split at h
  · simp at h; omega
  · have : n.toNat = n.natAbs := by omega
    rw [this] at h; exact h
theorem itoa_pc (hE : SE2 E) (n : Int) (h0 : -9223372036854775808 ≤ n) (h1 : n ≤ 9223372036854775807) (hQ : Q (.str (itoa n)) H) : PC Tryd.prog E 61 [.int .i64 n] H Q := by
  refine pc_of_calls (v := .str (itoa n)) (by kernel_rfl) (fun w => TabIs Tryd.prog w "internal/strconv.uint64pow10" .u64 pow10Tab) (fun w hw => hE.tab hw) (fun w β Rd cargs hS hsz hargs => ?_) (.str _) rfl hQ
  obtain ⟨u, rfl, hu⟩ := args1 hsz hargs
  obtain rfl := rel_int hu
  refine (Any.strconv_Itoa laysM171 n h0 h1 w hS).mono ?_
  rintro e w' ⟨rfl, k, os, rfl⟩
  refine ⟨_, rfl, ⟨rfl, rfl, rfl, by simp [Go.Sort.grow], fun b hb _ => ?_⟩, rel_tx _ (by have := (itoa_le n h0 h1).1; unfold maxLen; omega)⟩
  show (w.heap ++ os)[b]? = _
  rw [Array.getElem?_append_left hb]
theorem digits_pc (hE : SE2 E) (n : Int) (h0 : -9223372036854775808 ≤ n) (h1 : n ≤ 9223372036854775807) (hQ : Q (.str (itoa n)) H) : PC Tryd.prog E 34 [.int .i64 n] H Q := by
  refine pc_enter Tryd.func34 rfl [] [] (by kernel_rfl) (fun hB => ?_)
  simp [Tryd.ntmps34, Tryd.results34, List.replicate_succ]
  refine itoa_pc E H _ hE n h0 h1 ?_
  simp [Tryd.results34]
  exact aPost_same0 hB rfl (nilV_refl _) (by simp) hQ
end
end Go.Proofs.YtjphdipbajfojaaDoor

set_option linter.unusedVariables false
set_option linter.unusedSimpArgs false
set_option maxRecDepth 100000
namespace Go.Proofs.YtjphdipbajfojaaDoor
open Go Go.RowKit

section
variable (E : Env) (H : Hp) (Q : AV → Hp → Prop)
def refListInv (l : List UInt8) (H : Hp) (fr : List AV) (H' : Hp) : Prop := H' = H ∧ ∃ (f i : Nat) (out : List (List UInt8)), ((f ≤ i ∧ i ≤ l.length ∧ out.length ≤ i ∧ cutIs l out f i) ∨ (i = l.length + 1 ∧ cut [] l = some out)) ∧ ∃ x : Nat → AV, fr = [.str l, x 1, x 2, x 3, .sl true 1 (strs (keepB out)), .int .i64 f, .int .i64 i, x 7, x 8, x 9, x 10, x 11, x 12, x 13, x 14, x 15, x 16, x 17, x 18, x 19, x 20, x 21, x 22, x 23, x 24, x 25, x 26, x 27, x 28, x 29, x 30, x 31, x 32, x 33, x 34, x 35, x 36, x 37, x 38, x 39, x 40, x 41, x 42, x 43, x 44, x 45, x 46, x 47, x 48, x 49, x 50, x 51, x 52, x 53, x 54, x 55, x 56, x 57, x 58, x 59, x 60]
theorem keepB_snoc (out : List (List UInt8)) (x : List UInt8) : keepB (out ++ [x]) = keepB out ++ (if (trimB x).isEmpty then [] else [trimB x]) := by
  rw [keepB_app]
  congr 1
  simp [keepB]
  cases (trimB x) <;> simp
theorem ref_list_pc (l : List UInt8) (hl : l.length ≤ 4194304) (hQ : Q (.tup [.sl false 1 (strs (listAns l).1), .int .i64 (listAns l).2]) H) : PC Tryd.prog E 44 [.str l] H Q := by
  refine pc_enter Tryd.func44 rfl [33] [] (by kernel_rfl) (fun hB => ?_)
  simp [Tryd.ntmps44, Tryd.results44, List.replicate_succ]
  refine VL_go (refListInv l H) (fun fr _ => l.length + 1 - (ai (aget fr 6)).toNat) ⟨rfl, 0, 0, [], .inl ⟨by omega, by omega, by simp, cutIs_start l⟩, fr_intro (by simp [strs, keepB])⟩ ?_
  rintro fr H' ⟨rfl, f, i, out, ⟨hf, hi, hout, hc⟩ | ⟨rfl, hc⟩, x, rfl⟩
  · have hkl := keepB_le out
    have hm : (keepB out).length + 1 ≤ maxLen ∧ ((keepB out).length + 1) * 16 ≤ 140737488355328 := by unfold maxLen; omega
    have hle : (i : Int) ≤ l.length := by omega
    have hw : IntKind.i64.wrap ((i : Int) + 1) = i + 1 := wrap_in (by omega) (by omega)
    have pl : ((l.drop f).take (i - f)).length ≤ cap := by rw [List.length_take, List.length_drop]; simp only [cap]; omega
    have hcase : i = l.length ∨ (i < l.length ∧ l[i]? = some 44) ∨ (i < l.length ∧ ∃ b, l[i]? = some b ∧ b ≠ 44) := by
      by_cases h : i < l.length
      · obtain ⟨b, hb⟩ : ∃ b, l[i]? = some b := ⟨_, List.getElem?_eq_getElem h⟩
        by_cases h44 : b = 44
        · exact .inr (.inl ⟨h, by rw [hb, h44]⟩)
        · exact .inr (.inr ⟨h, b, hb, h44⟩)
      · exact .inl (by omega)
    rcases hcase with rfl | ⟨h, hb⟩ | ⟨h, b, hb, ne44⟩
    · have hsl : (l.drop f).take (l.length - f) = l.drop f := List.take_of_length_le (by rw [List.length_drop]; omega)
      have hcut := cutIs_end hc hf (Nat.le_refl _)
      rw [hsl] at hcut pl
      have hst := keepB_snoc out (l.drop f)
      simp [hf, hsl]
      refine ref_trim_pc E _ _ _ pl ?_
      cases ht : (trimB (l.drop f)).isEmpty
      · have hne : (trimB (l.drop f) != []) = true := by rw [len_ne _ 0, ht]; rfl
        rw [ht] at hst
        simp [hne, hm, hw]
        exact Kloop_normal ⟨rfl, l.length + 1, l.length + 1, _, .inr ⟨rfl, hcut⟩, fr_intro (by rw [hst]; simp [strs])⟩ (by simp)
      · have hne : (trimB (l.drop f) != []) = false := by rw [len_ne _ 0, ht]; rfl
        rw [ht] at hst
        simp [hne, hw]
        exact Kloop_normal ⟨rfl, l.length + 1, l.length + 1, _, .inr ⟨rfl, hcut⟩, fr_intro (by rw [hst]; simp [strs])⟩ (by simp)
    · have t1 : ((i : Int) == (l.length : Int)) = false := by simp; omega
      have hat := lat_eq hb
      have hcm := cutIs_comma hc hf hb
      have hst := keepB_snoc out ((l.drop f).take (i - f))
      simp [hle, t1, hat, hf, hi]
      refine ref_trim_pc E _ _ _ pl ?_
      cases ht : (trimB ((l.drop f).take (i - f))).isEmpty
      · have hne : (trimB ((l.drop f).take (i - f)) != []) = true := by rw [len_ne _ 0, ht]; rfl
        rw [ht] at hst
        simp [hne, hm, hw]
        exact Kloop_normal ⟨rfl, i + 1, i + 1, _, .inl ⟨by omega, by omega, by simp; omega, hcm⟩, fr_intro (by rw [hst]; simp [strs])⟩ (by simp; omega)
      · have hne : (trimB ((l.drop f).take (i - f)) != []) = false := by rw [len_ne _ 0, ht]; rfl
        rw [ht] at hst
        simp [hne, hw]
        exact Kloop_normal ⟨rfl, i + 1, i + 1, _, .inl ⟨by omega, by omega, by simp; omega, hcm⟩, fr_intro (by rw [hst]; simp [strs])⟩ (by simp; omega)
    · have t1 : ((i : Int) == (l.length : Int)) = false := by simp; omega
      have hat := lat_eq hb
      have hbn := b.toNat_lt
      have t3 : ((b.toNat : Int) == 44) = false := by
        rw [beq_eq_false_iff_ne]; intro hh; exact ne44 (UInt8.toNat_inj.1 (by show b.toNat = 44; omega))
      by_cases b34 : b.toNat = 34
      · have hx34 : b = 34 := UInt8.toNat_inj.1 b34
        have hb' : l[i]? = some 34 := by rw [hb, hx34]
        have t2 : ((b.toNat : Int) == 34) = true := by simp; omega
        have hd : (l.drop i).take (l.length - i) = l.drop i := List.take_of_length_le (by rw [List.length_drop]; omega)
        simp [hle, t1, hat, t2, t3, hd, hi]
        refine ref_unquote_pc E _ _ (l.drop i) (by rw [List.length_drop]; omega) ?_
        cases hu : unquote (l.drop i) with
        | none =>
          have ha : unqAns (l.drop i) = ([], 0, 13) := by unfold unqAns; rw [hu]
          have hbad := listAns_bad (cutIs_bad hc hf hb' hu)
          rw [hbad] at hQ
          simp [ha]
          exact aPost_same0 hB rfl (nilV_refl _) (by simp) hQ
        | some p =>
          obtain ⟨y, k⟩ := p
          have ha : unqAns (l.drop i) = (y, (k : Int), 0) := by unfold unqAns; rw [hu]
          have hk := unquote_le hu
          rw [List.length_drop] at hk
          have hw2 : IntKind.i64.wrap ((i : Int) + k) = i + k := wrap_in (by omega) (by omega)
          simp [ha, hw2]
          exact Kloop_normal ⟨rfl, f, i + k, out, .inl ⟨by omega, by omega, by omega, cutIs_quote hc hf hb' hu⟩, fr_intro (by simp)⟩ (by simp; omega)
      · have t2 : ((b.toNat : Int) == 34) = false := by simp; omega
        have ne34 : b ≠ 34 := by rintro rfl; exact b34 rfl
        simp [hle, t1, hat, t2, t3, hw]
        exact Kloop_normal ⟨rfl, f, i + 1, out, .inl ⟨by omega, by omega, by omega, cutIs_plain hc hf hb ne44 ne34⟩, fr_intro (by simp)⟩ (by simp; omega)
  · have hgt : ¬ ((l.length : Int) + 1 ≤ l.length) := by omega
    have hans := listAns_ok hc
    rw [hans] at hQ
    simp [hgt]
    exact aPost_same0 hB rfl (nilV_refl _) (by simp) hQ
def refToksInv (ps : List (List UInt8)) (H : Hp) (fr : List AV) (H' : Hp) : Prop := H' = H ∧ ∃ i : Nat, i ≤ ps.length ∧ (ps.take i).all tokB = true ∧ ∃ x : Nat → AV, fr = [x 0, x 1, x 2, x 3, .sl false 1 (strs ps), x 5, .int .i64 i, x 7, x 8, x 9, x 10, x 11, x 12, x 13, x 14, x 15, x 16, x 17, x 18, x 19, x 20, x 21, x 22, x 23, x 24, x 25, x 26, x 27, x 28, x 29]
theorem ref_tokens_pc (l : List UInt8) (hl : l.length ≤ 4194304) (hQ : Q (.tup [.sl false 1 (strs (tokAns l).1), .int .i64 (tokAns l).2]) H) : PC Tryd.prog E 46 [.str l] H Q := by
  refine pc_enter Tryd.func46 rfl [] [] (by kernel_rfl) (fun hB => ?_)
  simp [Tryd.ntmps46, Tryd.results46, List.replicate_succ]
  refine ref_list_pc E _ _ l hl ?_
  have bad : ∀ e : Int, tokAns l = ([], e) → Q (.tup [.sl false 1 [], .int .i64 e]) H := fun e h => by rw [h] at hQ; exact hQ
  cases hb : listB l with
  | none =>
    have ha : listAns l = ([], 14) := by unfold listAns; rw [hb]
    have ht : tokAns l = ([], 14) := by unfold tokAns; rw [hb]
    simp [ha]
    exact aPost_same0 hB rfl (nilV_refl _) (by simp) (bad _ ht)
  | some ps =>
    have ha : listAns l = (ps, 0) := by unfold listAns; rw [hb]
    have hpl := listB_len hb
    simp [ha]
    refine VL_go (refToksInv ps H) (fun fr _ => ps.length - (ai (aget fr 6)).toNat) ⟨rfl, 0, by omega, rfl, fr_intro (by simp)⟩ ?_
    rintro fr H' ⟨rfl, i, hi, hall, x, rfl⟩
    by_cases h : i < ps.length
    · obtain ⟨p, hp⟩ : ∃ b, ps[i]? = some b := ⟨_, List.getElem?_eq_getElem h⟩
      have hat := strs_at hp
      have hw : IntKind.i64.wrap ((i : Int) + 1) = i + 1 := wrap_in (by omega) (by omega)
      have hpm := listB_mem hb p (List.mem_of_getElem? hp)
      simp [h, hat]
      refine ref_token_pc E _ _ p (by simp only [cap]; omega) ?_
      cases hf : tokB p
      · have ht : tokAns l = ([], 10) := by unfold tokAns; rw [hb]; simp only [all_stop tokB ps i p hp hf]; rfl
        simp [hf]
        exact aPost_same0 hB rfl (nilV_refl _) (by simp) (bad _ ht)
      · simp [hf, hw]
        exact Kloop_normal ⟨rfl, i + 1, by omega, by rw [all_step tokB ps i p hp, hall, hf]; rfl, fr_intro (by simp)⟩ (by simp; omega)
    · rw [List.take_of_length_le (by omega)] at hall
      have ht : tokAns l = (ps, 0) := by unfold tokAns; rw [hb]; simp only [hall]; rfl
      rw [ht] at hQ
      simp [h]
      exact aPost_same0 hB rfl (nilV_refl _) (by simp) hQ

end
/-! ### Joins -/
section
variable (E : Env) (H : Hp) (Q : AV → Hp → Prop)
end
end Go.Proofs.YtjphdipbajfojaaDoor

set_option linter.unusedVariables false
set_option linter.unnecessarySimpa false
set_option linter.unusedSimpArgs false
set_option linter.unusedSectionVars false
set_option maxRecDepth 100000
namespace Go.Proofs.YtjphdipbajfojaaDoor
open Go Go.RowKit Lib

def T8 : Nat → Nat → AV → Prop := fun _ _ _ => True
def mkL (i j : Nat) : AV := .str (itoa (1000 * (i : Int) + j))
def mkP (i m : Nat) : AV := if m % 3 = 0 then .str (itoa (1000 * (i : Int) + (m / 3 : Nat))) else if m % 3 = 1 then .str [] else .bool false
theorem mkP_0 (i j : Nat) : mkP i (j * 3) = .str (itoa (1000 * (i : Int) + j)) := by
  unfold mkP
  rw [if_pos (by omega), show j * 3 / 3 = j by omega]
theorem mkP_1 (i j : Nat) : mkP i (j * 3 + 1) = .str [] := by
  unfold mkP
  rw [if_neg (by omega), if_pos (by omega)]
theorem mkP_2 (i j : Nat) : mkP i (j * 3 + 2) = .bool false := by
  unfold mkP
  rw [if_neg (by omega), if_neg (by omega)]
def CL (i : Nat) : Nat → Nat → AV → Prop := fun i' m u => i' < i → u = mkL i' m
def CLj (i j : Nat) : Nat → Nat → AV → Prop := fun i' m u => i' < i ∨ (i' = i ∧ m < j) → u = mkL i' m
def CP (i : Nat) : Nat → Nat → AV → Prop := fun i' m u => i' < i → u = mkP i' m
def CPj (i j : Nat) : Nat → Nat → AV → Prop := fun i' m u => i' < i ∨ (i' = i ∧ m < j * 3) → u = mkP i' m
def ML : Nat → Nat → AV → Prop := fun i m u => u = mkL i m
def MP : Nat → Nat → AV → Prop := fun i m u => u = mkP i m
def o0I (l : List UInt8) (H : Hp) (fr : List AV) (K : Hp) : Prop := ∃ (i L1 : Nat) (LS PS : List Mq), i ≤ 3 ∧ LS.length = 2 * i ∧ PS.length = i ∧ OmS H K L1 LS PS T8 T8 ∧ BndH K.length K ∧ ∃ x : Nat → AV, fr = [.str l, x 1, x 2, .sl false 1 (strs (listAns l).1), x 4, .sl false 1 (strs (tokAns l).1), x 6, .sl false 3 (prs (parAns l).1), x 8, x 9, .sl true 1 (rowsQ LS), .sl true 1 (rowsQ PS), .int .i64 i, x 13, x 14, x 15, x 16, x 17, x 18, x 19, x 20, x 21, x 22, x 23, x 24, x 25, x 26, x 27, x 28, x 29, x 30, x 31, x 32, x 33, x 34, x 35, x 36, x 37, x 38, x 39, x 40, x 41, x 42, x 43, x 44, x 45, x 46, x 47, x 48, x 49, x 50, x 51, x 52, x 53, x 54, x 55, x 56, x 57, x 58, x 59, x 60, x 61, x 62, x 63, x 64, x 65, x 66, x 67, x 68, x 69, x 70, x 71, x 72, x 73, x 74, x 75, x 76, x 77, x 78, x 79, x 80, x 81, x 82, x 83, x 84, x 85, x 86, x 87, x 88, x 89, x 90, x 91, x 92, x 93, x 94, x 95, x 96, x 97, x 98, x 99, x 100, x 101, x 102, x 103, x 104, x 105, x 106, x 107, x 108, x 109, x 110, x 111, x 112, x 113, x 114, x 115, x 116, x 117, x 118, x 119, x 120, x 121, x 122, x 123, x 124, x 125, x 126, x 127, x 128, x 129, x 130, x 131, x 132, x 133, x 134, x 135, x 136, x 137, x 138, x 139, x 140, x 141, x 142, x 143, x 144, x 145, x 146, x 147, x 148, x 149, x 150, x 151, x 152, x 153, x 154, x 155, x 156, x 157, x 158, x 159, x 160, x 161, x 162, x 163, x 164, x 165, x 166, x 167, x 168, x 169, x 170, x 171, x 172, x 173, x 174, x 175, x 176, x 177, x 178, x 179, x 180, x 181, x 182, x 183, x 184, x 185, x 186, x 187, x 188, x 189, x 190, x 191, x 192, x 193, x 194, x 195, x 196, x 197, x 198, x 199, x 200, x 201, x 202, x 203, x 204, x 205, x 206, x 207, x 208, x 209, x 210, x 211, x 212, x 213, x 214, x 215, x 216, x 217, x 218, x 219, x 220, x 221, x 222, x 223, x 224, x 225, x 226, x 227, x 228, x 229, x 230, x 231, x 232, x 233, x 234, x 235, x 236, x 237, x 238, x 239, x 240, x 241, x 242, x 243, x 244, x 245, x 246, x 247, x 248, x 249, x 250, x 251, x 252, x 253, x 254, x 255, x 256, x 257, x 258, x 259, x 260, x 261, x 262, x 263, x 264, x 265, x 266, x 267, x 268, x 269, x 270, x 271, x 272, x 273, x 274, x 275, x 276, x 277, x 278, x 279, x 280, x 281, x 282, x 283, x 284, x 285]
def o1I (l : List UInt8) (H : Hp) (L1 : Nat) (LS PS : List Mq) (fr : List AV) (K : Hp) : Prop := ∃ i : Nat, i ≤ LS.length ∧ OmS H K L1 LS PS (CL i) T8 ∧ BndH K.length K ∧ ∃ x : Nat → AV, fr = [.str l, x 1, x 2, .sl false 1 (strs (listAns l).1), x 4, .sl false 1 (strs (tokAns l).1), x 6, .sl false 3 (prs (parAns l).1), x 8, x 9, .sl true 1 (rowsQ LS), .sl true 1 (rowsQ PS), x 12, x 13, x 14, x 15, x 16, x 17, x 18, x 19, .int .i64 i, x 21, x 22, x 23, x 24, x 25, x 26, x 27, x 28, x 29, x 30, x 31, x 32, x 33, x 34, x 35, x 36, x 37, x 38, x 39, x 40, x 41, x 42, x 43, x 44, x 45, x 46, x 47, x 48, x 49, x 50, x 51, x 52, x 53, x 54, x 55, x 56, x 57, x 58, x 59, x 60, x 61, x 62, x 63, x 64, x 65, x 66, x 67, x 68, x 69, x 70, x 71, x 72, x 73, x 74, x 75, x 76, x 77, x 78, x 79, x 80, x 81, x 82, x 83, x 84, x 85, x 86, x 87, x 88, x 89, x 90, x 91, x 92, x 93, x 94, x 95, x 96, x 97, x 98, x 99, x 100, x 101, x 102, x 103, x 104, x 105, x 106, x 107, x 108, x 109, x 110, x 111, x 112, x 113, x 114, x 115, x 116, x 117, x 118, x 119, x 120, x 121, x 122, x 123, x 124, x 125, x 126, x 127, x 128, x 129, x 130, x 131, x 132, x 133, x 134, x 135, x 136, x 137, x 138, x 139, x 140, x 141, x 142, x 143, x 144, x 145, x 146, x 147, x 148, x 149, x 150, x 151, x 152, x 153, x 154, x 155, x 156, x 157, x 158, x 159, x 160, x 161, x 162, x 163, x 164, x 165, x 166, x 167, x 168, x 169, x 170, x 171, x 172, x 173, x 174, x 175, x 176, x 177, x 178, x 179, x 180, x 181, x 182, x 183, x 184, x 185, x 186, x 187, x 188, x 189, x 190, x 191, x 192, x 193, x 194, x 195, x 196, x 197, x 198, x 199, x 200, x 201, x 202, x 203, x 204, x 205, x 206, x 207, x 208, x 209, x 210, x 211, x 212, x 213, x 214, x 215, x 216, x 217, x 218, x 219, x 220, x 221, x 222, x 223, x 224, x 225, x 226, x 227, x 228, x 229, x 230, x 231, x 232, x 233, x 234, x 235, x 236, x 237, x 238, x 239, x 240, x 241, x 242, x 243, x 244, x 245, x 246, x 247, x 248, x 249, x 250, x 251, x 252, x 253, x 254, x 255, x 256, x 257, x 258, x 259, x 260, x 261, x 262, x 263, x 264, x 265, x 266, x 267, x 268, x 269, x 270, x 271, x 272, x 273, x 274, x 275, x 276, x 277, x 278, x 279, x 280, x 281, x 282, x 283, x 284, x 285]
def o1J (l : List UInt8) (H : Hp) (L1 : Nat) (LS PS : List Mq) (i : Nat) (e : Mq) (fr : List AV) (K : Hp) : Prop := ∃ j : Nat, j ≤ e.n ∧ OmS H K L1 LS PS (CLj i j) T8 ∧ BndH K.length K ∧ ∃ x : Nat → AV, fr = [.str l, x 1, x 2, .sl false 1 (strs (listAns l).1), x 4, .sl false 1 (strs (tokAns l).1), x 6, .sl false 3 (prs (parAns l).1), x 8, x 9, .sl true 1 (rowsQ LS), .sl true 1 (rowsQ PS), x 12, x 13, x 14, x 15, x 16, x 17, x 18, x 19, .int .i64 i, .int .i64 j, x 22, x 23, x 24, x 25, x 26, x 27, x 28, x 29, x 30, x 31, x 32, x 33, x 34, x 35, x 36, x 37, x 38, x 39, x 40, x 41, x 42, x 43, x 44, x 45, x 46, x 47, x 48, x 49, x 50, x 51, x 52, x 53, x 54, x 55, x 56, x 57, x 58, x 59, x 60, x 61, x 62, x 63, x 64, x 65, x 66, x 67, x 68, x 69, x 70, x 71, x 72, x 73, x 74, x 75, x 76, x 77, x 78, x 79, x 80, x 81, x 82, x 83, x 84, x 85, x 86, x 87, x 88, x 89, x 90, x 91, x 92, x 93, x 94, x 95, x 96, x 97, x 98, x 99, x 100, x 101, x 102, x 103, x 104, x 105, x 106, x 107, x 108, x 109, x 110, x 111, x 112, x 113, x 114, x 115, x 116, x 117, x 118, x 119, x 120, x 121, x 122, x 123, x 124, x 125, x 126, x 127, x 128, x 129, x 130, x 131, x 132, x 133, x 134, x 135, x 136, x 137, x 138, x 139, x 140, x 141, x 142, x 143, x 144, x 145, x 146, x 147, x 148, x 149, x 150, x 151, x 152, x 153, x 154, x 155, x 156, x 157, x 158, x 159, x 160, x 161, x 162, x 163, x 164, x 165, x 166, x 167, x 168, x 169, x 170, x 171, x 172, x 173, x 174, x 175, x 176, x 177, x 178, x 179, x 180, x 181, x 182, x 183, x 184, x 185, x 186, x 187, x 188, x 189, x 190, x 191, x 192, x 193, x 194, x 195, x 196, x 197, x 198, x 199, x 200, x 201, x 202, x 203, x 204, x 205, x 206, x 207, x 208, x 209, x 210, x 211, x 212, x 213, x 214, x 215, x 216, x 217, x 218, x 219, x 220, x 221, x 222, x 223, x 224, x 225, x 226, x 227, x 228, x 229, x 230, x 231, x 232, x 233, x 234, x 235, x 236, x 237, x 238, x 239, x 240, x 241, x 242, x 243, x 244, x 245, x 246, x 247, x 248, x 249, x 250, x 251, x 252, x 253, x 254, x 255, x 256, x 257, x 258, x 259, x 260, x 261, x 262, x 263, x 264, x 265, x 266, x 267, x 268, x 269, x 270, x 271, x 272, x 273, x 274, x 275, x 276, x 277, x 278, x 279, x 280, x 281, x 282, x 283, x 284, x 285]
def o2I (l : List UInt8) (H : Hp) (L1 : Nat) (LS PS : List Mq) (fr : List AV) (K : Hp) : Prop := ∃ i : Nat, i ≤ PS.length ∧ OmS H K L1 LS PS ML (CP i) ∧ BndH K.length K ∧ ∃ x : Nat → AV, fr = [.str l, x 1, x 2, .sl false 1 (strs (listAns l).1), x 4, .sl false 1 (strs (tokAns l).1), x 6, .sl false 3 (prs (parAns l).1), x 8, x 9, .sl true 1 (rowsQ LS), .sl true 1 (rowsQ PS), x 12, x 13, x 14, x 15, x 16, x 17, x 18, x 19, x 20, x 21, .int .i64 i, x 23, x 24, x 25, x 26, x 27, x 28, x 29, x 30, x 31, x 32, x 33, x 34, x 35, x 36, x 37, x 38, x 39, x 40, x 41, x 42, x 43, x 44, x 45, x 46, x 47, x 48, x 49, x 50, x 51, x 52, x 53, x 54, x 55, x 56, x 57, x 58, x 59, x 60, x 61, x 62, x 63, x 64, x 65, x 66, x 67, x 68, x 69, x 70, x 71, x 72, x 73, x 74, x 75, x 76, x 77, x 78, x 79, x 80, x 81, x 82, x 83, x 84, x 85, x 86, x 87, x 88, x 89, x 90, x 91, x 92, x 93, x 94, x 95, x 96, x 97, x 98, x 99, x 100, x 101, x 102, x 103, x 104, x 105, x 106, x 107, x 108, x 109, x 110, x 111, x 112, x 113, x 114, x 115, x 116, x 117, x 118, x 119, x 120, x 121, x 122, x 123, x 124, x 125, x 126, x 127, x 128, x 129, x 130, x 131, x 132, x 133, x 134, x 135, x 136, x 137, x 138, x 139, x 140, x 141, x 142, x 143, x 144, x 145, x 146, x 147, x 148, x 149, x 150, x 151, x 152, x 153, x 154, x 155, x 156, x 157, x 158, x 159, x 160, x 161, x 162, x 163, x 164, x 165, x 166, x 167, x 168, x 169, x 170, x 171, x 172, x 173, x 174, x 175, x 176, x 177, x 178, x 179, x 180, x 181, x 182, x 183, x 184, x 185, x 186, x 187, x 188, x 189, x 190, x 191, x 192, x 193, x 194, x 195, x 196, x 197, x 198, x 199, x 200, x 201, x 202, x 203, x 204, x 205, x 206, x 207, x 208, x 209, x 210, x 211, x 212, x 213, x 214, x 215, x 216, x 217, x 218, x 219, x 220, x 221, x 222, x 223, x 224, x 225, x 226, x 227, x 228, x 229, x 230, x 231, x 232, x 233, x 234, x 235, x 236, x 237, x 238, x 239, x 240, x 241, x 242, x 243, x 244, x 245, x 246, x 247, x 248, x 249, x 250, x 251, x 252, x 253, x 254, x 255, x 256, x 257, x 258, x 259, x 260, x 261, x 262, x 263, x 264, x 265, x 266, x 267, x 268, x 269, x 270, x 271, x 272, x 273, x 274, x 275, x 276, x 277, x 278, x 279, x 280, x 281, x 282, x 283, x 284, x 285]
def o2J (l : List UInt8) (H : Hp) (L1 : Nat) (LS PS : List Mq) (i : Nat) (e : Mq) (fr : List AV) (K : Hp) : Prop := ∃ j : Nat, j ≤ e.n ∧ OmS H K L1 LS PS ML (CPj i j) ∧ BndH K.length K ∧ ∃ x : Nat → AV, fr = [.str l, x 1, x 2, .sl false 1 (strs (listAns l).1), x 4, .sl false 1 (strs (tokAns l).1), x 6, .sl false 3 (prs (parAns l).1), x 8, x 9, .sl true 1 (rowsQ LS), .sl true 1 (rowsQ PS), x 12, x 13, x 14, x 15, x 16, x 17, x 18, x 19, x 20, x 21, .int .i64 i, .int .i64 j, x 24, x 25, x 26, x 27, x 28, x 29, x 30, x 31, x 32, x 33, x 34, x 35, x 36, x 37, x 38, x 39, x 40, x 41, x 42, x 43, x 44, x 45, x 46, x 47, x 48, x 49, x 50, x 51, x 52, x 53, x 54, x 55, x 56, x 57, x 58, x 59, x 60, x 61, x 62, x 63, x 64, x 65, x 66, x 67, x 68, x 69, x 70, x 71, x 72, x 73, x 74, x 75, x 76, x 77, x 78, x 79, x 80, x 81, x 82, x 83, x 84, x 85, x 86, x 87, x 88, x 89, x 90, x 91, x 92, x 93, x 94, x 95, x 96, x 97, x 98, x 99, x 100, x 101, x 102, x 103, x 104, x 105, x 106, x 107, x 108, x 109, x 110, x 111, x 112, x 113, x 114, x 115, x 116, x 117, x 118, x 119, x 120, x 121, x 122, x 123, x 124, x 125, x 126, x 127, x 128, x 129, x 130, x 131, x 132, x 133, x 134, x 135, x 136, x 137, x 138, x 139, x 140, x 141, x 142, x 143, x 144, x 145, x 146, x 147, x 148, x 149, x 150, x 151, x 152, x 153, x 154, x 155, x 156, x 157, x 158, x 159, x 160, x 161, x 162, x 163, x 164, x 165, x 166, x 167, x 168, x 169, x 170, x 171, x 172, x 173, x 174, x 175, x 176, x 177, x 178, x 179, x 180, x 181, x 182, x 183, x 184, x 185, x 186, x 187, x 188, x 189, x 190, x 191, x 192, x 193, x 194, x 195, x 196, x 197, x 198, x 199, x 200, x 201, x 202, x 203, x 204, x 205, x 206, x 207, x 208, x 209, x 210, x 211, x 212, x 213, x 214, x 215, x 216, x 217, x 218, x 219, x 220, x 221, x 222, x 223, x 224, x 225, x 226, x 227, x 228, x 229, x 230, x 231, x 232, x 233, x 234, x 235, x 236, x 237, x 238, x 239, x 240, x 241, x 242, x 243, x 244, x 245, x 246, x 247, x 248, x 249, x 250, x 251, x 252, x 253, x 254, x 255, x 256, x 257, x 258, x 259, x 260, x 261, x 262, x 263, x 264, x 265, x 266, x 267, x 268, x 269, x 270, x 271, x 272, x 273, x 274, x 275, x 276, x 277, x 278, x 279, x 280, x 281, x 282, x 283, x 284, x 285]
def o3I (l : List UInt8) (H : Hp) (L1 : Nat) (LS PS : List Mq) (fr : List AV) (K : Hp) : Prop := ∃ i : Nat, i ≤ LS.length ∧ OmS H K L1 LS PS ML MP ∧ BndH K.length K ∧ ∃ x : Nat → AV, fr = [.str l, x 1, x 2, .sl false 1 (strs (listAns l).1), x 4, .sl false 1 (strs (tokAns l).1), x 6, .sl false 3 (prs (parAns l).1), x 8, x 9, .sl true 1 (rowsQ LS), .sl true 1 (rowsQ PS), x 12, x 13, x 14, x 15, x 16, x 17, x 18, x 19, x 20, x 21, x 22, x 23, .int .i64 i, x 25, x 26, x 27, x 28, x 29, x 30, x 31, x 32, x 33, x 34, x 35, x 36, x 37, x 38, x 39, x 40, x 41, x 42, x 43, x 44, x 45, x 46, x 47, x 48, x 49, x 50, x 51, x 52, x 53, x 54, x 55, x 56, x 57, x 58, x 59, x 60, x 61, x 62, x 63, x 64, x 65, x 66, x 67, x 68, x 69, x 70, x 71, x 72, x 73, x 74, x 75, x 76, x 77, x 78, x 79, x 80, x 81, x 82, x 83, x 84, x 85, x 86, x 87, x 88, x 89, x 90, x 91, x 92, x 93, x 94, x 95, x 96, x 97, x 98, x 99, x 100, x 101, x 102, x 103, x 104, x 105, x 106, x 107, x 108, x 109, x 110, x 111, x 112, x 113, x 114, x 115, x 116, x 117, x 118, x 119, x 120, x 121, x 122, x 123, x 124, x 125, x 126, x 127, x 128, x 129, x 130, x 131, x 132, x 133, x 134, x 135, x 136, x 137, x 138, x 139, x 140, x 141, x 142, x 143, x 144, x 145, x 146, x 147, x 148, x 149, x 150, x 151, x 152, x 153, x 154, x 155, x 156, x 157, x 158, x 159, x 160, x 161, x 162, x 163, x 164, x 165, x 166, x 167, x 168, x 169, x 170, x 171, x 172, x 173, x 174, x 175, x 176, x 177, x 178, x 179, x 180, x 181, x 182, x 183, x 184, x 185, x 186, x 187, x 188, x 189, x 190, x 191, x 192, x 193, x 194, x 195, x 196, x 197, x 198, x 199, x 200, x 201, x 202, x 203, x 204, x 205, x 206, x 207, x 208, x 209, x 210, x 211, x 212, x 213, x 214, x 215, x 216, x 217, x 218, x 219, x 220, x 221, x 222, x 223, x 224, x 225, x 226, x 227, x 228, x 229, x 230, x 231, x 232, x 233, x 234, x 235, x 236, x 237, x 238, x 239, x 240, x 241, x 242, x 243, x 244, x 245, x 246, x 247, x 248, x 249, x 250, x 251, x 252, x 253, x 254, x 255, x 256, x 257, x 258, x 259, x 260, x 261, x 262, x 263, x 264, x 265, x 266, x 267, x 268, x 269, x 270, x 271, x 272, x 273, x 274, x 275, x 276, x 277, x 278, x 279, x 280, x 281, x 282, x 283, x 284, x 285]
def o3J (l : List UInt8) (H : Hp) (L1 : Nat) (LS PS : List Mq) (i : Nat) (e : Mq) (fr : List AV) (K : Hp) : Prop := ∃ (j : Nat) (gv : AV), j ≤ 20 ∧ OmS H K L1 LS PS ML MP ∧ BX K (fun d => L1 ≤ d ∨ ∃ o n c k, e.v = .bx d o n c k) 1 gv (e.n + j) (fun _ _ => True) ∧ BndH K.length K ∧ ∃ x : Nat → AV, fr = [.str l, x 1, x 2, .sl false 1 (strs (listAns l).1), x 4, .sl false 1 (strs (tokAns l).1), x 6, .sl false 3 (prs (parAns l).1), x 8, x 9, .sl true 1 (rowsQ LS), .sl true 1 (rowsQ PS), x 12, x 13, x 14, x 15, x 16, x 17, x 18, x 19, x 20, x 21, x 22, x 23, .int .i64 i, gv, .int .i64 j, x 27, x 28, x 29, x 30, x 31, x 32, x 33, x 34, x 35, x 36, x 37, x 38, x 39, x 40, x 41, x 42, x 43, x 44, x 45, x 46, x 47, x 48, x 49, x 50, x 51, x 52, x 53, x 54, x 55, x 56, x 57, x 58, x 59, x 60, x 61, x 62, x 63, x 64, x 65, x 66, x 67, x 68, x 69, x 70, x 71, x 72, x 73, x 74, x 75, x 76, x 77, x 78, x 79, x 80, x 81, x 82, x 83, x 84, x 85, x 86, x 87, x 88, x 89, x 90, x 91, x 92, x 93, x 94, x 95, x 96, x 97, x 98, x 99, x 100, x 101, x 102, x 103, x 104, x 105, x 106, x 107, x 108, x 109, x 110, x 111, x 112, x 113, x 114, x 115, x 116, x 117, x 118, x 119, x 120, x 121, x 122, x 123, x 124, x 125, x 126, x 127, x 128, x 129, x 130, x 131, x 132, x 133, x 134, x 135, x 136, x 137, x 138, x 139, x 140, x 141, x 142, x 143, x 144, x 145, x 146, x 147, x 148, x 149, x 150, x 151, x 152, x 153, x 154, x 155, x 156, x 157, x 158, x 159, x 160, x 161, x 162, x 163, x 164, x 165, x 166, x 167, x 168, x 169, x 170, x 171, x 172, x 173, x 174, x 175, x 176, x 177, x 178, x 179, x 180, x 181, x 182, x 183, x 184, x 185, x 186, x 187, x 188, x 189, x 190, x 191, x 192, x 193, x 194, x 195, x 196, x 197, x 198, x 199, x 200, x 201, x 202, x 203, x 204, x 205, x 206, x 207, x 208, x 209, x 210, x 211, x 212, x 213, x 214, x 215, x 216, x 217, x 218, x 219, x 220, x 221, x 222, x 223, x 224, x 225, x 226, x 227, x 228, x 229, x 230, x 231, x 232, x 233, x 234, x 235, x 236, x 237, x 238, x 239, x 240, x 241, x 242, x 243, x 244, x 245, x 246, x 247, x 248, x 249, x 250, x 251, x 252, x 253, x 254, x 255, x 256, x 257, x 258, x 259, x 260, x 261, x 262, x 263, x 264, x 265, x 266, x 267, x 268, x 269, x 270, x 271, x 272, x 273, x 274, x 275, x 276, x 277, x 278, x 279, x 280, x 281, x 282, x 283, x 284, x 285]
def o4I (l : List UInt8) (H : Hp) (L1 : Nat) (LS PS : List Mq) (fr : List AV) (K : Hp) : Prop := ∃ i : Nat, i ≤ PS.length ∧ OmS H K L1 LS PS ML MP ∧ BndH K.length K ∧ ∃ x : Nat → AV, fr = [.str l, x 1, x 2, .sl false 1 (strs (listAns l).1), x 4, .sl false 1 (strs (tokAns l).1), x 6, .sl false 3 (prs (parAns l).1), x 8, x 9, .sl true 1 (rowsQ LS), .sl true 1 (rowsQ PS), x 12, x 13, x 14, x 15, x 16, x 17, x 18, x 19, x 20, x 21, x 22, x 23, x 24, x 25, x 26, .int .i64 i, x 28, x 29, x 30, x 31, x 32, x 33, x 34, x 35, x 36, x 37, x 38, x 39, x 40, x 41, x 42, x 43, x 44, x 45, x 46, x 47, x 48, x 49, x 50, x 51, x 52, x 53, x 54, x 55, x 56, x 57, x 58, x 59, x 60, x 61, x 62, x 63, x 64, x 65, x 66, x 67, x 68, x 69, x 70, x 71, x 72, x 73, x 74, x 75, x 76, x 77, x 78, x 79, x 80, x 81, x 82, x 83, x 84, x 85, x 86, x 87, x 88, x 89, x 90, x 91, x 92, x 93, x 94, x 95, x 96, x 97, x 98, x 99, x 100, x 101, x 102, x 103, x 104, x 105, x 106, x 107, x 108, x 109, x 110, x 111, x 112, x 113, x 114, x 115, x 116, x 117, x 118, x 119, x 120, x 121, x 122, x 123, x 124, x 125, x 126, x 127, x 128, x 129, x 130, x 131, x 132, x 133, x 134, x 135, x 136, x 137, x 138, x 139, x 140, x 141, x 142, x 143, x 144, x 145, x 146, x 147, x 148, x 149, x 150, x 151, x 152, x 153, x 154, x 155, x 156, x 157, x 158, x 159, x 160, x 161, x 162, x 163, x 164, x 165, x 166, x 167, x 168, x 169, x 170, x 171, x 172, x 173, x 174, x 175, x 176, x 177, x 178, x 179, x 180, x 181, x 182, x 183, x 184, x 185, x 186, x 187, x 188, x 189, x 190, x 191, x 192, x 193, x 194, x 195, x 196, x 197, x 198, x 199, x 200, x 201, x 202, x 203, x 204, x 205, x 206, x 207, x 208, x 209, x 210, x 211, x 212, x 213, x 214, x 215, x 216, x 217, x 218, x 219, x 220, x 221, x 222, x 223, x 224, x 225, x 226, x 227, x 228, x 229, x 230, x 231, x 232, x 233, x 234, x 235, x 236, x 237, x 238, x 239, x 240, x 241, x 242, x 243, x 244, x 245, x 246, x 247, x 248, x 249, x 250, x 251, x 252, x 253, x 254, x 255, x 256, x 257, x 258, x 259, x 260, x 261, x 262, x 263, x 264, x 265, x 266, x 267, x 268, x 269, x 270, x 271, x 272, x 273, x 274, x 275, x 276, x 277, x 278, x 279, x 280, x 281, x 282, x 283, x 284, x 285]
def o4J (l : List UInt8) (H : Hp) (L1 : Nat) (LS PS : List Mq) (i : Nat) (e : Mq) (fr : List AV) (K : Hp) : Prop := ∃ (j : Nat) (gv : AV), j ≤ 20 ∧ OmS H K L1 LS PS ML MP ∧ BX K (fun d => L1 ≤ d ∨ ∃ o n c k, e.v = .bx d o n c k) 3 gv (e.n + j) (fun _ _ => True) ∧ BndH K.length K ∧ ∃ x : Nat → AV, fr = [.str l, x 1, x 2, .sl false 1 (strs (listAns l).1), x 4, .sl false 1 (strs (tokAns l).1), x 6, .sl false 3 (prs (parAns l).1), x 8, x 9, .sl true 1 (rowsQ LS), .sl true 1 (rowsQ PS), x 12, x 13, x 14, x 15, x 16, x 17, x 18, x 19, x 20, x 21, x 22, x 23, x 24, x 25, x 26, .int .i64 i, gv, .int .i64 j, x 30, x 31, x 32, x 33, x 34, x 35, x 36, x 37, x 38, x 39, x 40, x 41, x 42, x 43, x 44, x 45, x 46, x 47, x 48, x 49, x 50, x 51, x 52, x 53, x 54, x 55, x 56, x 57, x 58, x 59, x 60, x 61, x 62, x 63, x 64, x 65, x 66, x 67, x 68, x 69, x 70, x 71, x 72, x 73, x 74, x 75, x 76, x 77, x 78, x 79, x 80, x 81, x 82, x 83, x 84, x 85, x 86, x 87, x 88, x 89, x 90, x 91, x 92, x 93, x 94, x 95, x 96, x 97, x 98, x 99, x 100, x 101, x 102, x 103, x 104, x 105, x 106, x 107, x 108, x 109, x 110, x 111, x 112, x 113, x 114, x 115, x 116, x 117, x 118, x 119, x 120, x 121, x 122, x 123, x 124, x 125, x 126, x 127, x 128, x 129, x 130, x 131, x 132, x 133, x 134, x 135, x 136, x 137, x 138, x 139, x 140, x 141, x 142, x 143, x 144, x 145, x 146, x 147, x 148, x 149, x 150, x 151, x 152, x 153, x 154, x 155, x 156, x 157, x 158, x 159, x 160, x 161, x 162, x 163, x 164, x 165, x 166, x 167, x 168, x 169, x 170, x 171, x 172, x 173, x 174, x 175, x 176, x 177, x 178, x 179, x 180, x 181, x 182, x 183, x 184, x 185, x 186, x 187, x 188, x 189, x 190, x 191, x 192, x 193, x 194, x 195, x 196, x 197, x 198, x 199, x 200, x 201, x 202, x 203, x 204, x 205, x 206, x 207, x 208, x 209, x 210, x 211, x 212, x 213, x 214, x 215, x 216, x 217, x 218, x 219, x 220, x 221, x 222, x 223, x 224, x 225, x 226, x 227, x 228, x 229, x 230, x 231, x 232, x 233, x 234, x 235, x 236, x 237, x 238, x 239, x 240, x 241, x 242, x 243, x 244, x 245, x 246, x 247, x 248, x 249, x 250, x 251, x 252, x 253, x 254, x 255, x 256, x 257, x 258, x 259, x 260, x 261, x 262, x 263, x 264, x 265, x 266, x 267, x 268, x 269, x 270, x 271, x 272, x 273, x 274, x 275, x 276, x 277, x 278, x 279, x 280, x 281, x 282, x 283, x 284, x 285]
def o5I (l : List UInt8) (LS PS : List Mq) (K0 : Hp) (fr : List AV) (K : Hp) : Prop := K = K0 ∧ ∃ i : Nat, i ≤ LS.length ∧ ∃ x : Nat → AV, fr = [.str l, x 1, x 2, .sl false 1 (strs (listAns l).1), x 4, .sl false 1 (strs (tokAns l).1), x 6, .sl false 3 (prs (parAns l).1), x 8, x 9, .sl true 1 (rowsQ LS), .sl true 1 (rowsQ PS), x 12, x 13, x 14, x 15, x 16, x 17, x 18, x 19, x 20, x 21, x 22, x 23, x 24, x 25, x 26, x 27, x 28, x 29, .int .i64 i, x 31, x 32, x 33, x 34, x 35, x 36, x 37, x 38, x 39, x 40, x 41, x 42, x 43, x 44, x 45, x 46, x 47, x 48, x 49, x 50, x 51, x 52, x 53, x 54, x 55, x 56, x 57, x 58, x 59, x 60, x 61, x 62, x 63, x 64, x 65, x 66, x 67, x 68, x 69, x 70, x 71, x 72, x 73, x 74, x 75, x 76, x 77, x 78, x 79, x 80, x 81, x 82, x 83, x 84, x 85, x 86, x 87, x 88, x 89, x 90, x 91, x 92, x 93, x 94, x 95, x 96, x 97, x 98, x 99, x 100, x 101, x 102, x 103, x 104, x 105, x 106, x 107, x 108, x 109, x 110, x 111, x 112, x 113, x 114, x 115, x 116, x 117, x 118, x 119, x 120, x 121, x 122, x 123, x 124, x 125, x 126, x 127, x 128, x 129, x 130, x 131, x 132, x 133, x 134, x 135, x 136, x 137, x 138, x 139, x 140, x 141, x 142, x 143, x 144, x 145, x 146, x 147, x 148, x 149, x 150, x 151, x 152, x 153, x 154, x 155, x 156, x 157, x 158, x 159, x 160, x 161, x 162, x 163, x 164, x 165, x 166, x 167, x 168, x 169, x 170, x 171, x 172, x 173, x 174, x 175, x 176, x 177, x 178, x 179, x 180, x 181, x 182, x 183, x 184, x 185, x 186, x 187, x 188, x 189, x 190, x 191, x 192, x 193, x 194, x 195, x 196, x 197, x 198, x 199, x 200, x 201, x 202, x 203, x 204, x 205, x 206, x 207, x 208, x 209, x 210, x 211, x 212, x 213, x 214, x 215, x 216, x 217, x 218, x 219, x 220, x 221, x 222, x 223, x 224, x 225, x 226, x 227, x 228, x 229, x 230, x 231, x 232, x 233, x 234, x 235, x 236, x 237, x 238, x 239, x 240, x 241, x 242, x 243, x 244, x 245, x 246, x 247, x 248, x 249, x 250, x 251, x 252, x 253, x 254, x 255, x 256, x 257, x 258, x 259, x 260, x 261, x 262, x 263, x 264, x 265, x 266, x 267, x 268, x 269, x 270, x 271, x 272, x 273, x 274, x 275, x 276, x 277, x 278, x 279, x 280, x 281, x 282, x 283, x 284, x 285]
def o5J (l : List UInt8) (LS PS : List Mq) (K0 : Hp) (i : Nat) (e : Mq) (fr : List AV) (K : Hp) : Prop := K = K0 ∧ ∃ j : Nat, j ≤ e.n ∧ ∃ x : Nat → AV, fr = [.str l, x 1, x 2, .sl false 1 (strs (listAns l).1), x 4, .sl false 1 (strs (tokAns l).1), x 6, .sl false 3 (prs (parAns l).1), x 8, x 9, .sl true 1 (rowsQ LS), .sl true 1 (rowsQ PS), x 12, x 13, x 14, x 15, x 16, x 17, x 18, x 19, x 20, x 21, x 22, x 23, x 24, x 25, x 26, x 27, x 28, x 29, .int .i64 i, .int .i64 j, x 32, x 33, x 34, x 35, x 36, x 37, x 38, x 39, x 40, x 41, x 42, x 43, x 44, x 45, x 46, x 47, x 48, x 49, x 50, x 51, x 52, x 53, x 54, x 55, x 56, x 57, x 58, x 59, x 60, x 61, x 62, x 63, x 64, x 65, x 66, x 67, x 68, x 69, x 70, x 71, x 72, x 73, x 74, x 75, x 76, x 77, x 78, x 79, x 80, x 81, x 82, x 83, x 84, x 85, x 86, x 87, x 88, x 89, x 90, x 91, x 92, x 93, x 94, x 95, x 96, x 97, x 98, x 99, x 100, x 101, x 102, x 103, x 104, x 105, x 106, x 107, x 108, x 109, x 110, x 111, x 112, x 113, x 114, x 115, x 116, x 117, x 118, x 119, x 120, x 121, x 122, x 123, x 124, x 125, x 126, x 127, x 128, x 129, x 130, x 131, x 132, x 133, x 134, x 135, x 136, x 137, x 138, x 139, x 140, x 141, x 142, x 143, x 144, x 145, x 146, x 147, x 148, x 149, x 150, x 151, x 152, x 153, x 154, x 155, x 156, x 157, x 158, x 159, x 160, x 161, x 162, x 163, x 164, x 165, x 166, x 167, x 168, x 169, x 170, x 171, x 172, x 173, x 174, x 175, x 176, x 177, x 178, x 179, x 180, x 181, x 182, x 183, x 184, x 185, x 186, x 187, x 188, x 189, x 190, x 191, x 192, x 193, x 194, x 195, x 196, x 197, x 198, x 199, x 200, x 201, x 202, x 203, x 204, x 205, x 206, x 207, x 208, x 209, x 210, x 211, x 212, x 213, x 214, x 215, x 216, x 217, x 218, x 219, x 220, x 221, x 222, x 223, x 224, x 225, x 226, x 227, x 228, x 229, x 230, x 231, x 232, x 233, x 234, x 235, x 236, x 237, x 238, x 239, x 240, x 241, x 242, x 243, x 244, x 245, x 246, x 247, x 248, x 249, x 250, x 251, x 252, x 253, x 254, x 255, x 256, x 257, x 258, x 259, x 260, x 261, x 262, x 263, x 264, x 265, x 266, x 267, x 268, x 269, x 270, x 271, x 272, x 273, x 274, x 275, x 276, x 277, x 278, x 279, x 280, x 281, x 282, x 283, x 284, x 285]
def o6I (l : List UInt8) (LS PS : List Mq) (K0 : Hp) (fr : List AV) (K : Hp) : Prop := K = K0 ∧ ∃ i : Nat, i ≤ PS.length ∧ ∃ x : Nat → AV, fr = [.str l, x 1, x 2, .sl false 1 (strs (listAns l).1), x 4, .sl false 1 (strs (tokAns l).1), x 6, .sl false 3 (prs (parAns l).1), x 8, x 9, .sl true 1 (rowsQ LS), .sl true 1 (rowsQ PS), x 12, x 13, x 14, x 15, x 16, x 17, x 18, x 19, x 20, x 21, x 22, x 23, x 24, x 25, x 26, x 27, x 28, x 29, x 30, x 31, .int .i64 i, x 33, x 34, x 35, x 36, x 37, x 38, x 39, x 40, x 41, x 42, x 43, x 44, x 45, x 46, x 47, x 48, x 49, x 50, x 51, x 52, x 53, x 54, x 55, x 56, x 57, x 58, x 59, x 60, x 61, x 62, x 63, x 64, x 65, x 66, x 67, x 68, x 69, x 70, x 71, x 72, x 73, x 74, x 75, x 76, x 77, x 78, x 79, x 80, x 81, x 82, x 83, x 84, x 85, x 86, x 87, x 88, x 89, x 90, x 91, x 92, x 93, x 94, x 95, x 96, x 97, x 98, x 99, x 100, x 101, x 102, x 103, x 104, x 105, x 106, x 107, x 108, x 109, x 110, x 111, x 112, x 113, x 114, x 115, x 116, x 117, x 118, x 119, x 120, x 121, x 122, x 123, x 124, x 125, x 126, x 127, x 128, x 129, x 130, x 131, x 132, x 133, x 134, x 135, x 136, x 137, x 138, x 139, x 140, x 141, x 142, x 143, x 144, x 145, x 146, x 147, x 148, x 149, x 150, x 151, x 152, x 153, x 154, x 155, x 156, x 157, x 158, x 159, x 160, x 161, x 162, x 163, x 164, x 165, x 166, x 167, x 168, x 169, x 170, x 171, x 172, x 173, x 174, x 175, x 176, x 177, x 178, x 179, x 180, x 181, x 182, x 183, x 184, x 185, x 186, x 187, x 188, x 189, x 190, x 191, x 192, x 193, x 194, x 195, x 196, x 197, x 198, x 199, x 200, x 201, x 202, x 203, x 204, x 205, x 206, x 207, x 208, x 209, x 210, x 211, x 212, x 213, x 214, x 215, x 216, x 217, x 218, x 219, x 220, x 221, x 222, x 223, x 224, x 225, x 226, x 227, x 228, x 229, x 230, x 231, x 232, x 233, x 234, x 235, x 236, x 237, x 238, x 239, x 240, x 241, x 242, x 243, x 244, x 245, x 246, x 247, x 248, x 249, x 250, x 251, x 252, x 253, x 254, x 255, x 256, x 257, x 258, x 259, x 260, x 261, x 262, x 263, x 264, x 265, x 266, x 267, x 268, x 269, x 270, x 271, x 272, x 273, x 274, x 275, x 276, x 277, x 278, x 279, x 280, x 281, x 282, x 283, x 284, x 285]
def o6J (l : List UInt8) (LS PS : List Mq) (K0 : Hp) (i : Nat) (e : Mq) (fr : List AV) (K : Hp) : Prop := K = K0 ∧ ∃ j : Nat, j ≤ e.n ∧ ∃ x : Nat → AV, fr = [.str l, x 1, x 2, .sl false 1 (strs (listAns l).1), x 4, .sl false 1 (strs (tokAns l).1), x 6, .sl false 3 (prs (parAns l).1), x 8, x 9, .sl true 1 (rowsQ LS), .sl true 1 (rowsQ PS), x 12, x 13, x 14, x 15, x 16, x 17, x 18, x 19, x 20, x 21, x 22, x 23, x 24, x 25, x 26, x 27, x 28, x 29, x 30, x 31, .int .i64 i, .int .i64 j, x 34, x 35, x 36, x 37, x 38, x 39, x 40, x 41, x 42, x 43, x 44, x 45, x 46, x 47, x 48, x 49, x 50, x 51, x 52, x 53, x 54, x 55, x 56, x 57, x 58, x 59, x 60, x 61, x 62, x 63, x 64, x 65, x 66, x 67, x 68, x 69, x 70, x 71, x 72, x 73, x 74, x 75, x 76, x 77, x 78, x 79, x 80, x 81, x 82, x 83, x 84, x 85, x 86, x 87, x 88, x 89, x 90, x 91, x 92, x 93, x 94, x 95, x 96, x 97, x 98, x 99, x 100, x 101, x 102, x 103, x 104, x 105, x 106, x 107, x 108, x 109, x 110, x 111, x 112, x 113, x 114, x 115, x 116, x 117, x 118, x 119, x 120, x 121, x 122, x 123, x 124, x 125, x 126, x 127, x 128, x 129, x 130, x 131, x 132, x 133, x 134, x 135, x 136, x 137, x 138, x 139, x 140, x 141, x 142, x 143, x 144, x 145, x 146, x 147, x 148, x 149, x 150, x 151, x 152, x 153, x 154, x 155, x 156, x 157, x 158, x 159, x 160, x 161, x 162, x 163, x 164, x 165, x 166, x 167, x 168, x 169, x 170, x 171, x 172, x 173, x 174, x 175, x 176, x 177, x 178, x 179, x 180, x 181, x 182, x 183, x 184, x 185, x 186, x 187, x 188, x 189, x 190, x 191, x 192, x 193, x 194, x 195, x 196, x 197, x 198, x 199, x 200, x 201, x 202, x 203, x 204, x 205, x 206, x 207, x 208, x 209, x 210, x 211, x 212, x 213, x 214, x 215, x 216, x 217, x 218, x 219, x 220, x 221, x 222, x 223, x 224, x 225, x 226, x 227, x 228, x 229, x 230, x 231, x 232, x 233, x 234, x 235, x 236, x 237, x 238, x 239, x 240, x 241, x 242, x 243, x 244, x 245, x 246, x 247, x 248, x 249, x 250, x 251, x 252, x 253, x 254, x 255, x 256, x 257, x 258, x 259, x 260, x 261, x 262, x 263, x 264, x 265, x 266, x 267, x 268, x 269, x 270, x 271, x 272, x 273, x 274, x 275, x 276, x 277, x 278, x 279, x 280, x 281, x 282, x 283, x 284, x 285]
section
variable {H : Hp} (E : Env) (Q : AV → Hp → Prop)
theorem same_bx {K : Hp} {lo : Nat} {v : AV} {a b : List (List UInt8)} (hv : BR K lo 1 v (strs a)) (ha : a.length ≤ cap) (hQ : Q (.bool (decide (a = b))) K) : PC Tryd.prog E 43 [v, .sl false 1 (strs b)] K Q := by
  refine PC.pure (args' := [.sl false 1 (strs a), .sl false 1 (strs b)]) (v := .bool (decide (a = b))) (by kernel_rfl) ⟨hv.sees (strs_row _) (strs_free _), .inl rfl, trivial⟩ (fun y hy => ?_) (.bool _) (fun E' Q' _ _ h => same_pc E' _ _ a b ha h) hQ
  simp only [List.mem_cons, List.not_mem_nil, or_false] at hy
  rcases hy with rfl | rfl <;> exact ⟨.sl _ _ _ fun r hr x hx => by obtain ⟨b, _, rfl⟩ := List.mem_map.1 hr; simp at hx; subst hx; exact .str _, rfl⟩
theorem alike_bx {K : Hp} {lo : Nat} {v : AV} {a b : List Par} (hv : BR K lo 3 v (prs a)) (ha : a.length ≤ cap) (hQ : Q (.bool (decide (a = b))) K) : PC Tryd.prog E 30 [v, .sl false 3 (prs b)] K Q := by
  refine PC.pure (args' := [.sl false 3 (prs a), .sl false 3 (prs b)]) (v := .bool (decide (a = b))) (by kernel_rfl) ⟨hv.sees (prs_row _) (prs_free _), .inl rfl, trivial⟩ (fun y hy => ?_) (.bool _) (fun E' Q' _ _ h => alike_pc E' _ _ a b ha h) hQ
  simp only [List.mem_cons, List.not_mem_nil, or_false] at hy
  rcases hy with rfl | rfl <;> exact ⟨bnd_prs _ _ _, rfl⟩
set_option maxHeartbeats 8000000 in
theorem omem_pc (hE : SE2 E) (l : List UInt8) (hl : l.length ≤ 1048576) (hQ : Q (.bool true) H) : PC Tryd.prog E 14 [.str l] H Q := by
  have hcap : (1048577 : Nat) ≤ cap := by simp [cap]
  have n1 : (listAns l).1.length ≤ 1048577 := by have := listAns_len l; omega
  have n2 : (tokAns l).1.length ≤ 1048577 := by
    unfold tokAns
    cases hb : listB l with
    | none => simp
    | some ps => have := listB_len hb; simp only; split <;> simp <;> omega
  have n3 : (parAns l).1.length ≤ 1048577 := by have := parAns_len l; omega
  refine pc_enter Tryd.func14 rfl [97, 102, 173, 193] [(24, [0, 0, 0, 0, 0, 0, 0, 0, 0, 1]), (31, [0, 0, 0, 0, 0, 0, 0, 0, 0, 1]), (39, [0, 0, 0, 0, 0, 3]), (47, [0, 0, 0, 0, 0, 0, 3]), (54, [0, 0, 0, 0, 0, 0, 0, 0, 0, 0, 0, 1]), (62, [0, 0, 0, 0, 0, 0, 0, 0, 0, 0, 0, 0, 1])] (by kernel_rfl) (fun hB => ?_)
  simp [Tryd.ntmps14, Tryd.results14, List.replicate_succ]
  refine awake_pc E _ _ hE.1 ?_
  simp
  refine ref_list_pc E _ _ l (by omega) ?_
  simp
  refine ref_tokens_pc E _ _ l (by omega) ?_
  simp
  refine ref_params_pc E _ _ l (by omega) ?_
  simp
  refine VL_go (o0I l H) (fun fr _ => 3 - (ai (aget fr 12)).toNat) ⟨0, H.length, [], [], by omega, rfl, rfl, ⟨Kpt.refl _, by simp, by simp, List.Pairwise.nil, List.Pairwise.nil, by simp, Nat.le_refl _, Nat.le_refl _⟩, hB, fr_intro (by simp [rowsQ])⟩ ?_
  rintro fr K ⟨i, L1, LS, PS, hi, hLl, hPl, hS, hBK, x, rfl⟩
  have w1 : IntKind.i64.wrap ((i : Int) + 1) = i + 1 := wrap_in (by omega) (by omega)
  by_cases h1 : i < 3
  · have hi3 : (i : Int) < 3 := by omega
    simp [hi3]
    refine list_bx E _ _ l (by omega) (fun K1 a ha k1 b1 => ?_)
    obtain ⟨af, ao, ad, ab⟩ := BX.facts ha
    simp [Kcall, KP, ad]
    refine tokens_bx E _ hE.1 l (by omega) (fun K2 b hb k2 b2 => ?_)
    obtain ⟨bf, bo, bd, bb⟩ := BX.facts hb
    simp [Kcall, KP, bd]
    refine params_bx E _ hE.1 l (by omega) (fun K3 c hc k3 b3 => ?_)
    obtain ⟨cf, co, cd, cb⟩ := BX.facts hc
    have ha3 : BR K3 K.length 1 a (strs (listAns l).1) := (ha.keep k2.2).keep k3.2
    have hb3 : BR K3 K1.length 1 b (strs (tokAns l).1) := hb.keep k3.2
    simp [Kcall, KP, ad, bd, cd]
    refine same_bx E _ ha3 (by omega) ?_
    simp [Kcall, KP, ad, bd, cd]
    refine same_bx E _ hb3 (by omega) ?_
    simp [Kcall, KP, ad, bd, cd]
    refine alike_bx E _ hc (by omega) ?_
    have m1 : 2 * i + 2 ≤ maxLen := by unfold maxLen; omega
    have m2 : (2 * i + 2) * 24 ≤ 140737488355328 := by omega
    have m3 : i + 1 ≤ maxLen := by unfold maxLen; omega
    have m4 : (i + 1) * 24 ≤ 140737488355328 := by omega
    have rl : (rowsQ LS).length = 2 * i := by rw [rowsQ_len, hLl]
    have rp : (rowsQ PS).length = i := by rw [rowsQ_len, hPl]
    have s1 : rowsQ LS ++ [[a], [b]] = rowsQ (LS ++ [⟨a, (strs (listAns l).1).length⟩, ⟨b, (strs (tokAns l).1).length⟩]) := rowsQ_snoc2 LS ⟨a, _⟩ ⟨b, _⟩
    have s2 : rowsQ PS ++ [[c]] = rowsQ (PS ++ [⟨c, (prs (parAns l).1).length⟩]) := rowsQ_snoc PS ⟨c, _⟩
    simp [Kcall, KP, ad, bd, cd, -acells, ha.acells, hb.acells, hc.acells, show List.range 1 = [0] from rfl, show List.range 2 = [0, 1] from rfl, rl, rp, m1, m2, m3, m4, s1, s2, w1, af, bf, cf, ao, bo, co]
    have hS2 := hS.more k1 k2 k3 ha hb hc (by rw [strs_len]; exact n1) (by rw [strs_len]; exact n2) (by rw [show (prs (parAns l).1).length = (parAns l).1.length from List.length_map ..]; exact n3)
    exact Kloop_normal ⟨i + 1, _, _, _, by omega, by simp [hLl]; omega, by simp [hPl], hS2, b3, fr_intro (by simp)⟩ (by simp; omega)
  obtain rfl : i = 3 := by omega
  clear w1 hi
  simp
  have hL6 : LS.length = 6 := hLl
  have hP3 : PS.length = 3 := hPl
  clear hLl hPl
  as_aux_lemma =>
    refine VL_go (o1I l H L1 LS PS) (fun fr _ => LS.length - (ai (aget fr 20)).toNat) ⟨0, by omega, hS.wk (fun i' e m y _ _ h hlt => by omega) (fun _ _ _ _ _ _ h => h), hBK, fr_intro (by simp)⟩ ?_
    clear hS hBK
    rintro fr K ⟨i, hi, hS, hBK, x, rfl⟩
    have w1 : IntKind.i64.wrap ((i : Int) + 1) = i + 1 := wrap_in (by omega) (by omega)
    by_cases h1 : i < LS.length
    · obtain ⟨e, he⟩ : ∃ e, LS[i]? = some e := ⟨_, List.getElem?_eq_getElem h1⟩
      have hat := rowsQ_at he
      have hen := (hS.bx i e he).2
      simp [rowsQ_len, h1]
      refine VL_go (o1J l H L1 LS PS i e) (fun fr _ => e.n - (ai (aget fr 21)).toNat) ⟨0, by omega, hS.wk (fun i' e' m y _ _ hc h => hc (by omega)) (fun _ _ _ _ _ _ h => h), hBK, fr_intro (by simp)⟩ ?_
      clear hS hBK
      rintro fr K ⟨j, hj, hS, hBK, x, rfl⟩
      have hX := (hS.bx i e he).1
      obtain ⟨vf, vo, vd, vb⟩ := hX.facts
      have hvl : ∀ t, (tsl Tryd.prog t).isSome = true → alen Tryd.prog t e.v = some (.int .i64 e.n) := fun t h => hX.alen h
      have w2 : IntKind.i64.wrap ((j : Int) + 1) = j + 1 := wrap_in (by omega) (by omega)
      have w3 : IntKind.i64.wrap (1000 * (i : Int)) = 1000 * i := wrap_in (by omega) (by omega)
      have w4 : IntKind.i64.wrap (1000 * (i : Int) + j) = 1000 * i + j := wrap_in (by omega) (by omega)
      by_cases h2 : j < e.n
      · rcases id hX with ⟨h0, _⟩ | ⟨d, cc, A, hd, hee, hA, g3, g4, g5, g6, g7⟩
        · omega
        have hjl2 : j + 1 ≤ A.length := by omega
        simp [-alen, hvl, hat, vd, h2, rowsQ_len, h1, w3, w4]
        refine digits_pc E _ _ hE (1000 * (i : Int) + j) (by omega) (by omega) ?_
        simp [Kcall, KP, preH_refl, hee, h2, hA, hjl2, w2]
        rw [hee] at hX
        obtain ⟨b1, b2⟩ := hX.mark hA h2 (r := [mkL i j]) rfl (by simp [mkL]) (C' := (fun m u => m < j + 1 → u = mkL i m)) (fun m u hm hu hlt => by
            split at hu
            · rename_i h
              rw [show m - j * 1 = 0 by omega] at hu
              simp at hu
              rw [show m = j by omega]; exact hu.symm
            · exact hu (.inr ⟨rfl, by omega⟩))
        simp only [Nat.mul_one, List.singleton_append] at b1 b2
        rw [← hee] at b1
        have hS2 := hS.putL he hee (C' := CLj i (j + 1)) (BX.wk b1 (fun _ h => h) (fun m u _ _ hc hlt => hc (by omega))) (fun i' e' he' hi' m y hm hc hlt => hc (by omega))
        exact Kloop_normal ⟨j + 1, by omega, hS2, by rw [List.length_set]; exact bndX_put hBK _ fun y hy => (b2 y hy).bnd _, fr_intro (by simp)⟩ (by simp; omega)
      · simp [-alen, hvl, hat, vd, h2, rowsQ_len, h1, w1]
        exact Kloop_normal ⟨i + 1, by omega, hS.wk (fun i' e' m y he' hm hc hlt => hc (by
            by_cases hii : i' = i
            · subst hii; rw [he] at he'; cases he'
              exact .inr ⟨rfl, by omega⟩
            · exact .inl (by omega))) (fun _ _ _ _ _ _ h => h), hBK, fr_intro (by simp)⟩ (by simp; omega)
    obtain rfl : i = LS.length := by omega
    clear w1 hi
    simp [rowsQ_len]
    replace hS : OmS H K L1 LS PS ML T8 := hS.wk (fun i' e m y he' hm hc => hc (List.getElem?_eq_some_iff.1 he').1) (fun _ _ _ _ _ _ h => h)
    as_aux_lemma =>
      refine VL_go (o2I l H L1 LS PS) (fun fr _ => PS.length - (ai (aget fr 22)).toNat) ⟨0, by omega, hS.wk (fun _ _ _ _ _ _ h => h) (fun i' e m y _ _ h hlt => by omega), hBK, fr_intro (by simp)⟩ ?_
      clear hS hBK
      rintro fr K ⟨i, hi, hS, hBK, x, rfl⟩
      have w1 : IntKind.i64.wrap ((i : Int) + 1) = i + 1 := wrap_in (by omega) (by omega)
      by_cases h1 : i < PS.length
      · obtain ⟨e, he⟩ : ∃ e, PS[i]? = some e := ⟨_, List.getElem?_eq_getElem h1⟩
        have hat := rowsQ_at he
        have hen := (hS.px i e he).2
        simp [rowsQ_len, h1]
        refine VL_go (o2J l H L1 LS PS i e) (fun fr _ => e.n - (ai (aget fr 23)).toNat) ⟨0, by omega, hS.wk (fun _ _ _ _ _ _ h => h) (fun i' e' m y _ _ hc h => hc (by omega)), hBK, fr_intro (by simp)⟩ ?_
        clear hS hBK
        rintro fr K ⟨j, hj, hS, hBK, x, rfl⟩
        have hX := (hS.px i e he).1
        obtain ⟨vf, vo, vd, vb⟩ := hX.facts
        have hvl : ∀ t, (tsl Tryd.prog t).isSome = true → alen Tryd.prog t e.v = some (.int .i64 e.n) := fun t h => hX.alen h
        have w2 : IntKind.i64.wrap ((j : Int) + 1) = j + 1 := wrap_in (by omega) (by omega)
        have w3 : IntKind.i64.wrap (1000 * (i : Int)) = 1000 * i := wrap_in (by omega) (by omega)
        have w4 : IntKind.i64.wrap (1000 * (i : Int) + j) = 1000 * i + j := wrap_in (by omega) (by omega)
        by_cases h2 : j < e.n
        · rcases id hX with ⟨h0, _⟩ | ⟨d, cc, A, hd, hee, hA, g3, g4, g5, g6, g7⟩
          · omega
          have hjl2 : j * 3 + 3 ≤ A.length := by omega
          simp [-alen, hvl, hat, vd, h2, rowsQ_len, h1, w3, w4]
          refine digits_pc E _ _ hE (1000 * (i : Int) + j) (by omega) (by omega) ?_
          simp [Kcall, KP, preH_refl, hee, h2, hA, hjl2, w2]
          rw [hee] at hX
          obtain ⟨b1, b2⟩ := hX.mark hA h2 (r := [mkP i (j * 3), mkP i (j * 3 + 1), mkP i (j * 3 + 2)]) rfl (by rw [mkP_0, mkP_1, mkP_2]; simp) (C' := (fun m u => m < (j + 1) * 3 → u = mkP i m)) (fun m u hm hu hlt => by
              split at hu
              · rename_i h
                obtain h' | h' | h' : m = j * 3 ∨ m = j * 3 + 1 ∨ m = j * 3 + 2 := by omega
                · rw [show m - j * 3 = 0 by omega] at hu
                  simp at hu
                  rw [h']; exact hu.symm
                · rw [show m - j * 3 = 1 by omega] at hu
                  simp at hu
                  rw [h']; exact hu.symm
                · rw [show m - j * 3 = 2 by omega] at hu
                  simp at hu
                  rw [h']; exact hu.symm
              · exact hu (.inr ⟨rfl, by omega⟩))
          simp only [List.cons_append, List.nil_append, mkP_0, mkP_1, mkP_2] at b1 b2
          rw [← hee] at b1
          have hS2 := hS.putP he hee (D' := CPj i (j + 1)) (BX.wk b1 (fun _ h => h) (fun m u _ _ hc hlt => hc (by omega))) (fun i' e' he' hi' m y hm hc hlt => hc (by omega))
          exact Kloop_normal ⟨j + 1, by omega, hS2, by rw [List.length_set]; exact bndX_put hBK _ fun y hy => (b2 y hy).bnd _, fr_intro (by simp)⟩ (by simp; omega)
        · simp [-alen, hvl, hat, vd, h2, rowsQ_len, h1, w1]
          exact Kloop_normal ⟨i + 1, by omega, hS.wk (fun _ _ _ _ _ _ h => h) (fun i' e' m y he' hm hc hlt => hc (by
              by_cases hii : i' = i
              · subst hii; rw [he] at he'; cases he'
                exact .inr ⟨rfl, by omega⟩
              · exact .inl (by omega))), hBK, fr_intro (by simp)⟩ (by simp; omega)
      obtain rfl : i = PS.length := by omega
      clear w1 hi
      simp [rowsQ_len]
      replace hS : OmS H K L1 LS PS ML MP := hS.wk (fun _ _ _ _ _ _ h => h) (fun i' e m y he' hm hc => hc (List.getElem?_eq_some_iff.1 he').1)
      as_aux_lemma =>
        refine VL_go (o3I l H L1 LS PS) (fun fr _ => LS.length - (ai (aget fr 24)).toNat) ⟨0, by omega, hS, hBK, fr_intro (by simp)⟩ ?_
        clear hS hBK
        rintro fr K ⟨i, hi, hS, hBK, x, rfl⟩
        have w1 : IntKind.i64.wrap ((i : Int) + 1) = i + 1 := wrap_in (by omega) (by omega)
        by_cases h1 : i < LS.length
        · obtain ⟨e, he⟩ : ∃ e, LS[i]? = some e := ⟨_, List.getElem?_eq_getElem h1⟩
          have hat := rowsQ_at he
          obtain ⟨hX, hen⟩ := hS.bx i e he
          obtain ⟨vf, vo, vd, vb⟩ := hX.facts
          simp [rowsQ_len, h1, hat, vd]
          refine VL_go (o3J l H L1 LS PS i e) (fun fr _ => 20 - (ai (aget fr 26)).toNat) ⟨0, e.v, by omega, hS, BX.wk (hX.of_eq (fun _ _ _ _ _ _ => rfl) (fun d o n c k ee => (Or.inr ⟨o, n, c, k, ee⟩ : L1 ≤ d ∨ ∃ o n c k, e.v = .bx d o n c k)) (fun _ _ _ _ h => h)) (fun _ h => h) (fun _ _ _ _ _ => trivial), hBK, fr_intro (by simp)⟩ ?_
          clear hS hX vf vo vd vb hBK
          rintro fr K ⟨j, gv, hj, hS, hG, hBK, x, rfl⟩
          obtain ⟨vf, vo, vd, vb⟩ := hG.facts
          have w2 : IntKind.i64.wrap ((j : Int) + 1) = j + 1 := wrap_in (by omega) (by omega)
          by_cases h2 : j < 20
          · have h20 : (j : Int) < 20 := by omega
            simp [h20, vd]
            refine digits_pc E _ _ hE (i : Int) (by omega) (by omega) ?_
            have il : (itoa (i : Int)).length + 5 ≤ maxLen := by have := (itoa_le (i : Int) (by omega) (by omega)).1; unfold maxLen; omega
            have il2 : 5 + (itoa (i : Int)).length ≤ maxLen := by omega
            simp [Kcall, KP, vd, -axapp, il, il2]
            refine VXapp hG hBK (.inl hS.l1) (by omega) rfl (by simp) rfl (by simp) (by unfold maxLen; omega) (by omega) (C' := fun _ _ => True) (fun _ _ _ _ => trivial) (fun K' v' hv' hch hb' => ?_)
            simp [w2]
            have hS2 : OmS H K' L1 LS PS ML MP := by
              rcases hch with ⟨X, rfl⟩ | ⟨d, c, A, X, hgv, hA, rfl, hXl, hXs, hXp⟩
              · exact hS.keep (Kpt.app K [X])
              · rcases (hG.lt _ _ _ _ _ hgv).1 with hd | ⟨o, n, c', k', hd⟩
                · exact hS.putOut hd (Nat.le_trans hS.h1 hd) X
                · exact hS.putL he hd ((hS.bx i e he).1.keepPre hA hXl hXs (fun m hm => hXp m (by omega))) (fun _ _ _ _ _ _ _ h => h)
            exact Kloop_normal ⟨j + 1, v', by omega, hS2, by rw [← Nat.add_assoc]; exact hv', hb', fr_intro (by simp)⟩ (by simp; omega)
          · have h20 : ¬ (j : Int) < 20 := by omega
            simp [h20, w1]
            exact Kloop_normal ⟨i + 1, by omega, hS, hBK, fr_intro (by simp)⟩ (by simp; omega)
        obtain rfl : i = LS.length := by omega
        clear w1 hi
        simp [rowsQ_len]
        as_aux_lemma =>
          refine VL_go (o4I l H L1 LS PS) (fun fr _ => PS.length - (ai (aget fr 27)).toNat) ⟨0, by omega, hS, hBK, fr_intro (by simp)⟩ ?_
          clear hS hBK
          rintro fr K ⟨i, hi, hS, hBK, x, rfl⟩
          have w1 : IntKind.i64.wrap ((i : Int) + 1) = i + 1 := wrap_in (by omega) (by omega)
          by_cases h1 : i < PS.length
          · obtain ⟨e, he⟩ : ∃ e, PS[i]? = some e := ⟨_, List.getElem?_eq_getElem h1⟩
            have hat := rowsQ_at he
            obtain ⟨hX, hen⟩ := hS.px i e he
            obtain ⟨vf, vo, vd, vb⟩ := hX.facts
            simp [rowsQ_len, h1, hat, vd]
            refine VL_go (o4J l H L1 LS PS i e) (fun fr _ => 20 - (ai (aget fr 29)).toNat) ⟨0, e.v, by omega, hS, BX.wk (hX.of_eq (fun _ _ _ _ _ _ => rfl) (fun d o n c k ee => (Or.inr ⟨o, n, c, k, ee⟩ : L1 ≤ d ∨ ∃ o n c k, e.v = .bx d o n c k)) (fun _ _ _ _ h => h)) (fun _ h => h) (fun _ _ _ _ _ => trivial), hBK, fr_intro (by simp)⟩ ?_
            clear hS hX vf vo vd vb hBK
            rintro fr K ⟨j, gv, hj, hS, hG, hBK, x, rfl⟩
            obtain ⟨vf, vo, vd, vb⟩ := hG.facts
            have w2 : IntKind.i64.wrap ((j : Int) + 1) = j + 1 := wrap_in (by omega) (by omega)
            by_cases h2 : j < 20
            · have h20 : (j : Int) < 20 := by omega
              simp [h20, vd]
              refine digits_pc E _ _ hE (i : Int) (by omega) (by omega) ?_
              have il : (itoa (i : Int)).length + 5 ≤ maxLen := by have := (itoa_le (i : Int) (by omega) (by omega)).1; unfold maxLen; omega
              have il2 : 5 + (itoa (i : Int)).length ≤ maxLen := by omega
              simp [Kcall, KP, vd, -axapp, il, il2]
              refine VXapp hG hBK (.inl hS.l1) (by omega) rfl (by simp) rfl (by simp) (by unfold maxLen; omega) (by omega) (C' := fun _ _ => True) (fun _ _ _ _ => trivial) (fun K' v' hv' hch hb' => ?_)
              simp [w2]
              have hS2 : OmS H K' L1 LS PS ML MP := by
                rcases hch with ⟨X, rfl⟩ | ⟨d, c, A, X, hgv, hA, rfl, hXl, hXs, hXp⟩
                · exact hS.keep (Kpt.app K [X])
                · rcases (hG.lt _ _ _ _ _ hgv).1 with hd | ⟨o, n, c', k', hd⟩
                  · exact hS.putOut hd (Nat.le_trans hS.h1 hd) X
                  · exact hS.putP he hd ((hS.px i e he).1.keepPre hA hXl hXs (fun m hm => hXp m (by omega))) (fun _ _ _ _ _ _ _ h => h)
              exact Kloop_normal ⟨j + 1, v', by omega, hS2, by rw [← Nat.add_assoc]; exact hv', hb', fr_intro (by simp)⟩ (by simp; omega)
            · have h20 : ¬ (j : Int) < 20 := by omega
              simp [h20, w1]
              exact Kloop_normal ⟨i + 1, by omega, hS, hBK, fr_intro (by simp)⟩ (by simp; omega)
          obtain rfl : i = PS.length := by omega
          clear w1 hi
          simp [rowsQ_len]
          as_aux_lemma =>
            refine VL_go (o5I l LS PS K) (fun fr _ => LS.length - (ai (aget fr 30)).toNat) ⟨rfl, 0, by omega, fr_intro (by simp)⟩ ?_
            rintro fr K' ⟨rfl, i, hi, x, rfl⟩
            have w1 : IntKind.i64.wrap ((i : Int) + 1) = i + 1 := wrap_in (by omega) (by omega)
            by_cases h1 : i < LS.length
            · obtain ⟨e, he⟩ : ∃ e, LS[i]? = some e := ⟨_, List.getElem?_eq_getElem h1⟩
              have hat := rowsQ_at he
              obtain ⟨hX, hen⟩ := hS.bx i e he
              obtain ⟨vf, vo, vd, vb⟩ := hX.facts
              have hvl : ∀ t, (tsl Tryd.prog t).isSome = true → alen Tryd.prog t e.v = some (.int .i64 e.n) := fun t h => hX.alen h
              simp [rowsQ_len, h1]
              refine VL_go (o5J l LS PS K' i e) (fun fr _ => e.n - (ai (aget fr 31)).toNat) ⟨rfl, 0, by omega, fr_intro (by simp)⟩ ?_
              rintro fr K2 ⟨rfl, j, hj, x, rfl⟩
              have w2 : IntKind.i64.wrap ((j : Int) + 1) = j + 1 := wrap_in (by omega) (by omega)
              have w3 : IntKind.i64.wrap (1000 * (i : Int)) = 1000 * i := wrap_in (by omega) (by omega)
              have w4 : IntKind.i64.wrap (1000 * (i : Int) + j) = 1000 * i + j := wrap_in (by omega) (by omega)
              by_cases h2 : j < e.n
              · rcases id hX with ⟨h0, _⟩ | ⟨d, cc, A, hd, hee, hA, g3, g4, g5, g6, g7⟩
                · omega
                have hjl2 : j + 1 ≤ A.length := by omega
                have hAj : A[j]? = some (.str (itoa (1000 * (i : Int) + j))) := by
                  have hjA : j < A.length := by omega
                  have := g7 j _ (by omega) (List.getElem?_eq_getElem hjA)
                  rw [List.getElem?_eq_getElem hjA]; exact congrArg some this
                have hvl2 : ∀ t, (tsl Tryd.prog t).isSome = true → alen Tryd.prog t (.bx d 0 e.n cc 1) = some (.int .i64 e.n) := by rw [← hee]; exact hvl
                simp [-alen, hvl2, hat, h2, rowsQ_len, h1, w3, w4, hee, hA, hAj, hjl2]
                refine digits_pc E _ _ hE (1000 * (i : Int) + j) (by omega) (by omega) ?_
                simp [Kcall, KP, preH_refl, hee, h2, hA, hAj, hjl2, w2]
                exact Kloop_normal ⟨rfl, j + 1, by omega, fr_intro (by simp)⟩ (by simp; omega)
              · simp [-alen, hvl, hat, vd, h2, rowsQ_len, h1, w1]
                exact Kloop_normal ⟨rfl, i + 1, by omega, fr_intro (by simp)⟩ (by simp; omega)
            obtain rfl : i = LS.length := by omega
            clear w1 hi
            simp [rowsQ_len]
            as_aux_lemma =>
              refine VL_go (o6I l LS PS K') (fun fr _ => PS.length - (ai (aget fr 32)).toNat) ⟨rfl, 0, by omega, fr_intro (by simp)⟩ ?_
              rintro fr K' ⟨rfl, i, hi, x, rfl⟩
              have w1 : IntKind.i64.wrap ((i : Int) + 1) = i + 1 := wrap_in (by omega) (by omega)
              by_cases h1 : i < PS.length
              · obtain ⟨e, he⟩ : ∃ e, PS[i]? = some e := ⟨_, List.getElem?_eq_getElem h1⟩
                have hat := rowsQ_at he
                obtain ⟨hX, hen⟩ := hS.px i e he
                obtain ⟨vf, vo, vd, vb⟩ := hX.facts
                have hvl : ∀ t, (tsl Tryd.prog t).isSome = true → alen Tryd.prog t e.v = some (.int .i64 e.n) := fun t h => hX.alen h
                simp [rowsQ_len, h1]
                refine VL_go (o6J l LS PS K' i e) (fun fr _ => e.n - (ai (aget fr 33)).toNat) ⟨rfl, 0, by omega, fr_intro (by simp)⟩ ?_
                rintro fr K2 ⟨rfl, j, hj, x, rfl⟩
                have w2 : IntKind.i64.wrap ((j : Int) + 1) = j + 1 := wrap_in (by omega) (by omega)
                have w3 : IntKind.i64.wrap (1000 * (i : Int)) = 1000 * i := wrap_in (by omega) (by omega)
                have w4 : IntKind.i64.wrap (1000 * (i : Int) + j) = 1000 * i + j := wrap_in (by omega) (by omega)
                by_cases h2 : j < e.n
                · rcases id hX with ⟨h0, _⟩ | ⟨d, cc, A, hd, hee, hA, g3, g4, g5, g6, g7⟩
                  · omega
                  have hjl2 : j * 3 + 3 ≤ A.length := by omega
                  have hAj : A[j * 3]? = some (.str (itoa (1000 * (i : Int) + j))) := by
                    have hjA : j * 3 < A.length := by omega
                    have := g7 (j * 3) _ (by omega) (List.getElem?_eq_getElem hjA)
                    rw [List.getElem?_eq_getElem hjA, ← mkP_0]; exact congrArg some this
                  have hvl2 : ∀ t, (tsl Tryd.prog t).isSome = true → alen Tryd.prog t (.bx d 0 e.n cc 3) = some (.int .i64 e.n) := by rw [← hee]; exact hvl
                  simp [-alen, hvl2, hat, h2, rowsQ_len, h1, w3, w4, hee, hA, hAj, hjl2]
                  refine digits_pc E _ _ hE (1000 * (i : Int) + j) (by omega) (by omega) ?_
                  simp [Kcall, KP, preH_refl, hee, h2, hA, hAj, hjl2, w2]
                  exact Kloop_normal ⟨rfl, j + 1, by omega, fr_intro (by simp)⟩ (by simp; omega)
                · simp [-alen, hvl, hat, vd, h2, rowsQ_len, h1, w1]
                  exact Kloop_normal ⟨rfl, i + 1, by omega, fr_intro (by simp)⟩ (by simp; omega)
              obtain rfl : i = PS.length := by omega
              clear w1 hi
              simp [rowsQ_len]
              as_aux_lemma =>
                refine list_pc E _ _ l (by omega) ?_
                simp
                refine tokens_pc E _ _ hE.1 l (by omega) ?_
                simp
                refine params_pc E _ _ hE.1 l (by omega) ?_
                simp
                refine same_pc E _ _ _ _ (by omega) ?_
                simp
                refine same_pc E _ _ _ _ (by omega) ?_
                simp
                refine alike_pc E _ _ _ _ (by omega) ?_
                simp
                exact aPost_lawX hB hS.kp.1 hS.kp.2 rfl (by simp) hQ
end
end Go.Proofs.YtjphdipbajfojaaDoor

set_option linter.unusedVariables false
set_option linter.unusedSimpArgs false
set_option maxRecDepth 100000
namespace Go.Proofs.YtjphdipbajfojaaDoor
open Go Go.RowKit Go.Lib

theorem omem_true (W : World) (s : ByteArray) (hs : s.size ≤ 1048576) (hS : Signs W) (hT : TabIs Tryd.prog W "internal/strconv.uint64pow10" .u64 pow10Tab) : Calls Tryd.prog 14 #[.string s] W fun e w' => e = .returned (.bool true) ∧ Frm (fun _ => False) W w' := by
  have hpl : 2 < W.heap.size := by
    have := hT
    unfold TabIs World.var? at this
    rw [pow10Named] at this
    simp only [Option.bind_some] at this
    by_cases h : 2 < W.heap.size
    · exact h
    · rw [Array.getElem?_eq_none (by omega)] at this; cases this
  refine calls_of_pcF (args := [.str s.data.toList]) (fun b => b = 0 ∨ b = 2) (fun b hb => hb.elim (law_fix W hS b) (fun h => h ▸ hpl)) (old W) (fun _ _ h => h) rfl (fun t x u hx hu => ?_)
    (fun E Q e1 e2 h => omem_pc E Q ⟨⟨by rw [e2]; exact .inl rfl, by rw [e1]; exact hS⟩, by rw [e2]; exact .inr rfl, by rw [e1]; exact hT⟩ s.data.toList (by simpa using hs) h)
  match t with
  | 0 => simp at hx hu; subst hx; subst hu; exact ⟨rel_string s (by unfold maxLen; omega), .str _, rfl⟩
  | t + 1 => simp at hx
end Go.Proofs.YtjphdipbajfojaaDoor

