/- What every law's row wants: an argument that nothing turned reads as before, the row's post, and slices of rows as lists. -/
import Derived.Test.YtimhofphmgehgaaDoorMem
import Derived.Test.YtimhofphmgehgaaDoorRows
import Derived.ProofKit
import Derived.OpenShut
import Derived.SizedLaws
import Derived.Deep.Slices
import Derived.Deep.Fields
import Derived.SliceStrings
set_option linter.unusedVariables false
set_option linter.unusedSimpArgs false
namespace Go.Proofs.YtimhofphmgehgaaDoor
open Go Go.ChangeShapes Go.WideShapes Go.ChangeAt Go.RowKit Go.Deep

theorem Tryd.own : ownKnob Tryd.prog.godebug = none := by kernel_rfl
theorem Tryd.laidOut : laidOutB Tryd.prog = true := by kernel_rfl

section
variable {H : Type} {enc : TypeId × Value → H}

/-- ARGUMENTS READ AGAIN where nothing old has turned. -/
theorem Frm.trodAll {P : Program} (hl : laidOutB P = true) {W W' : World} (hF : Frm (fun _ => False) W W') (sp : Nat → Bool) : ∀ {ts : List TypeId} {vs : List Value} {ds : List (DataW H)} {ps : List MemPlace}, (∀ t ∈ ts, P.readableRec t = true ∧ t < P.types.size) → DataW.TrodAll enc P W 0 (fun _ => true) true ts vs ds ps → (∀ p ∈ ps, sp p.block = true) → (∀ p ∈ ps, p.block < W.heap.size) → DataW.TrodAll enc P W' 0 sp true ts vs ds ps
  | [], [], [], _, _, h, _, _ => h
  | _ :: _, _ :: _, _ :: _, _, hT, ⟨p, q, h1, h2, e⟩, hs, hlt =>
    ⟨p, q, WideElems.Trod_stays hl (hT _ (List.mem_cons.2 (Or.inl rfl))).1 (hT _ (List.mem_cons.2 (Or.inl rfl))).2 h1
      (fun x hx => (hF.toBelow (Nat.le_refl _) (fun _ _ => id)).same (hlt x (by rw [e]; exact List.mem_append_left _ hx))) (fun x hx => hs x (by rw [e]; exact List.mem_append_left _ hx)),
      Frm.trodAll hl hF sp (fun t ht => hT t (List.mem_cons.2 (Or.inr ht))) h2 (fun x hx => hs x (by rw [e]; exact List.mem_append_right _ hx)) (fun x hx => hlt x (by rw [e]; exact List.mem_append_right _ hx)), e⟩

/-- THE POST OF A LAW: true, and nothing old has turned. -/
theorem law_post {P : Program} (hl : laidOutB P = true) {f : Func} {s : ChangeSpec} {W W' : World} {args : Array Value} {ds gs : List (DataW H)} {before : List MemPlace} {tb : TypeId} (hb : P.underlying tb = some .bool)
    (hr : f.resultTypes = #[tb]) (hs : s.vars = []) (hT : f.params.all (fun t => P.readableRec t && decide (t < P.types.size)) = true)
    (hspec : s.fn H ds = { results := [.lit (.bool true)], args := ds })
    (hW : DataW.Whole enc P f.params.toList s.vars false W args.toList ds gs before) (hF : Frm (fun _ => False) W W') :
    s.post enc P f false true false false W args (.bool true) W' := by
  have hT' : ∀ t ∈ f.params.toList, P.readableRec t = true ∧ t < P.types.size := by
    intro t ht
    have := Array.all_eq_true_iff_forall_mem.1 hT t (by simpa using ht)
    simpa using this
  have hW' := hW
  obtain ⟨p, q, hA, hV, rfl, hfz, hnd⟩ := hW
  rw [hs] at hV
  obtain ⟨rfl, rfl⟩ := trodVars_none hV
  have hB := hF.toBelow (Nat.le_refl _) (fun _ _ => id)
  simp only [List.append_nil] at hW' hfz
  have hold : ∀ x ∈ p, decide (x.block < W.heap.size) = true := fun x hx => by simpa using hW'.lt x hx
  have hargs : ∀ sp : Nat → Bool, (∀ x ∈ p, sp x.block = true) → DataW.TrodAll enc P W' 0 sp true f.params.toList args.toList ds p := fun sp h => hF.trodAll hl sp hT' hA h (fun x hx => hW'.lt x hx)
  have hres : ∀ (b : Nat) (sp : Nat → Bool) (hd : Bool), DataW.TrodAll enc P W' b sp hd f.resultTypes.toList ((Value.bool true).resultList f.resultTypes.size) [.lit (.bool true)] [] := fun b sp hd => by
    rw [hr]; exact trodAll_mk1 (shut_bool hb true)
  have e1 : (s.fn H (ds ++ [])) = { results := [.lit (.bool true)], args := ds } := by rw [List.append_nil]; exact hspec
  refine ⟨ds, [], p, [], p, [], hW', ?_, ?_, ?_, World.keptBut_mono (fun x hx => hx) (hB.frame _), fun h => by cases h⟩
  · rw [e1]; exact hres _ _ _
  · rw [e1]; exact hargs _ hold
  · rw [e1, hs]; exact rfl

/-- From 'for each i there is' to a list. -/
theorem list_lt {α : Type} {n : Nat} {p : Nat → α → Prop} (h : ∀ i, i < n → ∃ x, p i x) : ∃ l : List α, l.length = n ∧ ∀ i x, l[i]? = some x → p i x := by
  induction n with
  | zero => exact ⟨[], rfl, fun i x hx => by simp at hx⟩
  | succ n ih =>
    obtain ⟨l, hl, hp⟩ := ih (fun i hi => h i (by omega))
    obtain ⟨y, hy⟩ := h n (by omega)
    refine ⟨l ++ [y], by simp [hl], fun i x hx => ?_⟩
    by_cases hi : i < l.length
    · exact hp i x (by rwa [List.getElem?_append_left hi] at hx)
    · rw [List.getElem?_append_right (by omega)] at hx
      have : i - l.length = 0 := by
        have := (List.getElem?_eq_some_iff.1 hx).1
        simp at this; omega
      rw [this] at hx
      simp at hx
      subst hx
      rw [show i = n by omega]; exact hy

/-- AN ARGUMENT OR A CELL THAT IS A SLICE: its rows as a list; the row's cells lie at the slice's own address, which is plain. -/
theorem open_rows {P : Program} {w : World} {base : Nat} {spare : Nat → Bool} {held : Bool} {t e : TypeId} {fuel : Nat} {cs : List Value} {x : DataW H × List MemPlace} {α : Type} (k : Nat) (hk : 0 < k) (q : Addr → α → Prop)
    (ht : P.underlying t = some (.slice e)) (hc : P.cellsOf e = k)
    (hq : ∀ a n cs' d pl, w.cells? base a k = some cs' → DataW.trod enc P w base spare held n e cs' = some (d, pl) → ∃ x, q ⟨a.block, a.off, none⟩ x)
    (h : DataW.trod enc P w base spare held fuel t cs = some x) :
    ∃ (bo : Option Addr) (len cap : Nat) (l : List α), cs = [.slice bo len cap] ∧ l.length = len ∧ len ≤ cap ∧ cap ≤ maxLen ∧ (∀ el sp, x.1 = .slice el sp → len ≤ el.length) ∧ (x.1 = .nil → len = 0) ∧ (x.1 = .nil ∨ ∃ el sp, x.1 = .slice el sp) ∧
      ∀ i x, l[i]? = some x → ∃ g o, bo = some ⟨g, o, none⟩ ∧ q ⟨g, o + i * k, none⟩ x := by
  rcases open_slice ht h with ⟨rfl, rfl⟩ | ⟨a, len, cap, m, n, D, Pl, rfl, hb, hl, hm, hmm, rfl, hi⟩
  · exact ⟨none, 0, 0, [], rfl, rfl, Nat.le_refl _, Nat.zero_le _, (fun _ _ h => by cases h), (fun _ => rfl), .inl rfl, fun i x hx => by simp at hx⟩
  · have hlm : len ≤ m := by rw [hmm]; split <;> omega
    obtain ⟨l, hll, hlx⟩ := list_lt (n := len) (p := fun i x => ∃ g o, some a = some ⟨g, o, none⟩ ∧ q ⟨g, o + i * k, none⟩ x) (fun i hi' => by
      obtain ⟨cs', hcs, htr⟩ := hi i (by omega)
      rw [hc] at hcs
      have h0 := hi 0 (by omega)
      obtain ⟨cs0, hcs0, _⟩ := h0
      rw [hc] at hcs0
      have hspot := World.cell?_spot (((World.cells?_some hcs0).2.2 0 hk).trans (List.getElem?_eq_getElem (by have := (World.cells?_some hcs0).2.1; omega)))
      obtain ⟨b, off, spot⟩ := a
      obtain rfl : spot = none := by simpa [Addr.add] using hspot
      obtain ⟨y, hy⟩ := hq _ n cs' _ _ hcs htr
      refine ⟨y, b, off, rfl, ?_⟩
      rw [add_plain] at hy
      exact hy)
    exact ⟨some a, len, cap, l, rfl, hll, hl, hm, (fun el sp h => by
      simp only [DataW.slice.injEq] at h
      rw [← h.1]; simp), (fun h => by cases h), .inr ⟨_, _, rfl⟩, hlx⟩

theorem cells_one {w : World} {base : Nat} {a : Addr} {cs : List Value} (h : w.cells? base a 1 = some cs) : ∃ v, cs = [v] ∧ w.cell? ⟨a.block, a.off, none⟩ = some v := by
  obtain ⟨_, hl, hc⟩ := World.cells?_some h
  match cs, hl with
  | [v], _ =>
    have h0 := hc 0 (by omega)
    have hs := World.cell?_spot h0
    obtain ⟨b, o, s⟩ := a
    obtain rfl : s = none := by simpa [Addr.add] using hs
    exact ⟨v, rfl, by simpa [Addr.add] using h0⟩

theorem row_int {P : Program} {w : World} {base : Nat} {spare : Nat → Bool} {held : Bool} {e : TypeId} {k : IntKind} (he : P.underlying e = some (.int k)) (a : Addr) (n : Nat) (cs : List Value) (d : DataW H) (pl : List MemPlace)
    (hc : w.cells? base a 1 = some cs) (h : DataW.trod enc P w base spare held n e cs = some (d, pl)) : ∃ z : Int, w.cell? ⟨a.block, a.off, none⟩ = some (.int k z) ∧ (Lit.int k z).wf = true := by
  obtain ⟨v, rfl, hv⟩ := cells_one hc
  obtain ⟨m, hvv, _, hw⟩ := DataW.trod_int he h
  simp only [List.cons.injEq, and_true] at hvv
  exact ⟨m, hvv ▸ hv, hw⟩
theorem row_string {P : Program} {w : World} {base : Nat} {spare : Nat → Bool} {held : Bool} {e : TypeId} (he : P.underlying e = some .string) (a : Addr) (n : Nat) (cs : List Value) (d : DataW H) (pl : List MemPlace)
    (hc : w.cells? base a 1 = some cs) (h : DataW.trod enc P w base spare held n e cs = some (d, pl)) : ∃ z : ByteArray, w.cell? ⟨a.block, a.off, none⟩ = some (.string z) ∧ z.size ≤ maxLen := by
  obtain ⟨v, rfl, hv⟩ := cells_one hc
  obtain ⟨m, hvv, _, hw⟩ := DataW.trod_string he h
  simp only [List.cons.injEq, and_true] at hvv
  exact ⟨m, hvv ▸ hv, hw⟩

/-- A row that is a struct of one-cell fields: each field's cell, and how it reads. -/
theorem row_struct {P : Program} {w : World} {base : Nat} {spare : Nat → Bool} {held : Bool} {e : TypeId} {fs : Array Field} (he : P.underlying e = some (.struct fs)) (hone : oneCellFields P fs = true) (a : Addr) (n : Nat) (cs : List Value) (d : DataW H) (pl : List MemPlace)
    (hc : w.cells? base a fs.size = some cs) (h : DataW.trod enc P w base spare held n e cs = some (d, pl)) :
    ∀ j f, fs[j]? = some f → ∃ (m : Nat) (v : Value) (y : DataW H × List MemPlace), w.cell? ⟨a.block, a.off + j, none⟩ = some v ∧ DataW.trod enc P w base spare held m f.type [v] = some y := by
  obtain ⟨ys, n', hn', hy, hlen, hyl, hf⟩ := DataW.trod_struct he h
  obtain ⟨_, hcl, hat⟩ := World.cells?_some hc
  intro j f hj
  obtain ⟨ho, hk⟩ := hone_of hone j f hj
  have hjl : j < fs.size := (Array.getElem?_eq_some_iff.1 hj).1
  have hcell := hat j hjl
  have hv : cs[j]? = some (cs[j]'(by omega)) := List.getElem?_eq_getElem (by omega)
  have h1 := hf j f hj
  rw [ho, hk] at h1
  have hone' : (cs.drop j).take 1 = [cs[j]'(by omega)] := by
    rw [List.drop_eq_getElem_cons (by omega)]
    rfl
  rw [hone'] at h1
  have h0 := hat 0 (by omega)
  have hs := World.cell?_spot (h0.trans (List.getElem?_eq_getElem (show 0 < cs.length by omega)))
  obtain ⟨b, o, s⟩ := a
  obtain rfl : s = none := by simpa [Addr.add] using hs
  refine ⟨n', _, _, ?_, h1.trans (List.getElem?_eq_getElem (by omega))⟩
  rw [← add_plain, hcell, hv]

theorem rows_fit {P : Program} {ts : List TypeId} {ds : List (DataW H)} (h : (DataW.weightsEach P ts ds).all (· ≤ reachBytes) = true) {j : Nat} {t e : TypeId} {x : DataW H} {len b : Nat} (ht : ts[j]? = some t) (hd : ds[j]? = some x) (hu : P.underlying t = some (.slice e)) (hb : P.bytesOf e = b)
    (h1 : ∀ el sp, x = .slice el sp → len ≤ el.length) (h2 : x = .nil → len = 0) (h3 : x = .nil ∨ ∃ el sp, x = .slice el sp) : len * b ≤ 140737488351232 := by
  rcases h3 with h3 | ⟨el, sp, h3⟩
  · rw [h2 h3]; simp
  · subst h3
    have := sized_slice h ht hd hu
    have hr : reachBytes = 140737488351232 := rfl
    have hl := h1 _ _ rfl
    rw [hb, hr] at this
    exact Nat.le_trans (Nat.mul_le_mul_right b (by omega)) this

theorem row_u8 {P : Program} {w : World} {base : Nat} {spare : Nat → Bool} {held : Bool} {e : TypeId} (he : P.underlying e = some (.int .u8)) (a : Addr) (n : Nat) (cs : List Value) (d : DataW H) (pl : List MemPlace)
    (hc : w.cells? base a 1 = some cs) (h : DataW.trod enc P w base spare held n e cs = some (d, pl)) : ∃ z : UInt8, w.cell? ⟨a.block, a.off, none⟩ = some (.int .u8 (z.toNat : Int)) := by
  obtain ⟨z, hz, hw⟩ := row_int he a n cs d pl hc h
  have hr : 0 ≤ z ∧ z ≤ 255 := by simpa [Lit.wf, IntKind.min, IntKind.max, IntKind.signed, IntKind.bits] using hw
  refine ⟨UInt8.ofNat z.toNat, ?_⟩
  rw [UInt8.toNat_ofNat', Nat.mod_eq_of_lt (by omega), Int.toNat_of_nonneg hr.1]
  exact hz
theorem rsl_rows {w : World} {bo : Option Addr} {len cap : Nat} {l : List UInt8} (hl : l.length = len) (h1 : len ≤ cap) (h2 : cap ≤ maxLen) (hc : ∀ i x, l[i]? = some x → ∃ g o, bo = some ⟨g, o, none⟩ ∧ w.cell? ⟨g, o + i * 1, none⟩ = some (.int .u8 (x.toNat : Int))) :
    RSl w 1 (.slice bo len cap) len (u8s l) := by
  refine ⟨by rw [u8s_length]; omega, bo, cap, rfl, h1, h2, fun hp => ?_⟩
  obtain ⟨g, o, rfl, _⟩ := hc 0 (l[0]'(by omega)) (List.getElem?_eq_getElem (by omega))
  refine ⟨g, o, rfl, fun j hj => ?_⟩
  have hj' : j < l.length := by omega
  obtain ⟨g', o', he, hcell⟩ := hc j (l[j]'hj') (List.getElem?_eq_getElem hj')
  cases he
  rw [Nat.mul_one] at hcell
  rw [hcell, u8s_at, List.getElem?_eq_getElem hj']
  rfl
end
end Go.Proofs.YtimhofphmgehgaaDoor
