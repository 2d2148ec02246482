/- Arguments opened: plain values and slices of plain structs, as the abstract machine has them. For any seat whose rows have the second form. -/
import Derived.Test.YtimhofphmgehgaaDoorLaw
import Derived.Test.YtimhofphmgehgaaDoorAmr
set_option linter.unusedVariables false
set_option linter.unusedSimpArgs false
namespace Go.Proofs.YtimhofphmgehgaaDoor
open Go Go.ChangeShapes Go.WideShapes Go.ChangeAt Go.RowKit Go.Deep

inductive CK where
  | int (k : IntKind)
  | bool
  | str
  | u8s
def KindOf : CK → AV → Prop
  | .int k, .int k' z => k = k' ∧ (Lit.int k z).wf = true
  | .bool, .bool _ => True
  | .str, .str _ => True
  | .u8s, .sl false 1 rows => ∃ l, rows = bts l
  | _, _ => False
def wtA : List AV → Nat
  | [] => 0
  | .str s :: l => s.length + wtA l
  | .sl _ _ r :: l => r.length + wtA l
  | _ :: l => wtA l
theorem wtA_app (l m : List AV) : wtA (l ++ m) = wtA l + wtA m := by
  induction l with
  | nil => simp [wtA]
  | cons x l ih => cases x <;> simp only [List.cons_append, wtA, ih] <;> omega
def shapeL (g : TypeId → Option (List CK)) : Nat → List Field → Option (List CK)
  | _, [] => some []
  | off, f :: r => if f.offset = off then match g f.type with
    | some a => (shapeL g (off + a.length) r).map (a ++ ·)
    | none => none else none
def shape (P : Program) : Nat → TypeId → Option (List CK)
  | 0, _ => none
  | n + 1, t => match P.underlying t with
    | some (.int k) => some [.int k]
    | some .bool => some [.bool]
    | some .string => some [.str]
    | some (.slice e) => match P.underlying e with
      | some (.int .u8) => if P.cellsOf e = 1 then some [.u8s] else none
      | _ => none
    | some (.struct fs) => match shapeL (shape P n) 0 fs.toList with
      | some ks => if ks.length = P.cellsOf t then some ks else none
      | none => none
    | _ => none
structure Opened (W : World) (ks : List CK) (cs : List Value) (avs : List AV) : Prop where
  len : avs.length = ks.length
  clen : cs.length = ks.length
  kind : ∀ (j : Nat) k x, ks[j]? = some k → avs[j]? = some x → KindOf k x
  rel : ∀ (j : Nat) x u, avs[j]? = some x → cs[j]? = some u → x.free = true ∧ x.one = true ∧ Rel W (fun _ => 0) (old W) x u ∧ Bnd 0 x
theorem Opened.one {W : World} {k : CK} {v : Value} {x : AV} (h1 : KindOf k x) (h2 : x.free = true ∧ x.one = true ∧ Rel W (fun _ => 0) (old W) x v ∧ Bnd 0 x) : Opened W [k] [v] [x] := by
  refine ⟨rfl, rfl, fun j k' x' hk hx => ?_, fun j x' u hx hu => ?_⟩
  · cases j with
    | zero => simp at hk hx; subst hk; subst hx; exact h1
    | succ j => simp at hk
  · cases j with
    | zero => simp at hu hx; subst hu; subst hx; exact h2
    | succ j => simp at hu
theorem Opened.app {W : World} {ks ms : List CK} {cs ds : List Value} {av1 bs : List AV} (h : Opened W ks cs av1) (k : Opened W ms ds bs) : Opened W (ks ++ ms) (cs ++ ds) (av1 ++ bs) := by
  refine ⟨by simp [h.len, k.len], by simp [h.clen, k.clen], fun j k' x' hk hx => ?_, fun j x' u hx hu => ?_⟩
  · by_cases hj : j < ks.length
    · rw [List.getElem?_append_left hj] at hk
      rw [List.getElem?_append_left (by rw [h.len]; exact hj)] at hx
      exact h.kind j k' x' hk hx
    · rw [List.getElem?_append_right (by omega)] at hk
      rw [List.getElem?_append_right (by rw [h.len]; omega), h.len] at hx
      exact k.kind _ k' x' hk hx
  · by_cases hj : j < av1.length
    · rw [List.getElem?_append_left hj] at hx
      rw [List.getElem?_append_left (by rw [h.clen, ← h.len]; exact hj)] at hu
      exact h.rel j x' u hx hu
    · rw [List.getElem?_append_right (by omega)] at hx
      rw [List.getElem?_append_right (by rw [h.clen, ← h.len]; omega), h.clen, ← h.len] at hu
      exact k.rel _ x' u hx hu
section
variable {H : Type} {enc : TypeId × Value → H}
theorem bulk_pos (d : DataW H) : 1 ≤ Rows.uptoBulk d := by
  cases d with
  | lit l => cases l <;> simp [Rows.uptoBulk]
  | nil => simp [Rows.uptoBulk]
  | ptr d => simp [Rows.uptoBulk]
  | slice elems spare => simp [Rows.uptoBulk]
  | agg parts => simp [Rows.uptoBulk]
  | iface t d => simp [Rows.uptoBulk]
  | map entries => simp [Rows.uptoBulk]
  | held h => simp [Rows.uptoBulk]
theorem bulk_len : ∀ (l : List (DataW H)), l.length ≤ Rows.uptoBulkAll l
  | [] => by simp [Rows.uptoBulkAll]
  | x :: l => by have := bulk_pos x; have := bulk_len l; simp only [Rows.uptoBulkAll, List.length_cons]; omega
theorem rel_sl_bts {w : World} {β : Nat → Nat} {Rd : Nat → Nat → Prop} {v : Value} {l : List UInt8} (h : RSl w 1 v l.length (u8s l)) (hd : ∀ g o n c, v = .slice (some ⟨g, o, none⟩) n c → ∀ j, j < l.length → Rd g (o + j)) : Rel w β Rd (.sl false 1 (bts l)) v := by
  refine .sl false 1 (bts l) v (u8s l) (fun r hr => by obtain ⟨b, _, rfl⟩ := List.mem_map.1 hr; rfl) (by rw [bts_len]; exact h) (fun g o n c hv j hj => hd g o n c hv j (by simpa [bts_len] using hj)) (fun h => by cases h) (fun r hr x hx => ?_) (fun j x u hx hu => ?_)
  · obtain ⟨b, _, rfl⟩ := List.mem_map.1 hr
    simp at hx; subst hx; exact ⟨rfl, rfl⟩
  · rw [bts_flat] at hx
    rw [u8s_at] at hu
    cases hb : l[j]? with
    | none => rw [hb] at hx; cases hx
    | some b => rw [hb] at hx hu; simp at hx hu; subst hx; subst hu; exact .int _ _
theorem opened_fields {P : Program} {W : World} {base : Nat} {spare : Nat → Bool} {held : Bool} {n' : Nat} {cs : List Value} (g : TypeId → Option (List CK))
    (ih : ∀ {t : TypeId} {ks : List CK} {cs : List Value} {x : DataW H × List MemPlace}, g t = some ks → DataW.trod enc P W base spare held n' t cs = some x → ∃ avs, Opened W ks cs avs ∧ wtA avs + 1 ≤ Rows.uptoBulk x.1) :
    ∀ (l : List Field) (xs : List (DataW H × List MemPlace)) (off : Nat) (ks : List CK), l.length = xs.length → (∀ (j : Nat) f, l[j]? = some f → DataW.trod enc P W base spare held n' f.type ((cs.drop f.offset).take (P.cellsOf f.type)) = xs[j]?) →
      shapeL g off l = some ks → ∃ avs, Opened W ks ((cs.drop off).take ks.length) avs ∧ wtA avs ≤ Rows.uptoBulkAll (xs.map (·.1)) := by
  intro l
  induction l with
  | nil =>
    intro xs off ks hl hx hs
    simp [shapeL] at hs
    subst hs
    exact ⟨[], ⟨rfl, by simp, fun j k x hk => by simp at hk, fun j x u hx => by simp at hx⟩, by simp [wtA]⟩
  | cons f l ihl =>
    intro xs off ks hl hx hs
    cases xs with
    | nil => simp at hl
    | cons y xs =>
      unfold shapeL at hs
      split at hs
      · rename_i ho
        cases hg : g f.type with
        | none => rw [hg] at hs; cases hs
        | some a =>
          rw [hg] at hs
          simp only [Option.map_eq_some_iff] at hs
          obtain ⟨b, hb, rfl⟩ := hs
          have h0 := hx 0 f rfl
          rw [ho] at h0
          obtain ⟨av1, ha, hwa⟩ := ih hg h0
          obtain ⟨bs, hbs, hwb⟩ := ihl xs (off + a.length) b (by simpa using hl) (fun j f' hf => by simpa using hx (j + 1) f' (by simpa using hf)) hb
          have e : (cs.drop off).take (P.cellsOf f.type) = (cs.drop off).take a.length := by
            have hlen := ha.clen
            rw [List.length_take] at hlen
            rw [← hlen]
            by_cases hc : P.cellsOf f.type ≤ (cs.drop off).length
            · rw [Nat.min_eq_left hc]
            · rw [Nat.min_eq_right (by omega), List.take_of_length_le (by omega), List.take_of_length_le (Nat.le_refl _)]
          refine ⟨av1 ++ bs, ?_, ?_⟩
          · rw [e] at ha
            have := ha.app hbs
            rw [List.length_append, List.take_add, List.drop_drop]
            exact this
          · rw [wtA_app]
            simp only [List.map_cons, Rows.uptoBulkAll]
            omega
      · cases hs
theorem opened {P : Program} {W : World} {base : Nat} {spare : Nat → Bool} {held : Bool} (n : Nat) : ∀ {fuel : Nat} {t : TypeId} {ks : List CK} {cs : List Value} {x : DataW H × List MemPlace}, shape P n t = some ks → DataW.trod enc P W base spare held fuel t cs = some x →
    ∃ avs, Opened W ks cs avs ∧ wtA avs + 1 ≤ Rows.uptoBulk x.1 := by
  induction n with
  | zero => intro fuel t ks cs x hs; cases hs
  | succ n ih =>
    intro fuel t ks cs x hs h
    unfold shape at hs
    split at hs
    · rename_i k hu
      cases hs
      obtain ⟨z, rfl, rfl, hw⟩ := DataW.trod_int hu h
      exact ⟨[.int k z], .one ⟨rfl, hw⟩ ⟨rfl, rfl, .int _ _, .int _ _⟩, by simp [wtA, Rows.uptoBulk]⟩
    · rename_i hu
      cases hs
      obtain ⟨z, rfl, rfl⟩ := DataW.trod_bool hu h
      exact ⟨[.bool z], .one trivial ⟨rfl, rfl, .bool _, .bool _⟩, by simp [wtA, Rows.uptoBulk]⟩
    · rename_i hu
      cases hs
      obtain ⟨z, rfl, rfl, hm⟩ := DataW.trod_string hu h
      exact ⟨[.str z.data.toList], .one trivial ⟨rfl, rfl, .str _ _ rfl hm, .str _⟩, by simp [wtA, Rows.uptoBulk]⟩
    · rename_i e hu
      split at hs
      · rename_i he
        split at hs
        · rename_i hce
          cases hs
          obtain ⟨bo, len, cap, l, rfl, hl, h1, h2, hx1, hx2, hx3, hq⟩ := open_rows (α := UInt8) 1 (by decide) (fun a x => W.cell? a = some (.int .u8 ((x : UInt8).toNat : Int))) hu hce (fun a n cs' d pl hc h => row_u8 he a n cs' d pl hc h) h
          have hr := rsl_rows hl h1 h2 hq
          subst hl
          refine ⟨[.sl false 1 (bts l)], .one ⟨l, rfl⟩ ⟨rfl, rfl, rel_sl_bts hr (fun g o n c hv j hj => ?_), bnd_sl_bts _ _ _⟩, ?_⟩
          · obtain ⟨g', o', hb, hc⟩ := hq j l[j] (List.getElem?_eq_getElem hj)
            cases hv
            cases hb
            rw [Nat.mul_one] at hc
            exact old_cell hc
          · simp only [wtA, bts_len]
            rcases hx3 with hn | ⟨el, sp, hs⟩
            · rw [hn, hx2 hn]; simp [Rows.uptoBulk]
            · have := hx1 el sp hs
              have := bulk_len el
              rw [hs]; simp only [Rows.uptoBulk]; omega
        · cases hs
      · cases hs
    · rename_i fs hu
      split at hs
      · rename_i ks' hks
        split at hs
        · rename_i hlen
          cases hs
          obtain ⟨xs, n', _, rfl, hcl, hxl, hf⟩ := DataW.trod_struct hu h
          obtain ⟨avs, ho, hw⟩ := opened_fields (enc := enc) (P := P) (W := W) (base := base) (spare := spare) (held := held) (n' := n') (cs := cs) (shape P n) (fun hg hx => ih hg hx) fs.toList xs 0 _ (by simp [hxl]) (fun j f hj => hf j f (by simpa using hj)) hks
          refine ⟨avs, ?_, ?_⟩
          · rw [List.drop_zero, List.take_of_length_le (by rw [hcl, hlen]; exact Nat.le_refl _)] at ho
            exact ho
          · simp only [Rows.uptoBulk]; omega
        · cases hs
      · cases hs
    · cases hs
theorem bulkAll_range {n : Nat} (D : Nat → DataW H) : ∀ (rows : List (List AV)), rows.length = n → (∀ (i : Nat) r, rows[i]? = some r → wtA r + 1 ≤ Rows.uptoBulk (D i)) → wtA rows.flatten + n ≤ Rows.uptoBulkAll ((List.range n).map D) := by
  induction n with
  | zero =>
    intro rows h hr
    have : rows = [] := List.length_eq_zero_iff.1 h
    subst this
    simp [wtA]
  | succ n ih =>
    intro rows hl hr
    obtain ⟨init, r, rfl⟩ : ∃ init r, rows = init ++ [r] := ⟨rows.dropLast, rows.getLast (by intro h; rw [h] at hl; cases hl), (List.dropLast_concat_getLast _).symm⟩
    simp at hl
    have h1 := ih init hl (fun i q hq => hr i q (by rw [List.getElem?_append_left (List.getElem?_eq_some_iff.1 hq).1]; exact hq))
    have h2 := hr n r (by rw [← hl]; simp)
    have happ : ∀ (a b : List (DataW H)), Rows.uptoBulkAll (a ++ b) = Rows.uptoBulkAll a + Rows.uptoBulkAll b := by
      intro a b
      induction a with
      | nil => simp [Rows.uptoBulkAll]
      | cons x a iha => simp only [List.cons_append, Rows.uptoBulkAll, iha]; omega
    rw [List.range_succ, List.map_append, happ, List.flatten_append, wtA_app]
    simp only [List.map_cons, List.map_nil, Rows.uptoBulkAll, List.flatten_cons, List.flatten_nil, List.append_nil]
    omega
/-- A SLICE OF PLAIN VALUES. -/
theorem open_plain {P : Program} {W : World} {spare : Nat → Bool} {held : Bool} {t e : TypeId} {fuel : Nat} {cs : List Value} {x : DataW H × List MemPlace} {ks : List CK} (n : Nat) (ht : P.underlying t = some (.slice e)) (hs : shape P n e = some ks) (hk : ks.length = P.cellsOf e) (hk0 : 0 < ks.length)
    (h : DataW.trod enc P W 0 spare held fuel t cs = some x) :
    ∃ (bo : Option Addr) (len cap : Nat) (rows : List (List AV)), cs = [.slice bo len cap] ∧ rows.length = len ∧ len ≤ cap ∧ cap ≤ maxLen ∧ Rel W (fun _ => 0) (old W) (.sl false ks.length rows) (.slice bo len cap) ∧ Bnd 0 (.sl false ks.length rows) ∧
      (∀ r ∈ rows, r.length = ks.length ∧ ∀ (j : Nat) k y, ks[j]? = some k → r[j]? = some y → KindOf k y) ∧ wtA rows.flatten + len + 1 ≤ Rows.uptoBulk x.1 := by
  rcases open_slice ht h with ⟨rfl, rfl⟩ | ⟨a, len, cap, m, n', D, Pl, rfl, hb, hl, hm, hmm, rfl, hi⟩
  · refine ⟨none, 0, 0, [], rfl, rfl, Nat.le_refl _, Nat.zero_le _, ?_, .sl _ _ _ (fun r hr => by cases hr), fun r hr => (by cases hr), by simp [wtA, Rows.uptoBulk]⟩
    exact rel_rows _ [] none 0 0 (fun r hr => by cases hr) hk0 rfl (Nat.le_refl _) (Nat.zero_le _) (fun i r hr => by simp at hr)
  · have hlm : len ≤ m := by rw [hmm]; split <;> omega
    obtain ⟨rows, hrl, hrx⟩ := list_lt (n := len) (p := fun i (r : List AV) => ∃ g o cs', some a = some ⟨g, o, none⟩ ∧ (∀ (j : Nat) v, cs'[j]? = some v → W.cell? ⟨g, o + i * ks.length + j, none⟩ = some v) ∧ Opened W ks cs' r ∧ wtA r + 1 ≤ Rows.uptoBulk (D i)) (fun i hi' => by
      obtain ⟨cs', hcs, htr⟩ := hi i (by omega)
      obtain ⟨avs, ho, hw⟩ := opened n hs htr
      obtain ⟨_, hcl, hat⟩ := World.cells?_some hcs
      obtain ⟨cs0, hcs0, _⟩ := hi 0 (by omega)
      have h00 := World.cells?_some hcs0
      have hspot := World.cell?_spot ((h00.2.2 0 (by omega)).trans (List.getElem?_eq_getElem (by have := h00.2.1; omega)))
      obtain ⟨b, off, spot⟩ := a
      obtain rfl : spot = none := by simpa [Addr.add] using hspot
      refine ⟨avs, b, off, cs', rfl, fun j v hj => ?_, ho, hw⟩
      have hjl : j < P.cellsOf e := by have := (List.getElem?_eq_some_iff.1 hj).1; omega
      rw [hk, ← add_plain, ← add_plain, hat j hjl]; exact hj)
    refine ⟨some a, len, cap, rows, rfl, hrl, hl, hm, ?_, ?_, ?_, ?_⟩
    · refine rel_rows _ rows _ len cap (fun r hr => ?_) hk0 hrl hl hm (fun i r hr => ?_)
      · obtain ⟨i, hi'⟩ := List.getElem?_of_mem hr
        obtain ⟨g, o, cs', _, _, ho, _⟩ := hrx i r hi'
        exact ho.len
      · obtain ⟨g, o, cs', hb', hc, ho, _⟩ := hrx i r hr
        refine ⟨g, o, hb', fun j y hy => ?_⟩
        have hjl : j < cs'.length := by have := (List.getElem?_eq_some_iff.1 hy).1; have := ho.len; have := ho.clen; omega
        obtain ⟨h1, h2, h3, h4⟩ := ho.rel j y cs'[j] hy (List.getElem?_eq_getElem hjl)
        exact ⟨h1, h2, _, hc j _ (List.getElem?_eq_getElem hjl), h3⟩
    · refine .sl _ _ _ (fun r hr y hy => ?_)
      obtain ⟨i, hi'⟩ := List.getElem?_of_mem hr
      obtain ⟨j, hj⟩ := List.getElem?_of_mem hy
      obtain ⟨g, o, cs', _, _, ho, _⟩ := hrx i r hi'
      have hjl : j < cs'.length := by have := (List.getElem?_eq_some_iff.1 hj).1; have := ho.len; have := ho.clen; omega
      exact (ho.rel j y cs'[j] hj (List.getElem?_eq_getElem hjl)).2.2.2
    · intro r hr
      obtain ⟨i, hi'⟩ := List.getElem?_of_mem hr
      obtain ⟨g, o, cs', _, _, ho, _⟩ := hrx i r hi'
      exact ⟨ho.len, ho.kind⟩
    · have := bulkAll_range D rows hrl (fun i r hr => by obtain ⟨_, _, _, _, _, _, hw⟩ := hrx i r hr; exact hw)
      simp only [Rows.uptoBulk]
      omega
end
end Go.Proofs.YtimhofphmgehgaaDoor
