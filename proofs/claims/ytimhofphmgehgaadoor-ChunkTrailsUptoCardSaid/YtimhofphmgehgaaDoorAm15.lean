/- THE ABSTRACT MACHINE: what simp reckons. For every program. -/
import Derived.Test.YtimhofphmgehgaaDoorAm14
import Derived.KernelRfl
set_option linter.unusedVariables false
set_option linter.unusedSimpArgs false
namespace Go.Proofs.YtimhofphmgehgaaDoor
open Go Go.RowKit

attribute [simp] vc_scope vc_label Kscp_normal Kscp_ret Kscp_exit KP_false KP_same KP_app LP_0 LP_1 LP_2 LA SA vcl_nil vcl_cons0 vcl_cons VGo_true VGo_false VTry_none VTry_some VOp_some Kcall_eq vc_skip vc_region vc_seq vc_cond vc_block vc_loop vc_exit vc_ret Kseq_normal Kseq_exit Kseq_ret Kblk_normal Kblk_ret Kblk_exit Kloop_ret Kloop_exit VC_true VC_false
attribute [simp] wantedA acall aop aput inB ndOf cval0 abInt abSh isSh aun abound aextract anil acells abuild arows alit aload astore abase asrc aappend abuiltin amake afaddr afield alen aconv aconvB aslice ubyte ubytes setR
/-- What stands in a slot. -/
def aget (fr : List AV) (t : Nat) : AV := fr.getD t (.raw undef)
@[simp] theorem aget_zero (x : AV) (l : List AV) : aget (x :: l) 0 = x := rfl
@[simp] theorem aget_succ (x : AV) (l : List AV) (n : Nat) : aget (x :: l) (n + 1) = aget l n := rfl
@[simp] theorem aeval_tmp (fr : List AV) (t : Nat) : aeval fr (.tmp t) = aget fr t := rfl
@[simp] theorem aeval_const (fr : List AV) (v : Value) : aeval fr (.const v) = cval v := rfl
@[simp] theorem aeval_global (fr : List AV) (g : Nat) : aeval fr (.global g) = .raw (.pointer (some ⟨g, 0, none⟩)) := rfl
@[simp] theorem aeval_func (fr : List AV) (f : Nat) : aeval fr (.func f) = .fn f [] := rfl
def dstAt : List Oper → Nat → Option Tmp
  | [], _ => none
  | o :: _, 0 => o.dst
  | _ :: l, n + 1 => dstAt l n
def yieldC : AV → Option (Option Bool)
  | .bool b => some (some b)
  | .raw (.tuple _) => some none
  | _ => none
def yieldB (fr : List AV) : Option Tmp → Option (Option Bool)
  | none => some none
  | some d => yieldC (aget fr d)
attribute [simp] dstAt
@[simp] theorem yieldC_bool (b : Bool) : yieldC (.bool b) = some (some b) := rfl
@[simp] theorem yieldC_undef : yieldC (.raw undef) = some none := rfl
@[simp] theorem yieldB_none (fr : List AV) : yieldB fr none = some none := rfl
@[simp] theorem yieldB_some (fr : List AV) (d : Tmp) : yieldB fr (some d) = yieldC (aget fr d) := rfl
theorem dstAt_eq : ∀ (l : List Oper) (j : Nat), dstAt l j = (l[j]?).bind (·.dst)
  | [], _ => by simp [dstAt]
  | o :: _, 0 => rfl
  | _ :: l, n + 1 => by simp [dstAt, dstAt_eq l n]
@[simp] theorem yieldA_eq (all : Array Oper) (fr : List AV) (j : Nat) : yieldA all fr j = yieldB fr (dstAt all.toList j) := by
  rw [dstAt_eq]
  unfold yieldA yieldB
  simp only [Array.getElem?_toList]
  split
  · rename_i h; rw [h]
  · rename_i d h
    rw [h]
    simp only [aget, List.getD]
    split
    · rename_i h2; rw [h2]; rfl
    · rename_i b h2; rw [h2]; rfl
    · rename_i vs h2; rw [h2]; rfl
    · rename_i x h2 h3 h4
      cases hx : fr[d]? with
      | none => exact absurd hx h2
      | some v =>
        show none = yieldC v
        unfold yieldC
        split
        · exact absurd hx (h3 _)
        · exact absurd hx (h4 _)
        · rfl
@[simp] theorem fdis_tmp (fr : List AV) (t : Nat) : fdis fr (.tmp t) = fr.set t (aget fr t).dis := rfl
@[simp] theorem fdis_const (fr : List AV) (v : Value) : fdis fr (.const v) = fr := rfl
@[simp] theorem fdis_global (fr : List AV) (v : Nat) : fdis fr (.global v) = fr := rfl
@[simp] theorem fdis_func (fr : List AV) (v : Nat) : fdis fr (.func v) = fr := rfl
/-- What stands in a list: a word that simp leaves alone. -/
def lat {α : Type} (l : List α) (n : Nat) : Option α := l[n]?
@[simp] theorem lat_zero {α : Type} (x : α) (l : List α) : lat (x :: l) 0 = some x := rfl
@[simp] theorem lat_succ {α : Type} (x : α) (l : List α) (n : Nat) : lat (x :: l) (n + 1) = lat l n := rfl
theorem lat_eq {α : Type} {l : List α} {n : Nat} {x : α} (h : l[n]? = some x) : lat l n = some x := h
@[simp] theorem aixaddr_sl (P : Program) (t : TypeId) (own : Bool) (k : Nat) (rows : List (List AV)) (kk : IntKind) (n : Int) : aixaddr P t (.sl own k rows) (.int kk n) = if tel P t = some k ∧ 0 ≤ n then (lat rows n.toNat).map .elt else none := by
  cases h : rows[n.toNat]? <;> simp [aixaddr, lat, h]
@[simp] theorem aix_str (P : Program) (t : TypeId) (l : List UInt8) (kk : IntKind) (n : Int) : aix P t (.str l) (.int kk n) = if tstr P t = true ∧ 0 ≤ n then (lat l n.toNat).map (fun b => .int .u8 (b.toNat : Int)) else none := by
  cases h : l[n.toNat]? <;> simp [aix, lat, h]
@[simp] theorem dis_int (k n) : (AV.int k n).dis = .int k n := rfl
@[simp] theorem dis_bool (b) : (AV.bool b).dis = .bool b := rfl
@[simp] theorem dis_str (b) : (AV.str b).dis = .str b := rfl
@[simp] theorem dis_ptr (b) : (AV.ptr b).dis = .ptr b := rfl
@[simp] theorem dis_elt (b) : (AV.elt b).dis = .elt b := rfl
@[simp] theorem dis_sl (o k r) : (AV.sl o k r).dis = .sl false k r := rfl
@[simp] theorem dis_nil : AV.nil.dis = .nil := rfl
@[simp] theorem dis_agg (b) : (AV.agg b).dis = .agg b := rfl
@[simp] theorem dis_tup (b) : (AV.tup b).dis = .tup b := rfl
@[simp] theorem dis_fn (b c) : (AV.fn b c).dis = .fn b c := rfl
@[simp] theorem dis_raw (b) : (AV.raw b).dis = .raw b := rfl
@[simp] theorem dis_ex (b c) : (AV.ex b c).dis = .ex b c := rfl
@[simp] theorem free_int (k n) : (AV.int k n).free = true := rfl
@[simp] theorem free_bool (b) : (AV.bool b).free = true := rfl
@[simp] theorem free_str (b) : (AV.str b).free = true := rfl
@[simp] theorem free_ptr (b) : (AV.ptr b).free = true := rfl
@[simp] theorem free_elt (b) : (AV.elt b).free = true := rfl
@[simp] theorem free_slf (k r) : (AV.sl false k r).free = true := rfl
@[simp] theorem free_slt (k r) : (AV.sl true k r).free = false := rfl
@[simp] theorem free_nil : AV.nil.free = true := rfl
@[simp] theorem free_agg (b) : (AV.agg b).free = true := rfl
@[simp] theorem free_tup (b) : (AV.tup b).free = true := rfl
@[simp] theorem free_fn (b c) : (AV.fn b c).free = true := rfl
@[simp] theorem free_raw (b) : (AV.raw b).free = true := rfl
@[simp] theorem free_ex (b c) : (AV.ex b c).free = false := rfl
@[simp] theorem cval_int (k n) : cval (.int k n) = .int k n := rfl
@[simp] theorem cval_bool (b) : cval (.bool b) = .bool b := rfl
@[simp] theorem cval_ptr : cval (.pointer none) = .ptr none := rfl
@[simp] theorem cval_nil : cval (.slice none 0 0) = .nil := rfl
@[simp] theorem cval_nilFunc : cval .nilFunc = .raw .nilFunc := rfl
@[simp] theorem cval_nilIface : cval .nilIface = .raw .nilIface := rfl
theorem cval_str (s : ByteArray) (h : s.size ≤ maxLen) : cval (.string s) = .str s.data.toList := by simp [cval, cval0, h]
@[simp] theorem cval_lit (l : List UInt8) (h : l.length ≤ 1000) : cval (.string ⟨l.toArray⟩) = .str l := by
  rw [cval_str _ (by unfold maxLen; show l.toArray.size ≤ _; simp; omega)]
@[simp] theorem abin_int (P : Program) (op : BinOp) (t : TypeId) (k k' : IntKind) (a b : Int) : abin P op t (.int k a) (.int k' b) = if isSh op then abSh op k a b else if k = k' then abInt op k a b else none := rfl
@[simp] theorem abin_add (P : Program) (t : TypeId) (a b : List UInt8) : abin P .add t (.str a) (.str b) = if a.length + b.length ≤ maxLen then some (.str (a ++ b)) else none := rfl
@[simp] theorem abin_seql (P : Program) (t : TypeId) (a b : List UInt8) : abin P .eql t (.str a) (.str b) = some (.bool (a == b)) := rfl
@[simp] theorem abin_sneq (P : Program) (t : TypeId) (a b : List UInt8) : abin P .neq t (.str a) (.str b) = some (.bool (a != b)) := rfl
@[simp] theorem abin_beql (P : Program) (t : TypeId) (a b : Bool) : abin P .eql t (.bool a) (.bool b) = if tbool P t then some (.bool (a == b)) else none := rfl
@[simp] theorem abin_bneq (P : Program) (t : TypeId) (a b : Bool) : abin P .neq t (.bool a) (.bool b) = if tbool P t then some (.bool (a != b)) else none := rfl
@[simp] theorem abin_peql (P : Program) (t : TypeId) (p : Option (Nat × Nat)) : abin P .eql t (.ptr p) (.ptr none) = if tptr P t then some (.bool p.isNone) else none := rfl
@[simp] theorem abin_pneq (P : Program) (t : TypeId) (p : Option (Nat × Nat)) : abin P .neq t (.ptr p) (.ptr none) = if tptr P t then some (.bool p.isSome) else none := rfl
@[simp] theorem abin_aeql (P : Program) (t : TypeId) (l m : List AV) : abin P .eql t (.agg l) (.agg m) = (match tflat P t with
    | some cs => (aeqs cs l m).map .bool
    | none => none) := by
  simp only [abin]
  cases tflat P t with
  | none => rfl
  | some cs => dsimp only; cases aeqs cs l m <;> rfl
@[simp] theorem abin_aneq (P : Program) (t : TypeId) (l m : List AV) : abin P .neq t (.agg l) (.agg m) = (match tflat P t with
    | some cs => (aeqs cs l m).map fun b => .bool !b
    | none => none) := by
  simp only [abin]
  cases tflat P t with
  | none => rfl
  | some cs => dsimp only; cases aeqs cs l m <;> rfl
attribute [simp] aeqs aeq1 afill
@[simp] theorem aix_agg (P : Program) (t : TypeId) (l : List AV) (kk : IntKind) (n : Int) : aix P t (.agg l) (.int kk n) = (match tarr P t with
    | some (m, k, b) => if 0 ≤ n ∧ n.toNat < m then (if b then (if n.toNat * k + k ≤ l.length then some (.agg ((l.drop (n.toNat * k)).take k)) else none) else lat l (n.toNat * k)) else none
    | none => none) := rfl
@[simp] theorem ares_one (P : Program) (fr : List AV) (H : Hp) (t : Nat) : ares P fr H [.tmp t] = some (aget fr t) := rfl
@[simp] theorem ares_two (P : Program) (fr : List AV) (H : Hp) (r s : ResultVar) (l : List ResultVar) : ares P fr H (r :: s :: l) = match aresL P fr H (r :: s :: l) with
    | some [v] => some v.dis
    | some l => some (.tup (l.map AV.dis))
    | none => none := by cases r <;> rfl
@[simp] theorem ares_cell (P : Program) (fr : List AV) (H : Hp) (a t : Nat) : ares P fr H [.cell a t] = match aresL P fr H [.cell a t] with
    | some [v] => some v.dis
    | some l => some (.tup (l.map AV.dis))
    | none => none := rfl
attribute [simp] aresL
@[simp] theorem ares1_tmp (P : Program) (fr : List AV) (H : Hp) (t : Nat) : ares1 P fr H (.tmp t) = some (aget fr t) := rfl
@[simp] theorem ares1_cell (P : Program) (fr : List AV) (H : Hp) (a t : Nat) : ares1 P fr H (.cell a t) = match aget fr a with
    | .ptr p => match aload P [] none t fr H (.ptr p) with
      | some (v, _) => some v
      | none => none
    | _ => none := rfl
@[simp] theorem bts_length (l : List UInt8) : (bts l).length = l.length := bts_len l
@[simp] theorem ubytes_bts' (l : List UInt8) : ubytes (bts l) = some l := ubytes_bts l
theorem bts_snoc (l : List UInt8) (b : UInt8) : bts l ++ [[AV.int .u8 (b.toNat : Int)]] = bts (l ++ [b]) := by simp [bts]
theorem bts_app (l m : List UInt8) : bts l ++ bts m = bts (l ++ m) := by simp [bts]
theorem bts_at (l : List UInt8) (k : Nat) (b : UInt8) (h : l[k]? = some b) : lat (bts l) k = some [AV.int .u8 (b.toNat : Int)] := by simp [lat, bts, h]
theorem bts_nil : bts [] = [] := rfl
theorem wrap_in {x : Int} (h1 : -9223372036854775808 ≤ x) (h2 : x ≤ 9223372036854775807) : IntKind.i64.wrap x = x := IntWalk.i64_in _ ⟨h1, h2⟩
@[simp] theorem nat_neg (i : Nat) : ((i : Int) < 0) = False := eq_false (by omega)
def ai : AV → Int
  | .int _ n => n
  | _ => 0
@[simp] theorem ai_int (k n) : ai (.int k n) = n := rfl
theorem fr_intro {pat : (Nat → AV) → List AV} {fr : List AV} (h : fr = pat (fun i => aget fr i)) : ∃ x, fr = pat x := ⟨_, h⟩
theorem nil1_trans {x y z : AV} (h : nil1 x y) (k : nil1 y z) : nil1 x z := by
  rcases h with rfl | ⟨rfl, b, n, rfl⟩
  · exact k
  · rcases k with rfl | ⟨h, _⟩
    · exact .inr ⟨rfl, b, n, rfl⟩
    · cases h
theorem nilL_trans : ∀ {x y z : List AV}, nilL x y → nilL y z → nilL x z
  | [], [], [], _, _ => trivial
  | _ :: _, _ :: _, _ :: _, h, k => ⟨nil1_trans h.1 k.1, nilL_trans h.2 k.2⟩
  | [], [], _ :: _, _, k => k.elim
  | [], _ :: _, _, h, _ => h.elim
  | _ :: _, [], _, h, _ => h.elim
  | _ :: _, _ :: _, [], _, k => k.elim
theorem nilH_trans : ∀ {x y z : Hp}, nilH x y → nilH y z → nilH x z
  | [], [], [], _, _ => trivial
  | _ :: _, _ :: _, _ :: _, h, k => ⟨nilL_trans h.1 k.1, nilH_trans h.2 k.2⟩
  | [], [], _ :: _, _, k => k.elim
  | [], _ :: _, _, h, _ => h.elim
  | _ :: _, [], _, h, _ => h.elim
  | _ :: _, _ :: _, [], _, k => k.elim
theorem nilL_set : ∀ (l : List AV) (t k : Nat), l[t]? = some .nil → nilL l (l.set t (.sl true k []))
  | [], _, _, h => by simp at h
  | x :: l, 0, k, h => by simp at h; subst h; exact ⟨.inr ⟨rfl, true, k, rfl⟩, nilL_refl l⟩
  | x :: l, t + 1, k, h => ⟨.inl rfl, nilL_set l t k (by simpa using h)⟩
theorem nilH_set : ∀ (l : Hp) (t : Nat) (c c' : List AV), l[t]? = some c → nilL c c' → nilH l (l.set t c')
  | [], _, _, _, h, _ => by simp at h
  | x :: l, 0, c, c', h, k => by simp at h; subst h; exact ⟨k, nilH_refl l⟩
  | x :: l, t + 1, c, c', h, k => ⟨nilL_refl x, nilH_set l t c c' (by simpa using h) k⟩
section
variable {P : Program} {E : Env} {B : List Tmp} {ND : List (Nat × List Nat)} {KE : Exit → List AV → Hp → Prop} {fr : List AV} {H : Hp} {a : Code}
/-- Ahead of a loop: a slot's nil is seen as a slice of no rows of k cells. -/
theorem VL_nil (t k : Nat) (h : fr[t]? = some .nil) (hv : VL P E B ND a KE (fr.set t (.sl true k [])) H) : VL P E B ND a KE fr H := by
  obtain ⟨I, μ, fr1, H1, h1, h2, h3, h4⟩ := hv
  exact ⟨I, μ, fr1, H1, nilL_trans (nilL_set fr t k h) h1, h2, h3, h4⟩
/-- .. a box's cell's. -/
theorem VL_nilH (i : Nat) (c : List AV) (t k : Nat) (hc : H[i]? = some c) (h : c[t]? = some .nil) (hv : VL P E B ND a KE fr (H.set i (c.set t (.sl true k [])))) : VL P E B ND a KE fr H := by
  obtain ⟨I, μ, fr1, H1, h1, h2, h3, h4⟩ := hv
  exact ⟨I, μ, fr1, H1, h1, nilH_trans (nilH_set H i c _ hc (nilL_set c t k h)) h2, h3, h4⟩
theorem VL_go (I : List AV → Hp → Prop) (μ : List AV → Hp → Nat) (h3 : I fr H) (h4 : ∀ fr H, I fr H → vc P E B ND a (Kloop I (μ fr H) μ KE) fr H) : VL P E B ND a KE fr H := ⟨I, μ, fr, H, nilL_refl _, nilH_refl _, h3, h4⟩
end
theorem nilH_app : ∀ (H : Hp) {J K : Hp}, nilH J K → nilH (H ++ J) (H ++ K)
  | [], _, _, h => h
  | x :: H, _, _, h => ⟨nilL_refl x, nilH_app H h⟩
/-- Where a function ends that leaves the boxes alone. -/
theorem aPost_same {P : Program} {rs : List ResultVar} {Q : AV → Hp → Prop} {fr : List AV} {H J : Hp} {v0 v : AV} (hB : BndH H.length H) (h1 : ares P fr (H ++ J) rs = some v0) (h2 : nilV v0 v) (h5 : Bnd H.length v) (h6 : Q v H) :
    aPost P rs H.length Q .ret fr (H ++ J) := ⟨v0, v, H ++ J, H, J, h1, h2, nilH_refl _, rfl, Nat.le_refl _, hB, h5, h6⟩
theorem aPost_same0 {P : Program} {rs : List ResultVar} {Q : AV → Hp → Prop} {fr : List AV} {H : Hp} {v0 v : AV} (hB : BndH H.length H) (h1 : ares P fr H rs = some v0) (h2 : nilV v0 v) (h5 : Bnd H.length v) (h6 : Q v H) :
    aPost P rs H.length Q .ret fr H := ⟨v0, v, H, H, [], h1, h2, nilH_refl _, (List.append_nil H).symm, Nat.le_refl _, hB, h5, h6⟩
theorem nilV_refl (v : AV) : nilV v v := .inl (.inl rfl)
theorem nilV_nil (b : Bool) (k : Nat) : nilV .nil (.sl b k []) := .inl (.inr ⟨rfl, b, k, rfl⟩)
@[simp] theorem bnd_int' {N : Nat} (k n) : Bnd N (.int k n) := .int k n
@[simp] theorem bnd_bool' {N : Nat} (b) : Bnd N (.bool b) := .bool b
@[simp] theorem bnd_str' {N : Nat} (b) : Bnd N (.str b) := .str b
@[simp] theorem bnd_nil' {N : Nat} : Bnd N .nil := .nil
@[simp] theorem bnd_raw' {N : Nat} (b) : Bnd N (.raw b) := .raw b
@[simp] theorem bnd_ex' {N : Nat} (b c) : Bnd N (.ex b c) := .ex b c
@[simp] theorem bnd_ptr0' {N : Nat} : Bnd N (.ptr none) := .ptr0
@[simp] theorem bnd_ptr' {N : Nat} (i o) : Bnd N (.ptr (some (i, o))) ↔ i < N := ⟨fun h => by cases h; assumption, .ptr i o⟩
@[simp] theorem bnd_sl' {N : Nat} (b k r) : Bnd N (.sl b k r) ↔ ∀ l ∈ r, ∀ x ∈ l, Bnd N x := ⟨fun h => by cases h; assumption, .sl b k r⟩
@[simp] theorem bnd_agg' {N : Nat} (r) : Bnd N (.agg r) ↔ ∀ x ∈ r, Bnd N x := ⟨fun h => by cases h; assumption, .agg r⟩
@[simp] theorem bnd_tup' {N : Nat} (r) : Bnd N (.tup r) ↔ ∀ x ∈ r, Bnd N x := ⟨fun h => by cases h; assumption, .tup r⟩
@[simp] theorem bnd_elt' {N : Nat} (r) : Bnd N (.elt r) ↔ ∀ x ∈ r, Bnd N x := ⟨fun h => by cases h; assumption, .elt r⟩
@[simp] theorem bnd_fn' {N : Nat} (f r) : Bnd N (.fn f r) ↔ ∀ x ∈ r, Bnd N x := ⟨fun h => by cases h; assumption, .fn f r⟩
theorem bnd_bts {N : Nat} (l : List UInt8) : ∀ r ∈ bts l, ∀ x ∈ r, Bnd N x := fun r hr x hx => by
  obtain ⟨c, _, rfl⟩ := List.mem_map.1 hr
  simp at hx; subst hx; exact .int _ _
@[simp high] theorem bnd_sl_bts {N : Nat} (b k) (l : List UInt8) : Bnd N (.sl b k (bts l)) := .sl _ _ _ (bnd_bts l)
/-- Where a function of one result ends, its own boxes dropped. -/
theorem aPost_end {P : Program} {rs : List ResultVar} {n : Nat} {Q : AV → Hp → Prop} {fr : List AV} {H' J : Hp} {v0 v : AV} (h1 : ares P fr (H' ++ J) rs = some v0) (h2 : nilV v0 v) (h3 : n ≤ H'.length) (h4 : BndH H'.length H') (h5 : Bnd H'.length v) (h6 : Q v H') :
    aPost P rs n Q .ret fr (H' ++ J) := ⟨v0, v, H' ++ J, H', J, h1, h2, nilH_refl _, rfl, h3, h4, h5, h6⟩
end Go.Proofs.YtimhofphmgehgaaDoor
