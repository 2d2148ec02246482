/- THE ABSTRACT MACHINE: operations that only compute. For every program. -/
import Derived.Test.YtimhofphmgehgaaDoorAm4
import Derived.Laws.StructEq
set_option linter.unusedVariables false
set_option linter.unusedSimpArgs false
namespace Go.Proofs.YtimhofphmgehgaaDoor
open Go Go.RowKit

/-! ### What is asked of the program's types -/
def tsz (P : Program) (t : TypeId) : Option Nat := (P.info? t).map (·.size)
def trow (P : Program) (t : TypeId) : Option Bool := (P.underlying t).map (·.isRow)
def tsl (P : Program) (t : TypeId) : Option TypeId := match P.underlying t with | some (.slice e) => some e | _ => none
def tint (P : Program) (t : TypeId) : Option IntKind := match P.underlying t with | some (.int k) => some k | _ => none
def tstr (P : Program) (t : TypeId) : Bool := match P.underlying t with | some .string => true | _ => false
def tbool (P : Program) (t : TypeId) : Bool := match P.underlying t with | some .bool => true | _ => false
def tptr (P : Program) (t : TypeId) : Bool := match P.underlying t with | some (.pointer _) => true | _ => false
/-- A field: its place, its cells, and whether it is itself a row of cells. -/
def tfld (P : Program) (t : TypeId) (f : Nat) : Option (Nat × Nat × Bool) := match P.underlying t with
  | some (.struct fs) => match fs[f]? with
    | some fd => match tsz P fd.type, trow P fd.type with
      | some n, some b => if n = 0 then none else some (fd.offset, n, b)
      | _, _ => none
    | none => none
  | _ => none
/-- The element's cells of a slice type. -/
def tel (P : Program) (t : TypeId) : Option Nat := match tsl P t with
  | some e => tsz P e
  | none => none
/-- A slice of bytes? -/
def tbytes (P : Program) (t : TypeId) : Bool := match tsl P t with
  | some e => match tint P e with
    | some .u8 => true
    | _ => false
  | none => false

/-- A struct of plain cells: what each is (0 a number, 1 a truth, 2 a text). -/
def tcode (P : Program) (t : TypeId) : Option Nat := match P.underlying t with | some (.int _) => some 0 | some .bool => some 1 | some .string => some 2 | _ => none
def tcodes (P : Program) : List Field → Nat → Option (List Nat)
  | [], _ => some []
  | f :: fs, o => if f.name ≠ "_" ∧ f.offset = o then match tcode P f.type, tcodes P fs (o + 1) with
    | some c, some l => some (c :: l)
    | _, _ => none else none
def tflat (P : Program) (t : TypeId) : Option (List Nat) := match P.underlying t with
  | some (.struct fs) => if P.stoodInHeld t = false ∧ P.eqGuardType P.depth t = false then tcodes P fs.toList 0 else none
  | _ => none
/-- An array: how many, the element's cells, and whether it is itself a row of cells. -/
def tarr (P : Program) (t : TypeId) : Option (Nat × Nat × Bool) := match P.underlying t with
  | some (.array n e) => match tsz P e, trow P e with
    | some k, some b => some (n, k, b)
    | _, _ => none
  | _ => none
def aeq1 (c : Nat) (x y : AV) : Option Bool := match c, x, y with
  | 0, .int k a, .int k' b => if k = k' then some (a == b) else none
  | 1, .bool a, .bool b => some (a == b)
  | 2, .str a, .str b => some (a == b)
  | _, _, _ => none
def aeqs : List Nat → List AV → List AV → Option Bool
  | [], [], [] => some true
  | c :: cs, x :: xs, y :: ys => match aeq1 c x y, aeqs cs xs ys with
    | some b, some r => some (b && r)
    | _, _ => none
  | _, _, _ => none

def ubyte : List AV → Option UInt8
  | [.int .u8 n] => if 0 ≤ n ∧ n < 256 then some (UInt8.ofNat n.toNat) else none
  | _ => none
def ubytes : List (List AV) → Option (List UInt8)
  | [] => some []
  | r :: l => match ubyte r, ubytes l with
    | some b, some m => some (b :: m)
    | _, _ => none
/-- Bytes as rows. -/
def bts (l : List UInt8) : List (List AV) := l.map fun b => [.int .u8 (b.toNat : Int)]
theorem ubytes_bts (l : List UInt8) : ubytes (bts l) = some l := by
  induction l with
  | nil => rfl
  | cons b l ih =>
    have h : (0 : Int) ≤ (b.toNat : Int) ∧ (b.toNat : Int) < 256 := by have := b.toNat_lt; omega
    have e : bts (b :: l) = [.int .u8 (b.toNat : Int)] :: bts l := rfl
    rw [e, ubytes, ubyte, if_pos h, ih]
    simp

def abInt (op : BinOp) (k : IntKind) (a b : Int) : Option AV := match op with
  | .add => some (.int k (k.wrap (a + b)))
  | .sub => some (.int k (k.wrap (a - b)))
  | .mul => some (.int k (k.wrap (a * b)))
  | .quo => if b = 0 then none else some (.int k (k.wrap (a.tdiv b)))
  | .rem => if b = 0 then none else some (.int k (a.tmod b))
  | .and => some (.int k (k.wrap (BitVec.ofInt k.bits a &&& BitVec.ofInt k.bits b).toNat))
  | .or => some (.int k (k.wrap (BitVec.ofInt k.bits a ||| BitVec.ofInt k.bits b).toNat))
  | .xor => some (.int k (k.wrap (BitVec.ofInt k.bits a ^^^ BitVec.ofInt k.bits b).toNat))
  | .andNot => some (.int k (k.wrap (BitVec.ofInt k.bits a &&& ~~~(BitVec.ofInt k.bits b)).toNat))
  | .eql => some (.bool (a == b))
  | .neq => some (.bool (a != b))
  | .lss => some (.bool (decide (a < b)))
  | .leq => some (.bool (decide (a ≤ b)))
  | .gtr => some (.bool (decide (a > b)))
  | .geq => some (.bool (decide (a ≥ b)))
  | _ => none
def abSh (op : BinOp) (k : IntKind) (a b : Int) : Option AV := match op with
  | .shl => if 0 ≤ b then some (.int k (k.wrap (a * 2 ^ (min b.toNat k.bits)))) else none
  | .shr => if 0 ≤ b then some (.int k (a.fdiv (2 ^ (min b.toNat k.bits)))) else none
  | _ => none
def isSh : BinOp → Bool
  | .shl | .shr => true
  | _ => false
def abin (P : Program) (op : BinOp) (t : TypeId) (x y : AV) : Option AV := match x, y with
  | .int k a, .int k' b => if isSh op then abSh op k a b else if k = k' then abInt op k a b else none
  | .str a, .str b => match op with
    | .add => if a.length + b.length ≤ maxLen then some (.str (a ++ b)) else none
    | .eql => some (.bool (a == b))
    | .neq => some (.bool (a != b))
    | _ => none
  | .bool a, .bool b => if tbool P t then match op with
    | .eql => some (.bool (a == b))
    | .neq => some (.bool (a != b))
    | _ => none else none
  | .ptr p, .ptr none => if tptr P t then match op with
    | .eql => some (.bool p.isNone)
    | .neq => some (.bool p.isSome)
    | _ => none else none
  | .elt _, .ptr none => if tptr P t then match op with
    | .eql => some (.bool false)
    | .neq => some (.bool true)
    | _ => none else none
  | .agg l, .agg m => match tflat P t with
    | some cs => match aeqs cs l m with
      | some b => (match op with
        | .eql => some (.bool b)
        | .neq => some (.bool !b)
        | _ => none)
      | none => none
    | none => none
  | _, _ => none
def aun (op : UnOp) (x : AV) : Option AV := match op, x with
  | .neg, .int k n => some (.int k (k.wrap (0 - n)))
  | .not, .bool b => some (.bool !b)
  | _, _ => none
def aconv (P : Program) (s d : TypeId) (x : AV) : Option AV := match x with
  | .int _ n => match (P.underlying s).isSome, tint P d with
    | true, some k => some (.int k (k.wrap n))
    | _, _ => none
  | .str l => if (P.underlying s).isSome && tstr P d then some (.str l) else none
  | .sl _ _ rows => if tbytes P s && tstr P d then (ubytes rows).map .str else none
  | .nil => if tbytes P s && tstr P d then some (.str []) else none
  | _ => none
/-- A bound, or what it is where there is none. -/
def abound (x : Option AV) (n : Nat) : Option Nat := match x with
  | none => some n
  | some (.int _ i) => if 0 ≤ i then some i.toNat else none
  | some _ => none
def aslice (P : Program) (t : TypeId) (x : AV) (lo hi mx : Option AV) : Option AV := match x with
  | .str l => if tstr P t && mx.isNone then match abound lo 0, abound hi l.length with
    | some a, some b => if a ≤ b ∧ b ≤ l.length then some (.str ((l.drop a).take (b - a))) else none
    | _, _ => none else none
  | .sl _ k rows => if tel P t = some k then match mx with
    | none => match abound lo 0, abound hi rows.length with
      | some a, some b => if a ≤ b ∧ b ≤ rows.length then some (.sl false k ((rows.drop a).take (b - a))) else none
      | _, _ => none
    | some (.int _ m) => match abound lo 0, hi with
      | some a, some (.int _ b) => if 0 ≤ b ∧ a ≤ b.toNat ∧ b ≤ m ∧ m ≤ rows.length then some (.sl false k ((rows.drop a).take (b.toNat - a))) else none
      | _, _ => none
    | _ => none else none
  | .nil => if (tel P t).isSome && mx.isNone then match abound lo 0, abound hi 0 with
    | some 0, some 0 => some .nil
    | _, _ => none else none
  | _ => none
def afaddr (P : Program) (t : TypeId) (x : AV) (f : Nat) : Option AV := match tfld P t f with
  | some (o, n, _) => match x with
    | .ptr (some (i, p)) => some (.ptr (some (i, p + o)))
    | .elt cells => if o + n ≤ cells.length then some (.elt ((cells.drop o).take n)) else none
    | _ => none
  | none => none
def afield (P : Program) (t : TypeId) (x : AV) (f : Nat) : Option AV := match tfld P t f, x with
  | some (o, n, b), .agg cells => if b then (if o + n ≤ cells.length then some (.agg ((cells.drop o).take n)) else none) else cells[o]?
  | _, _ => none
def aixaddr (P : Program) (t : TypeId) (x i : AV) : Option AV := match x, i with
  | .sl _ k rows, .int _ n => if tel P t = some k ∧ 0 ≤ n then (match rows[n.toNat]? with
    | some r => some (.elt r)
    | none => none) else none
  | _, _ => none
def aix (P : Program) (t : TypeId) (x i : AV) : Option AV := match x, i with
  | .str l, .int _ n => if tstr P t = true ∧ 0 ≤ n then (match l[n.toNat]? with
    | some b => some (.int .u8 (b.toNat : Int))
    | none => none) else none
  | .agg l, .int _ n => match tarr P t with
    | some (m, k, b) => if 0 ≤ n ∧ n.toNat < m then (if b then (if n.toNat * k + k ≤ l.length then some (.agg ((l.drop (n.toNat * k)).take k)) else none) else l[n.toNat * k]?) else none
    | none => none
  | _, _ => none
def aextract (x : AV) (i : Nat) : Option AV := match x with
  | .tup l => l[i]?
  | _ => none
def anil (x : AV) : Option AV := match x with
  | .ptr (some p) => some (.ptr (some p))
  | .elt l => some (.elt l)
  | .fn f l => some (.fn f l)
  | _ => none
def alen (P : Program) (t : TypeId) (x : AV) : Option AV := match x with
  | .str l => if tstr P t then some (.int .i64 l.length) else none
  | .sl _ _ rows => if (tsl P t).isSome then some (.int .i64 rows.length) else none
  | .nil => if (tsl P t).isSome then some (.int .i64 0) else none
  | _ => none

section
variable {P : Program} {w : World} {β : Nat → Nat} {Rd : Nat → Nat → Prop} {N : Nat}

theorem tstr_spec {t : TypeId} (h : tstr P t = true) : P.underlying t = some .string := by
  unfold tstr at h; split at h <;> simp_all
theorem tbool_spec {t : TypeId} (h : tbool P t = true) : P.underlying t = some .bool := by
  unfold tbool at h; split at h <;> simp_all
theorem tptr_spec {t : TypeId} (h : tptr P t = true) : ∃ e, P.underlying t = some (.pointer e) := by
  unfold tptr at h; split at h <;> simp_all
theorem tsl_spec {t e : TypeId} (h : tsl P t = some e) : P.underlying t = some (.slice e) := by
  unfold tsl at h; split at h <;> simp_all
theorem tint_spec {t : TypeId} {k : IntKind} (h : tint P t = some k) : P.underlying t = some (.int k) := by
  unfold tint at h; split at h <;> simp_all
theorem tsz_spec {t : TypeId} {n : Nat} (h : tsz P t = some n) : ∃ i, P.info? t = some i ∧ i.size = n := by
  unfold tsz at h
  cases hi : P.info? t with
  | none => simp [hi] at h
  | some i => exact ⟨i, rfl, by simpa [hi] using h⟩
theorem trow_spec {t : TypeId} {b : Bool} (h : trow P t = some b) : ∃ d, P.underlying t = some d ∧ d.isRow = b := by
  unfold trow at h
  cases hi : P.underlying t with
  | none => simp [hi] at h
  | some i => exact ⟨i, rfl, by simpa [hi] using h⟩
theorem tel_spec {t : TypeId} {k : Nat} (h : tel P t = some k) : ∃ e i, P.underlying t = some (.slice e) ∧ P.info? e = some i ∧ i.size = k := by
  unfold tel at h
  split at h
  · rename_i e he
    obtain ⟨i, h1, h2⟩ := tsz_spec h
    exact ⟨e, i, tsl_spec he, h1, h2⟩
  · cases h
theorem tbytes_spec {t : TypeId} (h : tbytes P t = true) : ∃ e, P.underlying t = some (.slice e) ∧ P.underlying e = some (.int .u8) := by
  unfold tbytes at h
  split at h
  · rename_i e he
    split at h
    · rename_i hk
      exact ⟨e, tsl_spec he, tint_spec hk⟩
    · cases h
  · cases h

theorem run_isAgg {t : TypeId} {b : Bool} (h : trow P t = some b) (w : World) : (isAgg t).run P w = .ok b w := by
  obtain ⟨d, hu, hd⟩ := trow_spec h
  unfold isAgg
  rw [Sem.run_bind, run_underlying hu w]
  cases d <;> simp_all
theorem run_sizeOf {t : TypeId} {n : Nat} (h : tsz P t = some n) (w : World) : (sizeOf t).run P w = .ok n w := by
  obtain ⟨i, h1, h2⟩ := tsz_spec h
  simp [sizeOf, typeInfo, h1, h2]

/-- What an operation yields: v stands for c, and the world stays. -/
structure Got (w : World) (β : Nat → Nat) (Rd : Nat → Nat → Prop) (N : Nat) (v : AV) (c : Value) : Prop where
  rel : Rel w β Rd v c
  bnd : Bnd N v
  free : v.free = true

theorem Got.int {k : IntKind} {n : Int} : Got w β Rd N (.int k n) (.int k n) := ⟨.int k n, .int k n, rfl⟩
theorem Got.bool {b : Bool} : Got w β Rd N (.bool b) (.bool b) := ⟨.bool b, .bool b, rfl⟩

theorem rel_int {k : IntKind} {n : Int} {v : Value} (h : Rel w β Rd (.int k n) v) : v = .int k n := by cases h; rfl
theorem rel_bool {b : Bool} {v : Value} (h : Rel w β Rd (.bool b) v) : v = .bool b := by cases h; rfl
theorem rel_str {l : List UInt8} {v : Value} (h : Rel w β Rd (.str l) v) : ∃ s : ByteArray, v = .string s ∧ s.data.toList = l ∧ s.size ≤ maxLen := by cases h with | str s _ h hm => exact ⟨s, rfl, h, hm⟩
theorem got_str {s : ByteArray} {l : List UInt8} (h : s.data.toList = l) (hm : s.size ≤ maxLen) : Got w β Rd N (.str l) (.string s) := ⟨.str s l h hm, .str l, rfl⟩

theorem abInt_ok {op : BinOp} {k : IntKind} {a b : Int} {v : AV} (h : abInt op k a b = some v) (t : TypeId) (hs : isSh op = false) : ∃ c, (binOp op t (.int k a) (.int k b)).run P w = .ok c w ∧ Got w β Rd N v c := by
  cases op <;> simp only [isSh, Bool.true_eq_false] at hs <;> simp only [abInt, Option.some.injEq, reduceCtorEq] at h <;>
    first
      | (subst h; exact ⟨.int k _, by simp [binOp, Op.intArith, Op.intBits, Op.intCmp], Got.int⟩)
      | (subst h; exact ⟨.bool _, by simp [binOp, Op.intArith, Op.intBits, Op.intCmp], Got.bool⟩)
      | (split at h
         · cases h
         · rename_i hb
           cases h
           exact ⟨.int k _, by simp [binOp, Op.intDiv, hb], Got.int⟩)
      | cases h

theorem eqF_ok (d : Nat) {xs ys : Array Value} : ∀ (fs : List Field) (o : Nat) (cs : List Nat) (l m : List AV) (b : Bool), tcodes P fs o = some cs → aeqs cs l m = some b → o + l.length = xs.size → o + m.length = ys.size →
    (∀ (j : Nat) (x : AV) (u : Value), l[j]? = some x → xs[o + j]? = some u → Rel w β Rd x u) → (∀ (j : Nat) (x : AV) (u : Value), m[j]? = some x → ys[o + j]? = some u → Rel w β Rd x u) → (Op.eqFields (d + 1) xs ys fs).run P w = .ok b w
  | [], o, cs, l, m, b, h1, h2, _, _, _, _ => by
    rw [tcodes] at h1; cases h1
    cases l <;> cases m <;> simp [aeqs] at h2
    subst h2
    simp [Op.eqFields]
  | f :: fs, o, cs, l, m, b, h1, h2, hl, hm, hx, hy => by
    rw [tcodes] at h1
    split at h1
    · rename_i hn
      obtain ⟨hn, rfl⟩ := hn
      split at h1
      · rename_i c cs' hc hcs
        cases h1
        cases l with
        | nil => simp [aeqs] at h2
        | cons x l =>
          cases m with
          | nil => simp [aeqs] at h2
          | cons y m =>
            rw [aeqs] at h2
            split at h2
            · rename_i b1 b2 e1 e2
              cases h2
              have hxs : f.offset < xs.size := by rw [← hl]; simp
              have hys : f.offset < ys.size := by rw [← hm]; simp
              have ex : xs[f.offset]? = some xs[f.offset] := Array.getElem?_eq_getElem hxs
              have ey : ys[f.offset]? = some ys[f.offset] := Array.getElem?_eq_getElem hys
              have rx := hx 0 x _ rfl ex
              have ry := hy 0 y _ rfl ey
              have ih := eqF_ok d fs (f.offset + 1) cs' l m b2 hcs e2 (by rw [← hl]; simp; omega) (by rw [← hm]; simp; omega)
                (fun j z u hz hu => hx (j + 1) z u hz (by rw [← hu]; congr 1; omega)) (fun j z u hz hu => hy (j + 1) z u hz (by rw [← hu]; congr 1; omega))
              have key : (∀ w, (isAgg f.type).run P w = .ok false w) ∧ (Op.equalIn (d + 1) f.type xs[f.offset] ys[f.offset]).run P w = .ok b1 w := by
                unfold tcode at hc
                unfold aeq1 at e1
                split at hc
                · rename_i k hu
                  cases hc
                  refine ⟨fun w => by simp [isAgg, run_underlying hu], ?_⟩
                  split at e1 <;> first | (exfalso; omega) | skip
                  · rename_i k1 a k2 b' _
                    rw [rel_int rx, rel_int ry]
                    split at e1
                    · rename_i hk
                      subst hk
                      cases e1
                      exact run_equalIn_int w d f.type k1 k a b' hu
                    · cases e1
                  · cases e1
                · rename_i hu
                  cases hc
                  refine ⟨fun w => by simp [isAgg, run_underlying hu], ?_⟩
                  split at e1 <;> first | (exfalso; omega) | skip
                  · cases e1
                    rw [rel_bool rx, rel_bool ry]
                    exact run_equalIn_bool' w d f.type _ _ hu
                  · cases e1
                · rename_i hu
                  cases hc
                  refine ⟨fun w => by simp [isAgg, run_underlying hu], ?_⟩
                  split at e1 <;> first | (exfalso; omega) | skip
                  · cases e1
                    obtain ⟨s, es, rfl, _⟩ := rel_str rx
                    obtain ⟨s', es', rfl, _⟩ := rel_str ry
                    rw [es, es', ← ba_toList, ← ba_toList]
                    exact run_equalIn_string w d f.type _ _ hu
                  · cases e1
                · cases hc
              obtain ⟨k1, k2⟩ := key
              simp only [Op.eqFields, ne_eq, hn, not_false_eq_true, if_true, Sem.run_bind, part, k1, Result.andThen_ok, Bool.false_eq_true, if_false, ex, ey, Sem.run_pure, k2, Sem.run_ite, ih]
              cases b1 <;> simp
            · cases h2
      · cases h1
    · cases h1
theorem abin_ok {op : BinOp} {t : TypeId} {x y v : AV} {cx cy : Value} (h : abin P op t x y = some v) (hx : Rel w β Rd x cx) (hy : Rel w β Rd y cy) (ox oy : Operand) :
    ∃ c, (do eqGuard op t ox oy cx cy; binOp op t cx cy : Sem Value).run P w = .ok c w ∧ Got w β Rd N v c := by
  unfold abin at h
  split at h
  · rename_i k a k' b
    obtain rfl := rel_int hx
    obtain rfl := rel_int hy
    have hg : (eqGuard op t ox oy (.int k a) (.int k' b)).run P w = .ok () w := by
      unfold eqGuard
      cases op <;> simp
    split at h
    · rename_i hsh
      cases op <;> simp only [isSh, Bool.false_eq_true] at hsh <;> simp only [abSh] at h <;> split at h <;> cases h
      · rename_i hb
        exact ⟨_, by simp [hg, binOp, Op.shift, show ¬ b < 0 by omega], Got.int⟩
      · rename_i hb
        exact ⟨_, by simp [hg, binOp, Op.shift, show ¬ b < 0 by omega], Got.int⟩
    · rename_i hsh
      split at h
      · rename_i hk
        subst hk
        obtain ⟨c, h1, h2⟩ := abInt_ok (P := P) (w := w) (β := β) (Rd := Rd) (N := N) h t (by simpa using hsh)
        exact ⟨c, by rw [Sem.run_bind, hg]; exact h1, h2⟩
      · cases h
  · rename_i a b
    obtain ⟨s, rfl, rfl, hs⟩ := rel_str hx
    obtain ⟨s', rfl, rfl, hs'⟩ := rel_str hy
    have hg : (eqGuard op t ox oy (.string s) (.string s')).run P w = .ok () w := by
      unfold eqGuard
      cases op <;> simp
    split at h
    · split at h
      · rename_i hle
        cases h
        have hle' : s.size + s'.size ≤ maxLen := by rw [← size_toList, ← size_toList]; exact hle
        have hmx : (IntKind.i64.max : Int) = 9223372036854775807 := rfl
        refine ⟨.string (s ++ s'), ?_, got_str (by simp [ByteArray.data_append]) (by rw [ByteArray.size_append]; exact hle')⟩
        rw [Sem.run_bind, hg]
        have : ¬ (((s.size + s'.size : Nat) : Int) > IntKind.i64.max) := by rw [hmx]; simp only [maxLen] at hle'; omega
        simp only [Result.andThen, binOp, Op.stringOp, if_neg this]
        rfl
      · cases h
    · cases h
      refine ⟨_, by rw [Sem.run_bind, hg]; simp [binOp, Op.stringOp]; rfl, ?_⟩
      rw [ba_toList, ba_toList]; exact Got.bool
    · cases h
      refine ⟨_, by rw [Sem.run_bind, hg]; simp [binOp, Op.stringOp]; rfl, ?_⟩
      rw [ba_toList, ba_toList]; exact Got.bool
    · cases h
  · rename_i a b
    obtain rfl := rel_bool hx
    obtain rfl := rel_bool hy
    have hg : (eqGuard op t ox oy (.bool a) (.bool b)).run P w = .ok () w := by
      unfold eqGuard
      cases op <;> simp
    split at h
    · rename_i hb
      have hb := tbool_spec hb
      split at h
      · cases h
        exact ⟨.bool _, by rw [Sem.run_bind, hg]; exact run_eql_bool w t a b hb, Got.bool⟩
      · cases h
        exact ⟨.bool _, by rw [Sem.run_bind, hg]; exact run_neq_bool w t a b hb, Got.bool⟩
      · cases h
    · cases h
  · rename_i p
    have hy' : cy = .pointer none := by cases hy; rfl
    subst hy'
    have hx' : ∃ q : Option Addr, cx = .pointer q ∧ q.isNone = p.isNone := by cases hx <;> exact ⟨_, rfl, rfl⟩
    obtain ⟨q, rfl, hq⟩ := hx'
    have hg : (eqGuard op t ox oy (.pointer q) (.pointer none)).run P w = .ok () w := by
      unfold eqGuard
      cases op <;> simp
    split at h
    · rename_i hb
      obtain ⟨e, hb⟩ := tptr_spec hb
      have hbp : P.underlying t = some (.pointer (P.pointee t)) := by simp [Program.pointee, hb]
      have hq2 : q.isSome = p.isSome := by cases q <;> cases p <;> simp_all
      split at h
      · cases h
        refine ⟨.bool q.isNone, ?_, by rw [hq]; exact Got.bool⟩
        rw [Sem.run_bind, hg]
        exact run_eql_pointer_nil w t q hbp
      · cases h
        refine ⟨.bool q.isSome, ?_, by rw [hq2]; exact Got.bool⟩
        rw [Sem.run_bind, hg]
        refine (run_neq_pointer_nil w t q hbp).trans ?_
        cases q <;> rfl
      · cases h
    · cases h
  · have hy' : cy = .pointer none := by cases hy; rfl
    subst hy'
    have hx' : ∃ q : Addr, cx = .pointer (some q) := by cases hx; exact ⟨_, rfl⟩
    obtain ⟨q, rfl⟩ := hx'
    have hg : (eqGuard op t ox oy (.pointer (some q)) (.pointer none)).run P w = .ok () w := by
      unfold eqGuard
      cases op <;> simp
    split at h
    · rename_i hb
      obtain ⟨e, hb⟩ := tptr_spec hb
      have hbp : P.underlying t = some (.pointer (P.pointee t)) := by simp [Program.pointee, hb]
      split at h
      · cases h
        refine ⟨.bool false, ?_, Got.bool⟩
        rw [Sem.run_bind, hg]
        exact run_eql_pointer_nil w t (some q) hbp
      · cases h
        refine ⟨.bool true, ?_, Got.bool⟩
        rw [Sem.run_bind, hg]
        exact run_neq_pointer_nil w t (some q) hbp
      · cases h
    · cases h
  · rename_i l m
    split at h
    · rename_i cs hcs
      split at h
      · rename_i b hb
        cases hx with
        | agg _ xs hl hf hr =>
          cases hy with
          | agg _ ys hl' hf' hr' =>
            unfold tflat at hcs
            split at hcs
            · rename_i fs hu
              split at hcs
              · rename_i hc
                have hfs : P.fieldsOf t = fs := by simp [Program.fieldsOf, hu]
                have hg := run_eqGuard_agg (P := P) w op t ox oy xs ys hc.2
                have he : (Op.equalIn 10000 t (.agg xs) (.agg ys)).run P w = .ok b w := by
                  rw [run_equalIn_struct w 9999 t xs ys (by rw [hfs]; exact hu) hc.1, hfs]
                  exact eqF_ok (w := w) (β := β) (Rd := Rd) 9998 fs.toList 0 cs l m b hcs hb (by simpa using hl.symm) (by simpa using hl'.symm) (fun j x u hx hu => hr j x u hx (by simpa using hu)) (fun j x u hx hu => hr' j x u hx (by simpa using hu))
                split at h
                · cases h
                  refine ⟨.bool b, ?_, Got.bool⟩
                  rw [Sem.run_bind, hg]
                  simp only [Result.andThen_ok]
                  rw [run_eql_struct w t xs ys, he]; rfl
                · cases h
                  refine ⟨.bool !b, ?_, Got.bool⟩
                  rw [Sem.run_bind, hg]
                  simp only [Result.andThen_ok]
                  rw [run_neq_struct w t xs ys, he]; rfl
                · cases h
              · cases hcs
            · cases hcs
      · cases h
    · cases h
  · cases h
end
end Go.Proofs.YtimhofphmgehgaaDoor
