/- The ring in the abstract machine: its calls, out of the contracts that were walked concretely. -/
import Derived.Test.YtgofogcfolhonaaPure
import Derived.Test.YtgofogcfolhonaaOpen
import Derived.Test.YtgofogcfolhonaaTypes
import Derived.Test.YtgofogcfolhonaaRingLaw
import Derived.Test.YtgofogcfolhonaaRing5
set_option linter.unusedVariables false
set_option linter.unusedSimpArgs false
set_option linter.unusedSectionVars false
set_option maxRecDepth 100000
namespace Go.Proofs.Ytgofogcfolhonaa
open Go Go.RowKit

section
variable {w : World} {β : Nat → Nat} {Rd : Nat → Nat → Prop}
theorem args1 {x : AV} {cargs : Array Value} (hsz : cargs.size = 1) (h : ∀ (t : Nat) y u, [x][t]? = some y → cargs[t]? = some u → Rel w β Rd y u) : ∃ u, cargs = #[u] ∧ Rel w β Rd x u := by
  match cargs, hsz with
  | ⟨[u]⟩, _ => exact ⟨u, rfl, h 0 x u rfl rfl⟩
theorem args2 {x y : AV} {cargs : Array Value} (hsz : cargs.size = 2) (h : ∀ (t : Nat) z u, [x, y][t]? = some z → cargs[t]? = some u → Rel w β Rd z u) : ∃ u v, cargs = #[u, v] ∧ Rel w β Rd x u ∧ Rel w β Rd y v := by
  match cargs, hsz with
  | ⟨[u, v]⟩, _ => exact ⟨u, v, rfl, h 0 x u rfl rfl, h 1 y v rfl rfl⟩
theorem args3 {x y z : AV} {cargs : Array Value} (hsz : cargs.size = 3) (h : ∀ (t : Nat) a u, [x, y, z][t]? = some a → cargs[t]? = some u → Rel w β Rd a u) : ∃ u v s, cargs = #[u, v, s] ∧ Rel w β Rd x u ∧ Rel w β Rd y v ∧ Rel w β Rd z s := by
  match cargs, hsz with
  | ⟨[u, v, s]⟩, _ => exact ⟨u, v, s, rfl, h 0 x u rfl rfl, h 1 y v rfl rfl, h 2 z s rfl rfl⟩
theorem rel_tup2i {k1 k2 : IntKind} {a b : Int} : Rel w β Rd (.tup [.int k1 a, .int k2 b]) (.tuple #[.int k1 a, .int k2 b]) := by
  refine .tup _ _ rfl (by simp [AV.free]) (fun j x u hx hu => ?_)
  match j with
  | 0 => simp at hx hu; subst hx; subst hu; exact .int _ _
  | 1 => simp at hx hu; subst hx; subst hu; exact .int _ _
  | j + 2 => simp at hx
end

/-- A ring's box: box i of H: a ring of capacity cap whose head is q, and in which l waits. -/
def RO (H : Hp) (i cap q : Nat) (l : List UInt8) : Prop := 0 < cap ∧ cap ≤ 1048576 ∧ q < cap ∧ l.length ≤ cap ∧ ∃ st : List UInt8, st.length = cap ∧ H[i]? = some [.ex 1 (u8s st), .int .i64 (q : Int), .int .i64 (l.length : Int)] ∧ ∀ j x, l[j]? = some x → st[(q + j) % cap]? = some x
theorem RO.lt {H : Hp} {i cap q : Nat} {l : List UInt8} (h : RO H i cap q l) : i < H.length := let ⟨_, _, _, _, st, _, h, _⟩ := h; (List.getElem?_eq_some_iff.1 h).1
theorem RO.app {H : Hp} {i cap q : Nat} {l : List UInt8} (h : RO H i cap q l) (J : Hp) : RO (H ++ J) i cap q l := by
  have := h.lt
  obtain ⟨a, b, c, d, st, e, f, g⟩ := h
  exact ⟨a, b, c, d, st, e, by rw [List.getElem?_append_left this]; exact f, g⟩
theorem RO.of_eq {H H' : Hp} {i cap q : Nat} {l : List UInt8} (h : RO H i cap q l) (he : H'[i]? = H[i]?) : RO H' i cap q l := by
  obtain ⟨a, b, c, d, st, e, f, g⟩ := h
  exact ⟨a, b, c, d, st, e, he.trans f, g⟩

section
variable {E : Env} {w w' : World} {β : Nat → Nat} {Rd : Nat → Nat → Prop} {Ow : Nat → Option Hold} {H : Hp} {i cap q : Nat} {l : List UInt8}
/-- What the box is in the world. -/
theorem RO.at (h : RO H i cap q l) (hHR : HR E w β Rd Ow H) : ∃ T g, RAt w (β i) T g cap q l ∧ Ow g = some (.cell i 0) ∧ (∀ o, ¬ Rd g o) ∧ Ow (β i) = none ∧ (∀ o, ¬ Rd (β i) o) ∧ β i < w.heap.size := by
  have hlt := h.lt
  obtain ⟨h1, h2, h3, h4, st, h5, h6, h7⟩ := h
  obtain ⟨T, cs, e1, e2, e3⟩ := hHR.box i _ h6
  simp at e2
  match cs, e2 with
  | ⟨[v0, v1, v2]⟩, _ =>
    obtain ⟨r0, _, o0⟩ := e3 0 _ _ rfl rfl
    obtain ⟨r1, _, _⟩ := e3 1 _ _ rfl rfl
    obtain ⟨r2, _, _⟩ := e3 2 _ _ rfl rfl
    obtain rfl := rel_int r1
    obtain rfl := rel_int r2
    cases r0 with
    | ex _ _ n _ ho hd hs =>
      obtain ⟨g, rfl⟩ := hs
      have hn : n = cap := by have := ho.1; rw [u8s_length] at this; omega
      subst hn
      have hw := o0 g rfl
      refine ⟨T, g, ⟨e1, fun e => ?_, h1, h2, h3, h4, st, ho, h7⟩, hw, fun o => hd g rfl o, (hHR.sep i hlt).1, (hHR.sep i hlt).2, blk_lt e1⟩
      have := (hHR.sep i hlt).1
      rw [e, hw] at this; cases this

/-- BEHIND A CALL that turns a ring, and may make new blocks. -/
theorem post_ring {T g cap' q' : Nat} {l' : List UInt8} (h : RO H i cap q l) (hHR : HR E w β Rd Ow H) (hR : RAt w (β i) T g cap q l) (hOg : Ow g = some (.cell i 0)) (hRg : ∀ o, ¬ Rd g o) (hR' : RAt w' (β i) T g cap' q' l') (hF : Frm (fun k => k = β i ∨ k = g) w w')
    (N : Nat → Nat → Prop) (hN : ∀ b o, N b o → w.heap.size ≤ b ∧ b < w'.heap.size) {v : AV} {c : Value} (hrel : Rel w' β (fun b o => Rd b o ∨ N b o) v c) (hbv : Bnd H.length v) (hfree : v.free = true) :
    ∃ H', RO H' i cap' q' l' ∧ H'.length = H.length ∧ (∀ j, j ≠ i → H'[j]? = H[j]?) ∧ Post E w β Rd Ow H w' β (fun b o => Rd b o ∨ N b o) Ow H' v c := by
  have hlt := h.lt
  obtain ⟨st', ho', hst'⟩ := hR'.store
  have hsl : st'.length = cap' := by have := ho'.1; rwa [u8s_length, Nat.mul_one] at this
  have hbi : β i < w.heap.size := blk_lt hR.blk
  have hgl : g < w.heap.size := hR.glt
  have hRi := (hHR.sep i hlt).2
  have hOi := (hHR.sep i hlt).1
  have keep : ∀ b o, Rd b o → w'.cell? ⟨b, o, none⟩ = w.cell? ⟨b, o, none⟩ := fun b o hb => World.cell?_of_block (a := ⟨b, o, none⟩) (hF.block b (hHR.rds b o hb) (fun hh => by
    rcases hh with rfl | rfl
    · exact hRi o hb
    · exact hRg o hb))
  refine ⟨H.set i [.ex 1 (u8s st'), .int .i64 (q' : Int), .int .i64 (l'.length : Int)], ⟨hR'.pos, hR'.max, hR'.head, hR'.fits, st', hsl, by rw [List.getElem?_set_self hlt], hst'⟩, by simp, fun j hj => by rw [List.getElem?_set_ne (Ne.symm hj)],
    hrel, by simpa using hbv, fun b hb => (by rw [own0_free hfree] at hb; cases hb), (by cases v <;> simp_all [AV.dis, AV.free]), ⟨fun k lk hk => ?_, fun a b ha hb => hHR.inj a b (by simpa using ha) (by simpa using hb), fun k hk => ?_, fun b k hb => Nat.lt_of_lt_of_le (hHR.ows b k hb) hF.size, fun b o hb => ?_, fun lk hk x hx => ?_, fun b hb => ?_⟩,
    fun _ _ => rfl, by simp, fun b o hb => ⟨.inl hb, keep b o hb⟩, fun b hb hbox how => ⟨hF.block b hb (fun hh => ?_), how, fun k hk => hbox k (by simpa using hk), fun o ho => ho.resolve_right (fun e => by have := (hN _ _ e).1; omega)⟩, hF.os, hF.tape, hF.output, hF.size⟩
  · by_cases hki : k = i
    · subst hki
      rw [List.getElem?_set_self hlt] at hk
      cases hk
      refine ⟨T, _, hR'.blk, by simp, fun j x u hx hu => ?_⟩
      match j with
      | 0 =>
        simp at hx hu; subst hx; subst hu
        refine ⟨.ex 1 (u8s st') cap' _ ho' (fun b hb o hh => ?_) ⟨g, rfl⟩, rfl, fun b hb => ?_⟩
        · simp [Value.ownBlock] at hb; subst hb
          rcases hh with hh | hh
          · exact hRg o hh
          · have := (hN _ _ hh).1; omega
        · simp [own0, Value.ownBlock] at hb; subst hb; exact hOg
      | 1 => simp at hx hu; subst hx; subst hu; exact ⟨.int _ _, rfl, fun b hb => by cases hb⟩
      | 2 => simp at hx hu; subst hx; subst hu; exact ⟨.int _ _, rfl, fun b hb => by cases hb⟩
      | j + 3 => simp at hx
    · rw [List.getElem?_set_ne (Ne.symm hki)] at hk
      have hkl := (List.getElem?_eq_some_iff.1 hk).1
      obtain ⟨T2, cs, e1, e2, e3⟩ := hHR.box k lk hk
      have hne : β k ≠ β i := fun e => hki (hHR.inj k i hkl hlt e)
      have hng : β k ≠ g := fun e => by have := (hHR.sep k hkl).1; rw [e, hOg] at this; cases this
      refine ⟨T2, cs, (hF.block _ (blk_lt e1) (fun hh => hh.elim hne hng)).trans e1, e2, fun j x u hx hu => ?_⟩
      obtain ⟨r1, r2, r3⟩ := e3 j x u hx hu
      refine ⟨r1.move (N := H.length) (hHR.bnd lk (List.mem_of_getElem? hk) x (List.mem_of_getElem? hx)) (fun b o hb => ⟨.inl hb, keep b o hb⟩) (fun b hb => ?_) hF.size (fun _ _ => rfl), r2, r3⟩
      have hob := r3 b hb
      have hbl := hHR.ows b _ hob
      refine ⟨hF.block b hbl (fun hh => ?_), fun o ho => ho.resolve_right (fun e => by have := (hN _ _ e).1; omega)⟩
      rcases hh with rfl | rfl
      · rw [hOi] at hob; cases hob
      · rw [hOg] at hob; cases hob; exact hki rfl
  · have hk' : k < H.length := by simpa using hk
    refine ⟨(hHR.sep k hk').1, fun o ho => ?_⟩
    rcases ho with ho | ho
    · exact (hHR.sep k hk').2 o ho
    · have := (hN _ _ ho).1
      obtain ⟨T2, cs, e1, _, _⟩ := hHR.box k _ (List.getElem?_eq_getElem hk')
      have := blk_lt e1
      omega
  · rcases hb with hb | hb
    · exact Nat.lt_of_lt_of_le (hHR.rds b o hb) hF.size
    · exact (hN b o hb).2
  · rw [List.length_set]
    rcases List.mem_or_eq_of_mem_set hk with hk | rfl
    · exact hHR.bnd lk hk x hx
    · simp at hx
      rcases hx with rfl | rfl | rfl
      · exact .ex _ _
      · exact .int _ _
      · exact .int _ _
  · obtain ⟨f1, f2, f3, f4⟩ := hHR.fix b hb
    refine ⟨(hF.block b f4 (fun hh => ?_)).trans f1, f2, fun k hk => f3 k (by simpa using hk), Nat.lt_of_lt_of_le f4 hF.size⟩
    rcases hh with rfl | rfl
    · exact f3 i hlt rfl
    · rw [f2] at hOg; cases hOg
  · rcases hh with rfl | rfl
    · exact hbox i hlt rfl
    · rw [how] at hOg; cases hOg

/-- BEHIND New. -/
theorem post_new {T b g c : Nat} {w' : World} {e : Int} (hHR : HR E w β Rd Ow H) (hR' : RAt w' b T g c 0 []) (hb : b = w.heap.size + 1) (hg : g = w.heap.size) (hF : Frm (fun _ => False) w w') :
    ∃ H' β' Ow', RO H' H.length c 0 [] ∧ H'.length = H.length + 1 ∧ (∀ j, j < H.length → H'[j]? = H[j]?) ∧ Post E w β Rd Ow H w' β' Rd Ow' H' (.tup [.ptr (some (H.length, 0)), .int .i64 e]) (.tuple #[.pointer (some ⟨b, 0, none⟩), .int .i64 e]) := by
  obtain ⟨st', ho', hst'⟩ := hR'.store
  have hsl : st'.length = c := by have := ho'.1; rwa [u8s_length, Nat.mul_one] at this
  have hbl := blk_lt hR'.blk
  have hgl := hR'.glt
  have keep : ∀ b o, Rd b o → w'.cell? ⟨b, o, none⟩ = w.cell? ⟨b, o, none⟩ := fun b o hb => World.cell?_of_block (a := ⟨b, o, none⟩) (hF.block b (hHR.rds b o hb) (fun h => h))
  have hβl : ∀ k, k < H.length → β k < w.heap.size := fun k hk => by
    obtain ⟨T2, cs, e1, _, _⟩ := hHR.box k _ (List.getElem?_eq_getElem hk)
    exact blk_lt e1
  have hOn : Ow g = none := by
    cases h : Ow g with
    | none => rfl
    | some k => have := hHR.ows g k h; omega
  have hOb : Ow b = none := by
    cases h : Ow b with
    | none => rfl
    | some k => have := hHR.ows b k h; omega
  have hRg : ∀ o, ¬ Rd g o := fun o h => by have := hHR.rds g o h; omega
  have hRb : ∀ o, ¬ Rd b o := fun o h => by have := hHR.rds b o h; omega
  refine ⟨H ++ [[.ex 1 (u8s st'), .int .i64 (0 : Int), .int .i64 (0 : Int)]], fun k => if k < H.length then β k else b, fun k => if k = g then some (.cell H.length 0) else Ow k, ⟨hR'.pos, hR'.max, hR'.head, hR'.fits, st', hsl, by simp, hst'⟩, by simp, fun j hj => List.getElem?_append_left hj, ?_⟩
  have hβn : (fun k => if k < H.length then β k else b) H.length = b := by simp
  have hβo : ∀ k, k < H.length → (fun k => if k < H.length then β k else b) k = β k := fun k hk => by simp [hk]
  refine ⟨.tup _ _ rfl (by simp) (fun j x u hx hu => ?_), by simp, fun b hb => (by cases hb), rfl, ⟨fun k lk hk => ?_, fun k m hk hm he => ?_, fun k hk => ?_, fun x k hx => ?_, fun x o hx => Nat.lt_of_lt_of_le (hHR.rds x o hx) hF.size, fun lk hk x hx => ?_, fun x hx => ?_⟩, hβo, by simp, fun x o hx => ⟨hx, keep x o hx⟩, fun x hx hbox how => ⟨hF.block x hx (fun h => h), ?_, fun k hk => ?_, fun o h => h⟩, hF.os, hF.tape, hF.output, hF.size⟩
  · match j with
    | 0 =>
      simp at hx hu; subst hx; subst hu
      have := Rel.ptr (w := w') (β := fun k => if k < H.length then β k else b) (Rd := Rd) H.length 0
      simp only [Nat.lt_irrefl, if_false] at this
      exact this
    | 1 => simp at hx hu; subst hx; subst hu; exact .int _ _
    | j + 2 => simp at hx
  · by_cases hkn : k < H.length
    · rw [List.getElem?_append_left hkn] at hk
      obtain ⟨T2, cs, e1, e2, e3⟩ := hHR.box k lk hk
      refine ⟨T2, cs, by rw [if_pos hkn]; exact (hF.block _ (blk_lt e1) (fun h => h)).trans e1, e2, fun j x u hx hu => ?_⟩
      obtain ⟨r1, r2, r3⟩ := e3 j x u hx hu
      refine ⟨r1.move (N := H.length) (hHR.bnd lk (List.mem_of_getElem? hk) x (List.mem_of_getElem? hx)) (fun y o hy => ⟨hy, keep y o hy⟩) (fun y hy => ⟨hF.block y (hHR.ows y _ (r3 y hy)) (fun h => h), fun o h => h⟩) hF.size hβo, r2, fun y hy => ?_⟩
      have := r3 y hy
      have hyg : y ≠ g := fun e => by rw [e, hOn] at this; cases this
      simp only [if_neg hyg]; exact this
    · have hkl := (List.getElem?_eq_some_iff.1 hk).1
      simp at hkl
      obtain rfl : k = H.length := by omega
      simp at hk; subst hk
      refine ⟨T, _, by rw [if_neg (Nat.lt_irrefl _)]; exact hR'.blk, by simp, fun j x u hx hu => ?_⟩
      match j with
      | 0 =>
        simp at hx hu; subst hx; subst hu
        refine ⟨.ex 1 (u8s st') c _ ho' (fun y hy o hh => ?_) ⟨g, rfl⟩, rfl, fun y hy => ?_⟩
        · simp [Value.ownBlock] at hy; subst hy; exact hRg o hh
        · simp [own0, Value.ownBlock] at hy; subst hy; simp
      | 1 => simp at hx hu; subst hx; subst hu; exact ⟨.int _ _, rfl, fun y hy => by cases hy⟩
      | 2 => simp at hx hu; subst hx; subst hu; exact ⟨.int _ _, rfl, fun y hy => by cases hy⟩
      | j + 3 => simp at hx
  · simp at hk hm
    by_cases h1 : k < H.length
    · by_cases h2 : m < H.length
      · simp only [if_pos h1, if_pos h2] at he
        exact hHR.inj k m h1 h2 he
      · simp only [if_pos h1, if_neg h2] at he
        have := hβl k h1; omega
    · by_cases h2 : m < H.length
      · simp only [if_neg h1, if_pos h2] at he
        have := hβl m h2; omega
      · omega
  · simp at hk
    by_cases h1 : k < H.length
    · have hl := hβl k h1
      simp only [if_pos h1]
      have : β k ≠ g := by omega
      simp only [if_neg this]
      exact hHR.sep k h1
    · simp only [if_neg h1]
      have : b ≠ g := hR'.ne
      simp only [if_neg this]
      exact ⟨hOb, hRb⟩
  · by_cases hxg : x = g
    · subst hxg; exact hgl
    · simp only [if_neg hxg] at hx
      exact Nat.lt_of_lt_of_le (hHR.ows x k hx) hF.size
  · rcases List.mem_append.1 hk with hk | hk
    · exact (hHR.bnd lk hk x hx).mono (by simp)
    · simp at hk; subst hk
      simp at hx
      rcases hx with rfl | rfl
      · exact .ex _ _
      · exact .int _ _
  · obtain ⟨f1, f2, f3, f4⟩ := hHR.fix x hx
    have hxg : x ≠ g := by omega
    refine ⟨(hF.block x f4 (fun h => h)).trans f1, by simp only [if_neg hxg]; exact f2, fun k hk => ?_, Nat.lt_of_lt_of_le f4 hF.size⟩
    by_cases h1 : k < H.length
    · simp only [if_pos h1]; exact f3 k h1
    · simp only [if_neg h1]; try omega
  · have hxg : x ≠ g := by omega
    simp only [if_neg hxg]; exact how
  · simp at hk
    by_cases h1 : k < H.length
    · simp only [if_pos h1]; exact hbox k h1
    · simp only [if_neg h1]; try omega
end
end Go.Proofs.Ytgofogcfolhonaa
