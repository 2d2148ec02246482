/- The ring's calls in the abstract machine. -/
import Derived.Test.YtgofogcfolhonaaRingA
set_option linter.unusedVariables false
set_option linter.unusedSimpArgs false
set_option linter.unusedSectionVars false
set_option maxRecDepth 100000
namespace Go.Proofs.Ytgofogcfolhonaa
open Go Go.RowKit

section
variable {E : Env} {H : Hp} {i cap q : Nat} {l : List UInt8} {Q : AV → Hp → Prop} {f : FuncId} {args : List AV} {v : AV}
/-- A call that reads a ring. -/
theorem pc_ro (hB : hasB Try.prog f = true) (h : RO H i cap q l) (hcall : ∀ (w : World) (β : Nat → Nat) (Rd : Nat → Nat → Prop) (cargs : Array Value) (T g : Nat), RAt w (β i) T g cap q l → (∀ o, ¬ Rd g o) → cargs.size = args.length → (∀ (t : Nat) x u, args[t]? = some x → cargs[t]? = some u → Rel w β Rd x u) →
      Calls Try.prog f cargs w fun e w' => ∃ (c : Value) (N : Nat → Nat → Prop), e = .returned c ∧ Frm (fun _ => False) w w' ∧ (∀ b o, N b o → w.heap.size ≤ b ∧ b < w'.heap.size) ∧ Rel w' β (fun b o => Rd b o ∨ N b o) v c)
    (hb : Bnd H.length v) (hf : v.free = true) (hQ : Q v H) : PC Try.prog E f args H Q := by
  refine ⟨hB, fun w β Rd Ow cargs hHR hOw hsz hargs => ?_⟩
  obtain ⟨T, g, hR, hOg, hRg, _, _, _⟩ := h.at hHR
  refine (hcall w β Rd cargs T g hR hRg hsz (fun t x u hx hu => (hargs t x u hx hu).1)).mono ?_
  rintro e w' ⟨c, N, rfl, hF, hN, hr⟩
  exact ⟨c, v, H, β, _, Ow, rfl, hQ, post_freshP hHR hF N hN hr hb hf⟩
/-- A call that turns one. -/
theorem pc_rw {cap' q' : Nat} {l' : List UInt8} (hB : hasB Try.prog f = true) (h : RO H i cap q l) (hcall : ∀ (w : World) (β : Nat → Nat) (Rd : Nat → Nat → Prop) (cargs : Array Value) (T g : Nat), RAt w (β i) T g cap q l → (∀ o, ¬ Rd g o) → cargs.size = args.length → (∀ (t : Nat) x u, args[t]? = some x → cargs[t]? = some u → Rel w β Rd x u) →
      Calls Try.prog f cargs w fun e w' => ∃ (c : Value) (N : Nat → Nat → Prop), e = .returned c ∧ RAt w' (β i) T g cap' q' l' ∧ Frm (fun k => k = β i ∨ k = g) w w' ∧ (∀ b o, N b o → w.heap.size ≤ b ∧ b < w'.heap.size) ∧ Rel w' β (fun b o => Rd b o ∨ N b o) v c)
    (hb : Bnd H.length v) (hf : v.free = true) (hQ : ∀ H', RO H' i cap' q' l' → H'.length = H.length → (∀ j, j ≠ i → H'[j]? = H[j]?) → Q v H') : PC Try.prog E f args H Q := by
  refine ⟨hB, fun w β Rd Ow cargs hHR hOw hsz hargs => ?_⟩
  obtain ⟨T, g, hR, hOg, hRg, _, _, _⟩ := h.at hHR
  refine (hcall w β Rd cargs T g hR hRg hsz (fun t x u hx hu => (hargs t x u hx hu).1)).mono ?_
  rintro e w' ⟨c, N, rfl, hR', hF, hN, hr⟩
  obtain ⟨H', h1, h2, h3, h4⟩ := post_ring h hHR hR hOg hRg hR' hF N hN hr hb hf
  exact ⟨c, v, H', β, _, Ow, rfl, hQ H' h1 h2 h3, h4⟩
end
def noN : Nat → Nat → Prop := fun _ _ => False
section
variable {w w' : World} {β : Nat → Nat} {Rd : Nat → Nat → Prop}
theorem rel_ptr' {i : Nat} {u : Value} (h : Rel w β Rd (.ptr (some (i, 0))) u) : u = .pointer (some ⟨β i, 0, none⟩) := by cases h; rfl
/-- A list of bytes that came out. -/
theorem rel_new {ao : Option Addr} {k c : Nat} {x : List UInt8} (ho : OSl w' 1 (.slice ao k c) k (u8s x)) (hn : ∀ g', (Value.slice ao k c).ownBlock = some g' → w.heap.size ≤ g') :
    (∀ (b o : Nat), (Value.slice ao k c).ownBlock = some b ∧ o = o → w.heap.size ≤ b ∧ b < w'.heap.size) ∧ Rel w' β (fun b o => Rd b o ∨ ((Value.slice ao k c).ownBlock = some b ∧ o = o)) (.sl false 1 (bts x)) (.slice ao k c) := by
  have hk : k = x.length := by have := ho.1; rw [u8s_length] at this; omega
  subst hk
  refine ⟨fun b o hb => ⟨hn b hb.1, ho.lt b hb.1⟩, rel_sl_bts ho.toR (fun g o n c hv j hj => .inr ⟨?_, rfl⟩)⟩
  rw [hv]; rfl
theorem rel_sl_in {ls : List UInt8} {v : Value} {own : Bool} (h : Rel w β Rd (.sl own 1 (bts ls)) v) : ∃ ao c, v = .slice ao ls.length c ∧ RSl w 1 (.slice ao ls.length c) ls.length (u8s ls) ∧ (∀ g o n c, v = .slice (some ⟨g, o, none⟩) n c → ∀ j, j < ls.length → Rd g (o + j)) := by
  obtain ⟨xs, hk, hx, hd, _, _⟩ := rel_sl h
  have hr := rel_bts h (bts_k hk)
  obtain ⟨ao, c, rfl⟩ := hr.sliceForm
  exact ⟨ao, c, rfl, hr, fun g o n c' hv j hj => hd g o n c' hv j (by simpa [bts_len] using hj)⟩
end

/-- What came out may be shared. -/
theorem PC.dis {P : Program} {E : Env} {f : FuncId} {args : List AV} {H : Hp} {Q : AV → Hp → Prop} (h : PC P E f args H (fun v H' => Q v.dis H')) : PC P E f args H Q :=
  ⟨h.1, fun w β Rd Ow cargs h1 h2 h3 h4 => (h.2 w β Rd Ow cargs h1 h2 h3 h4).mono fun e w' ⟨c, v, H', β', Rd', Ow', he, hQ, hp⟩ =>
    ⟨c, v.dis, H', β', Rd', Ow', he, hQ, ⟨hp.rel.dis, hp.bnd.dis, fun g hg => hp.own g (by cases v <;> simp_all [AV.dis, own0]), by have := hp.ne; cases v <;> simp_all [AV.dis, AV.free], hp.hr, hp.old, hp.len, hp.keep, hp.frame, hp.os, hp.tape, hp.output, hp.size⟩⟩⟩
/-- A ring or nil. -/
def RW (H : Hp) (r : Option Nat) (cap q : Nat) (l : List UInt8) : Prop := match r with
  | some i => RO H i cap q l
  | none => cap = 0 ∧ q = 0 ∧ l = []
def rptr (r : Option Nat) : AV := .ptr (r.map fun i => (i, 0))
theorem RW.app {H : Hp} {r : Option Nat} {cap q : Nat} {l : List UInt8} (h : RW H r cap q l) (J : Hp) : RW (H ++ J) r cap q l := by
  cases r with
  | some i => exact RO.app h J
  | none => exact h
theorem RW.fits {H : Hp} {r : Option Nat} {cap q : Nat} {l : List UInt8} (h : RW H r cap q l) : cap ≤ 1048576 ∧ l.length ≤ cap ∧ q ≤ cap ∧ (r = none → cap = 0) ∧ (r ≠ none → 0 < cap ∧ q < cap) := by
  cases r with
  | some i => obtain ⟨a, b, c, d, _⟩ := h; exact ⟨b, d, by omega, (fun h => by cases h), fun _ => ⟨a, c⟩⟩
  | none => obtain ⟨rfl, rfl, rfl⟩ := h; exact ⟨by omega, by simp, by omega, fun _ => rfl, fun h => absurd rfl h⟩
/-- H' has the other boxes of H as they were. -/
def Oth (H H' : Hp) (r : Option Nat) : Prop := H'.length = H.length ∧ ∀ j, r ≠ some j → H'[j]? = H[j]?

/-- Where a function ends that has turned a ring. -/
theorem aPost_to {P : Program} {rs : List ResultVar} {Q : AV → Hp → Prop} {fr : List AV} {H H' : Hp} {r : Option Nat} {v0 v : AV} (h1 : ares P fr H' rs = some v0) (h2 : nilV v0 v) (ho : Oth H H' r) (hB : BndH H'.length H') (h5 : Bnd H'.length v) (h6 : Q v H') :
    aPost P rs H.length Q .ret fr H' := ⟨v0, v, H', H', [], h1, h2, nilH_refl _, (List.append_nil H').symm, by rw [ho.1]; exact Nat.le_refl _, hB, h5, h6⟩
section
variable (E : Env) (H : Hp) (r : Option Nat) (cap q : Nat) (l : List UInt8) (Q : AV → Hp → Prop) (h : RW H r cap q l)
include h
theorem rlen_pc (hQ : Q (.int .i64 (l.length : Int)) H) : PC Try.prog E 42 [rptr r] H Q := by
  cases r with
  | some i =>
    refine pc_ro (v := .int .i64 (l.length : Int)) (by kernel_rfl) h (fun w β Rd cargs T g hR hRg hsz hargs => ?_) (.int _ _) rfl hQ
    obtain ⟨u, rfl, hu⟩ := args1 hsz hargs
    obtain rfl := rel_ptr' hu
    refine (ring_len hR).mono ?_
    rintro e w' ⟨rfl, rfl⟩
    exact ⟨_, noN, rfl, Frm.refl _ _, fun _ _ h => h.elim, .int _ _⟩
  | none =>
    obtain ⟨rfl, rfl, rfl⟩ := h
    refine pc_enter Try.func42 rfl [] [] (by kernel_rfl) (fun hB => ?_)
    simp [rptr, Try.ntmps42, Try.results42, List.replicate_succ]
    exact aPost_same0 hB rfl (nilV_refl _) (by simp) hQ
theorem rcap_pc (hQ : Q (.int .i64 (cap : Int)) H) : PC Try.prog E 66 [rptr r] H Q := by
  cases r with
  | some i =>
    refine pc_ro (v := .int .i64 (cap : Int)) (by kernel_rfl) h (fun w β Rd cargs T g hR hRg hsz hargs => ?_) (.int _ _) rfl hQ
    obtain ⟨u, rfl, hu⟩ := args1 hsz hargs
    obtain rfl := rel_ptr' hu
    refine (ring_cap hR).mono ?_
    rintro e w' ⟨rfl, rfl⟩
    exact ⟨_, noN, rfl, Frm.refl _ _, fun _ _ h => h.elim, .int _ _⟩
  | none =>
    obtain ⟨rfl, rfl, rfl⟩ := h
    refine pc_enter Try.func66 rfl [] [] (by kernel_rfl) (fun hB => ?_)
    simp [rptr, Try.ntmps66, Try.results66, List.replicate_succ]
    exact aPost_same0 hB rfl (nilV_refl _) (by simp) hQ
theorem rhead_pc (hQ : Q (.int .i64 (q : Int)) H) : PC Try.prog E 51 [rptr r] H Q := by
  cases r with
  | some i =>
    refine pc_ro (v := .int .i64 (q : Int)) (by kernel_rfl) h (fun w β Rd cargs T g hR hRg hsz hargs => ?_) (.int _ _) rfl hQ
    obtain ⟨u, rfl, hu⟩ := args1 hsz hargs
    obtain rfl := rel_ptr' hu
    refine (ring_head hR).mono ?_
    rintro e w' ⟨rfl, rfl⟩
    exact ⟨_, noN, rfl, Frm.refl _ _, fun _ _ h => h.elim, .int _ _⟩
  | none =>
    obtain ⟨rfl, rfl, rfl⟩ := h
    refine pc_enter Try.func51 rfl [] [] (by kernel_rfl) (fun hB => ?_)
    simp [rptr, Try.ntmps51, Try.results51, List.replicate_succ]
    exact aPost_same0 hB rfl (nilV_refl _) (by simp) hQ
theorem rfree_pc (hQ : Q (.int .i64 ((cap - l.length : Nat) : Int)) H) : PC Try.prog E 46 [rptr r] H Q := by
  have hf := h.fits
  refine pc_enter Try.func46 rfl [] [(1, [1, 1, 1, 1, 1])] (by kernel_rfl) (fun hB => ?_)
  have hw : IntKind.i64.wrap ((cap : Int) - l.length) = ((cap - l.length : Nat) : Int) := by rw [wrap_in (by omega) (by omega)]; omega
  simp [Try.ntmps46, Try.results46, List.replicate_succ]
  refine rcap_pc E H r cap q l _ h ?_
  simp
  refine rlen_pc E H r cap q l _ h ?_
  simp [hw]
  exact aPost_same0 hB rfl (nilV_refl _) (by simp) hQ
theorem rput_pc (p : List UInt8) (hp : p.length ≤ 1073741824) (hQ : ∀ H', RW H' r cap q (l ++ p.take (cap - l.length)) → Oth H H' r → Q (.int .i64 (Nat.min p.length (cap - l.length) : Nat)) H') : PC Try.prog E 38 [rptr r, .sl false 1 (bts p)] H Q := by
  have hf := h.fits
  by_cases hz : p = [] ∨ r = none
  · have hmin : Nat.min p.length (cap - l.length) = 0 := by
      show min p.length (cap - l.length) = 0
      rcases hz with rfl | rfl
      · simp
      · have h1 := hf.2.2.2.1 rfl; have h2 := hf.2.1; omega
    have htk : p.take (cap - l.length) = [] := by
      rcases hz with rfl | rfl
      · simp
      · have := hf.2.2.2.1 rfl; subst this; simp
    have hQ' := hQ H (by rw [htk, List.append_nil]; exact h) ⟨rfl, fun _ _ => rfl⟩
    rw [hmin] at hQ'
    have hQ' : Q (.int .i64 0) H := hQ'
    refine pc_enter Try.func38 rfl [] [] (by kernel_rfl) (fun hB => ?_)
    have hmn : (if cap - l.length < p.length then ((cap - l.length : Nat) : Int) else (p.length : Int)) = 0 := by
      have e : min p.length (cap - l.length) = 0 := hmin
      split <;> omega
    simp [Try.ntmps38, Try.results38, List.replicate_succ]
    refine rfree_pc E H r cap q l _ h ?_
    simp [hmn]
    exact aPost_same0 hB rfl (nilV_refl _) (by simp) hQ'
  · cases r with
    | none => exact absurd (.inr rfl) hz
    | some i =>
      have hpne : 0 < p.length := List.length_pos_iff.2 (fun e => hz (.inl e))
      refine pc_rw (v := .int .i64 (Nat.min p.length (cap - l.length) : Nat)) (by kernel_rfl) h (fun w β Rd cargs T g hR hRg hsz hargs => ?_) (.int _ _) rfl (fun H' h1 h2 h3 => hQ H' h1 ⟨h2, fun j hj => h3 j (fun e => hj (by rw [e]))⟩)
      obtain ⟨u, s, rfl, hu, hs⟩ := args2 hsz hargs
      obtain rfl := rel_ptr' hu
      obtain ⟨ao, c, rfl, hr, hd⟩ := rel_sl_in hs
      have hpg : (Value.slice ao p.length c).ownBlock ≠ some g := by
        intro e
        obtain ⟨_, ao', c', he, _, _, hc⟩ := hr
        cases he
        obtain ⟨g', o', rfl, _⟩ := hc hpne
        simp [Value.ownBlock] at e
        subst e
        exact hRg _ (hd g' o' _ _ rfl 0 hpne)
      refine (ring_put hR hr hpg).mono ?_
      rintro e w' ⟨rfl, h1, h2⟩
      exact ⟨_, noN, rfl, h1, h2, fun _ _ h => h.elim, .int _ _⟩
theorem rputAll_pc (p : List UInt8) (hp : p.length ≤ 1073741824) (hQ1 : l.length + p.length ≤ cap → ∀ H', RW H' r cap q (l ++ p) → Oth H H' r → Q (.int .i64 0) H') (hQ2 : cap < l.length + p.length → Q (.int .i64 21) H) : PC Try.prog E 44 [rptr r, .sl false 1 (bts p)] H Q := by
  have hf := h.fits
  refine pc_enter Try.func44 rfl [] [] (by kernel_rfl) (fun hB => ?_)
  simp [Try.ntmps44, Try.results44, List.replicate_succ]
  refine rfree_pc E H r cap q l _ h ?_
  by_cases hfit : l.length + p.length ≤ cap
  · have t1 : ¬ ((cap - l.length : Nat) : Int) < p.length := by omega
    simp [t1]
    refine PC.bnd (rput_pc E H r cap q l _ h p hp (fun H' h1 h2 hbn _ => ?_))
    rw [List.take_of_length_le (by omega)] at h1
    simp
    exact aPost_to rfl (nilV_refl _) h2 hbn (by simp) (hQ1 hfit H' h1 h2)
  · have t1 : ((cap - l.length : Nat) : Int) < p.length := by omega
    simp [t1]
    exact aPost_same0 hB rfl (nilV_refl _) (by simp) (hQ2 (by omega))

def peekL (l : List UInt8) (fr n : Int) : List UInt8 := if fr < 0 ∨ n < 0 ∨ (l.length : Int) < fr then [] else (l.drop fr.toNat).take n.toNat
theorem rpeek_pc (fr n : Int) (h1 : -9223372036854775808 ≤ fr) (h2 : fr ≤ 9223372036854775807) (h3 : n ≤ 9223372036854775807) (hQ : Q (.sl false 1 (bts (peekL l fr n))) H) : PC Try.prog E 41 [rptr r, .int .i64 fr, .int .i64 n] H Q := by
  have hf := h.fits
  by_cases hbad : fr < 0 ∨ n < 0 ∨ (l.length : Int) < fr
  · have hp : peekL l fr n = [] := if_pos hbad
    rw [hp] at hQ
    refine pc_enter Try.func41 rfl [39, 56] [] (by kernel_rfl) (fun hB => ?_)
    by_cases b1 : fr < 0
    · simp [Try.ntmps41, Try.results41, List.replicate_succ, b1]
      exact aPost_same0 hB rfl (nilV_nil false 1) (by simp) hQ
    · by_cases b2 : n < 0
      · simp [Try.ntmps41, Try.results41, List.replicate_succ, b1, b2]
        exact aPost_same0 hB rfl (nilV_nil false 1) (by simp) hQ
      · have b3 : (l.length : Int) < fr := by omega
        simp [Try.ntmps41, Try.results41, List.replicate_succ, b1, b2]
        refine rlen_pc E H r cap q l _ h ?_
        simp [b3]
        exact aPost_same0 hB rfl (nilV_nil false 1) (by simp) hQ
  · obtain ⟨f0, rfl⟩ : ∃ f0 : Nat, fr = f0 := ⟨fr.toNat, by omega⟩
    obtain ⟨n0, rfl⟩ : ∃ n0 : Nat, n = n0 := ⟨n.toNat, by omega⟩
    have hp : peekL l f0 n0 = (l.drop f0).take n0 := if_neg hbad
    rw [hp] at hQ
    cases r with
    | some i =>
      refine pc_ro (v := .sl false 1 (bts ((l.drop f0).take n0))) (by kernel_rfl) h (fun w β Rd cargs T g hR hRg hsz hargs => ?_) (bnd_sl_bts _ _ _) rfl hQ
      obtain ⟨u, s, t, rfl, hu, hs, ht⟩ := args3 hsz hargs
      obtain rfl := rel_ptr' hu
      obtain rfl := rel_int hs
      obtain rfl := rel_int ht
      refine (ring_peek hR f0 n0 (by omega) (by omega)).mono ?_
      rintro e w' ⟨ao, c, k, rfl, ho, hn, hF⟩
      obtain ⟨k1, k2⟩ := rel_new (β := β) (Rd := Rd) ho hn
      exact ⟨_, _, rfl, hF, k1, k2⟩
    | none =>
      obtain ⟨rfl, rfl, rfl⟩ := h
      obtain rfl : f0 = 0 := by simp at hbad; omega
      have hnil : ((([] : List UInt8).drop 0).take n0) = [] := by simp
      rw [hnil] at hQ
      refine PC.dis ?_
      refine pc_enter Try.func41 rfl [39, 56] [] (by kernel_rfl) (fun hB => ?_)
      have e0 : ¬ ((n0 : Int) < 0) := by omega
      simp [Try.ntmps41, Try.results41, List.replicate_succ, e0]
      refine rlen_pc E H none 0 0 [] _ ⟨rfl, rfl, rfl⟩ ?_
      simp
      refine rlen_pc E H none 0 0 [] _ ⟨rfl, rfl, rfl⟩ ?_
      have hw0 : IntKind.i64.wrap 0 = 0 := wrap_in (by omega) (by omega)
      simp [hw0]
      refine pc_enter Try.func65 rfl [] [] (by kernel_rfl) (fun hB2 => ?_)
      simp [Try.ntmps65, Try.results65, List.replicate_succ]
      refine rlen_pc E H none 0 0 [] _ ⟨rfl, rfl, rfl⟩ ?_
      simp
      refine aPost_same0 hB2 rfl (nilV_refl _) (by simp) ?_
      have hmn : (if 0 < n0 then (0 : Int) else (n0 : Int)) = 0 := by split <;> omega
      simp [hw0, hmn]
      exact aPost_same0 hB rfl (nilV_refl _) (by simp) hQ
end
end Go.Proofs.Ytgofogcfolhonaa
