/- More of the ring's calls in the abstract machine: At, Parts, Take, Drop, Clear, New, Find. -/
import Derived.Test.YtgofogcfolhonaaRingB
import Derived.Test.YtgofogcfolhonaaRing6
import Derived.Test.YtgofogcfolhonaaRing7
import Derived.Test.YtgofogcfolhonaaMade
set_option linter.unusedVariables false
set_option linter.unusedSimpArgs false
set_option linter.unusedSectionVars false
set_option maxRecDepth 100000
namespace Go.Proofs.Ytgofogcfolhonaa
open Go Go.RowKit

section
variable {w w' : World} {β : Nat → Nat} {Rd : Nat → Nat → Prop}
theorem rel_tup2 {a b : AV} {u v : Value} (ha : Rel w β Rd a u) (hb : Rel w β Rd b v) (fa : a.free = true) (fb : b.free = true) : Rel w β Rd (.tup [a, b]) (.tuple #[u, v]) := by
  refine .tup _ _ rfl (by simp [fa, fb]) (fun j x y hx hy => ?_)
  match j with
  | 0 => simp at hx hy; subst hx; subst hy; exact ha
  | 1 => simp at hx hy; subst hx; subst hy; exact hb
  | j + 2 => simp at hx
theorem rel_tup0 : Rel w β Rd (.tup []) (.tuple #[]) := .tup _ _ rfl (by simp) (fun j x y hx => by simp at hx)
/-- A list that came out, its block among those new. -/
theorem rel_newN {N : Nat → Nat → Prop} {ao : Option Addr} {k c : Nat} {x : List UInt8} (ho : OSl w' 1 (.slice ao k c) k (u8s x)) (hN : ∀ g, (Value.slice ao k c).ownBlock = some g → ∀ o, N g o) : Rel w' β (fun b o => Rd b o ∨ N b o) (.sl false 1 (bts x)) (.slice ao k c) := by
  have hk : k = x.length := by have := ho.1; rw [u8s_length] at this; omega
  subst hk
  exact rel_sl_bts ho.toR (fun g o n c hv j hj => .inr (hN g (by rw [hv]; rfl) _))
end

section
variable (E : Env) (H : Hp) (r : Option Nat) (cap q : Nat) (l : List UInt8) (Q : AV → Hp → Prop) (h : RW H r cap q l)
include h
theorem rat_pc (i : Int) (hi : i ≤ 9223372036854775807) (hQ1 : ∀ x, 0 ≤ i → l[i.toNat]? = some x → Q (.tup [.int .u8 (x.toNat : Int), .bool true]) H) (hQ2 : i < 0 ∨ (l.length : Int) ≤ i → Q (.tup [.int .u8 0, .bool false]) H) :
    PC Try.prog E 70 [rptr r, .int .i64 i] H Q := by
  by_cases hbad : i < 0 ∨ (l.length : Int) ≤ i
  · have hQ := hQ2 hbad
    refine pc_enter Try.func70 rfl [] [(3, [0, 0, 0, 0, 0, 0, 1])] (by kernel_rfl) (fun hB => ?_)
    by_cases b1 : i < 0
    · simp [Try.ntmps70, Try.results70, List.replicate_succ, b1]
      exact aPost_same0 hB rfl (nilV_refl _) (by simp) hQ
    · have b2 : (l.length : Int) ≤ i := by omega
      simp [Try.ntmps70, Try.results70, List.replicate_succ, b1]
      refine rlen_pc E H r cap q l _ h ?_
      simp [b2]
      exact aPost_same0 hB rfl (nilV_refl _) (by simp) hQ
  · obtain ⟨j, rfl⟩ : ∃ j : Nat, i = j := ⟨i.toNat, by omega⟩
    have hj : j < l.length := by omega
    obtain ⟨x, hx⟩ : ∃ x, l[j]? = some x := ⟨_, List.getElem?_eq_getElem hj⟩
    cases r with
    | some b =>
      refine pc_ro (v := .tup [.int .u8 (x.toNat : Int), .bool true]) (by kernel_rfl) h (fun w β Rd cargs T g hR hRg hsz hargs => ?_) (by simp) rfl (hQ1 x (by omega) (by simpa using hx))
      obtain ⟨u, s, rfl, hu, hs⟩ := args2 hsz hargs
      obtain rfl := rel_ptr' hu
      obtain rfl := rel_int hs
      refine (ring_at hR j x hx).mono ?_
      rintro e w' ⟨rfl, hF⟩
      exact ⟨_, noN, rfl, hF, fun _ _ h => h.elim, rel_tup2 (.int _ _) (.bool _) rfl rfl⟩
    | none =>
      obtain ⟨rfl, rfl, rfl⟩ := h
      simp at hj
theorem rparts_pc (hQ : Q (.tup [.sl false 1 (bts (l.take (cap - q))), .sl false 1 (bts (l.drop (cap - q)))]) H) : PC Try.prog E 52 [rptr r] H Q := by
  cases r with
  | some i =>
    refine pc_ro (v := .tup [.sl false 1 (bts (l.take (cap - q))), .sl false 1 (bts (l.drop (cap - q)))]) (by kernel_rfl) h (fun w β Rd cargs T g hR hRg hsz hargs => ?_) (by simp [-bnd_sl']) rfl hQ
    obtain ⟨u, rfl, hu⟩ := args1 hsz hargs
    obtain rfl := rel_ptr' hu
    refine (ring_parts hR).mono ?_
    rintro e w' ⟨ao, c, ka, bo, d, kb, rfl, o1, o2, n1, n2, hF⟩
    refine ⟨_, fun b o => (Value.slice ao ka c).ownBlock = some b ∨ (Value.slice bo kb d).ownBlock = some b, rfl, hF, fun b o hb => ?_, rel_tup2 (rel_newN o1 fun g hg o => .inl hg) (rel_newN o2 fun g hg o => .inr hg) rfl rfl⟩
    rcases hb with hb | hb
    · exact ⟨n1 b hb, o1.lt b hb⟩
    · exact ⟨(n2 b hb).1, o2.lt b hb⟩
  | none =>
    obtain ⟨rfl, rfl, rfl⟩ := h
    refine pc_enter Try.func52 rfl [11, 14] [] (by kernel_rfl) (fun hB => ?_)
    simp [Try.ntmps52, Try.results52, List.replicate_succ]
    refine pc_enter Try.func65 rfl [] [] (by kernel_rfl) (fun hB2 => ?_)
    simp [Try.ntmps65, Try.results65, List.replicate_succ]
    refine rlen_pc E H none 0 0 [] _ ⟨rfl, rfl, rfl⟩ ?_
    simp
    refine aPost_same0 hB2 rfl (nilV_refl _) (by simp) ?_
    simp
    exact aPost_same0 hB rfl (nilV_refl _) (by simp) hQ
theorem rdrop_pc (n : Int) (h1 : -9223372036854775808 ≤ n) (h2 : n ≤ 9223372036854775807) (hQ : ∀ H', RW H' r cap ((q + Nat.min n.toNat l.length) % cap) (l.drop n.toNat) → Oth H H' r → Q (.int .i64 (Nat.min n.toNat l.length : Nat)) H') :
    PC Try.prog E 50 [rptr r, .int .i64 n] H Q := by
  cases r with
  | some i =>
    refine pc_rw (v := .int .i64 (Nat.min n.toNat l.length : Nat)) (by kernel_rfl) h (fun w β Rd cargs T g hR hRg hsz hargs => ?_) (.int _ _) rfl (fun H' h1 h2 h3 => hQ H' h1 ⟨h2, fun j hj => h3 j (fun e => hj (by rw [e]))⟩)
    obtain ⟨u, s, rfl, hu, hs⟩ := args2 hsz hargs
    obtain rfl := rel_ptr' hu
    obtain rfl := rel_int hs
    refine (ring_drop hR n h1 h2).mono ?_
    rintro e w' ⟨rfl, hR', hF⟩
    exact ⟨_, noN, rfl, hR', hF.mono (fun k _ hk => .inl hk), fun _ _ h => h.elim, .int _ _⟩
  | none =>
    obtain ⟨rfl, rfl, rfl⟩ := h
    have hm : Nat.min n.toNat ([] : List UInt8).length = 0 := Nat.min_zero _
    have hQ' := hQ H ⟨rfl, by rw [hm], by simp⟩ ⟨rfl, fun _ _ => rfl⟩
    rw [hm] at hQ'
    have hQ' : Q (.int .i64 0) H := hQ'
    refine pc_enter Try.func50 rfl [] [] (by kernel_rfl) (fun hB => ?_)
    have go : ∀ fr : List AV, aget fr 4 = .int .i64 0 → aPost Try.prog [ResultVar.tmp 4] H.length Q .ret fr H := fun fr hf => aPost_same0 hB (v0 := .int .i64 0) (by simp [hf]) (nilV_refl _) (by simp) hQ'
    by_cases hn : n < 0
    · simp [Try.ntmps50, Try.results50, List.replicate_succ]
      refine rlen_pc E H none 0 0 [] _ ⟨rfl, rfl, rfl⟩ ?_
      simp [hn]
      exact go _ rfl
    · by_cases hn2 : n = 0
      · subst hn2
        simp [Try.ntmps50, Try.results50, List.replicate_succ]
        refine rlen_pc E H none 0 0 [] _ ⟨rfl, rfl, rfl⟩ ?_
        simp
        exact go _ rfl
      · have hn3 : 0 < n := by omega
        simp [Try.ntmps50, Try.results50, List.replicate_succ]
        refine rlen_pc E H none 0 0 [] _ ⟨rfl, rfl, rfl⟩ ?_
        simp [hn, hn3]
        exact go _ rfl
theorem rtake_pc (n : Int) (h1 : -9223372036854775808 ≤ n) (h2 : n ≤ 9223372036854775807) (hQ : ∀ H', RW H' r cap ((q + Nat.min n.toNat l.length) % cap) (l.drop n.toNat) → Oth H H' r → Q (.sl false 1 (bts (l.take n.toNat))) H') :
    PC Try.prog E 45 [rptr r, .int .i64 n] H Q := by
  cases r with
  | some i =>
    refine pc_rw (v := .sl false 1 (bts (l.take n.toNat))) (by kernel_rfl) h (fun w β Rd cargs T g hR hRg hsz hargs => ?_) (bnd_sl_bts _ _ _) rfl (fun H' h1 h2 h3 => hQ H' h1 ⟨h2, fun j hj => h3 j (fun e => hj (by rw [e]))⟩)
    obtain ⟨u, s, rfl, hu, hs⟩ := args2 hsz hargs
    obtain rfl := rel_ptr' hu
    obtain rfl := rel_int hs
    refine (ring_take hR n h1 h2).mono ?_
    rintro e w' ⟨ao, c, k, rfl, o, nn, hR', hF⟩
    exact ⟨_, fun b o => (Value.slice ao k c).ownBlock = some b, rfl, hR', hF.mono (fun k _ hk => .inl hk), fun b o' hb => ⟨nn b hb, o.lt b hb⟩, rel_newN o fun g hg o => hg⟩
  | none =>
    obtain ⟨rfl, rfl, rfl⟩ := h
    have hm : Nat.min n.toNat ([] : List UInt8).length = 0 := Nat.min_zero _
    have hQ' := hQ H ⟨rfl, by rw [hm], by simp⟩ ⟨rfl, fun _ _ => rfl⟩
    have hp : ∀ m : Int, peekL [] 0 m = [] := fun m => by unfold peekL; split <;> simp
    rw [List.take_nil] at hQ'
    refine pc_enter Try.func45 rfl [] [] (by kernel_rfl) (fun hB => ?_)
    simp [Try.ntmps45, Try.results45, List.replicate_succ]
    refine rpeek_pc E H none 0 0 [] _ ⟨rfl, rfl, rfl⟩ _ _ (by omega) (by omega) (by split <;> omega) ?_
    rw [hp]
    simp
    refine PC.bnd (rdrop_pc E H none 0 0 [] _ ⟨rfl, rfl, rfl⟩ n h1 h2 (fun H' h1 h2 hbn _ => ?_))
    have hq := hQ H' h1 h2
    rw [List.take_nil] at hq
    simp
    exact aPost_to rfl (nilV_refl _) h2 hbn (by simp) hq
theorem rclear_pc (hQ : ∀ H', RW H' r cap 0 [] → Oth H H' r → Q (.tup []) H') : PC Try.prog E 75 [rptr r] H Q := by
  cases r with
  | some i =>
    refine pc_rw (v := .tup []) (by kernel_rfl) h (fun w β Rd cargs T g hR hRg hsz hargs => ?_) (by simp) rfl (fun H' h1 h2 h3 => hQ H' h1 ⟨h2, fun j hj => h3 j (fun e => hj (by rw [e]))⟩)
    obtain ⟨u, rfl, hu⟩ := args1 hsz hargs
    obtain rfl := rel_ptr' hu
    refine (ring_clear hR).mono ?_
    rintro e w' ⟨rfl, hR', hF⟩
    exact ⟨_, noN, rfl, hR', hF.mono (fun k _ hk => .inl hk), fun _ _ h => h.elim, rel_tup0⟩
  | none =>
    obtain ⟨rfl, rfl, rfl⟩ := h
    have hQ' := hQ H ⟨rfl, rfl, rfl⟩ ⟨rfl, fun _ _ => rfl⟩
    refine pc_enter Try.func75 rfl [] [] (by kernel_rfl) (fun hB => ?_)
    simp [Try.ntmps75, Try.results75, List.replicate_succ, rptr]
    show aPost _ _ _ _ .ret _ _
    exact aPost_same0 hB (v0 := .tup []) rfl (nilV_refl _) (by simp) hQ'
end
section
variable (E : Env) (H : Hp) (Q : AV → Hp → Prop)
theorem rnew_pc (c : Int) (hQ1 : ∀ n : Nat, c = n → 1 ≤ n → n ≤ 1048576 → ∀ H', RO H' H.length n 0 [] → H'.length = H.length + 1 → (∀ j, j < H.length → H'[j]? = H[j]?) → Q (.tup [.ptr (some (H.length, 0)), .int .i64 0]) H') (hQ2 : c < 1 ∨ 1048576 < c → Q (.tup [.ptr none, .int .i64 20]) H) :
    PC Try.prog E 43 [.int .i64 c] H Q := by
  by_cases hbad : c < 1 ∨ 1048576 < c
  · have hQ := hQ2 hbad
    refine pc_enter Try.func43 rfl [] [] (by kernel_rfl) (fun hB => ?_)
    have b : (decide (c < 1) || decide (1048576 < c)) = true := by simpa using hbad
    by_cases b1 : c < 1
    · simp [Try.ntmps43, Try.results43, List.replicate_succ, b1]
      exact aPost_same0 hB rfl (nilV_refl _) (by simp) hQ
    · have b2 : 1048576 < c := by omega
      simp [Try.ntmps43, Try.results43, List.replicate_succ, b1, b2]
      exact aPost_same0 hB rfl (nilV_refl _) (by simp) hQ
  · obtain ⟨n, rfl⟩ : ∃ n : Nat, c = n := ⟨c.toNat, by omega⟩
    refine ⟨by kernel_rfl, fun w β Rd Ow cargs hHR hOw hsz hargs => ?_⟩
    obtain ⟨u, rfl, hu⟩ := args1 hsz (fun t x u hx hu => (hargs t x u hx hu).1)
    obtain rfl := rel_int hu
    refine (ring_new w n (by omega) (by omega)).mono ?_
    rintro e w' ⟨rfl, hR, hF⟩
    obtain ⟨H', β', Ow', g1, g2, g3, g4⟩ := post_new (e := 0) hHR hR rfl rfl hF
    exact ⟨_, _, H', β', Rd, Ow', rfl, hQ1 n rfl (by omega) (by omega) H' g1 g2 g3, g4⟩
end
/-- The environment fixes the greatest length that the machine's own search knows. -/
def ME (E : Env) : Prop := E.Fix 0 ∧ ∃ m : Int, E.w0.cell? ⟨0, 0, none⟩ = some (.int .i64 m)
section
variable (E : Env) (H : Hp) (r : Option Nat) (cap q : Nat) (l : List UInt8) (Q : AV → Hp → Prop) (h : RW H r cap q l)
include h
theorem rfind_pc (hM : ME E) (p : List UInt8) (i : Int) (hi : i ≤ 9223372036854775807) (hQ1 : 0 ≤ i → i ≤ l.length → r ≠ none → Q (.int .i64 (findL l p i.toNat)) H) (hQ2 : i < 0 ∨ (l.length : Int) < i ∨ r = none → Q (.int .i64 (-1)) H) :
    PC Try.prog E 53 [rptr r, .sl false 1 (bts p), .int .i64 i] H Q := by
  by_cases hbad : i < 0 ∨ (l.length : Int) < i ∨ r = none
  · have hQ := hQ2 hbad
    refine pc_enter Try.func53 rfl [] [] (by kernel_rfl) (fun hB => ?_)
    cases r with
    | none =>
      simp [Try.ntmps53, Try.results53, List.replicate_succ, rptr]
      exact aPost_same0 hB rfl (nilV_refl _) (by simp) hQ
    | some b =>
      by_cases b1 : i < 0
      · simp [Try.ntmps53, Try.results53, List.replicate_succ, b1, rptr]
        exact aPost_same0 hB rfl (nilV_refl _) (by simp) hQ
      · have b2 : (l.length : Int) < i := by rcases hbad with h | h | h <;> first | omega | cases h
        simp [Try.ntmps53, Try.results53, List.replicate_succ, b1, rptr]
        refine rlen_pc E H (some b) cap q l _ h ?_
        simp [b2]
        exact aPost_same0 hB rfl (nilV_refl _) (by simp) hQ
  · cases r with
    | none => exact absurd (.inr (.inr rfl)) hbad
    | some b =>
      obtain ⟨f, rfl⟩ : ∃ f : Nat, i = f := ⟨i.toNat, by omega⟩
      have hQ := hQ1 (by omega) (by omega) (by simp)
      simp only [Int.toNat_natCast] at hQ
      obtain ⟨hM1, m, hM2⟩ := hM
      refine ⟨by kernel_rfl, fun w β Rd Ow cargs hHR hOw hsz hargs => ?_⟩
      obtain ⟨T, g, hR, hOg, hRg, _, _, _⟩ := RO.at h hHR
      obtain ⟨u, s, t, rfl, hu, hs, ht⟩ := args3 hsz (fun t x u hx hu => (hargs t x u hx hu).1)
      obtain rfl := rel_ptr' hu
      obtain rfl := rel_int ht
      obtain ⟨ao, c, rfl, hr, hd⟩ := rel_sl_in hs
      have hm : w.cell? ⟨0, 0, none⟩ = some (.int .i64 m) := (World.cell?_of_block (a := ⟨0, 0, none⟩) (hHR.fix _ hM1).1).trans hM2
      refine (ring_find hR hr f (by omega) hm).mono ?_
      rintro e w' ⟨rfl, hF⟩
      exact ⟨_, .int .i64 (findL l p f), H, β, _, Ow, rfl, hQ, post_freshP hHR hF noN (fun _ _ h => h.elim) (.int _ _) (.int _ _) rfl⟩
end
end Go.Proofs.Ytgofogcfolhonaa
