/- Part 6 of the texts below the law: the abstract machine, the functions that it walks, what they compute. -/
import Derived.Test.YtijnohcaeedffaaWn5
import Derived.Carry
import Derived.Test.YtijnohcaeedffaaRows
import Derived.ProofKit
import Derived.OpenShut
import Derived.SizedLaws
import Derived.Deep.Slices
import Derived.Deep.Fields
import Derived.SliceStrings
set_option linter.unusedVariables false
set_option linter.unnecessarySimpa false
set_option linter.unusedSimpArgs false
set_option linter.unusedSectionVars false
set_option maxRecDepth 100000
namespace Go.Proofs.Ytijnohcaeedffaa
open Go Go.RowKit

def rowsT (l : List Tm) : List (List AV) := l.map fun y => [.int .i64 y.n, .int .i64 y.t]
theorem rowsT_len (l : List Tm) : (rowsT l).length = l.length := List.length_map ..
/-- What has come so far, and what is still set. -/
structure Adv (ts ts1 out : List Tm) (lim : Int) : Prop where
  srt : srt out
  lt : ∀ a ∈ out, ∀ b ∈ ts1, tlt a b
  mem : ∀ y, y ∈ ts ↔ y ∈ out ∨ y ∈ ts1
  le : ∀ a ∈ out, a.t ≤ lim
  sub : ∃ p : Tm → Bool, ts1 = ts.filter p
  len : out.length + ts1.length = ts.length
section
variable {ts ts1 out : List Tm} {lim : Int} {m : Tm}
theorem Adv.zero (ts : List Tm) (lim : Int) : Adv ts ts [] lim := ⟨List.Pairwise.nil, nofun, fun y => ⟨.inr, fun h => h.resolve_left nofun⟩, nofun, ⟨fun _ => true, (List.filter_eq_self.2 fun _ _ => rfl).symm⟩, by simp⟩
theorem Adv.step (h : Adv ts ts1 out lim) (hnd : ts1.Pairwise fun x y => x.n ≠ y.n) (hm : firstT ts1 = some m) (hl : m.t ≤ lim) : Adv ts (offN ts1 m.n) (out ++ [m]) lim := by
  obtain ⟨h1, h2⟩ := firstT_spec hm
  have hoff : ∀ y, y ∈ offN ts1 m.n ↔ y ∈ ts1 ∧ y ≠ m := fun y => by
    unfold offN
    rw [List.mem_filter]
    constructor
    · rintro ⟨a, b⟩
      exact ⟨a, fun e => by rw [e] at b; simp at b⟩
    · rintro ⟨a, b⟩
      refine ⟨a, ?_⟩
      simp only [bne_iff_ne, ne_eq]
      exact fun e => b (nd_of hnd a h1 e)
  refine ⟨List.pairwise_append.2 ⟨h.srt, List.pairwise_singleton .., fun a ha b hb => ?_⟩, fun a ha b hb => ?_, fun y => ?_, fun a ha => ?_, ?_, ?_⟩
  · simp at hb; subst hb; exact h.lt a ha b h1
  · obtain ⟨b1, b2⟩ := (hoff b).1 hb
    rcases List.mem_append.1 ha with ha | ha
    · exact h.lt a ha b b1
    · simp at ha; subst ha; exact (h2 b b1).resolve_left b2
  · rw [h.mem, hoff, List.mem_append, List.mem_singleton]
    constructor
    · rintro (a | a)
      · exact .inl (.inl a)
      · by_cases e : y = m
        · exact .inl (.inr e)
        · exact .inr ⟨a, e⟩
    · rintro ((a | a) | a)
      · exact .inl a
      · exact .inr (a ▸ h1)
      · exact .inr a.1
  · rcases List.mem_append.1 ha with ha | ha
    · exact h.le a ha
    · simp at ha; subst ha; exact hl
  · obtain ⟨p, hp⟩ := h.sub
    exact ⟨fun y => p y && (y.n != m.n), by unfold offN; rw [hp, List.filter_filter]; congr 1; funext y; rw [Bool.and_comm]⟩
  · have : (offN ts1 m.n).length + 1 = ts1.length := by
      obtain ⟨pre, suf, hsp⟩ := List.append_of_mem h1
      have e : offN ts1 m.n = pre ++ suf := by
        rw [hsp] at hnd ⊢
        obtain ⟨n1, n2, n3⟩ := List.pairwise_append.1 hnd
        unfold offN
        rw [List.filter_append, List.filter_cons_of_neg (by simp), List.filter_eq_self.2 (fun y hy => by simpa using n3 y hy m (List.mem_cons_self ..)), List.filter_eq_self.2 (fun y hy => by simpa using Ne.symm ((List.pairwise_cons.1 n2).1 y hy))]
      rw [e, hsp]; simp; omega
    have := h.len
    rw [List.length_append]; simp; omega
theorem Adv.done (h : Adv ts ts1 out lim) (hnd : ts.Nodup) (hgt : ∀ y ∈ ts1, lim < y.t) : out = dueT lim ts ∧ ts1 = leftT lim ts := by
  refine ⟨due_eq hnd h.srt fun y => ?_, ?_⟩
  · constructor
    · exact fun hy => ⟨(h.mem y).2 (.inl hy), h.le y hy⟩
    · rintro ⟨a, b⟩
      rcases (h.mem y).1 a with c | c
      · exact c
      · have := hgt y c; omega
  · obtain ⟨p, hp⟩ := h.sub
    unfold leftT
    rw [hp]
    refine List.filter_congr fun y hy => ?_
    by_cases hpy : p y = true
    · rw [hpy]
      have := hgt y (by rw [hp]; exact List.mem_filter.2 ⟨hy, hpy⟩)
      simp [this]
    · have h1 : y ∈ out := ((h.mem y).1 hy).resolve_right fun e => hpy (by rw [hp] at e; exact (List.mem_filter.1 e).2)
      have := h.le y h1
      have e : p y = false := by simpa using hpy
      rw [e]
      simp; omega
end
def muA (n : Nat) (fr : List AV) : Nat := match aget fr 6 with
  | .sl _ _ rows => n - rows.length
  | _ => 0
def avI (iw : Nat) (H : Hp) (now tick : Nat) (st : Int) (g : Nat) (Ls : Nat → List Te) (ts : List Tm) (fr : List AV) (K : Hp) : Prop :=
  ∃ (row1 : List AV) (st1 : Int) (kv1 : List (Int × Nat)) (Ls1 : Nat → List Te) (ts1 out : List Tm), Whl K iw row1 now st1 g kv1 Ls1 ∧ Vw Ls1 ts1 ∧ Adv ts ts1 out tick ∧ st ≤ st1 ∧ st1 ≤ st + 576 * out.length ∧ (out ≠ [] → st < st1) ∧ K.length = H.length ∧ (∀ j, Mine iw Ls1 j → Mine iw Ls j) ∧ (∀ j, ¬ Mine iw Ls j → K[j]? = H[j]?) ∧ BndH H.length K ∧
  ∃ x : Nat → AV, fr = [.ptr (some (iw, 0)), .int .i64 tick, x 2, x 3, x 4, x 5, .sl true 2 (rowsT out), x 7, x 8, x 9, x 10, x 11, x 12, x 13, x 14, x 15, x 16, x 17, x 18, x 19, x 20, x 21, x 22, x 23, x 24, x 25, x 26, x 27, x 28, x 29, x 30, x 31, x 32, x 33, x 34, x 35, x 36, x 37, x 38, x 39, x 40, x 41, x 42, x 43, x 44, x 45, x 46, x 47, x 48, x 49, x 50, x 51, x 52, x 53, x 54, x 55, x 56, x 57, x 58, x 59, x 60, x 61]
section
variable {H : Hp} {iw : Nat} {row : List AV} {now : Nat} {st : Int} {g : Nat} {kv : List (Int × Nat)} {Ls : Nat → List Te} {ts : List Tm} (E : Env) (Q : AV → Hp → Prop)
theorem advance_pc (h : Whl H iw row now st g kv Ls) (hv : Vw Ls ts) (hst : 0 ≤ st ∧ st + 576 * (ts.length + 1) ≤ 4611686018427387904) (tick : Int)
    (hQ0 : (tick < now ∨ 281474976710656 < tick) → Q (.tup [.sl false 2 [], .int .i64 250]) H)
    (hQ : ∀ (H' : Hp) (row' : List AV) (kv' : List (Int × Nat)) (Ls' : Nat → List Te) (st' : Int) (tk : Nat), tick = tk → now ≤ tk → tk ≤ 281474976710656 → Whl H' iw row' tk st' g kv' Ls' → Vw Ls' (leftT tick ts) → H'.length = H.length → (∀ j, Mine iw Ls' j → Mine iw Ls j) → (∀ j, ¬ Mine iw Ls j → H'[j]? = H[j]?) →
      st ≤ st' → st' ≤ st + 576 * ((dueT tick ts).length + 1) → (dueT tick ts ≠ [] → st < st') → Q (.tup [.sl false 2 (rowsT (dueT tick ts)), .int .i64 0]) H') : PC Try.prog E 13 [.ptr (some (iw, 0)), .int .i64 tick] H Q := by
  have hw := h.lnk.w
  have rm := h.rm
  have r0 := h.r0
  have hwl := ltX hw
  have hrl := h.lnk.l
  have hnow := h.nowle
  refine pc_enter Try.func13 rfl [40] [(4, [0, 0, 0, 3, 3])] (by kernel_rfl) (fun hB => ?_)
  by_cases h1 : tick < now
  · have hq := hQ0 (.inl h1)
    simp [Try.ntmps13, Try.results13, List.replicate_succ, hw, r0, h1]
    exact aPost_same0 hB (v0 := .tup [.nil, .int .i64 250]) (by simp) (.inr ⟨_, [.sl false 2 [], .int .i64 250], rfl, rfl, ⟨.inr ⟨rfl, _, _, rfl⟩, .inl rfl, trivial⟩, by simp [AV.free]⟩) (by simp) hq
  by_cases h2 : 281474976710656 < tick
  · have hq := hQ0 (.inr h2)
    simp [Try.ntmps13, Try.results13, List.replicate_succ, hw, r0, h1, h2]
    exact aPost_same0 hB (v0 := .tup [.nil, .int .i64 250]) (by simp) (.inr ⟨_, [.sl false 2 [], .int .i64 250], rfl, rfl, ⟨.inr ⟨rfl, _, _, rfl⟩, .inl rfl, trivial⟩, by simp [AV.free]⟩) (by simp) hq
  obtain ⟨tk, rfl⟩ : ∃ tk : Nat, tick = tk := ⟨tick.toNat, by omega⟩
  have ht1 : now ≤ tk := by omega
  have ht2 : tk ≤ 281474976710656 := by omega
  simp [Try.ntmps13, Try.results13, List.replicate_succ, hw, r0, h1, h2]
  have hnd : ts.Nodup := hv.nd.imp fun hne e => hne (by rw [e])
  have hlen0 := h.len hv
  have hfew := h.few
  refine VL_nil 6 2 (by rfl) ?_
  simp
  refine VL_go (avI iw H now tk st g Ls ts) (fun fr _ => muA ts.length fr) ⟨row, st, kv, Ls, ts, [], h, hv, Adv.zero ts tk, by omega, by simp, by simp, rfl, fun _ h => h, fun _ _ => rfl, hB, fr_intro (by simp [rowsT])⟩ ?_
  rintro fr K ⟨row1, st1, kv1, Ls1, ts1, out, hW, hV, hA, hs1, hs2, hs3, hl, hmn, hfr, hBK, x, rfl⟩
  have fin : ∀ (K1 : Hp) (row2 : List AV) (c : Int) (Ls2 : Nat → List Te), st ≤ c → c ≤ st + 576 * (out.length + 1) → (out ≠ [] → st < c) → (∀ y ∈ ts1, (tk : Int) < y.t) → Whl K1 iw row2 tk c g kv1 Ls2 → Vw Ls2 ts1 → K1.length = K.length → (∀ j, Mine iw Ls2 j → Mine iw Ls1 j) → (∀ j, ¬ Mine iw Ls1 j → K1[j]? = K[j]?) → Q (.tup [.sl false 2 (rowsT out), .int .i64 0]) K1 := by
    intro K1 row2 c Ls2 a1 a2 a3 a4 a5 a6 a7 a8 a9
    obtain ⟨e1, e2⟩ := hA.done hnd a4
    rw [e1]
    rw [e1] at a2 a3
    exact hQ K1 row2 kv1 Ls2 c tk rfl ht1 ht2 a5 (by rw [← e2]; exact a6) (a7.trans hl) (fun j hj => hmn j (a8 j hj)) (fun j hj => (a9 j fun hm => hj (hmn j hm)).trans (hfr j hj)) a1 a2 a3
  have hw1 := hW.lnk.w
  have rm1 := hW.rm
  have hlen1 := hW.len hV
  cases hts : ts1 with
  | nil =>
    have hk0 : kv1 = [] := List.eq_nil_of_length_eq_zero (by rw [hlen1, hts]; rfl)
    subst hts hk0
    simp [hw1, rm1, mapOb]
    refine PC.bnd (move_pc E _ hW hV tk ht1 ht2 nofun (fun H' row' Ls' hW' hV' hl' hmn' hfr' hB' _ => ?_))
    have hq := fin H' row' st1 Ls' hs1 (by omega) hs3 nofun hW' hV' hl' hmn' hfr'
    simp [Kcall, KP]
    exact aPost_upX rfl (by omega) hB' (by simp [rowsT]) hq
  | cons y0 l0 =>
    have hne : ts1 ≠ [] := by rw [hts]; simp
    have hpos : 0 < kv1.length := by
      rw [hlen1, hts]
      simp
    clear hts
    simp [hw1, rm1, mapOb, hpos]
    have hol : out.length + ts1.length = ts.length := hA.len
    have hpos2 : 0 < ts1.length := by omega
    refine PC.bnd (first_vw E _ hW hV ⟨by omega, by omega⟩ hne (fun s y c hs hy hf hc1 hc2 hB2 _ => ?_))
    have hW2 := hW.step c
    obtain ⟨pre, suf, hsp⟩ := List.append_of_mem hy
    have hyc := hW2.lnk.links s pre y suf hs hsp
    unfold tmr at hyc
    by_cases hgt : (tk : Int) < y.t
    · simp [Kcall, KP, hyc, hgt]
      obtain ⟨f1, f2⟩ := firstT_spec hf
      refine PC.bnd (move_pc E _ hW2 hV tk ht1 ht2 (fun z hz => ?_) (fun H' row' Ls' hW' hV' hl' hmn' hfr' hB' _ => ?_))
      · rcases f2 z hz with rfl | h3
        · exact hgt
        · unfold tlt at h3; simp only at h3; omega
      have hq := fin H' row' c Ls' (by omega) (by omega) (fun ho => by have := hs3 ho; omega) (fun z hz => by
        rcases f2 z hz with rfl | h3
        · exact hgt
        · unfold tlt at h3; simp only at h3; omega) hW' hV' (by simpa using hl') hmn' (fun j hj => by
        rw [hfr' j hj]
        exact getNX (fun e => hj (.inl e.symm)) _)
      simp [Kcall, KP]
      exact aPost_upX rfl (by simp at hl'; omega) hB' (by simp [rowsT]) hq
    · have hap1 : out.length + 1 ≤ maxLen := by unfold maxLen; omega
      have hap2 : (out.length + 1) * 16 ≤ 140737488355328 := by omega
      simp [Kcall, KP, hyc, hgt, rowsT_len, hap1, hap2]
      have hkm := (hW2.mem y.n y.i).2 ⟨s, hs, y, hy, rfl, rfl⟩
      refine PC.bnd (stop_vw E _ hW2 hV y.n (hW2.num _ hkm) (fun K3 row3 Ls3 hW3 hV3 hsub hl3 hf3 hB3 _ => ?_))
      simp [Kcall, KP]
      have hA3 := hA.step hV.nd hf (by simp only; omega)
      refine Kloop_normal ⟨row3, c, kvDel kv1 y.n, Ls3, offN ts1 y.n, out ++ [⟨y.n, y.t⟩], hW3, hV3, hA3, by omega, by simp; omega, fun _ => by omega, ?_, fun j hj => ?_, fun j hj => ?_, ?_, fr_intro (by simp [rowsT])⟩ ?_
      · rw [hl3]; simpa using hl
      · refine hmn j ?_
        rcases hj with rfl | ⟨s2, hs2, z, hz, e⟩
        · exact .inl rfl
        · exact .inr ⟨s2, hs2, z, hsub s2 z hz, e⟩
      · rw [hf3 j fun hm => hj (hmn j hm), getNX (fun e => hj (.inl e.symm))]
        exact hfr j hj
      · have e : K3.length = H.length := by rw [hl3]; simpa using hl
        rw [← e]; exact hB3
      · simp [muA, rowsT_len]
        omega
end
end Go.Proofs.Ytijnohcaeedffaa

set_option linter.unusedVariables false
set_option linter.unnecessarySimpa false
set_option linter.unusedSimpArgs false
set_option maxRecDepth 100000
namespace Go.Proofs.Ytijnohcaeedffaa
open Go Go.RowKit
open Go.Maps (Keyed has)

section
variable {P : Program} {E : Env} {W : World} {F F' : Nat → Prop} {Rd0 : Nat → Nat → Prop} {w w' : World} {β β' β0 : Nat → Nat} {Rd Rd' : Nat → Nat → Prop} {Ow Ow' : Nat → Option Hold} {fr fr' : List AV} {H H' : Hp} {tmps : Array Value} {N N' n r g i p i' p' : Nat} {l : List AV} {X : Ob} {o : Obj} {a : Act} {k : TypeId}
/-- A block that nobody holds becomes a cell's own. -/
theorem S3.obNew (h0 : S3 E W F Rd0 w β Rd Ow fr H tmps) (hi : H[i]? = some l) (hp : l[p]? = some (.mh i' p' g)) (hg : Ow g = none) (hlt : g < w.heap.size) (hbox : ∀ j, j < H.length → β j ≠ g) (hrd : ∀ q, ¬ Rd g q) (hF : ¬ F g) (hE : ¬ E.Fix g) (hX : X.M w β (.map (some g))) (hX2 : X.own (.map (some g)) = some g) (hN : X.N ≤ H.length) :
    S3 E W F Rd0 w β Rd (upd Ow g (some (.cell i p))) fr (H.set i (l.set p (.ob X))) tmps := by
  have h := h0.claim hg (.cell i p) hlt hbox hF hE
  have hil := at_ltA hi
  have hpl := at_ltA hp
  have hlen : (H.set i (l.set p (.ob X))).length = H.length := List.length_set ..
  refine ⟨⟨fun j l' hj => ?_, by rw [hlen]; exact h.hr.inj, by rw [hlen]; exact h.hr.sep, h.hr.ows, h.hr.rds, fun m hm x hx => ?_, by rw [hlen]; exact h.hr.fix, fun j l' t hj h1 => ?_⟩, by rw [hlen]; exact h.ff, by rw [hlen]; exact h.fo, h.ne⟩
  · by_cases hji : j = i
    · subst hji
      rw [List.getElem?_set_self hil] at hj
      cases hj
      obtain ⟨T, cs, c1, c2, c3⟩ := h.hr.box j l hi
      refine ⟨T, cs, c1, by simpa using c2, fun q x u hx hu => ?_⟩
      by_cases hqp : q = p
      · subst hqp
        rw [List.getElem?_set_self hpl] at hx
        cases hx
        obtain ⟨r1, _, _⟩ := c3 q _ u hp hu
        cases rel_mh r1
        exact ⟨.ob X _ hX (fun g' hg' => by rw [hX2] at hg'; cases hg'; exact hrd), rfl, fun g' hg' => by
          have e : X.own (.map (some g)) = some g' := hg'
          rw [hX2] at e; cases e; exact upd_same ..⟩
      · rw [List.getElem?_set_ne (Ne.symm hqp)] at hx
        exact c3 q x u hx hu
    · rw [List.getElem?_set_ne (Ne.symm hji)] at hj
      exact h.hr.box j l' hj
  · rw [hlen]
    rcases List.mem_or_eq_of_mem_set hm with h1 | rfl
    · exact h.hr.bnd m h1 x hx
    · rcases List.mem_or_eq_of_mem_set hx with h1 | rfl
      · exact h.hr.bnd l (mem_at hi) x h1
      · exact .ob X hN
  · by_cases hji : j = i
    · subst hji
      rw [List.getElem?_set_self hil] at hj
      cases hj
      by_cases hp0 : p = 0
      · subst hp0
        rw [List.getElem?_set_self hpl] at h1
        cases h1
      · rw [List.getElem?_set_ne hp0] at h1
        exact h.hr.bld j l t hi h1
    · rw [List.getElem?_set_ne (Ne.symm hji)] at hj
      exact h.hr.bld j l' t hj h1
/-- Block g, o, beside all that is held. -/
def PSt (E : Env) (W : World) (F : Nat → Prop) (Rd0 : Nat → Nat → Prop) (β0 : Nat → Nat) (n g : Nat) (o : Obj) (fr : List AV) (H : Hp) (a : Act) (w : World) : Prop :=
  a.defers = [] ∧ n ≤ H.length ∧ ∃ β Rd Ow, S3 E W F Rd0 w β Rd Ow fr H a.tmps ∧ (∀ j, j < n → β j = β0 j) ∧ Ow g = none ∧ (∀ j, j < H.length → β j ≠ g) ∧ (∀ q, ¬ Rd g q) ∧ ¬ F g ∧ ¬ E.Fix g ∧ w.heap[g]? = some o
theorem PSt.split (h : PSt E W F Rd0 β0 n g o fr H a w) : ∃ F' Rd' β', St E w F' Rd' β' H.length fr H a w ∧ ∀ fr' H' a' w', St E w F' Rd' β' H.length fr' H' a' w' → PSt E W F Rd0 β0 n g o fr' H' a' w' := by
  obtain ⟨hd, hn, β, Rd, Ow, hS, hβ, q1, q2, q3, q4, q5, ho⟩ := h
  have hlt := (Array.getElem?_eq_some_iff.1 ho).1
  have hS' : S3 E w (fun b => F b ∨ b = g) Rd w β Rd Ow fr H a.tmps := by
    refine ⟨hS.hr, hS.ff, ⟨fun b hb => ?_, fun _ _ => rfl, fun b hb => ?_, fun b j hb hj => ?_, fun _ _ _ h => h, rfl, rfl, rfl, Nat.le_refl _, fun _ _ h => ⟨h, rfl⟩⟩, hS.ne⟩
    · rcases hb with hb | rfl
      · exact Nat.lt_of_lt_of_le (hS.fo.lt b hb) hS.fo.size
      · exact hlt
    · rcases hb with hb | rfl
      · exact hS.fo.own b hb
      · exact q1
    · rcases hb with hb | rfl
      · exact hS.fo.box b j hb hj
      · exact q2 j hj
  refine ⟨_, Rd, β, ⟨hd, Nat.le_refl _, β, Rd, Ow, hS', fun _ _ => rfl⟩, ?_⟩
  rintro fr' H' a' w' ⟨hd', hn', β', Rd', Ow', hS2, hβ'⟩
  exact ⟨hd', Nat.le_trans hn hn', β', Rd', Ow', ⟨hS2.hr, hS2.ff, hS.fo.trans hS2.fo fun b hb => .inl hb, hS2.ne⟩, fun j hj => (hβ' j (by omega)).trans (hβ j hj), hS2.fo.own g (.inr rfl), fun j hj => hS2.fo.box g j (.inr rfl) hj, fun q hq => q3 q (hS2.fo.rd g q (.inr rfl) hq), q4, q5, (hS2.fo.same g (.inr rfl)).trans ho⟩
/-- The new map is a cell's own. -/
theorem PSt.held (h : PSt E W F Rd0 β0 n g (.map #[] 0) fr H a w) (hi : H[i]? = some l) (hp : l[p]? = some (.mh i' p' g)) : St E W F Rd0 β0 n fr (H.set i (l.set p (.ob (mapOb P k g [])))) a w := by
  obtain ⟨hd, hn, β, Rd, Ow, hS, hβ, q1, q2, q3, q4, q5, ho⟩ := h
  have hlt := (Array.getElem?_eq_some_iff.1 ho).1
  have hown : w.ownsMap P k ptrEl g 0 (.map [] : DataW Unit) := by
    obtain ⟨es, clock, hb, h2⟩ := World.ownsMap_made (H := Unit) w P k ptrEl
    have e : (w.alloc (.map #[] 0)).heap[w.heap.size]? = some (.map #[] 0) := heap_alloc_new w _
    rw [e] at hb
    cases hb
    exact ⟨#[], 0, ho, h2⟩
  exact ⟨hd, by simpa using hn, β, Rd, _, hS.obNew hi hp q1 hlt q2 q3 q4 q5 (X := mapOb P k g []) ⟨rfl, List.Pairwise.nil, g, .map [], rfl, hown, rfl, fun z => rfl, fun z j hz => by cases hz⟩ rfl (Nat.zero_le _), hβ⟩
theorem mkm_op {ops : Array Oper} {Q : Exit → Act → World → Prop} {rest : List Oper} {op : Oper} {t : TypeId} {m : Nat} (hop : op.op = .makeMap t none) (hd : op.dst = some m) (hg : op.guard = none) (hs : St E W F Rd0 β0 n fr H a w)
    (hK : ∀ g w', PSt E W F Rd0 β0 n g (.map #[] 0) (fr.set m (.mh 0 0 g)) H (a.put (some m) (.map (some g))) w' → wpList P ops Q rest (a.put (some m) (.map (some g))) w') : wpList P ops Q (op :: rest) a w := by
  obtain ⟨hdf, hn, β, Rd, Ow, hS, hβ⟩ := hs
  refine wpList_plain hg fun K' hK' => ?_
  unfold Oper.wp
  have hrun := run_makeMap (P := P) t w
  simp [execOp, hop, hrun, Result.andThen]
  show K' (a.put op.dst _) _
  rw [hd]
  have hsame : ∀ b, b < w.heap.size → (w.alloc (.map #[] 0)).heap[b]? = w.heap[b]? := fun b hb => heap_alloc_old w _ hb
  have hS1 : S3 E W F Rd0 (w.alloc (.map #[] 0)) β Rd Ow fr H a.tmps := hS.move (fun g o hg => ⟨hg, World.cell?_of_block (a := ⟨g, o, none⟩) (hsame g (hS.hr.rds g o hg))⟩) (fun b hb => ⟨hsame b hb, fun _ h => h⟩) (fun g o hg => by have := hS.hr.rds g o hg; simp; omega) (by simp) rfl rfl rfl
  refine hK' _ _ (hK w.heap.size _ ⟨hdf, hn, β, Rd, Ow, hS1.aput (some m) rfl (.mh 0 0 _) (.mh ..) rfl (fun g hg => by cases hg), hβ, ?_, fun j hj e => ?_, fun q hq => ?_, fun hF => ?_, fun hF => ?_, heap_alloc_new w _⟩)
  · cases ho2 : Ow w.heap.size with
    | none => rfl
    | some h => exact absurd (hS.hr.ows _ _ ho2) (Nat.lt_irrefl _)
  · obtain ⟨T', cs', c1, _⟩ := hS.hr.box j _ (List.getElem?_eq_getElem hj)
    have := (Array.getElem?_eq_some_iff.1 c1).1
    omega
  · exact absurd (hS.hr.rds _ _ hq) (Nat.lt_irrefl _)
  · have h1 := hS.fo.lt _ hF
    have h2 := hS.fo.size
    omega
  · exact absurd (hS.hr.fix _ hF).2.2.2 (Nat.lt_irrefl _)
end
def okM (P : Program) (B : List Tmp) (ND : List (Nat × List Nat)) (fn : Func) (l : List Code) (D : Code) : Bool := !(fn.name == "runtime.NumGoroutine") && P.follows .mixedOrders && noFrz ND && l.all (regsB B ND) && regsB B ND D
/-- What is asked where the new map lies in its cell. -/
def VMkm (P : Program) (k : TypeId) (g : Nat) (K : List AV → Hp → Prop) (fr : List AV) (H : Hp) : Prop := ∃ (i p i' p' : Nat) (l : List AV), H[i]? = some l ∧ l[p]? = some (.mh i' p' g) ∧ K fr (H.set i (l.set p (.ob (mapOb P k g []))))
section
variable {P : Program} {E : Env} {H : Hp}
/-- A FUNCTION THAT MAKES A MAP, ENTERED. -/
theorem pc_enterMkm {f : FuncId} {fn : Func} (l : List Code) {i4 : Nat} {ops : Array Oper} {p4 q4 : List Oper} {o0 : Oper} {D : Code} {m : Nat} {t k : TypeId} (hf : P.funcs[f]? = some fn)
    (hb : fn.body = some (preS l (.seq (.region i4 ops false) D))) (B : List Tmp) (ND : List (Nat × List Nat)) (hok : okM P B ND fn l D = true) (e4 : ops.toList = p4 ++ o0 :: q4) (c0 : o0.op = .makeMap t none ∧ o0.dst = some m ∧ o0.guard = none) {args : List AV} {Q : AV → Hp → Prop}
    (h : BndH H.length H → vcPre P E B ND l (aPost P fn.results.toList H.length Q) (fun fr H' => vcl P E B ops (fun fr2 H2 => ∀ g, vcl P E B ops (VMkm P k g (fun fr3 H3 => vc P E B ND D (aPost P fn.results.toList H.length Q) fr3 H3)) [] q4 (fr2.set m (.mh 0 0 g)) H2) (ndOf ND i4) p4 fr H') (args ++ List.replicate (fn.ntmps - args.length) (.raw undef)) H) : PC P E f args H Q := by
  unfold okM at hok
  simp only [Bool.and_eq_true, Bool.not_eq_true'] at hok
  obtain ⟨⟨⟨⟨hname, hm⟩, hz⟩, hl⟩, hD⟩ := hok
  refine pc_enterG hf hb hname (fun hBn W F Rd0 β0 a w hs KC hK => ?_)
  refine pre_ok hm hz hK (fun fr1 H1 a1 w1 hs1 hv => ?_) l _ _ _ _ hl hs (h hBn)
  refine wp_seq (wp_region_list ?_)
  rw [e4]
  refine wpList_vcl_app (n := H.length) (fun fr2 H2 a2 w2 hs2 hv2 => ?_) p4 _ _ _ _ _ hs1 hv
  refine mkm_op c0.1 c0.2.1 c0.2.2 hs2 (fun g w' hP => ?_)
  obtain ⟨F', Rd', β', hs', back⟩ := hP.split
  refine wpList_vcl (K := VMkm P k g (fun fr3 H3 => vc P E B ND D (aPost P fn.results.toList H.length Q) fr3 H3)) (fun fr3 H3 a3 w3 hs3 hk3 => ?_) q4 [] _ _ _ _ hs' (hv2 g)
  obtain ⟨i, p, i', p', l', h1, h2, h3⟩ := hk3
  exact vc_ok hm (fun id m hm2 => absurd hm2 (noFrz_spec hz id m)) D _ _ _ _ _ _ hD ((back _ _ _ _ hs3).held h1 h2) h3 hK
end
end Go.Proofs.Ytijnohcaeedffaa

set_option linter.unusedVariables false
set_option linter.unnecessarySimpa false
set_option linter.unusedSimpArgs false
set_option linter.unusedSectionVars false
set_option maxRecDepth 100000
namespace Go.Proofs.Ytijnohcaeedffaa
open Go Go.RowKit

def zokB (z : List AV) : Bool := z.length == 579 && (match (z[1]? : Option AV) with | some (.int .i64 n) => n == 0 | _ => false) && (match (z[578]? : Option AV) with | some (.raw _) => true | _ => false) && (List.range 576).all fun s => match (z[2 + s]? : Option AV) with
  | some (.ptr none) => true
  | _ => false
theorem zrow : ∃ z, tzc Try.prog 64 = some z ∧ z.length = 579 ∧ z[1]? = some (.int .i64 0) ∧ ∀ s, s < 576 → z[2 + s]? = some (.ptr none) := by
  have h : (tzc Try.prog 64).any zokB = true := by kernel_rfl
  cases hz : tzc Try.prog 64 with
  | none => rw [hz] at h; cases h
  | some z =>
    rw [hz] at h
    have h : zokB z = true := h
    unfold zokB at h
    simp only [Bool.and_eq_true, beq_iff_eq, List.all_eq_true, List.mem_range] at h
    obtain ⟨⟨⟨h1, h2⟩, h3⟩, h4⟩ := h
    refine ⟨z, rfl, h1, ?_, fun s hs => ?_⟩
    · split at h2
      · rename_i n hn
        simp at h2
        rw [hn, h2]
      · cases h2
    · have := h4 s hs
      split at this
      · rename_i e; exact e
      · cases this
section
variable {H : Hp} {iw : Nat} {row : List AV} {now : Nat} {st : Int} {g : Nat} {kv : List (Int × Nat)} {Ls : Nat → List Te} {ts : List Tm} (E : Env) (Q : AV → Hp → Prop)
theorem now_pc (h : Whl H iw row now st g kv Ls) (hQ : Q (.int .i64 now) H) : PC Try.prog E 21 [.ptr (some (iw, 0))] H Q := by
  have hw := h.lnk.w
  have r0 := h.r0
  refine pc_enter Try.func21 rfl [] [] (by kernel_rfl) (fun hB => ?_)
  simp [Try.ntmps21, Try.results21, List.replicate_succ, hw, r0]
  exact aPost_same0 hB rfl (nilV_refl _) (by simp) hQ
theorem new_pc (now : Int) (hQ0 : (now < 0 ∨ 281474976710656 < now) → Q (.tup [.ptr none, .int .i64 250]) H)
    (hQ : ∀ (n : Nat) (row : List AV) (g : Nat), now = n → n ≤ 281474976710656 → Whl (H ++ [row]) H.length row n 0 g [] (fun _ => []) → Q (.tup [.ptr (some (H.length, 0)), .int .i64 0]) (H ++ [row])) : PC Try.prog E 10 [.int .i64 now] H Q := by
  refine pc_enterMkm [_, _] (p4 := [_]) (k := 3) Try.func10 rfl [] [] (by kernel_rfl) rfl ⟨rfl, rfl, rfl⟩ (fun hB => ?_)
  by_cases h1 : now < 0
  · have hq := hQ0 (.inl h1)
    simp [vcPre, ndOf, Try.ntmps10, Try.results10, List.replicate_succ, h1]
    exact aPost_same0 hB (v0 := .tup [.ptr none, .int .i64 250]) (by simp) (nilV_refl _) (by simp) hq
  by_cases h2 : 281474976710656 < now
  · have hq := hQ0 (.inr h2)
    simp [vcPre, ndOf, Try.ntmps10, Try.results10, List.replicate_succ, h1, h2]
    exact aPost_same0 hB (v0 := .tup [.ptr none, .int .i64 250]) (by simp) (nilV_refl _) (by simp) hq
  obtain ⟨n, rfl⟩ : ∃ n : Nat, now = n := ⟨now.toNat, by omega⟩
  obtain ⟨z, hz, hzl, hz1, hz2⟩ := zrow
  simp [vcPre, ndOf, Try.ntmps10, Try.results10, List.replicate_succ, h1, h2, hz, hzl, AV.dis, AV.free]
  intro g
  obtain ⟨L, hL⟩ : ∃ L, AV.int .i64 n :: (List.take 577 z.tail ++ .mh 0 0 g :: List.drop 579 z) = L := ⟨_, rfl⟩
  rw [hL]
  have htl : (List.take 577 z.tail).length = 577 := by simp [hzl]
  have hd0 : List.drop 579 z = [] := List.drop_eq_nil_of_le (by omega)
  rw [hd0] at hL
  have hLl : L.length = 579 := by rw [← hL]; simp [htl]
  have hL8 : L[578]? = some (.mh 0 0 g) := by
    rw [← hL, List.getElem?_cons_succ, List.getElem?_append_right (by omega), htl]; rfl
  have hL0 : L[0]? = some (.int .i64 n) := by rw [← hL]; rfl
  have hLs : ∀ j, j < 577 → L[j + 1]? = z[j + 1]? := fun j hj => by
    rw [← hL, List.getElem?_cons_succ, List.getElem?_append_left (by omega), List.getElem?_take, if_pos hj, List.getElem?_tail]
  have hH : (H ++ [L]).set H.length (L.set 578 (.ob (mapOb Try.prog 3 g []))) = H ++ [L.set 578 (.ob (mapOb Try.prog 3 g []))] := by
    rw [List.set_append_right _ _ (Nat.le_refl _), Nat.sub_self]; rfl
  refine ⟨H.length, 578, 0, 0, L, by simp, hL8, ?_⟩
  rw [hH]
  have hbL : ∀ x ∈ L.set 578 (.ob (mapOb Try.prog 3 g [])), Bnd (H.length + 1) x := by
    intro x hx
    obtain ⟨j, hj⟩ := List.getElem?_of_mem hx
    by_cases h8 : j = 578
    · subst h8
      rw [List.getElem?_set_self (by omega)] at hj
      cases hj
      exact bnd_ob.2 (Nat.zero_le _)
    · rw [List.getElem?_set_ne (Ne.symm h8)] at hj
      have hjl := at_ltA hj
      match j, hj, h8 with
      | 0, hj, _ => rw [hL0] at hj; cases hj; exact .int _ _
      | 1, hj, _ => rw [hLs 0 (by omega), hz1] at hj; cases hj; exact .int _ _
      | j + 2, hj, h8 =>
        rw [hLs (j + 1) (by omega), show j + 1 + 1 = 2 + j by omega, hz2 j (by omega)] at hj
        cases hj
        exact .ptr0
  have hW : Whl (H ++ [L.set 578 (.ob (mapOb Try.prog 3 g []))]) H.length (L.set 578 (.ob (mapOb Try.prog 3 g []))) n 0 g [] (fun _ => []) := by
    refine ⟨⟨by simp, by simpa using hLl, fun s hs => ?_, fun s pre x suf hs he => by simp at he, fun s hs => List.Pairwise.nil⟩, ?_, ?_, List.getElem?_set_self (by omega), List.Pairwise.nil, List.Pairwise.nil, ?_, nofun, nofun, by omega, by simp⟩
    · rw [List.getElem?_set_ne (by omega), show 2 + s = (s + 1) + 1 by omega, hLs (s + 1) (by omega), show s + 1 + 1 = 2 + s by omega, hz2 s hs]
      rfl
    · rw [List.getElem?_set_ne (by omega)]; exact hL0
    · rw [List.getElem?_set_ne (by omega), hLs 0 (by omega)]; exact hz1
    · intro m i
      simp
  have hq := hQ n _ g rfl (by omega) hW
  refine aPost_upX (v := .tup [.ptr (some (H.length, 0)), .int .i64 0]) (by simp) (by simp) (fun l hl => ?_) (by simp) hq
  rw [List.length_append]
  rcases List.mem_append.1 hl with h3 | h3
  · exact fun x hx => (hB l h3 x hx).mono (by simp)
  · simp at h3; subst h3; exact hbL
/-! ### A nil wheel. -/
theorem now0_pc (hQ : Q (.int .i64 0) H) : PC Try.prog E 21 [.ptr none] H Q := by
  refine pc_enter Try.func21 rfl [] [] (by kernel_rfl) (fun hB => ?_)
  simp [Try.ntmps21, Try.results21, List.replicate_succ]
  exact aPost_same0 hB rfl (nilV_refl _) (by simp) hQ
theorem len0_pc (hQ : Q (.int .i64 0) H) : PC Try.prog E 14 [.ptr none] H Q := by
  refine pc_enter Try.func14 rfl [] [] (by kernel_rfl) (fun hB => ?_)
  simp [Try.ntmps14, Try.results14, List.replicate_succ]
  exact aPost_same0 hB rfl (nilV_refl _) (by simp) hQ
theorem steps0_pc (hQ : Q (.int .i64 0) H) : PC Try.prog E 19 [.ptr none] H Q := by
  refine pc_enter Try.func19 rfl [] [] (by kernel_rfl) (fun hB => ?_)
  simp [Try.ntmps19, Try.results19, List.replicate_succ]
  exact aPost_same0 hB rfl (nilV_refl _) (by simp) hQ
theorem set0_pc (n t : Int) (hQ : Q (.int .i64 251) H) : PC Try.prog E 12 [.ptr none, .int .i64 n, .int .i64 t] H Q := by
  refine pc_enter Try.func12 rfl [] [] (by kernel_rfl) (fun hB => ?_)
  simp [Try.ntmps12, Try.results12, List.replicate_succ]
  exact aPost_same0 hB rfl (nilV_refl _) (by simp) hQ
theorem stop0_pc (n : Int) (hQ : Q (.bool false) H) : PC Try.prog E 24 [.ptr none, .int .i64 n] H Q := by
  refine pc_enter Try.func24 rfl [] [] (by kernel_rfl) (fun hB => ?_)
  simp [Try.ntmps24, Try.results24, List.replicate_succ]
  exact aPost_same0 hB rfl (nilV_refl _) (by simp) hQ
theorem due0_pc (n : Int) (hQ : Q (.tup [.int .i64 0, .bool false]) H) : PC Try.prog E 22 [.ptr none, .int .i64 n] H Q := by
  refine pc_enter Try.func22 rfl [] [] (by kernel_rfl) (fun hB => ?_)
  simp [Try.ntmps22, Try.results22, List.replicate_succ]
  exact aPost_same0 hB (v0 := .tup [.int .i64 0, .bool false]) (by simp) (nilV_refl _) (by simp) hQ
theorem next0_pc (hQ : Q (.tup [.int .i64 0, .bool false]) H) : PC Try.prog E 23 [.ptr none] H Q := by
  refine pc_enter Try.func23 rfl [] [] (by kernel_rfl) (fun hB => ?_)
  simp [Try.ntmps23, Try.results23, List.replicate_succ]
  exact aPost_same0 hB (v0 := .tup [.int .i64 0, .bool false]) (by simp) (nilV_refl _) (by simp) hQ
theorem adv0_pc (n : Int) (hQ : Q (.tup [.nil, .int .i64 250]) H) : PC Try.prog E 13 [.ptr none, .int .i64 n] H Q := by
  refine pc_enter Try.func13 rfl [] [] (by kernel_rfl) (fun hB => ?_)
  simp [Try.ntmps13, Try.results13, List.replicate_succ]
  exact aPost_same0 hB (v0 := .tup [.nil, .int .i64 250]) (by simp) (nilV_refl _) (by simp) hQ
end
end Go.Proofs.Ytijnohcaeedffaa

set_option linter.unusedVariables false
set_option linter.unnecessarySimpa false
set_option linter.unusedSimpArgs false
set_option linter.unusedSectionVars false
set_option maxRecDepth 100000
namespace Go.Proofs.Ytijnohcaeedffaa
open Go Go.RowKit

/-- A wheel in the boxes M: its own in box iw, its tick, the places looked at, its timers. -/
def Wh (M : Nat → Prop) (H : Hp) (iw now : Nat) (st : Int) (ts : List Tm) : Prop :=
  ∃ row g kv Ls, Whl H iw row now st g kv Ls ∧ Vw Ls ts ∧ (∀ j, Mine iw Ls j → M j) ∧ ∀ j, M j → j < H.length
/-- What a call on it leaves: boxes M' instead of M, all others as they were. -/
structure Lft (M M' : Nat → Prop) (H H' : Hp) : Prop where
  le : H.length ≤ H'.length
  sub : ∀ j, M' j → M j ∨ H.length ≤ j
  keep : ∀ j, j < H.length → ¬ M j → H'[j]? = H[j]?
theorem Lft.refl (M : Nat → Prop) (H : Hp) : Lft M M H H := ⟨Nat.le_refl _, fun _ h => .inl h, fun _ _ _ => rfl⟩
theorem Lft.trans {M M1 M2 : Nat → Prop} {H H1 H2 : Hp} (h : Lft M M1 H H1) (k : Lft M1 M2 H1 H2) : Lft M M2 H H2 :=
  ⟨Nat.le_trans h.le k.le, fun j hj => by
    rcases k.sub j hj with h1 | h1
    · exact h.sub j h1
    · exact .inr (Nat.le_trans h.le h1), fun j hj hM => (k.keep j (Nat.lt_of_lt_of_le hj h.le) fun h1 => by
      rcases h.sub j h1 with h2 | h2
      · exact hM h2
      · omega).trans (h.keep j hj hM)⟩
theorem Lft.new (H : Hp) (row : List AV) : Lft (fun _ => False) (fun j => j = H.length) H (H ++ [row]) :=
  ⟨by simp, fun j hj => .inr (by omega), fun j hj _ => List.getElem?_append_left hj⟩
/-- The boxes H0 are as they were, M are others. -/
structure Ups (H0 H : Hp) (M : Nat → Prop) : Prop where
  le : H0.length ≤ H.length
  keep : ∀ j, j < H0.length → H[j]? = H0[j]?
  abv : ∀ j, M j → H0.length ≤ j
theorem Ups.refl (H : Hp) : Ups H H (fun _ => False) := ⟨Nat.le_refl _, fun _ _ => rfl, nofun⟩
theorem Ups.go {H0 H H' : Hp} {M M' : Nat → Prop} (h : Ups H0 H M) (k : Lft M M' H H') : Ups H0 H' M' :=
  ⟨Nat.le_trans h.le k.le, fun j hj => (k.keep j (Nat.lt_of_lt_of_le hj h.le) fun hm => by have := h.abv j hm; omega).trans (h.keep j hj), fun j hj => by
    rcases k.sub j hj with h1 | h1
    · exact h.abv j h1
    · exact Nat.le_trans h.le h1⟩
theorem Ups.drop {H0 H : Hp} {M : Nat → Prop} (h : Ups H0 H M) : Ups H0 H (fun _ => False) := ⟨h.le, h.keep, nofun⟩
def errSet (n t : Int) : Int := if n < 0 then 251 else if 281474976710656 < t then 250 else 0
def setM (now : Nat) (ts : List Tm) (n t : Int) : List Tm := if n < 0 ∨ 281474976710656 < t then ts else offN ts n ++ [⟨n, setT now t⟩]
def badT (now : Nat) (tick : Int) : Bool := decide (tick < now) || decide (281474976710656 < tick)
section
variable {M : Nat → Prop} {H H' : Hp} {iw now : Nat} {row : List AV} {g : Nat} {kv : List (Int × Nat)} {Ls : Nat → List Te} {st : Int} {ts : List Tm}
theorem Whl.keep (h : Whl H iw row now st g kv Ls) (hk : ∀ j, Mine iw Ls j → H'[j]? = H[j]?) : Whl H' iw row now st g kv Ls :=
  ⟨⟨(hk iw (.inl rfl)).trans h.lnk.w, h.lnk.l, h.lnk.heads, fun s pre x suf hs he => (hk x.i (.inr ⟨s, hs, x, by rw [he]; simp, rfl⟩)).trans (h.lnk.links s pre x suf hs he), h.lnk.nd⟩, h.r0, h.r1, h.rm, h.ok, h.inj, h.mem, h.tick, h.num, h.nowle, h.few⟩
theorem Wh.keep (h : Wh M H iw now st ts) (hl : H.length ≤ H'.length) (hk : ∀ j, M j → H'[j]? = H[j]?) : Wh M H' iw now st ts := by
  obtain ⟨row, g, kv, Ls, h1, h2, h3, h4⟩ := h
  exact ⟨row, g, kv, Ls, h1.keep fun j hj => hk j (h3 j hj), h2, h3, fun j hj => Nat.lt_of_lt_of_le (h4 j hj) hl⟩
theorem Wh.nd (h : Wh M H iw now st ts) : ts.Pairwise fun x y => x.n ≠ y.n := by
  obtain ⟨row, g, kv, Ls, h1, h2, _⟩ := h
  exact h2.nd
theorem Wh.few (h : Wh M H iw now st ts) : ts.length ≤ 1000000000 := by
  obtain ⟨row, g, kv, Ls, h1, h2, _⟩ := h
  rw [← h1.len h2]; exact h1.few
theorem Wh.nowle (h : Wh M H iw now st ts) : now ≤ 281474976710656 := by
  obtain ⟨row, g, kv, Ls, h1, h2, _⟩ := h
  exact h1.nowle
theorem Wh.own (h : Wh M H iw now st ts) : M iw := by
  obtain ⟨row, g, kv, Ls, h1, h2, h3, _⟩ := h
  exact h3 _ (.inl rfl)
theorem Wh.lt (h : Wh M H iw now st ts) : ∀ j, M j → j < H.length := by
  obtain ⟨row, g, kv, Ls, h1, h2, h3, h4⟩ := h
  exact h4
theorem Wh.ok (h : Wh M H iw now st ts) : ∀ y ∈ ts, okKey y.n ∧ okKey y.t ∧ now ≤ y.t ∧ y.t ≤ 281474976710656 ∧ ((now : Int) = y.t → now = 281474976710656) := by
  obtain ⟨row, g, kv, Ls, h1, h2, h3, h4⟩ := h
  intro y hy
  obtain ⟨s, hs, x, hx, rfl⟩ := (h2.mem y).1 hy
  have h5 := h1.num _ ((h1.mem x.n x.i).2 ⟨s, hs, x, hx, rfl, rfl⟩)
  obtain ⟨t, ht, a1, a2, a3, _⟩ := h1.tick s hs x hx
  refine ⟨h5, ?_, ?_, ?_, fun e => ?_⟩
  · unfold okKey; simp only; omega
  · simp only; omega
  · simp only; omega
  · simp only at e; exact a3 (by omega)
variable (E : Env) (Q : AV → Hp → Prop)
theorem wlen_pc (h : Wh M H iw now st ts) (hQ : Q (.int .i64 ts.length) H) : PC Try.prog E 14 [.ptr (some (iw, 0))] H Q := by
  obtain ⟨row, g, kv, Ls, h1, h2, _⟩ := h
  exact len_pc E Q h1 (by rw [h1.len h2]; exact hQ)
theorem wnow_pc (h : Wh M H iw now st ts) (hQ : Q (.int .i64 now) H) : PC Try.prog E 21 [.ptr (some (iw, 0))] H Q := by
  obtain ⟨row, g, kv, Ls, h1, h2, _⟩ := h
  exact now_pc E Q h1 hQ
theorem wstop_pc (h : Wh M H iw now st ts) (n : Int) (hn : okKey n) (hQ : ∀ H', Wh M H' iw now st (offN ts n) → Lft M M H H' → H'.length = H.length → Q (.bool (ofN ts n).isSome) H') : PC Try.prog E 24 [.ptr (some (iw, 0)), .int .i64 n] H Q := by
  obtain ⟨row, g, kv, Ls, h1, h2, h3, h4⟩ := h
  refine stop_vw E Q h1 h2 n hn (fun H' row' Ls' hW hV hsub hl hf => hQ H' ⟨row', g, _, Ls', hW, hV, fun j hj => h3 j ?_, fun j hj => by rw [hl]; exact h4 j hj⟩ ⟨by omega, fun _ h => .inl h, fun j _ hj => hf j fun hm => hj (h3 j hm)⟩ hl)
  rcases hj with rfl | ⟨s, hs, y, hy, e⟩
  · exact .inl rfl
  · exact .inr ⟨s, hs, y, hsub s y hy, e⟩
theorem wset_pc (h : Wh M H iw now st ts) (n t : Int) (hn : okKey n) (ht : okKey t) (few : ts.length < 1000000000)
    (hQ : ∀ H' M', Wh M' H' iw now st (setM now ts n t) → Lft M M' H H' → Q (.int .i64 (errSet n t)) H') : PC Try.prog E 12 [.ptr (some (iw, 0)), .int .i64 n, .int .i64 t] H Q := by
  obtain ⟨row, g, kv, Ls, h1, h2, h3, h4⟩ := h
  refine set_pc E Q h1 h2 n t hn ht (by rw [h1.len h2]; exact few) (fun a => ?_) (fun a b => ?_) (fun H' row' Ls' a b hW hV hl hsub hf => ?_)
  · have e1 : setM now ts n t = ts := if_pos (.inl a)
    have e2 : errSet n t = 251 := if_pos a
    rw [e1, e2] at hQ
    exact hQ H M ⟨row, g, kv, Ls, h1, h2, h3, h4⟩ (Lft.refl M H)
  · have e1 : setM now ts n t = ts := if_pos (.inr b)
    have e2 : errSet n t = 250 := by unfold errSet; rw [if_neg (by omega), if_pos b]
    rw [e1, e2] at hQ
    exact hQ H M ⟨row, g, kv, Ls, h1, h2, h3, h4⟩ (Lft.refl M H)
  · have e1 : setM now ts n t = offN ts n ++ [⟨n, setT now t⟩] := if_neg (by omega)
    have e2 : errSet n t = 0 := by unfold errSet; rw [if_neg (by omega), if_neg (by omega)]
    rw [e1, e2] at hQ
    refine hQ H' (fun j => M j ∨ j = H.length) ⟨row', g, _, Ls', hW, hV, fun j hj => ?_, fun j hj => ?_⟩ ⟨by omega, fun j hj => ?_, fun j hj hM => hf j hj fun hm => hM (h3 j hm)⟩
    · rcases hsub j hj with h5 | h5
      · exact .inl (h3 j h5)
      · exact .inr h5
    · rcases hj with hj | hj
      · have := h4 j hj; omega
      · omega
    · rcases hj with hj | hj
      · exact .inl hj
      · exact .inr (by omega)
theorem wadv_pc (h : Wh M H iw now st ts) (hst : 0 ≤ st ∧ st + 576 * (ts.length + 1) ≤ 4611686018427387904) (tick : Int)
    (hQ0 : badT now tick = true → Q (.tup [.sl false 2 [], .int .i64 250]) H)
    (hQ : ∀ (H' : Hp) (st' : Int) (tk : Nat), tick = tk → badT now tick = false → now ≤ tk → tk ≤ 281474976710656 → Wh M H' iw tk st' (leftT tick ts) → Lft M M H H' → H'.length = H.length →
      st ≤ st' → st' ≤ st + 576 * ((dueT tick ts).length + 1) → (dueT tick ts ≠ [] → st < st') → Q (.tup [.sl false 2 (rowsT (dueT tick ts)), .int .i64 0]) H') : PC Try.prog E 13 [.ptr (some (iw, 0)), .int .i64 tick] H Q := by
  obtain ⟨row, g, kv, Ls, h1, h2, h3, h4⟩ := h
  refine advance_pc E Q h1 h2 hst tick (fun a => hQ0 (by unfold badT; rcases a with a | a <;> simp [a])) (fun H' row' kv' Ls' st' tk e a b hW hV hl hsub hf c1 c2 c3 => hQ H' st' tk e ?_ a b ⟨row', g, kv', Ls', hW, hV, fun j hj => h3 j (hsub j hj), fun j hj => by rw [hl]; exact h4 j hj⟩ ⟨by omega, fun _ h => .inl h, fun j _ hj => hf j fun hm => hj (h3 j hm)⟩ hl c1 c2 c3)
  unfold badT
  rw [decide_eq_false (by omega), decide_eq_false (by omega)]; rfl
theorem wnew_pc (now : Int) (hQ0 : badT 0 now = true → Q (.tup [.ptr none, .int .i64 250]) H)
    (hQ : ∀ (n : Nat) (row : List AV), now = n → n ≤ 281474976710656 → badT 0 now = false → Wh (fun j => j = H.length) (H ++ [row]) H.length n 0 [] → Q (.tup [.ptr (some (H.length, 0)), .int .i64 0]) (H ++ [row])) : PC Try.prog E 10 [.int .i64 now] H Q := by
  refine new_pc E Q now (fun a => hQ0 (by unfold badT; rcases a with a | a <;> simp [a])) (fun n row g e a hW => hQ n row e a ?_ ⟨row, g, [], fun _ => [], hW, ⟨List.Pairwise.nil, fun y => by simp⟩, fun j hj => ?_, fun j hj => by subst hj; simp⟩)
  · unfold badT
    rw [decide_eq_false (by omega), decide_eq_false (by omega)]; rfl
  · rcases hj with rfl | ⟨s, hs, y, hy, _⟩
    · rfl
    · cases hy
end
end Go.Proofs.Ytijnohcaeedffaa

set_option linter.unusedVariables false
set_option linter.unnecessarySimpa false
set_option linter.unusedSimpArgs false
set_option linter.unusedSectionVars false
set_option maxRecDepth 100000
namespace Go.Proofs.Ytijnohcaeedffaa
open Go Go.RowKit

section
variable {H : Hp} (E : Env) (Q : AV → Hp → Prop)
theorem awake_pc (hQ : Q (.bool true) H) : PC Try.prog E 11 [] H Q := by
  refine pc_enter Try.func11 rfl [] [] (by kernel_rfl) (fun hB => ?_)
  simp [Try.ntmps11, Try.results11, List.replicate_succ]
  refine PC.bnd (wnew_pc E _ 0 (fun h => by cases h) (fun n row e _ _ hW hB1 _ => ?_))
  obtain rfl : n = 0 := by omega
  simp [Kcall, KP]
  refine PC.bnd (wset_pc E _ hW 5 20 (by decide) (by decide) (by simp) (fun H2 M2 hW2 hL2 hB2 _ => ?_))
  simp [Kcall, KP, errSet]
  refine PC.bnd (wstop_pc E _ hW2 5 (by decide) (fun H3 hW3 hL3 hl3 hB3 _ => ?_))
  have e3 : (ofN (setM 0 [] 5 20) 5).isSome = true := by decide
  have e4 : offN (setM 0 [] 5 20) 5 = [] := by decide
  rw [e4] at hW3
  rw [e3]
  simp [Kcall, KP]
  refine PC.bnd (wlen_pc E _ hW3 (fun hB4 _ => ?_))
  simp [Kcall, KP]
  refine PC.bnd (wnew_pc E _ 10 (fun h => by cases h) (fun n row2 e _ _ hW5 hB5 _ => ?_))
  obtain rfl : n = 10 := by omega
  simp [Kcall, KP]
  refine PC.bnd (wset_pc E _ hW5 1 12 (by decide) (by decide) (by simp) (fun H6 M6 hW6 hL6 hB6 _ => ?_))
  simp [Kcall, KP, errSet]
  refine PC.bnd (wadv_pc E _ hW6 (by decide) 12 (fun h => by cases h) (fun H7 st' tk e _ _ _ hW7 hL7 hl7 _ _ _ hB7 _ => ?_))
  obtain rfl : tk = 12 := by omega
  have e5 : dueT 12 (setM 10 [] 1 12) = [⟨1, 12⟩] := by decide
  rw [e5]
  simp [Kcall, KP, rowsT]
  have u3 := (((Ups.refl H).go (Lft.new H row)).go hL2).go hL3
  have u7 := ((u3.drop.go (Lft.new H3 row2)).go hL6).go hL7
  refine PC.bnd (wnow_pc E _ hW7 (fun hB8 _ => ?_))
  simp [Kcall, KP]
  exact aPost_lawX hB u7.le u7.keep rfl (by simp) hQ
theorem wheelNil_pc (n t : Int) (hQ : Q (.bool true) H) : PC Try.prog E 9 [.int .i64 n, .int .i64 t] H Q := by
  refine pc_enter Try.func9 rfl [] [] (by kernel_rfl) (fun hB => ?_)
  simp [Try.ntmps9, Try.results9, List.replicate_succ]
  refine PC.bnd (adv0_pc E _ t (fun _ _ => ?_))
  simp [Kcall, KP]
  refine PC.bnd (due0_pc E _ n (fun _ _ => ?_))
  simp [Kcall, KP]
  refine PC.bnd (next0_pc E _ (fun _ _ => ?_))
  simp [Kcall, KP]
  refine PC.bnd (awake_pc E _ (fun _ _ => ?_))
  simp [Kcall, KP]
  refine PC.bnd (set0_pc E _ n t (fun _ _ => ?_))
  simp [Kcall, KP]
  refine PC.bnd (stop0_pc E _ n (fun _ _ => ?_))
  simp [Kcall, KP]
  refine PC.bnd (now0_pc E _ (fun _ _ => ?_))
  simp [Kcall, KP]
  refine PC.bnd (len0_pc E _ (fun _ _ => ?_))
  simp [Kcall, KP]
  refine PC.bnd (steps0_pc E _ (fun _ _ => ?_))
  simp [Kcall, KP]
  exact aPost_same0 hB rfl (nilV_refl _) (by simp) hQ
end
end Go.Proofs.Ytijnohcaeedffaa

set_option linter.unusedVariables false
set_option linter.unusedSimpArgs false
namespace Go.Proofs.Ytijnohcaeedffaa
open Go Go.RowKit

theorem wheelNil_true (W : World) (x0 x1 : Int) : Calls Try.prog 9 #[.int .i64 x0, .int .i64 x1] W fun e w' => e = .returned (.bool true) ∧ Frm (fun _ => False) W w' := by
  refine calls_of_pc (args := [.int .i64 x0, .int .i64 x1]) (old W) (fun _ _ h => h) rfl (fun t x u hx hu => ?_) (fun E Q h => wheelNil_pc E Q x0 x1 h)
  match t with
  | 0 => simp at hx hu; subst hx; subst hu; exact ⟨.int _ _, .int _ _, rfl⟩
  | 1 => simp at hx hu; subst hx; subst hu; exact ⟨.int _ _, .int _ _, rfl⟩
  | t + 2 => simp at hx
end Go.Proofs.Ytijnohcaeedffaa

set_option linter.unusedVariables false
set_option linter.unusedSimpArgs false
namespace Go.Proofs.Ytijnohcaeedffaa
open Go Go.ChangeShapes Go.WideShapes Go.ChangeAt Go.RowKit Go.Deep

theorem Try.own : ownKnob Try.prog.godebug = none := by kernel_rfl
theorem Try.laidOut : laidOutB Try.prog = true := by kernel_rfl

section
variable {H : Type} {enc : TypeId × Value → H}

/-- ARGUMENTS READ AGAIN where nothing old has turned. -/
theorem Frm.trodAll {P : Program} (hl : laidOutB P = true) {W W' : World} (hF : Frm (fun _ => False) W W') (sp : Nat → Bool) : ∀ {ts : List TypeId} {vs : List Value} {ds : List (DataW H)} {ps : List MemPlace}, (∀ t ∈ ts, P.readableRec t = true ∧ t < P.types.size) → DataW.TrodAll enc P W 0 (fun _ => true) true ts vs ds ps → (∀ p ∈ ps, sp p.block = true) → (∀ p ∈ ps, p.block < W.heap.size) → DataW.TrodAll enc P W' 0 sp true ts vs ds ps
  | [], [], [], _, _, h, _, _ => h
  | _ :: _, _ :: _, _ :: _, _, hT, ⟨p, q, h1, h2, e⟩, hs, hlt =>
    ⟨p, q, WideElems.Trod_stays hl (hT _ (List.mem_cons.2 (Or.inl rfl))).1 (hT _ (List.mem_cons.2 (Or.inl rfl))).2 h1
      (fun x hx => (hF.toBelow (Nat.le_refl _) (fun _ _ => id)).same (hlt x (by rw [e]; exact List.mem_append_left _ hx))) (fun x hx => hs x (by rw [e]; exact List.mem_append_left _ hx)),
      Frm.trodAll hl hF sp (fun t ht => hT t (List.mem_cons.2 (Or.inr ht))) h2 (fun x hx => hs x (by rw [e]; exact List.mem_append_right _ hx)) (fun x hx => hlt x (by rw [e]; exact List.mem_append_right _ hx)), e⟩

/-- THE POST OF A LAW: true, and nothing old has turned. -/
theorem law_post {P : Program} (hl : laidOutB P = true) {f : Func} {s : ChangeSpec} {W W' : World} {args : Array Value} {ds gs : List (DataW H)} {before : List MemPlace} {tb : TypeId} (hb : P.underlying tb = some .bool)
    (hr : f.resultTypes = #[tb]) (hs : s.vars = []) (hT : f.params.all (fun t => P.readableRec t && decide (t < P.types.size)) = true)
    (hspec : s.fn H ds = { results := [.lit (.bool true)], args := ds })
    (hW : DataW.Whole enc P f.params.toList s.vars false W args.toList ds gs before) (hF : Frm (fun _ => False) W W') :
    s.post enc P f false true false false W args (.bool true) W' := by
  have hT' : ∀ t ∈ f.params.toList, P.readableRec t = true ∧ t < P.types.size := by
    intro t ht
    have := Array.all_eq_true_iff_forall_mem.1 hT t (by simpa using ht)
    simpa using this
  have hW' := hW
  obtain ⟨p, q, hA, hV, rfl, hfz, hnd⟩ := hW
  rw [hs] at hV
  obtain ⟨rfl, rfl⟩ := trodVars_none hV
  have hB := hF.toBelow (Nat.le_refl _) (fun _ _ => id)
  simp only [List.append_nil] at hW' hfz
  have hold : ∀ x ∈ p, decide (x.block < W.heap.size) = true := fun x hx => by simpa using hW'.lt x hx
  have hargs : ∀ sp : Nat → Bool, (∀ x ∈ p, sp x.block = true) → DataW.TrodAll enc P W' 0 sp true f.params.toList args.toList ds p := fun sp h => hF.trodAll hl sp hT' hA h (fun x hx => hW'.lt x hx)
  have hres : ∀ (b : Nat) (sp : Nat → Bool) (hd : Bool), DataW.TrodAll enc P W' b sp hd f.resultTypes.toList ((Value.bool true).resultList f.resultTypes.size) [.lit (.bool true)] [] := fun b sp hd => by
    rw [hr]; exact trodAll_mk1 (shut_bool hb true)
  have e1 : (s.fn H (ds ++ [])) = { results := [.lit (.bool true)], args := ds } := by rw [List.append_nil]; exact hspec
  refine ⟨ds, [], p, [], p, [], hW', ?_, ?_, ?_, World.keptBut_mono (fun x hx => hx) (hB.frame _), fun h => by cases h⟩
  · rw [e1]; exact hres _ _ _
  · rw [e1]; exact hargs _ hold
  · rw [e1, hs]; exact rfl

end
end Go.Proofs.Ytijnohcaeedffaa

