/- Part 6 of the texts below the law: the abstract machine, the functions that it walks, what they compute. -/
import Derived.Test.YtijnohcaeedffaaWo5
import Derived.Carry
import Derived.Test.YtijnohcaeedffaaRows
import Derived.ProofKit
import Derived.OpenShut
import Derived.SizedLaws
import Derived.Deep.Slices
import Derived.Deep.Fields
import Derived.SliceStrings
import Derived.JoinedCond
set_option linter.unusedVariables false
set_option linter.unnecessarySimpa false
set_option linter.unusedSimpArgs false
set_option linter.unusedSectionVars false
set_option maxRecDepth 100000
namespace Go.Proofs.Ytijnohcaeedffaa
open Go Go.RowKit

def leT (a b : Te) : Prop := a.t < b.t ∨ (a.t = b.t ∧ a.n ≤ b.n)
theorem lstT_least {l : List Te} {b : Te} (h : lstT l = some b) : ∀ y ∈ l, leT b y := by
  have key : ∀ (l : List Te) (a : Option Te) (b : Te), l.foldl lstp a = some b → (∀ c, a = some c → leT b c) ∧ ∀ y ∈ l, leT b y := by
    intro l
    induction l with
    | nil =>
      intro a b h
      simp at h
      subst h
      exact ⟨fun c hc => by cases hc; exact .inr ⟨rfl, Int.le_refl _⟩, fun y hy => by cases hy⟩
    | cons x l ih =>
      intro a b h
      obtain ⟨h1, h2⟩ := ih _ _ h
      have tr : ∀ {c d : Te}, leT b c → leT c d → leT b d := fun {c d} a1 a2 => by unfold leT at *; omega
      cases a with
      | none =>
        refine ⟨nofun, fun y hy => ?_⟩
        rcases List.mem_cons.1 hy with rfl | hy
        · exact h1 _ rfl
        · exact h2 y hy
      | some c =>
        by_cases hx : x.t < c.t ∨ (x.t = c.t ∧ x.n < c.n)
        · have e : lstp (some c) x = some x := by simp [lstp, hx]
          have hbx := h1 _ e
          refine ⟨fun d hd => by cases hd; exact tr hbx (by unfold leT; omega), fun y hy => ?_⟩
          rcases List.mem_cons.1 hy with rfl | hy
          · exact hbx
          · exact h2 y hy
        · have e : lstp (some c) x = some c := by simp [lstp, hx]
          have hbc := h1 _ e
          refine ⟨fun d hd => by cases hd; exact hbc, fun y hy => ?_⟩
          rcases List.mem_cons.1 hy with rfl | hy
          · exact tr hbc (by unfold leT; omega)
          · exact h2 y hy
  exact (key l none b h).2
theorem plc_inj {now q q' : Nat} (hq : q < 576) (hq' : q' < 576) (h : plc now q = plc now q') : q = q' := by
  unfold plc at h
  have h1 := Nat.mod_lt (now / 64 ^ (q / 64) + q % 64) (show 64 > 0 by decide)
  have h2 := Nat.mod_lt (now / 64 ^ (q' / 64) + q' % 64) (show 64 > 0 by decide)
  have h3 : q / 64 = q' / 64 := by omega
  rw [h3] at h
  omega
theorem plc_of {now t k : Nat} (h : Lev t now k) (hk : k ≤ 8) (hge : now ≤ t) : plc now (k * 64 + offT t now k) = k * 64 + (t / 64 ^ k) % 64 ∧ k * 64 + offT t now k < 576 ∧ (k * 64 + offT t now k) / 64 = k ∧ (k * 64 + offT t now k) % 64 = offT t now k := by
  obtain ⟨h1, h2, h3⟩ := h.off hge
  have e1 : (k * 64 + offT t now k) / 64 = k := by omega
  have e2 : (k * 64 + offT t now k) % 64 = offT t now k := by omega
  refine ⟨?_, by omega, e1, e2⟩
  unfold plc
  rw [e1, e2, h3]
theorem plc_lt (now q : Nat) (hq : q < 576) : plc now q < 576 := by
  unfold plc
  have h1 := Nat.mod_lt (now / 64 ^ (q / 64) + q % 64) (show 64 > 0 by decide)
  omega
section
variable {H : Hp} {iw : Nat} {row : List AV} {now : Nat} {st : Int} {g : Nat} {kv : List (Int × Nat)} {Ls : Nat → List Te} {ts : List Tm}
/-- The number of a timer's place, as it is looked at. -/
theorem Whl.num_of (h : Whl H iw row now st g kv Ls) {s : Nat} (hs : s < 576) {x : Te} (hx : x ∈ Ls s) : ∃ t k : Nat, x.t = (t : Int) ∧ now ≤ t ∧ Lev t now k ∧ k * 64 + offT t now k < 576 ∧ plc now (k * 64 + offT t now k) = s := by
  obtain ⟨t, ht, h1, h2, h3, k, hlev, hk, hse⟩ := h.tick s hs x hx
  obtain ⟨a1, a2, _⟩ := plc_of hlev hk h1
  exact ⟨t, k, ht, h1, hlev, a2, a1.trans hse.symm⟩
theorem Whl.first (h : Whl H iw row now st g kv Ls) (hv : Vw Ls ts) {q : Nat} {x : Te} (hq : q < 576) (hno : ∀ q', q' < q → Ls (plc now q') = []) (hx : lstT (Ls (plc now q)) = some x) : firstT ts = some ⟨x.n, x.t⟩ := by
  have hxm := lstT_mem hx
  have hps := plc_lt now q hq
  refine firstT_of ((hv.mem _).2 ⟨_, hps, x, hxm, rfl⟩) fun y hy => ?_
  obtain ⟨s, hs, z, hz, rfl⟩ := (hv.mem y).1 hy
  obtain ⟨t, k, ht, ht1, hlev, hlt, hp⟩ := h.num_of hs hz
  obtain ⟨t', k', ht', ht1', hlev', hlt', hp'⟩ := h.num_of hps hxm
  have e' := plc_inj hlt' hq hp'
  have hge : q ≤ k * 64 + offT t now k := Nat.le_of_not_lt fun hl => by
    have := hno _ hl
    rw [hp] at this
    rw [this] at hz
    cases hz
  rcases Nat.lt_or_ge q (k * 64 + offT t now k) with hl | hl
  · refine .inr (.inl ?_)
    have o1 := (hlev.off ht1).1
    have o2 := (hlev'.off ht1').1
    have := lev_lt hlev' hlev ht1' ht1 (by omega)
    show x.t < z.t
    omega
  · have eq : k * 64 + offT t now k = q := by omega
    rw [eq] at hp
    subst hp
    have := lstT_least hx z hz
    unfold leT at this
    unfold tlt
    simp only
    by_cases e1 : x.t = z.t
    · by_cases e2 : x.n = z.n
      · exact .inl (by rw [e1, e2])
      · exact .inr (.inr ⟨e1, by omega⟩)
    · exact .inr (.inl (by omega))
theorem Whl.empty (h : Whl H iw row now st g kv Ls) (hv : Vw Ls ts) (hno : ∀ q, q < 576 → Ls (plc now q) = []) : ts = [] := by
  cases ts with
  | nil => rfl
  | cons y l =>
    obtain ⟨s, hs, z, hz, rfl⟩ := (hv.mem y).1 (List.mem_cons_self ..)
    obtain ⟨t, k, ht, ht1, hlev, hlt, hp⟩ := h.num_of hs hz
    have := hno _ hlt
    rw [hp] at this
    rw [this] at hz
    cases hz
theorem Whl.step (h : Whl H iw row now st g kv Ls) (c : Int) : Whl (H.set iw (stRow row c)) iw (stRow row c) now c g kv Ls := by
  have hl := h.lnk.l
  unfold stRow
  exact ⟨h.lnk.cell (.inl (by omega)) _, by rw [List.getElem?_set_ne (by omega)]; exact h.r0, List.getElem?_set_self (by omega), by rw [List.getElem?_set_ne (by omega)]; exact h.rm, h.ok, h.inj, h.mem, h.tick, h.num, h.nowle, h.few⟩
theorem Lnk.chn (h : Lnk H iw row Ls) {s : Nat} (hs : s < 576) : ∀ (suf pre : List Te), Ls s = pre ++ suf → Chn H iw (headI suf) suf
  | [], _, _ => trivial
  | x :: suf, pre, he => ⟨rfl, headI suf, lastI pre, s, h.links s pre x suf hs he, h.chn hs suf (pre ++ [x]) (by simpa using he)⟩
theorem Whl.len (h : Whl H iw row now st g kv Ls) (hv : Vw Ls ts) : kv.length = ts.length := by
  have h1 : (kv.map Prod.fst).Nodup := List.pairwise_map.2 h.ok
  have h2 : (ts.map Tm.n).Nodup := List.pairwise_map.2 hv.nd
  have h3 : (kv.map Prod.fst).Perm (ts.map Tm.n) := (List.perm_ext_iff_of_nodup h1 h2).2 fun n => by
    rw [List.mem_map, List.mem_map]
    constructor
    · rintro ⟨p, hp, rfl⟩
      obtain ⟨s, hs, x, hx, e1, e2⟩ := (h.mem p.1 p.2).1 hp
      exact ⟨⟨x.n, x.t⟩, (hv.mem _).2 ⟨s, hs, x, hx, rfl⟩, e1⟩
    · rintro ⟨y, hy, rfl⟩
      obtain ⟨s, hs, x, hx, rfl⟩ := (hv.mem y).1 hy
      exact ⟨(x.n, x.i), (h.mem x.n x.i).2 ⟨s, hs, x, hx, rfl, rfl⟩, rfl⟩
  simpa using h3.length_eq
variable (E : Env) (Q : AV → Hp → Prop)
theorem first_vw (h : Whl H iw row now st g kv Ls) (hv : Vw Ls ts) (hst : 0 ≤ st ∧ st ≤ 4611686018427387904) (hne : ts ≠ [])
    (hQ : ∀ (s : Nat) (x : Te) (c : Int), s < 576 → x ∈ Ls s → firstT ts = some ⟨x.n, x.t⟩ → st < c → c ≤ st + 576 → Q (.ptr (some (x.i, 0))) (H.set iw (stRow row c))) : PC Try.prog E 26 [.ptr (some (iw, 0))] H Q := by
  refine first_pc iw H row now st Ls E Q h.lnk.w h.lnk.l h.r0 h.r1 h.nowle hst (fun s => headI (Ls s)) h.lnk.heads (fun s hs => h.lnk.chn hs (Ls s) [] rfl) h.lnk.nd (fun q x hq hno hx => ?_) (fun hno => absurd (h.empty hv hno) hne)
  exact hQ _ x _ (plc_lt now q hq) (lstT_mem hx) (h.first hv hq hno hx) (by omega) (by omega)
end
end Go.Proofs.Ytijnohcaeedffaa

set_option linter.unusedVariables false
set_option linter.unnecessarySimpa false
set_option linter.unusedSimpArgs false
set_option linter.unusedSectionVars false
set_option maxRecDepth 100000
namespace Go.Proofs.Ytijnohcaeedffaa
open Go Go.RowKit

def rowsT (l : List Tm) : List (List AV) := l.map fun y => [.int .i64 y.n, .int .i64 y.t]
theorem rowsT_len (l : List Tm) : (rowsT l).length = l.length := List.length_map ..
theorem rowsT_snoc (l : List Tm) (y : Tm) : rowsT l ++ [[.int .i64 y.n, .int .i64 y.t]] = rowsT (l ++ [y]) := by simp [rowsT]
/-- What has come so far, and what is still set. -/
structure Adv (ts ts1 out : List Tm) (lim : Int) : Prop where
  srt : srt out
  lt : ∀ a ∈ out, ∀ b ∈ ts1, tlt a b
  mem : ∀ y, y ∈ ts ↔ y ∈ out ∨ y ∈ ts1
  le : ∀ a ∈ out, a.t ≤ lim
  sub : ∃ p : Tm → Bool, ts1 = ts.filter p
  len : out.length + ts1.length = ts.length
section
variable {ts ts1 out : List Tm} {lim : Int} {m : Tm}
theorem Adv.zero (ts : List Tm) (lim : Int) : Adv ts ts [] lim := ⟨List.Pairwise.nil, nofun, fun y => ⟨.inr, fun h => h.resolve_left nofun⟩, nofun, ⟨fun _ => true, (List.filter_eq_self.2 fun _ _ => rfl).symm⟩, by simp⟩
theorem Adv.step (h : Adv ts ts1 out lim) (hnd : ts1.Pairwise fun x y => x.n ≠ y.n) (hm : firstT ts1 = some m) (hl : m.t ≤ lim) : Adv ts (offN ts1 m.n) (out ++ [m]) lim := by
  obtain ⟨h1, h2⟩ := firstT_spec hm
  have hoff : ∀ y, y ∈ offN ts1 m.n ↔ y ∈ ts1 ∧ y ≠ m := fun y => by
    unfold offN
    rw [List.mem_filter]
    constructor
    · rintro ⟨a, b⟩
      exact ⟨a, fun e => by rw [e] at b; simp at b⟩
    · rintro ⟨a, b⟩
      refine ⟨a, ?_⟩
      simp only [bne_iff_ne, ne_eq]
      exact fun e => b (nd_of hnd a h1 e)
  refine ⟨List.pairwise_append.2 ⟨h.srt, List.pairwise_singleton .., fun a ha b hb => ?_⟩, fun a ha b hb => ?_, fun y => ?_, fun a ha => ?_, ?_, ?_⟩
  · simp at hb; subst hb; exact h.lt a ha b h1
  · obtain ⟨b1, b2⟩ := (hoff b).1 hb
    rcases List.mem_append.1 ha with ha | ha
    · exact h.lt a ha b b1
    · simp at ha; subst ha; exact (h2 b b1).resolve_left b2
  · rw [h.mem, hoff, List.mem_append, List.mem_singleton]
    constructor
    · rintro (a | a)
      · exact .inl (.inl a)
      · by_cases e : y = m
        · exact .inl (.inr e)
        · exact .inr ⟨a, e⟩
    · rintro ((a | a) | a)
      · exact .inl a
      · exact .inr (a ▸ h1)
      · exact .inr a.1
  · rcases List.mem_append.1 ha with ha | ha
    · exact h.le a ha
    · simp at ha; subst ha; exact hl
  · obtain ⟨p, hp⟩ := h.sub
    exact ⟨fun y => p y && (y.n != m.n), by unfold offN; rw [hp, List.filter_filter]; congr 1; funext y; rw [Bool.and_comm]⟩
  · have : (offN ts1 m.n).length + 1 = ts1.length := by
      obtain ⟨pre, suf, hsp⟩ := List.append_of_mem h1
      have e : offN ts1 m.n = pre ++ suf := by
        rw [hsp] at hnd ⊢
        obtain ⟨n1, n2, n3⟩ := List.pairwise_append.1 hnd
        unfold offN
        rw [List.filter_append, List.filter_cons_of_neg (by simp), List.filter_eq_self.2 (fun y hy => by simpa using n3 y hy m (List.mem_cons_self ..)), List.filter_eq_self.2 (fun y hy => by simpa using Ne.symm ((List.pairwise_cons.1 n2).1 y hy))]
      rw [e, hsp]; simp; omega
    have := h.len
    rw [List.length_append]; simp; omega
theorem Adv.done (h : Adv ts ts1 out lim) (hnd : ts.Nodup) (hgt : ∀ y ∈ ts1, lim < y.t) : out = dueT lim ts ∧ ts1 = leftT lim ts := by
  refine ⟨due_eq hnd h.srt fun y => ?_, ?_⟩
  · constructor
    · exact fun hy => ⟨(h.mem y).2 (.inl hy), h.le y hy⟩
    · rintro ⟨a, b⟩
      rcases (h.mem y).1 a with c | c
      · exact c
      · have := hgt y c; omega
  · obtain ⟨p, hp⟩ := h.sub
    unfold leftT
    rw [hp]
    refine List.filter_congr fun y hy => ?_
    by_cases hpy : p y = true
    · rw [hpy]
      have := hgt y (by rw [hp]; exact List.mem_filter.2 ⟨hy, hpy⟩)
      simp [this]
    · have h1 : y ∈ out := ((h.mem y).1 hy).resolve_right fun e => hpy (by rw [hp] at e; exact (List.mem_filter.1 e).2)
      have := h.le y h1
      have e : p y = false := by simpa using hpy
      rw [e]
      simp; omega
end
def muA (n : Nat) (fr : List AV) : Nat := match aget fr 6 with
  | .sl _ _ rows => n - rows.length
  | _ => 0
def avI (iw : Nat) (H : Hp) (now tick : Nat) (st : Int) (g : Nat) (Ls : Nat → List Te) (ts : List Tm) (fr : List AV) (K : Hp) : Prop :=
  ∃ (row1 : List AV) (st1 : Int) (kv1 : List (Int × Nat)) (Ls1 : Nat → List Te) (ts1 out : List Tm), Whl K iw row1 now st1 g kv1 Ls1 ∧ Vw Ls1 ts1 ∧ Adv ts ts1 out tick ∧ st ≤ st1 ∧ st1 ≤ st + 576 * out.length ∧ (out ≠ [] → st < st1) ∧ K.length = H.length ∧ (∀ j, Mine iw Ls1 j → Mine iw Ls j) ∧ (∀ j, ¬ Mine iw Ls j → K[j]? = H[j]?) ∧ BndH H.length K ∧
  ∃ x : Nat → AV, fr = [.ptr (some (iw, 0)), .int .i64 tick, x 2, x 3, x 4, x 5, .sl true 2 (rowsT out), x 7, x 8, x 9, x 10, x 11, x 12, x 13, x 14, x 15, x 16, x 17, x 18, x 19, x 20, x 21, x 22, x 23, x 24, x 25, x 26, x 27, x 28, x 29, x 30, x 31, x 32, x 33, x 34, x 35, x 36, x 37, x 38, x 39, x 40, x 41, x 42, x 43, x 44, x 45, x 46, x 47, x 48, x 49, x 50, x 51, x 52, x 53, x 54, x 55, x 56, x 57, x 58, x 59, x 60, x 61]
section
variable {H : Hp} {iw : Nat} {row : List AV} {now : Nat} {st : Int} {g : Nat} {kv : List (Int × Nat)} {Ls : Nat → List Te} {ts : List Tm} (E : Env) (Q : AV → Hp → Prop)
theorem advance_pc (h : Whl H iw row now st g kv Ls) (hv : Vw Ls ts) (hst : 0 ≤ st ∧ st + 576 * (ts.length + 1) ≤ 4611686018427387904) (tick : Int)
    (hQ0 : (tick < now ∨ 281474976710656 < tick) → Q (.tup [.sl false 2 [], .int .i64 250]) H)
    (hQ : ∀ (H' : Hp) (row' : List AV) (kv' : List (Int × Nat)) (Ls' : Nat → List Te) (st' : Int) (tk : Nat), tick = tk → now ≤ tk → tk ≤ 281474976710656 → Whl H' iw row' tk st' g kv' Ls' → Vw Ls' (leftT tick ts) → H'.length = H.length → (∀ j, Mine iw Ls' j → Mine iw Ls j) → (∀ j, ¬ Mine iw Ls j → H'[j]? = H[j]?) →
      st ≤ st' → st' ≤ st + 576 * ((dueT tick ts).length + 1) → (dueT tick ts ≠ [] → st < st') → Q (.tup [.sl false 2 (rowsT (dueT tick ts)), .int .i64 0]) H') : PC Try.prog E 13 [.ptr (some (iw, 0)), .int .i64 tick] H Q := by
  have hw := h.lnk.w
  have rm := h.rm
  have r0 := h.r0
  have hwl := ltX hw
  have hrl := h.lnk.l
  have hnow := h.nowle
  refine pc_enter Try.func13 rfl [40] [(4, [0, 0, 0, 3, 3])] (by kernel_rfl) (fun hB => ?_)
  by_cases h1 : tick < now
  · have hq := hQ0 (.inl h1)
    simp [Try.ntmps13, Try.results13, List.replicate_succ, hw, r0, h1]
    exact aPost_same0 hB (v0 := .tup [.nil, .int .i64 250]) (by simp) (.inr ⟨_, [.sl false 2 [], .int .i64 250], rfl, rfl, ⟨.inr ⟨rfl, _, _, rfl⟩, .inl rfl, trivial⟩, by simp [AV.free]⟩) (by simp) hq
  by_cases h2 : 281474976710656 < tick
  · have hq := hQ0 (.inr h2)
    simp [Try.ntmps13, Try.results13, List.replicate_succ, hw, r0, h1, h2]
    exact aPost_same0 hB (v0 := .tup [.nil, .int .i64 250]) (by simp) (.inr ⟨_, [.sl false 2 [], .int .i64 250], rfl, rfl, ⟨.inr ⟨rfl, _, _, rfl⟩, .inl rfl, trivial⟩, by simp [AV.free]⟩) (by simp) hq
  obtain ⟨tk, rfl⟩ : ∃ tk : Nat, tick = tk := ⟨tick.toNat, by omega⟩
  have ht1 : now ≤ tk := by omega
  have ht2 : tk ≤ 281474976710656 := by omega
  simp [Try.ntmps13, Try.results13, List.replicate_succ, hw, r0, h1, h2]
  have hnd : ts.Nodup := hv.nd.imp fun hne e => hne (by rw [e])
  have hlen0 := h.len hv
  have hfew := h.few
  refine VL_nil 6 2 (by rfl) ?_
  simp
  refine VL_go (avI iw H now tk st g Ls ts) (fun fr _ => muA ts.length fr) ⟨row, st, kv, Ls, ts, [], h, hv, Adv.zero ts tk, by omega, by simp, by simp, rfl, fun _ h => h, fun _ _ => rfl, hB, fr_intro (by simp [rowsT])⟩ ?_
  rintro fr K ⟨row1, st1, kv1, Ls1, ts1, out, hW, hV, hA, hs1, hs2, hs3, hl, hmn, hfr, hBK, x, rfl⟩
  have fin : ∀ (K1 : Hp) (row2 : List AV) (c : Int) (Ls2 : Nat → List Te), st ≤ c → c ≤ st + 576 * (out.length + 1) → (out ≠ [] → st < c) → (∀ y ∈ ts1, (tk : Int) < y.t) → Whl K1 iw row2 tk c g kv1 Ls2 → Vw Ls2 ts1 → K1.length = K.length → (∀ j, Mine iw Ls2 j → Mine iw Ls1 j) → (∀ j, ¬ Mine iw Ls1 j → K1[j]? = K[j]?) → Q (.tup [.sl false 2 (rowsT out), .int .i64 0]) K1 := by
    intro K1 row2 c Ls2 a1 a2 a3 a4 a5 a6 a7 a8 a9
    obtain ⟨e1, e2⟩ := hA.done hnd a4
    rw [e1]
    rw [e1] at a2 a3
    exact hQ K1 row2 kv1 Ls2 c tk rfl ht1 ht2 a5 (by rw [← e2]; exact a6) (a7.trans hl) (fun j hj => hmn j (a8 j hj)) (fun j hj => (a9 j fun hm => hj (hmn j hm)).trans (hfr j hj)) a1 a2 a3
  have hw1 := hW.lnk.w
  have rm1 := hW.rm
  have hlen1 := hW.len hV
  cases hts : ts1 with
  | nil =>
    have hk0 : kv1 = [] := List.eq_nil_of_length_eq_zero (by rw [hlen1, hts]; rfl)
    subst hts hk0
    simp [hw1, rm1, mapOb]
    refine PC.bnd (move_pc E _ hW hV tk ht1 ht2 nofun (fun H' row' Ls' hW' hV' hl' hmn' hfr' hB' _ => ?_))
    have hq := fin H' row' st1 Ls' hs1 (by omega) hs3 nofun hW' hV' hl' hmn' hfr'
    simp [Kcall, KP]
    exact aPost_upX rfl (by omega) hB' (by simp [rowsT]) hq
  | cons y0 l0 =>
    have hne : ts1 ≠ [] := by rw [hts]; simp
    have hpos : 0 < kv1.length := by
      rw [hlen1, hts]
      simp
    clear hts
    simp [hw1, rm1, mapOb, hpos]
    have hol : out.length + ts1.length = ts.length := hA.len
    have hpos2 : 0 < ts1.length := by omega
    refine PC.bnd (first_vw E _ hW hV ⟨by omega, by omega⟩ hne (fun s y c hs hy hf hc1 hc2 hB2 _ => ?_))
    have hW2 := hW.step c
    obtain ⟨pre, suf, hsp⟩ := List.append_of_mem hy
    have hyc := hW2.lnk.links s pre y suf hs hsp
    unfold tmr at hyc
    by_cases hgt : (tk : Int) < y.t
    · simp [Kcall, KP, hyc, hgt]
      obtain ⟨f1, f2⟩ := firstT_spec hf
      refine PC.bnd (move_pc E _ hW2 hV tk ht1 ht2 (fun z hz => ?_) (fun H' row' Ls' hW' hV' hl' hmn' hfr' hB' _ => ?_))
      · rcases f2 z hz with rfl | h3
        · exact hgt
        · unfold tlt at h3; simp only at h3; omega
      have hq := fin H' row' c Ls' (by omega) (by omega) (fun ho => by have := hs3 ho; omega) (fun z hz => by
        rcases f2 z hz with rfl | h3
        · exact hgt
        · unfold tlt at h3; simp only at h3; omega) hW' hV' (by simpa using hl') hmn' (fun j hj => by
        rw [hfr' j hj]
        exact getNX (fun e => hj (.inl e.symm)) _)
      simp [Kcall, KP]
      exact aPost_upX rfl (by simp at hl'; omega) hB' (by simp [rowsT]) hq
    · have hap1 : out.length + 1 ≤ maxLen := by unfold maxLen; omega
      have hap2 : (out.length + 1) * 16 ≤ 140737488355328 := by omega
      simp [Kcall, KP, hyc, hgt, rowsT_len, hap1, hap2]
      have hkm := (hW2.mem y.n y.i).2 ⟨s, hs, y, hy, rfl, rfl⟩
      refine PC.bnd (stop_vw E _ hW2 hV y.n (hW2.num _ hkm) (fun K3 row3 Ls3 hW3 hV3 hsub hl3 hf3 hB3 _ => ?_))
      simp [Kcall, KP]
      have hA3 := hA.step hV.nd hf (by simp only; omega)
      refine Kloop_normal ⟨row3, c, kvDel kv1 y.n, Ls3, offN ts1 y.n, out ++ [⟨y.n, y.t⟩], hW3, hV3, hA3, by omega, by simp; omega, fun _ => by omega, ?_, fun j hj => ?_, fun j hj => ?_, ?_, fr_intro (by simp [rowsT])⟩ ?_
      · rw [hl3]; simpa using hl
      · refine hmn j ?_
        rcases hj with rfl | ⟨s2, hs2, z, hz, e⟩
        · exact .inl rfl
        · exact .inr ⟨s2, hs2, z, hsub s2 z hz, e⟩
      · rw [hf3 j fun hm => hj (hmn j hm), getNX (fun e => hj (.inl e.symm))]
        exact hfr j hj
      · have e : K3.length = H.length := by rw [hl3]; simpa using hl
        rw [← e]; exact hB3
      · simp [muA, rowsT_len]
        omega
end
end Go.Proofs.Ytijnohcaeedffaa

set_option linter.unusedVariables false
set_option linter.unnecessarySimpa false
set_option linter.unusedSimpArgs false
set_option maxRecDepth 100000
namespace Go.Proofs.Ytijnohcaeedffaa
open Go Go.RowKit
open Go.Maps (Keyed has)

section
variable {P : Program} {E : Env} {W : World} {F F' : Nat → Prop} {Rd0 : Nat → Nat → Prop} {w w' : World} {β β' β0 : Nat → Nat} {Rd Rd' : Nat → Nat → Prop} {Ow Ow' : Nat → Option Hold} {fr fr' : List AV} {H H' : Hp} {tmps : Array Value} {N N' n r g i p i' p' : Nat} {l : List AV} {X : Ob} {o : Obj} {a : Act} {k : TypeId}
/-- A block that nobody holds becomes a cell's own. -/
theorem S3.obNew (h0 : S3 E W F Rd0 w β Rd Ow fr H tmps) (hi : H[i]? = some l) (hp : l[p]? = some (.mh i' p' g)) (hg : Ow g = none) (hlt : g < w.heap.size) (hbox : ∀ j, j < H.length → β j ≠ g) (hrd : ∀ q, ¬ Rd g q) (hF : ¬ F g) (hE : ¬ E.Fix g) (hX : X.M w β (.map (some g))) (hX2 : X.own (.map (some g)) = some g) (hN : X.N ≤ H.length) :
    S3 E W F Rd0 w β Rd (upd Ow g (some (.cell i p))) fr (H.set i (l.set p (.ob X))) tmps := by
  have h := h0.claim hg (.cell i p) hlt hbox hF hE
  have hil := at_ltA hi
  have hpl := at_ltA hp
  have hlen : (H.set i (l.set p (.ob X))).length = H.length := List.length_set ..
  refine ⟨⟨fun j l' hj => ?_, by rw [hlen]; exact h.hr.inj, by rw [hlen]; exact h.hr.sep, h.hr.ows, h.hr.rds, fun m hm x hx => ?_, by rw [hlen]; exact h.hr.fix, fun j l' t hj h1 => ?_⟩, by rw [hlen]; exact h.ff, by rw [hlen]; exact h.fo, h.ne⟩
  · by_cases hji : j = i
    · subst hji
      rw [List.getElem?_set_self hil] at hj
      cases hj
      obtain ⟨T, cs, c1, c2, c3⟩ := h.hr.box j l hi
      refine ⟨T, cs, c1, by simpa using c2, fun q x u hx hu => ?_⟩
      by_cases hqp : q = p
      · subst hqp
        rw [List.getElem?_set_self hpl] at hx
        cases hx
        obtain ⟨r1, _, _⟩ := c3 q _ u hp hu
        cases rel_mh r1
        exact ⟨.ob X _ hX (fun g' hg' => by rw [hX2] at hg'; cases hg'; exact hrd), rfl, fun g' hg' => by
          have e : X.own (.map (some g)) = some g' := hg'
          rw [hX2] at e; cases e; exact upd_same ..⟩
      · rw [List.getElem?_set_ne (Ne.symm hqp)] at hx
        exact c3 q x u hx hu
    · rw [List.getElem?_set_ne (Ne.symm hji)] at hj
      exact h.hr.box j l' hj
  · rw [hlen]
    rcases List.mem_or_eq_of_mem_set hm with h1 | rfl
    · exact h.hr.bnd m h1 x hx
    · rcases List.mem_or_eq_of_mem_set hx with h1 | rfl
      · exact h.hr.bnd l (mem_at hi) x h1
      · exact .ob X hN
  · by_cases hji : j = i
    · subst hji
      rw [List.getElem?_set_self hil] at hj
      cases hj
      by_cases hp0 : p = 0
      · subst hp0
        rw [List.getElem?_set_self hpl] at h1
        cases h1
      · rw [List.getElem?_set_ne hp0] at h1
        exact h.hr.bld j l t hi h1
    · rw [List.getElem?_set_ne (Ne.symm hji)] at hj
      exact h.hr.bld j l' t hj h1
/-- Block g, o, beside all that is held. -/
def PSt (E : Env) (W : World) (F : Nat → Prop) (Rd0 : Nat → Nat → Prop) (β0 : Nat → Nat) (n g : Nat) (o : Obj) (fr : List AV) (H : Hp) (a : Act) (w : World) : Prop :=
  a.defers = [] ∧ n ≤ H.length ∧ ∃ β Rd Ow, S3 E W F Rd0 w β Rd Ow fr H a.tmps ∧ (∀ j, j < n → β j = β0 j) ∧ Ow g = none ∧ (∀ j, j < H.length → β j ≠ g) ∧ (∀ q, ¬ Rd g q) ∧ ¬ F g ∧ ¬ E.Fix g ∧ w.heap[g]? = some o
theorem PSt.split (h : PSt E W F Rd0 β0 n g o fr H a w) : ∃ F' Rd' β', St E w F' Rd' β' H.length fr H a w ∧ ∀ fr' H' a' w', St E w F' Rd' β' H.length fr' H' a' w' → PSt E W F Rd0 β0 n g o fr' H' a' w' := by
  obtain ⟨hd, hn, β, Rd, Ow, hS, hβ, q1, q2, q3, q4, q5, ho⟩ := h
  have hlt := (Array.getElem?_eq_some_iff.1 ho).1
  have hS' : S3 E w (fun b => F b ∨ b = g) Rd w β Rd Ow fr H a.tmps := by
    refine ⟨hS.hr, hS.ff, ⟨fun b hb => ?_, fun _ _ => rfl, fun b hb => ?_, fun b j hb hj => ?_, fun _ _ _ h => h, rfl, rfl, rfl, Nat.le_refl _, fun _ _ h => ⟨h, rfl⟩⟩, hS.ne⟩
    · rcases hb with hb | rfl
      · exact Nat.lt_of_lt_of_le (hS.fo.lt b hb) hS.fo.size
      · exact hlt
    · rcases hb with hb | rfl
      · exact hS.fo.own b hb
      · exact q1
    · rcases hb with hb | rfl
      · exact hS.fo.box b j hb hj
      · exact q2 j hj
  refine ⟨_, Rd, β, ⟨hd, Nat.le_refl _, β, Rd, Ow, hS', fun _ _ => rfl⟩, ?_⟩
  rintro fr' H' a' w' ⟨hd', hn', β', Rd', Ow', hS2, hβ'⟩
  exact ⟨hd', Nat.le_trans hn hn', β', Rd', Ow', ⟨hS2.hr, hS2.ff, hS.fo.trans hS2.fo fun b hb => .inl hb, hS2.ne⟩, fun j hj => (hβ' j (by omega)).trans (hβ j hj), hS2.fo.own g (.inr rfl), fun j hj => hS2.fo.box g j (.inr rfl) hj, fun q hq => q3 q (hS2.fo.rd g q (.inr rfl) hq), q4, q5, (hS2.fo.same g (.inr rfl)).trans ho⟩
/-- The new map is a cell's own. -/
theorem PSt.held (h : PSt E W F Rd0 β0 n g (.map #[] 0) fr H a w) (hi : H[i]? = some l) (hp : l[p]? = some (.mh i' p' g)) : St E W F Rd0 β0 n fr (H.set i (l.set p (.ob (mapOb P k g [])))) a w := by
  obtain ⟨hd, hn, β, Rd, Ow, hS, hβ, q1, q2, q3, q4, q5, ho⟩ := h
  have hlt := (Array.getElem?_eq_some_iff.1 ho).1
  have hown : w.ownsMap P k ptrEl g 0 (.map [] : DataW Unit) := by
    obtain ⟨es, clock, hb, h2⟩ := World.ownsMap_made (H := Unit) w P k ptrEl
    have e : (w.alloc (.map #[] 0)).heap[w.heap.size]? = some (.map #[] 0) := heap_alloc_new w _
    rw [e] at hb
    cases hb
    exact ⟨#[], 0, ho, h2⟩
  exact ⟨hd, by simpa using hn, β, Rd, _, hS.obNew hi hp q1 hlt q2 q3 q4 q5 (X := mapOb P k g []) ⟨rfl, List.Pairwise.nil, g, .map [], rfl, hown, rfl, fun z => rfl, fun z j hz => by cases hz⟩ rfl (Nat.zero_le _), hβ⟩
theorem mkm_op {ops : Array Oper} {Q : Exit → Act → World → Prop} {rest : List Oper} {op : Oper} {t : TypeId} {m : Nat} (hop : op.op = .makeMap t none) (hd : op.dst = some m) (hg : op.guard = none) (hs : St E W F Rd0 β0 n fr H a w)
    (hK : ∀ g w', PSt E W F Rd0 β0 n g (.map #[] 0) (fr.set m (.mh 0 0 g)) H (a.put (some m) (.map (some g))) w' → wpList P ops Q rest (a.put (some m) (.map (some g))) w') : wpList P ops Q (op :: rest) a w := by
  obtain ⟨hdf, hn, β, Rd, Ow, hS, hβ⟩ := hs
  refine wpList_plain hg fun K' hK' => ?_
  unfold Oper.wp
  have hrun := run_makeMap (P := P) t w
  simp [execOp, hop, hrun, Result.andThen]
  show K' (a.put op.dst _) _
  rw [hd]
  have hsame : ∀ b, b < w.heap.size → (w.alloc (.map #[] 0)).heap[b]? = w.heap[b]? := fun b hb => heap_alloc_old w _ hb
  have hS1 : S3 E W F Rd0 (w.alloc (.map #[] 0)) β Rd Ow fr H a.tmps := hS.move (fun g o hg => ⟨hg, World.cell?_of_block (a := ⟨g, o, none⟩) (hsame g (hS.hr.rds g o hg))⟩) (fun b hb => ⟨hsame b hb, fun _ h => h⟩) (fun g o hg => by have := hS.hr.rds g o hg; simp; omega) (by simp) rfl rfl rfl
  refine hK' _ _ (hK w.heap.size _ ⟨hdf, hn, β, Rd, Ow, hS1.aput (some m) rfl (.mh 0 0 _) (.mh ..) rfl (fun g hg => by cases hg), hβ, ?_, fun j hj e => ?_, fun q hq => ?_, fun hF => ?_, fun hF => ?_, heap_alloc_new w _⟩)
  · cases ho2 : Ow w.heap.size with
    | none => rfl
    | some h => exact absurd (hS.hr.ows _ _ ho2) (Nat.lt_irrefl _)
  · obtain ⟨T', cs', c1, _⟩ := hS.hr.box j _ (List.getElem?_eq_getElem hj)
    have := (Array.getElem?_eq_some_iff.1 c1).1
    omega
  · exact absurd (hS.hr.rds _ _ hq) (Nat.lt_irrefl _)
  · have h1 := hS.fo.lt _ hF
    have h2 := hS.fo.size
    omega
  · exact absurd (hS.hr.fix _ hF).2.2.2 (Nat.lt_irrefl _)
end
def okM (P : Program) (B : List Tmp) (ND : List (Nat × List Nat)) (fn : Func) (l : List Code) (D : Code) : Bool := !(fn.name == "runtime.NumGoroutine") && P.follows .mixedOrders && noFrz ND && l.all (regsB B ND) && regsB B ND D
/-- What is asked where the new map lies in its cell. -/
def VMkm (P : Program) (k : TypeId) (g : Nat) (K : List AV → Hp → Prop) (fr : List AV) (H : Hp) : Prop := ∃ (i p i' p' : Nat) (l : List AV), H[i]? = some l ∧ l[p]? = some (.mh i' p' g) ∧ K fr (H.set i (l.set p (.ob (mapOb P k g []))))
section
variable {P : Program} {E : Env} {H : Hp}
/-- A FUNCTION THAT MAKES A MAP, ENTERED. -/
theorem pc_enterMkm {f : FuncId} {fn : Func} (l : List Code) {i4 : Nat} {ops : Array Oper} {p4 q4 : List Oper} {o0 : Oper} {D : Code} {m : Nat} {t k : TypeId} (hf : P.funcs[f]? = some fn)
    (hb : fn.body = some (preS l (.seq (.region i4 ops false) D))) (B : List Tmp) (ND : List (Nat × List Nat)) (hok : okM P B ND fn l D = true) (e4 : ops.toList = p4 ++ o0 :: q4) (c0 : o0.op = .makeMap t none ∧ o0.dst = some m ∧ o0.guard = none) {args : List AV} {Q : AV → Hp → Prop}
    (h : BndH H.length H → vcPre P E B ND l (aPost P fn.results.toList H.length Q) (fun fr H' => vcl P E B ops (fun fr2 H2 => ∀ g, vcl P E B ops (VMkm P k g (fun fr3 H3 => vc P E B ND D (aPost P fn.results.toList H.length Q) fr3 H3)) [] q4 (fr2.set m (.mh 0 0 g)) H2) (ndOf ND i4) p4 fr H') (args ++ List.replicate (fn.ntmps - args.length) (.raw undef)) H) : PC P E f args H Q := by
  unfold okM at hok
  simp only [Bool.and_eq_true, Bool.not_eq_true'] at hok
  obtain ⟨⟨⟨⟨hname, hm⟩, hz⟩, hl⟩, hD⟩ := hok
  refine pc_enterG hf hb hname (fun hBn W F Rd0 β0 a w hs KC hK => ?_)
  refine pre_ok hm hz hK (fun fr1 H1 a1 w1 hs1 hv => ?_) l _ _ _ _ hl hs (h hBn)
  refine wp_seq (wp_region_list ?_)
  rw [e4]
  refine wpList_vcl_app (n := H.length) (fun fr2 H2 a2 w2 hs2 hv2 => ?_) p4 _ _ _ _ _ hs1 hv
  refine mkm_op c0.1 c0.2.1 c0.2.2 hs2 (fun g w' hP => ?_)
  obtain ⟨F', Rd', β', hs', back⟩ := hP.split
  refine wpList_vcl (K := VMkm P k g (fun fr3 H3 => vc P E B ND D (aPost P fn.results.toList H.length Q) fr3 H3)) (fun fr3 H3 a3 w3 hs3 hk3 => ?_) q4 [] _ _ _ _ hs' (hv2 g)
  obtain ⟨i, p, i', p', l', h1, h2, h3⟩ := hk3
  exact vc_ok hm (fun id m hm2 => absurd hm2 (noFrz_spec hz id m)) D _ _ _ _ _ _ hD ((back _ _ _ _ hs3).held h1 h2) h3 hK
end
end Go.Proofs.Ytijnohcaeedffaa

set_option linter.unusedVariables false
set_option linter.unnecessarySimpa false
set_option linter.unusedSimpArgs false
set_option linter.unusedSectionVars false
set_option maxRecDepth 100000
namespace Go.Proofs.Ytijnohcaeedffaa
open Go Go.RowKit

def zokB (z : List AV) : Bool := z.length == 579 && (match (z[1]? : Option AV) with | some (.int .i64 n) => n == 0 | _ => false) && (match (z[578]? : Option AV) with | some (.raw _) => true | _ => false) && (List.range 576).all fun s => match (z[2 + s]? : Option AV) with
  | some (.ptr none) => true
  | _ => false
theorem zrow : ∃ z, tzc Try.prog 64 = some z ∧ z.length = 579 ∧ z[1]? = some (.int .i64 0) ∧ ∀ s, s < 576 → z[2 + s]? = some (.ptr none) := by
  have h : (tzc Try.prog 64).any zokB = true := by kernel_rfl
  cases hz : tzc Try.prog 64 with
  | none => rw [hz] at h; cases h
  | some z =>
    rw [hz] at h
    have h : zokB z = true := h
    unfold zokB at h
    simp only [Bool.and_eq_true, beq_iff_eq, List.all_eq_true, List.mem_range] at h
    obtain ⟨⟨⟨h1, h2⟩, h3⟩, h4⟩ := h
    refine ⟨z, rfl, h1, ?_, fun s hs => ?_⟩
    · split at h2
      · rename_i n hn
        simp at h2
        rw [hn, h2]
      · cases h2
    · have := h4 s hs
      split at this
      · rename_i e; exact e
      · cases this
section
variable {H : Hp} {iw : Nat} {row : List AV} {now : Nat} {st : Int} {g : Nat} {kv : List (Int × Nat)} {Ls : Nat → List Te} {ts : List Tm} (E : Env) (Q : AV → Hp → Prop)
theorem now_pc (h : Whl H iw row now st g kv Ls) (hQ : Q (.int .i64 now) H) : PC Try.prog E 21 [.ptr (some (iw, 0))] H Q := by
  have hw := h.lnk.w
  have r0 := h.r0
  refine pc_enter Try.func21 rfl [] [] (by kernel_rfl) (fun hB => ?_)
  simp [Try.ntmps21, Try.results21, List.replicate_succ, hw, r0]
  exact aPost_same0 hB rfl (nilV_refl _) (by simp) hQ
theorem new_pc (now : Int) (hQ0 : (now < 0 ∨ 281474976710656 < now) → Q (.tup [.ptr none, .int .i64 250]) H)
    (hQ : ∀ (n : Nat) (row : List AV) (g : Nat), now = n → n ≤ 281474976710656 → Whl (H ++ [row]) H.length row n 0 g [] (fun _ => []) → Q (.tup [.ptr (some (H.length, 0)), .int .i64 0]) (H ++ [row])) : PC Try.prog E 10 [.int .i64 now] H Q := by
  refine pc_enterMkm [_, _] (p4 := [_]) (k := 3) Try.func10 rfl [] [] (by kernel_rfl) rfl ⟨rfl, rfl, rfl⟩ (fun hB => ?_)
  by_cases h1 : now < 0
  · have hq := hQ0 (.inl h1)
    simp [vcPre, ndOf, Try.ntmps10, Try.results10, List.replicate_succ, h1]
    exact aPost_same0 hB (v0 := .tup [.ptr none, .int .i64 250]) (by simp) (nilV_refl _) (by simp) hq
  by_cases h2 : 281474976710656 < now
  · have hq := hQ0 (.inr h2)
    simp [vcPre, ndOf, Try.ntmps10, Try.results10, List.replicate_succ, h1, h2]
    exact aPost_same0 hB (v0 := .tup [.ptr none, .int .i64 250]) (by simp) (nilV_refl _) (by simp) hq
  obtain ⟨n, rfl⟩ : ∃ n : Nat, now = n := ⟨now.toNat, by omega⟩
  obtain ⟨z, hz, hzl, hz1, hz2⟩ := zrow
  simp [vcPre, ndOf, Try.ntmps10, Try.results10, List.replicate_succ, h1, h2, hz, hzl, AV.dis, AV.free]
  intro g
  obtain ⟨L, hL⟩ : ∃ L, AV.int .i64 n :: (List.take 577 z.tail ++ .mh 0 0 g :: List.drop 579 z) = L := ⟨_, rfl⟩
  rw [hL]
  have htl : (List.take 577 z.tail).length = 577 := by simp [hzl]
  have hd0 : List.drop 579 z = [] := List.drop_eq_nil_of_le (by omega)
  rw [hd0] at hL
  have hLl : L.length = 579 := by rw [← hL]; simp [htl]
  have hL8 : L[578]? = some (.mh 0 0 g) := by
    rw [← hL, List.getElem?_cons_succ, List.getElem?_append_right (by omega), htl]; rfl
  have hL0 : L[0]? = some (.int .i64 n) := by rw [← hL]; rfl
  have hLs : ∀ j, j < 577 → L[j + 1]? = z[j + 1]? := fun j hj => by
    rw [← hL, List.getElem?_cons_succ, List.getElem?_append_left (by omega), List.getElem?_take, if_pos hj, List.getElem?_tail]
  have hH : (H ++ [L]).set H.length (L.set 578 (.ob (mapOb Try.prog 3 g []))) = H ++ [L.set 578 (.ob (mapOb Try.prog 3 g []))] := by
    rw [List.set_append_right _ _ (Nat.le_refl _), Nat.sub_self]; rfl
  refine ⟨H.length, 578, 0, 0, L, by simp, hL8, ?_⟩
  rw [hH]
  have hbL : ∀ x ∈ L.set 578 (.ob (mapOb Try.prog 3 g [])), Bnd (H.length + 1) x := by
    intro x hx
    obtain ⟨j, hj⟩ := List.getElem?_of_mem hx
    by_cases h8 : j = 578
    · subst h8
      rw [List.getElem?_set_self (by omega)] at hj
      cases hj
      exact bnd_ob.2 (Nat.zero_le _)
    · rw [List.getElem?_set_ne (Ne.symm h8)] at hj
      have hjl := at_ltA hj
      match j, hj, h8 with
      | 0, hj, _ => rw [hL0] at hj; cases hj; exact .int _ _
      | 1, hj, _ => rw [hLs 0 (by omega), hz1] at hj; cases hj; exact .int _ _
      | j + 2, hj, h8 =>
        rw [hLs (j + 1) (by omega), show j + 1 + 1 = 2 + j by omega, hz2 j (by omega)] at hj
        cases hj
        exact .ptr0
  have hW : Whl (H ++ [L.set 578 (.ob (mapOb Try.prog 3 g []))]) H.length (L.set 578 (.ob (mapOb Try.prog 3 g []))) n 0 g [] (fun _ => []) := by
    refine ⟨⟨by simp, by simpa using hLl, fun s hs => ?_, fun s pre x suf hs he => by simp at he, fun s hs => List.Pairwise.nil⟩, ?_, ?_, List.getElem?_set_self (by omega), List.Pairwise.nil, List.Pairwise.nil, ?_, nofun, nofun, by omega, by simp⟩
    · rw [List.getElem?_set_ne (by omega), show 2 + s = (s + 1) + 1 by omega, hLs (s + 1) (by omega), show s + 1 + 1 = 2 + s by omega, hz2 s hs]
      rfl
    · rw [List.getElem?_set_ne (by omega)]; exact hL0
    · rw [List.getElem?_set_ne (by omega), hLs 0 (by omega)]; exact hz1
    · intro m i
      simp
  have hq := hQ n _ g rfl (by omega) hW
  refine aPost_upX (v := .tup [.ptr (some (H.length, 0)), .int .i64 0]) (by simp) (by simp) (fun l hl => ?_) (by simp) hq
  rw [List.length_append]
  rcases List.mem_append.1 hl with h3 | h3
  · exact fun x hx => (hB l h3 x hx).mono (by simp)
  · simp at h3; subst h3; exact hbL
/-! ### A nil wheel. -/
end
end Go.Proofs.Ytijnohcaeedffaa

set_option linter.unusedVariables false
set_option linter.unnecessarySimpa false
set_option linter.unusedSimpArgs false
set_option linter.unusedSectionVars false
set_option maxRecDepth 100000
namespace Go.Proofs.Ytijnohcaeedffaa
open Go Go.RowKit

/-- A wheel in the boxes M: its own in box iw, its tick, the places looked at, its timers. -/
def Wh (M : Nat → Prop) (H : Hp) (iw now : Nat) (st : Int) (ts : List Tm) : Prop :=
  ∃ row g kv Ls, Whl H iw row now st g kv Ls ∧ Vw Ls ts ∧ (∀ j, Mine iw Ls j → M j) ∧ ∀ j, M j → j < H.length
/-- What a call on it leaves: boxes M' instead of M, all others as they were. -/
structure Lft (M M' : Nat → Prop) (H H' : Hp) : Prop where
  le : H.length ≤ H'.length
  sub : ∀ j, M' j → M j ∨ H.length ≤ j
  keep : ∀ j, j < H.length → ¬ M j → H'[j]? = H[j]?
theorem Lft.refl (M : Nat → Prop) (H : Hp) : Lft M M H H := ⟨Nat.le_refl _, fun _ h => .inl h, fun _ _ _ => rfl⟩
theorem Lft.trans {M M1 M2 : Nat → Prop} {H H1 H2 : Hp} (h : Lft M M1 H H1) (k : Lft M1 M2 H1 H2) : Lft M M2 H H2 :=
  ⟨Nat.le_trans h.le k.le, fun j hj => by
    rcases k.sub j hj with h1 | h1
    · exact h.sub j h1
    · exact .inr (Nat.le_trans h.le h1), fun j hj hM => (k.keep j (Nat.lt_of_lt_of_le hj h.le) fun h1 => by
      rcases h.sub j h1 with h2 | h2
      · exact hM h2
      · omega).trans (h.keep j hj hM)⟩
theorem Lft.new (H : Hp) (row : List AV) : Lft (fun _ => False) (fun j => j = H.length) H (H ++ [row]) :=
  ⟨by simp, fun j hj => .inr (by omega), fun j hj _ => List.getElem?_append_left hj⟩
/-- The boxes H0 are as they were, M are others. -/
structure Ups (H0 H : Hp) (M : Nat → Prop) : Prop where
  le : H0.length ≤ H.length
  keep : ∀ j, j < H0.length → H[j]? = H0[j]?
  abv : ∀ j, M j → H0.length ≤ j
theorem Ups.refl (H : Hp) : Ups H H (fun _ => False) := ⟨Nat.le_refl _, fun _ _ => rfl, nofun⟩
theorem Ups.go {H0 H H' : Hp} {M M' : Nat → Prop} (h : Ups H0 H M) (k : Lft M M' H H') : Ups H0 H' M' :=
  ⟨Nat.le_trans h.le k.le, fun j hj => (k.keep j (Nat.lt_of_lt_of_le hj h.le) fun hm => by have := h.abv j hm; omega).trans (h.keep j hj), fun j hj => by
    rcases k.sub j hj with h1 | h1
    · exact h.abv j h1
    · exact Nat.le_trans h.le h1⟩
theorem Ups.drop {H0 H : Hp} {M : Nat → Prop} (h : Ups H0 H M) : Ups H0 H (fun _ => False) := ⟨h.le, h.keep, nofun⟩
def errSet (n t : Int) : Int := if n < 0 then 251 else if 281474976710656 < t then 250 else 0
def setM (now : Nat) (ts : List Tm) (n t : Int) : List Tm := if n < 0 ∨ 281474976710656 < t then ts else offN ts n ++ [⟨n, setT now t⟩]
def badT (now : Nat) (tick : Int) : Bool := decide (tick < now) || decide (281474976710656 < tick)
section
variable {M : Nat → Prop} {H H' : Hp} {iw now : Nat} {row : List AV} {g : Nat} {kv : List (Int × Nat)} {Ls : Nat → List Te} {st : Int} {ts : List Tm}
theorem Whl.keep (h : Whl H iw row now st g kv Ls) (hk : ∀ j, Mine iw Ls j → H'[j]? = H[j]?) : Whl H' iw row now st g kv Ls :=
  ⟨⟨(hk iw (.inl rfl)).trans h.lnk.w, h.lnk.l, h.lnk.heads, fun s pre x suf hs he => (hk x.i (.inr ⟨s, hs, x, by rw [he]; simp, rfl⟩)).trans (h.lnk.links s pre x suf hs he), h.lnk.nd⟩, h.r0, h.r1, h.rm, h.ok, h.inj, h.mem, h.tick, h.num, h.nowle, h.few⟩
theorem Wh.keep (h : Wh M H iw now st ts) (hl : H.length ≤ H'.length) (hk : ∀ j, M j → H'[j]? = H[j]?) : Wh M H' iw now st ts := by
  obtain ⟨row, g, kv, Ls, h1, h2, h3, h4⟩ := h
  exact ⟨row, g, kv, Ls, h1.keep fun j hj => hk j (h3 j hj), h2, h3, fun j hj => Nat.lt_of_lt_of_le (h4 j hj) hl⟩
theorem Wh.nd (h : Wh M H iw now st ts) : ts.Pairwise fun x y => x.n ≠ y.n := by
  obtain ⟨row, g, kv, Ls, h1, h2, _⟩ := h
  exact h2.nd
theorem Wh.nodup (h : Wh M H iw now st ts) : ts.Nodup := h.nd.imp fun hne e => hne (by rw [e])
theorem Wh.few (h : Wh M H iw now st ts) : ts.length ≤ 1000000000 := by
  obtain ⟨row, g, kv, Ls, h1, h2, _⟩ := h
  rw [← h1.len h2]; exact h1.few
theorem Wh.nowle (h : Wh M H iw now st ts) : now ≤ 281474976710656 := by
  obtain ⟨row, g, kv, Ls, h1, h2, _⟩ := h
  exact h1.nowle
theorem Wh.own (h : Wh M H iw now st ts) : M iw := by
  obtain ⟨row, g, kv, Ls, h1, h2, h3, _⟩ := h
  exact h3 _ (.inl rfl)
theorem Wh.lt (h : Wh M H iw now st ts) : ∀ j, M j → j < H.length := by
  obtain ⟨row, g, kv, Ls, h1, h2, h3, h4⟩ := h
  exact h4
theorem Wh.ok (h : Wh M H iw now st ts) : ∀ y ∈ ts, okKey y.n ∧ okKey y.t ∧ now ≤ y.t ∧ y.t ≤ 281474976710656 ∧ ((now : Int) = y.t → now = 281474976710656) := by
  obtain ⟨row, g, kv, Ls, h1, h2, h3, h4⟩ := h
  intro y hy
  obtain ⟨s, hs, x, hx, rfl⟩ := (h2.mem y).1 hy
  have h5 := h1.num _ ((h1.mem x.n x.i).2 ⟨s, hs, x, hx, rfl, rfl⟩)
  obtain ⟨t, ht, a1, a2, a3, _⟩ := h1.tick s hs x hx
  refine ⟨h5, ?_, ?_, ?_, fun e => ?_⟩
  · unfold okKey; simp only; omega
  · simp only; omega
  · simp only; omega
  · simp only at e; exact a3 (by omega)
variable (E : Env) (Q : AV → Hp → Prop)
theorem wlen_pc (h : Wh M H iw now st ts) (hQ : Q (.int .i64 ts.length) H) : PC Try.prog E 14 [.ptr (some (iw, 0))] H Q := by
  obtain ⟨row, g, kv, Ls, h1, h2, _⟩ := h
  exact len_pc E Q h1 (by rw [h1.len h2]; exact hQ)
theorem wnow_pc (h : Wh M H iw now st ts) (hQ : Q (.int .i64 now) H) : PC Try.prog E 21 [.ptr (some (iw, 0))] H Q := by
  obtain ⟨row, g, kv, Ls, h1, h2, _⟩ := h
  exact now_pc E Q h1 hQ
theorem wstop_pc (h : Wh M H iw now st ts) (n : Int) (hn : okKey n) (hQ : ∀ H', Wh M H' iw now st (offN ts n) → Lft M M H H' → H'.length = H.length → Q (.bool (ofN ts n).isSome) H') : PC Try.prog E 24 [.ptr (some (iw, 0)), .int .i64 n] H Q := by
  obtain ⟨row, g, kv, Ls, h1, h2, h3, h4⟩ := h
  refine stop_vw E Q h1 h2 n hn (fun H' row' Ls' hW hV hsub hl hf => hQ H' ⟨row', g, _, Ls', hW, hV, fun j hj => h3 j ?_, fun j hj => by rw [hl]; exact h4 j hj⟩ ⟨by omega, fun _ h => .inl h, fun j _ hj => hf j fun hm => hj (h3 j hm)⟩ hl)
  rcases hj with rfl | ⟨s, hs, y, hy, e⟩
  · exact .inl rfl
  · exact .inr ⟨s, hs, y, hsub s y hy, e⟩
theorem wset_pc (h : Wh M H iw now st ts) (n t : Int) (hn : okKey n) (ht : okKey t) (few : ts.length < 1000000000)
    (hQ : ∀ H' M', Wh M' H' iw now st (setM now ts n t) → Lft M M' H H' → Q (.int .i64 (errSet n t)) H') : PC Try.prog E 12 [.ptr (some (iw, 0)), .int .i64 n, .int .i64 t] H Q := by
  obtain ⟨row, g, kv, Ls, h1, h2, h3, h4⟩ := h
  refine set_pc E Q h1 h2 n t hn ht (by rw [h1.len h2]; exact few) (fun a => ?_) (fun a b => ?_) (fun H' row' Ls' a b hW hV hl hsub hf => ?_)
  · have e1 : setM now ts n t = ts := if_pos (.inl a)
    have e2 : errSet n t = 251 := if_pos a
    rw [e1, e2] at hQ
    exact hQ H M ⟨row, g, kv, Ls, h1, h2, h3, h4⟩ (Lft.refl M H)
  · have e1 : setM now ts n t = ts := if_pos (.inr b)
    have e2 : errSet n t = 250 := by unfold errSet; rw [if_neg (by omega), if_pos b]
    rw [e1, e2] at hQ
    exact hQ H M ⟨row, g, kv, Ls, h1, h2, h3, h4⟩ (Lft.refl M H)
  · have e1 : setM now ts n t = offN ts n ++ [⟨n, setT now t⟩] := if_neg (by omega)
    have e2 : errSet n t = 0 := by unfold errSet; rw [if_neg (by omega), if_neg (by omega)]
    rw [e1, e2] at hQ
    refine hQ H' (fun j => M j ∨ j = H.length) ⟨row', g, _, Ls', hW, hV, fun j hj => ?_, fun j hj => ?_⟩ ⟨by omega, fun j hj => ?_, fun j hj hM => hf j hj fun hm => hM (h3 j hm)⟩
    · rcases hsub j hj with h5 | h5
      · exact .inl (h3 j h5)
      · exact .inr h5
    · rcases hj with hj | hj
      · have := h4 j hj; omega
      · omega
    · rcases hj with hj | hj
      · exact .inl hj
      · exact .inr (by omega)
theorem wadv_pc (h : Wh M H iw now st ts) (hst : 0 ≤ st ∧ st + 576 * (ts.length + 1) ≤ 4611686018427387904) (tick : Int)
    (hQ0 : badT now tick = true → Q (.tup [.sl false 2 [], .int .i64 250]) H)
    (hQ : ∀ (H' : Hp) (st' : Int) (tk : Nat), tick = tk → badT now tick = false → now ≤ tk → tk ≤ 281474976710656 → Wh M H' iw tk st' (leftT tick ts) → Lft M M H H' → H'.length = H.length →
      st ≤ st' → st' ≤ st + 576 * ((dueT tick ts).length + 1) → (dueT tick ts ≠ [] → st < st') → Q (.tup [.sl false 2 (rowsT (dueT tick ts)), .int .i64 0]) H') : PC Try.prog E 13 [.ptr (some (iw, 0)), .int .i64 tick] H Q := by
  obtain ⟨row, g, kv, Ls, h1, h2, h3, h4⟩ := h
  refine advance_pc E Q h1 h2 hst tick (fun a => hQ0 (by unfold badT; rcases a with a | a <;> simp [a])) (fun H' row' kv' Ls' st' tk e a b hW hV hl hsub hf c1 c2 c3 => hQ H' st' tk e ?_ a b ⟨row', g, kv', Ls', hW, hV, fun j hj => h3 j (hsub j hj), fun j hj => by rw [hl]; exact h4 j hj⟩ ⟨by omega, fun _ h => .inl h, fun j _ hj => hf j fun hm => hj (h3 j hm)⟩ hl c1 c2 c3)
  unfold badT
  rw [decide_eq_false (by omega), decide_eq_false (by omega)]; rfl
theorem wnew_pc (now : Int) (hQ0 : badT 0 now = true → Q (.tup [.ptr none, .int .i64 250]) H)
    (hQ : ∀ (n : Nat) (row : List AV), now = n → n ≤ 281474976710656 → badT 0 now = false → Wh (fun j => j = H.length) (H ++ [row]) H.length n 0 [] → Q (.tup [.ptr (some (H.length, 0)), .int .i64 0]) (H ++ [row])) : PC Try.prog E 10 [.int .i64 now] H Q := by
  refine new_pc E Q now (fun a => hQ0 (by unfold badT; rcases a with a | a <;> simp [a])) (fun n row g e a hW => hQ n row e a ?_ ⟨row, g, [], fun _ => [], hW, ⟨List.Pairwise.nil, fun y => by simp⟩, fun j hj => ?_, fun j hj => by subst hj; simp⟩)
  · unfold badT
    rw [decide_eq_false (by omega), decide_eq_false (by omega)]; rfl
  · rcases hj with rfl | ⟨s, hs, y, hy, _⟩
    · rfl
    · cases hy
end
end Go.Proofs.Ytijnohcaeedffaa

set_option linter.unusedVariables false
set_option linter.unnecessarySimpa false
set_option linter.unusedSimpArgs false
set_option linter.unusedSectionVars false
set_option maxRecDepth 100000
namespace Go.Proofs.Ytijnohcaeedffaa
open Go Go.RowKit

section
variable {H : Hp} (E : Env) (Q : AV → Hp → Prop)
theorem awake_pc (hQ : Q (.bool true) H) : PC Try.prog E 11 [] H Q := by
  refine pc_enter Try.func11 rfl [] [] (by kernel_rfl) (fun hB => ?_)
  simp [Try.ntmps11, Try.results11, List.replicate_succ]
  refine PC.bnd (wnew_pc E _ 0 (fun h => by cases h) (fun n row e _ _ hW hB1 _ => ?_))
  obtain rfl : n = 0 := by omega
  simp [Kcall, KP]
  refine PC.bnd (wset_pc E _ hW 5 20 (by decide) (by decide) (by simp) (fun H2 M2 hW2 hL2 hB2 _ => ?_))
  simp [Kcall, KP, errSet]
  refine PC.bnd (wstop_pc E _ hW2 5 (by decide) (fun H3 hW3 hL3 hl3 hB3 _ => ?_))
  have e3 : (ofN (setM 0 [] 5 20) 5).isSome = true := by decide
  have e4 : offN (setM 0 [] 5 20) 5 = [] := by decide
  rw [e4] at hW3
  rw [e3]
  simp [Kcall, KP]
  refine PC.bnd (wlen_pc E _ hW3 (fun hB4 _ => ?_))
  simp [Kcall, KP]
  refine PC.bnd (wnew_pc E _ 10 (fun h => by cases h) (fun n row2 e _ _ hW5 hB5 _ => ?_))
  obtain rfl : n = 10 := by omega
  simp [Kcall, KP]
  refine PC.bnd (wset_pc E _ hW5 1 12 (by decide) (by decide) (by simp) (fun H6 M6 hW6 hL6 hB6 _ => ?_))
  simp [Kcall, KP, errSet]
  refine PC.bnd (wadv_pc E _ hW6 (by decide) 12 (fun h => by cases h) (fun H7 st' tk e _ _ _ hW7 hL7 hl7 _ _ _ hB7 _ => ?_))
  obtain rfl : tk = 12 := by omega
  have e5 : dueT 12 (setM 10 [] 1 12) = [⟨1, 12⟩] := by decide
  rw [e5]
  simp [Kcall, KP, rowsT]
  have u3 := (((Ups.refl H).go (Lft.new H row)).go hL2).go hL3
  have u7 := ((u3.drop.go (Lft.new H3 row2)).go hL6).go hL7
  refine PC.bnd (wnow_pc E _ hW7 (fun hB8 _ => ?_))
  simp [Kcall, KP]
  exact aPost_lawX hB u7.le u7.keep rfl (by simp) hQ
end
end Go.Proofs.Ytijnohcaeedffaa

set_option linter.unusedVariables false
set_option linter.unusedSimpArgs false
namespace Go.Proofs.Ytijnohcaeedffaa
open Go Go.ChangeShapes Go.WideShapes Go.ChangeAt Go.RowKit Go.Deep

theorem Try.own : ownKnob Try.prog.godebug = none := by kernel_rfl
theorem Try.laidOut : laidOutB Try.prog = true := by kernel_rfl

section
variable {H : Type} {enc : TypeId × Value → H}

/-- ARGUMENTS READ AGAIN where nothing old has turned. -/
theorem Frm.trodAll {P : Program} (hl : laidOutB P = true) {W W' : World} (hF : Frm (fun _ => False) W W') (sp : Nat → Bool) : ∀ {ts : List TypeId} {vs : List Value} {ds : List (DataW H)} {ps : List MemPlace}, (∀ t ∈ ts, P.readableRec t = true ∧ t < P.types.size) → DataW.TrodAll enc P W 0 (fun _ => true) true ts vs ds ps → (∀ p ∈ ps, sp p.block = true) → (∀ p ∈ ps, p.block < W.heap.size) → DataW.TrodAll enc P W' 0 sp true ts vs ds ps
  | [], [], [], _, _, h, _, _ => h
  | _ :: _, _ :: _, _ :: _, _, hT, ⟨p, q, h1, h2, e⟩, hs, hlt =>
    ⟨p, q, WideElems.Trod_stays hl (hT _ (List.mem_cons.2 (Or.inl rfl))).1 (hT _ (List.mem_cons.2 (Or.inl rfl))).2 h1
      (fun x hx => (hF.toBelow (Nat.le_refl _) (fun _ _ => id)).same (hlt x (by rw [e]; exact List.mem_append_left _ hx))) (fun x hx => hs x (by rw [e]; exact List.mem_append_left _ hx)),
      Frm.trodAll hl hF sp (fun t ht => hT t (List.mem_cons.2 (Or.inr ht))) h2 (fun x hx => hs x (by rw [e]; exact List.mem_append_right _ hx)) (fun x hx => hlt x (by rw [e]; exact List.mem_append_right _ hx)), e⟩

/-- THE POST OF A LAW: true, and nothing old has turned. -/
theorem law_post {P : Program} (hl : laidOutB P = true) {f : Func} {s : ChangeSpec} {W W' : World} {args : Array Value} {ds gs : List (DataW H)} {before : List MemPlace} {tb : TypeId} (hb : P.underlying tb = some .bool)
    (hr : f.resultTypes = #[tb]) (hs : s.vars = []) (hT : f.params.all (fun t => P.readableRec t && decide (t < P.types.size)) = true)
    (hspec : s.fn H ds = { results := [.lit (.bool true)], args := ds })
    (hW : DataW.Whole enc P f.params.toList s.vars false W args.toList ds gs before) (hF : Frm (fun _ => False) W W') :
    s.post enc P f false true false false W args (.bool true) W' := by
  have hT' : ∀ t ∈ f.params.toList, P.readableRec t = true ∧ t < P.types.size := by
    intro t ht
    have := Array.all_eq_true_iff_forall_mem.1 hT t (by simpa using ht)
    simpa using this
  have hW' := hW
  obtain ⟨p, q, hA, hV, rfl, hfz, hnd⟩ := hW
  rw [hs] at hV
  obtain ⟨rfl, rfl⟩ := trodVars_none hV
  have hB := hF.toBelow (Nat.le_refl _) (fun _ _ => id)
  simp only [List.append_nil] at hW' hfz
  have hold : ∀ x ∈ p, decide (x.block < W.heap.size) = true := fun x hx => by simpa using hW'.lt x hx
  have hargs : ∀ sp : Nat → Bool, (∀ x ∈ p, sp x.block = true) → DataW.TrodAll enc P W' 0 sp true f.params.toList args.toList ds p := fun sp h => hF.trodAll hl sp hT' hA h (fun x hx => hW'.lt x hx)
  have hres : ∀ (b : Nat) (sp : Nat → Bool) (hd : Bool), DataW.TrodAll enc P W' b sp hd f.resultTypes.toList ((Value.bool true).resultList f.resultTypes.size) [.lit (.bool true)] [] := fun b sp hd => by
    rw [hr]; exact trodAll_mk1 (shut_bool hb true)
  have e1 : (s.fn H (ds ++ [])) = { results := [.lit (.bool true)], args := ds } := by rw [List.append_nil]; exact hspec
  refine ⟨ds, [], p, [], p, [], hW', ?_, ?_, ?_, World.keptBut_mono (fun x hx => hx) (hB.frame _), fun h => by cases h⟩
  · rw [e1]; exact hres _ _ _
  · rw [e1]; exact hargs _ hold
  · rw [e1, hs]; exact rfl

/-- From 'for each i there is' to a list. -/
theorem list_lt {α : Type} {n : Nat} {p : Nat → α → Prop} (h : ∀ i, i < n → ∃ x, p i x) : ∃ l : List α, l.length = n ∧ ∀ i x, l[i]? = some x → p i x := by
  induction n with
  | zero => exact ⟨[], rfl, fun i x hx => by simp at hx⟩
  | succ n ih =>
    obtain ⟨l, hl, hp⟩ := ih (fun i hi => h i (by omega))
    obtain ⟨y, hy⟩ := h n (by omega)
    refine ⟨l ++ [y], by simp [hl], fun i x hx => ?_⟩
    by_cases hi : i < l.length
    · exact hp i x (by rwa [List.getElem?_append_left hi] at hx)
    · rw [List.getElem?_append_right (by omega)] at hx
      have : i - l.length = 0 := by
        have := (List.getElem?_eq_some_iff.1 hx).1
        simp at this; omega
      rw [this] at hx
      simp at hx
      subst hx
      rw [show i = n by omega]; exact hy

/-- AN ARGUMENT OR A CELL THAT IS A SLICE: its rows as a list; the row's cells lie at the slice's own address, which is plain. -/
theorem open_rows {P : Program} {w : World} {base : Nat} {spare : Nat → Bool} {held : Bool} {t e : TypeId} {fuel : Nat} {cs : List Value} {x : DataW H × List MemPlace} {α : Type} (k : Nat) (hk : 0 < k) (q : Addr → α → Prop)
    (ht : P.underlying t = some (.slice e)) (hc : P.cellsOf e = k)
    (hq : ∀ a n cs' d pl, w.cells? base a k = some cs' → DataW.trod enc P w base spare held n e cs' = some (d, pl) → ∃ x, q ⟨a.block, a.off, none⟩ x)
    (h : DataW.trod enc P w base spare held fuel t cs = some x) :
    ∃ (bo : Option Addr) (len cap : Nat) (l : List α), cs = [.slice bo len cap] ∧ l.length = len ∧ len ≤ cap ∧ cap ≤ maxLen ∧ (∀ el sp, x.1 = .slice el sp → len ≤ el.length) ∧ (x.1 = .nil → len = 0) ∧ (x.1 = .nil ∨ ∃ el sp, x.1 = .slice el sp) ∧
      ∀ i x, l[i]? = some x → ∃ g o, bo = some ⟨g, o, none⟩ ∧ q ⟨g, o + i * k, none⟩ x := by
  rcases open_slice ht h with ⟨rfl, rfl⟩ | ⟨a, len, cap, m, n, D, Pl, rfl, hb, hl, hm, hmm, rfl, hi⟩
  · exact ⟨none, 0, 0, [], rfl, rfl, Nat.le_refl _, Nat.zero_le _, (fun _ _ h => by cases h), (fun _ => rfl), .inl rfl, fun i x hx => by simp at hx⟩
  · have hlm : len ≤ m := by rw [hmm]; split <;> omega
    obtain ⟨l, hll, hlx⟩ := list_lt (n := len) (p := fun i x => ∃ g o, some a = some ⟨g, o, none⟩ ∧ q ⟨g, o + i * k, none⟩ x) (fun i hi' => by
      obtain ⟨cs', hcs, htr⟩ := hi i (by omega)
      rw [hc] at hcs
      have h0 := hi 0 (by omega)
      obtain ⟨cs0, hcs0, _⟩ := h0
      rw [hc] at hcs0
      have hspot := World.cell?_spot (((World.cells?_some hcs0).2.2 0 hk).trans (List.getElem?_eq_getElem (by have := (World.cells?_some hcs0).2.1; omega)))
      obtain ⟨b, off, spot⟩ := a
      obtain rfl : spot = none := by simpa [Addr.add] using hspot
      obtain ⟨y, hy⟩ := hq _ n cs' _ _ hcs htr
      refine ⟨y, b, off, rfl, ?_⟩
      rw [add_plain] at hy
      exact hy)
    exact ⟨some a, len, cap, l, rfl, hll, hl, hm, (fun el sp h => by
      simp only [DataW.slice.injEq] at h
      rw [← h.1]; simp), (fun h => by cases h), .inr ⟨_, _, rfl⟩, hlx⟩

theorem cells_one {w : World} {base : Nat} {a : Addr} {cs : List Value} (h : w.cells? base a 1 = some cs) : ∃ v, cs = [v] ∧ w.cell? ⟨a.block, a.off, none⟩ = some v := by
  obtain ⟨_, hl, hc⟩ := World.cells?_some h
  match cs, hl with
  | [v], _ =>
    have h0 := hc 0 (by omega)
    have hs := World.cell?_spot h0
    obtain ⟨b, o, s⟩ := a
    obtain rfl : s = none := by simpa [Addr.add] using hs
    exact ⟨v, rfl, by simpa [Addr.add] using h0⟩

theorem row_int {P : Program} {w : World} {base : Nat} {spare : Nat → Bool} {held : Bool} {e : TypeId} {k : IntKind} (he : P.underlying e = some (.int k)) (a : Addr) (n : Nat) (cs : List Value) (d : DataW H) (pl : List MemPlace)
    (hc : w.cells? base a 1 = some cs) (h : DataW.trod enc P w base spare held n e cs = some (d, pl)) : ∃ z : Int, w.cell? ⟨a.block, a.off, none⟩ = some (.int k z) ∧ (Lit.int k z).wf = true := by
  obtain ⟨v, rfl, hv⟩ := cells_one hc
  obtain ⟨m, hvv, _, hw⟩ := DataW.trod_int he h
  simp only [List.cons.injEq, and_true] at hvv
  exact ⟨m, hvv ▸ hv, hw⟩
theorem row_u8 {P : Program} {w : World} {base : Nat} {spare : Nat → Bool} {held : Bool} {e : TypeId} (he : P.underlying e = some (.int .u8)) (a : Addr) (n : Nat) (cs : List Value) (d : DataW H) (pl : List MemPlace)
    (hc : w.cells? base a 1 = some cs) (h : DataW.trod enc P w base spare held n e cs = some (d, pl)) : ∃ z : UInt8, w.cell? ⟨a.block, a.off, none⟩ = some (.int .u8 (z.toNat : Int)) := by
  obtain ⟨z, hz, hw⟩ := row_int he a n cs d pl hc h
  have hr : 0 ≤ z ∧ z ≤ 255 := by simpa [Lit.wf, IntKind.min, IntKind.max, IntKind.signed, IntKind.bits] using hw
  refine ⟨UInt8.ofNat z.toNat, ?_⟩
  rw [UInt8.toNat_ofNat', Nat.mod_eq_of_lt (by omega), Int.toNat_of_nonneg hr.1]
  exact hz
theorem rsl_rows {w : World} {bo : Option Addr} {len cap : Nat} {l : List UInt8} (hl : l.length = len) (h1 : len ≤ cap) (h2 : cap ≤ maxLen) (hc : ∀ i x, l[i]? = some x → ∃ g o, bo = some ⟨g, o, none⟩ ∧ w.cell? ⟨g, o + i * 1, none⟩ = some (.int .u8 (x.toNat : Int))) :
    RSl w 1 (.slice bo len cap) len (u8s l) := by
  refine ⟨by rw [u8s_length]; omega, bo, cap, rfl, h1, h2, fun hp => ?_⟩
  obtain ⟨g, o, rfl, _⟩ := hc 0 (l[0]'(by omega)) (List.getElem?_eq_getElem (by omega))
  refine ⟨g, o, rfl, fun j hj => ?_⟩
  have hj' : j < l.length := by omega
  obtain ⟨g', o', he, hcell⟩ := hc j (l[j]'hj') (List.getElem?_eq_getElem hj')
  cases he
  rw [Nat.mul_one] at hcell
  rw [hcell, u8s_at, List.getElem?_eq_getElem hj']
  rfl
end
end Go.Proofs.Ytijnohcaeedffaa

set_option linter.unusedVariables false
set_option linter.unusedSimpArgs false
namespace Go.Proofs.Ytijnohcaeedffaa
open Go Go.ChangeShapes Go.WideShapes Go.ChangeAt Go.RowKit Go.Deep

inductive CK where
  | int (k : IntKind)
  | bool
  | str
  | u8s
def KindOf : CK → AV → Prop
  | .int k, .int k' z => k = k' ∧ (Lit.int k z).wf = true
  | .bool, .bool _ => True
  | .str, .str _ => True
  | .u8s, .sl false 1 rows => ∃ l, rows = bts l
  | _, _ => False
def wtA : List AV → Nat
  | [] => 0
  | .str s :: l => s.length + wtA l
  | .sl _ _ r :: l => r.length + wtA l
  | _ :: l => wtA l
theorem wtA_app (l m : List AV) : wtA (l ++ m) = wtA l + wtA m := by
  induction l with
  | nil => simp [wtA]
  | cons x l ih => cases x <;> simp only [List.cons_append, wtA, ih] <;> omega
def shapeL (g : TypeId → Option (List CK)) : Nat → List Field → Option (List CK)
  | _, [] => some []
  | off, f :: r => if f.offset = off then match g f.type with
    | some a => (shapeL g (off + a.length) r).map (a ++ ·)
    | none => none else none
def shape (P : Program) : Nat → TypeId → Option (List CK)
  | 0, _ => none
  | n + 1, t => match P.underlying t with
    | some (.int k) => some [.int k]
    | some .bool => some [.bool]
    | some .string => some [.str]
    | some (.slice e) => match P.underlying e with
      | some (.int .u8) => if P.cellsOf e = 1 then some [.u8s] else none
      | _ => none
    | some (.struct fs) => match shapeL (shape P n) 0 fs.toList with
      | some ks => if ks.length = P.cellsOf t then some ks else none
      | none => none
    | _ => none
structure Opened (W : World) (ks : List CK) (cs : List Value) (avs : List AV) : Prop where
  len : avs.length = ks.length
  clen : cs.length = ks.length
  kind : ∀ (j : Nat) k x, ks[j]? = some k → avs[j]? = some x → KindOf k x
  rel : ∀ (j : Nat) x u, avs[j]? = some x → cs[j]? = some u → x.free = true ∧ x.one = true ∧ Rel W (fun _ => 0) (old W) x u ∧ Bnd 0 x
theorem Opened.one {W : World} {k : CK} {v : Value} {x : AV} (h1 : KindOf k x) (h2 : x.free = true ∧ x.one = true ∧ Rel W (fun _ => 0) (old W) x v ∧ Bnd 0 x) : Opened W [k] [v] [x] := by
  refine ⟨rfl, rfl, fun j k' x' hk hx => ?_, fun j x' u hx hu => ?_⟩
  · cases j with
    | zero => simp at hk hx; subst hk; subst hx; exact h1
    | succ j => simp at hk
  · cases j with
    | zero => simp at hu hx; subst hu; subst hx; exact h2
    | succ j => simp at hu
theorem Opened.app {W : World} {ks ms : List CK} {cs ds : List Value} {av1 bs : List AV} (h : Opened W ks cs av1) (k : Opened W ms ds bs) : Opened W (ks ++ ms) (cs ++ ds) (av1 ++ bs) := by
  refine ⟨by simp [h.len, k.len], by simp [h.clen, k.clen], fun j k' x' hk hx => ?_, fun j x' u hx hu => ?_⟩
  · by_cases hj : j < ks.length
    · rw [List.getElem?_append_left hj] at hk
      rw [List.getElem?_append_left (by rw [h.len]; exact hj)] at hx
      exact h.kind j k' x' hk hx
    · rw [List.getElem?_append_right (by omega)] at hk
      rw [List.getElem?_append_right (by rw [h.len]; omega), h.len] at hx
      exact k.kind _ k' x' hk hx
  · by_cases hj : j < av1.length
    · rw [List.getElem?_append_left hj] at hx
      rw [List.getElem?_append_left (by rw [h.clen, ← h.len]; exact hj)] at hu
      exact h.rel j x' u hx hu
    · rw [List.getElem?_append_right (by omega)] at hx
      rw [List.getElem?_append_right (by rw [h.clen, ← h.len]; omega), h.clen, ← h.len] at hu
      exact k.rel _ x' u hx hu
section
variable {H : Type} {enc : TypeId × Value → H}
theorem bulk_pos (d : DataW H) : 1 ≤ Rows.uptoBulk d := by
  cases d with
  | lit l => cases l <;> simp [Rows.uptoBulk]
  | nil => simp [Rows.uptoBulk]
  | ptr d => simp [Rows.uptoBulk]
  | slice elems spare => simp [Rows.uptoBulk]
  | agg parts => simp [Rows.uptoBulk]
  | iface t d => simp [Rows.uptoBulk]
  | map entries => simp [Rows.uptoBulk]
  | held h => simp [Rows.uptoBulk]
theorem bulk_len : ∀ (l : List (DataW H)), l.length ≤ Rows.uptoBulkAll l
  | [] => by simp [Rows.uptoBulkAll]
  | x :: l => by have := bulk_pos x; have := bulk_len l; simp only [Rows.uptoBulkAll, List.length_cons]; omega
theorem rel_sl_bts {w : World} {β : Nat → Nat} {Rd : Nat → Nat → Prop} {v : Value} {l : List UInt8} (h : RSl w 1 v l.length (u8s l)) (hd : ∀ g o n c, v = .slice (some ⟨g, o, none⟩) n c → ∀ j, j < l.length → Rd g (o + j)) : Rel w β Rd (.sl false 1 (bts l)) v := by
  refine .sl false 1 (bts l) v (u8s l) (fun r hr => by obtain ⟨b, _, rfl⟩ := List.mem_map.1 hr; rfl) (by rw [bts_len]; exact h) (fun g o n c hv j hj => hd g o n c hv j (by simpa [bts_len] using hj)) (fun h => by cases h) (fun r hr x hx => ?_) (fun j x u hx hu => ?_)
  · obtain ⟨b, _, rfl⟩ := List.mem_map.1 hr
    simp at hx; subst hx; exact ⟨rfl, rfl⟩
  · rw [bts_flat] at hx
    rw [u8s_at] at hu
    cases hb : l[j]? with
    | none => rw [hb] at hx; cases hx
    | some b => rw [hb] at hx hu; simp at hx hu; subst hx; subst hu; exact .int _ _
theorem opened_fields {P : Program} {W : World} {base : Nat} {spare : Nat → Bool} {held : Bool} {n' : Nat} {cs : List Value} (g : TypeId → Option (List CK))
    (ih : ∀ {t : TypeId} {ks : List CK} {cs : List Value} {x : DataW H × List MemPlace}, g t = some ks → DataW.trod enc P W base spare held n' t cs = some x → ∃ avs, Opened W ks cs avs ∧ wtA avs + 1 ≤ Rows.uptoBulk x.1) :
    ∀ (l : List Field) (xs : List (DataW H × List MemPlace)) (off : Nat) (ks : List CK), l.length = xs.length → (∀ (j : Nat) f, l[j]? = some f → DataW.trod enc P W base spare held n' f.type ((cs.drop f.offset).take (P.cellsOf f.type)) = xs[j]?) →
      shapeL g off l = some ks → ∃ avs, Opened W ks ((cs.drop off).take ks.length) avs ∧ wtA avs ≤ Rows.uptoBulkAll (xs.map (·.1)) := by
  intro l
  induction l with
  | nil =>
    intro xs off ks hl hx hs
    simp [shapeL] at hs
    subst hs
    exact ⟨[], ⟨rfl, by simp, fun j k x hk => by simp at hk, fun j x u hx => by simp at hx⟩, by simp [wtA]⟩
  | cons f l ihl =>
    intro xs off ks hl hx hs
    cases xs with
    | nil => simp at hl
    | cons y xs =>
      unfold shapeL at hs
      split at hs
      · rename_i ho
        cases hg : g f.type with
        | none => rw [hg] at hs; cases hs
        | some a =>
          rw [hg] at hs
          simp only [Option.map_eq_some_iff] at hs
          obtain ⟨b, hb, rfl⟩ := hs
          have h0 := hx 0 f rfl
          rw [ho] at h0
          obtain ⟨av1, ha, hwa⟩ := ih hg h0
          obtain ⟨bs, hbs, hwb⟩ := ihl xs (off + a.length) b (by simpa using hl) (fun j f' hf => by simpa using hx (j + 1) f' (by simpa using hf)) hb
          have e : (cs.drop off).take (P.cellsOf f.type) = (cs.drop off).take a.length := by
            have hlen := ha.clen
            rw [List.length_take] at hlen
            rw [← hlen]
            by_cases hc : P.cellsOf f.type ≤ (cs.drop off).length
            · rw [Nat.min_eq_left hc]
            · rw [Nat.min_eq_right (by omega), List.take_of_length_le (by omega), List.take_of_length_le (Nat.le_refl _)]
          refine ⟨av1 ++ bs, ?_, ?_⟩
          · rw [e] at ha
            have := ha.app hbs
            rw [List.length_append, List.take_add, List.drop_drop]
            exact this
          · rw [wtA_app]
            simp only [List.map_cons, Rows.uptoBulkAll]
            omega
      · cases hs
theorem opened {P : Program} {W : World} {base : Nat} {spare : Nat → Bool} {held : Bool} (n : Nat) : ∀ {fuel : Nat} {t : TypeId} {ks : List CK} {cs : List Value} {x : DataW H × List MemPlace}, shape P n t = some ks → DataW.trod enc P W base spare held fuel t cs = some x →
    ∃ avs, Opened W ks cs avs ∧ wtA avs + 1 ≤ Rows.uptoBulk x.1 := by
  induction n with
  | zero => intro fuel t ks cs x hs; cases hs
  | succ n ih =>
    intro fuel t ks cs x hs h
    unfold shape at hs
    split at hs
    · rename_i k hu
      cases hs
      obtain ⟨z, rfl, rfl, hw⟩ := DataW.trod_int hu h
      exact ⟨[.int k z], .one ⟨rfl, hw⟩ ⟨rfl, rfl, .int _ _, .int _ _⟩, by simp [wtA, Rows.uptoBulk]⟩
    · rename_i hu
      cases hs
      obtain ⟨z, rfl, rfl⟩ := DataW.trod_bool hu h
      exact ⟨[.bool z], .one trivial ⟨rfl, rfl, .bool _, .bool _⟩, by simp [wtA, Rows.uptoBulk]⟩
    · rename_i hu
      cases hs
      obtain ⟨z, rfl, rfl, hm⟩ := DataW.trod_string hu h
      exact ⟨[.str z.data.toList], .one trivial ⟨rfl, rfl, .str _ _ rfl hm, .str _⟩, by simp [wtA, Rows.uptoBulk]⟩
    · rename_i e hu
      split at hs
      · rename_i he
        split at hs
        · rename_i hce
          cases hs
          obtain ⟨bo, len, cap, l, rfl, hl, h1, h2, hx1, hx2, hx3, hq⟩ := open_rows (α := UInt8) 1 (by decide) (fun a x => W.cell? a = some (.int .u8 ((x : UInt8).toNat : Int))) hu hce (fun a n cs' d pl hc h => row_u8 he a n cs' d pl hc h) h
          have hr := rsl_rows hl h1 h2 hq
          subst hl
          refine ⟨[.sl false 1 (bts l)], .one ⟨l, rfl⟩ ⟨rfl, rfl, rel_sl_bts hr (fun g o n c hv j hj => ?_), bnd_sl_bts _ _ _⟩, ?_⟩
          · obtain ⟨g', o', hb, hc⟩ := hq j l[j] (List.getElem?_eq_getElem hj)
            cases hv
            cases hb
            rw [Nat.mul_one] at hc
            exact old_cell hc
          · simp only [wtA, bts_len]
            rcases hx3 with hn | ⟨el, sp, hs⟩
            · rw [hn, hx2 hn]; simp [Rows.uptoBulk]
            · have := hx1 el sp hs
              have := bulk_len el
              rw [hs]; simp only [Rows.uptoBulk]; omega
        · cases hs
      · cases hs
    · rename_i fs hu
      split at hs
      · rename_i ks' hks
        split at hs
        · rename_i hlen
          cases hs
          obtain ⟨xs, n', _, rfl, hcl, hxl, hf⟩ := DataW.trod_struct hu h
          obtain ⟨avs, ho, hw⟩ := opened_fields (enc := enc) (P := P) (W := W) (base := base) (spare := spare) (held := held) (n' := n') (cs := cs) (shape P n) (fun hg hx => ih hg hx) fs.toList xs 0 _ (by simp [hxl]) (fun j f hj => hf j f (by simpa using hj)) hks
          refine ⟨avs, ?_, ?_⟩
          · rw [List.drop_zero, List.take_of_length_le (by rw [hcl, hlen]; exact Nat.le_refl _)] at ho
            exact ho
          · simp only [Rows.uptoBulk]; omega
        · cases hs
      · cases hs
    · cases hs
theorem bulkAll_range {n : Nat} (D : Nat → DataW H) : ∀ (rows : List (List AV)), rows.length = n → (∀ (i : Nat) r, rows[i]? = some r → wtA r + 1 ≤ Rows.uptoBulk (D i)) → wtA rows.flatten + n ≤ Rows.uptoBulkAll ((List.range n).map D) := by
  induction n with
  | zero =>
    intro rows h hr
    have : rows = [] := List.length_eq_zero_iff.1 h
    subst this
    simp [wtA]
  | succ n ih =>
    intro rows hl hr
    obtain ⟨init, r, rfl⟩ : ∃ init r, rows = init ++ [r] := ⟨rows.dropLast, rows.getLast (by intro h; rw [h] at hl; cases hl), (List.dropLast_concat_getLast _).symm⟩
    simp at hl
    have h1 := ih init hl (fun i q hq => hr i q (by rw [List.getElem?_append_left (List.getElem?_eq_some_iff.1 hq).1]; exact hq))
    have h2 := hr n r (by rw [← hl]; simp)
    have happ : ∀ (a b : List (DataW H)), Rows.uptoBulkAll (a ++ b) = Rows.uptoBulkAll a + Rows.uptoBulkAll b := by
      intro a b
      induction a with
      | nil => simp [Rows.uptoBulkAll]
      | cons x a iha => simp only [List.cons_append, Rows.uptoBulkAll, iha]; omega
    rw [List.range_succ, List.map_append, happ, List.flatten_append, wtA_app]
    simp only [List.map_cons, List.map_nil, Rows.uptoBulkAll, List.flatten_cons, List.flatten_nil, List.append_nil]
    omega
/-- A SLICE OF PLAIN VALUES. -/
theorem open_plain {P : Program} {W : World} {spare : Nat → Bool} {held : Bool} {t e : TypeId} {fuel : Nat} {cs : List Value} {x : DataW H × List MemPlace} {ks : List CK} (n : Nat) (ht : P.underlying t = some (.slice e)) (hs : shape P n e = some ks) (hk : ks.length = P.cellsOf e) (hk0 : 0 < ks.length)
    (h : DataW.trod enc P W 0 spare held fuel t cs = some x) :
    ∃ (bo : Option Addr) (len cap : Nat) (rows : List (List AV)), cs = [.slice bo len cap] ∧ rows.length = len ∧ len ≤ cap ∧ cap ≤ maxLen ∧ Rel W (fun _ => 0) (old W) (.sl false ks.length rows) (.slice bo len cap) ∧ Bnd 0 (.sl false ks.length rows) ∧
      (∀ r ∈ rows, r.length = ks.length ∧ ∀ (j : Nat) k y, ks[j]? = some k → r[j]? = some y → KindOf k y) ∧ wtA rows.flatten + len + 1 ≤ Rows.uptoBulk x.1 := by
  rcases open_slice ht h with ⟨rfl, rfl⟩ | ⟨a, len, cap, m, n', D, Pl, rfl, hb, hl, hm, hmm, rfl, hi⟩
  · refine ⟨none, 0, 0, [], rfl, rfl, Nat.le_refl _, Nat.zero_le _, ?_, .sl _ _ _ (fun r hr => by cases hr), fun r hr => (by cases hr), by simp [wtA, Rows.uptoBulk]⟩
    exact rel_rows _ [] none 0 0 (fun r hr => by cases hr) hk0 rfl (Nat.le_refl _) (Nat.zero_le _) (fun i r hr => by simp at hr)
  · have hlm : len ≤ m := by rw [hmm]; split <;> omega
    obtain ⟨rows, hrl, hrx⟩ := list_lt (n := len) (p := fun i (r : List AV) => ∃ g o cs', some a = some ⟨g, o, none⟩ ∧ (∀ (j : Nat) v, cs'[j]? = some v → W.cell? ⟨g, o + i * ks.length + j, none⟩ = some v) ∧ Opened W ks cs' r ∧ wtA r + 1 ≤ Rows.uptoBulk (D i)) (fun i hi' => by
      obtain ⟨cs', hcs, htr⟩ := hi i (by omega)
      obtain ⟨avs, ho, hw⟩ := opened n hs htr
      obtain ⟨_, hcl, hat⟩ := World.cells?_some hcs
      obtain ⟨cs0, hcs0, _⟩ := hi 0 (by omega)
      have h00 := World.cells?_some hcs0
      have hspot := World.cell?_spot ((h00.2.2 0 (by omega)).trans (List.getElem?_eq_getElem (by have := h00.2.1; omega)))
      obtain ⟨b, off, spot⟩ := a
      obtain rfl : spot = none := by simpa [Addr.add] using hspot
      refine ⟨avs, b, off, cs', rfl, fun j v hj => ?_, ho, hw⟩
      have hjl : j < P.cellsOf e := by have := (List.getElem?_eq_some_iff.1 hj).1; omega
      rw [hk, ← add_plain, ← add_plain, hat j hjl]; exact hj)
    refine ⟨some a, len, cap, rows, rfl, hrl, hl, hm, ?_, ?_, ?_, ?_⟩
    · refine rel_rows _ rows _ len cap (fun r hr => ?_) hk0 hrl hl hm (fun i r hr => ?_)
      · obtain ⟨i, hi'⟩ := List.getElem?_of_mem hr
        obtain ⟨g, o, cs', _, _, ho, _⟩ := hrx i r hi'
        exact ho.len
      · obtain ⟨g, o, cs', hb', hc, ho, _⟩ := hrx i r hr
        refine ⟨g, o, hb', fun j y hy => ?_⟩
        have hjl : j < cs'.length := by have := (List.getElem?_eq_some_iff.1 hy).1; have := ho.len; have := ho.clen; omega
        obtain ⟨h1, h2, h3, h4⟩ := ho.rel j y cs'[j] hy (List.getElem?_eq_getElem hjl)
        exact ⟨h1, h2, _, hc j _ (List.getElem?_eq_getElem hjl), h3⟩
    · refine .sl _ _ _ (fun r hr y hy => ?_)
      obtain ⟨i, hi'⟩ := List.getElem?_of_mem hr
      obtain ⟨j, hj⟩ := List.getElem?_of_mem hy
      obtain ⟨g, o, cs', _, _, ho, _⟩ := hrx i r hi'
      have hjl : j < cs'.length := by have := (List.getElem?_eq_some_iff.1 hj).1; have := ho.len; have := ho.clen; omega
      exact (ho.rel j y cs'[j] hj (List.getElem?_eq_getElem hjl)).2.2.2
    · intro r hr
      obtain ⟨i, hi'⟩ := List.getElem?_of_mem hr
      obtain ⟨g, o, cs', _, _, ho, _⟩ := hrx i r hi'
      exact ⟨ho.len, ho.kind⟩
    · have := bulkAll_range D rows hrl (fun i r hr => by obtain ⟨_, _, _, _, _, _, hw⟩ := hrx i r hr; exact hw)
      simp only [Rows.uptoBulk]
      omega
end
end Go.Proofs.Ytijnohcaeedffaa

set_option linter.unusedVariables false
set_option linter.unnecessarySimpa false
set_option linter.unusedSimpArgs false
set_option linter.unusedSectionVars false
set_option maxRecDepth 100000
namespace Go.Proofs.Ytijnohcaeedffaa
open Go Go.RowKit Go.ChangeShapes Go.WideShapes Go.ChangeAt Go.Deep

/-- Two wheels, apart. -/
structure Two (H K : Hp) (M1 M2 : Nat → Prop) (i1 n1 : Nat) (s1 : Int) (t1 : List Tm) (i2 n2 : Nat) (s2 : Int) (t2 : List Tm) : Prop where
  w1 : Wh M1 K i1 n1 s1 t1
  w2 : Wh M2 K i2 n2 s2 t2
  u1 : Ups H K M1
  a2 : ∀ j, M2 j → H.length ≤ j
  dis : ∀ j, M1 j → ¬ M2 j
section
variable {H K K' : Hp} {M1 M2 M' : Nat → Prop} {i1 n1 i2 n2 n' : Nat} {s1 s2 s' : Int} {t1 t2 t' : List Tm}
theorem Two.go (h : Two H K M1 M2 i1 n1 s1 t1 i2 n2 s2 t2) (hw : Wh M' K' i1 n' s' t') (hl : Lft M1 M' K K') : Two H K' M' M2 i1 n' s' t' i2 n2 s2 t2 :=
  ⟨hw, h.w2.keep hl.le fun j hj => hl.keep j (h.w2.lt j hj) fun hm => h.dis j hm hj, h.u1.go hl, h.a2, fun j hj h2 => by
    rcases hl.sub j hj with h3 | h3
    · exact h.dis j h3 h2
    · have := h.w2.lt j h2; omega⟩
theorem Two.new (h : Wh M1 K i1 n1 s1 t1) (hu : Ups H K M1) {row : List AV} (hw : Wh (fun j => j = K.length) (K ++ [row]) K.length n2 s2 t2) : Two H (K ++ [row]) M1 (fun j => j = K.length) i1 n1 s1 t1 K.length n2 s2 t2 := by
  have hle := hu.le
  have e : ∀ j, j < K.length → (K ++ [row])[j]? = K[j]? := fun j hj => List.getElem?_append_left hj
  refine ⟨h.keep (by simp) fun j hj => e j (h.lt j hj), hw, ⟨by simp; omega, fun j hj => (e j (by omega)).trans (hu.keep j hj), hu.abv⟩, fun j hj => by omega, fun j hj h2 => ?_⟩
  have := h.lt j hj
  omega
end
theorem insT_len (x : Tm) : ∀ l, (insT x l).length = l.length + 1
  | [] => rfl
  | y :: l => by
    unfold insT
    split
    · simp
    · rw [List.length_cons, insT_len x l]; simp
theorem due_len (lim : Int) (ts : List Tm) : (dueT lim ts).length + (leftT lim ts).length = ts.length := by
  have h1 : ∀ (l m : List Tm), (l.foldl (fun l x => insT x l) m).length = l.length + m.length := fun l => by
    induction l with
    | nil => intro m; simp
    | cons x l ih => intro m; rw [List.foldl_cons, ih, insT_len]; simp; omega
  unfold dueT leftT
  rw [h1]
  simp only [List.length_nil, Nat.add_zero]
  induction ts with
  | nil => rfl
  | cons x l ih =>
    rw [List.filter_cons, List.filter_cons]
    by_cases hx : x.t ≤ lim
    · rw [if_pos (by simpa using hx), if_neg (by simp; omega)]; simp; omega
    · rw [if_neg (by simpa using hx), if_pos (by simp; omega)]; simp; omega
theorem rowsT_at {l : List Tm} {i : Nat} {y : Tm} (h : l[i]? = some y) : lat (rowsT l) i = some [.int .i64 y.n, .int .i64 y.t] := by show (rowsT l)[i]? = _; simp [rowsT, h]
def okT2 (l : List Tm) : Prop := ∀ y ∈ l, okKey y.n ∧ okKey y.t
def tmK : List CK := [.int .i64, .int .i64]
theorem okKey_of {n : Int} (h : (Lit.int .i64 n).wf = true) : okKey n := by
  simp [Lit.wf, IntKind.min, IntKind.max, IntKind.signed, IntKind.bits] at h
  unfold okKey; omega
theorem int_kind {z : AV} (h : KindOf (.int .i64) z) : ∃ n, z = .int .i64 n ∧ okKey n := by
  cases z with
  | int k n =>
    obtain ⟨rfl, hw⟩ := h
    exact ⟨n, rfl, okKey_of hw⟩
  | _ => exact h.elim
theorem tms_of_rows : ∀ (rows : List (List AV)), (∀ r ∈ rows, r.length = 2 ∧ ∀ (j : Nat) k y, tmK[j]? = some k → r[j]? = some y → KindOf k y) → ∃ l : List Tm, rows = rowsT l ∧ okT2 l
  | [], _ => ⟨[], rfl, nofun⟩
  | r :: rows, h => by
    obtain ⟨l, rfl, hl⟩ := tms_of_rows rows fun r' hr' => h r' (List.mem_cons_of_mem _ hr')
    obtain ⟨h1, h2⟩ := h r (List.mem_cons_self ..)
    match r, h1, h2 with
    | [a, b], _, h2 =>
      obtain ⟨n, rfl, hn⟩ := int_kind (h2 0 _ a rfl rfl)
      obtain ⟨t, rfl, ht⟩ := int_kind (h2 1 _ b rfl rfl)
      refine ⟨⟨n, t⟩ :: l, rfl, fun y hy => ?_⟩
      rcases List.mem_cons.1 hy with rfl | hy
      · exact ⟨hn, ht⟩
      · exact hl y hy
def rowsN (l : List Int) : List (List AV) := l.map fun n => [.int .i64 n]
theorem rowsN_len (l : List Int) : (rowsN l).length = l.length := List.length_map ..
theorem rowsN_at {l : List Int} {i : Nat} {y : Int} (h : l[i]? = some y) : lat (rowsN l) i = some [.int .i64 y] := by show (rowsN l)[i]? = _; simp [rowsN, h]
theorem nums_of_rows : ∀ (rows : List (List AV)), (∀ r ∈ rows, r.length = 1 ∧ ∀ (j : Nat) k y, [CK.int .i64][j]? = some k → r[j]? = some y → KindOf k y) → ∃ l : List Int, rows = rowsN l ∧ ∀ y ∈ l, okKey y
  | [], _ => ⟨[], rfl, nofun⟩
  | r :: rows, h => by
    obtain ⟨l, rfl, hl⟩ := nums_of_rows rows fun r' hr' => h r' (List.mem_cons_of_mem _ hr')
    obtain ⟨h1, h2⟩ := h r (List.mem_cons_self ..)
    match r, h1, h2 with
    | [a], _, h2 =>
      obtain ⟨n, rfl, hn⟩ := int_kind (h2 0 _ a rfl rfl)
      refine ⟨n :: l, rfl, fun y hy => ?_⟩
      rcases List.mem_cons.1 hy with rfl | hy
      · exact hn
      · exact hl y hy
end Go.Proofs.Ytijnohcaeedffaa

set_option linter.unusedVariables false
set_option linter.unnecessarySimpa false
set_option linter.unusedSimpArgs false
set_option linter.unusedSectionVars false
set_option maxRecDepth 100000
namespace Go.Proofs.Ytijnohcaeedffaa
open Go Go.RowKit

theorem take_snoc {α : Type} {l : List α} {i : Nat} {y : α} (h : l[i]? = some y) : l.take (i + 1) = l.take i ++ [y] := by rw [List.take_add_one, h, Option.toList_some]
/-- How often y is on a list. -/
def cnT (l : List Tm) (y : Tm) : Nat := l.countP fun z => decide (z = y)
theorem cnT_snoc (l : List Tm) (z y : Tm) : cnT (l ++ [z]) y = cnT l y + (if z = y then 1 else 0) := by
  unfold cnT
  rw [List.countP_append]
  congr 1
  by_cases h : z = y <;> simp [h]
theorem cnT_one : ∀ {l : List Tm} {y : Tm}, srt l → y ∈ l → cnT l y = 1
  | z :: l, y, hs, hy => by
    obtain ⟨h1, h2⟩ := List.pairwise_cons.1 hs
    unfold cnT
    rw [List.countP_cons]
    by_cases e : z = y
    · subst e
      have : l.countP (fun x => decide (x = z)) = 0 := List.countP_eq_zero.2 fun x hx => by
        simp only [decide_eq_true_eq]
        exact fun e => tlt_irrefl z (e ▸ h1 x hx)
      rw [this]; simp
    · have hy' := (List.mem_cons.1 hy).resolve_left (Ne.symm e)
      have := cnT_one h2 hy'
      unfold cnT at this
      rw [this]; simp [e]
theorem cnT_le (l : List Tm) (y : Tm) (i : Nat) : cnT (l.take i) y ≤ i := by
  have : cnT (l.take i) y ≤ (l.take i).length := List.countP_le_length
  rw [List.length_take] at this; omega
/-- How many come. -/
def nD (lim : Int) (l : List Tm) : Nat := l.countP fun y => decide (y.t ≤ lim)
theorem nD_eq (lim : Int) (l : List Tm) : nD lim l = (dueT lim l).length := by
  have h1 := due_len lim l
  have h2 : nD lim l + (leftT lim l).length = l.length := by
    unfold nD leftT
    induction l with
    | nil => rfl
    | cons x l ih =>
      have ih := ih (due_len lim l)
      rw [List.countP_cons, List.filter_cons]
      by_cases hx : x.t ≤ lim
      · rw [if_pos (by simpa using hx), if_neg (by simp; omega)]; simp; omega
      · rw [if_neg (by simpa using hx), if_pos (by simp; omega)]; simp; omega
  omega
theorem nD_le (lim : Int) (l : List Tm) (i : Nat) : nD lim (l.take i) ≤ i := by
  have : nD lim (l.take i) ≤ (l.take i).length := List.countP_le_length
  rw [List.length_take] at this; omega
def onA (H : Hp) (sets : List Tm) (nums : List Int) (iw : Nat) (fr : List AV) (K : Hp) : Prop := ∃ (i : Nat) (M : Nat → Prop) (ts : List Tm), i ≤ sets.length ∧ ts.length ≤ i ∧ Wh M K iw 0 0 ts ∧ Ups H K M ∧
  ∃ x : Nat → AV, fr = [.sl false 2 (rowsT sets), .sl false 1 (rowsN nums), x 2, x 3, x 4, .ptr (some (iw, 0)), x 6, .sl true 2 (rowsT ts), .int .i64 i, x 9, x 10, x 11, x 12, x 13, x 14, x 15, x 16, x 17, x 18, x 19, x 20, x 21, x 22, x 23, x 24, x 25, x 26, x 27, x 28, x 29, x 30, x 31, x 32, x 33, x 34, x 35, x 36, x 37, x 38, x 39, x 40, x 41, x 42, x 43, x 44, x 45, x 46, x 47, x 48, x 49, x 50, x 51, x 52, x 53, x 54, x 55, x 56, x 57, x 58, x 59, x 60, x 61, x 62, x 63, x 64, x 65, x 66, x 67, x 68, x 69, x 70, x 71, x 72, x 73, x 74, x 75, x 76, x 77, x 78, x 79, x 80, x 81, x 82, x 83, x 84, x 85, x 86, x 87, x 88, x 89, x 90, x 91, x 92, x 93, x 94, x 95, x 96, x 97, x 98, x 99, x 100, x 101, x 102, x 103, x 104, x 105, x 106, x 107, x 108, x 109, x 110, x 111, x 112, x 113, x 114, x 115, x 116, x 117, x 118, x 119, x 120, x 121, x 122, x 123, x 124, x 125, x 126, x 127, x 128, x 129, x 130, x 131, x 132, x 133, x 134, x 135, x 136, x 137, x 138, x 139, x 140, x 141, x 142, x 143, x 144, x 145, x 146, x 147, x 148, x 149, x 150, x 151, x 152, x 153, x 154, x 155, x 156, x 157, x 158, x 159, x 160, x 161, x 162, x 163, x 164, x 165, x 166, x 167, x 168, x 169, x 170, x 171, x 172, x 173, x 174, x 175, x 176, x 177, x 178, x 179, x 180, x 181, x 182, x 183, x 184, x 185, x 186, x 187, x 188, x 189, x 190, x 191, x 192, x 193, x 194, x 195, x 196, x 197, x 198, x 199, x 200, x 201, x 202, x 203, x 204, x 205, x 206, x 207, x 208, x 209, x 210, x 211, x 212, x 213, x 214, x 215, x 216, x 217, x 218, x 219, x 220, x 221, x 222, x 223, x 224, x 225, x 226, x 227, x 228, x 229, x 230, x 231, x 232, x 233, x 234, x 235, x 236, x 237, x 238, x 239, x 240]
def onB (sets : List Tm) (nums : List Int) (iw : Nat) (K0 : Hp) (ts : List Tm) (i : Nat) (n : Int) (fr : List AV) (K : Hp) : Prop := K = K0 ∧ ∃ j : Nat, j ≤ ts.length ∧
  ∃ x : Nat → AV, fr = [.sl false 2 (rowsT sets), .sl false 1 (rowsN nums), x 2, x 3, x 4, .ptr (some (iw, 0)), x 6, .sl true 2 (rowsT ts), .int .i64 i, .sl true 2 (rowsT (offN (ts.take j) n)), .int .i64 j, x 11, x 12, x 13, x 14, x 15, x 16, x 17, x 18, x 19, x 20, x 21, x 22, x 23, x 24, x 25, x 26, x 27, x 28, x 29, x 30, x 31, x 32, x 33, x 34, x 35, x 36, x 37, x 38, x 39, x 40, x 41, x 42, x 43, x 44, x 45, x 46, x 47, x 48, x 49, x 50, x 51, x 52, x 53, x 54, x 55, x 56, x 57, x 58, x 59, x 60, x 61, x 62, x 63, x 64, x 65, x 66, x 67, x 68, x 69, x 70, x 71, x 72, x 73, x 74, x 75, x 76, x 77, x 78, x 79, x 80, x 81, x 82, x 83, x 84, x 85, x 86, x 87, x 88, x 89, x 90, x 91, x 92, x 93, x 94, x 95, x 96, x 97, x 98, x 99, x 100, x 101, x 102, x 103, x 104, x 105, x 106, x 107, x 108, x 109, x 110, x 111, x 112, x 113, x 114, x 115, x 116, x 117, x 118, x 119, x 120, x 121, x 122, x 123, x 124, x 125, x 126, x 127, x 128, x 129, x 130, x 131, x 132, x 133, x 134, x 135, x 136, x 137, x 138, x 139, x 140, x 141, x 142, x 143, x 144, x 145, x 146, x 147, x 148, x 149, x 150, x 151, x 152, x 153, x 154, x 155, x 156, x 157, x 158, x 159, x 160, x 161, x 162, x 163, x 164, x 165, x 166, x 167, x 168, x 169, x 170, x 171, x 172, x 173, x 174, x 175, x 176, x 177, x 178, x 179, x 180, x 181, x 182, x 183, x 184, x 185, x 186, x 187, x 188, x 189, x 190, x 191, x 192, x 193, x 194, x 195, x 196, x 197, x 198, x 199, x 200, x 201, x 202, x 203, x 204, x 205, x 206, x 207, x 208, x 209, x 210, x 211, x 212, x 213, x 214, x 215, x 216, x 217, x 218, x 219, x 220, x 221, x 222, x 223, x 224, x 225, x 226, x 227, x 228, x 229, x 230, x 231, x 232, x 233, x 234, x 235, x 236, x 237, x 238, x 239, x 240]
def onC (H : Hp) (sets : List Tm) (nums : List Int) (iw : Nat) (fr : List AV) (K : Hp) : Prop := ∃ (i : Nat) (M : Nat → Prop) (now : Nat) (st : Int) (ts : List Tm) (b : Bool), i ≤ nums.length ∧ Wh M K iw now st ts ∧ Ups H K M ∧ 0 ≤ st ∧ st + 576 * ts.length ≤ 576 * (sets.length + i) ∧ ts.length ≤ sets.length ∧
  ∃ x : Nat → AV, fr = [x 0, .sl false 1 (rowsN nums), x 2, x 3, x 4, .ptr (some (iw, 0)), x 6, .sl b 2 (rowsT ts), x 8, x 9, x 10, .int .i64 now, .int .i64 i, x 13, x 14, x 15, x 16, x 17, x 18, x 19, x 20, x 21, x 22, x 23, x 24, x 25, x 26, x 27, x 28, x 29, x 30, x 31, x 32, x 33, x 34, x 35, x 36, x 37, x 38, x 39, x 40, x 41, x 42, x 43, x 44, x 45, x 46, x 47, x 48, x 49, x 50, x 51, x 52, x 53, x 54, x 55, x 56, x 57, x 58, x 59, x 60, x 61, x 62, x 63, x 64, x 65, x 66, x 67, x 68, x 69, x 70, x 71, x 72, x 73, x 74, x 75, x 76, x 77, x 78, x 79, x 80, x 81, x 82, x 83, x 84, x 85, x 86, x 87, x 88, x 89, x 90, x 91, x 92, x 93, x 94, x 95, x 96, x 97, x 98, x 99, x 100, x 101, x 102, x 103, x 104, x 105, x 106, x 107, x 108, x 109, x 110, x 111, x 112, x 113, x 114, x 115, x 116, x 117, x 118, x 119, x 120, x 121, x 122, x 123, x 124, x 125, x 126, x 127, x 128, x 129, x 130, x 131, x 132, x 133, x 134, x 135, x 136, x 137, x 138, x 139, x 140, x 141, x 142, x 143, x 144, x 145, x 146, x 147, x 148, x 149, x 150, x 151, x 152, x 153, x 154, x 155, x 156, x 157, x 158, x 159, x 160, x 161, x 162, x 163, x 164, x 165, x 166, x 167, x 168, x 169, x 170, x 171, x 172, x 173, x 174, x 175, x 176, x 177, x 178, x 179, x 180, x 181, x 182, x 183, x 184, x 185, x 186, x 187, x 188, x 189, x 190, x 191, x 192, x 193, x 194, x 195, x 196, x 197, x 198, x 199, x 200, x 201, x 202, x 203, x 204, x 205, x 206, x 207, x 208, x 209, x 210, x 211, x 212, x 213, x 214, x 215, x 216, x 217, x 218, x 219, x 220, x 221, x 222, x 223, x 224, x 225, x 226, x 227, x 228, x 229, x 230, x 231, x 232, x 233, x 234, x 235, x 236, x 237, x 238, x 239, x 240]
def onD (nums : List Int) (iw : Nat) (K0 : Hp) (ts : List Tm) (b : Bool) (now : Int) (i : Nat) (fr : List AV) (K : Hp) : Prop := K = K0 ∧ ∃ j : Nat, j ≤ ts.length ∧
  ∃ x : Nat → AV, fr = [x 0, .sl false 1 (rowsN nums), x 2, x 3, x 4, .ptr (some (iw, 0)), x 6, .sl b 2 (rowsT ts), x 8, x 9, x 10, .int .i64 now, .int .i64 i, .sl false 2 (rowsT (dueT now ts)), x 14, .sl true 2 (rowsT (leftT now (ts.take j))), .int .i64 (nD now (ts.take j)), .int .i64 j, x 18, x 19, x 20, x 21, x 22, x 23, x 24, x 25, x 26, x 27, x 28, x 29, x 30, x 31, x 32, x 33, x 34, x 35, x 36, x 37, x 38, x 39, x 40, x 41, x 42, x 43, x 44, x 45, x 46, x 47, x 48, x 49, x 50, x 51, x 52, x 53, x 54, x 55, x 56, x 57, x 58, x 59, x 60, x 61, x 62, x 63, x 64, x 65, x 66, x 67, x 68, x 69, x 70, x 71, x 72, x 73, x 74, x 75, x 76, x 77, x 78, x 79, x 80, x 81, x 82, x 83, x 84, x 85, x 86, x 87, x 88, x 89, x 90, x 91, x 92, x 93, x 94, x 95, x 96, x 97, x 98, x 99, x 100, x 101, x 102, x 103, x 104, x 105, x 106, x 107, x 108, x 109, x 110, x 111, x 112, x 113, x 114, x 115, x 116, x 117, x 118, x 119, x 120, x 121, x 122, x 123, x 124, x 125, x 126, x 127, x 128, x 129, x 130, x 131, x 132, x 133, x 134, x 135, x 136, x 137, x 138, x 139, x 140, x 141, x 142, x 143, x 144, x 145, x 146, x 147, x 148, x 149, x 150, x 151, x 152, x 153, x 154, x 155, x 156, x 157, x 158, x 159, x 160, x 161, x 162, x 163, x 164, x 165, x 166, x 167, x 168, x 169, x 170, x 171, x 172, x 173, x 174, x 175, x 176, x 177, x 178, x 179, x 180, x 181, x 182, x 183, x 184, x 185, x 186, x 187, x 188, x 189, x 190, x 191, x 192, x 193, x 194, x 195, x 196, x 197, x 198, x 199, x 200, x 201, x 202, x 203, x 204, x 205, x 206, x 207, x 208, x 209, x 210, x 211, x 212, x 213, x 214, x 215, x 216, x 217, x 218, x 219, x 220, x 221, x 222, x 223, x 224, x 225, x 226, x 227, x 228, x 229, x 230, x 231, x 232, x 233, x 234, x 235, x 236, x 237, x 238, x 239, x 240]
def onE (nums : List Int) (iw : Nat) (K0 : Hp) (ts : List Tm) (b : Bool) (now : Int) (i j : Nat) (y : Tm) (fr : List AV) (K : Hp) : Prop := K = K0 ∧ ∃ k : Nat, k ≤ (dueT now ts).length ∧
  ∃ x : Nat → AV, fr = [x 0, .sl false 1 (rowsN nums), x 2, x 3, x 4, .ptr (some (iw, 0)), x 6, .sl b 2 (rowsT ts), x 8, x 9, x 10, .int .i64 now, .int .i64 i, .sl false 2 (rowsT (dueT now ts)), x 14, .sl true 2 (rowsT (leftT now (ts.take j))), .int .i64 ((nD now (ts.take j) : Int) + 1), .int .i64 j, .int .i64 (cnT ((dueT now ts).take k) y), .int .i64 k, x 20, x 21, x 22, x 23, x 24, x 25, x 26, x 27, x 28, x 29, x 30, x 31, x 32, x 33, x 34, x 35, x 36, x 37, x 38, x 39, x 40, x 41, x 42, x 43, x 44, x 45, x 46, x 47, x 48, x 49, x 50, x 51, x 52, x 53, x 54, x 55, x 56, x 57, x 58, x 59, x 60, x 61, x 62, x 63, x 64, x 65, x 66, x 67, x 68, x 69, x 70, x 71, x 72, x 73, x 74, x 75, x 76, x 77, x 78, x 79, x 80, x 81, x 82, x 83, x 84, x 85, x 86, x 87, x 88, x 89, x 90, x 91, x 92, x 93, x 94, x 95, x 96, x 97, x 98, x 99, x 100, x 101, x 102, x 103, x 104, x 105, x 106, x 107, x 108, x 109, x 110, x 111, x 112, x 113, x 114, x 115, x 116, x 117, x 118, x 119, x 120, x 121, x 122, x 123, x 124, x 125, x 126, x 127, x 128, x 129, x 130, x 131, x 132, x 133, x 134, x 135, x 136, x 137, x 138, x 139, x 140, x 141, x 142, x 143, x 144, x 145, x 146, x 147, x 148, x 149, x 150, x 151, x 152, x 153, x 154, x 155, x 156, x 157, x 158, x 159, x 160, x 161, x 162, x 163, x 164, x 165, x 166, x 167, x 168, x 169, x 170, x 171, x 172, x 173, x 174, x 175, x 176, x 177, x 178, x 179, x 180, x 181, x 182, x 183, x 184, x 185, x 186, x 187, x 188, x 189, x 190, x 191, x 192, x 193, x 194, x 195, x 196, x 197, x 198, x 199, x 200, x 201, x 202, x 203, x 204, x 205, x 206, x 207, x 208, x 209, x 210, x 211, x 212, x 213, x 214, x 215, x 216, x 217, x 218, x 219, x 220, x 221, x 222, x 223, x 224, x 225, x 226, x 227, x 228, x 229, x 230, x 231, x 232, x 233, x 234, x 235, x 236, x 237, x 238, x 239, x 240]
def onF (nums : List Int) (iw : Nat) (K0 : Hp) (ts : List Tm) (b : Bool) (now : Int) (i : Nat) (fr : List AV) (K : Hp) : Prop := K = K0 ∧ ∃ k : Nat, 1 ≤ k ∧ k ≤ (dueT now ts).length + 1 ∧
  ∃ x : Nat → AV, fr = [x 0, .sl false 1 (rowsN nums), x 2, x 3, x 4, .ptr (some (iw, 0)), x 6, .sl b 2 (rowsT ts), x 8, x 9, x 10, .int .i64 now, .int .i64 i, .sl false 2 (rowsT (dueT now ts)), x 14, .sl true 2 (rowsT (leftT now ts)), x 16, x 17, x 18, x 19, .int .i64 k, x 21, x 22, x 23, x 24, x 25, x 26, x 27, x 28, x 29, x 30, x 31, x 32, x 33, x 34, x 35, x 36, x 37, x 38, x 39, x 40, x 41, x 42, x 43, x 44, x 45, x 46, x 47, x 48, x 49, x 50, x 51, x 52, x 53, x 54, x 55, x 56, x 57, x 58, x 59, x 60, x 61, x 62, x 63, x 64, x 65, x 66, x 67, x 68, x 69, x 70, x 71, x 72, x 73, x 74, x 75, x 76, x 77, x 78, x 79, x 80, x 81, x 82, x 83, x 84, x 85, x 86, x 87, x 88, x 89, x 90, x 91, x 92, x 93, x 94, x 95, x 96, x 97, x 98, x 99, x 100, x 101, x 102, x 103, x 104, x 105, x 106, x 107, x 108, x 109, x 110, x 111, x 112, x 113, x 114, x 115, x 116, x 117, x 118, x 119, x 120, x 121, x 122, x 123, x 124, x 125, x 126, x 127, x 128, x 129, x 130, x 131, x 132, x 133, x 134, x 135, x 136, x 137, x 138, x 139, x 140, x 141, x 142, x 143, x 144, x 145, x 146, x 147, x 148, x 149, x 150, x 151, x 152, x 153, x 154, x 155, x 156, x 157, x 158, x 159, x 160, x 161, x 162, x 163, x 164, x 165, x 166, x 167, x 168, x 169, x 170, x 171, x 172, x 173, x 174, x 175, x 176, x 177, x 178, x 179, x 180, x 181, x 182, x 183, x 184, x 185, x 186, x 187, x 188, x 189, x 190, x 191, x 192, x 193, x 194, x 195, x 196, x 197, x 198, x 199, x 200, x 201, x 202, x 203, x 204, x 205, x 206, x 207, x 208, x 209, x 210, x 211, x 212, x 213, x 214, x 215, x 216, x 217, x 218, x 219, x 220, x 221, x 222, x 223, x 224, x 225, x 226, x 227, x 228, x 229, x 230, x 231, x 232, x 233, x 234, x 235, x 236, x 237, x 238, x 239, x 240]
section
variable {H : Hp} (E : Env) (Q : AV → Hp → Prop)
set_option maxHeartbeats 2000000 in
theorem once_pc (sets : List Tm) (nums : List Int) (hk : okT2 sets) (hk2 : ∀ y ∈ nums, okKey y) (hl : sets.length + nums.length ≤ 1048576) (hQ : Q (.bool true) H) : PC Try.prog E 4 [.sl false 2 (rowsT sets), .sl false 1 (rowsN nums)] H Q := by
  refine pc_enter Try.func4 rfl [82, 89, 157] [] (by kernel_rfl) (fun hB => ?_)
  simp [Try.ntmps4, Try.results4, List.replicate_succ]
  refine PC.bnd (wnew_pc E _ 0 (fun h => by cases h) (fun n row e _ _ hW1 hB1 _ => ?_))
  obtain rfl : n = 0 := by omega
  have u1 := (Ups.refl H).go (Lft.new H row)
  simp [Kcall, KP]
  refine PC.bnd (awake_pc E _ (fun hB3 _ => ?_))
  simp [Kcall, KP]
  refine VL_go (onA H sets nums H.length) (fun fr _ => sets.length - (ai (aget fr 8)).toNat) ⟨0, _, [], by omega, by simp, hW1, u1, fr_intro (by simp [rowsT])⟩ ?_
  clear hW1 u1 hB1 hB3
  rintro fr K ⟨i, M1, ts, hi, hlen, hW, hu, x, rfl⟩
  have hw1 : IntKind.i64.wrap ((i : Int) + 1) = i + 1 := wrap_in (by omega) (by omega)
  by_cases h : i < sets.length
  · obtain ⟨y, hy⟩ : ∃ y, sets[i]? = some y := ⟨_, List.getElem?_eq_getElem h⟩
    have hat := rowsT_at hy
    obtain ⟨k1, k2⟩ := hk y (List.mem_of_getElem? hy)
    have skip : Kloop (onA H sets nums H.length) (sets.length - i) (fun fr _ => sets.length - (ai (aget fr 8)).toNat) (fun _ _ _ => False) .normal [.sl false 2 (rowsT sets), .sl false 1 (rowsN nums), x 2, x 3, x 4, .ptr (some (H.length, 0)), x 6, .sl true 2 (rowsT ts), .int .i64 ((i : Int) + 1), x 9, x 10, x 11, x 12, x 13, x 14, x 15, x 16, x 17, x 18, x 19, x 20, x 21, x 22, x 23, x 24, x 25, x 26, x 27, x 28, x 29, x 30, x 31, x 32, x 33, x 34, x 35, x 36, x 37, x 38, x 39, x 40, x 41, x 42, x 43, x 44, x 45, x 46, x 47, x 48, x 49, x 50, x 51, x 52, x 53, x 54, x 55, x 56, x 57, x 58, x 59, x 60, x 61, x 62, x 63, x 64, x 65, x 66, x 67, x 68, x 69, x 70, x 71, x 72, x 73, x 74, x 75, x 76, x 77, x 78, x 79, x 80, x 81, x 82, x 83, x 84, x 85, x 86, x 87, x 88, x 89, x 90, x 91, x 92, x 93, x 94, x 95, x 96, x 97, x 98, x 99, x 100, x 101, x 102, x 103, x 104, x 105, x 106, x 107, x 108, x 109, x 110, x 111, x 112, x 113, x 114, x 115, x 116, x 117, x 118, x 119, x 120, x 121, x 122, x 123, x 124, x 125, x 126, x 127, x 128, x 129, x 130, x 131, x 132, x 133, x 134, x 135, x 136, x 137, x 138, x 139, x 140, x 141, x 142, x 143, x 144, x 145, x 146, x 147, x 148, x 149, x 150, x 151, x 152, x 153, x 154, x 155, x 156, x 157, x 158, x 159, x 160, x 161, x 162, x 163, x 164, x 165, x 166, x 167, x 168, x 169, x 170, x 171, x 172, x 173, x 174, x 175, x 176, x 177, x 178, x 179, x 180, x 181, x 182, x 183, x 184, x 185, x 186, x 187, x 188, x 189, x 190, x 191, x 192, x 193, x 194, x 195, x 196, x 197, x 198, x 199, x 200, x 201, x 202, x 203, x 204, x 205, x 206, x 207, x 208, x 209, x 210, x 211, x 212, x 213, x 214, x 215, x 216, x 217, x 218, x 219, x 220, x 221, x 222, x 223, x 224, x 225, x 226, x 227, x 228, x 229, x 230, x 231, x 232, x 233, x 234, x 235, x 236, x 237, x 238, x 239, x 240] K :=
      Kloop_normal ⟨i + 1, M1, ts, by omega, by omega, hW, hu, fr_intro (by simp)⟩ (by simp; omega)
    by_cases s1 : y.n < 0
    · simp [h, hat, rowsT_len, s1, hw1]
      refine Kloop_normal ⟨i + 1, M1, ts, by omega, by omega, hW, hu, fr_intro (by simp)⟩ ?_
      simp; omega
    by_cases s2 : y.t < 1
    · simp [h, hat, rowsT_len, s1, s2, hw1]
      refine Kloop_normal ⟨i + 1, M1, ts, by omega, by omega, hW, hu, fr_intro (by simp)⟩ ?_
      simp; omega
    by_cases s3 : 281474976710656 < y.t
    · simp [h, hat, rowsT_len, s1, s2, s3, hw1]
      refine Kloop_normal ⟨i + 1, M1, ts, by omega, by omega, hW, hu, fr_intro (by simp)⟩ ?_
      simp; omega
    simp [h, hat, rowsT_len, s1, s2, s3]
    clear skip
    refine VL_go (onB sets nums H.length K ts i y.n) (fun fr _ => ts.length - (ai (aget fr 10)).toNat) ⟨rfl, 0, by omega, fr_intro (by simp [offN, rowsT])⟩ ?_
    rintro fr K ⟨rfl, j, hj, x, rfl⟩
    have hw2 : IntKind.i64.wrap ((j : Int) + 1) = j + 1 := wrap_in (by omega) (by omega)
    have ho : (offN (ts.take j) y.n).length ≤ j := by
      have : (offN (ts.take j) y.n).length ≤ (ts.take j).length := List.length_filter_le ..
      rw [List.length_take] at this; omega
    have p1 : (offN (ts.take j) y.n).length + 1 ≤ maxLen := by unfold maxLen; omega
    have p2 : ((offN (ts.take j) y.n).length + 1) * 16 ≤ 140737488355328 := by omega
    by_cases h2 : j < ts.length
    · obtain ⟨z, hz⟩ : ∃ z, ts[j]? = some z := ⟨_, List.getElem?_eq_getElem h2⟩
      have hat2 := rowsT_at hz
      have htk : offN (ts.take (j + 1)) y.n = offN (ts.take j) y.n ++ (if z.n = y.n then [] else [z]) := by
        rw [take_snoc hz]
        unfold offN
        rw [List.filter_append]
        congr 1
        by_cases e : z.n = y.n <;> simp [e]
      by_cases e : z.n = y.n
      · rw [if_pos e, List.append_nil] at htk
        simp [h2, hat, hat2, rowsT_len, e, hw2]
        refine Kloop_normal ⟨rfl, j + 1, by omega, fr_intro (by simp [htk])⟩ ?_
        simp; omega
      · rw [if_neg e] at htk
        have e' : (z.n != y.n) = true := bne_iff_ne.2 e
        simp [h2, hat, hat2, rowsT_len, e', hw2, p1, p2]
        refine Kloop_normal ⟨rfl, j + 1, by omega, fr_intro (by simp [htk, ← rowsT_snoc])⟩ ?_
        simp; omega
    · have ej : j = ts.length := by omega
      subst ej
      rw [List.take_length] at ho p1 p2
      simp [h2, hat, rowsT_len, p1, p2]
      refine PC.bnd (wset_pc E _ hW y.n y.t k1 k2 (by omega) (fun K2 M1' hW2 hL hB2 _ => ?_))
      have eset : setM 0 ts y.n y.t = offN ts y.n ++ [y] := by
        unfold setM
        rw [if_neg (by omega)]
        have : ((setT 0 y.t : Nat) : Int) = y.t := by unfold setT; rw [if_neg (by omega)]; omega
        rw [this]
      have eerr : errSet y.n y.t = 0 := by unfold errSet; rw [if_neg s1, if_neg s3]
      rw [eset] at hW2
      rw [eerr]
      simp [Kcall, KP, hw1]
      refine Kloop_normal ⟨i + 1, M1', offN ts y.n ++ [y], by omega, by simp; omega, hW2, hu.go hL, fr_intro (by simp [← rowsT_snoc])⟩ ?_
      simp; omega
  · have e : i = sets.length := by omega
    subst e
    simp [h, rowsT_len]
    refine VL_go (onC H sets nums H.length) (fun fr _ => nums.length - (ai (aget fr 12)).toNat) ⟨0, M1, 0, 0, ts, true, by omega, hW, hu, by omega, by omega, hlen, fr_intro (by simp)⟩ ?_
    clear hW hu hlen h hw1
    rintro fr K ⟨i, M, now, st, ts, b, hi, hW, hu, s1, s2, s3, x, rfl⟩
    have hw1 : IntKind.i64.wrap ((i : Int) + 1) = i + 1 := wrap_in (by omega) (by omega)
    by_cases h : i < nums.length
    · obtain ⟨d, hd⟩ : ∃ d, nums[i]? = some d := ⟨_, List.getElem?_eq_getElem h⟩
      have hat := rowsN_at hd
      have hnow := hW.nowle
      have hwm : IntKind.i64.wrap (281474976710656 - (now : Int)) = 281474976710656 - now := wrap_in (by omega) (by omega)
      by_cases h1 : d < 0
      · simp [h, hat, rowsN_len, h1, hw1]
        refine Kloop_normal ⟨i + 1, M, now, st, ts, b, by omega, hW, hu, s1, by omega, s3, fr_intro (by simp)⟩ ?_
        simp; omega
      by_cases h2 : 281474976710656 - (now : Int) < d
      · simp [h, hat, rowsN_len, h1, h2, hwm, hw1]
        refine Kloop_normal ⟨i + 1, M, now, st, ts, b, by omega, hW, hu, s1, by omega, s3, fr_intro (by simp)⟩ ?_
        simp; omega
      have hwa : IntKind.i64.wrap ((now : Int) + d) = now + d := wrap_in (by omega) (by omega)
      simp [h, hat, rowsN_len, h1, h2, hwm, hwa]
      have c1 := due_len ((now : Int) + d) ts
      refine PC.bnd (wadv_pc E _ hW ⟨s1, by omega⟩ ((now : Int) + d) (fun hbad => ?_) (fun K2 st2 tk e1 _ _ _ hW2 hL2 _ d1 d2 d3 hB4 _ => ?_))
      · unfold badT at hbad; simp at hbad; omega
      have hu2 := hu.go hL2
      have hnd := hW.nodup
      clear hW hu d3
      generalize hlim : (now : Int) + d = lim at *
      simp [Kcall, KP]
      refine VL_go (onD nums H.length K2 ts b lim i) (fun fr _ => ts.length - (ai (aget fr 17)).toNat) ⟨rfl, 0, by omega, fr_intro (by simp [leftT, nD, rowsT])⟩ ?_
      rintro fr K ⟨rfl, j, hj, x, rfl⟩
      have hw2 : IntKind.i64.wrap ((j : Int) + 1) = j + 1 := wrap_in (by omega) (by omega)
      by_cases h3 : j < ts.length
      · obtain ⟨z, hz⟩ : ∃ z, ts[j]? = some z := ⟨_, List.getElem?_eq_getElem h3⟩
        have hat2 := rowsT_at hz
        have ho : (leftT lim (ts.take j)).length ≤ j := by
          have : (leftT lim (ts.take j)).length ≤ (ts.take j).length := List.length_filter_le ..
          rw [List.length_take] at this; omega
        have p1 : (leftT lim (ts.take j)).length + 1 ≤ maxLen := by unfold maxLen; omega
        have p2 : ((leftT lim (ts.take j)).length + 1) * 16 ≤ 140737488355328 := by omega
        by_cases h4 : lim < z.t
        · have htk : leftT lim (ts.take (j + 1)) = leftT lim (ts.take j) ++ [z] := by
            rw [take_snoc hz]; unfold leftT; rw [List.filter_append]; simp [h4]
          have htn : nD lim (ts.take (j + 1)) = nD lim (ts.take j) := by
            rw [take_snoc hz]; unfold nD; rw [List.countP_append]; simp; omega
          simp [h3, hat2, rowsT_len, h4, hw2, p1, p2]
          refine Kloop_normal ⟨rfl, j + 1, by omega, fr_intro (by simp [htk, htn, ← rowsT_snoc])⟩ ?_
          simp; omega
        · have htk : leftT lim (ts.take (j + 1)) = leftT lim (ts.take j) := by
            rw [take_snoc hz]; unfold leftT; rw [List.filter_append]; simp [h4]
          have htn : nD lim (ts.take (j + 1)) = nD lim (ts.take j) + 1 := by
            rw [take_snoc hz]; unfold nD; rw [List.countP_append]; simp; omega
          have hnl := nD_le lim ts j
          have hw3 : IntKind.i64.wrap ((nD lim (ts.take j) : Int) + 1) = nD lim (ts.take j) + 1 := wrap_in (by omega) (by omega)
          simp [h3, hat2, rowsT_len, h4, hw3]
          have hzd : z ∈ dueT lim ts := ((dueT_spec hnd).2 z).2 ⟨List.mem_of_getElem? hz, by omega⟩
          have hone := cnT_one (dueT_spec (lim := lim) hnd).1 hzd
          refine VL_go (onE nums H.length K ts b lim i j z) (fun fr _ => (dueT lim ts).length - (ai (aget fr 19)).toNat) ⟨rfl, 0, by omega, fr_intro (by simp [cnT])⟩ ?_
          rintro fr K ⟨rfl, k, hk, x, rfl⟩
          have hw4 : IntKind.i64.wrap ((k : Int) + 1) = k + 1 := wrap_in (by omega) (by omega)
          by_cases h5 : k < (dueT lim ts).length
          · obtain ⟨v, hv⟩ : ∃ v, (dueT lim ts)[k]? = some v := ⟨_, List.getElem?_eq_getElem h5⟩
            have hat3 := rowsT_at hv
            have hcn := cnT_snoc ((dueT lim ts).take k) v z
            rw [← take_snoc hv] at hcn
            have hcl := cnT_le (dueT lim ts) z k
            have hw5 : IntKind.i64.wrap ((cnT ((dueT lim ts).take k) z : Int) + 1) = cnT ((dueT lim ts).take k) z + 1 := wrap_in (by omega) (by omega)
            by_cases e : v = z
            · rw [if_pos e] at hcn
              subst e
              simp [h5, hat2, hat3, rowsT_len, hw4, hw5]
              refine Kloop_normal ⟨rfl, k + 1, by omega, fr_intro (by simp [hcn])⟩ ?_
              simp; omega
            · rw [if_neg e, Nat.add_zero] at hcn
              have e' : v.n = z.n → ¬ v.t = z.t := fun a c => e (by cases v; cases z; simp at a c; rw [a, c])
              by_cases ea : v.n = z.n
              · have eb : (v.t == z.t) = false := beq_eq_false_iff_ne.2 (e' ea)
                simp [h5, hat2, hat3, rowsT_len, hw4, ea, eb]
                refine Kloop_normal ⟨rfl, k + 1, by omega, fr_intro (by simp [hcn])⟩ ?_
                simp; omega
              · have ea' : (v.n == z.n) = false := beq_eq_false_iff_ne.2 ea
                simp [h5, hat2, hat3, rowsT_len, hw4, ea']
                refine Kloop_normal ⟨rfl, k + 1, by omega, fr_intro (by simp [hcn])⟩ ?_
                simp; omega
          · have ek : k = (dueT lim ts).length := by omega
            subst ek
            rw [List.take_length, hone]
            simp [h5, rowsT_len, hw2]
            refine Kloop_normal ⟨rfl, j + 1, by omega, fr_intro (by simp [htk, htn])⟩ ?_
            simp; omega
      · have ej : j = ts.length := by omega
        subst ej
        rw [List.take_length, nD_eq]
        simp [h3, rowsT_len]
        have hsr := (dueT_spec (lim := lim) hnd).1
        refine VL_go (onF nums H.length K ts b lim i) (fun fr _ => (dueT lim ts).length + 1 - (ai (aget fr 20)).toNat) ⟨rfl, 1, by omega, by omega, fr_intro (by simp)⟩ ?_
        rintro fr K ⟨rfl, k, hk1, hk, x, rfl⟩
        obtain ⟨k, rfl⟩ : ∃ m, k = m + 1 := ⟨k - 1, by omega⟩
        have hw4 : IntKind.i64.wrap ((k : Int) + 1 + 1) = k + 1 + 1 := wrap_in (by omega) (by omega)
        have hw5 : IntKind.i64.wrap (k : Int) = k := wrap_in (by omega) (by omega)
        by_cases h5 : k + 1 < (dueT lim ts).length
        · obtain ⟨v, hv⟩ : ∃ v, (dueT lim ts)[k]? = some v := ⟨_, List.getElem?_eq_getElem (by omega)⟩
          obtain ⟨z, hz⟩ : ∃ z, (dueT lim ts)[k + 1]? = some z := ⟨_, List.getElem?_eq_getElem h5⟩
          have hat2 := rowsT_at hv
          have hat3 := rowsT_at hz
          have hvz : tlt v z := by
            obtain ⟨a1, a2⟩ := List.getElem?_eq_some_iff.1 hv
            obtain ⟨a3, a4⟩ := List.getElem?_eq_some_iff.1 hz
            have := List.pairwise_iff_getElem.1 hsr k (k + 1) a1 a3 (by omega)
            rw [a2, a4] at this
            exact this
          have h5' : (k : Int) + 1 < (dueT lim ts).length := by omega
          have hti : ((k : Int) + 1).toNat = k + 1 := by omega
          have hge : (0 : Int) ≤ (k : Int) + 1 := by omega
          rcases hvz with c | ⟨c, c2⟩
          · have c' : ¬ z.t < v.t := by omega
            have c3 : (v.t == z.t) = false := beq_eq_false_iff_ne.2 (by omega)
            simp [h5', hat2, hat3, rowsT_len, hti, hge, hw4, hw5, c', c3]
            refine Kloop_normal ⟨rfl, k + 1 + 1, by omega, by omega, fr_intro (by simp)⟩ ?_
            simp; omega
          · have c' : ¬ z.t < v.t := by omega
            have c4 : ¬ z.n ≤ v.n := by omega
            simp [h5', hat2, hat3, rowsT_len, hti, hge, hw4, hw5, c, c4]
            refine Kloop_normal ⟨rfl, k + 1 + 1, by omega, by omega, fr_intro (by simp)⟩ ?_
            simp; omega
        · have h5' : ¬ (k : Int) + 1 < (dueT lim ts).length := by omega
          simp [h5', rowsT_len, hw1]
          refine Kloop_normal ⟨i + 1, M, tk, st2, leftT lim ts, false, by omega, hW2, hu2, by omega, by omega, by omega, fr_intro (by simp [e1])⟩ ?_
          simp; omega
    · simp [h, rowsN_len]
      refine PC.bnd (wlen_pc E _ hW (fun hB2 _ => ?_))
      simp [Kcall, KP, rowsT_len]
      exact aPost_lawX hB hu.le hu.keep rfl (by simp) hQ
theorem once_true (W : World) (bo : Option Addr) (len cap : Nat) (rows : List (List AV)) (bo2 : Option Addr) (len2 cap2 : Nat) (rows2 : List (List AV)) (hr : Rel W (fun _ => 0) (old W) (.sl false 2 rows) (.slice bo len cap)) (hn : Bnd 0 (.sl false 2 rows))
    (hk : ∀ r ∈ rows, r.length = 2 ∧ ∀ (j : Nat) k y, tmK[j]? = some k → r[j]? = some y → KindOf k y) (e : rows.length = len)
    (hr2 : Rel W (fun _ => 0) (old W) (.sl false 1 rows2) (.slice bo2 len2 cap2)) (hn2 : Bnd 0 (.sl false 1 rows2)) (hk2 : ∀ r ∈ rows2, r.length = 1 ∧ ∀ (j : Nat) k y, [CK.int .i64][j]? = some k → r[j]? = some y → KindOf k y) (e2 : rows2.length = len2) (hb : len + len2 ≤ 1048576) :
    Calls Try.prog 4 #[.slice bo len cap, .slice bo2 len2 cap2] W fun e w' => e = .returned (.bool true) ∧ Frm (fun _ => False) W w' := by
  obtain ⟨sets, rfl, hs⟩ := tms_of_rows rows hk
  obtain ⟨nums, rfl, hs2⟩ := nums_of_rows rows2 hk2
  rw [rowsT_len] at e
  rw [rowsN_len] at e2
  refine calls_of_pc (args := [.sl false 2 (rowsT sets), .sl false 1 (rowsN nums)]) (old W) (fun _ _ h => h) rfl (fun t x u hx hu => ?_) (fun E Q h => once_pc E Q sets nums hs hs2 (by omega) h)
  match t with
  | 0 => simp at hx hu; subst hx; subst hu; exact ⟨hr, hn, rfl⟩
  | 1 => simp at hx hu; subst hx; subst hu; exact ⟨hr2, hn2, rfl⟩
  | t + 2 => simp at hx
end
end Go.Proofs.Ytijnohcaeedffaa

