/- WorldExact, WorldTwo. -/
import Derived.Test.YtgnjdfnjohgnlaaDoc8
set_option linter.unusedVariables false
set_option linter.unusedSimpArgs false
set_option linter.unusedSectionVars false
set_option maxRecDepth 100000
namespace Go.Proofs.Ytgnjdfnjohgnlaa
open Go Go.RowKit

/-- A world's first value has no list at all. -/
def dW0 (nb : Bool) : AV := .agg [.bool nb, .nil]
theorem PC.weak1 {P : Program} {E : Env} {f : FuncId} {H : Hp} {Q : AV → Hp → Prop} {a b b' c : AV} (h : PC P E f [a, b', c] H Q) (hr : ∀ w β Rd u, Rel w β Rd b u → Rel w β Rd b' u) (hb : Bnd H.length b') (hf : b'.free = true) : PC P E f [a, b, c] H Q := by
  refine ⟨h.1, fun w β Rd Ow cargs h1 h2 h3 h4 => h.2 w β Rd Ow cargs h1 h2 h3 (fun t x u hx hu => ?_)⟩
  match t with
  | 0 => exact h4 0 x u hx hu
  | 1 =>
    simp at hx; subst hx
    exact ⟨hr _ _ _ _ (h4 1 b u rfl hu).1, hb, hf⟩
  | 2 => exact h4 2 x u hx hu
  | t + 3 => simp at hx
theorem dW0_rel (nb : Bool) (w : World) (β : Nat → Nat) (Rd : Nat → Nat → Prop) (u : Value) (h : Rel w β Rd (dW0 nb) u) : Rel w β Rd (dW nb []) u := by
  cases h with
  | agg _ vs hl hf hr =>
    refine .agg _ vs hl (fun x hx => by simp [dRows, rcs] at hx; rcases hx with rfl | rfl <;> exact ⟨rfl, rfl⟩) (fun j x u hx hu => ?_)
    match j with
    | 0 => exact hr 0 x u hx hu
    | 1 =>
      simp at hx; subst hx
      have := hr 1 .nil u rfl hu
      cases this
      exact .sl false 11 _ _ [] (fun r hr => by simp [dRows, rcs] at hr) ⟨by simp [dRows, rcs], none, 0, rfl, Nat.le_refl _, Nat.zero_le _, fun h => by simp [dRows, rcs] at h⟩ (fun g o n c hv j hj => by cases hv) (fun h => by cases h) (fun r hr => by simp [dRows, rcs] at hr) (fun j x u hx => by simp [dRows, rcs] at hx)
    | j + 2 => simp at hx
/-- The document's value: as it was made, or with a list. -/
def DV (nb : Bool) (ms : List Cn) (v : List AV) : Prop := v = [.bool nb, .sl false 11 (dRows ms)] ∨ (v = [.bool nb, .nil] ∧ ms = [])
theorem step3_pc (E : Env) (H : Hp) (w : Option Nat) (cs : List Nat) (ms : List Cn) (Q : AV → Hp → Prop) (hw : WO H w cs ms) (hl : ms.length ≤ 4096) {v : List AV} (hv : DV w.isNone ms v) (o : OpA) (B : Nat) (hg : goods B ms) (hsz : B + o.ed.length + o.s.length ≤ 140737488355328)
    (hQ : ∀ H' cs' ms', WO H' w cs' ms' → Up H w cs H' cs' → goods (B + (o.ed.length + o.s.length)) ms' → ms'.length ≤ 4096 → BndH H'.length H' → Q (.tup [dW w.isNone ms', .bool true]) H') :
    PC Try.prog E 24 [wpt w, .agg v, .agg o.av] H Q := by
  have h := step_pc E H w cs ms Q hw hl o B hg hsz hQ
  rcases hv with rfl | ⟨rfl, rfl⟩
  · exact h
  · exact h.weak1 (fun w' β Rd u hr => dW0_rel _ w' β Rd u hr) (by simp) rfl
theorem WO.setOther {H : Hp} {w : Option Nat} {cs : List Nat} {ms : List Cn} (h : WO H w cs ms) {k : Nat} (hk : k ∉ cs) (hw : w ≠ some k) (row : List AV) : WO (H.set k row) w cs ms := by
  cases w with
  | none => exact h
  | some b => exact ⟨by rw [List.getElem?_set_ne (fun e => hw (by rw [e]))]; exact h.box, h.len, fun i c m hc hm => by rw [List.getElem?_set_ne (fun e => hk (by rw [e]; exact mem_at hc))]; exact h.conn i c m hc hm, h.nd⟩
def exI (H : Hp) (sc : List OpA) (nb : Bool) (w : Option Nat) (b : Nat) (fr : List AV) (H' : Hp) : Prop := ∃ i : Nat, i ≤ sc.length ∧ ∃ cs ms v, WO H' w cs ms ∧ (∀ c ∈ cs, H.length ≤ c) ∧ H.length ≤ H'.length ∧ (∀ j, j < H.length → H'[j]? = H[j]?) ∧ ms.length ≤ 4096 ∧ goods (opw (sc.take i)) ms ∧
  H'[b]? = some v ∧ DV nb ms v ∧ b ∉ cs ∧ w ≠ some b ∧ H.length ≤ b ∧ (∀ k, w = some k → H.length ≤ k) ∧
  ∃ x : Nat → AV, fr = [x 0, x 1, x 2, x 3, x 4, wpt w, .ptr (some (b, 0)), x 7, x 8, x 9, x 10, x 11, x 12, x 13, x 14, x 15, x 16, x 17, .sl false 10 (ops sc), .int .i64 sc.length, .int .i64 i, x 21, x 22, x 23, x 24, x 25, x 26, x 27, x 28, x 29, x 30, x 31, x 32, x 33]
set_option maxHeartbeats 4000000 in
theorem exact_pc (E : Env) (H : Hp) (Q : AV → Hp → Prop) (none : Bool) (sc : List OpA) (hl : sc.length ≤ 1048576) (hsz : opw sc ≤ 1048576) (hQ : Q (.bool true) H) :
    PC Try.prog E 6 [.bool none, .sl false 10 (ops sc)] H Q := by
  refine pc_enter Try.func6 rfl [] [] (by kernel_rfl) (fun hB => ?_)
  simp [Try.ntmps6, Try.results6, List.replicate_succ]
  refine awake_pc E H _ ?_
  simp
  refine new_pc E H _ ?_
  simp
  have hwn := WO.new H
  cases none
  case' true =>
    simp
    refine VL_go (exI H sc true .none (H.length + 1)) (fun fr _ => sc.length - (ai (aget fr 20)).toNat) ⟨0, by omega, [], [], [.bool true, .nil], ⟨rfl, rfl⟩, by simp, by simp, fun j hj => by rw [List.getElem?_append_left hj], by simp, (fun m hm => by cases hm), by simp, .inr ⟨rfl, rfl⟩, by simp, by simp, by omega, by simp, fr_intro (by simp [wpt])⟩ ?_
  case' false =>
    simp
    refine VL_go (exI H sc false (some H.length) (H.length + 1)) (fun fr _ => sc.length - (ai (aget fr 20)).toNat) ⟨0, by omega, [], [], [.bool false, .nil], by have := WO.app2 hwn [[.bool false, .nil]]; rw [List.append_assoc] at this; exact this, by simp, by simp, fun j hj => by rw [List.getElem?_append_left hj], by simp, (fun m hm => by cases hm), by simp, .inr ⟨rfl, rfl⟩, by simp, by simp, by omega, by simp, fr_intro (by simp [wpt])⟩ ?_
  all_goals
    clear hwn
    rintro fr H' ⟨i, hi, cs, ms, v, hwo, hcs, hlen, hkeep, hml, hg, hb, hdv, hbc, hwb, hHb, hwk, x, rfl⟩
    by_cases h : i < sc.length
    · obtain ⟨o, ho⟩ : ∃ o, sc[i]? = some o := ⟨_, List.getElem?_eq_getElem h⟩
      have hat := ops_at ho
      have hw' : IntKind.i64.wrap ((i : Int) + 1) = i + 1 := wrap_in (by omega) (by omega)
      have hbl := at_lt hb
      have htk := opw_take ho
      have hle := opw_le sc (i + 1)
      rcases hdv with rfl | ⟨rfl, rfl⟩
      all_goals
        simp [h, hat, OpA.av, hb, hs0 hbl]
        refine step3_pc E _ _ cs _ _ (WO.app2 hwo _) hml (v := _) (by first | exact .inl rfl | exact .inr ⟨rfl, rfl⟩) o _ hg (by omega) (fun H2 cs2 ms2 hw2 hu2 hg2 hl2 hB2 => ?_)
        obtain ⟨hb2, hbc2⟩ := hu2.kept (by rw [List.getElem?_append_left hbl]; exact hb) hwb hbc
        have hbl2 := at_lt hb2
        have hlen2 := hu2.len
        simp at hlen2
        simp [dW, hb2, hw']
        refine Kloop_normal ?_ ?_
        rotate_left
        · simp; omega
        refine ⟨i + 1, by omega, cs2, ms2, _, hw2.setOther hbc2 hwb _, fun c hc => ?_, by simp; omega, fun j hj => ?_, hl2, by rw [htk]; exact hg2, by simp [hbl2], .inl rfl, hbc2, hwb, hHb, hwk, fr_intro (by simp)⟩
        · rcases hu2.new c hc with h' | h'
          · exact hcs c h'
          · simp at h'; omega
        · rw [List.getElem?_set_ne (by omega), hu2.keep j (by simp; omega) (fun e => by have := hwk j e; omega) (fun e => by have := hcs j e; omega), List.getElem?_append_left (by omega)]
          exact hkeep j hj
    · simp [h]
      exact aPost_law hB hlen hkeep rfl (by simp) hQ
theorem exact_true (W : World) (none : Bool) (bo : Option Addr) (len cap : Nat) (rows : List (List AV)) (hr : Rel W (fun _ => 0) (old W) (.sl false 10 rows) (.slice bo len cap)) (hn : Bnd 0 (.sl false 10 rows))
    (hk : ∀ r ∈ rows, r.length = 10 ∧ ∀ (j : Nat) k y, opK[j]? = some k → r[j]? = some y → KindOf k y) (e : rows.length = len) (hb : wtA rows.flatten + len ≤ 1048576) :
    Calls Try.prog 6 #[.bool none, .slice bo len cap] W fun e w' => e = .returned (.bool true) ∧ Frm (fun _ => False) W w' := by
  obtain ⟨sc, rfl, hw⟩ := ops_of_rows rows hk
  refine calls_of_pc (args := [.bool none, .sl false 10 (ops sc)]) (old W) (fun _ _ h => h) rfl (fun t x u hx hu => ?_) (fun E Q h => exact_pc E [] Q none sc (by simp at e; omega) (by omega) h)
  match t with
  | 0 => simp at hx hu; subst hx; subst hu; exact ⟨.bool _, .bool _, rfl⟩
  | 1 => simp at hx hu; subst hx; subst hu; exact ⟨hr, hn, rfl⟩
  | t + 2 => simp at hx

/-- A world that a call about another leaves alone. -/
theorem WO.beside {H H2 : Hp} {a b : Nat} {cs cs' cs2 : List Nat} {ms : List Cn} (h : WO H (some b) cs' ms) (hu : Up H (some a) cs H2 cs2) (hab : a ≠ b) (hb : b ∉ cs) (ha : a ∉ cs') (hd : ∀ c ∈ cs', c ∉ cs) : WO H2 (some b) cs' ms := by
  have hlt := h.lt
  refine ⟨?_, h.len, fun i c m hc hm => ?_, h.nd⟩
  · rw [hu.keep b (hlt.2 b rfl) (by simp; exact hab) hb]; exact h.box
  · have hcm := mem_at hc
    rw [hu.keep c (hlt.1 c hcm) (by simp; exact fun e => ha (by rw [e]; exact hcm)) (hd c hcm)]
    exact h.conn i c m hc hm
structure TwoI (H H' : Hp) (n : Nat) (cs cs' : List Nat) (ms ms' : List Cn) (u u' : List AV) : Prop where
  wa : WO H' (some H.length) cs ms
  wb : WO H' (some (H.length + 1)) cs' ms'
  len : H.length + 4 ≤ H'.length
  keep : ∀ j, j < H.length → H'[j]? = H[j]?
  la : ms.length ≤ 4096
  lb : ms'.length ≤ 4096
  ga : goods n ms
  gb : goods n ms'
  da : H'[H.length + 2]? = some u
  db : H'[H.length + 3]? = some u'
  va : DV false ms u
  vb : DV false ms' u'
  ca : ∀ c ∈ cs, H.length + 4 ≤ c
  cb : ∀ c ∈ cs', H.length + 4 ≤ c
  dis : ∀ c ∈ cs', c ∉ cs
theorem TwoI.app {H H' : Hp} {n : Nat} {cs cs' : List Nat} {ms ms' : List Cn} {u u' : List AV} (h : TwoI H H' n cs cs' ms ms' u u') (J : Hp) : TwoI H (H' ++ J) n cs cs' ms ms' u u' :=
  ⟨WO.app2 h.wa J, WO.app2 h.wb J, by simp; have := h.len; omega, fun j hj => by rw [List.getElem?_append_left (by have := h.len; omega)]; exact h.keep j hj, h.la, h.lb, h.ga, h.gb, by rw [hs0 (at_lt h.da)]; exact h.da, by rw [hs0 (at_lt h.db)]; exact h.db, h.va, h.vb, h.ca, h.cb, h.dis⟩
theorem TwoI.stepA {H H' H2 : Hp} {n n2 : Nat} {cs cs' cs2 : List Nat} {ms ms' ms2 : List Cn} {u u' row : List AV} (h : TwoI H H' n cs cs' ms ms' u u') (hw : WO H2 (some H.length) cs2 ms2) (hu : Up H' (some H.length) cs H2 cs2) (hl : ms2.length ≤ 4096) (hg : goods n2 ms2) (hn : n ≤ n2) (hv : DV false ms2 row) :
    TwoI H (H2.set (H.length + 2) row) n2 cs2 cs' ms2 ms' row u' := by
  have hlen := h.len
  have hl2 := hu.len
  have hcs2 : ∀ c ∈ cs2, H.length + 4 ≤ c := fun c hc => by
    rcases hu.new c hc with h' | h'
    · exact h.ca c h'
    · omega
  have hb : WO H2 (some (H.length + 1)) cs' ms' := h.wb.beside hu (by omega) (fun hc => by have := h.ca _ hc; omega) (fun hc => by have := h.cb _ hc; omega) h.dis
  refine ⟨hw.setOther (fun hc => by have := hcs2 _ hc; omega) (by simp) row, hb.setOther (fun hc => by have := h.cb _ hc; omega) (by simp) row, by simp; omega, fun j hj => ?_, hl, h.lb, hg, h.gb.mono hn, ?_, ?_, hv, h.vb, hcs2, h.cb, fun c hc hc2 => ?_⟩
  · rw [List.getElem?_set_ne (by omega), hu.keep j (by omega) (by simp; omega) (fun hc => by have := h.ca _ hc; omega)]; exact h.keep j hj
  · exact List.getElem?_set_self (by omega)
  · rw [List.getElem?_set_ne (by omega), hu.keep _ (by omega) (by simp) (fun hc => by have := h.ca _ hc; omega)]; exact h.db
  · rcases hu.new c hc2 with h' | h'
    · exact h.dis c hc h'
    · have := h.wb.lt.1 c hc; omega
theorem TwoI.stepB {H H' H2 : Hp} {n n2 : Nat} {cs cs' cs2 : List Nat} {ms ms' ms2 : List Cn} {u u' row : List AV} (h : TwoI H H' n cs cs' ms ms' u u') (hw : WO H2 (some (H.length + 1)) cs2 ms2) (hu : Up H' (some (H.length + 1)) cs' H2 cs2) (hl : ms2.length ≤ 4096) (hg : goods n2 ms2) (hn : n ≤ n2) (hv : DV false ms2 row) :
    TwoI H (H2.set (H.length + 3) row) n2 cs cs2 ms ms2 u row := by
  have hlen := h.len
  have hl2 := hu.len
  have hcs2 : ∀ c ∈ cs2, H.length + 4 ≤ c := fun c hc => by
    rcases hu.new c hc with h' | h'
    · exact h.cb c h'
    · omega
  have ha : WO H2 (some H.length) cs ms := h.wa.beside hu (by omega) (fun hc => by have := h.cb _ hc; omega) (fun hc => by have := h.ca _ hc; omega) (fun c hc hc' => h.dis c hc' hc)
  refine ⟨ha.setOther (fun hc => by have := h.ca _ hc; omega) (by simp) row, hw.setOther (fun hc => by have := hcs2 _ hc; omega) (by simp) row, by simp; omega, fun j hj => ?_, h.la, hl, h.ga.mono hn, hg, ?_, ?_, h.va, hv, h.ca, hcs2, fun c hc hc2 => ?_⟩
  · rw [List.getElem?_set_ne (by omega), hu.keep j (by omega) (by simp; omega) (fun hc => by have := h.cb _ hc; omega)]; exact h.keep j hj
  · rw [List.getElem?_set_ne (by omega), hu.keep _ (by omega) (by simp) (fun hc => by have := h.cb _ hc; omega)]; exact h.da
  · exact List.getElem?_set_self (by omega)
  · rcases hu.new c hc with h' | h'
    · exact h.dis c h' hc2
    · have := h.wa.lt.1 c hc2; omega
def twI (H : Hp) (sc : List OpA) (fr : List AV) (H' : Hp) : Prop := ∃ i : Nat, i ≤ sc.length ∧ ∃ cs cs' ms ms' u u', TwoI H H' (opw (sc.take i)) cs cs' ms ms' u u' ∧
  ∃ x : Nat → AV, fr = [x 0, x 1, x 2, .ptr (some (H.length, 0)), .ptr (some (H.length + 1, 0)), .ptr (some (H.length + 2, 0)), .ptr (some (H.length + 3, 0)), x 7, x 8, x 9, x 10, x 11, x 12, x 13, x 14, x 15, x 16, x 17, x 18, x 19, x 20, x 21, .sl false 10 (ops sc), .int .i64 sc.length, .int .i64 i, x 25, x 26, x 27, x 28, x 29, x 30, x 31, x 32, x 33, x 34, x 35, x 36, x 37, x 38, x 39, x 40, x 41, x 42, x 43, x 44, x 45, x 46, x 47, x 48]
set_option maxHeartbeats 4000000 in
theorem two_pc (E : Env) (H : Hp) (Q : AV → Hp → Prop) (sc : List OpA) (hl : sc.length ≤ 1048576) (hsz : opw sc ≤ 1048576) (hQ : Q (.bool true) H) :
    PC Try.prog E 7 [.sl false 10 (ops sc)] H Q := by
  refine pc_enter Try.func7 rfl [] [] (by kernel_rfl) (fun hB => ?_)
  simp [Try.ntmps7, Try.results7, List.replicate_succ]
  refine awake_pc E H _ ?_
  simp
  refine new_pc E H _ ?_
  simp
  refine new_pc E _ _ ?_
  simp
  have h0 : TwoI H (H ++ [[.sl true 1 []], [.sl true 1 []], [.bool false, .nil], [.bool false, .nil]]) 0 [] [] [] [] [.bool false, .nil] [.bool false, .nil] := by
    have h1 : WO (H ++ [[.sl true 1 []]]) (some H.length) [] [] := WO.new H
    have h2 : WO ((H ++ [[AV.sl true 1 []]]) ++ [[.sl true 1 []]]) (some (H ++ [[AV.sl true 1 []]]).length) [] [] := WO.new _
    refine ⟨?_, ?_, by simp, fun j hj => List.getElem?_append_left hj, by simp, by simp, (fun m hm => by cases hm), (fun m hm => by cases hm), ?_, ?_, .inr ⟨rfl, rfl⟩, .inr ⟨rfl, rfl⟩, by simp, by simp, by simp⟩
    · have := WO.app2 h1 [[.sl true 1 []], [.bool false, .nil], [.bool false, .nil]]
      rwa [List.append_assoc] at this
    · have := WO.app2 h2 [[.bool false, .nil], [.bool false, .nil]]
      simpa using this
    · rw [List.getElem?_append_right (by omega)]; simp
    · rw [List.getElem?_append_right (by omega)]; simp
  refine VL_go (twI H sc) (fun fr _ => sc.length - (ai (aget fr 24)).toNat) ⟨0, by omega, _, _, _, _, _, _, h0, fr_intro (by simp)⟩ ?_
  clear h0
  rintro fr H' ⟨i, hi, cs, cs', ms, ms', u, u', hm, x, rfl⟩
  by_cases h : i < sc.length
  · obtain ⟨o, ho⟩ : ∃ o, sc[i]? = some o := ⟨_, List.getElem?_eq_getElem h⟩
    have hat := ops_at ho
    have hw' : IntKind.i64.wrap ((i : Int) + 1) = i + 1 := wrap_in (by omega) (by omega)
    have htk := opw_take ho
    have hle := opw_le sc (i + 1)
    have hm1 := hm.app [[.int .i64 o.kind, .int .i64 o.ek, .int .i64 o.ec, .int .i64 o.en, .str o.ed, .int .i64 o.conn, .int .i64 o.n, .str o.s, .bool o.r, .bool o.w]]
    by_cases hpar : i % 2 = 0
    · have hp0 : (i : Int).tmod 2 = 0 := by rw [Int.tmod_eq_emod_of_nonneg (by omega)]; omega
      have hda := hm.da
      have hbl := at_lt hda
      have hva := hm.va
      rcases hm.va with rfl | ⟨rfl, rfl⟩
      all_goals
        simp [h, hat, OpA.av, hda, hs0 hbl, hp0]
        refine step3_pc E _ (some H.length) cs _ _ hm1.wa hm.la (v := _) hva o _ hm.ga (by omega) (fun H2 cs2 ms2 hw2 hu2 hg2 hl2 hB2 => ?_)
        have hx := hm1.stepA hw2 hu2 hl2 hg2 (by omega) (.inl rfl)
        have hda2 := (hu2.kept (b := H.length + 2) hm1.da (by simp) (fun hc => by have := hm.ca _ hc; omega)).1
        simp [dW, hda2, hw']
        refine Kloop_normal ?_ ?_
        rotate_left
        · simp; omega
        exact ⟨i + 1, by omega, _, _, _, _, _, _, by rw [htk]; exact hx, fr_intro (by simp)⟩
    · have hp0 : (i : Int).tmod 2 = 1 := by rw [Int.tmod_eq_emod_of_nonneg (by omega)]; omega
      have hdb := hm.db
      have hbl := at_lt hdb
      have hvb := hm.vb
      rcases hm.vb with rfl | ⟨rfl, rfl⟩
      all_goals
        simp [h, hat, OpA.av, hdb, hs0 hbl, hp0]
        refine step3_pc E _ (some (H.length + 1)) cs' _ _ hm1.wb hm.lb (v := _) hvb o _ hm.gb (by omega) (fun H2 cs2 ms2 hw2 hu2 hg2 hl2 hB2 => ?_)
        have hx := hm1.stepB hw2 hu2 hl2 hg2 (by omega) (.inl rfl)
        have hdb2 := (hu2.kept (b := H.length + 3) hm1.db (by simp) (fun hc => by have := hm.cb _ hc; omega)).1
        simp [dW, hdb2, hw']
        refine Kloop_normal ?_ ?_
        rotate_left
        · simp; omega
        exact ⟨i + 1, by omega, _, _, _, _, _, _, by rw [htk]; exact hx, fr_intro (by simp)⟩
  · simp [h]
    exact aPost_law hB (by have := hm.len; omega) hm.keep rfl (by simp) hQ
theorem two_true (W : World) (bo : Option Addr) (len cap : Nat) (rows : List (List AV)) (hr : Rel W (fun _ => 0) (old W) (.sl false 10 rows) (.slice bo len cap)) (hn : Bnd 0 (.sl false 10 rows))
    (hk : ∀ r ∈ rows, r.length = 10 ∧ ∀ (j : Nat) k y, opK[j]? = some k → r[j]? = some y → KindOf k y) (e : rows.length = len) (hb : wtA rows.flatten + len ≤ 1048576) :
    Calls Try.prog 7 #[.slice bo len cap] W fun e w' => e = .returned (.bool true) ∧ Frm (fun _ => False) W w' := by
  obtain ⟨sc, rfl, hw⟩ := ops_of_rows rows hk
  refine calls_of_pc (args := [.sl false 10 (ops sc)]) (old W) (fun _ _ h => h) rfl (fun t x u hx hu => ?_) (fun E Q h => two_pc E [] Q sc (by simp at e; omega) (by omega) h)
  match t with
  | 0 => simp at hx hu; subst hx; subst hu; exact ⟨hr, hn, rfl⟩
  | t + 1 => simp at hx
end Go.Proofs.Ytgnjdfnjohgnlaa
