/- 'RingPairs' answers true at every input: the given statement, with no condition ahead of it. -/
import Derived.Test.YtgofogcfolhonaaPairs
import Derived.Test.YtgofogcfolhonaaLaw
set_option linter.unusedVariables false
set_option linter.unusedSimpArgs false
namespace Go.Proofs.Ytgofogcfolhonaa
open Go Go.ChangeShapes Go.WideShapes Go.ChangeAt Go.RowKit Go.Deep

set_option maxRecDepth 100000 in
set_option maxHeartbeats 1000000 in
theorem pairs_out (W : World) (cap : Int) (p z : Value) (hc : cap < 1 ∨ 65536 < cap) :
    Calls Try.prog 3 #[.int .i64 cap, p, z] W fun e w' => e = .returned (.bool true) ∧ Frm (fun _ => False) W w' := by
  go_enter Try.func3, Try.ntmps3
  by_cases h1 : cap < 1
  · go_wp2_with (go_at_call 14; refine (steady_true _).mono ?_; rintro e w1 ⟨rfl, hf1⟩)
    go_ret
    exact ⟨rfl, hf1⟩
  · have h2 : 65536 < cap := by omega
    go_wp2_with (go_at_call 14; refine (steady_true _).mono ?_; rintro e w1 ⟨rfl, hf1⟩)
    go_ret
    exact ⟨rfl, hf1⟩

set_option maxRecDepth 100000 in
set_option maxHeartbeats 2000000 in
theorem pairs_empty (W : World) (cap : Int) (bo : Option Addr) (C : Nat) (z : Value) (hc1 : 1 ≤ cap) (hc2 : cap ≤ 65536) :
    Calls Try.prog 3 #[.int .i64 cap, .slice bo 0 C, z] W fun e w' => e = .returned (.bool true) ∧ Frm (fun _ => False) W w' := by
  go_enter Try.func3, Try.ntmps3
  go_wp2_with (first
    | (go_at_call 14; refine (steady_true _).mono ?_; rintro e w1 ⟨rfl, hf1⟩)
    | (go_at_call 15; refine (pair_new hc1 hc2).mono ?_; rintro e w1 ⟨rfl, rfl⟩))
  have hb : W.heap.size ≤ w1.heap.size := hf1.size
  have HQ0 := Lib.hid (QAt.fresh w1 102 2 cap)
  have HF1 := Lib.hid hf1
  clear hf1
  go_loopw [9, 10, 41] (fun t o i wr => t = .int .i64 0 ∧ o = .int .i64 0 ∧ i = .int .i64 0 ∧ wr = w1.alloc (.cells #[.int .i64 cap, .slice none 0 0] 102)) (fun _ _ i _ => 0)
  case atStart => exact ⟨rfl, rfl, rfl, rfl⟩
  case round =>
    obtain ⟨rfl, rfl, rfl, rfl⟩ := hrel
    go_wp2_with (go_at_call 18; refine (pair_len HQ0.out).mono ?_; rintro e w' ⟨rfl, rfl⟩)
    obtain ⟨wo, hwo⟩ : ∃ wo : World, wo = (w1.alloc (.cells #[.int .i64 cap, .slice none 0 0] 102)) := ⟨_, rfl⟩
    rw [← hwo]
    go_loopw [10] (fun o wr => o = .int .i64 0 ∧ wr = wo) (fun o _ => 0)
    case atStart => exact ⟨rfl, rfl⟩
    case round =>
      obtain ⟨rfl, rfl⟩ := hrel
      subst hwo
      go_wp2_with (go_at_call 17; refine (pair_pop_none HQ0.out).mono ?_; rintro e w5 ⟨rfl, hf5⟩)
      go_ret
      exact ⟨rfl, (HF1.out.allocR _).trans hf5⟩

theorem pairs_any (W : World) (cap : Int) (ao : Option Addr) (N C : Nat) (bo : Option Addr) (M D : Nat) (ps : List (Int × ByteArray)) (zs : List Int) (hN : N ≤ 70368744177664) (hM : M ≤ 70368744177664) (hps : ps.length = N) (hzs : zs.length = M)
    (hp : ∀ k x, ps[k]? = some x → ∃ g o, ao = some ⟨g, o, none⟩ ∧ W.cell? ⟨g, o + k * 2, none⟩ = some (.int .i64 x.1) ∧ W.cell? ⟨g, o + k * 2 + 1, none⟩ = some (.string x.2))
    (hz : ∀ k z, zs[k]? = some z → ∃ g o, bo = some ⟨g, o, none⟩ ∧ W.cell? ⟨g, o + k, none⟩ = some (.int .i64 z)) :
    Calls Try.prog 3 #[.int .i64 cap, .slice ao N C, .slice bo M D] W fun e w' => e = .returned (.bool true) ∧ Frm (fun _ => False) W w' := by
  by_cases hc : cap < 1 ∨ 65536 < cap
  · exact pairs_out W cap _ _ hc
  · match N, ps, hps, hp, hN with
    | 0, _, _, _, _ => exact pairs_empty W cap ao C _ (by omega) (by omega)
    | n + 1, x :: ps, hps, hp, hN =>
      obtain ⟨g, o, rfl, _⟩ := hp 0 x rfl
      refine pairs_true W cap g o (n + 1) C bo M D (x :: ps) zs hN hM hps hzs (fun k y s hk => ?_) hz (by omega) (by omega)
      obtain ⟨g', o', he, h1, h2⟩ := hp k _ hk
      cases he
      exact ⟨h1, h2⟩

set_option maxRecDepth 100000 in
set_option maxHeartbeats 1000000 in
theorem pairs_lifted (os : Os) (started : os.Started) (H : Type) (enc : TypeId × Value → H) :
    ReturnsInHanded {} Try.checked os 3 .any (Rows.ringPairsSpec.pre6 enc Try.prog Try.f3 Rows.ringPairsRow.domain false) (Rows.ringPairsSpec.post enc Try.prog Try.f3 false true false false) := by
  refine returnsInHanded_of_change_sized (C := Try.checked) Try.own started (by kernel_rfl) Try.func3
    (ChangeSpec.witness6 (enc := enc) (C := Try.checked) false ⟨#[], #[.int .i64 0, .slice none 0 0, .slice none 0 0], []⟩ 8 (by kernel_rfl) (by kernel_rfl) (by kernel_rfl) (by kernel_rfl)) ?_
  intro W base args ds gs before hval0 hW hcnd hsz0 _
  have hval : ∀ (j : Nat) t v, Try.f3.params[j]? = some t → args[j]? = some v → Value.okWide Try.prog W .any base t v := hval0
  have hsz : (DataW.weightsEach Try.prog (Try.f3.params.toList ++ Rows.ringPairsSpec.plain.varTypes Try.prog) (ds ++ gs)).all (· ≤ reachBytes) = true := hsz0
  have hW' := hW
  obtain ⟨p, q, hA0, hV, rfl, hfz, hnd⟩ := hW
  have hA : DataW.TrodAll enc Try.prog W 0 (fun _ => true) true Try.f3.params.toList args.toList ds p := hA0
  rw [Try.params3] at hA hval hsz
  obtain ⟨v0, v1, v2, d0, d1, d2, p0, p1, p2, rfl, rfl, rfl, h0, h1, h2⟩ := trodAll_three hA
  obtain ⟨rfl, rfl⟩ := trodVars_none hV
  obtain ⟨cap, rfl, rfl, rfl, wc⟩ := open_int Try.underlying3 (hval 0 3 v0 rfl rfl) h0
  obtain ⟨a1, l1, c1, rfl⟩ := okWide_slice Try.underlying22 (hval 1 22 v1 rfl rfl)
  obtain ⟨a2, l2, c2, rfl⟩ := okWide_slice Try.underlying23 (hval 2 23 v2 rfl rfl)
  obtain ⟨n1, h1⟩ := h1
  obtain ⟨n2, h2⟩ := h2
  obtain ⟨ao, N, C, ps, hcs1, hps, _, _, hx1, hx2, hx3, hp⟩ := open_rows (α := Int × ByteArray) 2 (by decide) (fun a x => W.cell? a = some (.int .i64 x.1) ∧ W.cell? ⟨a.block, a.off + 1, none⟩ = some (.string x.2)) Try.underlying22 (by kernel_rfl)
    (fun a n cs' d pl hc h => by
      have hf := row_struct Try.underlying30 (by kernel_rfl) a n cs' d pl hc h
      obtain ⟨m0, v0, y0, hv0, ht0⟩ := hf 0 _ rfl
      obtain ⟨m1, v1, y1, hv1, ht1⟩ := hf 1 _ rfl
      obtain ⟨x, hx, _, _⟩ := DataW.trod_int Try.underlying3 ht0
      obtain ⟨s, hs, _, _⟩ := DataW.trod_string Try.underlying9 ht1
      simp only [List.cons.injEq, and_true] at hx hs
      exact ⟨(x, s), hx ▸ hv0, hs ▸ hv1⟩) h1
  obtain ⟨bo, M, D, zs, hcs2, hzs, _, _, hy1, hy2, hy3, hz⟩ := open_rows (α := Int) 1 (by decide) (fun a x => W.cell? a = some (.int .i64 x)) Try.underlying23 (by kernel_rfl)
    (fun a n cs' d pl hc h => by
      obtain ⟨z, hz, _⟩ := row_int Try.underlying3 a n cs' d pl hc h
      exact ⟨z, hz⟩) h2
  simp [Value.cells] at hcs1 hcs2
  obtain ⟨rfl, rfl, rfl⟩ := hcs1
  obtain ⟨rfl, rfl, rfl⟩ := hcs2
  have hb1 := rows_fit (j := 1) (b := 24) hsz rfl rfl Try.underlying22 (by kernel_rfl) hx1 hx2 hx3
  have hb2 := rows_fit (j := 2) (b := 8) hsz rfl rfl Try.underlying23 (by kernel_rfl) hy1 hy2 hy3
  refine (pairs_any W cap a1 l1 c1 a2 l2 c2 ps zs (by omega) (by omega) hps hzs hp (fun k z hk => by simpa using hz k z hk)).mono fun e W' ⟨he, hF⟩ => ?_
  subst he
  exact ⟨_, rfl, law_post Try.laidOut (by kernel_rfl) rfl rfl (by kernel_rfl) rfl hW' hF⟩

theorem pairs_said : Rows.RingPairsSaid :=
  OpenClaim.holds_of_wide 3 Try.f3 rfl rfl rfl rfl rfl rfl rfl ⟨rfl, rfl, rfl, rfl, rfl⟩ rfl rfl rfl rfl rfl (by kernel_rfl) Try.func3 (by kernel_rfl)
    (of_decide_eq_true (by kernel_rfl)) (by unfold Func.isWrapper; first | (rw [if_pos (by decide +kernel)]; kernel_rfl) | (rw [if_neg (by decide +kernel)]; exact ⟨rfl, rfl⟩))
    (fun os started H enc _ => pairs_lifted os started H enc)
end Go.Proofs.Ytgofogcfolhonaa
