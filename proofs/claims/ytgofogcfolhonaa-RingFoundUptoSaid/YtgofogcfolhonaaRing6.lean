/- The ring's At. -/
import Derived.Test.YtgofogcfolhonaaRing4
import Derived.Deep.RegionHeld
set_option linter.unusedVariables false
set_option linter.unusedSimpArgs false
namespace Go.Proofs.Ytgofogcfolhonaa
open Go Go.RowKit

set_option maxRecDepth 100000 in
set_option maxHeartbeats 1000000 in
theorem ring_at {w : World} {b T g cap q : Nat} {l : List UInt8} (r : RAt w b T g cap q l) (i : Nat) (x : UInt8) (hx : l[i]? = some x) :
    Calls Try.prog 70 #[.pointer (some ⟨b, 0, none⟩), .int .i64 i] w fun e w' => e = .returned (.tuple #[.int .u8 x.toNat, .bool true]) ∧ Frm (fun _ => False) w w' := by
  have hi := (List.getElem?_eq_some_iff.1 hx).1
  have hmax := r.max
  have hfit := r.fits
  have hpos := r.pos
  obtain ⟨j, hj⟩ : ∃ j, (q + i) % cap = j := ⟨_, rfl⟩
  have hm : j < cap := by rw [← hj]; exact Nat.mod_lt _ hpos
  obtain ⟨c0, c1, c2⟩ := three_cell r.blk
  obtain ⟨st, ho, hst⟩ := r.store
  have hsx := hst i x hx
  rw [hj] at hsx
  have hcell : w.cell? ⟨g, 0 + j, none⟩ = some (.int .u8 (x.toNat : Int)) := by
    obtain ⟨h1, _, _, he, _, _, hc⟩ := ho.toR
    cases he
    obtain ⟨g', o', he', hc2⟩ := hc hpos
    cases he'
    rw [hc2 _ (by omega), u8s_at, hsx]; rfl
  rw [Nat.zero_add] at hcell
  have HS := Lib.hid hsx
  have HT := Lib.hid hst
  have HX := Lib.hid hx
  clear hsx hst hx ho
  go_enter Try.func70, Try.ntmps70
  go_wp2_with (go_at_call 42; refine (ring_len r).mono ?_; rintro e w' ⟨rfl, rfl⟩)
  have hpl : ∀ w' : World, w'.heap = w.heap → Calls Try.prog 62 #[.pointer (some ⟨b, 0, none⟩), .int .i64 i] w' fun e w2 => e = .returned (.int .i64 (j : Int)) ∧ w2 = w'.drew := fun w' hw => by
    have hc : ∀ p : Addr, w'.cell? p = w.cell? p := fun p => World.cell?_of_block (by rw [hw])
    have r' : RAt w' b T g cap q l := ⟨by rw [hw]; exact r.blk, r.ne, r.pos, r.max, r.head, r.fits, let ⟨st, ho, hs⟩ := r.store; ⟨st, ho.frame (fun k _ _ => by rw [hw]), hs⟩⟩
    have := ring_place r' i (by omega)
    rw [hj] at this
    exact this
  clear r hj
  go_region_held (fun w' => w'.heap = w.heap ∧ w'.os = w.os ∧ w'.tape = w.tape ∧ w'.output = w.output ∧ w'.cell? ⟨b, 0, none⟩ = some (.slice (some ⟨g, 0, none⟩) cap cap) ∧ w'.cell? ⟨g, j, none⟩ = some (.int .u8 (x.toNat : Int))) (first | exact ⟨rfl, rfl, rfl, rfl, c0, hcell⟩ | simp_all) (first | (go_at_call 62; refine (hpl _ (by simp [*])).mono ?_; rintro e w' ⟨rfl, rfl⟩))
  all_goals go_wp2
  all_goals go_ret2
  all_goals exact ⟨rfl, rfl, rfl, rfl, Nat.le_refl _, fun _ _ _ => rfl⟩
end Go.Proofs.Ytgofogcfolhonaa
