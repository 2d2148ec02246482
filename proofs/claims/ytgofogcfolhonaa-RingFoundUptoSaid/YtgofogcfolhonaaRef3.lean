/- The document's ring: New; made. . -/
import Derived.Test.YtgofogcfolhonaaRef2
set_option linter.unusedVariables false
set_option linter.unusedSimpArgs false
namespace Go.Proofs.Ytgofogcfolhonaa
open Go Go.RowKit

set_option maxRecDepth 100000 in
set_option maxHeartbeats 1000000 in
theorem ref_new (w : World) (cap : Nat) (h1 : 1 ≤ cap) (h2 : cap ≤ 1048576) :
    Calls Try.prog 61 #[.int .i64 cap] w fun e w' => e = .returned (.tuple #[.agg #[.int .i64 cap, .slice none 0 0, .int .i64 0], .int .i64 0]) ∧ Frm (fun _ => False) w w' := by
  go_enter Try.func61, Try.ntmps61
  go_wp2
  exact bodyPost_ret (v := .tuple #[.agg #[.int .i64 (cap : Int), .slice none 0 0, .int .i64 0], .int .i64 0]) (by simp [results, Try.results61, go_sem]) rfl ⟨rfl, Frm.alloc _ w _⟩

set_option maxRecDepth 100000 in
set_option maxHeartbeats 1000000 in
theorem ref_new_bad (w : World) (cap : Int) (h1 : cap < 1 ∨ 1048576 < cap) :
    Calls Try.prog 61 #[.int .i64 cap] w fun e w' => e = .returned (.tuple #[.agg #[.int .i64 0, .slice none 0 0, .int .i64 0], .int .i64 20]) ∧ Frm (fun _ => False) w w' := by
  go_enter Try.func61, Try.ntmps61
  by_cases h2 : cap < 1
  · go_wp2
    exact bodyPost_ret (v := .tuple #[.agg #[.int .i64 0, .slice none 0 0, .int .i64 0], .int .i64 20]) (by simp [results, Try.results61, go_sem]) rfl ⟨rfl, Frm.alloc _ w _⟩
  · have h3 : 1048576 < cap := by omega
    go_wp2
    exact bodyPost_ret (v := .tuple #[.agg #[.int .i64 0, .slice none 0 0, .int .i64 0], .int .i64 20]) (by simp [results, Try.results61, go_sem]) rfl ⟨rfl, Frm.alloc _ w _⟩
end Go.Proofs.Ytgofogcfolhonaa
