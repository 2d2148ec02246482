/- 'steady' answers true, and nothing old has turned. -/
import Derived.Test.YtgofogcfolhonaaQue
set_option linter.unusedVariables false
set_option linter.unusedSimpArgs false
namespace Go.Proofs.Ytgofogcfolhonaa
open Go Go.RowKit

theorem QAt.fresh (w : World) (T size : Nat) (m : Int) : QAt (w.alloc (.cells #[.int .i64 m, .slice none 0 0] T)) w.heap.size T size m (.slice none 0 0) 0 [] :=
  ⟨heap_alloc_new w _, OSl.nil _ _, by simp [Value.ownBlock]⟩

set_option maxRecDepth 100000 in
set_option maxHeartbeats 400000 in
theorem steady_true (w : World) : Calls Try.prog 14 #[] w fun e w' => e = .returned (.bool true) ∧ Frm (fun _ => False) w w' := by
  have hq0 := Lib.hid (QAt.fresh w 106 1 1)
  go_enter Try.func14, Try.ntmps14
  go_wp2_with (go_at_call 19; refine (text_new (by omega) (by omega)).mono ?_; rintro e w1 ⟨rfl, rfl⟩)
  refine (text_push hq0.out (by omega) (by omega) _).mono ?_
  rintro e w1 ⟨rfl, v1, hq1, hf1, hv1⟩
  have HQ1 := Lib.hid hq1
  clear hq1
  go_wp2_with fail
  refine (text_push_full HQ1.out (by omega) _).mono ?_
  rintro e w2 ⟨rfl, hf2⟩
  have HQ2 := Lib.hid (HQ1.out.same hf2)
  go_wp2_with fail
  refine (text_pop _ HQ2.out).mono ?_
  rintro e w3 ⟨rfl, v3, hq3, hf3, hv3⟩
  go_wp2
  go_ret
  refine ⟨rfl, ((((Frm.alloc _ w _).fresh hf1 fun i hi h => ?_).trans hf2).fresh hf3 fun i hi h => ?_)⟩
  · rcases h with rfl | h
    · omega
    · cases h
  · rcases h with rfl | h
    · omega
    · rcases hv1 i h with h | h
      · cases h
      · simp at h; omega
end Go.Proofs.Ytgofogcfolhonaa
