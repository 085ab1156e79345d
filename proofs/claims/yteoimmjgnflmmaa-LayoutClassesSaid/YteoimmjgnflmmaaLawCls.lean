/-
  LayoutClasses, walked.
-/
import Derived.Test.YteoimmjgnflmmaaAwk4
import Derived.Test.YteoimmjgnflmmaaRef1
namespace Go.Proofs.Yteoimmjgnflmmaa
open Go.RowKit

set_option maxHeartbeats 1600000 in
theorem classes_walk (n : Int) (_ : I64 n) (w : World) : Calls Try.prog 4 #[.int .i64 n] w fun e w' => e = .returned (.bool true) ∧ Only [] w w' := by
  have r0 : room 0 = 3 := by decide
  have r1 : room 1 = 5 := by decide
  have r2 : room 2 = 9 := by decide
  have r3 : room 3 = 17 := by decide
  rcases cls_cases n with ⟨h0, hg⟩ | ⟨h0, h1, hg⟩ | ⟨h0, h1, hg⟩ | ⟨h0, h1, hg⟩ | ⟨h0, h1, hg⟩ | ⟨h0, hg⟩
  all_goals
    go_enter Try.func4, Try.ntmps4
    go_wp2_with (first
      | (go_at_call 34; refine (class_any _ _).mono ?_; rintro e w' ⟨rfl, rfl⟩)
      | (go_at_call 31; refine (awake4 _).mono ?_; rintro e w' ⟨rfl, ho⟩)
      | (go_at_call 35; refine (refclass_any _ _).mono ?_; rintro e w' ⟨rfl, ho⟩)
      | (go_at_call 36; refine (room_any _ _ (by decide)).mono ?_; rintro e w' ⟨rfl, rfl⟩)
      | (go_at_call 37; refine (refroom_any _ _ (by decide)).mono ?_; rintro e w' ⟨rfl, ho⟩))
    go_ret
    refine ⟨by first | rfl | (congr 1; simp; omega), ?_⟩
    repeat (first | with_reducible exact Only.refl _ _ | with_reducible assumption | with_reducible apply Only.drew | with_reducible apply Only.drewN | with_reducible apply Only.alloc | (with_reducible refine Only.trans' ?_ (by with_reducible assumption) (fun _ h _ => h)))

end Go.Proofs.Yteoimmjgnflmmaa
