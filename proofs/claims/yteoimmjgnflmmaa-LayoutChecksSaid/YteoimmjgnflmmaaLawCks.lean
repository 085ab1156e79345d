/-
  LayoutChecks, walked: whatever the arena, the program and the reference agree on whether it may be.
-/
import Derived.Test.YteoimmjgnflmmaaAwk4
namespace Go.Proofs.Yteoimmjgnflmmaa
open Go.RowKit

set_option maxHeartbeats 400000 in
theorem checks_walk (k : Cfg) (w : World) : Calls Try.prog 3 #[.agg #[.int .i64 k.t, .int .i64 k.s, .int .i64 k.c, .int .i64 k.w, .int .i64 k.g, .int .i64 k.p, .int .i64 k.r]] w fun e w' => e = .returned (.bool true) ∧ Only [] w w' := by
  have hX := (Blk.new w #[.int .i64 k.t, .int .i64 k.s, .int .i64 k.c, .int .i64 k.w, .int .i64 k.g, .int .i64 k.p, .int .i64 k.r] 23).drew
  go_enter Try.func3, Try.ntmps3
  go_wp2
  go_region_held3 (fun w' => ∀ o, w'.cell? ⟨w.heap.size, o, none⟩ = (#[.int .i64 k.t, .int .i64 k.s, .int .i64 k.c, .int .i64 k.w, .int .i64 k.g, .int .i64 k.p, .int .i64 k.r] : Array Value)[o]?) ((refine Blk.cell (T := 23) ?_; repeat (first | with_reducible assumption | with_reducible apply Blk.drew | with_reducible apply Blk.alloc | (with_reducible refine Blk.only ?_ (by with_reducible assumption) List.not_mem_nil))))
    (first
      | (go_at_call 31; refine (awake4 _).mono ?_; rintro e w1 ⟨rfl, ho1⟩)
      | (go_at_call 32; refine (check_any k _).mono ?_; rintro e w' ⟨rfl, rfl⟩)
      | (go_at_call 33; refine (refcheck_any k _).mono ?_; rintro e w2 ⟨rfl, ho2⟩))
  all_goals
    have hO : Only [] w w2 := ((((Only.refl [] w).alloc _).drew.trans' ho1 (fun _ h _ => h)).alloc _).trans' ho2 (fun _ h _ => h)
    go_wp2
    go_ret
    exact ⟨rfl, hO⟩

end Go.Proofs.Yteoimmjgnflmmaa
