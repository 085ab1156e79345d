/-
  The first of the laws' guards: a fresh arena's memory is as long as it must be, and the like: it answers true.
-/
import Derived.Test.YteoimmjgnflmmaaNew
namespace Go.Proofs.Yteoimmjgnflmmaa
open Go.RowKit

def kA : Cfg := ⟨2, 3, 2, 20, 9, 0, 1⟩
theorem kA_ok : kA.Ok := ⟨by decide, by decide, by decide, by decide, by decide, by decide, by decide, by decide, by decide, by decide, by decide, by decide, by decide, by decide⟩
theorem kA_len : ((freshS kA).ws.length : Int) = 60 := by decide +kernel
theorem kA_alen : aLen kA = 60 := by decide +kernel
theorem kA_top : (freshS kA).get 1 = 1 := by decide +kernel

set_option maxHeartbeats 1600000 in
theorem awake4 (w : World) : Calls Try.prog 31 #[] w fun e w' => e = .returned (.bool true) ∧ Only [] w w' := by
  go_enter Try.func31, Try.ntmps31
  go_wp2_with fail
  refine (fresh_yes kA kA_ok _).mono ?_
  rintro e w1 ⟨m, rfl, hm1, hn1, ho1⟩
  have hX1 := (Blk.new w #[.int .i64 2, .int .i64 3, .int .i64 2, .int .i64 20, .int .i64 9, .int .i64 0, .int .i64 1] 23).only ho1 (by simp)
  have hx := hX1.drew.cell
  have hsz := hX1.lt
  go_wp2_with fail
  have l1 := kA_len
  have l3 := kA_top
  have l5 : cls 3 = 1 := by decide
  have l6 : room 1 = 5 := by decide
  have l4 : aLen ⟨2, 3, 2, 20, 9, 0, 1⟩ = 60 := kA_alen
  go_region_held3 (fun w' => ∀ o, w'.cell? ⟨w.heap.size, o, none⟩ = (#[.int .i64 2, .int .i64 3, .int .i64 2, .int .i64 20, .int .i64 9, .int .i64 0, .int .i64 1] : Array Value)[o]?) ((refine Blk.cell (T := 23) ?_; repeat (first | exact hX1 | apply Blk.drew | apply Blk.alloc)))
    (first
      | (go_at_call 40; refine (len_any (m := m) (s := freshS kA) (by repeat (first | exact hm1 | apply MemR.alloc | apply MemR.drew))).mono ?_; rintro e w' ⟨rfl, rfl⟩)
      | (go_at_call 41; refine (lena_any _ ⟨2, 3, 2, 20, 9, 0, 1⟩).mono ?_; rintro e w' ⟨rfl, rfl⟩)
      | (go_at_call 46; refine (topa_any _).mono ?_; rintro e w' ⟨rfl, rfl⟩)
      | (go_at_call 44; refine (peek_any (m := m) (s := freshS kA) (by repeat (first | exact hm1 | apply MemR.alloc | apply MemR.drew))).mono ?_; rintro e w' ⟨rfl, rfl⟩)
      | (go_at_call 34; refine (class_any _ _).mono ?_; rintro e w' ⟨rfl, rfl⟩)
      | (go_at_call 36; refine (room_any _ _ (by decide)).mono ?_; rintro e w' ⟨rfl, rfl⟩))
  go_wp2
  go_ret
  exact ⟨rfl, (((((Only.refl _ w).alloc _).trans' ho1 (fun _ h _ => h)).alloc _).alloc _).drew⟩

end Go.Proofs.Yteoimmjgnflmmaa
