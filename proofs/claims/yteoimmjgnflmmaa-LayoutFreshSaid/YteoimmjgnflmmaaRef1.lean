/-
  What the reference of layer 1 packs a free slot's first word to.
-/
import Derived.Test.YteoimmjgnflmmaaRef
namespace Go.Proofs.Yteoimmjgnflmmaa
open Go.RowKit

set_option maxHeartbeats 800000 in
theorem power_any (n : Nat) (hn : n ≤ 62) (w : World) : Calls Try.prog 115 #[.int .i64 (n : Int)] w fun e w' => e = .returned (.int .u64 ((2 ^ n : Nat) : Int)) ∧ w = w' := by
  go_enter Try.func115, Try.ntmps115
  go_wp2
  go_loop [3, 4] (fun x i => ∃ j : Nat, j ≤ n ∧ i = .int .i64 j ∧ x = .int .u64 ((2 ^ j : Nat) : Int)) (fun _ i => n - (intOf i).toNat)
  case atStart => exact ⟨0, by omega, rfl, rfl⟩
  case round =>
    obtain ⟨j, hj, rfl, rfl⟩ := hrel
    have hp : 2 ^ j ≤ 2 ^ 62 := Nat.pow_le_pow_right (by decide) (by omega)
    have hp0 : 0 < 2 ^ j := Nat.pow_pos (by decide)
    have hs : 2 ^ (j + 1) = 2 ^ j * 2 := Nat.pow_succ 2 j
    have HS := Lib.hid hs
    clear hs
    by_cases hlt : j < n
    · generalize hq : 2 ^ j = q at *
      have HQ := Lib.hid hq
      clear hq
      go_wp2
      go_round
      case rel => exact ⟨j + 1, by omega, by go_num, by rw [HS.out]; go_num⟩
      case measure => simp [intOf]; omega
    · have hjn : j = n := by omega
      subst hjn
      generalize hq : 2 ^ j = q at *
      have HQ := Lib.hid hq
      clear hq
      go_wp2
      go_ret
      exact ⟨by rw [← HQ.out]; rfl, rfl⟩

set_option maxHeartbeats 1600000 in
theorem put_gen1 (b1 b2 : Nat) (w : World) (h1 : Blk w b1 #[.int .i64 0, .int .i64 0, .int .i64 1, .int .i64 0] 3) (h2 : Blk w b2 #[.int .i64 3, .int .i64 20, .int .i64 16, .int .i64 22] 3) :
    Calls Try.prog 103 #[.slice (some ⟨b1, 0, none⟩) 4 4, .slice (some ⟨b2, 0, none⟩) 4 4] w fun e w' => e = .returned (.int .u64 8388608) ∧ w = w' := by
  have c1 := h1.cell
  have c2 := h2.cell
  have P1 : Hid (∀ w : World, Calls Try.prog 115 #[.int .i64 3] w fun e w' => e = .returned (.int .u64 8) ∧ w = w') := Lib.hid (fun w => power_any 3 (by decide) w)
  have P2 : Hid (∀ w : World, Calls Try.prog 115 #[.int .i64 20] w fun e w' => e = .returned (.int .u64 1048576) ∧ w = w') := Lib.hid (fun w => power_any 20 (by decide) w)
  have P3 : Hid (∀ w : World, Calls Try.prog 115 #[.int .i64 16] w fun e w' => e = .returned (.int .u64 65536) ∧ w = w') := Lib.hid (fun w => power_any 16 (by decide) w)
  have P4 : Hid (∀ w : World, Calls Try.prog 115 #[.int .i64 22] w fun e w' => e = .returned (.int .u64 4194304) ∧ w = w') := Lib.hid (fun w => power_any 22 (by decide) w)
  go_enter Try.func103, Try.ntmps103
  go_wp2
  refine wp_loop_rounds 5 ?_
  rw [rounds_succ]
  go_wp2_with fail
  refine (P1.out _).mono ?_; rintro e w' ⟨rfl, rfl⟩
  go_wp2_with fail
  refine (P1.out _).mono ?_; rintro e w' ⟨rfl, rfl⟩
  go_wp2
  rw [rounds_succ]
  go_wp2_with fail
  refine (P2.out _).mono ?_; rintro e w' ⟨rfl, rfl⟩
  go_wp2_with fail
  refine (P2.out _).mono ?_; rintro e w' ⟨rfl, rfl⟩
  go_wp2
  rw [rounds_succ]
  go_wp2_with fail
  refine (P3.out _).mono ?_; rintro e w' ⟨rfl, rfl⟩
  go_wp2_with fail
  refine (P3.out _).mono ?_; rintro e w' ⟨rfl, rfl⟩
  go_wp2
  rw [rounds_succ]
  go_wp2_with fail
  refine (P4.out _).mono ?_; rintro e w' ⟨rfl, rfl⟩
  go_wp2_with fail
  refine (P4.out _).mono ?_; rintro e w' ⟨rfl, rfl⟩
  go_wp2
  rw [rounds_succ]
  go_wp2
  go_ret
  exact ⟨rfl, rfl⟩

set_option maxHeartbeats 800000 in
/-- The word of a slot that is free, in its first life. -/
theorem refslot_gen1 (w : World) : Calls Try.prog 43 #[.agg #[.int .i64 0, .int .i64 0, .int .i64 1, .int .i64 0]] w fun e w' => e = .returned (.int .u64 8388608) ∧ Only [] w w' := by
  go_enter Try.func43, Try.ntmps43
  go_wp2_with fail
  refine (put_gen1 _ _ _ ((Blk.new' (by simp) rfl).alloc _) (Blk.new' (by simp) rfl)).mono ?_
  rintro e w' ⟨rfl, rfl⟩
  go_wp2
  go_ret
  exact ⟨rfl, (((Only.refl _ _).alloc _).alloc _).alloc _⟩

end Go.Proofs.Yteoimmjgnflmmaa
