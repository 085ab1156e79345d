/-
  What the reference of layer 4 tells of sizes, and what stands at an address.
-/
import Derived.Test.YteoimmjgnflmmaaChk
namespace Go.Proofs.Yteoimmjgnflmmaa
open Go.RowKit

theorem cls_cases (n : Int) : (n < 1 ∧ cls n = -1) ∨ (1 ≤ n ∧ n ≤ 2 ∧ cls n = 0) ∨ (3 ≤ n ∧ n ≤ 4 ∧ cls n = 1) ∨ (5 ≤ n ∧ n ≤ 8 ∧ cls n = 2) ∨ (9 ≤ n ∧ n ≤ 16 ∧ cls n = 3) ∨ (17 ≤ n ∧ cls n = -1) := by
  unfold cls
  by_cases h0 : n < 1
  · simp [h0]
  by_cases h1 : n ≤ 2
  · simp [h0, h1]; omega
  by_cases h2 : n ≤ 4
  · simp [h0, h1, h2]; omega
  by_cases h3 : n ≤ 8
  · simp [h0, h1, h2, h3]; omega
  by_cases h4 : n ≤ 16
  · simp [h0, h1, h2, h3, h4]; omega
  · simp [h0, h1, h2, h3, h4]; omega

set_option maxHeartbeats 800000 in
theorem refclass_any (n : Int) (w : World) : Calls Try.prog 35 #[.int .i64 n] w fun e w' => e = .returned (.int .i64 (cls n)) ∧ Only [] w w' := by
  rcases cls_cases n with ⟨h0, hg⟩ | ⟨h0, h1, hg⟩ | ⟨h0, h1, hg⟩ | ⟨h0, h1, hg⟩ | ⟨h0, h1, hg⟩ | ⟨h0, hg⟩
  all_goals
    have HG := Lib.hid hg
    clear hg
    go_enter Try.func35, Try.ntmps35
    go_wp2
    first
      | (go_ret; exact ⟨by rw [HG.out]; rfl, (Only.refl _ _).alloc _⟩)
      | (go_rounds 5; go_ret; exact ⟨by rw [HG.out]; rfl, (Only.refl _ _).alloc _⟩)

theorem refroom_any (c : Int) (w : World) (h : c = 0 ∨ c = 1 ∨ c = 2 ∨ c = 3) : Calls Try.prog 37 #[.int .i64 c] w fun e w' => e = .returned (.int .i64 (room c)) ∧ Only [] w w' := by
  rcases h with rfl | rfl | rfl | rfl
  all_goals
    go_enter Try.func37, Try.ntmps37
    go_wp2
    go_ret
    exact ⟨rfl, (Only.refl _ _).alloc _⟩

theorem iand3 (n : Int) : bits .and .i64 n 3 = n % 4 := by
  have hk : (BitVec.ofInt 64 3).toNat = 2 ^ 2 - 1 := by decide
  have key : (BitVec.ofInt 64 n &&& BitVec.ofInt 64 3).toNat = (n % ((2 ^ 64 : Nat) : Int)).toNat % 2 ^ 2 := by
    rw [BitVec.toNat_and, BitVec.toNat_ofInt, hk, Nat.and_two_pow_sub_one_eq_mod]
  show IntKind.i64.wrap ((BitVec.ofInt 64 n &&& BitVec.ofInt 64 3).toNat : Nat) = n % 4
  rw [key, IntKind.wrap_i64]
  omega
theorem iand7 (n : Int) : bits .and .i64 n 7 = n % 8 := by
  have hk : (BitVec.ofInt 64 7).toNat = 2 ^ 3 - 1 := by decide
  have key : (BitVec.ofInt 64 n &&& BitVec.ofInt 64 7).toNat = (n % ((2 ^ 64 : Nat) : Int)).toNat % 2 ^ 3 := by
    rw [BitVec.toNat_and, BitVec.toNat_ofInt, hk, Nat.and_two_pow_sub_one_eq_mod]
  show IntKind.i64.wrap ((BitVec.ofInt 64 n &&& BitVec.ofInt 64 7).toNat : Nat) = n % 8
  rw [key, IntKind.wrap_i64]
  omega
theorem iand15 (n : Int) : bits .and .i64 n 15 = n % 16 := by
  have hk : (BitVec.ofInt 64 15).toNat = 2 ^ 4 - 1 := by decide
  have key : (BitVec.ofInt 64 n &&& BitVec.ofInt 64 15).toNat = (n % ((2 ^ 64 : Nat) : Int)).toNat % 2 ^ 4 := by
    rw [BitVec.toNat_and, BitVec.toNat_ofInt, hk, Nat.and_two_pow_sub_one_eq_mod]
  show IntKind.i64.wrap ((BitVec.ofInt 64 n &&& BitVec.ofInt 64 15).toNat : Nat) = n % 16
  rw [key, IntKind.wrap_i64]
  omega
theorem iand31 (n : Int) : bits .and .i64 n 31 = n % 32 := by
  have hk : (BitVec.ofInt 64 31).toNat = 2 ^ 5 - 1 := by decide
  have key : (BitVec.ofInt 64 n &&& BitVec.ofInt 64 31).toNat = (n % ((2 ^ 64 : Nat) : Int)).toNat % 2 ^ 5 := by
    rw [BitVec.toNat_and, BitVec.toNat_ofInt, hk, Nat.and_two_pow_sub_one_eq_mod]
  show IntKind.i64.wrap ((BitVec.ofInt 64 n &&& BitVec.ofInt 64 31).toNat : Nat) = n % 32
  rw [key, IntKind.wrap_i64]
  omega
theorem iand63 (n : Int) : bits .and .i64 n 63 = n % 64 := by
  have hk : (BitVec.ofInt 64 63).toNat = 2 ^ 6 - 1 := by decide
  have key : (BitVec.ofInt 64 n &&& BitVec.ofInt 64 63).toNat = (n % ((2 ^ 64 : Nat) : Int)).toNat % 2 ^ 6 := by
    rw [BitVec.toNat_and, BitVec.toNat_ofInt, hk, Nat.and_two_pow_sub_one_eq_mod]
  show IntKind.i64.wrap ((BitVec.ofInt 64 n &&& BitVec.ofInt 64 63).toNat : Nat) = n % 64
  rw [key, IntKind.wrap_i64]
  omega
theorem iand1023 (n : Int) : bits .and .i64 n 1023 = n % 1024 := by
  have hk : (BitVec.ofInt 64 1023).toNat = 2 ^ 10 - 1 := by decide
  have key : (BitVec.ofInt 64 n &&& BitVec.ofInt 64 1023).toNat = (n % ((2 ^ 64 : Nat) : Int)).toNat % 2 ^ 10 := by
    rw [BitVec.toNat_and, BitVec.toNat_ofInt, hk, Nat.and_two_pow_sub_one_eq_mod]
  show IntKind.i64.wrap ((BitVec.ofInt 64 n &&& BitVec.ofInt 64 1023).toNat : Nat) = n % 1024
  rw [key, IntKind.wrap_i64]
  omega

/-- The arena that a law takes in the place of what it is handed. -/
def conf (k : Cfg) : Cfg := ⟨1 + k.t % 4, 1 + k.s % 16, 1 + k.c % 8, 17 + k.w % 32, 1 + k.g % 1024, k.p % 1001, 1 + k.r % 4⟩
theorem conf_ok (k : Cfg) : (conf k).Ok := by
  unfold conf
  constructor <;> simp only <;> omega

set_option maxHeartbeats 800000 in
theorem config_any (k : Cfg) (w : World) : Calls Try.prog 38 #[.agg #[.int .i64 k.t, .int .i64 k.s, .int .i64 k.c, .int .i64 k.w, .int .i64 k.g, .int .i64 k.p, .int .i64 k.r]] w fun e w' => e = .returned (.agg #[.int .i64 (conf k).t, .int .i64 (conf k).s, .int .i64 (conf k).c, .int .i64 (conf k).w, .int .i64 (conf k).g, .int .i64 (conf k).p, .int .i64 (conf k).r]) ∧ Only [] w w' := by
  have e0 : bits .and .i64 k.t 3 = k.t % 4 := iand3 k.t
  have e1 : bits .and .i64 k.s 15 = k.s % 16 := iand15 k.s
  have e2 : bits .and .i64 k.c 7 = k.c % 8 := iand7 k.c
  have e3 : bits .and .i64 k.w 31 = k.w % 32 := iand31 k.w
  have e4 : bits .and .i64 k.g 1023 = k.g % 1024 := iand1023 k.g
  have e6 : bits .and .i64 k.r 3 = k.r % 4 := iand3 k.r
  have a0 : 0 ≤ k.t % 4 := by omega
  have b0 : k.t % 4 < 4 := by omega
  have a1 : 0 ≤ k.s % 16 := by omega
  have b1 : k.s % 16 < 16 := by omega
  have a2 : 0 ≤ k.c % 8 := by omega
  have b2 : k.c % 8 < 8 := by omega
  have a3 : 0 ≤ k.w % 32 := by omega
  have b3 : k.w % 32 < 32 := by omega
  have a4 : 0 ≤ k.g % 1024 := by omega
  have b4 : k.g % 1024 < 1024 := by omega
  have a6 : 0 ≤ k.r % 4 := by omega
  have b6 : k.r % 4 < 4 := by omega
  have hp : (wrap64 (k.p.tmod 1001 + 1001)).tmod 1001 = k.p % 1001 := by
    have h1 : wrap64 (k.p.tmod 1001 + 1001) = k.p.tmod 1001 + 1001 := by
      unfold wrap64
      rw [tmod_eq_if]
      split <;> omega
    rw [h1, tmod_eq_if, tmod_eq_if]
    split <;> split <;> omega
  have HP := Lib.hid hp
  clear hp
  go_enter Try.func38, Try.ntmps38
  go_wp2
  refine bodyPost_ret (v := .agg #[.int .i64 (1 + k.t % 4), .int .i64 (1 + k.s % 16), .int .i64 (1 + k.c % 8), .int .i64 (17 + k.w % 32), .int .i64 (1 + k.g % 1024), .int .i64 ((wrap64 (k.p.tmod 1001 + 1001)).tmod 1001), .int .i64 (1 + k.r % 4)]) (by simp [results, Try.results38, go_sem]) rfl ⟨?_, ((Only.refl _ _).alloc _).alloc _⟩
  rw [HP.out]
  rfl

/-- What stands at an address: its kind, of which one, which word of it. -/
def kindOf (k : Cfg) (a : Int) : Int × Int × Int :=
  if a < 0 then (-1, 0, 0) else if a < 1 then (0, a, 0) else if a < 2 then (1, a - 1, 0) else if a < 6 then (2, a - 1 - 1, 0)
  else if a < 6 + k.t then (3, a - 1 - 1 - 4, 0)
  else if a < 6 + k.t + 2 * k.s then (4 + (a - 1 - 1 - 4 - k.t) % 2, (a - 1 - 1 - 4 - k.t) / 2, 0)
  else if a < 6 + k.t + 2 * k.s + 3 * k.c then (6 + (a - 1 - 1 - 4 - k.t - 2 * k.s) % 3, (a - 1 - 1 - 4 - k.t - 2 * k.s) / 3, 0)
  else if a < 6 + k.t + 2 * k.s + 3 * k.c + k.c * k.w then (9, (a - 1 - 1 - 4 - k.t - 2 * k.s - 3 * k.c) / k.w, (a - 1 - 1 - 4 - k.t - 2 * k.s - 3 * k.c) % k.w)
  else (-1, 0, 0)

set_option maxHeartbeats 1600000 in
theorem kind_lo (k : Cfg) (hk : k.Ok) (a : Int) (h0 : -9223372036854775808 ≤ a) (h1 : a < 6) (w : World) :
    Calls Try.prog 42 #[.agg #[.int .i64 k.t, .int .i64 k.s, .int .i64 k.c, .int .i64 k.w, .int .i64 k.g, .int .i64 k.p, .int .i64 k.r], .int .i64 a] w fun e w' => e = .returned (.tuple #[.int .i64 (kindOf k a).1, .int .i64 (kindOf k a).2.1, .int .i64 (kindOf k a).2.2]) ∧ Only [] w w' := by
  have hm0 : 0 ≤ k.c * k.w := Int.mul_nonneg (by have := hk.c0; omega) (by have := hk.w0; omega)
  have hm1 : k.c * k.w ≤ 64 * 256 := Int.mul_le_mul hk.c1 hk.w1 (by have := hk.w0; omega) (by decide)
  obtain ⟨t0, t1, s0, s1, c0, c1, w0, w1, g0, g1, p0, p1, r0, r1⟩ := hk
  clear g0 g1 p0 p1 r0 r1
  have hq : (a < 0 ∧ kindOf k a = (-1, 0, 0)) ∨ (0 ≤ a ∧ a < 1 ∧ kindOf k a = (0, a, 0)) ∨ (1 ≤ a ∧ a < 2 ∧ kindOf k a = (1, a - 1, 0)) ∨ (2 ≤ a ∧ a < 6 ∧ kindOf k a = (2, a - 1 - 1, 0)) := by
    unfold kindOf
    by_cases q0 : a < 0
    · simp [q0]
    by_cases q1 : a < 1
    · simp [q0, q1]; omega
    by_cases q2 : a < 2
    · simp [q0, q1, q2]; omega
    · simp [q0, q1, q2, h1]; omega
  rcases hq with ⟨q0, hg⟩ | ⟨q0, q1, hg⟩ | ⟨q0, q1, hg⟩ | ⟨q0, q1, hg⟩
  all_goals
    have HG := Lib.hid hg
    clear hg
    go_enter Try.func42, Try.ntmps42
    go_wp2
    first
      | (go_ret3; exact ⟨by rw [HG.out]; rfl, (Only.refl _ _).alloc _⟩)
      | (go_rounds 8; go_ret3; exact ⟨by rw [HG.out]; rfl, ((Only.refl _ _).alloc _).alloc _⟩)

set_option maxHeartbeats 1600000 in
theorem kind_mid (k : Cfg) (hk : k.Ok) (a : Int) (h0 : 6 ≤ a) (h1 : a < 6 + k.t + 2 * k.s + 3 * k.c) (w : World) :
    Calls Try.prog 42 #[.agg #[.int .i64 k.t, .int .i64 k.s, .int .i64 k.c, .int .i64 k.w, .int .i64 k.g, .int .i64 k.p, .int .i64 k.r], .int .i64 a] w fun e w' => e = .returned (.tuple #[.int .i64 (kindOf k a).1, .int .i64 (kindOf k a).2.1, .int .i64 (kindOf k a).2.2]) ∧ Only [] w w' := by
  have hm0 : 0 ≤ k.c * k.w := Int.mul_nonneg (by have := hk.c0; omega) (by have := hk.w0; omega)
  have hm1 : k.c * k.w ≤ 64 * 256 := Int.mul_le_mul hk.c1 hk.w1 (by have := hk.w0; omega) (by decide)
  obtain ⟨t0, t1, s0, s1, c0, c1, w0, w1, g0, g1, p0, p1, r0, r1⟩ := hk
  clear g0 g1 p0 p1 r0 r1
  have hq : (a < 6 + k.t ∧ kindOf k a = (3, a - 1 - 1 - 4, 0)) ∨ (6 + k.t ≤ a ∧ a < 6 + k.t + 2 * k.s ∧ kindOf k a = (4 + (a - 1 - 1 - 4 - k.t) % 2, (a - 1 - 1 - 4 - k.t) / 2, 0)) ∨ (6 + k.t + 2 * k.s ≤ a ∧ kindOf k a = (6 + (a - 1 - 1 - 4 - k.t - 2 * k.s) % 3, (a - 1 - 1 - 4 - k.t - 2 * k.s) / 3, 0)) := by
    unfold kindOf
    rw [if_neg (by omega), if_neg (by omega), if_neg (by omega), if_neg (by omega)]
    by_cases q0 : a < 6 + k.t
    · simp [q0]
    by_cases q1 : a < 6 + k.t + 2 * k.s
    · simp [q0, q1]; omega
    · simp [q0, q1, h1]; omega
  rcases hq with ⟨q0, hg⟩ | ⟨q0, q1, hg⟩ | ⟨q0, hg⟩
  all_goals
    have HG := Lib.hid hg
    clear hg
    go_enter Try.func42, Try.ntmps42
    go_wp2
    go_rounds 8
    go_ret3
    exact ⟨by rw [HG.out]; rfl, ((Only.refl _ _).alloc _).alloc _⟩

set_option maxHeartbeats 1600000 in
theorem kind_hi (k : Cfg) (hk : k.Ok) (a : Int) (h1 : 6 + k.t + 2 * k.s + 3 * k.c ≤ a) (h2 : a < 9223372036854775808) (w : World) :
    Calls Try.prog 42 #[.agg #[.int .i64 k.t, .int .i64 k.s, .int .i64 k.c, .int .i64 k.w, .int .i64 k.g, .int .i64 k.p, .int .i64 k.r], .int .i64 a] w fun e w' => e = .returned (.tuple #[.int .i64 (kindOf k a).1, .int .i64 (kindOf k a).2.1, .int .i64 (kindOf k a).2.2]) ∧ Only [] w w' := by
  have hm0 : 0 ≤ k.c * k.w := Int.mul_nonneg (by have := hk.c0; omega) (by have := hk.w0; omega)
  have hm1 : k.c * k.w ≤ 64 * 256 := Int.mul_le_mul hk.c1 hk.w1 (by have := hk.w0; omega) (by decide)
  obtain ⟨t0, t1, s0, s1, c0, c1, w0, w1, g0, g1, p0, p1, r0, r1⟩ := hk
  clear g0 g1 p0 p1 r0 r1
  by_cases q0 : a < 6 + k.t + 2 * k.s + 3 * k.c + k.c * k.w
  · have hg : kindOf k a = (9, (a - 1 - 1 - 4 - k.t - 2 * k.s - 3 * k.c) / k.w, (a - 1 - 1 - 4 - k.t - 2 * k.s - 3 * k.c) % k.w) := by
      unfold kindOf
      rw [if_neg (by omega), if_neg (by omega), if_neg (by omega), if_neg (by omega), if_neg (by omega), if_neg (by omega), if_neg (by omega), if_pos q0]
    have HG := Lib.hid hg
    clear hg
    have x0 : 0 ≤ a - 1 - 1 - 4 - k.t - 2 * k.s - 3 * k.c := by omega
    have x1 : a - 1 - 1 - 4 - k.t - 2 * k.s - 3 * k.c < 65536 := by omega
    have d0 : 0 ≤ (a - 1 - 1 - 4 - k.t - 2 * k.s - 3 * k.c) / k.w := Int.ediv_nonneg x0 (by omega)
    have d1 : (a - 1 - 1 - 4 - k.t - 2 * k.s - 3 * k.c) / k.w ≤ a - 1 - 1 - 4 - k.t - 2 * k.s - 3 * k.c := Int.ediv_le_self _ x0
    have e1 : (a - 1 - 1 - 4 - k.t - 2 * k.s - 3 * k.c).tdiv k.w = (a - 1 - 1 - 4 - k.t - 2 * k.s - 3 * k.c) / k.w := Int.tdiv_eq_ediv_of_nonneg x0
    have e2 : (a - 1 - 1 - 4 - k.t - 2 * k.s - 3 * k.c).tmod k.w = (a - 1 - 1 - 4 - k.t - 2 * k.s - 3 * k.c) % k.w := Int.tmod_eq_emod_of_nonneg x0
    have e3 : IntKind.i64.wrap ((a - 1 - 1 - 4 - k.t - 2 * k.s - 3 * k.c) / k.w) = (a - 1 - 1 - 4 - k.t - 2 * k.s - 3 * k.c) / k.w := IntWalk.i64_in _ (by omega)
    have e4 : (k.w == 0) = false := by simp; omega
    have e5 : ¬ k.w = 0 := by omega
    go_enter Try.func42, Try.ntmps42
    go_wp2
    go_rounds 8
    go_quiet (fail)
    go_wp2
    go_ret3
    exact ⟨by rw [HG.out]; rfl, (((Only.refl _ _).alloc _).alloc _).drewN _⟩
  · have hg : kindOf k a = (-1, 0, 0) := by
      unfold kindOf
      rw [if_neg (by omega), if_neg (by omega), if_neg (by omega), if_neg (by omega), if_neg (by omega), if_neg (by omega), if_neg (by omega), if_neg q0]
    have HG := Lib.hid hg
    clear hg
    go_enter Try.func42, Try.ntmps42
    go_wp2
    go_rounds 8
    go_ret3
    exact ⟨by rw [HG.out]; rfl, ((Only.refl _ _).alloc _).alloc _⟩

theorem kind_any (k : Cfg) (hk : k.Ok) (a : Int) (h0 : -9223372036854775808 ≤ a) (h2 : a < 9223372036854775808) (w : World) :
    Calls Try.prog 42 #[.agg #[.int .i64 k.t, .int .i64 k.s, .int .i64 k.c, .int .i64 k.w, .int .i64 k.g, .int .i64 k.p, .int .i64 k.r], .int .i64 a] w fun e w' => e = .returned (.tuple #[.int .i64 (kindOf k a).1, .int .i64 (kindOf k a).2.1, .int .i64 (kindOf k a).2.2]) ∧ Only [] w w' := by
  by_cases q0 : a < 6
  · exact kind_lo k hk a h0 q0 w
  · by_cases q1 : a < 6 + k.t + 2 * k.s + 3 * k.c
    · exact kind_mid k hk a (by omega) q1 w
    · exact kind_hi k hk a (by omega) h2 w

end Go.Proofs.Yteoimmjgnflmmaa
