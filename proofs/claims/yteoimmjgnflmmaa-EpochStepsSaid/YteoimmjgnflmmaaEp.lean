/-
  The arenas of the epoch's laws, and their guard.
-/
import Derived.Test.YteoimmjgnflmmaaAdv2
import Derived.Test.YteoimmjgnflmmaaRef
namespace Go.Proofs.Yteoimmjgnflmmaa
open Go.RowKit

def kE2 : Cfg := ⟨2, 1, 1, 20, 100, 600, 3⟩
theorem kE2_ok : kE2.Ok := by constructor <;> decide
theorem kE2_len : (freshS kE2).ws.length = 33 := by decide +kernel
theorem kE2_all : AllOk (freshS kE2).ws 2 := fun i hi => .inl ((by decide +kernel : ∀ i, i < 2 → (freshS kE2).ws.getD (6 + i) 0 = 0) i hi)
theorem kE2_zero : (freshS kE2).ws.getD 0 0 = 0 := by decide +kernel

set_option maxHeartbeats 1600000 in
theorem awake13 (w : World) : Calls Try.prog 58 #[] w fun e w' => e = .returned (.bool true) ∧ Only [] w w' := by
  go_enter Try.func58, Try.ntmps58
  go_wp2_with fail
  refine (arena_yes kE2 kE2_ok rfl rfl rfl _).mono ?_
  rintro e w1 ⟨m, rfl, hm1, hn1, ho1⟩
  obtain ⟨hl1, hl2, hl3⟩ := hm1.lts
  have hE1 := Blk.new w1 #[.int .i64 kE2.t, .int .i64 kE2.s, .int .i64 kE2.c, .int .i64 kE2.w, .int .i64 kE2.g, .int .i64 kE2.p, .int .i64 kE2.r, .pointer (some ⟨m.b, 0, none⟩), .int .i64 0] 47
  obtain ⟨hn1, hn2, hn3⟩ := hn1
  have hz := ho1.size
  have hMd := (hm1.alloc (.cells #[.int .i64 kE2.t, .int .i64 kE2.s, .int .i64 kE2.c, .int .i64 kE2.w, .int .i64 kE2.g, .int .i64 kE2.p, .int .i64 kE2.r, .pointer (some ⟨m.b, 0, none⟩), .int .i64 0] 47)).drew
  have hEd := hE1.drew
  have hnx : w1.heap.size ∉ m.l := hm1.notin (Nat.le_refl _)
  have hO1 : Only [] w (w1.alloc (.cells #[.int .i64 kE2.t, .int .i64 kE2.s, .int .i64 kE2.c, .int .i64 kE2.w, .int .i64 kE2.g, .int .i64 kE2.p, .int .i64 kE2.r, .pointer (some ⟨m.b, 0, none⟩), .int .i64 0] 47)).drew := (ho1.alloc _).drew
  go_wp2
  go_region_held3 (fun w' => ∀ o, w'.cell? ⟨w1.heap.size, o, none⟩ = (#[.int .i64 kE2.t, .int .i64 kE2.s, .int .i64 kE2.c, .int .i64 kE2.w, .int .i64 kE2.g, .int .i64 kE2.p, .int .i64 kE2.r, .pointer (some ⟨m.b, 0, none⟩), .int .i64 0] : Array Value)[o]?) (first | exact hEd.cell | exact hE2.cell)
    (first
      | (go_at_call 60; with_reducible refine (advance_any kE2 0 2 true hMd rfl (by decide) (by decide) (by rw [kE2_len]; decide) ⟨fun _ => kE2_all, fun _ => rfl⟩).mono ?_; rintro e w2 ⟨rfl, ⟨s2, hM2, hws⟩, ho2⟩; have hE2 := hEd.only ho2 hnx; have hv : s2.get 0 = 1 := (by rw [get_ok _ _ ⟨by decide, by rw [hws]; simp [kE2_len]⟩]; unfold MS.at; rw [hws, kE2_zero]; decide +kernel))
      | (go_at_call 45; refine (epoch_any _).mono ?_; rintro e w' ⟨rfl, rfl⟩)
      | (go_at_call 44; with_reducible refine (peek_any hM2).mono ?_; rintro e w' ⟨rfl, rfl⟩))
  all_goals
    go_wp2
    go_ret
    refine ⟨rfl, hO1.trans' ho2 ?_⟩
    intro x hx _
    simp only [List.mem_cons, List.not_mem_nil, or_false] at hx
    omega

theorem uand_bits (n : Int) (h : U64 n) : bits .and .u64 n 65535 = n % 65536 := by
  have hk : (BitVec.ofInt 64 65535).toNat = 2 ^ 16 - 1 := by decide
  have key : (BitVec.ofInt 64 n &&& BitVec.ofInt 64 65535).toNat = (n % ((2 ^ 64 : Nat) : Int)).toNat % 2 ^ 16 := by
    rw [BitVec.toNat_and, BitVec.toNat_ofInt, hk, Nat.and_two_pow_sub_one_eq_mod]
  show IntKind.u64.wrap ((BitVec.ofInt 64 n &&& BitVec.ofInt 64 65535).toNat : Nat) = n % 65536
  rw [key, IntKind.wrap_u64]
  obtain ⟨h0, h1⟩ := h
  omega
theorem uand_u64 (n : Int) (h : U64 n) : U64 (bits .and .u64 n 65535) := by
  rw [uand_bits n h]; unfold U64; omega

end Go.Proofs.Yteoimmjgnflmmaa
