/-
  Where things stand in an arena, in plain numbers; and that the functions of package layout come to these numbers.
-/
import Derived.Test.YteoimmjgnflmmaaWord
import Derived.Handy
namespace Go.Proofs.Yteoimmjgnflmmaa
open Go.RowKit

def aOpen (i : Int) : Int := wrap64 (2 + i)
def aPin (i : Int) : Int := wrap64 (6 + i)
def aSlot (k : Cfg) (i : Int) : Int := wrap64 (wrap64 (6 + k.t) + wrap64 (2 * i))
def aChunk (k : Cfg) (i : Int) : Int := wrap64 (wrap64 (wrap64 (6 + k.t) + wrap64 (2 * k.s)) + wrap64 (3 * i))
def aBase (k : Cfg) (i : Int) : Int := wrap64 (wrap64 (wrap64 (wrap64 (6 + k.t) + wrap64 (2 * k.s)) + wrap64 (3 * k.c)) + wrap64 (k.w * i))
def aLen (k : Cfg) : Int := aBase k k.c

section
variable (w : World) (k : Cfg) (i : Int)
theorem epoch_any : Calls Try.prog 45 #[] w fun e w' => e = .returned (.int .i64 0) ∧ w = w' := by
  go_enter Try.func45, Try.ntmps45
  go_wp2
  go_ret
  exact ⟨rfl, rfl⟩
theorem topa_any : Calls Try.prog 46 #[] w fun e w' => e = .returned (.int .i64 1) ∧ w = w' := by
  go_enter Try.func46, Try.ntmps46
  go_wp2
  go_ret
  exact ⟨rfl, rfl⟩
theorem open_any : Calls Try.prog 47 #[.int .i64 i] w fun e w' => e = .returned (.int .i64 (aOpen i)) ∧ w = w' := by
  go_enter Try.func47, Try.ntmps47
  go_wp2
  go_ret
  exact ⟨rfl, rfl⟩
theorem pin_any : Calls Try.prog 48 #[.int .i64 i] w fun e w' => e = .returned (.int .i64 (aPin i)) ∧ w = w' := by
  go_enter Try.func48, Try.ntmps48
  go_wp2
  go_ret
  exact ⟨rfl, rfl⟩
theorem slota_any : Calls Try.prog 49 #[.agg #[.int .i64 k.t, .int .i64 k.s, .int .i64 k.c, .int .i64 k.w, .int .i64 k.g, .int .i64 k.p, .int .i64 k.r], .int .i64 i] w fun e w' => e = .returned (.int .i64 (aSlot k i)) ∧ w' = w.alloc (.cells #[.int .i64 k.t, .int .i64 k.s, .int .i64 k.c, .int .i64 k.w, .int .i64 k.g, .int .i64 k.p, .int .i64 k.r] 23) := by
  go_enter Try.func49, Try.ntmps49
  go_wp2
  go_ret
  exact ⟨rfl, rfl⟩
theorem chunka_any : Calls Try.prog 50 #[.agg #[.int .i64 k.t, .int .i64 k.s, .int .i64 k.c, .int .i64 k.w, .int .i64 k.g, .int .i64 k.p, .int .i64 k.r], .int .i64 i] w fun e w' => e = .returned (.int .i64 (aChunk k i)) ∧ w' = w.alloc (.cells #[.int .i64 k.t, .int .i64 k.s, .int .i64 k.c, .int .i64 k.w, .int .i64 k.g, .int .i64 k.p, .int .i64 k.r] 23) := by
  go_enter Try.func50, Try.ntmps50
  go_wp2
  go_ret
  exact ⟨rfl, rfl⟩
theorem base_any : Calls Try.prog 51 #[.agg #[.int .i64 k.t, .int .i64 k.s, .int .i64 k.c, .int .i64 k.w, .int .i64 k.g, .int .i64 k.p, .int .i64 k.r], .int .i64 i] w fun e w' => e = .returned (.int .i64 (aBase k i)) ∧ w' = w.alloc (.cells #[.int .i64 k.t, .int .i64 k.s, .int .i64 k.c, .int .i64 k.w, .int .i64 k.g, .int .i64 k.p, .int .i64 k.r] 23) := by
  go_enter Try.func51, Try.ntmps51
  go_wp2
  go_ret
  exact ⟨rfl, rfl⟩
theorem lena_any : Calls Try.prog 41 #[.agg #[.int .i64 k.t, .int .i64 k.s, .int .i64 k.c, .int .i64 k.w, .int .i64 k.g, .int .i64 k.p, .int .i64 k.r]] w fun e w' => e = .returned (.int .i64 (aLen k)) ∧ w' = (w.alloc (.cells #[.int .i64 k.t, .int .i64 k.s, .int .i64 k.c, .int .i64 k.w, .int .i64 k.g, .int .i64 k.p, .int .i64 k.r] 23)).alloc (.cells #[.int .i64 k.t, .int .i64 k.s, .int .i64 k.c, .int .i64 k.w, .int .i64 k.g, .int .i64 k.p, .int .i64 k.r] 23) := by
  go_enter Try.func41, Try.ntmps41
  go_wp2_with (go_at_call 51; refine (base_any _ k _).mono ?_; rintro e w' ⟨rfl, rfl⟩)
  go_ret
  exact ⟨rfl, rfl⟩
end

/-- An arena that may be such. -/
structure Cfg.Ok (k : Cfg) : Prop where
  t0 : 1 ≤ k.t
  t1 : k.t ≤ 8
  s0 : 1 ≤ k.s
  s1 : k.s ≤ 65536
  c0 : 1 ≤ k.c
  c1 : k.c ≤ 64
  w0 : 17 ≤ k.w
  w1 : k.w ≤ 256
  g0 : 1 ≤ k.g
  g1 : k.g ≤ 65535
  p0 : 0 ≤ k.p
  p1 : k.p ≤ 1000
  r0 : 1 ≤ k.r
  r1 : k.r ≤ 16

set_option maxHeartbeats 400000 in
theorem check_yes (k : Cfg) (h : k.Ok) (w : World) : Calls Try.prog 32 #[.agg #[.int .i64 k.t, .int .i64 k.s, .int .i64 k.c, .int .i64 k.w, .int .i64 k.g, .int .i64 k.p, .int .i64 k.r]] w fun e w' => e = .returned (.bool true) ∧ Only [] w w' := by
  obtain ⟨t0, t1, s0, s1, c0, c1, w0, w1, g0, g1, p0, p1, r0, r1⟩ := h
  go_enter Try.func32, Try.ntmps32
  go_wp2
  go_ret
  exact ⟨rfl, (Only.refl _ _).alloc _⟩

def cls (n : Int) : Int := if n < 1 then -1 else if n ≤ 2 then 0 else if n ≤ 4 then 1 else if n ≤ 8 then 2 else if n ≤ 16 then 3 else -1
def room (c : Int) : Int := if c = 0 then 3 else if c = 1 then 5 else if c = 2 then 9 else if c = 3 then 17 else 0

theorem room_any (c : Int) (w : World) (h : c = 0 ∨ c = 1 ∨ c = 2 ∨ c = 3 ∨ c = -1) : Calls Try.prog 36 #[.int .i64 c] w fun e w' => e = .returned (.int .i64 (room c)) ∧ w = w' := by
  rcases h with rfl | rfl | rfl | rfl | rfl
  all_goals
    go_enter Try.func36, Try.ntmps36
    go_wp2
    go_ret
    exact ⟨rfl, rfl⟩

set_option maxHeartbeats 400000 in
theorem class_any (n : Int) (w : World) : Calls Try.prog 34 #[.int .i64 n] w fun e w' => e = .returned (.int .i64 (cls n)) ∧ w = w' := by
  have hz : (n < 1 ∧ cls n = -1) ∨ (1 ≤ n ∧ n ≤ 2 ∧ cls n = 0) ∨ (3 ≤ n ∧ n ≤ 4 ∧ cls n = 1) ∨ (5 ≤ n ∧ n ≤ 8 ∧ cls n = 2) ∨ (9 ≤ n ∧ n ≤ 16 ∧ cls n = 3) ∨ (17 ≤ n ∧ cls n = -1) := by
    unfold cls
    by_cases h0 : n < 1
    · simp [h0]
    by_cases h1 : n ≤ 2
    · simp [h0, h1]; omega
    by_cases h2 : n ≤ 4
    · simp [h0, h1, h2]; omega
    by_cases h3 : n ≤ 8
    · simp [h0, h1, h2, h3]; omega
    by_cases h4 : n ≤ 16
    · simp [h0, h1, h2, h3, h4]; omega
    · simp [h0, h1, h2, h3, h4]; omega
  rcases hz with ⟨h0, hg⟩ | ⟨h0, h1, hg⟩ | ⟨h0, h1, hg⟩ | ⟨h0, h1, hg⟩ | ⟨h0, h1, hg⟩ | ⟨h0, hg⟩
  all_goals
    have HG := Lib.hid hg
    clear hg
    go_enter Try.func34, Try.ntmps34
    go_wp2
    go_rounds 5
    go_ret
    exact ⟨by rw [HG.out]; rfl, rfl⟩

def aOf (k : Cfg) (a : Int) : Int := if a < aBase k 0 ∨ aLen k ≤ a then -1 else (a - aBase k 0) / k.w
theorem aBase_ok {k : Cfg} (h : k.Ok) {i : Int} (h0 : 0 ≤ i) (h1 : i ≤ 65536) : aBase k i = 6 + k.t + 2 * k.s + 3 * k.c + k.w * i := by
  obtain ⟨t0, t1, s0, s1, c0, c1, w0, w1, g0, g1, p0, p1, r0, r1⟩ := h
  have hm : 0 ≤ k.w * i ∧ k.w * i ≤ 256 * 65536 := ⟨Int.mul_nonneg (by omega) h0, Int.mul_le_mul w1 h1 h0 (by decide)⟩
  generalize hq : k.w * i = q at *
  unfold aBase wrap64
  rw [hq]
  omega
theorem aChunk_ok {k : Cfg} (h : k.Ok) {i : Int} (h0 : 0 ≤ i) (h1 : i ≤ 65536) : aChunk k i = 6 + k.t + 2 * k.s + 3 * i := by
  obtain ⟨t0, t1, s0, s1, c0, c1, w0, w1, g0, g1, p0, p1, r0, r1⟩ := h
  unfold aChunk wrap64
  omega
theorem aSlot_ok {k : Cfg} (h : k.Ok) {i : Int} (h0 : 0 ≤ i) (h1 : i ≤ 131072) : aSlot k i = 6 + k.t + 2 * i := by
  obtain ⟨t0, t1, s0, s1, c0, c1, w0, w1, g0, g1, p0, p1, r0, r1⟩ := h
  unfold aSlot wrap64
  omega
theorem aLen_ok {k : Cfg} (h : k.Ok) : aLen k = 6 + k.t + 2 * k.s + 3 * k.c + k.w * k.c := aBase_ok h (by have := h.c0; omega) (by have := h.c1; omega)

set_option maxHeartbeats 400000 in
theorem of_any (k : Cfg) (h : k.Ok) (a : Int) (w : World) (ha : -9223372036854775808 ≤ a) (ha1 : a < 9223372036854775808) : Calls Try.prog 52 #[.agg #[.int .i64 k.t, .int .i64 k.s, .int .i64 k.c, .int .i64 k.w, .int .i64 k.g, .int .i64 k.p, .int .i64 k.r], .int .i64 a] w fun e w' => e = .returned (.int .i64 (aOf k a)) ∧ Only [] w w' := by
  have hb := aBase_ok h (i := 0) (by decide) (by decide)
  have hl := aLen_ok h
  have hm : 0 ≤ k.w * k.c := Int.mul_nonneg (by have := h.w0; omega) (by have := h.c0; omega)
  have hm2 : k.w * k.c ≤ 256 * 64 := Int.mul_le_mul h.w1 h.c1 (by have := h.c0; omega) (by decide)
  obtain ⟨t0, t1, s0, s1, c0, c1, w0, w1, g0, g1, p0, p1, r0, r1⟩ := h
  by_cases h1 : a < aBase k 0
  · have hg : aOf k a = -1 := by unfold aOf; rw [if_pos (.inl h1)]
    have HG := Lib.hid hg
    clear hg hb hl hm hm2
    go_enter Try.func52, Try.ntmps52
    go_wp2_with (first | (go_at_call 51; refine (base_any _ k _).mono ?_; rintro e w' ⟨rfl, rfl⟩))
    go_ret
    exact ⟨by rw [HG.out]; rfl, ((Only.refl _ _).alloc _).alloc _⟩
  · by_cases h2 : aLen k ≤ a
    · have hg : aOf k a = -1 := by unfold aOf; rw [if_pos (.inr h2)]
      have HG := Lib.hid hg
      have h3 : aBase k 0 ≤ a := by omega
      clear hg hb hl hm hm2 h1
      go_enter Try.func52, Try.ntmps52
      go_wp2_with (first | (go_at_call 51; refine (base_any _ k _).mono ?_; rintro e w' ⟨rfl, rfl⟩) | (go_at_call 41; refine (lena_any _ k).mono ?_; rintro e w' ⟨rfl, rfl⟩))
      go_ret
      exact ⟨by rw [HG.out]; rfl, ((((Only.refl _ _).alloc _).alloc _).alloc _).alloc _⟩
    · have hg : aOf k a = (a - aBase k 0) / k.w := by unfold aOf; rw [if_neg (by omega)]
      have HG := Lib.hid hg
      have h3 : aBase k 0 ≤ a := by omega
      have h4 : a < aLen k := by omega
      have h5 : 0 ≤ aBase k 0 := by omega
      have h6 : aBase k 0 ≤ 1000000 := by omega
      have h7 : a ≤ 1000000 := by omega
      clear hg hb hl hm hm2 h1 h2
      go_enter Try.func52, Try.ntmps52
      go_wp2_with (first | (go_at_call 51; refine (base_any _ k _).mono ?_; rintro e w' ⟨rfl, rfl⟩) | (go_at_call 41; refine (lena_any _ k).mono ?_; rintro e w' ⟨rfl, rfl⟩))
      go_ret
      exact ⟨by rw [HG.out]; rfl, ((((Only.refl _ _).alloc _).alloc _).alloc _).alloc _⟩

end Go.Proofs.Yteoimmjgnflmmaa
