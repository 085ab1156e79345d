/-
  What words are packed to and read as, in plain numbers; and that the functions of package word come to these numbers.
-/
import Derived.Test.YteoimmjgnflmmaaMem
namespace Go.Proofs.Yteoimmjgnflmmaa
open Go.RowKit

def fit (n k : Int) : Int := if n < 0 then 0 else if k < n then k else n
theorem fit_bd (n k : Int) (hk : 0 ≤ k) : 0 ≤ fit n k ∧ fit n k ≤ k := by unfold fit; split <;> (try split) <;> omega

theorem bor (i : Nat) (a b : Int) (h0 : 0 ≤ a) (h1 : a < ((2 ^ i : Nat) : Int)) (h2 : 0 ≤ b) (h3 : b % ((2 ^ i : Nat) : Int) = 0) (h4 : b < 18446744073709551616) (h5 : a < 18446744073709551616) : bits .or .u64 a b = a + b := by
  obtain ⟨x, rfl⟩ := Int.eq_ofNat_of_zero_le h0
  obtain ⟨y, rfl⟩ := Int.eq_ofNat_of_zero_le h2
  rw [u64_or_nat x y (by omega) (by omega), Nat.or_comm, nat_join i y x (by omega) (by omega)]
  omega
theorem band (i : Nat) (x k : Int) (hk : k = ((2 ^ i : Nat) : Int) - 1) (h0 : 0 ≤ x) (h1 : x < 18446744073709551616) (hk2 : k < 18446744073709551616) : bits .and .u64 x k = x % (k + 1) := by
  obtain ⟨n, rfl⟩ := Int.eq_ofNat_of_zero_le h0
  have hp : 0 < 2 ^ i := Nat.pos_of_ne_zero (by simp)
  have e : k = ((2 ^ i - 1 : Nat) : Int) := by omega
  subst e
  rw [u64_and_nat n _ (by omega) (by omega), Nat.and_two_pow_sub_one_eq_mod, show ((2 ^ i - 1 : Nat) : Int) + 1 = ((2 ^ i : Nat) : Int) from by omega]
  rfl

set_option maxHeartbeats 400000 in
theorem fit_any (n k : Int) (w : World) (hk : 0 ≤ k) (hk2 : k < 9223372036854775808) :
    Calls Try.prog 109 #[.int .i64 n, .int .i64 k] w fun e w' => e = .returned (.int .u64 (fit n k)) ∧ w' = w := by
  by_cases h1 : n < 0
  · have hg : fit n k = 0 := by unfold fit; rw [if_pos h1]
    have HG := Lib.hid hg
    clear hg
    go_enter Try.func109, Try.ntmps109
    go_wp2
    all_goals
      go_ret
      refine ⟨?_, rfl⟩
      rw [HG.out]
      first | rfl | (exfalso; omega)
  · by_cases h2 : k < n
    · have hg : fit n k = k := by unfold fit; rw [if_neg h1, if_pos h2]
      have HG := Lib.hid hg
      clear hg
      go_enter Try.func109, Try.ntmps109
      go_wp2
      go_ret
      exact ⟨by rw [HG.out]; rfl, rfl⟩
    · have hg : fit n k = n := by unfold fit; rw [if_neg h1, if_neg h2]
      have HG := Lib.hid hg
      clear hg
      go_enter Try.func109, Try.ntmps109
      go_wp2
      go_ret
      exact ⟨by rw [HG.out]; rfl, rfl⟩

def putTop (s c : Int) : Int := (if 65535 < s then 65536 else s + 1) + fit c 68719476735 * 131072
def topS (x : Int) : Int := x % 131072 - 1
def topN (x : Int) : Int := x / 131072 % 68719476736
theorem putTop_rng {s c : Int} (hs : -1 ≤ s) : U64 (putTop s c) := by
  have := fit_bd c 68719476735 (by decide)
  unfold putTop U64
  split <;> omega

set_option maxHeartbeats 400000 in
theorem top_any (x : Int) (w : World) (hx : U64 x) :
    Calls Try.prog 80 #[.int .u64 x] w fun e w' => e = .returned (.tuple #[.int .i64 (topS x), .int .i64 (topN x)]) ∧ w = w' := by
  obtain ⟨hx0, hx1⟩ := hx
  have h1 : bits .and .u64 x 131071 = x % 131072 := band 17 x 131071 (by decide) hx0 hx1 (by decide)
  have h2 : bits .and .u64 (x / 131072) 68719476735 = x / 131072 % 68719476736 := band 36 _ 68719476735 (by decide) (by omega) (by omega) (by decide)
  have h3 : 0 ≤ x % 131072 ∧ x % 131072 < 131072 := by omega
  have h4 : 0 ≤ x / 131072 % 68719476736 ∧ x / 131072 % 68719476736 < 68719476736 := by omega
  obtain ⟨h5, h6⟩ := h3
  obtain ⟨h7, h8⟩ := h4
  go_enter Try.func80, Try.ntmps80
  go_wp2
  go_ret2
  exact ⟨rfl, rfl⟩

set_option maxHeartbeats 400000 in
theorem puttop_any (s c : Int) (w : World) (hs : -1 ≤ s) (hs1 : s < 9223372036854775807) :
    Calls Try.prog 102 #[.int .i64 s, .int .i64 c] w fun e w' => e = .returned (.int .u64 (putTop s c)) ∧ w = w' := by
  have hf := fit_bd c 68719476735 (by decide)
  obtain ⟨hf0, hf1⟩ := hf
  by_cases h : 65535 < s
  · have hg : bits .or .u64 (fit 65536 65536) (fit c 68719476735 * 131072) = putTop s c := by
      rw [show fit 65536 65536 = 65536 from by decide, bor 17 _ _ (by decide) (by decide) (by omega) (by omega) (by omega) (by decide)]; unfold putTop; rw [if_pos h]
    have HG := Lib.hid hg
    clear hg
    go_enter Try.func102, Try.ntmps102
    go_wp2_with (first | (go_at_call 109; refine (fit_any _ _ _ (by decide) (by decide)).mono ?_; rintro e w' ⟨rfl, rfl⟩))
    go_ret
    exact ⟨by rw [← HG.out]; rfl, rfl⟩
  · have hg : bits .or .u64 (fit (s + 1) 65536) (fit c 68719476735 * 131072) = putTop s c := by
      have e : fit (s + 1) 65536 = s + 1 := by unfold fit; rw [if_neg (by omega), if_neg (by omega)]
      rw [e, bor 17 _ _ (by omega) (by omega) (by omega) (by omega) (by omega) (by omega)]; unfold putTop; rw [if_neg h]
    have HG := Lib.hid hg
    clear hg
    go_enter Try.func102, Try.ntmps102
    go_wp2_with (first | (go_at_call 109; refine (fit_any _ _ _ (by decide) (by decide)).mono ?_; rintro e w' ⟨rfl, rfl⟩))
    go_ret
    exact ⟨by rw [← HG.out]; rfl, rfl⟩

def putSlot (st ad gn vr : Int) : Int := fit st 7 + fit ad 1048575 * 8 + fit gn 65535 * 8388608 + fit vr 4194303 * 549755813888
theorem putSlot_rng (st ad gn vr : Int) : U64 (putSlot st ad gn vr) := by
  have := fit_bd st 7 (by decide)
  have := fit_bd ad 1048575 (by decide)
  have := fit_bd gn 65535 (by decide)
  have := fit_bd vr 4194303 (by decide)
  unfold putSlot U64; omega

set_option maxHeartbeats 400000 in
theorem putslot_any (st ad gn vr : Int) (w : World) :
    Calls Try.prog 101 #[.agg #[.int .i64 st, .int .i64 ad, .int .i64 gn, .int .i64 vr]] w fun e w' => e = .returned (.int .u64 (putSlot st ad gn vr)) ∧ Only [] w w' := by
  obtain ⟨a0, a1⟩ := fit_bd st 7 (by decide)
  obtain ⟨b0, b1⟩ := fit_bd ad 1048575 (by decide)
  obtain ⟨c0, c1⟩ := fit_bd gn 65535 (by decide)
  obtain ⟨d0, d1⟩ := fit_bd vr 4194303 (by decide)
  have hg : bits .or .u64 (bits .or .u64 (bits .or .u64 (fit st 7) (fit ad 1048575 * 8)) (fit gn 65535 * 8388608)) (fit vr 4194303 * 549755813888) = putSlot st ad gn vr := by
    rw [bor 3 (fit st 7) _ (by omega) (by omega) (by omega) (by omega) (by omega) (by omega), bor 23 _ (fit gn 65535 * 8388608) (by omega) (by omega) (by omega) (by omega) (by omega) (by omega), bor 39 _ (fit vr 4194303 * 549755813888) (by omega) (by omega) (by omega) (by omega) (by omega) (by omega)]
    rfl
  have HG := Lib.hid hg
  clear hg
  have e1 : IntKind.u64.wrap (fit ad 1048575 * 8) = fit ad 1048575 * 8 := by rw [IntKind.wrap_u64]; omega
  have e2 : IntKind.u64.wrap (fit gn 65535 * 8388608) = fit gn 65535 * 8388608 := by rw [IntKind.wrap_u64]; omega
  have e3 : IntKind.u64.wrap (fit vr 4194303 * 549755813888) = fit vr 4194303 * 549755813888 := by rw [IntKind.wrap_u64]; omega
  go_enter Try.func101, Try.ntmps101
  go_wp2
  go_quiet ((go_at_call 109; exact Calls.quiet_of_same (fit_any _ _ _ (by decide) (by decide))))
  go_wp2
  go_ret
  exact ⟨by rw [← HG.out]; rfl, ((Only.refl _ _).alloc _).drewN _⟩

def putChunk (st cl us sp : Int) : Int := fit st 3 + fit cl 63 * 4 + fit us 1048575 * 256 + fit sp 68719476735 * 268435456
theorem putChunk_rng (st cl us sp : Int) : U64 (putChunk st cl us sp) := by
  have := fit_bd st 3 (by decide)
  have := fit_bd cl 63 (by decide)
  have := fit_bd us 1048575 (by decide)
  have := fit_bd sp 68719476735 (by decide)
  unfold putChunk U64; omega

set_option maxHeartbeats 400000 in
theorem putchunk_any (st cl us sp : Int) (w : World) :
    Calls Try.prog 87 #[.agg #[.int .i64 st, .int .i64 cl, .int .i64 us, .int .i64 sp]] w fun e w' => e = .returned (.int .u64 (putChunk st cl us sp)) ∧ Only [] w w' := by
  obtain ⟨a0, a1⟩ := fit_bd st 3 (by decide)
  obtain ⟨b0, b1⟩ := fit_bd cl 63 (by decide)
  obtain ⟨c0, c1⟩ := fit_bd us 1048575 (by decide)
  obtain ⟨d0, d1⟩ := fit_bd sp 68719476735 (by decide)
  have hg : bits .or .u64 (bits .or .u64 (bits .or .u64 (fit st 3) (fit cl 63 * 4)) (fit us 1048575 * 256)) (fit sp 68719476735 * 268435456) = putChunk st cl us sp := by
    rw [bor 2 (fit st 3) _ (by omega) (by omega) (by omega) (by omega) (by omega) (by omega), bor 8 _ (fit us 1048575 * 256) (by omega) (by omega) (by omega) (by omega) (by omega) (by omega), bor 28 _ (fit sp 68719476735 * 268435456) (by omega) (by omega) (by omega) (by omega) (by omega) (by omega)]
    rfl
  have HG := Lib.hid hg
  clear hg
  have e1 : IntKind.u64.wrap (fit cl 63 * 4) = fit cl 63 * 4 := by rw [IntKind.wrap_u64]; omega
  have e2 : IntKind.u64.wrap (fit us 1048575 * 256) = fit us 1048575 * 256 := by rw [IntKind.wrap_u64]; omega
  have e3 : IntKind.u64.wrap (fit sp 68719476735 * 268435456) = fit sp 68719476735 * 268435456 := by rw [IntKind.wrap_u64]; omega
  go_enter Try.func87, Try.ntmps87
  go_wp2
  go_quiet ((go_at_call 109; exact Calls.quiet_of_same (fit_any _ _ _ (by decide) (by decide))))
  go_wp2
  go_ret
  exact ⟨by rw [← HG.out]; rfl, ((Only.refl _ _).alloc _).drewN _⟩

def putHandle (sl gn : Int) : Int := fit sl 65535 + fit gn 65535 * 65536
theorem putHandle_rng (sl gn : Int) : U64 (putHandle sl gn) := by
  have := fit_bd sl 65535 (by decide)
  have := fit_bd gn 65535 (by decide)
  unfold putHandle U64; omega

set_option maxHeartbeats 400000 in
theorem puthandle_any (sl gn : Int) (w : World) :
    Calls Try.prog 112 #[.agg #[.int .i64 sl, .int .i64 gn]] w fun e w' => e = .returned (.int .u64 (putHandle sl gn)) ∧ Only [] w w' := by
  obtain ⟨a0, a1⟩ := fit_bd sl 65535 (by decide)
  obtain ⟨b0, b1⟩ := fit_bd gn 65535 (by decide)
  have hg : bits .or .u64 (fit sl 65535) (fit gn 65535 * 65536) = putHandle sl gn := by
    rw [bor 16 (fit sl 65535) _ (by omega) (by omega) (by omega) (by omega) (by omega) (by omega)]
    rfl
  have HG := Lib.hid hg
  clear hg
  have e1 : IntKind.u64.wrap (fit gn 65535 * 65536) = fit gn 65535 * 65536 := by rw [IntKind.wrap_u64]; omega
  go_enter Try.func112, Try.ntmps112
  go_wp2
  go_quiet ((go_at_call 109; exact Calls.quiet_of_same (fit_any _ _ _ (by decide) (by decide))))
  go_wp2
  go_ret
  exact ⟨by rw [← HG.out]; rfl, ((Only.refl _ _).alloc _).drewN _⟩

def putHead (kd sz sl gn : Int) (own : Bool) : Int := fit kd 3 + fit sz 65535 * 4 + fit sl 65535 * 262144 + fit gn 65535 * 17179869184 + if own then 1125899906842624 else 0
theorem putHead_rng (kd sz sl gn : Int) (own : Bool) : U64 (putHead kd sz sl gn own) := by
  have := fit_bd kd 3 (by decide)
  have := fit_bd sz 65535 (by decide)
  have := fit_bd sl 65535 (by decide)
  have := fit_bd gn 65535 (by decide)
  unfold putHead U64; split <;> omega

set_option maxHeartbeats 400000 in
theorem puthead_any (kd sz sl gn : Int) (own : Bool) (w : World) :
    Calls Try.prog 116 #[.agg #[.int .i64 kd, .int .i64 sz, .int .i64 sl, .int .i64 gn, .bool own]] w fun e w' => e = .returned (.int .u64 (putHead kd sz sl gn own)) ∧ Only [] w w' := by
  obtain ⟨a0, a1⟩ := fit_bd kd 3 (by decide)
  obtain ⟨b0, b1⟩ := fit_bd sz 65535 (by decide)
  obtain ⟨c0, c1⟩ := fit_bd sl 65535 (by decide)
  obtain ⟨d0, d1⟩ := fit_bd gn 65535 (by decide)
  have hg : bits .or .u64 (bits .or .u64 (bits .or .u64 (fit kd 3) (fit sz 65535 * 4)) (fit sl 65535 * 262144)) (fit gn 65535 * 17179869184) = fit kd 3 + fit sz 65535 * 4 + fit sl 65535 * 262144 + fit gn 65535 * 17179869184 := by
    rw [bor 2 (fit kd 3) _ (by omega) (by omega) (by omega) (by omega) (by omega) (by omega), bor 18 _ (fit sl 65535 * 262144) (by omega) (by omega) (by omega) (by omega) (by omega) (by omega), bor 34 _ (fit gn 65535 * 17179869184) (by omega) (by omega) (by omega) (by omega) (by omega) (by omega)]
  have hg2 : bits .or .u64 (fit kd 3 + fit sz 65535 * 4 + fit sl 65535 * 262144 + fit gn 65535 * 17179869184) 1125899906842624 = fit kd 3 + fit sz 65535 * 4 + fit sl 65535 * 262144 + fit gn 65535 * 17179869184 + 1125899906842624 :=
    bor 50 _ 1125899906842624 (by omega) (by omega) (by omega) (by omega) (by omega) (by omega)
  have HG := Lib.hid hg
  have HG2 := Lib.hid hg2
  clear hg hg2
  have e1 : IntKind.u64.wrap (fit sz 65535 * 4) = fit sz 65535 * 4 := by rw [IntKind.wrap_u64]; omega
  have e2 : IntKind.u64.wrap (fit sl 65535 * 262144) = fit sl 65535 * 262144 := by rw [IntKind.wrap_u64]; omega
  have e3 : IntKind.u64.wrap (fit gn 65535 * 17179869184) = fit gn 65535 * 17179869184 := by rw [IntKind.wrap_u64]; omega
  cases own
  · have hz : putHead kd sz sl gn false = fit kd 3 + fit sz 65535 * 4 + fit sl 65535 * 262144 + fit gn 65535 * 17179869184 := by simp [putHead]
    have HZ := Lib.hid hz
    clear hz
    go_enter Try.func116, Try.ntmps116
    go_wp2
    go_quiet ((go_at_call 109; exact Calls.quiet_of_same (fit_any _ _ _ (by decide) (by decide))))
    go_wp2
    go_ret
    exact ⟨by rw [HZ.out, ← HG.out]; rfl, ((Only.refl _ _).alloc _).drewN _⟩
  · have hz : putHead kd sz sl gn true = fit kd 3 + fit sz 65535 * 4 + fit sl 65535 * 262144 + fit gn 65535 * 17179869184 + 1125899906842624 := by simp [putHead]
    have HZ := Lib.hid hz
    clear hz
    go_enter Try.func116, Try.ntmps116
    go_wp2
    go_quiet ((go_at_call 109; exact Calls.quiet_of_same (fit_any _ _ _ (by decide) (by decide))))
    go_wp2
    go_ret
    exact ⟨by rw [HZ.out, ← HG2.out, ← HG.out]; rfl, ((Only.refl _ _).alloc _).drewN _⟩

def slSt (x : Int) : Int := x % 8
def slAd (x : Int) : Int := x / 8 % 1048576
def slGn (x : Int) : Int := x / 8388608 % 65536
def slVr (x : Int) : Int := x / 549755813888 % 4194304
def chSt (x : Int) : Int := x % 4
def chCl (x : Int) : Int := x / 4 % 64
def chUs (x : Int) : Int := x / 256 % 1048576
def chSp (x : Int) : Int := x / 268435456 % 68719476736
def hdKd (x : Int) : Int := x % 4
def hdSz (x : Int) : Int := x / 4 % 65536
def hdSl (x : Int) : Int := x / 262144 % 65536
def hdGn (x : Int) : Int := x / 17179869184 % 65536
def hdOwn (x : Int) : Bool := x / 1125899906842624 % 2 == 1

set_option maxHeartbeats 400000 in
theorem slot_word (x : Int) (w : World) (hx : U64 x) :
    Calls Try.prog 98 #[.int .u64 x] w fun e w' => e = .returned (.agg #[.int .i64 (slSt x), .int .i64 (slAd x), .int .i64 (slGn x), .int .i64 (slVr x)]) ∧ Only [] w w' := by
  obtain ⟨hx0, hx1⟩ := hx
  have h1 : bits .and .u64 x 7 = x % 8 := band 3 x 7 (by decide) hx0 hx1 (by decide)
  have h2 : bits .and .u64 (x / 8) 1048575 = x / 8 % 1048576 := band 20 _ 1048575 (by decide) (by omega) (by omega) (by decide)
  have h3 : bits .and .u64 (x / 8388608) 65535 = x / 8388608 % 65536 := band 16 _ 65535 (by decide) (by omega) (by omega) (by decide)
  have h4 : bits .and .u64 (x / 549755813888) 4194303 = x / 549755813888 % 4194304 := band 22 _ 4194303 (by decide) (by omega) (by omega) (by decide)
  have q1 : 0 ≤ x % 8 := by omega
  have q2 : x % 8 < 8 := by omega
  have q3 : 0 ≤ x / 8 % 1048576 := by omega
  have q4 : x / 8 % 1048576 < 1048576 := by omega
  have q5 : 0 ≤ x / 8388608 % 65536 := by omega
  have q6 : x / 8388608 % 65536 < 65536 := by omega
  have q7 : 0 ≤ x / 549755813888 % 4194304 := by omega
  have q8 : x / 549755813888 % 4194304 < 4194304 := by omega
  go_enter Try.func98, Try.ntmps98
  go_wp2
  exact bodyPost_ret (v := .agg #[.int .i64 (slSt x), .int .i64 (slAd x), .int .i64 (slGn x), .int .i64 (slVr x)]) (by simp [results, Try.results98, go_sem, slSt, slAd, slGn, slVr]) rfl ⟨rfl, (Only.refl _ _).alloc _⟩

set_option maxHeartbeats 400000 in
theorem chunk_word (x : Int) (w : World) (hx : U64 x) :
    Calls Try.prog 83 #[.int .u64 x] w fun e w' => e = .returned (.agg #[.int .i64 (chSt x), .int .i64 (chCl x), .int .i64 (chUs x), .int .i64 (chSp x)]) ∧ Only [] w w' := by
  obtain ⟨hx0, hx1⟩ := hx
  have h1 : bits .and .u64 x 3 = x % 4 := band 2 x 3 (by decide) hx0 hx1 (by decide)
  have h2 : bits .and .u64 (x / 4) 63 = x / 4 % 64 := band 6 _ 63 (by decide) (by omega) (by omega) (by decide)
  have h3 : bits .and .u64 (x / 256) 1048575 = x / 256 % 1048576 := band 20 _ 1048575 (by decide) (by omega) (by omega) (by decide)
  have h4 : bits .and .u64 (x / 268435456) 68719476735 = x / 268435456 % 68719476736 := band 36 _ 68719476735 (by decide) (by omega) (by omega) (by decide)
  have q1 : 0 ≤ x % 4 := by omega
  have q2 : x % 4 < 4 := by omega
  have q3 : 0 ≤ x / 4 % 64 := by omega
  have q4 : x / 4 % 64 < 64 := by omega
  have q5 : 0 ≤ x / 256 % 1048576 := by omega
  have q6 : x / 256 % 1048576 < 1048576 := by omega
  have q7 : 0 ≤ x / 268435456 % 68719476736 := by omega
  have q8 : x / 268435456 % 68719476736 < 68719476736 := by omega
  go_enter Try.func83, Try.ntmps83
  go_wp2
  exact bodyPost_ret (v := .agg #[.int .i64 (chSt x), .int .i64 (chCl x), .int .i64 (chUs x), .int .i64 (chSp x)]) (by simp [results, Try.results83, go_sem, chSt, chCl, chUs, chSp]) rfl ⟨rfl, (Only.refl _ _).alloc _⟩

set_option maxHeartbeats 400000 in
theorem head_word (x : Int) (w : World) (hx : U64 x) :
    Calls Try.prog 114 #[.int .u64 x] w fun e w' => e = .returned (.agg #[.int .i64 (hdKd x), .int .i64 (hdSz x), .int .i64 (hdSl x), .int .i64 (hdGn x), .bool (hdOwn x)]) ∧ Only [] w w' := by
  obtain ⟨hx0, hx1⟩ := hx
  have h1 : bits .and .u64 x 3 = x % 4 := band 2 x 3 (by decide) hx0 hx1 (by decide)
  have h2 : bits .and .u64 (x / 4) 65535 = x / 4 % 65536 := band 16 _ 65535 (by decide) (by omega) (by omega) (by decide)
  have h3 : bits .and .u64 (x / 262144) 65535 = x / 262144 % 65536 := band 16 _ 65535 (by decide) (by omega) (by omega) (by decide)
  have h4 : bits .and .u64 (x / 17179869184) 65535 = x / 17179869184 % 65536 := band 16 _ 65535 (by decide) (by omega) (by omega) (by decide)
  have h5 : bits .and .u64 (x / 1125899906842624) 1 = x / 1125899906842624 % 2 := band 1 _ 1 (by decide) (by omega) (by omega) (by decide)
  have q1 : 0 ≤ x % 4 := by omega
  have q2 : x % 4 < 4 := by omega
  have q3 : 0 ≤ x / 4 % 65536 := by omega
  have q4 : x / 4 % 65536 < 65536 := by omega
  have q5 : 0 ≤ x / 262144 % 65536 := by omega
  have q6 : x / 262144 % 65536 < 65536 := by omega
  have q7 : 0 ≤ x / 17179869184 % 65536 := by omega
  have q8 : x / 17179869184 % 65536 < 65536 := by omega
  go_enter Try.func114, Try.ntmps114
  go_wp2
  exact bodyPost_ret (v := .agg #[.int .i64 (hdKd x), .int .i64 (hdSz x), .int .i64 (hdSl x), .int .i64 (hdGn x), .bool (hdOwn x)]) (by simp [results, Try.results114, go_sem, hdKd, hdSz, hdSl, hdGn, hdOwn]) rfl ⟨rfl, (Only.refl _ _).alloc _⟩

end Go.Proofs.Yteoimmjgnflmmaa
