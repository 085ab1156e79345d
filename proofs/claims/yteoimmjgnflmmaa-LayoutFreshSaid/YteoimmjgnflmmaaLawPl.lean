/-
  LayoutOf and LayoutPlaces: the plain law of where things stand, and the walks.
-/
import Derived.Test.YteoimmjgnflmmaaAwk4
import Derived.Test.YteoimmjgnflmmaaRef1
namespace Go.Proofs.Yteoimmjgnflmmaa
open Go.RowKit

/-- How great an arena of the laws' is at most. -/
structure Cfg.Small (k : Cfg) : Prop where
  t : k.t ≤ 4
  s : k.s ≤ 16
  c : k.c ≤ 8
  w : k.w ≤ 48
theorem conf_small (k : Cfg) : (conf k).Small := by
  unfold conf
  constructor <;> simp only <;> omega

theorem mul_bd {k : Cfg} (hk : k.Ok) : 0 ≤ k.c * k.w ∧ k.c * k.w ≤ 16384 ∧ k.w * k.c = k.c * k.w := by
  refine ⟨Int.mul_nonneg (by have := hk.c0; omega) (by have := hk.w0; omega), ?_, Int.mul_comm _ _⟩
  have : k.c * k.w ≤ 64 * 256 := Int.mul_le_mul hk.c1 hk.w1 (by have := hk.w0; omega) (by decide)
  omega

theorem of_kind {k : Cfg} (hk : k.Ok) (a : Int) : aOf k a = if (kindOf k a).1 = 9 then (kindOf k a).2.1 else -1 := by
  obtain ⟨m0, m1, m2⟩ := mul_bd hk
  have hb := aBase_ok hk (i := 0) (by decide) (by decide)
  have hl := aLen_ok hk
  rw [m2] at hl
  rw [Int.mul_zero] at hb
  obtain ⟨t0, t1, s0, s1, c0, c1, w0, w1, g0, g1, p0, p1, r0, r1⟩ := hk
  unfold aOf kindOf
  rw [hb, hl]
  by_cases q0 : a < 0
  · rw [if_pos q0, if_pos (by omega)]; rfl
  rw [if_neg q0]
  by_cases q1 : a < 1
  · rw [if_pos q1, if_pos (by omega)]; rfl
  rw [if_neg q1]
  by_cases q2 : a < 2
  · rw [if_pos q2, if_pos (by omega)]; rfl
  rw [if_neg q2]
  by_cases q3 : a < 6
  · rw [if_pos q3, if_pos (by omega)]; rfl
  rw [if_neg q3]
  by_cases q4 : a < 6 + k.t
  · rw [if_pos q4, if_pos (by omega)]; rfl
  rw [if_neg q4]
  by_cases q5 : a < 6 + k.t + 2 * k.s
  · rw [if_pos q5, if_pos (by omega), if_neg (by simp only; omega)]
  rw [if_neg q5]
  by_cases q6 : a < 6 + k.t + 2 * k.s + 3 * k.c
  · rw [if_pos q6, if_pos (by omega), if_neg (by simp only; omega)]
  rw [if_neg q6]
  by_cases q7 : a < 6 + k.t + 2 * k.s + 3 * k.c + k.c * k.w
  · rw [if_pos q7, if_neg (by omega), if_pos rfl]
    congr 1
    omega
  · rw [if_neg q7, if_pos (by omega)]; rfl

set_option maxHeartbeats 1600000 in
theorem of_walk (k : Cfg) (_ : k.I) (a : Int) (hA : I64 a) (w : World) : Calls Try.prog 7 #[.agg #[.int .i64 k.t, .int .i64 k.s, .int .i64 k.c, .int .i64 k.w, .int .i64 k.g, .int .i64 k.p, .int .i64 k.r], .int .i64 a] w fun e w' => e = .returned (.bool true) ∧ Only [] w w' := by
  obtain ⟨h0, h1⟩ := hA
  have hc := conf_ok k
  go_enter Try.func7, Try.ntmps7
  go_wp2_with fail
  refine (config_any k _).mono ?_
  rintro e w1 ⟨rfl, ho1⟩
  generalize conf k = c at *
  have hw := of_kind hc a
  have HW := Lib.hid hw
  clear hw
  go_wp2_with fail
  refine (kind_any c hc a h0 h1 _).mono ?_
  rintro e w2 ⟨rfl, ho2⟩
  have hX2 : Blk w2 w1.heap.size #[.int .i64 c.t, .int .i64 c.s, .int .i64 c.c, .int .i64 c.w, .int .i64 c.g, .int .i64 c.p, .int .i64 c.r] 23 := (Blk.new w1 _ 23).only ho2 (by simp)
  by_cases h9 : (kindOf c a).1 = 9
  · have hd : ((kindOf c a).1 == 9) = true := by simpa using h9
    have hv : (aOf c a == (kindOf c a).2.1) = true := by rw [HW.out, if_pos h9]; simp
    clear h9
    go_wp2_with fail
    refine (awake4 _).mono ?_
    rintro e w3 ⟨rfl, ho3⟩
    have hx3 := (hX2.only ho3 (by simp)).cell
    go_wp2_with fail
    refine (of_any c hc a _ h0 h1).mono ?_
    rintro e w4 ⟨rfl, ho4⟩
    go_wp2
    go_ret
    refine ⟨rfl, ?_⟩
    repeat (first | with_reducible exact Only.refl _ _ | with_reducible assumption | with_reducible apply Only.drew | with_reducible apply Only.drewN | with_reducible apply Only.alloc | (with_reducible refine Only.trans' ?_ (by with_reducible assumption) (fun _ h _ => h)))
  · have hd : ((kindOf c a).1 == 9) = false := by simpa using h9
    have hv : (aOf c a == -1) = true := by rw [HW.out, if_neg h9]; simp
    clear h9
    go_wp2_with fail
    refine (awake4 _).mono ?_
    rintro e w3 ⟨rfl, ho3⟩
    have hx3 := (hX2.only ho3 (by simp)).cell
    go_wp2_with fail
    refine (of_any c hc a _ h0 h1).mono ?_
    rintro e w4 ⟨rfl, ho4⟩
    go_wp2
    go_ret
    refine ⟨rfl, ?_⟩
    repeat (first | with_reducible exact Only.refl _ _ | with_reducible assumption | with_reducible apply Only.drew | with_reducible apply Only.drewN | with_reducible apply Only.alloc | (with_reducible refine Only.trans' ?_ (by with_reducible assumption) (fun _ h _ => h)))

/-- Of each address: what stands there, and that it is where the document says. -/
theorem place_cases {k : Cfg} (hk : k.Ok) (a : Int) (h0 : 0 ≤ a) (h1 : a < aLen k) :
    ((kindOf k a).1 = 0 ∧ a = 0) ∨ ((kindOf k a).1 = 1 ∧ a = 1) ∨ ((kindOf k a).1 = 2 ∧ aOpen (kindOf k a).2.1 = a) ∨ ((kindOf k a).1 = 3 ∧ aPin (kindOf k a).2.1 = a) ∨
    ((kindOf k a).1 = 4 ∧ aSlot k (kindOf k a).2.1 = a) ∨ ((kindOf k a).1 = 5 ∧ wrap64 (aSlot k (kindOf k a).2.1 + 1) = a) ∨
    ((kindOf k a).1 = 6 ∧ aChunk k (kindOf k a).2.1 = a) ∨ ((kindOf k a).1 = 7 ∧ wrap64 (aChunk k (kindOf k a).2.1 + 1) = a) ∨ ((kindOf k a).1 = 8 ∧ wrap64 (aChunk k (kindOf k a).2.1 + 2) = a) ∨
    ((kindOf k a).1 = 9 ∧ wrap64 (aBase k (kindOf k a).2.1 + (kindOf k a).2.2) = a) := by
  obtain ⟨m0, m1, m2⟩ := mul_bd hk
  have hl := aLen_ok hk
  rw [m2] at hl
  rw [hl] at h1
  have hS : ∀ i, 0 ≤ i → i ≤ 131072 → aSlot k i = 6 + k.t + 2 * i := fun i => aSlot_ok hk
  have hC : ∀ i, 0 ≤ i → i ≤ 65536 → aChunk k i = 6 + k.t + 2 * k.s + 3 * i := fun i => aChunk_ok hk
  have hB : ∀ i, 0 ≤ i → i ≤ 65536 → aBase k i = 6 + k.t + 2 * k.s + 3 * k.c + k.w * i := fun i => aBase_ok hk
  obtain ⟨t0, t1, s0, s1, c0, c1, w0, w1, g0, g1, p0, p1, r0, r1⟩ := hk
  unfold kindOf
  rw [if_neg (by omega)]
  by_cases q1 : a < 1
  · rw [if_pos q1]; exact .inl ⟨rfl, by omega⟩
  rw [if_neg q1]
  by_cases q2 : a < 2
  · rw [if_pos q2]; exact .inr (.inl ⟨rfl, by omega⟩)
  rw [if_neg q2]
  by_cases q3 : a < 6
  · rw [if_pos q3]; exact .inr (.inr (.inl ⟨rfl, by unfold aOpen wrap64; simp only; omega⟩))
  rw [if_neg q3]
  by_cases q4 : a < 6 + k.t
  · rw [if_pos q4]; exact .inr (.inr (.inr (.inl ⟨rfl, by unfold aPin wrap64; simp only; omega⟩)))
  rw [if_neg q4]
  by_cases q5 : a < 6 + k.t + 2 * k.s
  · rw [if_pos q5]
    rcases Int.emod_two_eq (a - 1 - 1 - 4 - k.t) with h | h
    · exact .inr (.inr (.inr (.inr (.inl ⟨by simp only; omega, by simp only; rw [hS _ (by omega) (by omega)]; omega⟩))))
    · exact .inr (.inr (.inr (.inr (.inr (.inl ⟨by simp only; omega, by simp only; rw [hS _ (by omega) (by omega)]; unfold wrap64; omega⟩)))))
  rw [if_neg q5]
  by_cases q6 : a < 6 + k.t + 2 * k.s + 3 * k.c
  · rw [if_pos q6]
    have h3 : (a - 1 - 1 - 4 - k.t - 2 * k.s) % 3 = 0 ∨ (a - 1 - 1 - 4 - k.t - 2 * k.s) % 3 = 1 ∨ (a - 1 - 1 - 4 - k.t - 2 * k.s) % 3 = 2 := by omega
    rcases h3 with h | h | h
    · exact .inr (.inr (.inr (.inr (.inr (.inr (.inl ⟨by simp only; omega, by simp only; rw [hC _ (by omega) (by omega)]; omega⟩))))))
    · exact .inr (.inr (.inr (.inr (.inr (.inr (.inr (.inl ⟨by simp only; omega, by simp only; rw [hC _ (by omega) (by omega)]; unfold wrap64; omega⟩)))))))
    · exact .inr (.inr (.inr (.inr (.inr (.inr (.inr (.inr (.inl ⟨by simp only; omega, by simp only; rw [hC _ (by omega) (by omega)]; unfold wrap64; omega⟩))))))))
  rw [if_neg q6, if_pos h1]
  refine .inr (.inr (.inr (.inr (.inr (.inr (.inr (.inr (.inr ⟨rfl, ?_⟩))))))))
  simp only
  have hx : 0 ≤ a - 1 - 1 - 4 - k.t - 2 * k.s - 3 * k.c := by omega
  have hd := Int.emod_add_mul_ediv (a - 1 - 1 - 4 - k.t - 2 * k.s - 3 * k.c) k.w
  have hd0 : 0 ≤ (a - 1 - 1 - 4 - k.t - 2 * k.s - 3 * k.c) / k.w := Int.ediv_nonneg hx (by omega)
  have hd1 : (a - 1 - 1 - 4 - k.t - 2 * k.s - 3 * k.c) / k.w ≤ a - 1 - 1 - 4 - k.t - 2 * k.s - 3 * k.c := Int.ediv_le_self _ hx
  rw [hB _ hd0 (by omega)]
  unfold wrap64
  omega

theorem kind_len {k : Cfg} (hk : k.Ok) : (kindOf k (aLen k)).1 = -1 := by
  obtain ⟨m0, m1, m2⟩ := mul_bd hk
  have hl := aLen_ok hk
  rw [m2] at hl
  rw [hl]
  obtain ⟨t0, t1, s0, s1, c0, c1, w0, w1, g0, g1, p0, p1, r0, r1⟩ := hk
  unfold kindOf
  rw [if_neg (by omega), if_neg (by omega), if_neg (by omega), if_neg (by omega), if_neg (by omega), if_neg (by omega), if_neg (by omega), if_neg (by omega)]

theorem len_small {k : Cfg} (hk : k.Ok) (hs : k.Small) : 1 ≤ aLen k ∧ aLen k ≤ 4000 := by
  obtain ⟨m0, m1, m2⟩ := mul_bd hk
  have hl := aLen_ok hk
  rw [m2] at hl
  have : k.c * k.w ≤ 8 * 48 := Int.mul_le_mul hs.c hs.w (by have := hk.w0; omega) (by decide)
  have := hs.t
  have := hs.s
  have := hs.c
  have := hk.t0
  have := hk.s0
  have := hk.c0
  omega

set_option maxRecDepth 100000 in
set_option maxHeartbeats 3200000 in
theorem places_walk (k : Cfg) (_ : k.I) (w : World) : Calls Try.prog 6 #[.agg #[.int .i64 k.t, .int .i64 k.s, .int .i64 k.c, .int .i64 k.w, .int .i64 k.g, .int .i64 k.p, .int .i64 k.r]] w fun e w' => e = .returned (.bool true) ∧ Only [] w w' := by
  have hc := conf_ok k
  have hs := conf_small k
  go_enter Try.func6, Try.ntmps6
  go_wp2_with fail
  refine (config_any k _).mono ?_
  rintro e w1 ⟨rfl, ho1⟩
  generalize conf k = c at *
  go_wp2_with fail
  refine (lena_any _ c).mono ?_
  rintro e w2 ⟨rfl, rfl⟩
  obtain ⟨hl1, hl2⟩ := len_small hc hs
  go_wp2_with fail
  refine (awake4 _).mono ?_
  rintro e w3 ⟨rfl, ho3⟩
  have hX3 : Blk w3 w1.heap.size #[.int .i64 c.t, .int .i64 c.s, .int .i64 c.c, .int .i64 c.w, .int .i64 c.g, .int .i64 c.p, .int .i64 c.r] 23 := (((Blk.new w1 _ 23).alloc _).alloc _).only ho3 (by simp)
  have hO3 : Only [] w w3 := by
    repeat (first | with_reducible exact Only.refl _ _ | with_reducible assumption | with_reducible apply Only.drew | with_reducible apply Only.drewN | with_reducible apply Only.alloc | (with_reducible refine Only.trans' ?_ (by with_reducible assumption) (fun _ h _ => h)))
  have HKL := Lib.hid (kind_len hc)
  clear ho1 ho3
  go_wp2
  go_loopw [5] (fun i wr => ∃ a : Nat, (a : Int) ≤ aLen c ∧ i = .int .i64 a ∧ Blk wr w1.heap.size #[.int .i64 c.t, .int .i64 c.s, .int .i64 c.c, .int .i64 c.w, .int .i64 c.g, .int .i64 c.p, .int .i64 c.r] 23 ∧ Only [] w wr) (fun i _ => (aLen c).toNat - (intOf i).toNat)
  case atStart => exact ⟨0, by omega, rfl, hX3, hO3⟩
  case round =>
    rename_i wr
    obtain ⟨a, ha, rfl, hXr, hOr⟩ := hrel
    have hxr := hXr.cell
    clear hX3 hO3
    by_cases hlt : (a : Int) < aLen c
    · have hq := place_cases hc a (by omega) hlt
      have HQ := Lib.hid hq
      clear hq
      go_wp2_with fail
      refine (kind_any c hc a (by omega) (by omega) _).mono ?_
      rintro e w4 ⟨rfl, ho4⟩
      have hX4 := hXr.only ho4 (by simp)
      have hx4 := hX4.cell
      rcases HQ.out with ⟨e1, e2⟩ | ⟨e1, e2⟩ | ⟨e1, e2⟩ | ⟨e1, e2⟩ | ⟨e1, e2⟩ | ⟨e1, e2⟩ | ⟨e1, e2⟩ | ⟨e1, e2⟩ | ⟨e1, e2⟩ | ⟨e1, e2⟩
      all_goals
        go_wp2_with (first
          | (go_at_call 45; refine (epoch_any _).mono ?_; rintro e w' ⟨rfl, rfl⟩)
          | (go_at_call 46; refine (topa_any _).mono ?_; rintro e w' ⟨rfl, rfl⟩)
          | (go_at_call 47; refine (open_any _ _).mono ?_; rintro e w' ⟨rfl, rfl⟩)
          | (go_at_call 48; refine (pin_any _ _).mono ?_; rintro e w' ⟨rfl, rfl⟩)
          | (go_at_call 49; refine (slota_any _ c _).mono ?_; rintro e w' ⟨rfl, rfl⟩)
          | (go_at_call 50; refine (chunka_any _ c _).mono ?_; rintro e w' ⟨rfl, rfl⟩)
          | (go_at_call 51; refine (base_any _ c _).mono ?_; rintro e w' ⟨rfl, rfl⟩))
        go_roundw
        case rel =>
          refine ⟨a + 1, by omega, by go_num, ?_, ?_⟩
          · repeat (first | with_reducible assumption | with_reducible apply Blk.drew | with_reducible apply Blk.alloc | (with_reducible refine Blk.only ?_ (by with_reducible assumption) List.not_mem_nil))
          · repeat (first | with_reducible exact Only.refl _ _ | with_reducible assumption | with_reducible apply Only.drew | with_reducible apply Only.drewN | with_reducible apply Only.alloc | (with_reducible refine Only.trans' ?_ (by with_reducible assumption) (fun _ h _ => h)))
        case measure => simp [intOf]; omega
    · have hal : (a : Int) = aLen c := by omega
      have HAL := Lib.hid hal
      clear hal
      go_wp2_with fail
      refine (kind_any c hc (aLen c) (by omega) (by omega) _).mono ?_
      rintro e w4 ⟨rfl, ho4⟩
      have e1 : (kindOf c (aLen c)).1 = -1 := HKL.out
      go_wp2
      go_ret
      refine ⟨rfl, ?_⟩
      repeat (first | with_reducible exact Only.refl _ _ | with_reducible assumption | with_reducible apply Only.drew | with_reducible apply Only.drewN | with_reducible apply Only.alloc | (with_reducible refine Only.trans' ?_ (by with_reducible assumption) (fun _ h _ => h)))

end Go.Proofs.Yteoimmjgnflmmaa
