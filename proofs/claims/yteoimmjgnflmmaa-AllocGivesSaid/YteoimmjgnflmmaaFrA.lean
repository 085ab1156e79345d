/-
  A fresh arena's words; its slots are all free, the first one first.
-/
import Derived.Test.YteoimmjgnflmmaaSlL
namespace Go.Proofs.Yteoimmjgnflmmaa
open Go.RowKit

theorem mul_bd {k : Cfg} (hk : k.Ok) : 0 ≤ k.c * k.w ∧ k.c * k.w ≤ 16384 ∧ k.w * k.c = k.c * k.w := by
  refine ⟨Int.mul_nonneg (by have := hk.c0; omega) (by have := hk.w0; omega), ?_, Int.mul_comm _ _⟩
  have : k.c * k.w ≤ 64 * 256 := Int.mul_le_mul hk.c1 hk.w1 (by have := hk.w0; omega) (by decide)
  omega

/-- What a fresh arena has at an address, i of its slots laid. -/
def wantI (k : Cfg) (i : Int) (a : Int) : Int :=
  if 6 + k.t ≤ a ∧ a < 6 + k.t + 2 * i then (if (a - 6 - k.t) % 2 = 0 then 8388608 else (a - 6 - k.t) / 2 + 2) else 0

theorem putSlot_gen1 : putSlot 0 0 1 0 = 8388608 := by decide
theorem putTop_succ {i : Int} (h0 : 0 ≤ i) (h1 : i < 65535) : putTop (i + 1) 0 = i + 2 := by
  unfold putTop
  rw [if_neg (by omega), show fit 0 68719476735 = 0 from by decide]
  omega

theorem freshLoop_len (k : Cfg) (s : MS) : ∀ i, (freshLoop k s i).ws.length = s.ws.length
  | 0 => rfl
  | i + 1 => by unfold freshLoop; rw [store_len, store_len]; exact freshLoop_len k s i

theorem freshLoop_at {k : Cfg} (hk : k.Ok) (h60 : k.s ≤ 60000) (s : MS) (hl : (s.ws.length : Int) = aLen k) (hz : ∀ a, s.at a = 0) : ∀ i : Nat, (i : Int) ≤ k.s → ∀ a : Int, 0 ≤ a → (freshLoop k s i).at a = wantI k i a
  | 0, _, a, ha => by
    show s.at a = _
    rw [hz]
    unfold wantI
    rw [if_neg (by omega)]
  | i + 1, hi, a, ha => by
    have ih := freshLoop_at hk h60 s hl hz i (by omega)
    have hlen := freshLoop_len k s i
    obtain ⟨m0, m1, m2⟩ := mul_bd hk
    have hL := aLen_ok hk
    rw [m2] at hL
    have hS : aSlot k i = 6 + k.t + 2 * i := aSlot_ok hk (by omega) (by have := hk.s1; omega)
    have hp := putTop_succ (i := i) (by omega) (by omega)
    obtain ⟨t0, t1, s0, s1, c0, c1, w0, w1, g0, g1, p0, p1, r0, r1⟩ := hk
    unfold freshLoop
    rw [putSlot_gen1, hS, hp, store_at _ _ _ _ ⟨by omega, by rw [store_len, hlen]; omega⟩ ha, store_at _ _ _ _ ⟨by omega, by rw [hlen]; omega⟩ ha, ih a ha]
    unfold wantI
    by_cases h1 : a = 6 + k.t + 2 * i + 1
    · have e1 : 6 + k.t ≤ a ∧ a < 6 + k.t + 2 * ((i + 1 : Nat) : Int) := by omega
      have e2 : ¬ (a - 6 - k.t) % 2 = 0 := by omega
      rw [if_pos h1, if_pos e1, if_neg e2]
      omega
    · rw [if_neg h1]
      by_cases h2 : a = 6 + k.t + 2 * i
      · have e1 : 6 + k.t ≤ a ∧ a < 6 + k.t + 2 * ((i + 1 : Nat) : Int) := by omega
        have e2 : (a - 6 - k.t) % 2 = 0 := by omega
        rw [if_pos h2, if_pos e1, if_pos e2]
      · rw [if_neg h2]
        by_cases h3 : 6 + k.t ≤ a ∧ a < 6 + k.t + 2 * i
        · have e1 : 6 + k.t ≤ a ∧ a < 6 + k.t + 2 * ((i + 1 : Nat) : Int) := by omega
          simp only [if_pos h3, if_pos e1]
        · have e1 : ¬ (6 + k.t ≤ a ∧ a < 6 + k.t + 2 * ((i + 1 : Nat) : Int)) := by omega
          simp only [if_neg h3, if_neg e1]

/-- What a fresh arena has at an address. -/
def wantF (k : Cfg) (a : Int) : Int :=
  if a = 1 then 1 else if a = 6 + k.t + 2 * k.s - 1 then 0 else wantI k k.s a

theorem zero_at (n : Nat) (a : Int) : (MS.zero n).at a = 0 := by
  unfold MS.at MS.zero
  simp only [List.getD_eq_getElem?_getD, List.getElem?_replicate]
  split <;> rfl

theorem fresh_len {k : Cfg} (hk : k.Ok) : ((freshS k).ws.length : Int) = aLen k := by
  obtain ⟨m0, m1, m2⟩ := mul_bd hk
  have hL := aLen_ok hk
  rw [m2] at hL
  obtain ⟨t0, t1, s0, s1, c0, c1, w0, w1, g0, g1, p0, p1, r0, r1⟩ := hk
  unfold freshS
  rw [store_len, store_len, freshLoop_len]
  simp [MS.zero]
  omega

theorem fresh_at {k : Cfg} (hk : k.Ok) (h60 : k.s ≤ 60000) (a : Int) (ha : 0 ≤ a) : (freshS k).at a = wantF k a := by
  obtain ⟨m0, m1, m2⟩ := mul_bd hk
  have hL := aLen_ok hk
  rw [m2] at hL
  have hk' := hk
  obtain ⟨t0, t1, s0, s1, c0, c1, w0, w1, g0, g1, p0, p1, r0, r1⟩ := hk
  have hl : ((MS.zero (aLen k).toNat).ws.length : Int) = aLen k := by simp [MS.zero]; omega
  have hlen := freshLoop_len k (MS.zero (aLen k).toNat) k.s.toNat
  have hS : aSlot k (k.s - 1) = 6 + k.t + 2 * (k.s - 1) := aSlot_ok hk' (by omega) (by omega)
  have hloop := freshLoop_at hk' h60 (MS.zero (aLen k).toNat) hl (zero_at _) k.s.toNat (by omega) a ha
  unfold freshS
  rw [hS, show putTop (-1) 0 = 0 from by decide, show putTop 0 0 = 1 from by decide, store_at _ _ _ _ ⟨by omega, by rw [store_len, hlen]; omega⟩ ha, store_at _ _ _ _ ⟨by omega, by rw [hlen]; omega⟩ ha, hloop, show ((k.s.toNat : Nat) : Int) = k.s from by omega]
  unfold wantF
  by_cases h1 : a = 1
  · rw [if_pos h1, if_pos h1]
  · rw [if_neg h1, if_neg h1]
    by_cases h2 : a = 6 + k.t + 2 * (k.s - 1) + 1
    · rw [if_pos h2, if_pos (by omega)]
    · rw [if_neg h2, if_neg (by omega)]

theorem fresh_get {k : Cfg} (hk : k.Ok) (h60 : k.s ≤ 60000) (a : Int) (h0 : 0 ≤ a) (h1 : a < aLen k) : (freshS k).get a = wantF k a := by
  unfold MS.get
  rw [if_pos ⟨h0, by rw [fresh_len hk]; exact h1⟩, fresh_at hk h60 a h0]


def rangeI (i m : Nat) : List Int := (List.range' i m).map (fun (j : Nat) => (j : Int))
theorem mem_rangeI {i m : Nat} {x : Int} (h : x ∈ rangeI i m) : (i : Int) ≤ x ∧ x < ((i + m : Nat) : Int) := by
  unfold rangeI at h
  simp only [List.mem_map, List.mem_range'_1] at h
  obtain ⟨j, hj, rfl⟩ := h
  omega
theorem rangeI_succ (i m : Nat) : rangeI i (m + 1) = (i : Int) :: rangeI (i + 1) m := by
  simp [rangeI, List.range'_succ]
theorem nodup_rangeI : ∀ (m i : Nat), (rangeI i m).Nodup
  | 0, _ => by simp [rangeI]
  | m + 1, i => by
    rw [rangeI_succ]
    exact List.nodup_cons.2 ⟨fun h => by have := mem_rangeI h; omega, nodup_rangeI m (i + 1)⟩
theorem length_rangeI (i m : Nat) : (rangeI i m).length = m := by simp [rangeI]

theorem fresh_lk {k : Cfg} (hk : k.Ok) (h60 : k.s ≤ 60000) {n : Nat} (hn : k.s = n) {j : Nat} (hj : j < n) : lk k (freshS k) j = if j + 1 < n then ((j + 1 : Nat) : Int) else -1 := by
  have := hk.t0
  have e := aLink_ok hk (i := j) (by omega) (by omega)
  unfold lk
  rw [fresh_at hk h60 _ (by omega), e]
  unfold wantF
  rw [if_neg (by omega)]
  by_cases h : j + 1 < n
  · rw [if_neg (by omega), if_pos h]
    unfold wantI
    rw [if_pos (by omega), if_neg (by omega)]
    unfold topS
    omega
  · rw [if_pos (by omega), if_neg h]
    decide

theorem fresh_chain {k : Cfg} (hk : k.Ok) (h60 : k.s ≤ 60000) {n : Nat} (hn : k.s = n) : ∀ (m i : Nat), i + m = n → Chain (lk k (freshS k)) (if 0 < m then (i : Int) else -1) (rangeI i m)
  | 0, i, _ => rfl
  | m + 1, i, h => by
    rw [rangeI_succ, if_pos (by omega)]
    refine ⟨rfl, ?_⟩
    have ih := fresh_chain hk h60 hn m (i + 1) (by omega)
    rw [fresh_lk hk h60 hn (by omega)]
    by_cases hm : 0 < m
    · rw [if_pos hm] at ih
      rw [if_pos (by omega)]
      exact ih
    · rw [if_neg hm] at ih
      rw [if_neg (by omega)]
      exact ih

theorem fresh_top {k : Cfg} (hk : k.Ok) (h60 : k.s ≤ 60000) : (freshS k).at 1 = 1 := by
  rw [fresh_at hk h60 1 (by decide)]; unfold wantF; rw [if_pos rfl]
theorem fresh_fr {k : Cfg} (hk : k.Ok) (h60 : k.s ≤ 60000) {n : Nat} (hn : k.s = n) : Fr k n (freshS k) (rangeI 0 n) := by
  have hs0 := hk.s0
  refine ⟨?_, ?_, nodup_rangeI n 0, fun i hi => ?_⟩
  · rw [fresh_len hk, aLen_ok hk]
    have := hk.c0
    have : 0 ≤ k.w * k.c := Int.mul_nonneg (by have := hk.w0; omega) (by omega)
    omega
  · rw [fresh_top hk h60]
    have := fresh_chain hk h60 hn n 0 (by omega)
    rw [if_pos (by omega)] at this
    exact this
  · have := mem_rangeI hi
    omega

end Go.Proofs.Yteoimmjgnflmmaa
