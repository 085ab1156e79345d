/-
  LayoutFresh: the plain law of a fresh arena's words, and the walk.
-/
import Derived.Test.YteoimmjgnflmmaaLawPl
namespace Go.Proofs.Yteoimmjgnflmmaa
open Go.RowKit

theorem store_ws (s : MS) (a v : Int) : (s.store a v).ws = if s.ok a then s.ws.set a.toNat v else s.ws := by
  unfold MS.store
  split <;> rfl
theorem store_len (s : MS) (a v : Int) : (s.store a v).ws.length = s.ws.length := by
  rw [store_ws]; split <;> simp
theorem store_at (s : MS) (a v b : Int) (ha : s.ok a) (hb : 0 ≤ b) : (s.store a v).at b = if b = a then v else s.at b := by
  unfold MS.at
  rw [store_ws, if_pos ha]
  obtain ⟨h0, h1⟩ := ha
  by_cases h : b = a
  · subst h
    rw [if_pos rfl]
    simp [List.getD, show b.toNat < s.ws.length by omega]
  · rw [if_neg h]
    have : b.toNat ≠ a.toNat := by omega
    simp [List.getD, List.getElem?_set_ne (Ne.symm this)]

/-- What a fresh arena has at an address, i of its slots laid. -/
def wantI (k : Cfg) (i : Int) (a : Int) : Int :=
  if 6 + k.t ≤ a ∧ a < 6 + k.t + 2 * i then (if (a - 6 - k.t) % 2 = 0 then 8388608 else (a - 6 - k.t) / 2 + 2) else 0

theorem putSlot_gen1 : putSlot 0 0 1 0 = 8388608 := by decide
theorem putTop_succ {i : Int} (h0 : 0 ≤ i) (h1 : i < 65535) : putTop (i + 1) 0 = i + 2 := by
  unfold putTop
  rw [if_neg (by omega), show fit 0 68719476735 = 0 from by decide]
  omega

theorem freshLoop_len (k : Cfg) (s : MS) : ∀ i, (freshLoop k s i).ws.length = s.ws.length
  | 0 => rfl
  | i + 1 => by unfold freshLoop; rw [store_len, store_len]; exact freshLoop_len k s i

theorem freshLoop_at {k : Cfg} (hk : k.Ok) (h60 : k.s ≤ 60000) (s : MS) (hl : (s.ws.length : Int) = aLen k) (hz : ∀ a, s.at a = 0) : ∀ i : Nat, (i : Int) ≤ k.s → ∀ a : Int, 0 ≤ a → (freshLoop k s i).at a = wantI k i a
  | 0, _, a, ha => by
    show s.at a = _
    rw [hz]
    unfold wantI
    rw [if_neg (by omega)]
  | i + 1, hi, a, ha => by
    have ih := freshLoop_at hk h60 s hl hz i (by omega)
    have hlen := freshLoop_len k s i
    obtain ⟨m0, m1, m2⟩ := mul_bd hk
    have hL := aLen_ok hk
    rw [m2] at hL
    have hS : aSlot k i = 6 + k.t + 2 * i := aSlot_ok hk (by omega) (by have := hk.s1; omega)
    have hp := putTop_succ (i := i) (by omega) (by omega)
    obtain ⟨t0, t1, s0, s1, c0, c1, w0, w1, g0, g1, p0, p1, r0, r1⟩ := hk
    unfold freshLoop
    rw [putSlot_gen1, hS, hp, store_at _ _ _ _ ⟨by omega, by rw [store_len, hlen]; omega⟩ ha, store_at _ _ _ _ ⟨by omega, by rw [hlen]; omega⟩ ha, ih a ha]
    unfold wantI
    by_cases h1 : a = 6 + k.t + 2 * i + 1
    · have e1 : 6 + k.t ≤ a ∧ a < 6 + k.t + 2 * ((i + 1 : Nat) : Int) := by omega
      have e2 : ¬ (a - 6 - k.t) % 2 = 0 := by omega
      rw [if_pos h1, if_pos e1, if_neg e2]
      omega
    · rw [if_neg h1]
      by_cases h2 : a = 6 + k.t + 2 * i
      · have e1 : 6 + k.t ≤ a ∧ a < 6 + k.t + 2 * ((i + 1 : Nat) : Int) := by omega
        have e2 : (a - 6 - k.t) % 2 = 0 := by omega
        rw [if_pos h2, if_pos e1, if_pos e2]
      · rw [if_neg h2]
        by_cases h3 : 6 + k.t ≤ a ∧ a < 6 + k.t + 2 * i
        · have e1 : 6 + k.t ≤ a ∧ a < 6 + k.t + 2 * ((i + 1 : Nat) : Int) := by omega
          simp only [if_pos h3, if_pos e1]
        · have e1 : ¬ (6 + k.t ≤ a ∧ a < 6 + k.t + 2 * ((i + 1 : Nat) : Int)) := by omega
          simp only [if_neg h3, if_neg e1]

/-- What a fresh arena has at an address. -/
def wantF (k : Cfg) (a : Int) : Int :=
  if a = 1 then 1 else if a = 6 + k.t + 2 * k.s - 1 then 0 else wantI k k.s a

theorem zero_at (n : Nat) (a : Int) : (MS.zero n).at a = 0 := by
  unfold MS.at MS.zero
  simp only [List.getD_eq_getElem?_getD, List.getElem?_replicate]
  split <;> rfl

theorem fresh_len {k : Cfg} (hk : k.Ok) : ((freshS k).ws.length : Int) = aLen k := by
  obtain ⟨m0, m1, m2⟩ := mul_bd hk
  have hL := aLen_ok hk
  rw [m2] at hL
  obtain ⟨t0, t1, s0, s1, c0, c1, w0, w1, g0, g1, p0, p1, r0, r1⟩ := hk
  unfold freshS
  rw [store_len, store_len, freshLoop_len]
  simp [MS.zero]
  omega

theorem fresh_at {k : Cfg} (hk : k.Ok) (h60 : k.s ≤ 60000) (a : Int) (ha : 0 ≤ a) : (freshS k).at a = wantF k a := by
  obtain ⟨m0, m1, m2⟩ := mul_bd hk
  have hL := aLen_ok hk
  rw [m2] at hL
  have hk' := hk
  obtain ⟨t0, t1, s0, s1, c0, c1, w0, w1, g0, g1, p0, p1, r0, r1⟩ := hk
  have hl : ((MS.zero (aLen k).toNat).ws.length : Int) = aLen k := by simp [MS.zero]; omega
  have hlen := freshLoop_len k (MS.zero (aLen k).toNat) k.s.toNat
  have hS : aSlot k (k.s - 1) = 6 + k.t + 2 * (k.s - 1) := aSlot_ok hk' (by omega) (by omega)
  have hloop := freshLoop_at hk' h60 (MS.zero (aLen k).toNat) hl (zero_at _) k.s.toNat (by omega) a ha
  unfold freshS
  rw [hS, show putTop (-1) 0 = 0 from by decide, show putTop 0 0 = 1 from by decide, store_at _ _ _ _ ⟨by omega, by rw [store_len, hlen]; omega⟩ ha, store_at _ _ _ _ ⟨by omega, by rw [hlen]; omega⟩ ha, hloop, show ((k.s.toNat : Nat) : Int) = k.s from by omega]
  unfold wantF
  by_cases h1 : a = 1
  · rw [if_pos h1, if_pos h1]
  · rw [if_neg h1, if_neg h1]
    by_cases h2 : a = 6 + k.t + 2 * (k.s - 1) + 1
    · rw [if_pos h2, if_pos (by omega)]
    · rw [if_neg h2, if_neg (by omega)]

theorem fresh_get {k : Cfg} (hk : k.Ok) (h60 : k.s ≤ 60000) (a : Int) (h0 : 0 ≤ a) (h1 : a < aLen k) : (freshS k).get a = wantF k a := by
  unfold MS.get
  rw [if_pos ⟨h0, by rw [fresh_len hk]; exact h1⟩, fresh_at hk h60 a h0]

/-- Of each address of a fresh arena: what stands there, and what it has. -/
theorem fresh_cases {k : Cfg} (hk : k.Ok) (h60 : k.s ≤ 60000) (a : Int) (h0 : 0 ≤ a) (h1 : a < aLen k) :
    ((kindOf k a).1 = 1 ∧ (freshS k).get a = 1) ∨ ((kindOf k a).1 = 4 ∧ (freshS k).get a = 8388608) ∨
    ((kindOf k a).1 = 5 ∧ ((kindOf k a).2.1 == k.s - 1) = false ∧ (freshS k).get a = (kindOf k a).2.1 + 2 ∧ 0 ≤ (kindOf k a).2.1 ∧ (kindOf k a).2.1 ≤ 65536) ∨
    ((kindOf k a).1 = 5 ∧ ((kindOf k a).2.1 == k.s - 1) = true ∧ (freshS k).get a = 0 ∧ 0 ≤ (kindOf k a).2.1 ∧ (kindOf k a).2.1 ≤ 65536) ∨
    (((kindOf k a).1 == 1) = false ∧ ((kindOf k a).1 == 4) = false ∧ ((kindOf k a).1 == 5) = false ∧ (freshS k).get a = 0) := by
  rw [fresh_get hk h60 a h0 h1]
  obtain ⟨m0, m1, m2⟩ := mul_bd hk
  have hl := aLen_ok hk
  rw [m2] at hl
  rw [hl] at h1
  obtain ⟨t0, t1, s0, s1, c0, c1, w0, w1, g0, g1, p0, p1, r0, r1⟩ := hk
  by_cases q : a = 1
  · subst q
    exact .inl ⟨by unfold kindOf; rw [if_neg (by omega), if_neg (by omega), if_pos (by omega)], by unfold wantF; rw [if_pos rfl]⟩
  by_cases q5 : 6 + k.t ≤ a ∧ a < 6 + k.t + 2 * k.s
  · have hkd : kindOf k a = (4 + (a - 1 - 1 - 4 - k.t) % 2, (a - 1 - 1 - 4 - k.t) / 2, 0) := by
      unfold kindOf
      rw [if_neg (by omega), if_neg (by omega), if_neg (by omega), if_neg (by omega), if_neg (by omega), if_pos q5.2]
    rw [hkd]
    simp only
    rcases Int.emod_two_eq (a - 1 - 1 - 4 - k.t) with h | h
    · refine .inr (.inl ⟨by omega, ?_⟩)
      unfold wantF wantI
      rw [if_neg q, if_neg (by omega), if_pos q5, if_pos (by omega)]
    · by_cases hz : a = 6 + k.t + 2 * k.s - 1
      · refine .inr (.inr (.inr (.inl ⟨by omega, by rw [beq_iff_eq]; omega, ?_, by omega, by omega⟩)))
        unfold wantF
        rw [if_neg q, if_pos hz]
      · refine .inr (.inr (.inl ⟨by omega, by rw [beq_eq_false_iff_ne]; omega, ?_, by omega, by omega⟩))
        unfold wantF wantI
        rw [if_neg q, if_neg hz, if_pos q5, if_neg (by omega)]
        omega
  · have hz : wantF k a = 0 := by
      unfold wantF wantI
      rw [if_neg q]
      split
      · rfl
      · first | rfl | rw [if_neg q5]
    refine .inr (.inr (.inr (.inr ?_)))
    have hkd : (kindOf k a).1 ≠ 1 ∧ (kindOf k a).1 ≠ 4 ∧ (kindOf k a).1 ≠ 5 := by
      unfold kindOf
      rw [if_neg (by omega)]
      by_cases q1 : a < 1
      · rw [if_pos q1]; exact ⟨by simp, by simp, by simp⟩
      rw [if_neg q1, if_neg (by omega)]
      by_cases q3 : a < 6
      · rw [if_pos q3]; exact ⟨by simp, by simp, by simp⟩
      rw [if_neg q3]
      by_cases q4 : a < 6 + k.t
      · rw [if_pos q4]; exact ⟨by simp, by simp, by simp⟩
      rw [if_neg q4, if_neg (by omega)]
      by_cases q6 : a < 6 + k.t + 2 * k.s + 3 * k.c
      · rw [if_pos q6]; simp only; omega
      rw [if_neg q6, if_pos (by omega)]
      exact ⟨by simp, by simp, by simp⟩
    exact ⟨by rw [beq_eq_false_iff_ne]; exact hkd.1, by rw [beq_eq_false_iff_ne]; exact hkd.2.1, by rw [beq_eq_false_iff_ne]; exact hkd.2.2, hz⟩

set_option maxRecDepth 100000 in
set_option maxHeartbeats 3200000 in
theorem fresh_walk (k : Cfg) (_ : k.I) (q : Cfg) (_ : q.I) (w : World) : Calls Try.prog 5 #[.agg #[.int .i64 k.t, .int .i64 k.s, .int .i64 k.c, .int .i64 k.w, .int .i64 k.g, .int .i64 k.p, .int .i64 k.r], .agg #[.int .i64 q.t, .int .i64 q.s, .int .i64 q.c, .int .i64 q.w, .int .i64 q.g, .int .i64 q.p, .int .i64 q.r]] w fun e w' => e = .returned (.bool true) ∧ Only [] w w' := by
  have hc := conf_ok k
  have hs := conf_small k
  go_enter Try.func5, Try.ntmps5
  go_wp2_with fail
  refine (config_any k _).mono ?_
  rintro e w1 ⟨rfl, ho1⟩
  generalize conf k = c at *
  have hQ1 : Blk w1 (w.heap.size + 1) #[.int .i64 q.t, .int .i64 q.s, .int .i64 q.c, .int .i64 q.w, .int .i64 q.g, .int .i64 q.p, .int .i64 q.r] 23 := (Blk.new' (w := w.alloc (.cells #[.int .i64 k.t, .int .i64 k.s, .int .i64 k.c, .int .i64 k.w, .int .i64 k.g, .int .i64 k.p, .int .i64 k.r] 23)) (by simp) rfl).only ho1 (by simp)
  go_wp2_with fail
  refine (fresh_yes c hc _).mono ?_
  rintro e w2 ⟨m, rfl, hm2, hn2, ho2⟩
  obtain ⟨hl1, hl2⟩ := len_small hc hs
  have hX2 : Blk w2 w1.heap.size #[.int .i64 c.t, .int .i64 c.s, .int .i64 c.c, .int .i64 c.w, .int .i64 c.g, .int .i64 c.p, .int .i64 c.r] 23 := (Blk.new w1 _ 23).only ho2 (by simp)
  have hX2d := hX2.drew
  have hlen := fresh_len hc
  go_wp2_with fail
  go_region_held3 (fun w' => ∀ o, w'.cell? ⟨w1.heap.size, o, none⟩ = (#[.int .i64 c.t, .int .i64 c.s, .int .i64 c.c, .int .i64 c.w, .int .i64 c.g, .int .i64 c.p, .int .i64 c.r] : Array Value)[o]?) ((refine Blk.cell (T := 23) ?_; repeat (first | with_reducible assumption | with_reducible apply Blk.drew | with_reducible apply Blk.alloc | (with_reducible refine Blk.only ?_ (by with_reducible assumption) List.not_mem_nil))))
    (first
      | (go_at_call 31; refine (awake4 _).mono ?_; rintro e w3 ⟨rfl, ho3⟩)
      | (go_at_call 40; refine (len_any (m := m) (s := freshS c) (by repeat (first | with_reducible assumption | with_reducible apply MemR.drew | with_reducible apply MemR.alloc | (with_reducible refine MemR.only ?_ (by with_reducible assumption) List.not_mem_nil List.not_mem_nil List.not_mem_nil)))).mono ?_; rintro e w' ⟨rfl, rfl⟩)
      | (go_at_call 41; refine (lena_any _ c).mono ?_; rintro e w' ⟨rfl, rfl⟩))
  have hX3 : Blk w3 w1.heap.size #[.int .i64 c.t, .int .i64 c.s, .int .i64 c.c, .int .i64 c.w, .int .i64 c.g, .int .i64 c.p, .int .i64 c.r] 23 := by
    repeat (first | with_reducible assumption | with_reducible apply Blk.drew | with_reducible apply Blk.alloc | (with_reducible refine Blk.only ?_ (by with_reducible assumption) List.not_mem_nil))
  have hQ3 : Blk w3 (w.heap.size + 1) #[.int .i64 q.t, .int .i64 q.s, .int .i64 q.c, .int .i64 q.w, .int .i64 q.g, .int .i64 q.p, .int .i64 q.r] 23 := by
    repeat (first | with_reducible assumption | with_reducible apply Blk.drew | with_reducible apply Blk.alloc | (with_reducible refine Blk.only ?_ (by with_reducible assumption) List.not_mem_nil))
  have hm3 : MemR w3 m (freshS c) := by
    repeat (first | with_reducible assumption | with_reducible apply MemR.drew | with_reducible apply MemR.alloc | (with_reducible refine MemR.only ?_ (by with_reducible assumption) List.not_mem_nil List.not_mem_nil List.not_mem_nil))
  have hO3 : Only [] w w3 := by
    repeat (first | with_reducible exact Only.refl _ _ | with_reducible assumption | with_reducible apply Only.drew | with_reducible apply Only.drewN | with_reducible apply Only.alloc | (with_reducible refine Only.trans' ?_ (by with_reducible assumption) (fun _ h _ => h)))
  have cs0 := hc.s0
  have cs1 := hs.s
  have HL := Lib.hid hlen
  have HC := Lib.hid (fun a => fresh_cases hc (by have := hs.s; omega) a)
  clear ho1 ho2 ho3 hQ1 hX2 hX2d hm2 hn2 hlen
  go_wp2
  go_loopw [8] (fun i wr => ∃ a : Nat, (a : Int) ≤ aLen c ∧ i = .int .i64 a ∧ Blk wr w1.heap.size #[.int .i64 c.t, .int .i64 c.s, .int .i64 c.c, .int .i64 c.w, .int .i64 c.g, .int .i64 c.p, .int .i64 c.r] 23 ∧ Blk wr (w.heap.size + 1) #[.int .i64 q.t, .int .i64 q.s, .int .i64 q.c, .int .i64 q.w, .int .i64 q.g, .int .i64 q.p, .int .i64 q.r] 23 ∧ MemR wr m (freshS c) ∧ Only [] w wr) (fun i _ => (aLen c).toNat - (intOf i).toNat)
  case atStart =>
    refine ⟨0, by omega, rfl, ?_, ?_, ?_, ?_⟩
    · repeat (first | with_reducible assumption | with_reducible apply Blk.drew | with_reducible apply Blk.alloc | (with_reducible refine Blk.only ?_ (by with_reducible assumption) List.not_mem_nil))
    · repeat (first | with_reducible assumption | with_reducible apply Blk.drew | with_reducible apply Blk.alloc | (with_reducible refine Blk.only ?_ (by with_reducible assumption) List.not_mem_nil))
    · repeat (first | with_reducible assumption | with_reducible apply MemR.drew | with_reducible apply MemR.alloc | (with_reducible refine MemR.only ?_ (by with_reducible assumption) List.not_mem_nil List.not_mem_nil List.not_mem_nil))
    · repeat (first | with_reducible exact Only.refl _ _ | with_reducible assumption | with_reducible apply Only.drew | with_reducible apply Only.drewN | with_reducible apply Only.alloc | (with_reducible refine Only.trans' ?_ (by with_reducible assumption) (fun _ h _ => h)))
  case round =>
    rename_i wr
    obtain ⟨a, ha, rfl, hXr, hQr, hmr, hOr⟩ := hrel
    have hxr := hXr.cell
    clear hX3 hQ3 hm3 hO3
    by_cases hlt : (a : Int) < aLen c
    · have hlen := HL.out
      go_wp2_with fail
      refine (len_any (m := m) (s := freshS c) hmr).mono ?_
      rintro e w' ⟨rfl, rfl⟩
      have HQ := HC.out a (by omega) hlt
      have HQ := Lib.hid HQ
      go_wp2_with fail
      refine (kind_any c hc a (by omega) (by omega) _).mono ?_
      rintro e w4 ⟨rfl, ho4⟩
      have hX4 := hXr.only ho4 (by simp)
      have hx4 := hX4.cell
      have hm4 : MemR w4 m (freshS c) := by
        repeat (first | with_reducible assumption | with_reducible apply MemR.drew | with_reducible apply MemR.alloc | (with_reducible refine MemR.only ?_ (by with_reducible assumption) List.not_mem_nil List.not_mem_nil List.not_mem_nil))
      rcases HQ.out with ⟨e1, e2⟩ | ⟨e1, e2⟩ | ⟨e1, e3, e2, e4, e5⟩ | ⟨e1, e3, e2, e4, e5⟩ | ⟨e1, e3, e4, e2⟩
      all_goals
        go_wp2_with (first
          | (go_at_call 43; refine (refslot_gen1 _).mono ?_; rintro e w5 ⟨rfl, ho5⟩)
          | (go_at_call 44; refine (peek_any (m := m) (s := freshS c) (by repeat (first | with_reducible assumption | with_reducible apply MemR.drew | with_reducible apply MemR.alloc | (with_reducible refine MemR.only ?_ (by with_reducible assumption) List.not_mem_nil List.not_mem_nil List.not_mem_nil)))).mono ?_; rintro e w' ⟨rfl, rfl⟩))
        go_roundw
        case rel =>
          refine ⟨a + 1, by omega, by go_num, ?_, ?_, ?_, ?_⟩
          · repeat (first | with_reducible assumption | with_reducible apply Blk.drew | with_reducible apply Blk.alloc | (with_reducible refine Blk.only ?_ (by with_reducible assumption) List.not_mem_nil))
          · repeat (first | with_reducible assumption | with_reducible apply Blk.drew | with_reducible apply Blk.alloc | (with_reducible refine Blk.only ?_ (by with_reducible assumption) List.not_mem_nil))
          · repeat (first | with_reducible assumption | with_reducible apply MemR.drew | with_reducible apply MemR.alloc | (with_reducible refine MemR.only ?_ (by with_reducible assumption) List.not_mem_nil List.not_mem_nil List.not_mem_nil))
          · repeat (first | with_reducible exact Only.refl _ _ | with_reducible assumption | with_reducible apply Only.drew | with_reducible apply Only.drewN | with_reducible apply Only.alloc | (with_reducible refine Only.trans' ?_ (by with_reducible assumption) (fun _ h _ => h)))
        case measure => simp [intOf]; omega
    · have hal : (a : Int) = aLen c := by omega
      have HAL := Lib.hid hal
      clear hal
      have hlen := HL.out
      go_wp2_with fail
      refine (len_any (m := m) (s := freshS c) hmr).mono ?_
      rintro e w' ⟨rfl, rfl⟩
      have hqr := hQr.cell
      go_wp2_with fail
      refine (refcheck_any q _).mono ?_
      rintro e w4 ⟨rfl, ho4⟩
      cases hq : okB q
      · have HB := Lib.hid hq
        clear hq
        have hq4 := (hQr.only ho4 (by simp)).cell
        go_wp2_with fail
        refine (fresh_no q HB.out _).mono ?_
        rintro e w5 ⟨rfl, ho5⟩
        go_wp2
        go_ret
        refine ⟨rfl, ?_⟩
        repeat (first | with_reducible exact Only.refl _ _ | with_reducible assumption | with_reducible apply Only.drew | with_reducible apply Only.drewN | with_reducible apply Only.alloc | (with_reducible refine Only.trans' ?_ (by with_reducible assumption) (fun _ h _ => h)))
      · clear hq
        go_wp2
        go_ret
        refine ⟨rfl, ?_⟩
        repeat (first | with_reducible exact Only.refl _ _ | with_reducible assumption | with_reducible apply Only.drew | with_reducible apply Only.drewN | with_reducible apply Only.alloc | (with_reducible refine Only.trans' ?_ (by with_reducible assumption) (fun _ h _ => h)))

end Go.Proofs.Yteoimmjgnflmmaa
