/-
  A memory is made: all noughts.
-/
import Derived.Test.YteoimmjgnflmmaaChk
namespace Go.Proofs.Yteoimmjgnflmmaa
open Go.RowKit

theorem Try.info37 : (Try.prog.info? 37).map (fun i => (i.zero, i.size, i.bytes)) = some (some (.int .u64 0), 1, 8) := by kernel_rfl
theorem Try.info3 : (Try.prog.info? 3).map (fun i => (i.zero, i.size, i.bytes)) = some (some (.int .i64 0), 1, 8) := by kernel_rfl
theorem Try.info4 : (Try.prog.info? 4).map (fun i => (i.zero, i.size, i.bytes)) = some (some (.bool false), 1, 1) := by kernel_rfl

theorem made_u64 (n : Nat) : madeCells (Value.int .u64 0).cells n = u64s (List.replicate n 0) := by
  apply Array.ext'
  simp [madeCells, u64s, Value.cells]
  apply List.ext_getElem
  · simp
  · intro i h1 h2
    simp [Nat.mod_one]
theorem made_i64 (n : Nat) : madeCells (Value.int .i64 0).cells n = i64s (List.replicate n 0) := by
  apply Array.ext'
  simp [madeCells, i64s, Value.cells]
  apply List.ext_getElem
  · simp
  · intro i h1 h2
    simp [Nat.mod_one]

theorem run_make61 (n : Nat) (hn : n ≤ 1048576) : ∀ w : World, (Instr.makeSlice 61 (.int .i64 (n : Int)) (.int .i64 (n : Int))).run Try.prog w = .ok (.slice (some ⟨w.heap.size, 0, none⟩) n n) (w.alloc (.cells (u64s (List.replicate n 0)) 37)) := by
  intro w
  obtain ⟨i0, hi, hz0, hz1, hz2⟩ := info_parts Try.info37
  have h := run_make (P := Try.prog) w 61 37 i0 (.int .u64 0) Try.underlying61 hi hz0 .i64 .i64 n n (by omega) (by omega) (by rw [hz2]; omega) (by omega)
  rw [h, hz1, Nat.mul_one, Int.toNat_natCast, made_u64]
theorem run_make45 (n : Nat) (hn : n ≤ 1048576) : ∀ w : World, (Instr.makeSlice 45 (.int .i64 (n : Int)) (.int .i64 (n : Int))).run Try.prog w = .ok (.slice (some ⟨w.heap.size, 0, none⟩) n n) (w.alloc (.cells (i64s (List.replicate n 0)) 3)) := by
  intro w
  obtain ⟨i0, hi, hz0, hz1, hz2⟩ := info_parts Try.info3
  have h := run_make (P := Try.prog) w 45 3 i0 (.int .i64 0) Try.underlying45 hi hz0 .i64 .i64 n n (by omega) (by omega) (by rw [hz2]; omega) (by omega)
  rw [h, hz1, Nat.mul_one, Int.toNat_natCast, made_i64]

/-- A memory's blocks are new ones. -/
structure MB.New (m : MB) (w : World) : Prop where
  b : w.heap.size ≤ m.b
  wb : w.heap.size ≤ m.wb
  hb : w.heap.size ≤ m.hb

def MS.zero (n : Nat) : MS := ⟨List.replicate n 0, 0, 0, 0, 0, false⟩

def NewPost (n : Nat) (w : World) (e : Ending) (w' : World) : Prop :=
  ∃ m : MB, e = .returned (.tuple #[.pointer (some ⟨m.b, 0, none⟩), .int .i64 0]) ∧ MemR w' m (MS.zero n) ∧ m.New w ∧ Only [] w w'

theorem zero_rng (n : Nat) : ∀ x ∈ (MS.zero n).ws, U64 x := by
  intro x hx
  have : x = 0 := by simp [MS.zero] at hx; exact hx.2
  subst this
  exact ⟨by decide, by decide⟩

set_option maxHeartbeats 1600000 in
theorem new_yes (n : Nat) (h1 : 1 ≤ n) (h2 : n ≤ 1048576) (w : World) :
    Calls Try.prog 100 #[.int .i64 (n : Int)] w (NewPost n w) := by
  have q61 := run_make61 n h2
  have q45 := run_make45 n h2
  go_enter Try.func100, Try.ntmps100
  go_wp2
  go_region
  · go_wp2
    go_ret2
    refine ⟨⟨w.heap.size + 1 + 1, w.heap.size, w.heap.size + 1⟩, rfl, ⟨?_, ?_, ⟨List.replicate n 0, by simp [MS.zero], ?_⟩, ?_, ?_, ?_, ?_, zero_rng n⟩, ⟨?_, ?_, ?_⟩, ?_⟩
    · exact (Blk.new' (by simp) (by simp [MS.zero])).drew
    · exact (((Blk.new' (by simp) rfl).alloc _).alloc _).drew
    · exact ((Blk.new' (by simp) rfl).alloc _).drew
    · simp only; omega
    · simp only; omega
    · simp only; omega
    · simp [MS.zero]; omega
    · simp only; omega
    · simp only; omega
    · simp only; omega
    · exact ((((Only.refl _ _).alloc _).alloc _).alloc _).drew
  · go_wp2
    go_ret2
    refine ⟨⟨w.heap.size + 1 + 1, w.heap.size + 1, w.heap.size⟩, rfl, ⟨?_, ?_, ⟨List.replicate n 0, by simp [MS.zero], ?_⟩, ?_, ?_, ?_, ?_, zero_rng n⟩, ⟨?_, ?_, ?_⟩, ?_⟩
    · exact (Blk.new' (by simp) (by simp [MS.zero])).drew
    · exact ((Blk.new' (by simp) rfl).alloc _).drew
    · exact (((Blk.new' (by simp) rfl).alloc _).alloc _).drew
    · simp only; omega
    · simp only; omega
    · simp only; omega
    · simp [MS.zero]; omega
    · simp only; omega
    · simp only; omega
    · simp only; omega
    · exact ((((Only.refl _ _).alloc _).alloc _).alloc _).drew

/-- A fresh arena's memory, i of its slots laid. -/
def freshLoop (k : Cfg) (s : MS) : Nat → MS
  | 0 => s
  | i + 1 => ((freshLoop k s i).store (aSlot k i) (putSlot 0 0 1 0)).store (aSlot k i + 1) (putTop (i + 1) 0)
def freshS (k : Cfg) : MS := ((freshLoop k (MS.zero (aLen k).toNat) k.s.toNat).store (aSlot k (k.s - 1) + 1) (putTop (-1) 0)).store 1 (putTop 0 0)

def FreshPost (k : Cfg) (w : World) (e : Ending) (w' : World) : Prop :=
  ∃ m : MB, e = .returned (.tuple #[.pointer (some ⟨m.b, 0, none⟩), .int .i64 0]) ∧ MemR w' m (freshS k) ∧ m.New w ∧ Only [] w w'

theorem MB.New.sub {m : MB} {w : World} (h : m.New w) : ∀ x, x ∈ [m.b, m.wb, m.hb] → x < w.heap.size → x ∈ ([] : List Nat) := by
  intro x hx hlt
  obtain ⟨h1, h2, h3⟩ := h
  simp only [List.mem_cons, List.not_mem_nil, or_false] at hx
  omega
theorem MB.New.mono {m : MB} {w w1 : World} (h : m.New w1) (hw : w.heap.size ≤ w1.heap.size) : m.New w := ⟨Nat.le_trans hw h.b, Nat.le_trans hw h.wb, Nat.le_trans hw h.hb⟩

set_option maxHeartbeats 1600000 in
theorem fresh_yes (k : Cfg) (hk : k.Ok) (w : World) : Calls Try.prog 39 #[.agg #[.int .i64 k.t, .int .i64 k.s, .int .i64 k.c, .int .i64 k.w, .int .i64 k.g, .int .i64 k.p, .int .i64 k.r]] w (FreshPost k w) := by
  have hl := aLen_ok hk
  have hm0 : 0 ≤ k.w * k.c := Int.mul_nonneg (by have := hk.w0; omega) (by have := hk.c0; omega)
  have hm1 : k.w * k.c ≤ 256 * 64 := Int.mul_le_mul hk.w1 hk.c1 (by have := hk.c0; omega) (by decide)
  have hn1 : 1 ≤ (aLen k).toNat := by have := hk.t0; have := hk.s0; have := hk.c0; omega
  have hn2 : (aLen k).toNat ≤ 1048576 := by have := hk.t1; have := hk.s1; have := hk.c1; omega
  have hn3 : aLen k = ((aLen k).toNat : Int) := by omega
  have HN := Lib.hid hn3
  have hs0 := hk.s0
  have hs1 := hk.s1
  clear hl hm0 hm1 hn3
  go_enter Try.func39, Try.ntmps39
  go_wp2_with fail
  refine (check_yes k hk _).mono ?_
  rintro e w1 ⟨rfl, ho1⟩
  have hx1 := ((Blk.new w #[.int .i64 k.t, .int .i64 k.s, .int .i64 k.c, .int .i64 k.w, .int .i64 k.g, .int .i64 k.p, .int .i64 k.r] 23).only ho1 (by simp)).cell
  have hX1 := ((Blk.new w #[.int .i64 k.t, .int .i64 k.s, .int .i64 k.c, .int .i64 k.w, .int .i64 k.g, .int .i64 k.p, .int .i64 k.r] 23).only ho1 (by simp))
  go_wp2_with fail
  refine (lena_any _ k).mono ?_
  rintro e w2 ⟨rfl, rfl⟩
  go_wp2_with fail
  rw [HN.out]
  refine (new_yes _ hn1 hn2 _).mono ?_
  rintro e w3 ⟨m, rfl, hm3, hmn, ho3⟩
  have hX3 := ((hX1.alloc (.cells #[.int .i64 k.t, .int .i64 k.s, .int .i64 k.c, .int .i64 k.w, .int .i64 k.g, .int .i64 k.p, .int .i64 k.r] 23)).alloc (.cells #[.int .i64 k.t, .int .i64 k.s, .int .i64 k.c, .int .i64 k.w, .int .i64 k.g, .int .i64 k.p, .int .i64 k.r] 23)).only ho3 (by simp)
  have hx3 := hX3.cell
  have hb3 := hmn.b
  have hwb3 := hmn.wb
  have hhb3 := hmn.hb
  simp only [World.size_alloc] at hb3 hwb3 hhb3
  have hO3 : Only [] w w3 := ((((Only.refl [] w).alloc _).trans' ho1 (fun _ h _ => h)).alloc _ |>.alloc _).trans' ho3 (fun _ h _ => h)
  have hz1 := ho1.size
  simp only [World.size_alloc] at hz1
  have hN : m.New w := ⟨by omega, by omega, by omega⟩
  have n1 : w.heap.size ∉ [m.b, m.wb, m.hb] := by simp only [List.mem_cons, List.not_mem_nil, or_false, not_or]; omega
  clear ho3 ho1 hx1 hX1 hmn
  go_wp2
  go_loopw [21] (fun i wr => ∃ j : Nat, (j : Int) ≤ k.s ∧ i = .int .i64 j ∧ MemR wr m (freshLoop k (MS.zero (aLen k).toNat) j) ∧ Blk wr w.heap.size #[.int .i64 k.t, .int .i64 k.s, .int .i64 k.c, .int .i64 k.w, .int .i64 k.g, .int .i64 k.p, .int .i64 k.r] 23 ∧ Only [] w wr) (fun i _ => k.s.toNat - (intOf i).toNat)
  case atStart => exact ⟨0, by omega, rfl, hm3, hX3, hO3⟩
  case round =>
    rename_i wr
    obtain ⟨j, hj, rfl, hmr, hXr, hOr⟩ := hrel
    have hxr := hXr.cell
    have hsz := hXr.lt
    have hA : aSlot k j = 6 + k.t + 2 * j := aSlot_ok hk (by omega) (by omega)
    by_cases hlt : (j : Int) < k.s
    · have hA0 : 0 ≤ aSlot k j := by have := hk.t0; omega
      have hA1 : aSlot k j ≤ 1000000 := by have := hk.t1; omega
      clear hA
      go_wp2_with fail
      refine (slota_any _ k _).mono ?_
      rintro e w4 ⟨rfl, rfl⟩
      go_wp2_with fail
      refine (putslot_any _ _ _ _ _).mono ?_
      rintro e w5 ⟨rfl, ho5⟩
      have hX5 := (hXr.alloc (.cells #[.int .i64 k.t, .int .i64 k.s, .int .i64 k.c, .int .i64 k.w, .int .i64 k.g, .int .i64 k.p, .int .i64 k.r] 23)).only ho5 (by simp)
      have hx5 := hX5.cell
      have hm5 := (hmr.alloc (.cells #[.int .i64 k.t, .int .i64 k.s, .int .i64 k.c, .int .i64 k.w, .int .i64 k.g, .int .i64 k.p, .int .i64 k.r] 23)).only ho5 (by simp) (by simp) (by simp)
      go_wp2_with fail
      refine (store_any hm5 (putSlot_rng _ _ _ _)).mono ?_
      rintro e w6 ⟨rfl, hm6, ho6⟩
      have hX6 := hX5.only ho6 n1
      have hx6 := hX6.cell
      go_wp2_with fail
      refine (slota_any _ k _).mono ?_
      rintro e w7 ⟨rfl, rfl⟩
      go_wp2_with fail
      refine (puttop_any _ _ _ (by omega) (by omega)).mono ?_
      rintro e w8 ⟨rfl, rfl⟩
      go_wp2_with fail
      refine (store_any (hm6.alloc _) (putTop_rng (by omega))).mono ?_
      rintro e w9 ⟨rfl, hm9, ho9⟩
      go_wp2
      go_roundw
      case rel => exact ⟨j + 1, by omega, by go_num, hm9, (hX6.alloc _).only ho9 n1, ((((hOr.alloc _).trans' ho5 (fun _ h _ => h)).trans' ho6 hN.sub).alloc _).trans' ho9 hN.sub⟩
      case measure => simp [intOf]; omega
    · have hjs : (j : Int) = k.s := by omega
      have hjn : j = k.s.toNat := by omega
      have hB : aSlot k (k.s - 1) = 6 + k.t + 2 * (k.s - 1) := aSlot_ok hk (by omega) (by omega)
      have hB0 : 0 ≤ aSlot k (k.s - 1) := by have := hk.t0; omega
      have hB1 : aSlot k (k.s - 1) ≤ 1000000 := by have := hk.t1; omega
      have HJ := Lib.hid hjs
      have HJN := Lib.hid hjn
      clear hA hB hjs hjn
      go_wp2_with fail
      refine (slota_any _ k _).mono ?_
      rintro e w7 ⟨rfl, rfl⟩
      go_wp2_with fail
      refine (puttop_any _ _ _ (by omega) (by omega)).mono ?_
      rintro e w8 ⟨rfl, rfl⟩
      go_wp2_with fail
      refine (store_any (hmr.alloc _) (putTop_rng (by omega))).mono ?_
      rintro e w9 ⟨rfl, hm9, ho9⟩
      go_wp2_with fail
      refine (topa_any _).mono ?_
      rintro e w10 ⟨rfl, rfl⟩
      go_wp2_with fail
      refine (puttop_any _ _ _ (by omega) (by omega)).mono ?_
      rintro e w11 ⟨rfl, rfl⟩
      go_wp2_with fail
      refine (store_any hm9 (putTop_rng (by omega))).mono ?_
      rintro e w12 ⟨rfl, hm12, ho12⟩
      go_wp2
      go_ret2
      refine ⟨m, rfl, ?_, hN, ((hOr.alloc _).trans' ho9 hN.sub).trans' ho12 hN.sub⟩
      have h12 := hm12
      rw [HJN.out] at h12
      exact h12

/-- An arena's memory is not made where it may not be such. -/
theorem fresh_no (k : Cfg) (hk : okB k = false) (w : World) : Calls Try.prog 39 #[.agg #[.int .i64 k.t, .int .i64 k.s, .int .i64 k.c, .int .i64 k.w, .int .i64 k.g, .int .i64 k.p, .int .i64 k.r]] w fun e w' => e = .returned (.tuple #[.pointer none, .int .i64 1]) ∧ Only [] w w' := by
  have HK := Lib.hid hk
  clear hk
  go_enter Try.func39, Try.ntmps39
  go_wp2_with fail
  refine (check_any k _).mono ?_
  rintro e w1 ⟨rfl, rfl⟩
  rw [HK.out]
  go_wp2
  go_ret2
  exact ⟨rfl, ((Only.refl _ _).alloc _).alloc _⟩

def ArenaPost (k : Cfg) (wh : Int) (w : World) (e : Ending) (w' : World) : Prop :=
  ∃ m : MB, e = .returned (.tuple #[.agg #[.int .i64 k.t, .int .i64 k.s, .int .i64 k.c, .int .i64 k.w, .int .i64 k.g, .int .i64 k.p, .int .i64 k.r, .pointer (some ⟨m.b, 0, none⟩), .int .i64 wh], .bool true]) ∧ MemR w' m (freshS k) ∧ m.New w ∧ Only [] w w'

set_option maxHeartbeats 800000 in
theorem arena_yes (k : Cfg) (hk : k.Ok) (hg : k.g = 100) (hp : k.p = 600) (hr : k.r = 3) (w : World) :
    Calls Try.prog 57 #[.int .i64 k.t, .int .i64 k.s, .int .i64 k.c, .int .i64 k.w] w (ArenaPost k 0 w) := by
  obtain ⟨t, s, c, ww, g, p, r⟩ := k
  simp only at hg hp hr
  subst hg hp hr
  go_enter Try.func57, Try.ntmps57
  go_wp2_with fail
  refine (fresh_yes _ hk _).mono ?_
  rintro e w1 ⟨m, rfl, hm1, hn1, ho1⟩
  have hR := (((Blk.new w #[.int .i64 0, .int .i64 0, .int .i64 0, .int .i64 0, .int .i64 0, .int .i64 0, .int .i64 0, .pointer none, .int .i64 0] 47).alloc (.cells #[.int .i64 t, .int .i64 s, .int .i64 c, .int .i64 ww, .int .i64 100, .int .i64 600, .int .i64 3] 23))).only ho1 (by simp)
  have hC := (Blk.new' (w := w.alloc (.cells #[.int .i64 0, .int .i64 0, .int .i64 0, .int .i64 0, .int .i64 0, .int .i64 0, .int .i64 0, .pointer none, .int .i64 0] 47)) (cs := #[.int .i64 t, .int .i64 s, .int .i64 c, .int .i64 ww, .int .i64 100, .int .i64 600, .int .i64 3]) (T := 23) (b := w.heap.size + 1) (by simp) rfl).only ho1 (by simp)
  have hRc := hR.cell
  have hRf := hR.frozen
  have hCc := hC.cell
  have hz := ho1.size
  simp only [World.size_alloc] at hz
  have hb := hn1.b
  have hwb := hn1.wb
  have hhb := hn1.hb
  simp only [World.size_alloc] at hb hwb hhb
  have hN : m.New w := ⟨by omega, by omega, by omega⟩
  have hO : Only [] w w1 := (((Only.refl [] w).alloc _).alloc _).trans' ho1 (fun _ h _ => h)
  go_wp2
  refine bodyPost_ret (v := .tuple #[.agg #[.int .i64 t, .int .i64 s, .int .i64 c, .int .i64 ww, .int .i64 100, .int .i64 600, .int .i64 3, .pointer (some ⟨m.b, 0, none⟩), .int .i64 0], .bool true]) (by simp [results, Try.results57, go_sem, hRc]) rfl ⟨m, rfl, ?_, hN, ?_⟩
  · refine hm1.only (l := [w.heap.size]) ?_ (by simp; omega) (by simp; omega) (by simp; omega)
    repeat (refine Only.setCell ?_ _ _ (by simp))
    exact Only.refl _ _
  · repeat (refine Only.setCell ?_ _ _ (by simp))
    exact hO

end Go.Proofs.Yteoimmjgnflmmaa
