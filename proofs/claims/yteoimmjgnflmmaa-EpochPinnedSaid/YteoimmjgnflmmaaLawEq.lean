/-
  EpochPinned, walked.
-/
import Derived.Test.YteoimmjgnflmmaaEp
import Derived.Test.YteoimmjgnflmmaaPinQ
namespace Go.Proofs.Yteoimmjgnflmmaa
open Go.RowKit Go.BigFrame

section
variable {w : World} {m : MB} {s : MS}
set_option maxHeartbeats 1600000 in
theorem out_any (k : Cfg) (wh : Int) (hm : MemR w m s) :
    Calls Try.prog 79 #[.agg #[], .agg #[.int .i64 k.t, .int .i64 k.s, .int .i64 k.c, .int .i64 k.w, .int .i64 k.g, .int .i64 k.p, .int .i64 k.r, .pointer (some ⟨m.b, 0, none⟩), .int .i64 wh]] w fun e w' => e = .returned (.bool true) ∧ MemR w' m ((s.by wh).store (aPin wh) 0) ∧ Only m.l w w' := by
  go_enter Try.func79, Try.ntmps79
  go_wp2
  have hX : Blk ((w.alloc (.cells #[] 98)).alloc (.cells #[.int .i64 k.t, .int .i64 k.s, .int .i64 k.c, .int .i64 k.w, .int .i64 k.g, .int .i64 k.p, .int .i64 k.r, .pointer (some ⟨m.b, 0, none⟩), .int .i64 wh] 47)).drew (w.heap.size + 1) #[.int .i64 k.t, .int .i64 k.s, .int .i64 k.c, .int .i64 k.w, .int .i64 k.g, .int .i64 k.p, .int .i64 k.r, .pointer (some ⟨m.b, 0, none⟩), .int .i64 wh] 47 := (Blk.new' (by simp) rfl : Blk ((w.alloc (.cells #[] 98)).alloc (.cells #[.int .i64 k.t, .int .i64 k.s, .int .i64 k.c, .int .i64 k.w, .int .i64 k.g, .int .i64 k.p, .int .i64 k.r, .pointer (some ⟨m.b, 0, none⟩), .int .i64 wh] 47)) (w.heap.size + 1) #[.int .i64 k.t, .int .i64 k.s, .int .i64 k.c, .int .i64 k.w, .int .i64 k.g, .int .i64 k.p, .int .i64 k.r, .pointer (some ⟨m.b, 0, none⟩), .int .i64 wh] 47).drew
  have hM : MemR ((w.alloc (.cells #[] 98)).alloc (.cells #[.int .i64 k.t, .int .i64 k.s, .int .i64 k.c, .int .i64 k.w, .int .i64 k.g, .int .i64 k.p, .int .i64 k.r, .pointer (some ⟨m.b, 0, none⟩), .int .i64 wh] 47)).drew m s := ((hm.alloc _).alloc _).drew
  have hnx : w.heap.size + 1 ∉ m.l := hm.notin (by omega)
  have hO : Only m.l w ((w.alloc (.cells #[] 98)).alloc (.cells #[.int .i64 k.t, .int .i64 k.s, .int .i64 k.c, .int .i64 k.w, .int .i64 k.g, .int .i64 k.p, .int .i64 k.r, .pointer (some ⟨m.b, 0, none⟩), .int .i64 wh] 47)).drew := (((Only.refl _ w).alloc _).alloc _).drew
  go_region_held3 (fun w' => ∀ o, w'.cell? ⟨w.heap.size + 1, o, none⟩ = (#[.int .i64 k.t, .int .i64 k.s, .int .i64 k.c, .int .i64 k.w, .int .i64 k.g, .int .i64 k.p, .int .i64 k.r, .pointer (some ⟨m.b, 0, none⟩), .int .i64 wh] : Array Value)[o]?) (first | exact hX.cell | exact hX1.cell)
    (first
      | (go_at_call 48; refine (pin_any _ _).mono ?_; rintro e w' ⟨rfl, rfl⟩)
      | (go_at_call 70; refine (store_env k wh hM ⟨by decide, by decide⟩).mono ?_; rintro e w1 ⟨rfl, hm1, ho1⟩; have hX1 := hX.only ho1 hnx))
  all_goals
    go_wp2
    go_ret
    exact ⟨rfl, hm1, hO.trans' ho1 (fun _ h _ => h)⟩
end

def kE4 : Cfg := ⟨4, 1, 1, 20, 100, 600, 3⟩
theorem kE4_ok : kE4.Ok := by constructor <;> decide
theorem kE4_len : (freshS kE4).ws.length = 35 := by decide +kernel

/-- A memory of 35 words at the epoch v; its second pin is 1. -/
structure EQ (s : MS) (v : Nat) : Prop where
  len : s.ws.length = 35
  v0 : s.ws.getD 0 0 = v
  p1 : s.ws.getD 7 0 = 1
  le : v ≤ 1

theorem EQ.next {s s' : MS} {v : Nat} {b : Bool} (h : EQ s v) (hb : b = true ↔ AllOk s.ws 4) (hw : s'.ws = cond b (s.ws.set 0 (IntKind.u64.wrap (s.ws.getD 0 0 + 1))) s.ws) : ∃ v', EQ s' v' := by
  obtain ⟨hl, h0, h1, hle⟩ := h
  cases b
  · refine ⟨v, ?_, ?_, ?_, hle⟩
    · rw [hw]; exact hl
    · rw [hw]; exact h0
    · rw [hw]; exact h1
  · have hall := hb.1 rfl 1 (by decide)
    unfold okPin at hall
    rw [show 6 + 1 = 7 from rfl, h1, h0, IntKind.wrap_u64] at hall
    have hv : v = 0 := by omega
    have hs : s'.ws = s.ws.set 0 (IntKind.u64.wrap (s.ws.getD 0 0 + 1)) := hw
    refine ⟨1, by rw [hs]; simp [hl], ?_, ?_, by decide⟩
    · rw [hs, h0, hv, IntKind.wrap_u64]
      simp [List.getD, hl]
    · rw [hs]
      have : (s.ws.set 0 (IntKind.u64.wrap (s.ws.getD 0 0 + 1))).getD 7 0 = s.ws.getD 7 0 := by simp [List.getD]
      rw [this]; exact h1

theorem EQ.keep {s s' : MS} {v : Nat} (h : EQ s v) (hl : s'.ws.length = s.ws.length) (h0 : s'.at 0 = s.at 0) (h7 : s'.at 7 = s.at 7) : EQ s' v :=
  ⟨hl.trans h.len, (show s'.ws.getD 0 0 = s.ws.getD 0 0 from h0).trans h.v0, (show s'.ws.getD 7 0 = s.ws.getD 7 0 from h7).trans h.p1, h.le⟩

theorem EQ.get0 {s : MS} {v : Nat} (h : EQ s v) : s.get 0 = v := by
  rw [get_ok _ _ ⟨by decide, by rw [h.len]; decide⟩]
  exact h.v0
theorem EQ.get7 {s : MS} {v : Nat} (h : EQ s v) : s.get (aPin 1) = 1 := by
  rw [aPin_small (by decide) (by decide), get_ok _ _ ⟨by decide, by rw [h.len]; decide⟩]
  exact h.p1

theorem len_keep {wh : Int} {s s' : MS} {p p' : PinS} {b : Bool} (hst : inStep wh s p = (b, s', p')) : s'.ws.length = s.ws.length := by
  unfold inStep at hst
  split at hst
  · simp only [Prod.mk.injEq] at hst
    obtain ⟨rfl, rfl, rfl⟩ := hst
    rw [load_ws]; rfl
  · split at hst
    · simp only [Prod.mk.injEq] at hst
      obtain ⟨rfl, rfl, rfl⟩ := hst
      rw [store_len]; rfl
    · split at hst
      · simp only [Prod.mk.injEq] at hst
        obtain ⟨rfl, rfl, rfl⟩ := hst
        rw [load_ws]; rfl
      · simp only [Prod.mk.injEq] at hst
        obtain ⟨rfl, rfl, rfl⟩ := hst
        rw [load_ws]; rfl

set_option maxRecDepth 100000 in
set_option maxHeartbeats 3200000 in
theorem epinned_walk (tries : Int) (_ht : I64 tries) (A : Option Addr) (n c : Nat) (xs : List Bool) (w : World) (hS : Slc Value.bool w A n xs) : Calls Try.prog 18 #[.int .i64 tries, .slice A n c] w fun e w' => e = .returned (.bool true) ∧ Only [] w w' := by
  have ht3 : 0 ≤ bits .and .i64 tries 31 ∧ bits .and .i64 tries 31 < 32 := by rw [iand31]; omega
  have hmost := hS.most
  unfold maxLen at hmost
  go_enter Try.func18, Try.ntmps18
  go_wp2_with fail
  refine (arena_yes kE4 kE4_ok rfl rfl rfl _).mono ?_
  rintro e w1 ⟨m, rfl, hm1, hn1, ho1⟩
  obtain ⟨hl1, hl2, hl3⟩ := hm1.lts
  obtain ⟨hn1, hn2, hn3⟩ := hn1
  have hE1 := Blk.new w1 #[.int .i64 kE4.t, .int .i64 kE4.s, .int .i64 kE4.c, .int .i64 kE4.w, .int .i64 kE4.g, .int .i64 kE4.p, .int .i64 kE4.r, .pointer (some ⟨m.b, 0, none⟩), .int .i64 0] 47
  go_wp2_with fail
  refine (awake13 _).mono ?_
  rintro e w2 ⟨rfl, ho2⟩
  have hz := ho1.size
  have hz2 := ho2.size
  simp only [World.size_alloc] at hz2
  have hEb : Blk w2 w1.heap.size #[.int .i64 kE4.t, .int .i64 kE4.s, .int .i64 kE4.c, .int .i64 kE4.w, .int .i64 kE4.g, .int .i64 kE4.p, .int .i64 kE4.r, .pointer (some ⟨m.b, 0, none⟩), .int .i64 0] 47 := hE1.only ho2 (by simp)
  have hMb : MemR w2 m (freshS kE4) := (hm1.alloc _).only ho2 (by simp) (by simp) (by simp)
  have hOb : Only [] w w2 := (ho1.alloc _).trans' ho2 (fun _ h _ => h)
  have hnx : w1.heap.size ∉ m.l := hm1.notin (Nat.le_refl _)
  have hlm : ∀ x, x ∈ m.l → x < w.heap.size → x ∈ ([] : List Nat) := fun x hx hlt => by
    simp only [List.mem_cons, List.not_mem_nil, or_false] at hx; omega
  clear hE1 hm1 ho1 ho2
  generalize htt : bits .and .i64 tries 31 = t at ht3
  have hE := hEb.alloc (.cells #[.int .i64 0, .int .u64 0] 51)
  have hM := hMb.alloc (.cells #[.int .i64 0, .int .u64 0] 51)
  have hO := hOb.alloc (.cells #[.int .i64 0, .int .u64 0] 51)
  have hP := Blk.new w2 #[.int .i64 0, .int .u64 0] 51
  have hEc := hE.cell
  have hEf := hE.frozen
  have hE2 : Blk ((w2.alloc (.cells #[.int .i64 0, .int .u64 0] 51)).setCell ⟨w1.heap.size, 8, none⟩ (.int .i64 1)) w1.heap.size #[.int .i64 kE4.t, .int .i64 kE4.s, .int .i64 kE4.c, .int .i64 kE4.w, .int .i64 kE4.g, .int .i64 kE4.p, .int .i64 kE4.r, .pointer (some ⟨m.b, 0, none⟩), .int .i64 1] 47 := hE.set 8 (.int .i64 1) rfl
  have hM2 := hM.other ⟨w1.heap.size, 8, none⟩ (.int .i64 1) (by simp only; omega) (by simp only; omega) (by simp only; omega)
  have hO2 := hO.setCell ⟨w1.heap.size, 8, none⟩ (.int .i64 1) (fun h => absurd h (by simp only; omega))
  have hP2 := hP.other ⟨w1.heap.size, 8, none⟩ (.int .i64 1) (by simp only; omega)
  clear hE hM hO hP hEb hMb hOb
  have hd1 : w2.heap.size ≠ m.b := by omega
  have hd2 : w2.heap.size ≠ m.wb := by omega
  have hd3 : w2.heap.size ≠ m.hb := by omega
  have hd4 : w1.heap.size ∉ [m.b, m.wb, m.hb, w2.heap.size] := by
    simp only [List.mem_cons, List.not_mem_nil, or_false, not_or]; omega
  have hd5 : ∀ x, x ∈ [m.b, m.wb, m.hb, w2.heap.size] → x < w.heap.size → x ∈ ([] : List Nat) := fun x hx hlt => by
    simp only [List.mem_cons, List.not_mem_nil, or_false] at hx; omega
  go_wp2
  go_loopw [8] (fun x wr => ∃ (q : Nat) (s : MS) (p : PinS), x = .int .i64 q ∧ q ≤ 9 ∧ s.ws.getD 0 0 = 0 ∧ PQ 35 7 s p ∧ q + rk s p ≤ 4 ∧ MemR wr m s ∧ Blk wr w2.heap.size #[.int .i64 p.pc, .int .u64 p.ep] 51 ∧ Blk wr w1.heap.size #[.int .i64 kE4.t, .int .i64 kE4.s, .int .i64 kE4.c, .int .i64 kE4.w, .int .i64 kE4.g, .int .i64 kE4.p, .int .i64 kE4.r, .pointer (some ⟨m.b, 0, none⟩), .int .i64 1] 47 ∧ Only [] w wr) (fun x _ => 9 - (intOf x).toNat)
  case atStart => exact ⟨0, _, ⟨0, 0⟩, rfl, by omega, by decide +kernel, ⟨kE4_len, .inl rfl, fun h => by simp at h⟩, by unfold rk; simp, hM2, hP2, hE2, hO2⟩
  case round =>
    clear hM2 hP2 hE2 hO2 hEc hEf
    obtain ⟨q, s, p, rfl, hq, h0, hQ, hrk, hM, hP, hE, hO⟩ := hrel
    have hEc := hE.cell
    have hq9 : q < 9 := by omega
    rcases hst : inStep 1 s p with ⟨b, s', p'⟩
    have ha0 : aPin 1 = 7 := by rw [aPin_small (by decide) (by decide)]; rfl
    obtain ⟨hQ', h00, hdone, hnot⟩ := PQ.step (n := 35) (wh := 1) (by rw [ha0]; exact hQ) (by rw [ha0]; decide) (by rw [ha0]; decide) (by decide) hst
    rw [ha0] at hQ' hdone
    have h0' : s'.ws.getD 0 0 = 0 := (show s'.ws.getD 0 0 = s.ws.getD 0 0 from h00).trans h0
    have HST := Lib.hid hst
    have HN := Lib.hid hnot
    have HD := Lib.hid hdone
    clear hst hdone hnot h00
    go_wp2_with fail
    refine (in_step' kE4 1 p _ 0 _ 51 HST.out hM hP (PinS.at2 _ _) hd1 hd2 hd3).mono ?_
    rintro e w3 ⟨rfl, hM3, hP3, ho3⟩
    replace hP3 := hP3.cast (cs' := #[.int .i64 p'.pc, .int .u64 p'.ep]) rfl
    have hE3 := hE.only ho3 hd4
    have hO3 := hO.trans' ho3 hd5
    clear hM hP hE hO hEc
    cases b
    · go_wp2
      go_roundw
      case rel => exact ⟨q + 1, s', p', by go_num, by omega, h0', hQ', by have := HN.out (by first | rfl | trivial); omega, hM3, hP3, hE3, hO3⟩
      case measure => simp [intOf]; omega
    · have h7 : s'.ws.getD 7 0 = IntKind.u64.wrap (s'.ws.getD 0 0 + 1) := HD.out (by first | rfl | trivial)
      have hEQ : EQ s' 0 := ⟨hQ'.len, h0', by rw [h7, h0']; decide +kernel, by decide⟩
      have hg0 := hEQ.get0
      have hpk : ∀ nn, Calls Try.prog 44 #[.pointer (some ⟨m.b, 0, none⟩), .int .i64 0] (w3.drewN nn) fun e w' => e = .returned (.int .u64 0) ∧ w' = w3.drewN nn := fun nn => by
        have := peek_q hM3 0 nn
        rw [hg0] at this
        exact this
      have hEc := hE3.cell
      go_wp2
      go_quiet ((first
        | (go_at_call 45; exact Calls.quiet_of_same (epoch_q _))
        | (go_at_call 44; exact Calls.quiet_of_same (hpk _))))
      have hM4 := hM3.drewN nq
      have hE4 := hE3.drewN nq
      have hO4 := hO3.drewN nq
      go_wp2
      go_loopw [10] (fun x wr => ∃ (j : Nat) (s : MS) (v : Nat) (wh : Int), x = .int .i64 j ∧ j ≤ 32 ∧ EQ s v ∧ MemR wr m s ∧ Blk wr w1.heap.size #[.int .i64 kE4.t, .int .i64 kE4.s, .int .i64 kE4.c, .int .i64 kE4.w, .int .i64 kE4.g, .int .i64 kE4.p, .int .i64 kE4.r, .pointer (some ⟨m.b, 0, none⟩), .int .i64 wh] 47 ∧ Only [] w wr) (fun x _ => 32 - (intOf x).toNat)
      case atStart => exact ⟨0, s', 0, 1, rfl, by omega, hEQ, hM4, hE4, hO4⟩
      case round =>
        clear hM4 hE4 hO4 hM3 hE3 hO3 ho3 hP3 hEQ hEc hpk hg0
        obtain ⟨j, s, v, wh, rfl, hj, hEQ, hM, hE, hO⟩ := hrel
        by_cases hlt : (j : Int) < t
        · have hEc := hE.cell
          have hEf := hE.frozen
          have hE5 : Blk (wr.setCell ⟨w1.heap.size, 8, none⟩ (.int .i64 (-1))) w1.heap.size #[.int .i64 kE4.t, .int .i64 kE4.s, .int .i64 kE4.c, .int .i64 kE4.w, .int .i64 kE4.g, .int .i64 kE4.p, .int .i64 kE4.r, .pointer (some ⟨m.b, 0, none⟩), .int .i64 (-1)] 47 := hE.set 8 (.int .i64 (-1)) rfl
          have hM5 := hM.other ⟨w1.heap.size, 8, none⟩ (.int .i64 (-1)) (by simp only; omega) (by simp only; omega) (by simp only; omega)
          have hO5 := hO.setCell ⟨w1.heap.size, 8, none⟩ (.int .i64 (-1)) (fun h => absurd h (by simp only; omega))
          obtain ⟨b, hb⟩ : ∃ b : Bool, b = true ↔ AllOk s.ws 4 := by
            by_cases h : AllOk s.ws 4
            · exact ⟨true, fun _ => h, fun _ => rfl⟩
            · exact ⟨false, (fun h => by cases h), fun hh => absurd hh h⟩
          have hEc5 := hE5.cell
          go_wp2_with fail
          refine (advance_any kE4 (-1) 4 b hM5 rfl (by decide) (by decide) (by rw [hEQ.len]; decide) hb).mono ?_
          rintro e w6 ⟨rfl, ⟨s6, hM6, hws⟩, ho6⟩
          obtain ⟨v6, hEQ6⟩ := hEQ.next hb hws
          have hE6 := hE5.only ho6 hnx
          have hO6 := hO5.trans' ho6 hlm
          have hS6 := hS.only hO6
          clear hM hE hO hM5 hE5 hO5 hEc hEf hEc5 ho6 hws hb
          have hj2 : j < 32 := by omega
          by_cases hn : j < n
          · obtain ⟨bb, off, rfl, hbb, _⟩ := hS.cells (by omega)
            obtain ⟨bb', off', hadr, _, hcell⟩ := hS6.cells (by omega)
            cases hadr
            have hcj := hcell j hn
            have hEc := hE6.cell
            have hEf := hE6.frozen
            clear hcell hS6
            have hM := hM6
            have hE := hE6
            have hO := hO6
            have hE7 : Blk (w6.setCell ⟨w1.heap.size, 8, none⟩ (.int .i64 2)) w1.heap.size #[.int .i64 kE4.t, .int .i64 kE4.s, .int .i64 kE4.c, .int .i64 kE4.w, .int .i64 kE4.g, .int .i64 kE4.p, .int .i64 kE4.r, .pointer (some ⟨m.b, 0, none⟩), .int .i64 2] 47 := hE.set 8 (.int .i64 2) rfl
            have hM7 := hM.other ⟨w1.heap.size, 8, none⟩ (.int .i64 2) (by simp only; omega) (by simp only; omega) (by simp only; omega)
            have hO7 := hO.setCell ⟨w1.heap.size, 8, none⟩ (.int .i64 2) (fun h => absurd h (by simp only; omega))
            have hEc7 := hE7.cell
            have hne : bb ≠ w1.heap.size := by omega
            cases hx : xs.getD j default
            · rw [hx] at hcj
              clear hx
              go_wp2_with fail
              refine (out_any kE4 2 hM7).mono ?_
              rintro e w8 ⟨rfl, hM8, ho8⟩
              have hEQ8 : EQ ((s6.by 2).store (aPin 2) 0) v6 := by
                have ha : aPin 2 = 8 := by rw [aPin_small (by decide) (by decide)]; rfl
                have hok : (s6.by 2).ok (aPin 2) := ⟨by rw [ha]; decide, by rw [ha]; show (8 : Int) < (s6.ws.length : Int); rw [hEQ6.len]; decide⟩
                exact hEQ6.keep (by rw [store_len]; rfl) (by rw [store_at _ _ _ _ hok (by decide), if_neg (by rw [ha]; decide)]; rfl) (by rw [store_at _ _ _ _ hok (by decide), if_neg (by rw [ha]; decide)]; rfl)
              have hE8 := hE7.only ho8 hnx
              have hO8 := hO7.trans' ho8 hlm
              clear hM hE hO hM7 hE7 hO7 ho8 hEc hEf hEc7
              go_wp2
              go_roundw
              case rel => exact ⟨j + 1, _, v6, 2, by go_num, by omega, hEQ8, hM8, hE8, hO8⟩
              case measure => simp [intOf]; omega
            · rw [hx] at hcj
              clear hx
              have hP0 : Blk ((w6.setCell ⟨w1.heap.size, 8, none⟩ (.int .i64 2)).alloc (.cells #[.int .i64 0, .int .u64 0] 51)) w6.heap.size #[.int .i64 0, .int .u64 0] 51 := Blk.new' (by simp) rfl
              have hEa := hE7.alloc (.cells #[.int .i64 0, .int .u64 0] 51)
              have hMa := hM7.alloc (.cells #[.int .i64 0, .int .u64 0] 51)
              have hOa := hO7.alloc (.cells #[.int .i64 0, .int .u64 0] 51)
              obtain ⟨hm1, hm2, hm3⟩ := hM6.lts
              have hlE := hE6.lt
              have hz3 := hO6.size
              have hf1 : w6.heap.size ≠ m.b := by omega
              have hf2 : w6.heap.size ≠ m.wb := by omega
              have hf3 : w6.heap.size ≠ m.hb := by omega
              have hf4 : w1.heap.size ∉ [m.b, m.wb, m.hb, w6.heap.size] := by
                simp only [List.mem_cons, List.not_mem_nil, or_false, not_or]; omega
              have hf5 : ∀ x, x ∈ [m.b, m.wb, m.hb, w6.heap.size] → x < w.heap.size → x ∈ ([] : List Nat) := fun x hx hlt => by
                simp only [List.mem_cons, List.not_mem_nil, or_false] at hx; omega
              go_wp2
              go_loopw [12] (fun x wr => ∃ (q : Nat) (s : MS) (p : PinS), x = .int .i64 q ∧ q ≤ 9 ∧ EQ s v6 ∧ MemR wr m s ∧ Blk wr w6.heap.size #[.int .i64 p.pc, .int .u64 p.ep] 51 ∧ Blk wr w1.heap.size #[.int .i64 kE4.t, .int .i64 kE4.s, .int .i64 kE4.c, .int .i64 kE4.w, .int .i64 kE4.g, .int .i64 kE4.p, .int .i64 kE4.r, .pointer (some ⟨m.b, 0, none⟩), .int .i64 2] 47 ∧ Only [] w wr) (fun x _ => 9 - (intOf x).toNat)
              case atStart => exact ⟨0, s6, ⟨0, 0⟩, rfl, by omega, hEQ6, hMa, hP0, hEa, hOa⟩
              case round =>
                clear hM hE hO hM7 hE7 hO7 hEc hEf hEc7 hP0 hEa hMa hOa hM6 hE6 hO6 hEQ hEQ6 hcj
                obtain ⟨q2, s, p, rfl, hq2, hEQ, hM, hP, hE, hO⟩ := hrel
                have hEc := hE.cell
                by_cases hq9 : q2 < 9
                · rcases hst : inStep 2 s p with ⟨b, s', p'⟩
                  have ha : aPin 2 = 8 := by rw [aPin_small (by decide) (by decide)]; rfl
                  have hok : s.ok (aPin 2) := ⟨by rw [ha]; decide, by rw [ha, hEQ.len]; decide⟩
                  have hEQ' : EQ s' v6 := hEQ.keep (len_keep hst) (in_keep hok (by decide) (by rw [ha]; decide) hst) (in_keep hok (by decide) (by rw [ha]; decide) hst)
                  have HST := Lib.hid hst
                  clear hst hok
                  go_wp2_with fail
                  refine (in_step' kE4 2 p _ 0 _ 51 HST.out hM hP (PinS.at2 _ _) hf1 hf2 hf3).mono ?_
                  rintro e w3 ⟨rfl, hM3, hP3, ho3⟩
                  replace hP3 := hP3.cast (cs' := #[.int .i64 p'.pc, .int .u64 p'.ep]) rfl
                  have hE3 := hE.only ho3 hf4
                  have hO3 := hO.trans' ho3 hf5
                  clear hM hP hE hO hEc
                  cases b
                  · go_wp2
                    go_roundw
                    case rel => exact ⟨q2 + 1, s', p', by go_num, by omega, hEQ', hM3, hP3, hE3, hO3⟩
                    case measure => simp [intOf]; omega
                  · go_wp2
                    go_roundw
                    case rel => exact ⟨j + 1, _, v6, 2, by go_num, by omega, hEQ', hM3, hE3, hO3⟩
                    case measure => simp [intOf]; omega
                · go_wp2
                  go_roundw
                  case rel => exact ⟨j + 1, _, v6, 2, by go_num, by omega, hEQ, hM, hE, hO⟩
                  case measure => simp [intOf]; omega
          · go_wp2
            go_roundw
            case rel => exact ⟨j + 1, s6, v6, (-1), by go_num, by omega, hEQ6, hM6, hE6, hO6⟩
            case measure => simp [intOf]; omega
        · have hg0 := hEQ.get0
          have hg1 := hEQ.get7
          have hle := hEQ.le
          have hEc := hE.cell
          have hv : v = 0 ∨ v = 1 := by omega
          rcases hv with rfl | rfl
          · skip
            clear ha0
            have hw1 : IntKind.u64.wrap 1 = 1 := by decide
            go_wp2
            refine qc_enter (fun w' => MemR w' m s ∧ Blk w' w1.heap.size #[.int .i64 kE4.t, .int .i64 kE4.s, .int .i64 kE4.c, .int .i64 kE4.w, .int .i64 kE4.g, .int .i64 kE4.p, .int .i64 kE4.r, .pointer (some ⟨m.b, 0, none⟩), .int .i64 wh] 47 ∧ Only [] w w') (by kernel_rfl) (by kernel_rfl) ?_ ?_
            focus (exact ⟨hM.drew, hE.drew, hO.drew⟩)
            repeat (first
              | go_big_quiet_skip
              | (go_big_quiet_want
                 apply Exists.intro
                 refine ⟨fun wq hq => ?_, ?_⟩
                 focus
                   (obtain ⟨hq1, hq2, hq3⟩ := hq; have hc2 := hq2.cell)
                   unfold Oper.quietAt
                   go_simp
                   (first
                     | done
                     | with_reducible exact rfl
                     | with_reducible exact ⟨rfl, rfl⟩
                     | (first | (go_at_call 45; refine (epoch_any _).mono ?_; rintro e w' ⟨rfl, rfl⟩; exact ⟨rfl, hq1, hq2, hq3⟩) | (go_at_call 48; refine (pin_any _ _).mono ?_; rintro e w' ⟨rfl, rfl⟩; exact ⟨rfl, hq1, hq2, hq3⟩) | (go_at_call 44; with_reducible refine (peek_any hq1).mono ?_; rintro e w' ⟨rfl, rfl⟩; exact ⟨rfl, hq1, hq2, hq3⟩)))
                 (try simp only [Act.put, List.setIfInBounds_toArray, List.set_cons_zero, List.set_cons_succ, hg0, hg1])
                 go_big_quiet_on))
            refine wpQuiet_nil ?_
            intro wq hq
            obtain ⟨hq1, hq2, hq3⟩ := hq
            go_wp2
            go_ret
            exact ⟨by simp, hq3⟩
          · skip
            clear ha0
            have hw1 : IntKind.u64.wrap 1 = 1 := by decide
            go_wp2
            refine qc_enter (fun w' => MemR w' m s ∧ Blk w' w1.heap.size #[.int .i64 kE4.t, .int .i64 kE4.s, .int .i64 kE4.c, .int .i64 kE4.w, .int .i64 kE4.g, .int .i64 kE4.p, .int .i64 kE4.r, .pointer (some ⟨m.b, 0, none⟩), .int .i64 wh] 47 ∧ Only [] w w') (by kernel_rfl) (by kernel_rfl) ?_ ?_
            focus (exact ⟨hM.drew, hE.drew, hO.drew⟩)
            repeat (first
              | go_big_quiet_skip
              | (go_big_quiet_want
                 apply Exists.intro
                 refine ⟨fun wq hq => ?_, ?_⟩
                 focus
                   (obtain ⟨hq1, hq2, hq3⟩ := hq; have hc2 := hq2.cell)
                   unfold Oper.quietAt
                   go_simp
                   (first
                     | done
                     | with_reducible exact rfl
                     | with_reducible exact ⟨rfl, rfl⟩
                     | (first | (go_at_call 45; refine (epoch_any _).mono ?_; rintro e w' ⟨rfl, rfl⟩; exact ⟨rfl, hq1, hq2, hq3⟩) | (go_at_call 48; refine (pin_any _ _).mono ?_; rintro e w' ⟨rfl, rfl⟩; exact ⟨rfl, hq1, hq2, hq3⟩) | (go_at_call 44; with_reducible refine (peek_any hq1).mono ?_; rintro e w' ⟨rfl, rfl⟩; exact ⟨rfl, hq1, hq2, hq3⟩)))
                 (try simp only [Act.put, List.setIfInBounds_toArray, List.set_cons_zero, List.set_cons_succ, hg0, hg1])
                 go_big_quiet_on))
            refine wpQuiet_nil ?_
            intro wq hq
            obtain ⟨hq1, hq2, hq3⟩ := hq
            go_wp2
            go_ret
            exact ⟨by simp, hq3⟩

end Go.Proofs.Yteoimmjgnflmmaa
