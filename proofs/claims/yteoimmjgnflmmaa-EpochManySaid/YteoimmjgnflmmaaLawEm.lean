/-
  EpochMany, walked.
-/
import Derived.Test.YteoimmjgnflmmaaEp
import Derived.Test.YteoimmjgnflmmaaPinQ
namespace Go.Proofs.Yteoimmjgnflmmaa
open Go.RowKit Go.BigFrame

/-- A memory of 33 words at the epoch v, whose second pin is empty. -/
structure EM (s : MS) (v : Nat) : Prop where
  len : s.ws.length = 33
  v0 : s.ws.getD 0 0 = v
  p1 : s.ws.getD 7 0 = 0

theorem EM.all {s : MS} {v : Nat} (h : EM s v) (h6 : s.ws.getD 6 0 = 0 ∨ s.ws.getD 6 0 = IntKind.u64.wrap (s.ws.getD 0 0 + 1)) : AllOk s.ws 2 := fun i hi => by
  have : i = 0 ∨ i = 1 := by omega
  rcases this with rfl | rfl
  · exact h6
  · exact .inl h.p1
theorem EM.next {s s' : MS} {v : Nat} (h : EM s v) (hv : v < 1000) (hw : s'.ws = cond true (s.ws.set 0 (IntKind.u64.wrap (s.ws.getD 0 0 + 1))) s.ws) : EM s' (v + 1) ∧ s'.ws.getD 6 0 = s.ws.getD 6 0 ∧ s'.get 0 = (v : Int) + 1 := by
  have hl := h.len
  have hs : s'.ws = s.ws.set 0 (IntKind.u64.wrap (s.ws.getD 0 0 + 1)) := hw
  have hg : ∀ j, s'.ws.getD j 0 = if j = 0 then IntKind.u64.wrap (s.ws.getD 0 0 + 1) else s.ws.getD j 0 := fun j => by
    rw [hs]
    by_cases hj : j = 0
    · subst hj; simp [List.getD, hl]
    · simp [List.getD, Ne.symm hj, hj]
  have h0 : s'.ws.getD 0 0 = (v : Int) + 1 := by
    rw [hg, if_pos rfl, h.v0, IntKind.wrap_u64]
    omega
  have hl' : s'.ws.length = 33 := by rw [hs]; simp [hl]
  refine ⟨⟨hl', ?_, ?_⟩, ?_, ?_⟩
  · rw [h0]; omega
  · rw [hg, if_neg (by decide)]; exact h.p1
  · rw [hg, if_neg (by decide)]
  · rw [get_ok _ _ ⟨by decide, by rw [hl']; decide⟩]
    exact h0
set_option maxRecDepth 100000 in
set_option maxHeartbeats 3200000 in
theorem emany_walk (times : Int) (_ht : I64 times) (pins : Bool) (w : World) : Calls Try.prog 13 #[.int .i64 times, .bool pins] w fun e w' => e = .returned (.bool true) ∧ Only [] w w' := by
  have ht3 : 0 ≤ bits .and .i64 times 63 ∧ bits .and .i64 times 63 < 64 := by rw [iand63]; omega
  go_enter Try.func13, Try.ntmps13
  go_wp2_with fail
  refine (arena_yes kE2 kE2_ok rfl rfl rfl _).mono ?_
  rintro e w1 ⟨m, rfl, hm1, hn1, ho1⟩
  obtain ⟨hl1, hl2, hl3⟩ := hm1.lts
  obtain ⟨hn1, hn2, hn3⟩ := hn1
  have hE1 := Blk.new w1 #[.int .i64 kE2.t, .int .i64 kE2.s, .int .i64 kE2.c, .int .i64 kE2.w, .int .i64 kE2.g, .int .i64 kE2.p, .int .i64 kE2.r, .pointer (some ⟨m.b, 0, none⟩), .int .i64 0] 47
  go_wp2_with fail
  refine (awake13 _).mono ?_
  rintro e w2 ⟨rfl, ho2⟩
  have hz := ho1.size
  have hz2 := ho2.size
  simp only [World.size_alloc] at hz2
  have hE2 : Blk w2 w1.heap.size #[.int .i64 kE2.t, .int .i64 kE2.s, .int .i64 kE2.c, .int .i64 kE2.w, .int .i64 kE2.g, .int .i64 kE2.p, .int .i64 kE2.r, .pointer (some ⟨m.b, 0, none⟩), .int .i64 0] 47 := hE1.only ho2 (by simp)
  have hM2 : MemR w2 m (freshS kE2) := (hm1.alloc _).only ho2 (by simp) (by simp) (by simp)
  have hO2 : Only [] w w2 := (ho1.alloc _).trans' ho2 (fun _ h _ => h)
  have hnx : w1.heap.size ∉ m.l := hm1.notin (Nat.le_refl _)
  have hlm : ∀ x, x ∈ m.l → x < w.heap.size → x ∈ ([] : List Nat) := fun x hx hlt => by
    simp only [List.mem_cons, List.not_mem_nil, or_false] at hx; omega
  clear hE1 hm1 ho1 ho2
  generalize htt : bits .and .i64 times 63 = t at ht3
  have hEM : EM (freshS kE2) 0 := ⟨kE2_len, kE2_zero, by decide +kernel⟩
  have hEc := hE2.cell
  go_wp2
  go_loopw [8] (fun i wr => ∃ (j : Nat) (s : MS), i = .int .i64 j ∧ j ≤ 64 ∧ EM s j ∧ (pins = false → s.ws.getD 6 0 = 0) ∧ MemR wr m s ∧ Blk wr w1.heap.size #[.int .i64 kE2.t, .int .i64 kE2.s, .int .i64 kE2.c, .int .i64 kE2.w, .int .i64 kE2.g, .int .i64 kE2.p, .int .i64 kE2.r, .pointer (some ⟨m.b, 0, none⟩), .int .i64 0] 47 ∧ Only [] w wr) (fun i _ => 64 - (intOf i).toNat)
  case atStart => exact ⟨0, _, rfl, by omega, hEM, fun _ => by decide +kernel, hM2, hE2, hO2⟩
  case round =>
    clear hEM hM2 hE2 hO2 hEc
    obtain ⟨j, s, rfl, hj, hEM, hp0, hM, hE, hO⟩ := hrel
    have hEc := hE.cell
    have hEf := hE.frozen
    by_cases hlt : (j : Int) < t
    · cases pins
      · replace hp0 := hp0 rfl
        replace hE : Blk (wr.setCell ⟨w1.heap.size, 8, none⟩ (.int .i64 0)) w1.heap.size #[.int .i64 kE2.t, .int .i64 kE2.s, .int .i64 kE2.c, .int .i64 kE2.w, .int .i64 kE2.g, .int .i64 kE2.p, .int .i64 kE2.r, .pointer (some ⟨m.b, 0, none⟩), .int .i64 0] 47 := hE.set 8 (.int .i64 0) rfl
        replace hM := hM.other ⟨w1.heap.size, 8, none⟩ (.int .i64 0) (by simp only; omega) (by simp only; omega) (by simp only; omega)
        replace hO := hO.setCell ⟨w1.heap.size, 8, none⟩ (.int .i64 0) (fun h => absurd h (by simp only; omega))
        have hal := hEM.all (.inl hp0)
        have hEd := hE.drew
        have hMd := hM.drew
        have hOd := hO.drew
        have hj2 : (j : Int) < 64 := by omega
        have hcv : ((j : Int) + 1 != IntKind.u64.wrap (IntKind.i64.wrap ((j : Int) + 1))) = false := by
          rw [IntWalk.i64_in _ (by omega), IntKind.wrap_u64]
          simp only [bne_eq_false_iff_eq]
          omega
        go_wp2
        go_region_held3 (fun w' => ∀ o, w'.cell? ⟨w1.heap.size, o, none⟩ = (#[.int .i64 kE2.t, .int .i64 kE2.s, .int .i64 kE2.c, .int .i64 kE2.w, .int .i64 kE2.g, .int .i64 kE2.p, .int .i64 kE2.r, .pointer (some ⟨m.b, 0, none⟩), .int .i64 0] : Array Value)[o]?) (first | exact hEd.cell | exact hE4.cell)
          (first
            | (go_at_call 60; with_reducible refine (advance_any kE2 0 2 true hMd rfl (by decide) (by decide) (by rw [hEM.len]; decide) ⟨fun _ => hal, fun _ => rfl⟩).mono ?_; rintro e w4 ⟨rfl, ⟨s4, hM4, hws⟩, ho4⟩; have hE4 := hEd.only ho4 hnx; have hO4 := hOd.trans' ho4 hlm; obtain ⟨hEM4, h64, hv4⟩ := hEM.next (by omega) hws)
            | (go_at_call 45; refine (epoch_any _).mono ?_; rintro e w' ⟨rfl, rfl⟩)
            | (go_at_call 44; with_reducible refine (peek_any hM4).mono ?_; rintro e w' ⟨rfl, rfl⟩))
        all_goals
          go_wp2
          go_roundw
          case rel => exact ⟨j + 1, _, by go_num, by omega, hEM4, fun _ => h64.trans hp0, hM4, hE4, hO4⟩
          case measure => simp [intOf]; omega
      · clear hp0
        replace hE : Blk (wr.setCell ⟨w1.heap.size, 8, none⟩ (.int .i64 0)) w1.heap.size #[.int .i64 kE2.t, .int .i64 kE2.s, .int .i64 kE2.c, .int .i64 kE2.w, .int .i64 kE2.g, .int .i64 kE2.p, .int .i64 kE2.r, .pointer (some ⟨m.b, 0, none⟩), .int .i64 0] 47 := hE.set 8 (.int .i64 0) rfl
        replace hM := hM.other ⟨w1.heap.size, 8, none⟩ (.int .i64 0) (by simp only; omega) (by simp only; omega) (by simp only; omega)
        replace hO := hO.setCell ⟨w1.heap.size, 8, none⟩ (.int .i64 0) (fun h => absurd h (by simp only; omega))
        have hEc2 := hE.cell
        have hP0 : Blk ((wr.setCell ⟨w1.heap.size, 8, none⟩ (.int .i64 0)).alloc (.cells #[.int .i64 0, .int .u64 0] 51)) wr.heap.size #[.int .i64 0, .int .u64 0] 51 := Blk.new' (by simp) rfl
        have hEa := hE.alloc (.cells #[.int .i64 0, .int .u64 0] 51)
        have hMa := hM.alloc (.cells #[.int .i64 0, .int .u64 0] 51)
        have hOa := hO.alloc (.cells #[.int .i64 0, .int .u64 0] 51)
        have hsz := hEa.lt
        have hlE := (hE.lt)
        simp only [World.size_setCell] at hlE
        obtain ⟨hm1, hm2, hm3⟩ := hM.lts
        simp only [World.size_setCell] at hm1 hm2 hm3
        have hz3 := hO.size
        simp only [World.size_setCell] at hz3
        have hd1 : wr.heap.size ≠ m.b := by omega
        have hd2 : wr.heap.size ≠ m.wb := by omega
        have hd3 : wr.heap.size ≠ m.hb := by omega
        have hd4 : w1.heap.size ∉ [m.b, m.wb, m.hb, wr.heap.size] := by
          simp only [List.mem_cons, List.not_mem_nil, or_false, not_or]; omega
        have hd5 : ∀ x, x ∈ [m.b, m.wb, m.hb, wr.heap.size] → x < w.heap.size → x ∈ ([] : List Nat) := fun x hx hlt => by
          simp only [List.mem_cons, List.not_mem_nil, or_false] at hx; omega
        go_wp2
        go_loopw [10] (fun x wr2 => ∃ (q : Nat) (s : MS) (p : PinS), x = .int .i64 q ∧ q ≤ 9 ∧ EM s j ∧ PQ 33 6 s p ∧ q + rk s p ≤ 4 ∧ MemR wr2 m s ∧ Blk wr2 wr.heap.size #[.int .i64 p.pc, .int .u64 p.ep] 51 ∧ Blk wr2 w1.heap.size #[.int .i64 kE2.t, .int .i64 kE2.s, .int .i64 kE2.c, .int .i64 kE2.w, .int .i64 kE2.g, .int .i64 kE2.p, .int .i64 kE2.r, .pointer (some ⟨m.b, 0, none⟩), .int .i64 0] 47 ∧ Only [] w wr2) (fun x _ => 9 - (intOf x).toNat)
        case atStart => exact ⟨0, s, ⟨0, 0⟩, rfl, by omega, hEM, ⟨hEM.len, .inl rfl, fun h => by simp at h⟩, by unfold rk; simp, hMa, hP0, hEa, hOa⟩
        case round =>
          clear hM hE hO hEM hEc2 hP0 hEa hMa hOa hEc hEf
          obtain ⟨q, s, p, rfl, hq, hEM, hQ, hrk, hM, hP, hE, hO⟩ := hrel
          have hEc := hE.cell
          have hq9 : q < 9 := by omega
          rcases hst : inStep 0 s p with ⟨b, s', p'⟩
          have ha0 : aPin 0 = 6 := by rw [aPin_small (by decide) (by decide)]; rfl
          have hok : s.ok (aPin 0) := ⟨by rw [ha0]; decide, by rw [ha0, hEM.len]; decide⟩
          obtain ⟨hQ', h00, hdone, hnot⟩ := PQ.step (n := 33) (wh := 0) (by rw [ha0]; exact hQ) (by rw [ha0]; decide) (by rw [ha0]; decide) (by decide) hst
          rw [ha0] at hQ' hdone
          have hk7 := in_keep hok (show (0 : Int) ≤ 7 by decide) (by rw [ha0]; decide) hst
          have hEM' : EM s' j := ⟨hQ'.len, by have : s'.ws.getD 0 0 = s.ws.getD 0 0 := h00; rw [this]; exact hEM.v0, by have : s'.ws.getD 7 0 = s.ws.getD 7 0 := hk7; rw [this]; exact hEM.p1⟩
          have HST := Lib.hid hst
          have HN := Lib.hid hnot
          have HD := Lib.hid hdone
          clear hst hdone hnot hk7 h00 hok
          go_wp2_with fail
          refine (in_step' kE2 0 p _ 0 _ 51 HST.out hM hP (PinS.at2 _ _) hd1 hd2 hd3).mono ?_
          rintro e w3 ⟨rfl, hM3, hP3, ho3⟩
          replace hP3 := hP3.cast (cs' := #[.int .i64 p'.pc, .int .u64 p'.ep]) rfl
          have hE3 := hE.only ho3 hd4
          have hO3 := hO.trans' ho3 hd5
          clear hM hP hE hO hEM hEc
          cases b
          · go_wp2
            go_roundw
            case rel => exact ⟨q + 1, s', p', by go_num, by omega, hEM', hQ', by have := HN.out (by first | rfl | trivial); omega, hM3, hP3, hE3, hO3⟩
            case measure => simp [intOf]; omega
          · have h6 : s'.ws.getD 6 0 = IntKind.u64.wrap (s'.ws.getD 0 0 + 1) := HD.out (by first | rfl | trivial)
            have hEM := hEM'
            have hM := hM3
            have hE := hE3
            have hO := hO3
            clear hEM' hM3 hE3 hO3
            have hEc := hE.cell
            have hal := hEM.all (.inr h6)
            have hEd := hE.drew
            have hMd := hM.drew
            have hOd := hO.drew
            have hj2 : (j : Int) < 64 := by omega
            have hcv : ((j : Int) + 1 != IntKind.u64.wrap (IntKind.i64.wrap ((j : Int) + 1))) = false := by
              rw [IntWalk.i64_in _ (by omega), IntKind.wrap_u64]
              simp only [bne_eq_false_iff_eq]
              omega
            go_wp2
            go_region_held3 (fun w' => ∀ o, w'.cell? ⟨w1.heap.size, o, none⟩ = (#[.int .i64 kE2.t, .int .i64 kE2.s, .int .i64 kE2.c, .int .i64 kE2.w, .int .i64 kE2.g, .int .i64 kE2.p, .int .i64 kE2.r, .pointer (some ⟨m.b, 0, none⟩), .int .i64 0] : Array Value)[o]?) (first | exact hEd.cell | exact hE4.cell)
              (first
                | (go_at_call 60; with_reducible refine (advance_any kE2 0 2 true hMd rfl (by decide) (by decide) (by rw [hEM.len]; decide) ⟨fun _ => hal, fun _ => rfl⟩).mono ?_; rintro e w4 ⟨rfl, ⟨s4, hM4, hws⟩, ho4⟩; have hE4 := hEd.only ho4 hnx; have hO4 := hOd.trans' ho4 hlm; obtain ⟨hEM4, h64, hv4⟩ := hEM.next (by omega) hws)
                | (go_at_call 45; refine (epoch_any _).mono ?_; rintro e w' ⟨rfl, rfl⟩)
                | (go_at_call 44; with_reducible refine (peek_any hM4).mono ?_; rintro e w' ⟨rfl, rfl⟩))
            all_goals
              go_wp2
              go_roundw
              case rel => exact ⟨j + 1, _, by go_num, by omega, hEM4, (fun h => by cases h), hM4, hE4, hO4⟩
              case measure => simp [intOf]; omega
    · go_wp2
      go_ret
      exact ⟨rfl, hO⟩

end Go.Proofs.Yteoimmjgnflmmaa
