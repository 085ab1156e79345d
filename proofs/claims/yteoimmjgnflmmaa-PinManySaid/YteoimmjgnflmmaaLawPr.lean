/-
  PinRaces, walked.
-/
import Derived.Test.YteoimmjgnflmmaaPinL
namespace Go.Proofs.Yteoimmjgnflmmaa
open Go.RowKit

theorem aPin0 : aPin 0 = 6 := by decide +kernel
theorem aPin2 : aPin 2 = 8 := by decide +kernel

set_option maxRecDepth 100000 in
set_option maxHeartbeats 3200000 in
theorem races_walk (A : Option Addr) (n c : Nat) (xs : List Bool) (w : World) (hS : Slc Value.bool w A n xs) : Calls Try.prog 9 #[.slice A n c] w fun e w' => e = .returned (.bool true) ∧ Only [] w w' := by
  have hmost := hS.most
  unfold maxLen at hmost
  go_enter Try.func9, Try.ntmps9
  go_wp2_with fail
  refine (arena5 kP rfl 0 _).mono ?_
  rintro e w1 ⟨m, rfl, hm1, hn1, ho1⟩
  obtain ⟨hl1, hl2, hl3⟩ := hm1.lts
  have hE1 := Blk.new w1 #[.int .i64 kP.t, .int .i64 kP.s, .int .i64 kP.c, .int .i64 kP.w, .int .i64 kP.g, .int .i64 kP.p, .int .i64 kP.r, .pointer (some ⟨m.b, 0, none⟩), .int .i64 0] 47
  go_wp2_with fail
  refine (awake5 _).mono ?_
  rintro e w2 ⟨rfl, ho2⟩
  have hz2 := ho2.size
  simp only [World.size_alloc] at hz2
  have hE2 : Blk (w2.alloc (.cells #[.int .i64 0, .int .u64 0] 51)) w1.heap.size #[.int .i64 kP.t, .int .i64 kP.s, .int .i64 kP.c, .int .i64 kP.w, .int .i64 kP.g, .int .i64 kP.p, .int .i64 kP.r, .pointer (some ⟨m.b, 0, none⟩), .int .i64 0] 47 := by
    repeat (first | with_reducible assumption | with_reducible apply Blk.drew | with_reducible apply Blk.alloc | (with_reducible refine Blk.only ?_ (by with_reducible assumption) (by first | exact List.not_mem_nil | with_reducible assumption)) | (with_reducible refine Blk.other ?_ _ _ (by simp only; omega)))
  have hM2 : MemR (w2.alloc (.cells #[.int .i64 0, .int .u64 0] 51)) m (freshS kP) := by
    repeat (first | with_reducible assumption | with_reducible apply MemR.drew | with_reducible apply MemR.alloc | (with_reducible refine MemR.only ?_ (by with_reducible assumption) List.not_mem_nil List.not_mem_nil List.not_mem_nil) | (with_reducible refine MemR.other ?_ _ _ (by simp only; omega) (by simp only; omega) (by simp only; omega)))
  have hP2 : Blk (w2.alloc (.cells #[.int .i64 0, .int .u64 0] 51)) w2.heap.size #[.int .i64 0, .int .u64 0] 51 := Blk.new _ _ _
  have hO2 : Only [] w (w2.alloc (.cells #[.int .i64 0, .int .u64 0] 51)) := by
    repeat (first | with_reducible exact Only.refl _ _ | with_reducible assumption | with_reducible apply Only.drew | with_reducible apply Only.drewN | with_reducible apply Only.alloc | (with_reducible refine Only.trans' ?_ (by with_reducible assumption) (fun _ h _ => h)))
  have hb1 := ho1.size
  clear ho1 ho2 hE1
  have hw1 : w.heap.size ≤ m.b ∧ w.heap.size ≤ m.wb ∧ w.heap.size ≤ m.hb := ⟨hn1.b, hn1.wb, hn1.hb⟩
  obtain ⟨hw1, hw2, hw3⟩ := hw1
  obtain ⟨eb, heb⟩ : ∃ eb, eb = w1.heap.size := ⟨_, rfl⟩
  obtain ⟨pb, hpb⟩ : ∃ pb, pb = w2.heap.size := ⟨_, rfl⟩
  go_wp2
  go_loopw [6] (fun i wr => ∃ (j : Nat) (s : MS) (p : PinS), i = .int .i64 j ∧ j ≤ 200 ∧ PR 6 s p ∧ (100 ≤ j → j + rk s p ≤ 104) ∧ MemR wr m s ∧ Blk wr w2.heap.size #[.int .i64 p.pc, .int .u64 p.ep] 51 ∧ Blk wr w1.heap.size #[.int .i64 kP.t, .int .i64 kP.s, .int .i64 kP.c, .int .i64 kP.w, .int .i64 kP.g, .int .i64 kP.p, .int .i64 kP.r, .pointer (some ⟨m.b, 0, none⟩), .int .i64 0] 47 ∧ Only [] w wr) (fun i _ => 200 - (intOf i).toNat)
  case atStart => exact ⟨0, freshS kP, ⟨0, 0⟩, rfl, by omega, PR.start 6, fun h => by omega, hM2, hP2, hE2, hO2⟩
  case round =>
    rename_i wr
    obtain ⟨j, s, p, rfl, hj, hR, hk, hMr, hPr, hEr, hOr⟩ := hrel
    clear hM2 hP2 hE2 hO2
    have hlt : j < 200 := by
      rcases Nat.lt_or_ge j 100 with h | h
      · omega
      · have := hk h; omega
    rcases hst : inStep 0 s p with ⟨b, s', p'⟩
    have hR0 : PR (aPin 0) s p := by rw [aPin0]; exact hR
    obtain ⟨hR', h00, hdone, hnot⟩ := hR0.step (by rw [aPin0]; decide) (by rw [aPin0]; decide) hst
    rw [aPin0] at hR' hdone
    have HST := Lib.hid hst
    have HK := Lib.hid hk
    have HD := Lib.hid hdone
    have HN := Lib.hid hnot
    have H00 := Lib.hid h00
    clear hst hk hdone hnot h00 hR0
    have d1 : w2.heap.size ≠ m.b := by omega
    have d2 : w2.heap.size ≠ m.wb := by omega
    have d3 : w2.heap.size ≠ m.hb := by omega
    have hxr := hEr.cell
    go_wp2_with fail
    refine (in_step' kP 0 p w2.heap.size 0 _ 51 HST.out hMr hPr (PinS.at2 _ _) d1 d2 d3).mono ?_
    rintro e w3 ⟨rfl, hM3, hP3, ho3⟩
    replace hP3 := hP3.cast (cs' := #[.int .i64 p'.pc, .int .u64 p'.ep]) rfl
    have hE3 : Blk w3 w1.heap.size #[.int .i64 kP.t, .int .i64 kP.s, .int .i64 kP.c, .int .i64 kP.w, .int .i64 kP.g, .int .i64 kP.p, .int .i64 kP.r, .pointer (some ⟨m.b, 0, none⟩), .int .i64 0] 47 := hEr.only ho3 (by
      simp only [List.mem_cons, List.not_mem_nil, or_false, not_or]; omega)
    have hO3 : Only [] w w3 := hOr.trans' ho3 (by
      intro x hx _
      simp only [List.mem_cons, List.not_mem_nil, or_false] at hx
      omega)
    have hS3 := hS.only hO3
    have hx3 := hE3.cell
    clear hEr hOr ho3 hxr hPr hMr
    have h6 : s'.ok 6 := ⟨by decide, by have := hR'.len; omega⟩
    have h0 : s'.ok 0 := ⟨by decide, by have := hR'.len; omega⟩
    cases b
    · have hK' : 100 ≤ j + 1 → j + 1 + rk s' p' ≤ 104 := by
        intro h
        have h1 := HN.out rfl
        have h2 := rk_le s' p'
        rcases Nat.lt_or_ge j 100 with h3 | h3
        · omega
        · have := HK.out h3; omega
      have HK' := Lib.hid hK'
      clear hK' h6
      by_cases hn : j < n
      · by_cases h100 : j < 100
        · obtain ⟨bb, off, rfl, hbb, hcell⟩ := hS3.cells (by omega)
          have hcj := hcell j hn
          cases hx : xs.getD j default
          · rw [hx] at hcj
            clear hx hcell
            go_wp2
            go_roundw
            case rel => exact ⟨j + 1, s', p', by go_num, by omega, hR', HK'.out, hM3, hP3, hE3, hO3⟩
            case measure => simp [intOf]; omega
          · rw [hx] at hcj
            clear hx hcell
            have hMd := hM3.drew
            go_wp2
            go_region_held3 (fun w' => ∀ o, w'.cell? ⟨w1.heap.size, o, none⟩ = (#[.int .i64 kP.t, .int .i64 kP.s, .int .i64 kP.c, .int .i64 kP.w, .int .i64 kP.g, .int .i64 kP.p, .int .i64 kP.r, .pointer (some ⟨m.b, 0, none⟩), .int .i64 0] : Array Value)[o]?) ((refine Blk.cell (T := 47) ?_; repeat (first | with_reducible assumption | with_reducible apply Blk.drew | with_reducible apply Blk.alloc | (with_reducible refine Blk.only ?_ (by with_reducible assumption) (by first | exact List.not_mem_nil | with_reducible assumption)) | (with_reducible refine Blk.other ?_ _ _ (by simp only; omega)))))
              (first
                | (go_at_call 45; refine (epoch_any _).mono ?_; rintro e w' ⟨rfl, rfl⟩)
                | (go_at_call 56; with_reducible refine (add_any hMd).mono ?_; rintro e w4 ⟨⟨x4, y4, rfl⟩, hM4, ho4⟩; have hnx : w1.heap.size ∉ [m.b, m.wb, m.hb] := by (simp only [List.mem_cons, List.not_mem_nil, or_false, not_or]; omega)))
            all_goals
              go_wp2
              go_roundw
              case rel =>
                refine ⟨j + 1, s'.add 0 1, p', by go_num, by omega, hR'.add (by decide) 1, ?_, hM4, ?_, ?_, ?_⟩
                · intro h
                  have := rk_le (s'.add 0 1) p'
                  omega
                · exact hP3.drew.only ho4 (by simp only [List.mem_cons, List.not_mem_nil, or_false, not_or]; omega)
                · exact hE3.drew.only ho4 (by simp only [List.mem_cons, List.not_mem_nil, or_false, not_or]; omega)
                · exact hO3.drew.trans' ho4 (by
                    intro x hx _
                    simp only [List.mem_cons, List.not_mem_nil, or_false] at hx
                    omega)
              case measure => simp [intOf]; omega
        · go_wp2
          go_roundw
          case rel => exact ⟨j + 1, s', p', by go_num, by omega, hR', HK'.out, hM3, hP3, hE3, hO3⟩
          case measure => simp [intOf]; omega
      · go_wp2
        go_roundw
        case rel => exact ⟨j + 1, s', p', by go_num, by omega, hR', HK'.out, hM3, hP3, hE3, hO3⟩
        case measure => simp [intOf]; omega
    · have hv : (s'.get (aPin 0) == IntKind.u64.wrap (s'.get 0 + 1)) = true := by
        rw [aPin0, get_ok _ _ h6, get_ok _ _ h0, HD.out rfl]; simp
      clear h6 h0
      go_wp2
      go_quiet ((first
        | (go_at_call 48; exact Calls.quiet_of_same (pin_q _ _))
        | (go_at_call 45; exact Calls.quiet_of_same (epoch_q _))
        | (go_at_call 44; exact Calls.quiet_of_same (peek_q hM3 _ _))))
      go_wp2
      go_ret
      exact ⟨rfl, hO3.drewN _⟩

end Go.Proofs.Yteoimmjgnflmmaa
