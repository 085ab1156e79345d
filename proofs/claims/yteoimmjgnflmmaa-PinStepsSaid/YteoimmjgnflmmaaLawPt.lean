/-
  PinSteps, walked.
-/
import Derived.Test.YteoimmjgnflmmaaLawPr
import Derived.Test.YteoimmjgnflmmaaQc
namespace Go.Proofs.Yteoimmjgnflmmaa
open Go.RowKit Go.BigFrame

theorem wrap64_eq (x : Int) : wrap64 x = IntKind.i64.wrap x := (IntWalk.i64_left x).symm

/-- What a step of it touches. -/
theorem in_touch {wh : Int} {s s' : MS} {p p' : PinS} {b : Bool} (hl : s.ws.length = 32) (h8 : aPin wh = 8) (hst : inStep wh s p = (b, s', p')) :
    s'.steps = wrap64 (s.steps + 1) ∧ s'.lw = wh ∧ ((s'.la = 0 ∧ s'.ch = false) ∨ s'.la = 8) := by
  have h0 : (s.by wh).ok 0 := ⟨by omega, by show (0 : Int) < (s.ws.length : Int); omega⟩
  have hA : (s.by wh).ok 8 := ⟨by omega, by show (8 : Int) < (s.ws.length : Int); omega⟩
  have hL : (s.by wh).load 0 = (s.by wh).tick 0 := by unfold MS.load; rw [if_pos h0]
  have hW : ∀ v, (s.by wh).store 8 v = ((s.by wh).tick 8).put 8 v := fun v => by unfold MS.store; rw [if_pos hA]
  unfold inStep at hst
  rw [h8, hL, hW] at hst
  split at hst
  · simp only [Prod.mk.injEq] at hst
    obtain ⟨rfl, rfl, rfl⟩ := hst
    exact ⟨rfl, rfl, .inl ⟨rfl, rfl⟩⟩
  · split at hst
    · simp only [Prod.mk.injEq] at hst
      obtain ⟨rfl, rfl, rfl⟩ := hst
      exact ⟨rfl, rfl, .inr rfl⟩
    · split at hst
      · simp only [Prod.mk.injEq] at hst
        obtain ⟨rfl, rfl, rfl⟩ := hst
        exact ⟨rfl, rfl, .inl ⟨rfl, rfl⟩⟩
      · simp only [Prod.mk.injEq] at hst
        obtain ⟨rfl, rfl, rfl⟩ := hst
        exact ⟨rfl, rfl, .inl ⟨rfl, rfl⟩⟩

set_option pp.deepTerms true in
set_option maxRecDepth 100000 in
set_option maxHeartbeats 3200000 in
theorem steps_walk (A : Option Addr) (n c : Nat) (xs : List Bool) (w : World) (hS : Slc Value.bool w A n xs) : Calls Try.prog 11 #[.slice A n c] w fun e w' => e = .returned (.bool true) ∧ Only [] w w' := by
  have hmost := hS.most
  unfold maxLen at hmost
  go_enter Try.func11, Try.ntmps11
  go_wp2_with fail
  refine (arena5 kP rfl 2 _).mono ?_
  rintro e w1 ⟨m, rfl, hm1, hn1, ho1⟩
  obtain ⟨hl1, hl2, hl3⟩ := hm1.lts
  have hE1 := Blk.new w1 #[.int .i64 kP.t, .int .i64 kP.s, .int .i64 kP.c, .int .i64 kP.w, .int .i64 kP.g, .int .i64 kP.p, .int .i64 kP.r, .pointer (some ⟨m.b, 0, none⟩), .int .i64 2] 47
  go_wp2_with fail
  refine (awake5 _).mono ?_
  rintro e w2 ⟨rfl, ho2⟩
  have hz2 := ho2.size
  simp only [World.size_alloc] at hz2
  have hE2 : Blk (w2.alloc (.cells #[.int .i64 0, .int .u64 0] 51)) w1.heap.size #[.int .i64 kP.t, .int .i64 kP.s, .int .i64 kP.c, .int .i64 kP.w, .int .i64 kP.g, .int .i64 kP.p, .int .i64 kP.r, .pointer (some ⟨m.b, 0, none⟩), .int .i64 2] 47 := by
    repeat (first | with_reducible assumption | with_reducible apply Blk.drew | with_reducible apply Blk.alloc | (with_reducible refine Blk.only ?_ (by with_reducible assumption) (by first | exact List.not_mem_nil | with_reducible assumption)) | (with_reducible refine Blk.other ?_ _ _ (by simp only; omega)))
  have hM2 : MemR (w2.alloc (.cells #[.int .i64 0, .int .u64 0] 51)) m (freshS kP) := by
    repeat (first | with_reducible assumption | with_reducible apply MemR.drew | with_reducible apply MemR.alloc | (with_reducible refine MemR.only ?_ (by with_reducible assumption) List.not_mem_nil List.not_mem_nil List.not_mem_nil) | (with_reducible refine MemR.other ?_ _ _ (by simp only; omega) (by simp only; omega) (by simp only; omega)))
  have hP2 : Blk (w2.alloc (.cells #[.int .i64 0, .int .u64 0] 51)) w2.heap.size #[.int .i64 0, .int .u64 0] 51 := Blk.new _ _ _
  have hO2 : Only [] w (w2.alloc (.cells #[.int .i64 0, .int .u64 0] 51)) := by
    repeat (first | with_reducible exact Only.refl _ _ | with_reducible assumption | with_reducible apply Only.drew | with_reducible apply Only.drewN | with_reducible apply Only.alloc | (with_reducible refine Only.trans' ?_ (by with_reducible assumption) (fun _ h _ => h)))
  have hb1 := ho1.size
  clear ho1 ho2 hE1
  have hw1 : w.heap.size ≤ m.b ∧ w.heap.size ≤ m.wb ∧ w.heap.size ≤ m.hb := ⟨hn1.b, hn1.wb, hn1.hb⟩
  obtain ⟨hw1, hw2, hw3⟩ := hw1
  obtain ⟨eb, heb⟩ : ∃ eb, eb = w1.heap.size := ⟨_, rfl⟩
  obtain ⟨pb, hpb⟩ : ∃ pb, pb = w2.heap.size := ⟨_, rfl⟩
  go_wp2
  go_loopw [6] (fun i wr => ∃ (j : Nat) (s : MS) (p : PinS), i = .int .i64 j ∧ j ≤ 200 ∧ PR 8 s p ∧ (100 ≤ j → j + rk s p ≤ 104) ∧ MemR wr m s ∧ Blk wr w2.heap.size #[.int .i64 p.pc, .int .u64 p.ep] 51 ∧ Blk wr w1.heap.size #[.int .i64 kP.t, .int .i64 kP.s, .int .i64 kP.c, .int .i64 kP.w, .int .i64 kP.g, .int .i64 kP.p, .int .i64 kP.r, .pointer (some ⟨m.b, 0, none⟩), .int .i64 2] 47 ∧ Only [] w wr) (fun i _ => 200 - (intOf i).toNat)
  case atStart => exact ⟨0, freshS kP, ⟨0, 0⟩, rfl, by omega, PR.start 8, fun h => by omega, hM2, hP2, hE2, hO2⟩
  case round =>
    rename_i wr
    obtain ⟨j, s, p, rfl, hj, hR, hk, hMr, hPr, hEr, hOr⟩ := hrel
    clear hM2 hP2 hE2 hO2
    have hlt : j < 200 := by
      rcases Nat.lt_or_ge j 100 with h | h
      · omega
      · have := hk h; omega
    rcases hst : inStep 2 s p with ⟨b, s', p'⟩
    have hR0 : PR (aPin 2) s p := by rw [aPin2]; exact hR
    obtain ⟨hR', h00, hdone, hnot⟩ := hR0.step (by rw [aPin2]; decide) (by rw [aPin2]; decide) hst
    rw [aPin2] at hR' hdone
    obtain ⟨hts, htw, htl⟩ := in_touch hR.len aPin2 hst
    have HST := Lib.hid hst
    have HK := Lib.hid hk
    have HD := Lib.hid hdone
    have HN := Lib.hid hnot
    have H00 := Lib.hid h00
    clear hst hk hdone hnot h00 hR0
    have d1 : w2.heap.size ≠ m.b := by omega
    have d2 : w2.heap.size ≠ m.wb := by omega
    have d3 : w2.heap.size ≠ m.hb := by omega
    have hxr := hEr.cell
    go_wp2_with fail
    refine (now_env kP 2 hMr).mono ?_
    rintro e w2b ⟨rfl, rfl⟩
    have hEa := hEr.alloc (.cells #[.int .i64 kP.t, .int .i64 kP.s, .int .i64 kP.c, .int .i64 kP.w, .int .i64 kP.g, .int .i64 kP.p, .int .i64 kP.r, .pointer (some ⟨m.b, 0, none⟩), .int .i64 2] 47)
    have hPa := hPr.alloc (.cells #[.int .i64 kP.t, .int .i64 kP.s, .int .i64 kP.c, .int .i64 kP.w, .int .i64 kP.g, .int .i64 kP.p, .int .i64 kP.r, .pointer (some ⟨m.b, 0, none⟩), .int .i64 2] 47)
    have hMa := hMr.alloc (.cells #[.int .i64 kP.t, .int .i64 kP.s, .int .i64 kP.c, .int .i64 kP.w, .int .i64 kP.g, .int .i64 kP.p, .int .i64 kP.r, .pointer (some ⟨m.b, 0, none⟩), .int .i64 2] 47)
    have hOa := hOr.alloc (.cells #[.int .i64 kP.t, .int .i64 kP.s, .int .i64 kP.c, .int .i64 kP.w, .int .i64 kP.g, .int .i64 kP.p, .int .i64 kP.r, .pointer (some ⟨m.b, 0, none⟩), .int .i64 2] 47)
    have hxa := hEa.cell
    go_wp2_with fail
    refine (in_step' kP 2 p w2.heap.size 0 _ 51 HST.out hMa hPa (PinS.at2 _ _) d1 d2 d3).mono ?_
    rintro e w3 ⟨rfl, hM3, hP3, ho3⟩
    replace hP3 := hP3.cast (cs' := #[.int .i64 p'.pc, .int .u64 p'.ep]) rfl
    have hE3 : Blk w3 w1.heap.size #[.int .i64 kP.t, .int .i64 kP.s, .int .i64 kP.c, .int .i64 kP.w, .int .i64 kP.g, .int .i64 kP.p, .int .i64 kP.r, .pointer (some ⟨m.b, 0, none⟩), .int .i64 2] 47 := hEa.only ho3 (by
      simp only [List.mem_cons, List.not_mem_nil, or_false, not_or]; omega)
    have hO3 : Only [] w w3 := hOa.trans' ho3 (by
      intro x hx _
      simp only [List.mem_cons, List.not_mem_nil, or_false] at hx
      omega)
    have hx3 := hE3.cell
    clear hEr hOr ho3 hxr hPr hMr hEa hPa hMa hOa hxa
    go_wp2_with fail
    refine (last_any hM3).mono ?_
    rintro e w4 ⟨rfl, ho4⟩
    have hE4 := hE3.only ho4 (by simp)
    have hP4 := hP3.only ho4 (by simp)
    have hM4 := hM3.only ho4 (by simp) (by simp) (by simp)
    have hO4 := hO3.trans' ho4 (fun _ h _ => h)
    have hS4 := hS.only hO4
    have hsz4 := hE4.lt
    clear hE3 hP3 hM3 hO3 ho4 hx3
    have hT0 := Blk.new w4 #[.int .i64 s'.la, .int .i64 s'.lw, .bool s'.ch] 66
    have hK' : 100 ≤ j + 1 → b = false → j + 1 + rk s' p' ≤ 104 := by
      intro h hb
      have h1 := HN.out hb
      have h2 := rk_le s' p'
      rcases Nat.lt_or_ge j 100 with h3 | h3
      · omega
      · have := HK.out h3; omega
    have HK' := Lib.hid hK'
    clear hK'
    have hp2 := aPin2
    replace hts : s'.steps = IntKind.i64.wrap (s.steps + 1) := by
      rw [hts]; exact wrap64_eq _
    have htl3 : (s'.la = 0 ∧ s'.ch = false) ∨ (s'.la = 8 ∧ s'.ch = false) ∨ (s'.la = 8 ∧ s'.ch = true) := by
      rcases htl with h | h
      · exact .inl h
      · cases hc : s'.ch
        · exact .inr (.inl ⟨h, rfl⟩)
        · exact .inr (.inr ⟨h, rfl⟩)
    clear htl
    rcases htl3 with ⟨hla, hch⟩ | ⟨hla, hch⟩ | ⟨hla, hch⟩
    · skip
      rw [hla, hch, htw] at hT0
      have hEa := hE4.alloc (.cells #[.int .i64 0, .int .i64 2, .bool false] 66)
      have hPa := hP4.alloc (.cells #[.int .i64 0, .int .i64 2, .bool false] 66)
      have hMa := hM4.alloc (.cells #[.int .i64 0, .int .i64 2, .bool false] 66)
      have hOa := hO4.alloc (.cells #[.int .i64 0, .int .i64 2, .bool false] 66)
      clear hE4 hP4 hM4 hO4
      go_wp2
      refine qc_enter (fun w' => MemR w' m s' ∧ Blk w' w1.heap.size #[.int .i64 kP.t, .int .i64 kP.s, .int .i64 kP.c, .int .i64 kP.w, .int .i64 kP.g, .int .i64 kP.p, .int .i64 kP.r, .pointer (some ⟨m.b, 0, none⟩), .int .i64 2] 47 ∧ Blk w' w4.heap.size #[.int .i64 0, .int .i64 2, .bool false] 66 ∧ Blk w' w2.heap.size #[.int .i64 p'.pc, .int .u64 p'.ep] 51 ∧ Only [] w w') (by kernel_rfl) (by kernel_rfl) ?_ ?_
      focus (exact ⟨hMa.drew, hEa.drew, hT0.drew, hPa.drew, hOa.drew⟩)
      repeat (first
        | go_big_quiet_skip
        | (go_big_quiet_want
           apply Exists.intro
           refine ⟨fun wq hq => ?_, ?_⟩
           focus
             (obtain ⟨hq1, hq2, hq3, hq4, hq5⟩ := hq; have hc2 := hq2.cell; have hc3 := hq3.cell)
             unfold Oper.quietAt
             go_simp
             (first
               | done
               | with_reducible exact rfl
               | with_reducible exact ⟨rfl, rfl⟩
               | (first | (go_at_call 45; refine (epoch_any _).mono ?_; rintro e w' ⟨rfl, rfl⟩; exact ⟨rfl, hq1, hq2, hq3, hq4, hq5⟩) | (go_at_call 48; refine (pin_any _ _).mono ?_; rintro e w' ⟨rfl, rfl⟩; exact ⟨rfl, hq1, hq2, hq3, hq4, hq5⟩) | (go_at_call 61; refine (now_env kP 2 hq1).mono ?_; rintro e w' ⟨rfl, rfl⟩; exact ⟨rfl, hq1.alloc _, hq2.alloc _, hq3.alloc _, hq4.alloc _, hq5.alloc _⟩)))
           (try simp only [Act.put, List.setIfInBounds_toArray, List.set_cons_zero, List.set_cons_succ])
           go_big_quiet_on))
      refine wpQuiet_nil ?_
      intro wq hq
      obtain ⟨hq1, hq2, hq3, hq4, hq5⟩ := hq
      have hS5 := hS.only hq5
      clear hMa hEa hT0 hPa hOa
      cases b
      · have hk2 : 100 ≤ j + 1 → j + 1 + rk s' p' ≤ 104 := fun h => HK'.out h rfl
        have HK2 := Lib.hid hk2
        clear hk2
        by_cases hn : j < n
        · by_cases h100 : j < 100
          · obtain ⟨bb, off, rfl, hbb, hcell⟩ := hS5.cells (by omega)
            have hcj := hcell j hn
            cases hx : xs.getD j default
            · rw [hx] at hcj
              clear hx hcell
              go_wp2
              go_roundw
              case rel => exact ⟨j + 1, s', p', by go_num, by omega, hR', HK2.out, hq1, hq4, hq2, hq5⟩
              case measure => simp [intOf]; omega
            · rw [hx] at hcj
              clear hx hcell
              have hMd := hq1.drew
              go_wp2
              go_region_held3 (fun w' => ∀ o, w'.cell? ⟨w1.heap.size, o, none⟩ = (#[.int .i64 kP.t, .int .i64 kP.s, .int .i64 kP.c, .int .i64 kP.w, .int .i64 kP.g, .int .i64 kP.p, .int .i64 kP.r, .pointer (some ⟨m.b, 0, none⟩), .int .i64 2] : Array Value)[o]?) ((refine Blk.cell (T := 47) ?_; repeat (first | with_reducible assumption | with_reducible apply Blk.drew | with_reducible apply Blk.alloc | (with_reducible refine Blk.only ?_ (by with_reducible assumption) (by first | exact List.not_mem_nil | with_reducible assumption)) | (with_reducible refine Blk.other ?_ _ _ (by simp only; omega)))))
                (first
                  | (go_at_call 45; refine (epoch_any _).mono ?_; rintro e w' ⟨rfl, rfl⟩)
                  | (go_at_call 56; with_reducible refine (add_any hMd).mono ?_; rintro e w5 ⟨⟨x5, y5, rfl⟩, hM5, ho5⟩; have hnx : w1.heap.size ∉ [m.b, m.wb, m.hb] := by (simp only [List.mem_cons, List.not_mem_nil, or_false, not_or]; omega)))
              all_goals
                go_wp2
                go_roundw
                case rel =>
                  refine ⟨j + 1, s'.add 0 1, p', by go_num, by omega, hR'.add (by decide) 1, ?_, hM5, ?_, ?_, ?_⟩
                  · intro h
                    have := rk_le (s'.add 0 1) p'
                    omega
                  · exact hq4.drew.only ho5 (by simp only [List.mem_cons, List.not_mem_nil, or_false, not_or]; omega)
                  · exact hq2.drew.only ho5 (by simp only [List.mem_cons, List.not_mem_nil, or_false, not_or]; omega)
                  · exact hq5.drew.trans' ho5 (by
                      intro x hx _
                      simp only [List.mem_cons, List.not_mem_nil, or_false] at hx
                      omega)
                case measure => simp [intOf]; omega
          · go_wp2
            go_roundw
            case rel => exact ⟨j + 1, s', p', by go_num, by omega, hR', HK2.out, hq1, hq4, hq2, hq5⟩
            case measure => simp [intOf]; omega
        · go_wp2
          go_roundw
          case rel => exact ⟨j + 1, s', p', by go_num, by omega, hR', HK2.out, hq1, hq4, hq2, hq5⟩
          case measure => simp [intOf]; omega
      · go_wp2
        go_ret
        exact ⟨rfl, hq5⟩
    · skip
      rw [hla, hch, htw] at hT0
      have hEa := hE4.alloc (.cells #[.int .i64 8, .int .i64 2, .bool false] 66)
      have hPa := hP4.alloc (.cells #[.int .i64 8, .int .i64 2, .bool false] 66)
      have hMa := hM4.alloc (.cells #[.int .i64 8, .int .i64 2, .bool false] 66)
      have hOa := hO4.alloc (.cells #[.int .i64 8, .int .i64 2, .bool false] 66)
      clear hE4 hP4 hM4 hO4
      go_wp2
      refine qc_enter (fun w' => MemR w' m s' ∧ Blk w' w1.heap.size #[.int .i64 kP.t, .int .i64 kP.s, .int .i64 kP.c, .int .i64 kP.w, .int .i64 kP.g, .int .i64 kP.p, .int .i64 kP.r, .pointer (some ⟨m.b, 0, none⟩), .int .i64 2] 47 ∧ Blk w' w4.heap.size #[.int .i64 8, .int .i64 2, .bool false] 66 ∧ Blk w' w2.heap.size #[.int .i64 p'.pc, .int .u64 p'.ep] 51 ∧ Only [] w w') (by kernel_rfl) (by kernel_rfl) ?_ ?_
      focus (exact ⟨hMa.drew, hEa.drew, hT0.drew, hPa.drew, hOa.drew⟩)
      repeat (first
        | go_big_quiet_skip
        | (go_big_quiet_want
           apply Exists.intro
           refine ⟨fun wq hq => ?_, ?_⟩
           focus
             (obtain ⟨hq1, hq2, hq3, hq4, hq5⟩ := hq; have hc2 := hq2.cell; have hc3 := hq3.cell)
             unfold Oper.quietAt
             go_simp
             (first
               | done
               | with_reducible exact rfl
               | with_reducible exact ⟨rfl, rfl⟩
               | (first | (go_at_call 45; refine (epoch_any _).mono ?_; rintro e w' ⟨rfl, rfl⟩; exact ⟨rfl, hq1, hq2, hq3, hq4, hq5⟩) | (go_at_call 48; refine (pin_any _ _).mono ?_; rintro e w' ⟨rfl, rfl⟩; exact ⟨rfl, hq1, hq2, hq3, hq4, hq5⟩) | (go_at_call 61; refine (now_env kP 2 hq1).mono ?_; rintro e w' ⟨rfl, rfl⟩; exact ⟨rfl, hq1.alloc _, hq2.alloc _, hq3.alloc _, hq4.alloc _, hq5.alloc _⟩)))
           (try simp only [Act.put, List.setIfInBounds_toArray, List.set_cons_zero, List.set_cons_succ])
           go_big_quiet_on))
      refine wpQuiet_nil ?_
      intro wq hq
      obtain ⟨hq1, hq2, hq3, hq4, hq5⟩ := hq
      have hS5 := hS.only hq5
      clear hMa hEa hT0 hPa hOa
      cases b
      · have hk2 : 100 ≤ j + 1 → j + 1 + rk s' p' ≤ 104 := fun h => HK'.out h rfl
        have HK2 := Lib.hid hk2
        clear hk2
        by_cases hn : j < n
        · by_cases h100 : j < 100
          · obtain ⟨bb, off, rfl, hbb, hcell⟩ := hS5.cells (by omega)
            have hcj := hcell j hn
            cases hx : xs.getD j default
            · rw [hx] at hcj
              clear hx hcell
              go_wp2
              go_roundw
              case rel => exact ⟨j + 1, s', p', by go_num, by omega, hR', HK2.out, hq1, hq4, hq2, hq5⟩
              case measure => simp [intOf]; omega
            · rw [hx] at hcj
              clear hx hcell
              have hMd := hq1.drew
              go_wp2
              go_region_held3 (fun w' => ∀ o, w'.cell? ⟨w1.heap.size, o, none⟩ = (#[.int .i64 kP.t, .int .i64 kP.s, .int .i64 kP.c, .int .i64 kP.w, .int .i64 kP.g, .int .i64 kP.p, .int .i64 kP.r, .pointer (some ⟨m.b, 0, none⟩), .int .i64 2] : Array Value)[o]?) ((refine Blk.cell (T := 47) ?_; repeat (first | with_reducible assumption | with_reducible apply Blk.drew | with_reducible apply Blk.alloc | (with_reducible refine Blk.only ?_ (by with_reducible assumption) (by first | exact List.not_mem_nil | with_reducible assumption)) | (with_reducible refine Blk.other ?_ _ _ (by simp only; omega)))))
                (first
                  | (go_at_call 45; refine (epoch_any _).mono ?_; rintro e w' ⟨rfl, rfl⟩)
                  | (go_at_call 56; with_reducible refine (add_any hMd).mono ?_; rintro e w5 ⟨⟨x5, y5, rfl⟩, hM5, ho5⟩; have hnx : w1.heap.size ∉ [m.b, m.wb, m.hb] := by (simp only [List.mem_cons, List.not_mem_nil, or_false, not_or]; omega)))
              all_goals
                go_wp2
                go_roundw
                case rel =>
                  refine ⟨j + 1, s'.add 0 1, p', by go_num, by omega, hR'.add (by decide) 1, ?_, hM5, ?_, ?_, ?_⟩
                  · intro h
                    have := rk_le (s'.add 0 1) p'
                    omega
                  · exact hq4.drew.only ho5 (by simp only [List.mem_cons, List.not_mem_nil, or_false, not_or]; omega)
                  · exact hq2.drew.only ho5 (by simp only [List.mem_cons, List.not_mem_nil, or_false, not_or]; omega)
                  · exact hq5.drew.trans' ho5 (by
                      intro x hx _
                      simp only [List.mem_cons, List.not_mem_nil, or_false] at hx
                      omega)
                case measure => simp [intOf]; omega
          · go_wp2
            go_roundw
            case rel => exact ⟨j + 1, s', p', by go_num, by omega, hR', HK2.out, hq1, hq4, hq2, hq5⟩
            case measure => simp [intOf]; omega
        · go_wp2
          go_roundw
          case rel => exact ⟨j + 1, s', p', by go_num, by omega, hR', HK2.out, hq1, hq4, hq2, hq5⟩
          case measure => simp [intOf]; omega
      · go_wp2
        go_ret
        exact ⟨rfl, hq5⟩
    · skip
      rw [hla, hch, htw] at hT0
      have hEa := hE4.alloc (.cells #[.int .i64 8, .int .i64 2, .bool true] 66)
      have hPa := hP4.alloc (.cells #[.int .i64 8, .int .i64 2, .bool true] 66)
      have hMa := hM4.alloc (.cells #[.int .i64 8, .int .i64 2, .bool true] 66)
      have hOa := hO4.alloc (.cells #[.int .i64 8, .int .i64 2, .bool true] 66)
      clear hE4 hP4 hM4 hO4
      go_wp2
      refine qc_enter (fun w' => MemR w' m s' ∧ Blk w' w1.heap.size #[.int .i64 kP.t, .int .i64 kP.s, .int .i64 kP.c, .int .i64 kP.w, .int .i64 kP.g, .int .i64 kP.p, .int .i64 kP.r, .pointer (some ⟨m.b, 0, none⟩), .int .i64 2] 47 ∧ Blk w' w4.heap.size #[.int .i64 8, .int .i64 2, .bool true] 66 ∧ Blk w' w2.heap.size #[.int .i64 p'.pc, .int .u64 p'.ep] 51 ∧ Only [] w w') (by kernel_rfl) (by kernel_rfl) ?_ ?_
      focus (exact ⟨hMa.drew, hEa.drew, hT0.drew, hPa.drew, hOa.drew⟩)
      repeat (first
        | go_big_quiet_skip
        | (go_big_quiet_want
           apply Exists.intro
           refine ⟨fun wq hq => ?_, ?_⟩
           focus
             (obtain ⟨hq1, hq2, hq3, hq4, hq5⟩ := hq; have hc2 := hq2.cell; have hc3 := hq3.cell)
             unfold Oper.quietAt
             go_simp
             (first
               | done
               | with_reducible exact rfl
               | with_reducible exact ⟨rfl, rfl⟩
               | (first | (go_at_call 45; refine (epoch_any _).mono ?_; rintro e w' ⟨rfl, rfl⟩; exact ⟨rfl, hq1, hq2, hq3, hq4, hq5⟩) | (go_at_call 48; refine (pin_any _ _).mono ?_; rintro e w' ⟨rfl, rfl⟩; exact ⟨rfl, hq1, hq2, hq3, hq4, hq5⟩) | (go_at_call 61; refine (now_env kP 2 hq1).mono ?_; rintro e w' ⟨rfl, rfl⟩; exact ⟨rfl, hq1.alloc _, hq2.alloc _, hq3.alloc _, hq4.alloc _, hq5.alloc _⟩)))
           (try simp only [Act.put, List.setIfInBounds_toArray, List.set_cons_zero, List.set_cons_succ])
           go_big_quiet_on))
      refine wpQuiet_nil ?_
      intro wq hq
      obtain ⟨hq1, hq2, hq3, hq4, hq5⟩ := hq
      have hS5 := hS.only hq5
      clear hMa hEa hT0 hPa hOa
      cases b
      · have hk2 : 100 ≤ j + 1 → j + 1 + rk s' p' ≤ 104 := fun h => HK'.out h rfl
        have HK2 := Lib.hid hk2
        clear hk2
        by_cases hn : j < n
        · by_cases h100 : j < 100
          · obtain ⟨bb, off, rfl, hbb, hcell⟩ := hS5.cells (by omega)
            have hcj := hcell j hn
            cases hx : xs.getD j default
            · rw [hx] at hcj
              clear hx hcell
              go_wp2
              go_roundw
              case rel => exact ⟨j + 1, s', p', by go_num, by omega, hR', HK2.out, hq1, hq4, hq2, hq5⟩
              case measure => simp [intOf]; omega
            · rw [hx] at hcj
              clear hx hcell
              have hMd := hq1.drew
              go_wp2
              go_region_held3 (fun w' => ∀ o, w'.cell? ⟨w1.heap.size, o, none⟩ = (#[.int .i64 kP.t, .int .i64 kP.s, .int .i64 kP.c, .int .i64 kP.w, .int .i64 kP.g, .int .i64 kP.p, .int .i64 kP.r, .pointer (some ⟨m.b, 0, none⟩), .int .i64 2] : Array Value)[o]?) ((refine Blk.cell (T := 47) ?_; repeat (first | with_reducible assumption | with_reducible apply Blk.drew | with_reducible apply Blk.alloc | (with_reducible refine Blk.only ?_ (by with_reducible assumption) (by first | exact List.not_mem_nil | with_reducible assumption)) | (with_reducible refine Blk.other ?_ _ _ (by simp only; omega)))))
                (first
                  | (go_at_call 45; refine (epoch_any _).mono ?_; rintro e w' ⟨rfl, rfl⟩)
                  | (go_at_call 56; with_reducible refine (add_any hMd).mono ?_; rintro e w5 ⟨⟨x5, y5, rfl⟩, hM5, ho5⟩; have hnx : w1.heap.size ∉ [m.b, m.wb, m.hb] := by (simp only [List.mem_cons, List.not_mem_nil, or_false, not_or]; omega)))
              all_goals
                go_wp2
                go_roundw
                case rel =>
                  refine ⟨j + 1, s'.add 0 1, p', by go_num, by omega, hR'.add (by decide) 1, ?_, hM5, ?_, ?_, ?_⟩
                  · intro h
                    have := rk_le (s'.add 0 1) p'
                    omega
                  · exact hq4.drew.only ho5 (by simp only [List.mem_cons, List.not_mem_nil, or_false, not_or]; omega)
                  · exact hq2.drew.only ho5 (by simp only [List.mem_cons, List.not_mem_nil, or_false, not_or]; omega)
                  · exact hq5.drew.trans' ho5 (by
                      intro x hx _
                      simp only [List.mem_cons, List.not_mem_nil, or_false] at hx
                      omega)
                case measure => simp [intOf]; omega
          · go_wp2
            go_roundw
            case rel => exact ⟨j + 1, s', p', by go_num, by omega, hR', HK2.out, hq1, hq4, hq2, hq5⟩
            case measure => simp [intOf]; omega
        · go_wp2
          go_roundw
          case rel => exact ⟨j + 1, s', p', by go_num, by omega, hR', HK2.out, hq1, hq4, hq2, hq5⟩
          case measure => simp [intOf]; omega
      · go_wp2
        go_ret
        exact ⟨rfl, hq5⟩

end Go.Proofs.Yteoimmjgnflmmaa
