/-
  SlotEmpty, walked.
-/
import Derived.Test.YteoimmjgnflmmaaSlA
import Derived.Test.YteoimmjgnflmmaaCpy
namespace Go.Proofs.Yteoimmjgnflmmaa
open Go.RowKit Go.BigFrame

set_option maxRecDepth 100000 in
set_option maxHeartbeats 3200000 in
theorem sempty_walk (slots : Int) (_hs : I64 slots) (times : Int) (_ht : I64 times) (w : World) : Calls Try.prog 12 #[.int .i64 slots, .int .i64 times] w fun e w' => e = .returned (.bool true) ∧ Only [] w w' := by
  obtain ⟨a, ha, hsl⟩ := iand7n slots
  obtain ⟨b, hb, hti⟩ := iand15n times
  have hk : (kS 1 (1 + (a : Int))).Ok := kS_ok (by decide) (by decide) (by omega) (by omega)
  have h60 : (kS 1 (1 + (a : Int))).s ≤ 60000 := by show 1 + (a : Int) ≤ 60000; omega
  have hf := fresh_fr hk h60 (n := 1 + a) (by show 1 + (a : Int) = _; omega)
  have ht0 : topN ((freshS (kS 1 (1 + (a : Int)))).at 1) = 0 := by rw [fresh_top hk h60]; decide
  have HF := Lib.hid hf
  have HT := Lib.hid ht0
  have HK := Lib.hid hk
  clear hf ht0 hk h60
  go_enter Try.func12, Try.ntmps12
  go_wp2_with fail
  refine (arena_yes (kS 1 (1 + (a : Int))) HK.out rfl rfl rfl _).mono ?_
  rintro e w1 ⟨m, rfl, hm1, hn1, ho1⟩
  obtain ⟨hl1, hl2, hl3⟩ := hm1.lts
  obtain ⟨hn1, hn2, hn3⟩ := hn1
  have hz := ho1.size
  have hnx : w1.heap.size ∉ m.l := hm1.notin (Nat.le_refl _)
  have hlm : ∀ x, x ∈ m.l → x < w.heap.size → x ∈ ([] : List Nat) := fun x hx hlt => by
    simp only [List.mem_cons, List.not_mem_nil, or_false] at hx; omega
  have hW : EW w (w1.alloc (.cells #[.int .i64 (kS 1 (1 + (a : Int))).t, .int .i64 (kS 1 (1 + (a : Int))).s, .int .i64 (kS 1 (1 + (a : Int))).c, .int .i64 (kS 1 (1 + (a : Int))).w, .int .i64 (kS 1 (1 + (a : Int))).g, .int .i64 (kS 1 (1 + (a : Int))).p, .int .i64 (kS 1 (1 + (a : Int))).r, .pointer (some ⟨m.b, 0, none⟩), .int .i64 0] 47)) m (kS 1 (1 + (a : Int))) 0 w1.heap.size (freshS (kS 1 (1 + (a : Int)))) := ⟨hm1.alloc _, Blk.new _ _ _, ho1.alloc _⟩
  clear hm1 ho1
  go_wp2_with fail
  refine (awake6 _).mono ?_
  rintro e w2 ⟨rfl, ho2⟩
  have hz2 := ho2.size
  simp only [World.size_alloc] at hz2
  have hWb : EW w w2 m (kS 1 (1 + (a : Int))) 0 w1.heap.size (freshS (kS 1 (1 + (a : Int)))) := ⟨hW.mem.only ho2 (by simp) (by simp) (by simp), hW.env.only ho2 (by simp), hW.only.trans' ho2 (fun _ h _ => h)⟩
  clear hW ho2
  go_wp2
  go_loopw [8] (fun i wr => ∃ (j : Nat) (s : MS), i = .int .i64 j ∧ j ≤ 1 + a ∧ Fr (kS 1 (1 + (a : Int))) (1 + a) s (rangeI j (1 + a - j)) ∧ topN (s.at 1) = j ∧ EW w wr m (kS 1 (1 + (a : Int))) 0 w1.heap.size s) (fun i _ => 1 + a - (intOf i).toNat)
  case atStart => exact ⟨0, _, rfl, by omega, HF.out, HT.out, hWb⟩
  case round =>
    clear hWb
    obtain ⟨j, s, rfl, hj, hf, htn, hW⟩ := hrel
    have hEc := hW.env.cell
    by_cases hlt : j < 1 + a
    · have hrg : rangeI j (1 + a - j) = (j : Int) :: rangeI (j + 1) (1 + a - (j + 1)) := by
        rw [show 1 + a - j = (1 + a - (j + 1)) + 1 by omega]; exact rangeI_succ _ _
      rw [hrg] at hf
      clear hrg
      have HF := Lib.hid hf
      have HT := Lib.hid htn
      clear hf htn
      go_wp2_with fail
      refine (take_some (kS 1 (1 + (a : Int))) 0 (1 + a) (by omega) j _ HK.out hW.mem HF.out (by rw [HT.out]; omega)).mono ?_
      rintro e w3 ⟨rfl, ⟨s3, hm3, hT3⟩, ho3⟩
      have hW3 := hW.step hnx hlm hm3 ho3
      have HT3 := Lib.hid hT3
      clear hEc hT3 ho3 hm3
      go_wp2
      go_roundw
      case rel => exact ⟨j + 1, s3, by go_num, by omega, HT3.out.fr, by rw [HT3.out.top, HT.out]; omega, hW3⟩
      case measure => simp [intOf]; omega
    · have hje : 1 + a - j = 0 := by omega
      rw [hje] at hf
      have hf0 : Fr (kS 1 (1 + (a : Int))) (1 + a) s [] := hf
      have hlen := hW.mem.len
      have HF := Lib.hid hf0
      clear hf hje htn hf0
      obtain ⟨L, hL⟩ : ∃ L, L = s.ws.length := ⟨_, rfl⟩
      rw [← hL] at hlen
      have q61 := run_make61 L hlen
      have hlc : ∀ w', MemR w' m s → Calls Try.prog 40 #[.pointer (some ⟨m.b, 0, none⟩)] w' fun e w2 => e = .returned (.int .i64 L) ∧ w' = w2 := fun w' h => by
        have := len_any h
        rw [← hL] at this
        exact this
      have HL := Lib.hid hL
      clear hL
      have hWm : EW w (wr.alloc (.cells (u64s (List.replicate L 0)) 37)) m (kS 1 (1 + (a : Int))) 0 w1.heap.size s := hW.alloc _
      have hB := Blk.new wr (u64s (List.replicate L 0)) 37
      have hsz := hW.env.lt
      obtain ⟨hm1, hm2, hm3⟩ := hW.mem.lts
      have hsw := hW.only.size
      obtain ⟨wb, hwb⟩ : ∃ wb, wr.heap.size = wb := ⟨_, rfl⟩
      rw [hwb] at hsz hm1 hm2 hm3 hB hsw
      have hnb : wb ∉ m.l := by simp only [List.mem_cons, List.not_mem_nil, or_false, not_or]; omega
      go_wp2_with (first | (go_at_call 40; refine (hlc _ hW.mem).mono ?_; rintro e w' ⟨rfl, rfl⟩))
      clear hW hlc hEc
      go_loopw [13] (fun i wr => ∃ (j : Nat), i = .int .i64 j ∧ j ≤ L ∧ EW w wr m (kS 1 (1 + (a : Int))) 0 w1.heap.size s ∧ Blk wr wb (u64s (cpy s.ws j)) 37) (fun i _ => L - (intOf i).toNat)
      case atStart => exact ⟨0, rfl, by omega, hWm, by rw [cpy_zero, ← HL.out]; exact hB⟩
      case round =>
        clear hWm hB q61
        obtain ⟨j2, rfl, hj2, hW, hB⟩ := hrel
        have hEc := hW.env.cell
        by_cases hlt2 : j2 < L
        · have hcj : wr.cell? ⟨wb, j2, none⟩ = some (.int .u64 ((cpy s.ws j2).getD j2 0)) := by
            rw [hB.cell, u64s_get _ _ (by rw [cpy_len _ (by rw [← HL.out]; omega), ← HL.out]; omega)]
          have hfj := hB.frozen
          have hpk : ∀ w', MemR w' m s → Calls Try.prog 44 #[.pointer (some ⟨m.b, 0, none⟩), .int .i64 j2] w' fun e w2 => e = .returned (.int .u64 (s.ws.getD j2 0)) ∧ w' = w2 := fun w' h => by
            have := peek_any (a := (j2 : Int)) h
            rw [get_ok _ _ ⟨by omega, by rw [← HL.out]; omega⟩] at this
            exact this
          go_wp2_with (first | (go_at_call 44; with_reducible refine (hpk _ hW.mem).mono ?_; rintro e w' ⟨rfl, rfl⟩))
          go_roundw
          case rel => exact ⟨j2 + 1, by go_num, by omega, hW.other _ _ hnb (by simp only; omega) hsw, hB.set j2 _ ((u64s_set _ _ _).trans (congrArg u64s (cpy_succ _ (by rw [← HL.out]; omega))))⟩
          case measure => simp [intOf]; omega
        · have hj2 : j2 = s.ws.length := by rw [← HL.out]; omega
          have hB' : Blk wr wb (u64s s.ws) 37 := by rw [hj2, cpy_full] at hB; exact hB
          clear hB hj2
          go_wp2
          go_loopw [14] (fun i wr => ∃ (j : Nat) (s' : MS), i = .int .i64 j ∧ j ≤ b ∧ s'.ws = s.ws ∧ EW w wr m (kS 1 (1 + (a : Int))) 0 w1.heap.size s' ∧ Blk wr wb (u64s s.ws) 37) (fun i _ => b - (intOf i).toNat)
          case atStart => exact ⟨0, s, rfl, by omega, rfl, hW, hB'⟩
          case round =>
            clear hW hB' hEc
            obtain ⟨j3, s', rfl, hj3, hws, hW, hB⟩ := hrel
            have hEc := hW.env.cell
            by_cases hlt3 : j3 < b
            · have hg : topS (s'.get 1) = -1 := by
                have h1 : s'.ok 1 := by unfold MS.ok; rw [hws]; exact HF.out.ok1 HK.out
                rw [get_ok _ _ h1]
                unfold MS.at
                rw [hws]
                exact HF.out.nil
              have hd : decide (topS (s'.get 1) < 0) = true := decide_eq_true (by rw [hg]; decide)
              clear hg
              have hWa := hW.alloc (.cells (⟨0, 0, 0, 0, false⟩ : TakeS).cs 72)
              have hBa := hB.alloc (.cells (⟨0, 0, 0, 0, false⟩ : TakeS).cs 72)
              have hob := Blk.new wr (⟨0, 0, 0, 0, false⟩ : TakeS).cs 72
              have hb1 := hB.lt
              have he1 := hW.env.lt
              obtain ⟨l1, l2, l3⟩ := hW.mem.lts
              have hsw2 := hW.only.size
              have n1 : wr.heap.size ≠ m.b := by omega
              have n2 : wr.heap.size ≠ m.wb := by omega
              have n3 : wr.heap.size ≠ m.hb := by omega
              have n4 : w1.heap.size ∉ [m.b, m.wb, m.hb, wr.heap.size] := by
                simp only [List.mem_cons, List.not_mem_nil, or_false, not_or] at hnx ⊢; omega
              have n5 : wb ∉ [m.b, m.wb, m.hb, wr.heap.size] := by
                simp only [List.mem_cons, List.not_mem_nil, or_false, not_or] at hnb ⊢; omega
              go_wp2_with fail
              refine (take_step0 (kS 1 (1 + (a : Int))) 0 ⟨0, 0, 0, 0, false⟩ _ hWa.mem hob rfl n1 n2 n3).mono ?_
              rintro e w3 ⟨rfl, h1, h2, h3⟩
              have hW3 : EW w w3 m (kS 1 (1 + (a : Int))) 0 w1.heap.size ((s'.by 0).load 1) := ⟨h1, hWa.env.only h3 n4, hWa.only.trans' h3 (by
                intro x hx _
                simp only [List.mem_cons, List.not_mem_nil, or_false] at hx
                omega)⟩
              have hB3 := hBa.only h3 n5
              rw [hd]
              clear hWa hBa hob h1 h3 hEc hW hB
              go_wp2_with fail
              refine (tslot_any _ _ h2).mono ?_
              rintro e w4 ⟨rfl, rfl⟩
              go_wp2
              go_roundw
              case rel => exact ⟨j3 + 1, _, by go_num, by omega, by rw [load_ws]; exact hws, hW3, hB3⟩
              case measure => simp [intOf]; omega
            · have hlen2 : s'.ws.length = L := by rw [hws, HL.out]
              have hgt : ∀ j : Nat, j < L → s'.get (j : Int) = s.ws.getD j 0 := fun j hj => by
                rw [get_ok _ _ ⟨by omega, by omega⟩]
                unfold MS.at
                rw [hws]
                rfl
              have HG := Lib.hid hgt
              have HW := Lib.hid hws
              clear hgt hws
              go_wp2
              go_loopw [18] (fun i wr => ∃ (j : Nat), i = .int .i64 j ∧ j ≤ L ∧ EW w wr m (kS 1 (1 + (a : Int))) 0 w1.heap.size s' ∧ Blk wr wb (u64s s.ws) 37) (fun i _ => L - (intOf i).toNat)
              case atStart => exact ⟨0, rfl, by omega, hW, hB⟩
              case round =>
                clear hW hB hEc
                obtain ⟨j4, rfl, hj4, hW, hB⟩ := hrel
                by_cases hlt4 : j4 < L
                · have hpk : ∀ w', MemR w' m s' → Calls Try.prog 44 #[.pointer (some ⟨m.b, 0, none⟩), .int .i64 j4] w' fun e w2 => e = .returned (.int .u64 (s.ws.getD j4 0)) ∧ w' = w2 := fun w' h => by
                    have := peek_any (a := (j4 : Int)) h
                    rw [HG.out j4 hlt4] at this
                    exact this
                  have hWd := hW.drew
                  go_wp2
                  refine qc_enter (fun w' => EW w w' m (kS 1 (1 + (a : Int))) 0 w1.heap.size s' ∧ Blk w' wb (u64s s.ws) 37) (by kernel_rfl) (by kernel_rfl) ?_ ?_
                  focus (exact ⟨hWd, hB.drew⟩)
                  repeat (first
                    | go_big_quiet_skip
                    | (go_big_quiet_want
                       apply Exists.intro
                       refine ⟨fun wq hq => ?_, ?_⟩
                       focus
                         (obtain ⟨hq1, hq2⟩ := hq; have hc2 := hq1.env.cell; have hcj : wq.cell? ⟨wb, j4, none⟩ = some (.int .u64 (s.ws.getD j4 0)) := (by rw [hq2.cell, u64s_get _ _ (by rw [← HL.out]; omega)]))
                         unfold Oper.quietAt
                         go_simp
                         (first
                           | done
                           | with_reducible exact rfl
                           | with_reducible exact ⟨rfl, rfl⟩
                           | ((go_at_call 44; with_reducible refine (hpk _ hq1.mem).mono ?_; rintro e w' ⟨rfl, rfl⟩; exact ⟨rfl, hq1, hq2⟩)))
                       (try simp only [Act.put, List.setIfInBounds_toArray, List.set_cons_zero, List.set_cons_succ])
                       go_big_quiet_on))
                  refine wpQuiet_nil ?_
                  intro wq hq
                  obtain ⟨hq1, hq2⟩ := hq
                  go_wp2
                  go_roundw
                  case rel => exact ⟨j4 + 1, by go_num, by omega, hq1, hq2⟩
                  case measure => simp [intOf]; omega
                · go_wp2
                  go_ret
                  exact ⟨rfl, hW.only⟩

end Go.Proofs.Yteoimmjgnflmmaa
