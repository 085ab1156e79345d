/-
  PlaceClean, walked.
-/
import Derived.Test.YteoimmjgnflmmaaPlA
import Derived.Test.YteoimmjgnflmmaaCpy
namespace Go.Proofs.Yteoimmjgnflmmaa
open Go.RowKit Go.BigFrame

def kC (n : Int) : Cfg := ⟨2, 3, n, 20, 100, 600, 3⟩
theorem kC_ok {n : Int} (n0 : 1 ≤ n) (n1 : n ≤ 64) : (kC n).Ok := by
  unfold kC
  constructor <;> simp only <;> omega

theorem kind_oc {k : Cfg} {n : Nat} (hk : k.Ok) (hn : k.c = n) {a : Int} (h : (∃ c, (c = 0 ∨ c = 1 ∨ c = 2 ∨ c = 3) ∧ a = 2 + c) ∨ (∃ i, 0 ≤ i ∧ i < (n : Int) ∧ a = aChunk k i)) : ((kindOf k a).1 = 2 ∨ (kindOf k a).1 = 6) ∧ 0 ≤ a := by
  have := hk.t0; have := hk.s0; have := hk.c1
  rcases h with ⟨c, hc, rfl⟩ | ⟨i, h0, h1, rfl⟩
  · refine ⟨.inl ?_, by omega⟩
    unfold kindOf
    rw [if_neg (by omega), if_neg (by omega), if_neg (by omega), if_pos (by omega)]
  · have e := aChunk_ok hk h0 (by omega)
    refine ⟨.inr ?_, by omega⟩
    rw [e]
    unfold kindOf
    rw [if_neg (by omega), if_neg (by omega), if_neg (by omega), if_neg (by omega), if_neg (by omega), if_neg (by omega), if_pos (by omega)]
    simp only
    omega

theorem run_keep {k : Cfg} {n : Nat} {wh : Int} (hk : k.Ok) {a : Int} (ha : 0 ≤ a) (h2 : (kindOf k a).1 ≠ 2) (h6 : (kindOf k a).1 ≠ 6) : ∀ (f : Nat) (s : MS) (p : PlS), PM k n s → PI n p → (placeRun k wh f s p).1.at a = s.at a
  | 0, _, _, _, _ => rfl
  | f + 1, s, p, hM, hI => by
    rcases hst : placeStep k wh s p with ⟨b, s', p'⟩
    obtain ⟨_, t2, t3, hM', hI', _, _⟩ := place_law hk hM hI hst
    have hkd := kind_oc hk hM.c (a := s'.la) (t2.elim (fun h => .inl ⟨p.cl, hI.cl, h⟩) (fun ⟨i, h0, h1, h⟩ => .inr ⟨i, h0, h1, h⟩))
    have hne : a ≠ s'.la := fun h => by rw [← h] at hkd; exact hkd.1.elim h2 h6
    have hat : s'.at a = s.at a := by
      unfold MS.at
      rcases t3 with h | ⟨v, _, h⟩
      · rw [h]
      · have hn2 : a.toNat ≠ s'.la.toNat := by have := hkd.2; omega
        rw [h]
        simp [List.getD, List.getElem?_set_ne (Ne.symm hn2)]
    cases b
    · rw [placeRun_on hst, run_keep hk ha h2 h6 f s' p' hM' (hI' rfl), hat]
    · rw [placeRun_stop hst, hat]
theorem run_len {k : Cfg} {n : Nat} {wh : Int} (hk : k.Ok) : ∀ (f : Nat) (s : MS) (p : PlS), PM k n s → PI n p → (placeRun k wh f s p).1.ws.length = s.ws.length
  | 0, _, _, _, _ => rfl
  | f + 1, s, p, hM, hI => by
    rcases hst : placeStep k wh s p with ⟨b, s', p'⟩
    obtain ⟨_, t2, t3, hM', hI', _, _⟩ := place_law hk hM hI hst
    have hl : s'.ws.length = s.ws.length := by
      rcases t3 with h | ⟨v, _, h⟩
      · rw [h]
      · rw [h]; simp
    cases b
    · rw [placeRun_on hst, run_len hk f s' p' hM' (hI' rfl), hl]
    · rw [placeRun_stop hst, hl]

set_option maxRecDepth 100000 in
set_option maxHeartbeats 3200000 in
theorem pclean_walk (chunks : Int) (_hs : I64 chunks) (A : Option Addr) (n c : Nat) (xs : List Int) (_hx : ∀ x ∈ xs, I64 x) (w : World) (hS : Slc (Value.int .i64) w A n xs) : Calls Try.prog 23 #[.int .i64 chunks, .slice A n c] w fun e w' => e = .returned (.bool true) ∧ Only [] w w' := by
  obtain ⟨a, ha, hsl⟩ := iand7n chunks
  have hmost := hS.most
  unfold maxLen at hmost
  have hk : (kC (1 + (a : Int))).Ok := kC_ok (by omega) (by omega)
  have h60 : (kC (1 + (a : Int))).s ≤ 60000 := by show (3 : Int) ≤ 60000; decide
  have HK := Lib.hid hk
  have H60 := Lib.hid h60
  clear hk h60
  go_enter Try.func23, Try.ntmps23
  go_wp2_with fail
  refine (arena_yes (kC (1 + (a : Int))) HK.out rfl rfl rfl _).mono ?_
  rintro e w1 ⟨m, rfl, hm1, hn1, ho1⟩
  obtain ⟨hl1, hl2, hl3⟩ := hm1.lts
  obtain ⟨hn1, hn2, hn3⟩ := hn1
  have hz := ho1.size
  have hnx : w1.heap.size ∉ m.l := hm1.notin (Nat.le_refl _)
  have hlm : ∀ x, x ∈ m.l → x < w.heap.size → x ∈ ([] : List Nat) := fun x hx hlt => by
    simp only [List.mem_cons, List.not_mem_nil, or_false] at hx; omega
  have hP := Lib.hid (fresh_PM HK.out H60.out (n := 1 + a) (by show 1 + (a : Int) = _; omega) hm1.rng)
  have hW : EW w (w1.alloc (.cells #[.int .i64 (kC (1 + (a : Int))).t, .int .i64 (kC (1 + (a : Int))).s, .int .i64 (kC (1 + (a : Int))).c, .int .i64 (kC (1 + (a : Int))).w, .int .i64 (kC (1 + (a : Int))).g, .int .i64 (kC (1 + (a : Int))).p, .int .i64 (kC (1 + (a : Int))).r, .pointer (some ⟨m.b, 0, none⟩), .int .i64 0] 47)) m (kC (1 + (a : Int))) 0 w1.heap.size (freshS (kC (1 + (a : Int)))) := ⟨hm1.alloc _, Blk.new _ _ _, ho1.alloc _⟩
  clear hm1 ho1
  go_wp2_with fail
  refine (awake7 _).mono ?_
  rintro e w2 ⟨rfl, ho2⟩
  have hWb : EW w w2 m (kC (1 + (a : Int))) 0 w1.heap.size (freshS (kC (1 + (a : Int)))) := ⟨hW.mem.only ho2 (by simp) (by simp) (by simp), hW.env.only ho2 (by simp), hW.only.trans' ho2 (fun _ h _ => h)⟩
  clear hW ho2
  obtain ⟨s0, hs0⟩ : ∃ s0, freshS (kC (1 + (a : Int))) = s0 := ⟨_, rfl⟩
  rw [hs0] at hWb hP
  clear hs0
  have hlen := hWb.mem.len
  obtain ⟨L, hL⟩ : ∃ L, L = s0.ws.length := ⟨_, rfl⟩
  rw [← hL] at hlen
  have q61 := run_make61 L hlen
  have hlc : ∀ w', MemR w' m s0 → Calls Try.prog 40 #[.pointer (some ⟨m.b, 0, none⟩)] w' fun e w2 => e = .returned (.int .i64 L) ∧ w' = w2 := fun w' h => by
    have := len_any h
    rw [← hL] at this
    exact this
  have HL := Lib.hid hL
  clear hL
  have hWm : EW w (w2.alloc (.cells (u64s (List.replicate L 0)) 37)) m (kC (1 + (a : Int))) 0 w1.heap.size s0 := hWb.alloc _
  have hB0 := Blk.new w2 (u64s (List.replicate L 0)) 37
  have hsz := hWb.env.lt
  obtain ⟨hm1, hm2, hm3⟩ := hWb.mem.lts
  have hsw := hWb.only.size
  obtain ⟨wb, hwb⟩ : ∃ wb, w2.heap.size = wb := ⟨_, rfl⟩
  rw [hwb] at hsz hm1 hm2 hm3 hB0 hsw
  have hnb : wb ∉ m.l := by simp only [List.mem_cons, List.not_mem_nil, or_false, not_or]; omega
  have hEc := hWb.env.cell
  go_wp2_with (first | (go_at_call 40; refine (hlc _ hWb.mem).mono ?_; rintro e w' ⟨rfl, rfl⟩))
  clear hWb hlc hEc
  go_loopw [8] (fun i wr => ∃ (j : Nat), i = .int .i64 j ∧ j ≤ L ∧ EW w wr m (kC (1 + (a : Int))) 0 w1.heap.size s0 ∧ Blk wr wb (u64s (cpy s0.ws j)) 37) (fun i _ => L - (intOf i).toNat)
  case atStart => exact ⟨0, rfl, by omega, hWm, by rw [cpy_zero, ← HL.out]; exact hB0⟩
  case round =>
    clear hWm hB0 q61
    obtain ⟨j2, rfl, hj2, hW, hB⟩ := hrel
    have hEc := hW.env.cell
    by_cases hlt2 : j2 < L
    · have hcj : wr.cell? ⟨wb, j2, none⟩ = some (.int .u64 ((cpy s0.ws j2).getD j2 0)) := by
        rw [hB.cell, u64s_get _ _ (by rw [cpy_len _ (by rw [← HL.out]; omega), ← HL.out]; omega)]
      have hfj := hB.frozen
      have hpk : ∀ w', MemR w' m s0 → Calls Try.prog 44 #[.pointer (some ⟨m.b, 0, none⟩), .int .i64 j2] w' fun e w2 => e = .returned (.int .u64 (s0.ws.getD j2 0)) ∧ w' = w2 := fun w' h => by
        have := peek_any (a := (j2 : Int)) h
        rw [get_ok _ _ ⟨by omega, by rw [← HL.out]; omega⟩] at this
        exact this
      go_wp2_with (first | (go_at_call 44; with_reducible refine (hpk _ hW.mem).mono ?_; rintro e w' ⟨rfl, rfl⟩))
      go_roundw
      case rel => exact ⟨j2 + 1, by go_num, by omega, hW.other _ _ hnb (by simp only; omega) hsw, hB.set j2 _ ((u64s_set _ _ _).trans (congrArg u64s (cpy_succ _ (by rw [← HL.out]; omega))))⟩
      case measure => simp [intOf]; omega
    · have hj2 : j2 = s0.ws.length := by rw [← HL.out]; omega
      have hB' : Blk wr wb (u64s s0.ws) 37 := by rw [hj2, cpy_full] at hB; exact hB
      clear hB hj2
      go_wp2
      go_loopw [9] (fun i wr => ∃ (j : Nat) (s' : MS), i = .int .i64 j ∧ j ≤ 30 ∧ j ≤ n ∧ PM (kC (1 + (a : Int))) (1 + a) s' ∧ s'.ws.length = s0.ws.length ∧ (∀ x : Int, 0 ≤ x → (kindOf (kC (1 + (a : Int))) x).1 ≠ 2 → (kindOf (kC (1 + (a : Int))) x).1 ≠ 6 → s'.at x = s0.at x) ∧ EW w wr m (kC (1 + (a : Int))) 0 w1.heap.size s' ∧ Blk wr wb (u64s s0.ws) 37) (fun i _ => 30 - (intOf i).toNat)
      case atStart => exact ⟨0, s0, rfl, by omega, by omega, hP.out, rfl, fun _ _ _ _ => rfl, hW, hB'⟩
      case round =>
        clear hW hB' hEc
        obtain ⟨j3, s', rfl, hj3, hjn, hM, hws, hsame, hW, hB⟩ := hrel
        have hEc := hW.env.cell
        by_cases hlt3 : j3 < n
        · by_cases h30 : j3 < 30
          · obtain ⟨bb, off, rfl, hbb, hcw⟩ := hS.cells (by omega)
            have hcs : ∀ w', Only [] w w' → w'.cell? ⟨bb, off + j3, none⟩ = some (.int .i64 (xs.getD j3 default)) := fun w' ho => (World.cell?_of_block (ho.block bb hbb (by simp))).trans (hcw j3 hlt3)
            obtain ⟨z, hz4⟩ : ∃ z, xs.getD j3 default = z := ⟨_, rfl⟩
            rw [hz4] at hcs
            clear hz4 hcw
            obtain ⟨d, hd, hzd⟩ := iand3n z
            rcases hrun : placeRun (kC (1 + (a : Int))) 0 300 s' (pl0 d) with ⟨sF, pF⟩
            have hI : PI (1 + a) (pl0 d) := pl0_PI (by omega)
            have hkp : ∀ x : Int, 0 ≤ x → (kindOf (kC (1 + (a : Int))) x).1 ≠ 2 → (kindOf (kC (1 + (a : Int))) x).1 ≠ 6 → sF.at x = s0.at x := fun x h0 h2 h6 => by
              have h := run_keep (wh := 0) HK.out h0 h2 h6 300 s' (pl0 d) hM hI
              rw [hrun] at h
              rw [h]; exact hsame x h0 h2 h6
            have hlF : sF.ws.length = s0.ws.length := by
              have h := run_len (wh := 0) HK.out 300 s' (pl0 d) hM hI
              rw [hrun] at h
              rw [h]; exact hws
            have HR := Lib.hid hrun
            have HM := Lib.hid hM
            have HKP := Lib.hid hkp
            have HLF := Lib.hid hlF
            have hWd := hW.drew
            have hBd := hB.drew
            have hEd := hWd.env.cell
            have hcd := hcs _ hWd.only
            clear hrun hM hkp hlF hws hsame hW hB hEc
            go_wp2
            first
              | go_region_held3 (fun w' => (∀ o, w'.cell? ⟨w1.heap.size, o, none⟩ = (#[.int .i64 (kC (1 + (a : Int))).t, .int .i64 (kC (1 + (a : Int))).s, .int .i64 (kC (1 + (a : Int))).c, .int .i64 (kC (1 + (a : Int))).w, .int .i64 (kC (1 + (a : Int))).g, .int .i64 (kC (1 + (a : Int))).p, .int .i64 (kC (1 + (a : Int))).r, .pointer (some ⟨m.b, 0, none⟩), .int .i64 0] : Array Value)[o]?) ∧ w'.cell? ⟨bb, off + j3, none⟩ = some (.int .i64 z)) (first | exact ⟨hEd, hcd⟩ | exact ⟨hE3, hc3⟩)
                  (first
                    | (go_at_call 82; with_reducible refine (get_alone (d : Int) HK.out HM.out (by omega) HR.out hWd.mem).mono ?_; rintro e w3 ⟨rfl, hm3, hM3, ho3⟩; have hW3 := hWd.step hnx hlm hm3 ho3; have hB3 := hBd.only ho3 hnb; have hE3 := hW3.env.cell; have hc3 := hcs _ hW3.only))
              | fail "region"
            all_goals
              go_wp2
              go_roundw
              case rel => exact ⟨j3 + 1, sF, by go_num, by omega, by omega, hM3, HLF.out, HKP.out, hW3, hB3⟩
              case measure => simp [intOf]; omega
          · skip
            have hlen2 : s'.ws.length = L := by rw [hws, HL.out]
            have hgt : ∀ j : Nat, j < L → (kindOf (kC (1 + (a : Int))) j).1 ≠ 2 → (kindOf (kC (1 + (a : Int))) j).1 ≠ 6 → s'.get (j : Int) = s0.ws.getD j 0 := fun j hj h2 h6 => by
              rw [get_ok _ _ ⟨by omega, by omega⟩]
              exact hsame j (by omega) h2 h6
            have HG := Lib.hid hgt
            clear hgt hsame hws
            go_wp2
            go_loopw [10] (fun i wr => ∃ (j : Nat), i = .int .i64 j ∧ j ≤ L ∧ EW w wr m (kC (1 + (a : Int))) 0 w1.heap.size s' ∧ Blk wr wb (u64s s0.ws) 37) (fun i _ => L - (intOf i).toNat)
            case atStart => exact ⟨0, rfl, by omega, hW, hB⟩
            case round =>
              clear hW hB hEc
              obtain ⟨j4, rfl, hj4, hW, hB⟩ := hrel
              by_cases hlt4 : j4 < L
              · have hEc := hW.env.cell
                go_wp2_with fail
                refine (kind_any (kC (1 + (a : Int))) HK.out _ (by omega) (by omega) _).mono ?_
                rintro e w4 ⟨rfl, ho4⟩
                have hW4 : EW w w4 m (kC (1 + (a : Int))) 0 w1.heap.size s' := ⟨hW.mem.only ho4 (by simp) (by simp) (by simp), hW.env.only ho4 (by simp), hW.only.trans' ho4 (fun _ h _ => h)⟩
                have hB4 := hB.only ho4 (by simp)
                clear hW hB hEc
                have hWd := hW4.drew
                have hBd := hB4.drew
                by_cases u2 : (kindOf (kC (1 + (a : Int))) (j4 : Int)).1 = 2
                · go_wp2
                  refine qc_enter (fun w' => EW w w' m (kC (1 + (a : Int))) 0 w1.heap.size s' ∧ Blk w' wb (u64s s0.ws) 37) (by kernel_rfl) (by kernel_rfl) ?_ ?_
                  focus (exact ⟨hWd, hBd⟩)
                  repeat (first
                    | go_big_quiet_skip
                    | (go_big_quiet_want
                       apply Exists.intro
                       refine ⟨fun wq hq => ?_, ?_⟩
                       focus
                         (obtain ⟨hq1, hq2⟩ := hq; have hc2 := hq1.env.cell)
                         unfold Oper.quietAt
                         go_simp
                         (first
                           | done
                           | with_reducible exact rfl
                           | with_reducible exact ⟨rfl, rfl⟩
                           | (fail))
                       (try simp only [Act.put, List.setIfInBounds_toArray, List.set_cons_zero, List.set_cons_succ])
                       go_big_quiet_on))
                  refine wpQuiet_nil ?_
                  intro wq hq
                  obtain ⟨hq1, hq2⟩ := hq
                  go_wp2
                  go_roundw
                  case rel => exact ⟨j4 + 1, by go_num, by omega, hq1, hq2⟩
                  case measure => simp [intOf]; omega
                · by_cases u6 : (kindOf (kC (1 + (a : Int))) (j4 : Int)).1 = 6
                  · go_wp2
                    refine qc_enter (fun w' => EW w w' m (kC (1 + (a : Int))) 0 w1.heap.size s' ∧ Blk w' wb (u64s s0.ws) 37) (by kernel_rfl) (by kernel_rfl) ?_ ?_
                    focus (exact ⟨hWd, hBd⟩)
                    repeat (first
                      | go_big_quiet_skip
                      | (go_big_quiet_want
                         apply Exists.intro
                         refine ⟨fun wq hq => ?_, ?_⟩
                         focus
                           (obtain ⟨hq1, hq2⟩ := hq; have hc2 := hq1.env.cell)
                           unfold Oper.quietAt
                           go_simp
                           (first
                             | done
                             | with_reducible exact rfl
                             | with_reducible exact ⟨rfl, rfl⟩
                             | (fail))
                         (try simp only [Act.put, List.setIfInBounds_toArray, List.set_cons_zero, List.set_cons_succ])
                         go_big_quiet_on))
                    refine wpQuiet_nil ?_
                    intro wq hq
                    obtain ⟨hq1, hq2⟩ := hq
                    go_wp2
                    go_roundw
                    case rel => exact ⟨j4 + 1, by go_num, by omega, hq1, hq2⟩
                    case measure => simp [intOf]; omega
                  · have v2 : ((kindOf (kC (1 + (a : Int))) (j4 : Int)).1 != 2) = true := by simpa using u2
                    have v6 : ((kindOf (kC (1 + (a : Int))) (j4 : Int)).1 != 6) = true := by simpa using u6
                    have hpk : ∀ w', MemR w' m s' → Calls Try.prog 44 #[.pointer (some ⟨m.b, 0, none⟩), .int .i64 j4] w' fun e w2 => e = .returned (.int .u64 (s0.ws.getD j4 0)) ∧ w' = w2 := fun w' h => by
                      have := peek_any (a := (j4 : Int)) h
                      rw [HG.out j4 hlt4 u2 u6] at this
                      exact this
                    clear u2 u6
                    go_wp2
                    refine qc_enter (fun w' => EW w w' m (kC (1 + (a : Int))) 0 w1.heap.size s' ∧ Blk w' wb (u64s s0.ws) 37) (by kernel_rfl) (by kernel_rfl) ?_ ?_
                    focus (exact ⟨hWd, hBd⟩)
                    repeat (first
                      | go_big_quiet_skip
                      | (go_big_quiet_want
                         apply Exists.intro
                         refine ⟨fun wq hq => ?_, ?_⟩
                         focus
                           (obtain ⟨hq1, hq2⟩ := hq; have hc2 := hq1.env.cell; have hcj : wq.cell? ⟨wb, j4, none⟩ = some (.int .u64 (s0.ws.getD j4 0)) := (by rw [hq2.cell, u64s_get _ _ (by rw [← HL.out]; omega)]))
                           unfold Oper.quietAt
                           go_simp
                           (first
                             | done
                             | with_reducible exact rfl
                             | with_reducible exact ⟨rfl, rfl⟩
                             | ((go_at_call 44; with_reducible refine (hpk _ hq1.mem).mono ?_; rintro e w' ⟨rfl, rfl⟩; exact ⟨rfl, hq1, hq2⟩)))
                         (try simp only [Act.put, List.setIfInBounds_toArray, List.set_cons_zero, List.set_cons_succ])
                         go_big_quiet_on))
                    refine wpQuiet_nil ?_
                    intro wq hq
                    obtain ⟨hq1, hq2⟩ := hq
                    go_wp2
                    go_roundw
                    case rel => exact ⟨j4 + 1, by go_num, by omega, hq1, hq2⟩
                    case measure => simp [intOf]; omega
              · go_wp2
                go_ret
                exact ⟨rfl, hW.only⟩
        · skip
          have hlen2 : s'.ws.length = L := by rw [hws, HL.out]
          have hgt : ∀ j : Nat, j < L → (kindOf (kC (1 + (a : Int))) j).1 ≠ 2 → (kindOf (kC (1 + (a : Int))) j).1 ≠ 6 → s'.get (j : Int) = s0.ws.getD j 0 := fun j hj h2 h6 => by
            rw [get_ok _ _ ⟨by omega, by omega⟩]
            exact hsame j (by omega) h2 h6
          have HG := Lib.hid hgt
          clear hgt hsame hws
          go_wp2
          go_loopw [10] (fun i wr => ∃ (j : Nat), i = .int .i64 j ∧ j ≤ L ∧ EW w wr m (kC (1 + (a : Int))) 0 w1.heap.size s' ∧ Blk wr wb (u64s s0.ws) 37) (fun i _ => L - (intOf i).toNat)
          case atStart => exact ⟨0, rfl, by omega, hW, hB⟩
          case round =>
            clear hW hB hEc
            obtain ⟨j4, rfl, hj4, hW, hB⟩ := hrel
            by_cases hlt4 : j4 < L
            · have hEc := hW.env.cell
              go_wp2_with fail
              refine (kind_any (kC (1 + (a : Int))) HK.out _ (by omega) (by omega) _).mono ?_
              rintro e w4 ⟨rfl, ho4⟩
              have hW4 : EW w w4 m (kC (1 + (a : Int))) 0 w1.heap.size s' := ⟨hW.mem.only ho4 (by simp) (by simp) (by simp), hW.env.only ho4 (by simp), hW.only.trans' ho4 (fun _ h _ => h)⟩
              have hB4 := hB.only ho4 (by simp)
              clear hW hB hEc
              have hWd := hW4.drew
              have hBd := hB4.drew
              by_cases u2 : (kindOf (kC (1 + (a : Int))) (j4 : Int)).1 = 2
              · go_wp2
                refine qc_enter (fun w' => EW w w' m (kC (1 + (a : Int))) 0 w1.heap.size s' ∧ Blk w' wb (u64s s0.ws) 37) (by kernel_rfl) (by kernel_rfl) ?_ ?_
                focus (exact ⟨hWd, hBd⟩)
                repeat (first
                  | go_big_quiet_skip
                  | (go_big_quiet_want
                     apply Exists.intro
                     refine ⟨fun wq hq => ?_, ?_⟩
                     focus
                       (obtain ⟨hq1, hq2⟩ := hq; have hc2 := hq1.env.cell)
                       unfold Oper.quietAt
                       go_simp
                       (first
                         | done
                         | with_reducible exact rfl
                         | with_reducible exact ⟨rfl, rfl⟩
                         | (fail))
                     (try simp only [Act.put, List.setIfInBounds_toArray, List.set_cons_zero, List.set_cons_succ])
                     go_big_quiet_on))
                refine wpQuiet_nil ?_
                intro wq hq
                obtain ⟨hq1, hq2⟩ := hq
                go_wp2
                go_roundw
                case rel => exact ⟨j4 + 1, by go_num, by omega, hq1, hq2⟩
                case measure => simp [intOf]; omega
              · by_cases u6 : (kindOf (kC (1 + (a : Int))) (j4 : Int)).1 = 6
                · go_wp2
                  refine qc_enter (fun w' => EW w w' m (kC (1 + (a : Int))) 0 w1.heap.size s' ∧ Blk w' wb (u64s s0.ws) 37) (by kernel_rfl) (by kernel_rfl) ?_ ?_
                  focus (exact ⟨hWd, hBd⟩)
                  repeat (first
                    | go_big_quiet_skip
                    | (go_big_quiet_want
                       apply Exists.intro
                       refine ⟨fun wq hq => ?_, ?_⟩
                       focus
                         (obtain ⟨hq1, hq2⟩ := hq; have hc2 := hq1.env.cell)
                         unfold Oper.quietAt
                         go_simp
                         (first
                           | done
                           | with_reducible exact rfl
                           | with_reducible exact ⟨rfl, rfl⟩
                           | (fail))
                       (try simp only [Act.put, List.setIfInBounds_toArray, List.set_cons_zero, List.set_cons_succ])
                       go_big_quiet_on))
                  refine wpQuiet_nil ?_
                  intro wq hq
                  obtain ⟨hq1, hq2⟩ := hq
                  go_wp2
                  go_roundw
                  case rel => exact ⟨j4 + 1, by go_num, by omega, hq1, hq2⟩
                  case measure => simp [intOf]; omega
                · have v2 : ((kindOf (kC (1 + (a : Int))) (j4 : Int)).1 != 2) = true := by simpa using u2
                  have v6 : ((kindOf (kC (1 + (a : Int))) (j4 : Int)).1 != 6) = true := by simpa using u6
                  have hpk : ∀ w', MemR w' m s' → Calls Try.prog 44 #[.pointer (some ⟨m.b, 0, none⟩), .int .i64 j4] w' fun e w2 => e = .returned (.int .u64 (s0.ws.getD j4 0)) ∧ w' = w2 := fun w' h => by
                    have := peek_any (a := (j4 : Int)) h
                    rw [HG.out j4 hlt4 u2 u6] at this
                    exact this
                  clear u2 u6
                  go_wp2
                  refine qc_enter (fun w' => EW w w' m (kC (1 + (a : Int))) 0 w1.heap.size s' ∧ Blk w' wb (u64s s0.ws) 37) (by kernel_rfl) (by kernel_rfl) ?_ ?_
                  focus (exact ⟨hWd, hBd⟩)
                  repeat (first
                    | go_big_quiet_skip
                    | (go_big_quiet_want
                       apply Exists.intro
                       refine ⟨fun wq hq => ?_, ?_⟩
                       focus
                         (obtain ⟨hq1, hq2⟩ := hq; have hc2 := hq1.env.cell; have hcj : wq.cell? ⟨wb, j4, none⟩ = some (.int .u64 (s0.ws.getD j4 0)) := (by rw [hq2.cell, u64s_get _ _ (by rw [← HL.out]; omega)]))
                         unfold Oper.quietAt
                         go_simp
                         (first
                           | done
                           | with_reducible exact rfl
                           | with_reducible exact ⟨rfl, rfl⟩
                           | ((go_at_call 44; with_reducible refine (hpk _ hq1.mem).mono ?_; rintro e w' ⟨rfl, rfl⟩; exact ⟨rfl, hq1, hq2⟩)))
                       (try simp only [Act.put, List.setIfInBounds_toArray, List.set_cons_zero, List.set_cons_succ])
                       go_big_quiet_on))
                  refine wpQuiet_nil ?_
                  intro wq hq
                  obtain ⟨hq1, hq2⟩ := hq
                  go_wp2
                  go_roundw
                  case rel => exact ⟨j4 + 1, by go_num, by omega, hq1, hq2⟩
                  case measure => simp [intOf]; omega
            · go_wp2
              go_ret
              exact ⟨rfl, hW.only⟩

end Go.Proofs.Yteoimmjgnflmmaa
