/-
  PlaceSteps, walked.
-/
import Derived.Test.YteoimmjgnflmmaaPlA
import Derived.Test.YteoimmjgnflmmaaLawSs
namespace Go.Proofs.Yteoimmjgnflmmaa
open Go.RowKit Go.BigFrame

def kQ (n : Int) : Cfg := ⟨1, 1, n, 20, 100, 600, 3⟩
theorem kQ_ok {n : Int} (n0 : 1 ≤ n) (n1 : n ≤ 64) : (kQ n).Ok := by
  unfold kQ
  constructor <;> simp only <;> omega
theorem kQ_kind {n : Int} (n0 : 1 ≤ n) (n1 : n ≤ 64) {a : Int} (h : (∃ c, (c = 0 ∨ c = 1 ∨ c = 2 ∨ c = 3) ∧ a = 2 + c) ∨ (∃ i, 0 ≤ i ∧ i < n ∧ a = aChunk (kQ n) i)) : ((kindOf (kQ n) a).1 = 2 ∨ (kindOf (kQ n) a).1 = 6) ∧ 0 ≤ a ∧ a ≤ 1000 := by
  rcases h with ⟨c, hc, rfl⟩ | ⟨i, h0, h1, rfl⟩
  · refine ⟨.inl ?_, by omega, by omega⟩
    unfold kindOf
    rw [if_neg (by omega), if_neg (by omega), if_neg (by omega), if_pos (by omega)]
  · have e : aChunk (kQ n) i = 9 + 3 * i := by
      rw [aChunk_ok (kQ_ok n0 n1) h0 (by omega)]
      show 6 + 1 + 2 * 1 + 3 * i = _
      omega
    refine ⟨.inr ?_, by omega, by omega⟩
    rw [e]
    unfold kindOf kQ
    simp only
    rw [if_neg (by omega), if_neg (by omega), if_neg (by omega), if_neg (by omega), if_neg (by omega), if_neg (by omega), if_pos (by omega)]
    simp only
    omega

set_option maxRecDepth 100000 in
set_option maxHeartbeats 3200000 in
theorem psteps_walk (chunks : Int) (_hs : I64 chunks) (A : Option Addr) (n c : Nat) (xs : List Int) (_hx : ∀ x ∈ xs, I64 x) (w : World) (hS : Slc (Value.int .i64) w A n xs) : Calls Try.prog 25 #[.int .i64 chunks, .slice A n c] w fun e w' => e = .returned (.bool true) ∧ Only [] w w' := by
  obtain ⟨a, ha, hsl⟩ := iand7n chunks
  have hmost := hS.most
  unfold maxLen at hmost
  have hk : (kQ (1 + (a : Int))).Ok := kQ_ok (by omega) (by omega)
  have h60 : (kQ (1 + (a : Int))).s ≤ 60000 := by show (1 : Int) ≤ 60000; decide
  have HK := Lib.hid hk
  have H60 := Lib.hid h60
  have hfd := field66
  clear hk h60
  go_enter Try.func25, Try.ntmps25
  go_wp2_with fail
  refine (arena_yes (kQ (1 + (a : Int))) HK.out rfl rfl rfl _).mono ?_
  rintro e w1 ⟨m, rfl, hm1, hn1, ho1⟩
  obtain ⟨hl1, hl2, hl3⟩ := hm1.lts
  obtain ⟨hn1, hn2, hn3⟩ := hn1
  have hz := ho1.size
  have hnx : w1.heap.size ∉ m.l := hm1.notin (Nat.le_refl _)
  have hP := Lib.hid (fresh_PM HK.out H60.out (n := 1 + a) (by show 1 + (a : Int) = _; omega) hm1.rng)
  have hW : EW w (w1.alloc (.cells #[.int .i64 (kQ (1 + (a : Int))).t, .int .i64 (kQ (1 + (a : Int))).s, .int .i64 (kQ (1 + (a : Int))).c, .int .i64 (kQ (1 + (a : Int))).w, .int .i64 (kQ (1 + (a : Int))).g, .int .i64 (kQ (1 + (a : Int))).p, .int .i64 (kQ (1 + (a : Int))).r, .pointer (some ⟨m.b, 0, none⟩), .int .i64 0] 47)) m (kQ (1 + (a : Int))) 0 w1.heap.size (freshS (kQ (1 + (a : Int)))) := ⟨hm1.alloc _, Blk.new _ _ _, ho1.alloc _⟩
  clear hm1 ho1
  go_wp2_with fail
  refine (awake7 _).mono ?_
  rintro e w2 ⟨rfl, ho2⟩
  have hWb : EW w w2 m (kQ (1 + (a : Int))) 0 w1.heap.size (freshS (kQ (1 + (a : Int)))) := ⟨hW.mem.only ho2 (by simp) (by simp) (by simp), hW.env.only ho2 (by simp), hW.only.trans' ho2 (fun _ h _ => h)⟩
  clear hW ho2
  go_wp2
  go_loopw [8] (fun i wr => ∃ (j : Nat) (s : MS), i = .int .i64 j ∧ j ≤ 20 ∧ j ≤ n ∧ PM (kQ (1 + (a : Int))) (1 + a) s ∧ EW w wr m (kQ (1 + (a : Int))) 0 w1.heap.size s) (fun i _ => 20 - (intOf i).toNat)
  case atStart => exact ⟨0, _, rfl, by omega, by omega, hP.out, hWb⟩
  case round =>
    clear hWb
    obtain ⟨j, s, rfl, hj, hjn, hM, hW⟩ := hrel
    have HM := Lib.hid hM
    clear hM
    by_cases hlt : j < n
    · by_cases h20 : j < 20
      · have hz3 := hW.only.size
        have he3 := hW.env.lt
        obtain ⟨k1, k2, k3⟩ := hW.mem.lts
        obtain ⟨bb, off, rfl, hbb, _⟩ := hS.cells (by omega)
        obtain ⟨bb', off', hadr, _, hcell⟩ := (hS.only hW.only).cells (by omega)
        cases hadr
        have hcj := hcell j hlt
        clear hcell
        obtain ⟨z, hz4⟩ : ∃ z, xs.getD j default = z := ⟨_, rfl⟩
        rw [hz4] at hcj
        clear hz4
        obtain ⟨d, hd, hzd⟩ := iand3n z
        obtain ⟨tb, htb⟩ : ∃ tb, wr.heap.size = tb := ⟨_, rfl⟩
        have hA : EA w m w1.heap.size tb := ⟨hn1, hn2, hn3, by omega, hnx, by omega, by omega, by omega, by omega⟩
        have hO : EO w (wr.alloc (.cells (pl0 d).cs 145)) m (kQ (1 + (a : Int))) 0 w1.heap.size s tb (pl0 d).cs 145 := EO.mk (hW.alloc (.cells (pl0 d).cs 145)) (htb ▸ Blk.new wr (pl0 d).cs 145)
        have hI : PI (1 + a) (pl0 d) := pl0_PI (by omega)
        have n1 := hA.t1
        have n2 := hA.t2
        have n3 := hA.t3
        clear hW k1 k2 k3 he3 hz3
        go_wp2_with (first | (go_at_call 84; refine (plnew_any _ _).mono ?_; rintro e w' ⟨rfl, rfl⟩))
        go_loopw [10] (fun x wr => ∃ (q : Nat) (s : MS) (p : PlS), x = .int .i64 q ∧ q ≤ 60 ∧ PM (kQ (1 + (a : Int))) (1 + a) s ∧ PI (1 + a) p ∧ EO w wr m (kQ (1 + (a : Int))) 0 w1.heap.size s tb p.cs 145) (fun x _ => 60 - (intOf x).toNat)
        case atStart => exact ⟨0, s, pl0 d, rfl, by omega, HM.out, hI, hO⟩
        case round =>
          clear hO hI hcj
          obtain ⟨q, s, p, rfl, hq60, hM, hI, hO⟩ := hrel
          by_cases hltq : q < 60
          · rcases hst : placeStep (kQ (1 + (a : Int))) 0 s p with ⟨b, s2, p2⟩
            obtain ⟨t1, t2, _, hM2, hI2, _, _⟩ := place_law HK.out hM hI hst
            have hkd := kQ_kind (n := 1 + (a : Int)) (by omega) (by omega) (a := s2.la) (t2.elim (fun h => .inl ⟨p.cl, hI.cl, h⟩) (fun ⟨i, h0, h1, h2⟩ => .inr ⟨i, h0, by omega, h2⟩))
            obtain ⟨hkd, hla0, hla1⟩ := hkd
            have TS := Lib.hid (t1.trans (IntWalk.i64_left _).symm)
            have HLA := Lib.hid (show -9223372036854775808 ≤ s2.la ∧ s2.la < 9223372036854775808 from ⟨by omega, by omega⟩)
            have HS := Lib.hid hst
            have HI := Lib.hid hI
            have HM := Lib.hid hM
            have HI2 := Lib.hid hI2
            have HM2 := Lib.hid hM2
            have HO := Lib.hid hO
            have hEc := hO.ew.env.cell
            clear hst hI hM hI2 hM2 t1 t2 hO hla0 hla1
            go_wp2_with fail
            refine (now_env (kQ (1 + (a : Int))) 0 HO.out.ew.mem).mono ?_
            rintro e wa ⟨rfl, rfl⟩
            have HOa := Lib.hid (HO.out.alloc (.cells #[.int .i64 (kQ (1 + (a : Int))).t, .int .i64 (kQ (1 + (a : Int))).s, .int .i64 (kQ (1 + (a : Int))).c, .int .i64 (kQ (1 + (a : Int))).w, .int .i64 (kQ (1 + (a : Int))).g, .int .i64 (kQ (1 + (a : Int))).p, .int .i64 (kQ (1 + (a : Int))).r, .pointer (some ⟨m.b, 0, none⟩), .int .i64 0] 47))
            clear hEc HO
            have hEc := HOa.out.ew.env.cell
            go_wp2_with fail
            refine (place_step tb HK.out HM.out HI.out HS.out HOa.out.ew.mem HOa.out.ob n1 n2 n3).mono ?_
            rintro e wb ⟨rfl, h1, h2, h3⟩
            have HOb := Lib.hid (HOa.out.step hA h1 h2 h3)
            clear hEc h1 h2 h3 HOa
            have hEc := HOb.out.ew.env.cell
            rcases hkd with hkd | hkd
            · skip
              have hWd := HOb.out.drew
              clear hEc
              have hEc := hWd.ew.env.cell
              go_wp2
              refine qc_enter (fun w' => EO w w' m (kQ (1 + (a : Int))) 0 w1.heap.size s2 tb p2.cs 145) (by kernel_rfl) (by kernel_rfl) ?_ ?_
              focus (exact hWd)
              repeat (first
                | go_big_quiet_skip
                | (go_big_quiet_want
                   apply Exists.intro
                   refine ⟨fun wq hq => ?_, ?_⟩
                   focus
                     (have hc2 := hq.ew.env.cell)
                     unfold Oper.quietAt
                     go_simp
                     (first
                       | done
                       | with_reducible exact rfl
                       | with_reducible exact ⟨rfl, rfl⟩
                       | (first | (go_at_call 62; refine (last_any hq.ew.mem).mono ?_; rintro e w' ⟨rfl, ho⟩; exact ⟨rfl, hq.only0 ho⟩) | (go_at_call 42; refine (kind_any (kQ (1 + (a : Int))) HK.out _ HLA.out.1 HLA.out.2 _).mono ?_; rintro e w' ⟨rfl, ho⟩; exact ⟨rfl, hq.only0 ho⟩)))
                   (try simp only [Act.put, List.setIfInBounds_toArray, List.set_cons_zero, List.set_cons_succ])
                   go_big_quiet_on))
              refine wpQuiet_nil ?_
              intro wq hq
              have HQ := Lib.hid hq
              clear hq hWd hEc
              have hEc := HQ.out.ew.env.cell
              have hst := TS.out
              cases b
              · go_wp2_with (first | (go_at_call 61; refine (now_env (kQ (1 + (a : Int))) 0 HQ.out.ew.mem).mono ?_; rintro e w' ⟨rfl, rfl⟩))
                have HO2 := Lib.hid (HQ.out.alloc (.cells #[.int .i64 (kQ (1 + (a : Int))).t, .int .i64 (kQ (1 + (a : Int))).s, .int .i64 (kQ (1 + (a : Int))).c, .int .i64 (kQ (1 + (a : Int))).w, .int .i64 (kQ (1 + (a : Int))).g, .int .i64 (kQ (1 + (a : Int))).p, .int .i64 (kQ (1 + (a : Int))).r, .pointer (some ⟨m.b, 0, none⟩), .int .i64 0] 47))
                go_roundw
                case rel => exact ⟨q + 1, s2, p2, by go_num, by omega, HM2.out, HI2.out (by first | rfl | trivial), HO2.out⟩
                case measure => simp [intOf]; omega
              · go_wp2_with (first | (go_at_call 61; refine (now_env (kQ (1 + (a : Int))) 0 HQ.out.ew.mem).mono ?_; rintro e w' ⟨rfl, rfl⟩))
                have HO2 := Lib.hid (HQ.out.alloc (.cells #[.int .i64 (kQ (1 + (a : Int))).t, .int .i64 (kQ (1 + (a : Int))).s, .int .i64 (kQ (1 + (a : Int))).c, .int .i64 (kQ (1 + (a : Int))).w, .int .i64 (kQ (1 + (a : Int))).g, .int .i64 (kQ (1 + (a : Int))).p, .int .i64 (kQ (1 + (a : Int))).r, .pointer (some ⟨m.b, 0, none⟩), .int .i64 0] 47))
                go_roundw
                case rel => exact ⟨j + 1, s2, by go_num, by omega, by omega, HM2.out, HO2.out.ew⟩
                case measure => simp [intOf]; omega
            · skip
              have hWd := HOb.out.drew
              clear hEc
              have hEc := hWd.ew.env.cell
              go_wp2
              refine qc_enter (fun w' => EO w w' m (kQ (1 + (a : Int))) 0 w1.heap.size s2 tb p2.cs 145) (by kernel_rfl) (by kernel_rfl) ?_ ?_
              focus (exact hWd)
              repeat (first
                | go_big_quiet_skip
                | (go_big_quiet_want
                   apply Exists.intro
                   refine ⟨fun wq hq => ?_, ?_⟩
                   focus
                     (have hc2 := hq.ew.env.cell)
                     unfold Oper.quietAt
                     go_simp
                     (first
                       | done
                       | with_reducible exact rfl
                       | with_reducible exact ⟨rfl, rfl⟩
                       | (first | (go_at_call 62; refine (last_any hq.ew.mem).mono ?_; rintro e w' ⟨rfl, ho⟩; exact ⟨rfl, hq.only0 ho⟩) | (go_at_call 42; refine (kind_any (kQ (1 + (a : Int))) HK.out _ HLA.out.1 HLA.out.2 _).mono ?_; rintro e w' ⟨rfl, ho⟩; exact ⟨rfl, hq.only0 ho⟩)))
                   (try simp only [Act.put, List.setIfInBounds_toArray, List.set_cons_zero, List.set_cons_succ])
                   go_big_quiet_on))
              refine wpQuiet_nil ?_
              intro wq hq
              have HQ := Lib.hid hq
              clear hq hWd hEc
              have hEc := HQ.out.ew.env.cell
              have hst := TS.out
              cases b
              · go_wp2_with (first | (go_at_call 61; refine (now_env (kQ (1 + (a : Int))) 0 HQ.out.ew.mem).mono ?_; rintro e w' ⟨rfl, rfl⟩))
                have HO2 := Lib.hid (HQ.out.alloc (.cells #[.int .i64 (kQ (1 + (a : Int))).t, .int .i64 (kQ (1 + (a : Int))).s, .int .i64 (kQ (1 + (a : Int))).c, .int .i64 (kQ (1 + (a : Int))).w, .int .i64 (kQ (1 + (a : Int))).g, .int .i64 (kQ (1 + (a : Int))).p, .int .i64 (kQ (1 + (a : Int))).r, .pointer (some ⟨m.b, 0, none⟩), .int .i64 0] 47))
                go_roundw
                case rel => exact ⟨q + 1, s2, p2, by go_num, by omega, HM2.out, HI2.out (by first | rfl | trivial), HO2.out⟩
                case measure => simp [intOf]; omega
              · go_wp2_with (first | (go_at_call 61; refine (now_env (kQ (1 + (a : Int))) 0 HQ.out.ew.mem).mono ?_; rintro e w' ⟨rfl, rfl⟩))
                have HO2 := Lib.hid (HQ.out.alloc (.cells #[.int .i64 (kQ (1 + (a : Int))).t, .int .i64 (kQ (1 + (a : Int))).s, .int .i64 (kQ (1 + (a : Int))).c, .int .i64 (kQ (1 + (a : Int))).w, .int .i64 (kQ (1 + (a : Int))).g, .int .i64 (kQ (1 + (a : Int))).p, .int .i64 (kQ (1 + (a : Int))).r, .pointer (some ⟨m.b, 0, none⟩), .int .i64 0] 47))
                go_roundw
                case rel => exact ⟨j + 1, s2, by go_num, by omega, by omega, HM2.out, HO2.out.ew⟩
                case measure => simp [intOf]; omega
          · go_wp2
            go_roundw
            case rel => exact ⟨j + 1, s, by go_num, by omega, by omega, hM, hO.ew⟩
            case measure => simp [intOf]; omega
      · skip
        go_wp2_with (first | (go_at_call 92; refine (spot_nil _).mono ?_; rintro e w3 ⟨rfl, ho3⟩))
        go_ret
        exact ⟨rfl, ((hW.only.trans' ho3 (fun _ h _ => h)).alloc _)⟩
    · skip
      go_wp2_with (first | (go_at_call 92; refine (spot_nil _).mono ?_; rintro e w3 ⟨rfl, ho3⟩))
      go_ret
      exact ⟨rfl, ((hW.only.trans' ho3 (fun _ h _ => h)).alloc _)⟩

end Go.Proofs.Yteoimmjgnflmmaa
