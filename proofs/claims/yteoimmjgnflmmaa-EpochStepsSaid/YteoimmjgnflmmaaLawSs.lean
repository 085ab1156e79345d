/-
  SlotSteps, walked.
-/
import Derived.Test.YteoimmjgnflmmaaLawSa
namespace Go.Proofs.Yteoimmjgnflmmaa
open Go.RowKit Go.BigFrame

theorem take_touch {k : Cfg} {wh : Int} {s s' : MS} {p p' : TakeS} {b : Bool} (h1 : s.ok 1) (hL : p.pc = 1 → s.ok (aLink k p.slot)) (hst : takeStep k wh s p = (b, s', p')) :
    s'.steps = wrap64 (s.steps + 1) ∧ s'.la = if p.pc = 1 then aLink k p.slot else 1 := by
  have h1' : (s.by wh).ok 1 := h1
  unfold takeStep at hst
  split at hst
  · rename_i h
    simp only [Prod.mk.injEq] at hst
    obtain ⟨rfl, rfl, rfl⟩ := hst
    rw [load_steps _ h1', if_neg (by omega)]
    refine ⟨rfl, ?_⟩
    unfold MS.load
    rw [if_pos h1']
    rfl
  · split at hst
    · rename_i h h2
      simp only [Prod.mk.injEq] at hst
      obtain ⟨rfl, rfl, rfl⟩ := hst
      have hL' : (s.by wh).ok (aLink k p.slot) := hL h2
      rw [load_steps _ hL', if_pos h2]
      refine ⟨rfl, ?_⟩
      unfold MS.load
      rw [if_pos hL']
      rfl
    · rename_i h h2
      simp only [Prod.mk.injEq] at hst
      obtain ⟨_, rfl, _⟩ := hst
      rw [cas_steps _ h1', if_neg h2]
      refine ⟨rfl, ?_⟩
      unfold MS.cas
      rw [if_pos h1']
      split <;> rfl

set_option maxHeartbeats 400000 in
theorem tslot_nil (w : World) : Calls Try.prog 66 #[.pointer none] w fun e w' => e = .returned (.tuple #[.int .i64 0, .bool false]) ∧ w = w' := by
  go_enter Try.func66, Try.ntmps66
  go_wp2
  go_ret2
  exact ⟨rfl, rfl⟩
theorem field66 : ∀ (la lw : Int) (ch : Bool) (w : World), (Instr.field 66 (.agg #[.int .i64 la, .int .i64 lw, .bool ch]) 0).run Try.prog w = .ok (.int .i64 la) w := fun _ _ _ _ => by kernel_rfl

section
variable {w wr w1 : World} {m : MB} {k : Cfg} {wh : Int} {eb tb T : Nat} {s s' : MS} {cs cs' : Array Value}
theorem EO.alloc (h : EO w wr m k wh eb s tb cs T) (o : Obj) : EO w (wr.alloc o) m k wh eb s tb cs T := ⟨h.ew.alloc o, h.ob.alloc o⟩
theorem EO.only0 (h : EO w wr m k wh eb s tb cs T) (ho : Only [] wr w1) : EO w w1 m k wh eb s tb cs T :=
  ⟨⟨h.ew.mem.only ho (by simp) (by simp) (by simp), h.ew.env.only ho (by simp), h.ew.only.trans' ho (fun _ h _ => h)⟩, h.ob.only ho (by simp)⟩
end

set_option maxRecDepth 100000 in
set_option maxHeartbeats 3200000 in
theorem ssteps_walk (slots : Int) (_hs : I64 slots) (A : Option Addr) (n c : Nat) (xs : List Bool) (w : World) (hS : Slc Value.bool w A n xs) : Calls Try.prog 19 #[.int .i64 slots, .slice A n c] w fun e w' => e = .returned (.bool true) ∧ Only [] w w' := by
  obtain ⟨a, ha, hsl⟩ := iand15n slots
  have hmost := hS.most
  unfold maxLen at hmost
  have hk : (kS 1 (1 + (a : Int))).Ok := kS_ok (by decide) (by decide) (by omega) (by omega)
  have h60 : (kS 1 (1 + (a : Int))).s ≤ 60000 := by show 1 + (a : Int) ≤ 60000; omega
  have hf0 := fresh_fr hk h60 (n := 1 + a) (by show 1 + (a : Int) = _; omega)
  have hat1 : topN ((freshS (kS 1 (1 + (a : Int)))).at 1) = 0 := by rw [fresh_top hk h60]; decide
  have has : aSlot (kS 1 (1 + (a : Int))) 0 = 7 := by rw [aSlot_ok hk (by decide) (by decide)]; rfl
  have hac : aChunk (kS 1 (1 + (a : Int))) 0 = 9 + 2 * (a : Int) := by
    rw [aChunk_ok hk (by decide) (by decide)]
    show 6 + 1 + 2 * (1 + (a : Int)) + 3 * 0 = _
    omega
  have hal : ∀ x : Int, 0 ≤ x → x < ((1 + a : Nat) : Int) → aLink (kS 1 (1 + (a : Int))) x = 8 + 2 * x := fun x h0 h1 => by
    rw [aLink_ok hk h0 (by omega)]
    show 7 + 1 + 2 * x = _
    omega
  have HAL := Lib.hid hal
  have HK := Lib.hid hk
  have HF0 := Lib.hid hf0
  have HT0 := Lib.hid hat1
  clear hf0 hat1 h60 hk hal
  have hfd := field66
  go_enter Try.func19, Try.ntmps19
  go_wp2_with fail
  refine (arena_yes (kS 1 (1 + (a : Int))) HK.out rfl rfl rfl _).mono ?_
  rintro e w1 ⟨m, rfl, hm1, hn1, ho1⟩
  obtain ⟨hl1, hl2, hl3⟩ := hm1.lts
  obtain ⟨hn1, hn2, hn3⟩ := hn1
  have hz := ho1.size
  have hnx : w1.heap.size ∉ m.l := hm1.notin (Nat.le_refl _)
  have hlm : ∀ x, x ∈ m.l → x < w.heap.size → x ∈ ([] : List Nat) := fun x hx hlt => by
    simp only [List.mem_cons, List.not_mem_nil, or_false] at hx; omega
  have hW : EW w (w1.alloc (.cells #[.int .i64 (kS 1 (1 + (a : Int))).t, .int .i64 (kS 1 (1 + (a : Int))).s, .int .i64 (kS 1 (1 + (a : Int))).c, .int .i64 (kS 1 (1 + (a : Int))).w, .int .i64 (kS 1 (1 + (a : Int))).g, .int .i64 (kS 1 (1 + (a : Int))).p, .int .i64 (kS 1 (1 + (a : Int))).r, .pointer (some ⟨m.b, 0, none⟩), .int .i64 0] 47)) m (kS 1 (1 + (a : Int))) 0 w1.heap.size (freshS (kS 1 (1 + (a : Int)))) := ⟨hm1.alloc _, Blk.new _ _ _, ho1.alloc _⟩
  clear hm1 ho1
  go_wp2_with fail
  refine (awake6 _).mono ?_
  rintro e w2 ⟨rfl, ho2⟩
  have hWb : EW w w2 m (kS 1 (1 + (a : Int))) 0 w1.heap.size (freshS (kS 1 (1 + (a : Int)))) := ⟨hW.mem.only ho2 (by simp) (by simp) (by simp), hW.env.only ho2 (by simp), hW.only.trans' ho2 (fun _ h _ => h)⟩
  clear hW ho2
  go_wp2
  go_loopw [8] (fun i wr => ∃ (j : Nat) (s : MS) (l : List Int), i = .int .i64 j ∧ j ≤ 20 ∧ j ≤ n ∧ Fr (kS 1 (1 + (a : Int))) (1 + a) s l ∧ topN (s.at 1) ≤ 2 * j ∧ EW w wr m (kS 1 (1 + (a : Int))) 0 w1.heap.size s) (fun i _ => 20 - (intOf i).toNat)
  case atStart => exact ⟨0, _, _, rfl, by omega, by omega, HF0.out, by rw [HT0.out]; decide, hWb⟩
  case round =>
    clear hWb
    obtain ⟨j, s, l, rfl, hj, hjn, hf, htn, hW⟩ := hrel
    have HF := Lib.hid hf
    have HTN := Lib.hid htn
    have hEc := hW.env.cell
    clear hf htn
    by_cases hlt : j < n
    · by_cases h20 : j < 20
      · have hz3 := hW.only.size
        have he3 := hW.env.lt
        obtain ⟨k1, k2, k3⟩ := hW.mem.lts
        obtain ⟨tb, htb⟩ : ∃ tb, wr.heap.size = tb := ⟨_, rfl⟩
        have hA : EA w m w1.heap.size tb := ⟨hn1, hn2, hn3, by omega, hnx, by omega, by omega, by omega, by omega⟩
        have hO : EO w (wr.alloc (.cells #[.int .i64 0, .int .u64 0, .int .i64 0, .int .i64 0, .bool false] 72)) m (kS 1 (1 + (a : Int))) 0 w1.heap.size s tb (⟨0, 0, 0, 0, false⟩ : TakeS).cs 72 := EO.mk (hW.alloc (.cells (⟨0, 0, 0, 0, false⟩ : TakeS).cs 72)) (htb ▸ Blk.new wr (⟨0, 0, 0, 0, false⟩ : TakeS).cs 72)
        have HO := Lib.hid hO
        have n1 := hA.t1
        have n2 := hA.t2
        have n3 := hA.t3
        clear hW hO hEc k1 k2 k3 he3 hz3
        have hEc := HO.out.ew.env.cell
        cases l with
        | nil =>
          have hok1 := HF.out.ok1 HK.out
          have hd : decide (topS (s.get 1) < 0) = true := decide_eq_true (by rw [get_ok _ _ hok1, HF.out.nil]; decide)
          have hq : takeStep (kS 1 (1 + (a : Int))) 0 s ⟨0, 0, 0, 0, false⟩ = (true, (s.by 0).load 1, ⟨1, s.get 1, 0, topS (s.get 1), false⟩) := by
            unfold takeStep
            rw [if_pos rfl, hd]
          obtain ⟨t1, t2⟩ := take_touch hok1 (by simp) hq
          have Q := Lib.hid hq
          have T1 := Lib.hid ((t1.trans (IntWalk.i64_left _).symm) : ((s.by 0).load 1).steps = IntKind.i64.wrap (s.steps + 1))
          have T2 := Lib.hid (t2 : ((s.by 0).load 1).la = 1)
          clear hok1 hd hq t1 t2
          go_wp2
          refine wp_loop_rounds 2 ?_
          rw [rounds_succ]
          go_wp2_with fail
          refine (now_env (kS 1 (1 + (a : Int))) 0 HO.out.ew.mem).mono ?_
          rintro e wa ⟨rfl, rfl⟩
          have HOa := Lib.hid (HO.out.alloc (.cells #[.int .i64 (kS 1 (1 + (a : Int))).t, .int .i64 (kS 1 (1 + (a : Int))).s, .int .i64 (kS 1 (1 + (a : Int))).c, .int .i64 (kS 1 (1 + (a : Int))).w, .int .i64 (kS 1 (1 + (a : Int))).g, .int .i64 (kS 1 (1 + (a : Int))).p, .int .i64 (kS 1 (1 + (a : Int))).r, .pointer (some ⟨m.b, 0, none⟩), .int .i64 0] 47))
          clear hEc
          have hEc := HOa.out.ew.env.cell
          go_wp2_with fail
          refine (take_step (kS 1 (1 + (a : Int))) 0 _ tb Q.out HOa.out.ew.mem HOa.out.ob (.inl rfl) n1 n2 n3).mono ?_
          rintro e wb ⟨rfl, h1, h2, h3⟩
          have HOb := Lib.hid (HOa.out.step hA h1 h2 h3)
          clear hEc h1 h2 h3 HOa
          have hEc := HOb.out.ew.env.cell
          go_wp2_with fail
          refine (last_any HOb.out.ew.mem).mono ?_
          rintro e wc ⟨rfl, hoc⟩
          have HO1 := Lib.hid (HOb.out.only0 hoc)
          clear hEc hoc HOb
          have hEc := HO1.out.ew.env.cell
          have hst := T1.out
          have hla := T2.out
          go_wp2_with (first | (go_at_call 61; refine (now_env (kS 1 (1 + (a : Int))) 0 HO1.out.ew.mem).mono ?_; rintro e w' ⟨rfl, rfl⟩) | (go_at_call 46; refine (topa_any _).mono ?_; rintro e w' ⟨rfl, rfl⟩))
          have HO := Lib.hid (HO1.out.alloc (.cells #[.int .i64 (kS 1 (1 + (a : Int))).t, .int .i64 (kS 1 (1 + (a : Int))).s, .int .i64 (kS 1 (1 + (a : Int))).c, .int .i64 (kS 1 (1 + (a : Int))).w, .int .i64 (kS 1 (1 + (a : Int))).g, .int .i64 (kS 1 (1 + (a : Int))).p, .int .i64 (kS 1 (1 + (a : Int))).r, .pointer (some ⟨m.b, 0, none⟩), .int .i64 0] 47))
          clear hEc hst hla HO1
          refine (tslot_any _ _ HO.out.ob).mono ?_
          rintro e w' ⟨rfl, rfl⟩
          go_wp2
          go_roundw
          case rel => exact ⟨j + 1, _, [], by go_num, by omega, by omega, HF.out.keep (by rw [load_ws]; rfl) (fun a _ => by rw [load_at, by_at]) HK.out (by omega), by rw [load_at, by_at]; have := HTN.out; omega, HO.out.ew⟩
          case measure => simp [intOf]; omega
        | cons x l =>
          have hr := HO.out.ew.mem.at_rng 1
          have htn := HTN.out
          have hx := HF.out.head_rg
          obtain ⟨hx0, hx1⟩ := hx
          have hok1 := HF.out.ok1 HK.out
          have hokL := HF.out.okL HK.out (by omega) hx0 hx1
          obtain ⟨s1, s2, s3, T, nx, q1, q2, q3, q4, q5, q6, hT, _, _, _⟩ := take_pure (k := (kS 1 (1 + (a : Int)))) (n := 1 + a) 0 HK.out (by omega) HF.out hr (by omega) 0 0 0
          have hs1w : s1.ws = s.ws := by
            have := congrArg (fun x => x.2.1) q1
            unfold takeStep at this
            rw [if_pos rfl] at this
            simp only at this
            rw [← this, load_ws]; rfl
          have hs2w : s2.ws = s.ws := by assumption
          have ok11 : s1.ok 1 := by unfold MS.ok; rw [hs1w]; exact hok1
          have ok1L : s1.ok (aLink (kS 1 (1 + (a : Int))) x) := by unfold MS.ok; rw [hs1w]; exact hokL
          have ok21 : s2.ok 1 := by unfold MS.ok; rw [hs2w]; exact hok1
          obtain ⟨t1, u1⟩ := take_touch hok1 (by simp) q1
          obtain ⟨t2, u2⟩ := take_touch ok11 (fun _ => ok1L) q2
          obtain ⟨t3, u3⟩ := take_touch ok21 (by simp) q3
          have Q1 := Lib.hid q1
          have Q2 := Lib.hid q2
          have Q3 := Lib.hid q3
          have Q5 := Lib.hid q5
          have Q6 := Lib.hid q6
          have HT := Lib.hid hT
          have T1 := Lib.hid (t1.trans (IntWalk.i64_left _).symm)
          have T2 := Lib.hid (t2.trans (IntWalk.i64_left _).symm)
          have T3 := Lib.hid (t3.trans (IntWalk.i64_left _).symm)
          have U1 := Lib.hid (u1 : s1.la = 1)
          have U2 := Lib.hid ((u2.trans (HAL.out x hx0 hx1)) : s2.la = 8 + 2 * x)
          have U3 := Lib.hid (u3 : s3.la = 1)
          have hxa : x < 1 + (a : Int) := by omega
          clear hr htn hok1 hokL q1 q2 q3 q5 q6 hT hs1w hs2w ok11 ok1L ok21 t1 t2 t3 u1 u2 u3 hx1
          go_wp2
          refine wp_loop_rounds 3 ?_
          rw [rounds_succ]
          go_wp2_with fail
          refine (now_env (kS 1 (1 + (a : Int))) 0 HO.out.ew.mem).mono ?_
          rintro e wa ⟨rfl, rfl⟩
          have HOa := Lib.hid (HO.out.alloc (.cells #[.int .i64 (kS 1 (1 + (a : Int))).t, .int .i64 (kS 1 (1 + (a : Int))).s, .int .i64 (kS 1 (1 + (a : Int))).c, .int .i64 (kS 1 (1 + (a : Int))).w, .int .i64 (kS 1 (1 + (a : Int))).g, .int .i64 (kS 1 (1 + (a : Int))).p, .int .i64 (kS 1 (1 + (a : Int))).r, .pointer (some ⟨m.b, 0, none⟩), .int .i64 0] 47))
          clear hEc
          have hEc := HOa.out.ew.env.cell
          go_wp2_with fail
          refine (take_step (kS 1 (1 + (a : Int))) 0 _ tb Q1.out HOa.out.ew.mem HOa.out.ob (.inl rfl) n1 n2 n3).mono ?_
          rintro e wb ⟨rfl, h1, h2, h3⟩
          have HOb := Lib.hid (HOa.out.step hA h1 h2 h3)
          clear hEc h1 h2 h3 HOa
          have hEc := HOb.out.ew.env.cell
          go_wp2_with fail
          refine (last_any HOb.out.ew.mem).mono ?_
          rintro e wc ⟨rfl, hoc⟩
          have HO1 := Lib.hid (HOb.out.only0 hoc)
          clear hEc hoc HOb
          have hEc := HO1.out.ew.env.cell
          have hst := T1.out
          have hla := U1.out
          go_wp2_with (first | (go_at_call 61; refine (now_env (kS 1 (1 + (a : Int))) 0 HO1.out.ew.mem).mono ?_; rintro e w' ⟨rfl, rfl⟩; have hEc9 := (HO1.out.alloc (.cells #[.int .i64 (kS 1 (1 + (a : Int))).t, .int .i64 (kS 1 (1 + (a : Int))).s, .int .i64 (kS 1 (1 + (a : Int))).c, .int .i64 (kS 1 (1 + (a : Int))).w, .int .i64 (kS 1 (1 + (a : Int))).g, .int .i64 (kS 1 (1 + (a : Int))).p, .int .i64 (kS 1 (1 + (a : Int))).r, .pointer (some ⟨m.b, 0, none⟩), .int .i64 0] 47)).ew.env.cell) | (go_at_call 46; refine (topa_any _).mono ?_; rintro e w' ⟨rfl, rfl⟩) | (go_at_call 49; refine (slota_any _ (kS 1 (1 + (a : Int))) _).mono ?_; rintro e w' ⟨rfl, rfl⟩; have hEc10 := ((HO1.out.alloc (.cells #[.int .i64 (kS 1 (1 + (a : Int))).t, .int .i64 (kS 1 (1 + (a : Int))).s, .int .i64 (kS 1 (1 + (a : Int))).c, .int .i64 (kS 1 (1 + (a : Int))).w, .int .i64 (kS 1 (1 + (a : Int))).g, .int .i64 (kS 1 (1 + (a : Int))).p, .int .i64 (kS 1 (1 + (a : Int))).r, .pointer (some ⟨m.b, 0, none⟩), .int .i64 0] 47)).alloc (.cells #[.int .i64 (kS 1 (1 + (a : Int))).t, .int .i64 (kS 1 (1 + (a : Int))).s, .int .i64 (kS 1 (1 + (a : Int))).c, .int .i64 (kS 1 (1 + (a : Int))).w, .int .i64 (kS 1 (1 + (a : Int))).g, .int .i64 (kS 1 (1 + (a : Int))).p, .int .i64 (kS 1 (1 + (a : Int))).r] 23)).ew.env.cell) | (go_at_call 50; refine (chunka_any _ (kS 1 (1 + (a : Int))) _).mono ?_; rintro e w' ⟨rfl, rfl⟩))
          have HO := Lib.hid (HO1.out.alloc (.cells #[.int .i64 (kS 1 (1 + (a : Int))).t, .int .i64 (kS 1 (1 + (a : Int))).s, .int .i64 (kS 1 (1 + (a : Int))).c, .int .i64 (kS 1 (1 + (a : Int))).w, .int .i64 (kS 1 (1 + (a : Int))).g, .int .i64 (kS 1 (1 + (a : Int))).p, .int .i64 (kS 1 (1 + (a : Int))).r, .pointer (some ⟨m.b, 0, none⟩), .int .i64 0] 47))
          clear hEc hst hla HO1
          have hEc := HO.out.ew.env.cell
          rw [rounds_succ]
          go_wp2_with fail
          refine (now_env (kS 1 (1 + (a : Int))) 0 HO.out.ew.mem).mono ?_
          rintro e wa ⟨rfl, rfl⟩
          have HOa := Lib.hid (HO.out.alloc (.cells #[.int .i64 (kS 1 (1 + (a : Int))).t, .int .i64 (kS 1 (1 + (a : Int))).s, .int .i64 (kS 1 (1 + (a : Int))).c, .int .i64 (kS 1 (1 + (a : Int))).w, .int .i64 (kS 1 (1 + (a : Int))).g, .int .i64 (kS 1 (1 + (a : Int))).p, .int .i64 (kS 1 (1 + (a : Int))).r, .pointer (some ⟨m.b, 0, none⟩), .int .i64 0] 47))
          clear hEc
          have hEc := HOa.out.ew.env.cell
          go_wp2_with fail
          refine (take_step (kS 1 (1 + (a : Int))) 0 _ tb Q2.out HOa.out.ew.mem HOa.out.ob (.inr (.inl rfl)) n1 n2 n3).mono ?_
          rintro e wb ⟨rfl, h1, h2, h3⟩
          have HOb := Lib.hid (HOa.out.step hA h1 h2 h3)
          clear hEc h1 h2 h3 HOa
          have hEc := HOb.out.ew.env.cell
          go_wp2_with fail
          refine (last_any HOb.out.ew.mem).mono ?_
          rintro e wc ⟨rfl, hoc⟩
          have HO1 := Lib.hid (HOb.out.only0 hoc)
          clear hEc hoc HOb
          have hEc := HO1.out.ew.env.cell
          have hst := T2.out
          have hla := U2.out
          go_wp2_with (first | (go_at_call 61; refine (now_env (kS 1 (1 + (a : Int))) 0 HO1.out.ew.mem).mono ?_; rintro e w' ⟨rfl, rfl⟩; have hEc9 := (HO1.out.alloc (.cells #[.int .i64 (kS 1 (1 + (a : Int))).t, .int .i64 (kS 1 (1 + (a : Int))).s, .int .i64 (kS 1 (1 + (a : Int))).c, .int .i64 (kS 1 (1 + (a : Int))).w, .int .i64 (kS 1 (1 + (a : Int))).g, .int .i64 (kS 1 (1 + (a : Int))).p, .int .i64 (kS 1 (1 + (a : Int))).r, .pointer (some ⟨m.b, 0, none⟩), .int .i64 0] 47)).ew.env.cell) | (go_at_call 46; refine (topa_any _).mono ?_; rintro e w' ⟨rfl, rfl⟩) | (go_at_call 49; refine (slota_any _ (kS 1 (1 + (a : Int))) _).mono ?_; rintro e w' ⟨rfl, rfl⟩; have hEc10 := ((HO1.out.alloc (.cells #[.int .i64 (kS 1 (1 + (a : Int))).t, .int .i64 (kS 1 (1 + (a : Int))).s, .int .i64 (kS 1 (1 + (a : Int))).c, .int .i64 (kS 1 (1 + (a : Int))).w, .int .i64 (kS 1 (1 + (a : Int))).g, .int .i64 (kS 1 (1 + (a : Int))).p, .int .i64 (kS 1 (1 + (a : Int))).r, .pointer (some ⟨m.b, 0, none⟩), .int .i64 0] 47)).alloc (.cells #[.int .i64 (kS 1 (1 + (a : Int))).t, .int .i64 (kS 1 (1 + (a : Int))).s, .int .i64 (kS 1 (1 + (a : Int))).c, .int .i64 (kS 1 (1 + (a : Int))).w, .int .i64 (kS 1 (1 + (a : Int))).g, .int .i64 (kS 1 (1 + (a : Int))).p, .int .i64 (kS 1 (1 + (a : Int))).r] 23)).ew.env.cell) | (go_at_call 50; refine (chunka_any _ (kS 1 (1 + (a : Int))) _).mono ?_; rintro e w' ⟨rfl, rfl⟩))
          have HO := Lib.hid (((HO1.out.alloc (.cells #[.int .i64 (kS 1 (1 + (a : Int))).t, .int .i64 (kS 1 (1 + (a : Int))).s, .int .i64 (kS 1 (1 + (a : Int))).c, .int .i64 (kS 1 (1 + (a : Int))).w, .int .i64 (kS 1 (1 + (a : Int))).g, .int .i64 (kS 1 (1 + (a : Int))).p, .int .i64 (kS 1 (1 + (a : Int))).r, .pointer (some ⟨m.b, 0, none⟩), .int .i64 0] 47)).alloc (.cells #[.int .i64 (kS 1 (1 + (a : Int))).t, .int .i64 (kS 1 (1 + (a : Int))).s, .int .i64 (kS 1 (1 + (a : Int))).c, .int .i64 (kS 1 (1 + (a : Int))).w, .int .i64 (kS 1 (1 + (a : Int))).g, .int .i64 (kS 1 (1 + (a : Int))).p, .int .i64 (kS 1 (1 + (a : Int))).r] 23)).alloc (.cells #[.int .i64 (kS 1 (1 + (a : Int))).t, .int .i64 (kS 1 (1 + (a : Int))).s, .int .i64 (kS 1 (1 + (a : Int))).c, .int .i64 (kS 1 (1 + (a : Int))).w, .int .i64 (kS 1 (1 + (a : Int))).g, .int .i64 (kS 1 (1 + (a : Int))).p, .int .i64 (kS 1 (1 + (a : Int))).r] 23))
          clear hEc hst hla HO1
          have hEc := HO.out.ew.env.cell
          rw [rounds_succ]
          go_wp2_with fail
          refine (now_env (kS 1 (1 + (a : Int))) 0 HO.out.ew.mem).mono ?_
          rintro e wa ⟨rfl, rfl⟩
          have HOa := Lib.hid (HO.out.alloc (.cells #[.int .i64 (kS 1 (1 + (a : Int))).t, .int .i64 (kS 1 (1 + (a : Int))).s, .int .i64 (kS 1 (1 + (a : Int))).c, .int .i64 (kS 1 (1 + (a : Int))).w, .int .i64 (kS 1 (1 + (a : Int))).g, .int .i64 (kS 1 (1 + (a : Int))).p, .int .i64 (kS 1 (1 + (a : Int))).r, .pointer (some ⟨m.b, 0, none⟩), .int .i64 0] 47))
          clear hEc
          have hEc := HOa.out.ew.env.cell
          go_wp2_with fail
          refine (take_step (kS 1 (1 + (a : Int))) 0 _ tb Q3.out HOa.out.ew.mem HOa.out.ob (.inr (.inr ⟨rfl, q4, Q5.out, Q6.out⟩)) n1 n2 n3).mono ?_
          rintro e wb ⟨rfl, h1, h2, h3⟩
          have HOb := Lib.hid (HOa.out.step hA h1 h2 h3)
          clear hEc h1 h2 h3 HOa
          have hEc := HOb.out.ew.env.cell
          go_wp2_with fail
          refine (last_any HOb.out.ew.mem).mono ?_
          rintro e wc ⟨rfl, hoc⟩
          have HO1 := Lib.hid (HOb.out.only0 hoc)
          clear hEc hoc HOb
          have hEc := HO1.out.ew.env.cell
          have hst := T3.out
          have hla := U3.out
          go_wp2_with (first | (go_at_call 61; refine (now_env (kS 1 (1 + (a : Int))) 0 HO1.out.ew.mem).mono ?_; rintro e w' ⟨rfl, rfl⟩) | (go_at_call 46; refine (topa_any _).mono ?_; rintro e w' ⟨rfl, rfl⟩))
          have HO := Lib.hid (HO1.out.alloc (.cells #[.int .i64 (kS 1 (1 + (a : Int))).t, .int .i64 (kS 1 (1 + (a : Int))).s, .int .i64 (kS 1 (1 + (a : Int))).c, .int .i64 (kS 1 (1 + (a : Int))).w, .int .i64 (kS 1 (1 + (a : Int))).g, .int .i64 (kS 1 (1 + (a : Int))).p, .int .i64 (kS 1 (1 + (a : Int))).r, .pointer (some ⟨m.b, 0, none⟩), .int .i64 0] 47))
          clear hEc hst hla HO1
          refine (tslot_any _ _ HO.out.ob).mono ?_
          rintro e w' ⟨rfl, rfl⟩
          have hEc := HO.out.ew.env.cell
          obtain ⟨bb, off, rfl, hbb, _⟩ := hS.cells (by omega)
          obtain ⟨bb', off', hadr, _, hcell⟩ := (hS.only HO.out.ew.only).cells (by omega)
          cases hadr
          have hcj := hcell j hlt
          clear hcell
          cases hxb : xs.getD j default
          · rw [hxb] at hcj
            clear hxb
            go_wp2
            go_roundw
            case rel => exact ⟨j + 1, s3, l, by go_num, by omega, by omega, HT.out.fr, by rw [HT.out.top]; have := HTN.out; omega, HO.out.ew⟩
            case measure => simp [intOf]; omega
          · rw [hxb] at hcj
            clear hxb
            go_wp2_with fail
            refine (give_alone (kS 1 (1 + (a : Int))) 0 (1 + a) (by omega) x l HK.out HO.out.ew.mem HT.out.fr hx0 (by omega) (List.nodup_cons.1 HF.out.nd).1 (by rw [HT.out.top]; have := HTN.out; omega)).mono ?_
            rintro e w7 ⟨rfl, ⟨s7, hm7, hG7⟩, ho7⟩
            have HO7 := Lib.hid (HO.out.call hA hm7 ho7)
            have HG7 := Lib.hid hG7
            clear hEc hcj hG7 hm7 ho7
            go_wp2
            go_roundw
            case rel => exact ⟨j + 1, s7, x :: l, by go_num, by omega, by omega, HG7.out.fr, by rw [HG7.out.top, HT.out.top]; have := HTN.out; omega, HO7.out.ew⟩
            case measure => simp [intOf]; omega
      · skip
        have htop : topS (s.get 1) < 1 + (a : Int) := by
          rw [get_ok _ _ (HF.out.ok1 HK.out)]
          have hf := HF.out
          cases l with
          | nil => rw [hf.nil]; omega
          | cons x l =>
            rw [hf.head]
            have := hf.head_rg
            omega
        have hWd := hW.drew
        go_wp2
        refine qc_enter (fun w' => EW w w' m (kS 1 (1 + (a : Int))) 0 w1.heap.size s) (by kernel_rfl) (by kernel_rfl) ?_ ?_
        focus (exact hWd)
        repeat (first
          | go_big_quiet_skip
          | (go_big_quiet_want
             apply Exists.intro
             refine ⟨fun wq hq => ?_, ?_⟩
             focus
               (have hc2 := hq.env.cell)
               unfold Oper.quietAt
               go_simp
               (first
                 | done
                 | with_reducible exact rfl
                 | with_reducible exact ⟨rfl, rfl⟩
                 | (first | (go_at_call 46; refine (topa_any _).mono ?_; rintro e w' ⟨rfl, rfl⟩; exact ⟨rfl, hq⟩) | (go_at_call 44; with_reducible refine (peek_any hq.mem).mono ?_; rintro e w' ⟨rfl, rfl⟩; exact ⟨rfl, hq⟩) | (go_at_call 80; with_reducible refine (top_any _ _ (hq.mem.get_rng 1)).mono ?_; rintro e w' ⟨rfl, rfl⟩; exact ⟨rfl, hq⟩)))
             (try simp only [Act.put, List.setIfInBounds_toArray, List.set_cons_zero, List.set_cons_succ])
             go_big_quiet_on))
        refine wpQuiet_nil ?_
        intro wq hq
        go_wp2_with (first | (go_at_call 66; refine (tslot_nil _).mono ?_; rintro e w' ⟨rfl, rfl⟩))
        go_ret
        exact ⟨rfl, hq.only⟩
    · skip
      have htop : topS (s.get 1) < 1 + (a : Int) := by
        rw [get_ok _ _ (HF.out.ok1 HK.out)]
        have hf := HF.out
        cases l with
        | nil => rw [hf.nil]; omega
        | cons x l =>
          rw [hf.head]
          have := hf.head_rg
          omega
      have hWd := hW.drew
      go_wp2
      refine qc_enter (fun w' => EW w w' m (kS 1 (1 + (a : Int))) 0 w1.heap.size s) (by kernel_rfl) (by kernel_rfl) ?_ ?_
      focus (exact hWd)
      repeat (first
        | go_big_quiet_skip
        | (go_big_quiet_want
           apply Exists.intro
           refine ⟨fun wq hq => ?_, ?_⟩
           focus
             (have hc2 := hq.env.cell)
             unfold Oper.quietAt
             go_simp
             (first
               | done
               | with_reducible exact rfl
               | with_reducible exact ⟨rfl, rfl⟩
               | (first | (go_at_call 46; refine (topa_any _).mono ?_; rintro e w' ⟨rfl, rfl⟩; exact ⟨rfl, hq⟩) | (go_at_call 44; with_reducible refine (peek_any hq.mem).mono ?_; rintro e w' ⟨rfl, rfl⟩; exact ⟨rfl, hq⟩) | (go_at_call 80; with_reducible refine (top_any _ _ (hq.mem.get_rng 1)).mono ?_; rintro e w' ⟨rfl, rfl⟩; exact ⟨rfl, hq⟩)))
           (try simp only [Act.put, List.setIfInBounds_toArray, List.set_cons_zero, List.set_cons_succ])
           go_big_quiet_on))
      refine wpQuiet_nil ?_
      intro wq hq
      go_wp2_with (first | (go_at_call 66; refine (tslot_nil _).mono ?_; rintro e w' ⟨rfl, rfl⟩))
      go_ret
      exact ⟨rfl, hq.only⟩

end Go.Proofs.Yteoimmjgnflmmaa
