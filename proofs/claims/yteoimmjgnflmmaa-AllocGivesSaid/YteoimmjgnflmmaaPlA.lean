/-
  Words of a class are wanted by a thread alone; the guard of these laws.
-/
import Derived.Test.YteoimmjgnflmmaaPl4
import Derived.Test.YteoimmjgnflmmaaSlA
namespace Go.Proofs.Yteoimmjgnflmmaa
open Go.RowKit Go.BigFrame

def placeRun (k : Cfg) (wh : Int) : Nat → MS → PlS → MS × PlS
  | 0, s, p => (s, p)
  | f + 1, s, p =>
    match placeStep k wh s p with
    | (true, s', p') => (s', p')
    | (false, s', p') => placeRun k wh f s' p'

theorem placeRun_stop {k : Cfg} {wh : Int} {f : Nat} {s s' : MS} {p p' : PlS} (h : placeStep k wh s p = (true, s', p')) : placeRun k wh (f + 1) s p = (s', p') := by
  unfold placeRun; rw [h]
theorem placeRun_on {k : Cfg} {wh : Int} {f : Nat} {s s' : MS} {p p' : PlS} (h : placeStep k wh s p = (false, s', p')) : placeRun k wh (f + 1) s p = placeRun k wh f s' p' := by
  conv => lhs; unfold placeRun
  rw [h]

section
variable {w : World} {m : MB} {k : Cfg} {n : Nat} {s : MS} {wh : Int}
def PlS.res (p : PlS) : Value := .agg #[.int .i64 (if p.ok = true then p.sa else 0), .int .i64 (if p.ok = true then p.sc else 0)]
set_option maxHeartbeats 800000 in
theorem spot_any (p : PlS) (tb : Nat) (hb : Blk w tb p.cs 145) : Calls Try.prog 92 #[.pointer (some ⟨tb, 0, none⟩)] w fun e w' => e = .returned (.tuple #[p.res, .bool p.ok]) ∧ Only [] w w' := by
  obtain ⟨cl, pc, op, ai, wd, sa, sc, ok⟩ := p
  replace hb : Blk w tb #[.int .i64 cl, .int .i64 pc, .int .u64 op, .int .i64 ai, .int .u64 wd, .int .i64 sa, .int .i64 sc, .bool ok] 145 := hb
  have hc := hb.cell
  have ht := hb.lt
  cases ok
  · go_enter Try.func92, Try.ntmps92
    go_wp2
    exact bodyPost_ret (v := .tuple #[.agg #[.int .i64 0, .int .i64 0], .bool false]) (by simp [results, Try.results92, go_sem]) rfl ⟨rfl, (Only.refl _ _).alloc _⟩
  · go_enter Try.func92, Try.ntmps92
    go_wp2
    exact bodyPost_ret (v := .tuple #[.agg #[.int .i64 sa, .int .i64 sc], .bool true]) (by simp [results, Try.results92, go_sem]) rfl ⟨rfl, (Only.refl _ _).alloc _⟩
set_option maxHeartbeats 800000 in
theorem spot_nil (w : World) : Calls Try.prog 92 #[.pointer none] w fun e w' => e = .returned (.tuple #[.agg #[.int .i64 0, .int .i64 0], .bool false]) ∧ Only [] w w' := by
  go_enter Try.func92, Try.ntmps92
  go_wp2
  exact bodyPost_ret (v := .tuple #[.agg #[.int .i64 0, .int .i64 0], .bool false]) (by simp [results, Try.results92, go_sem]) rfl ⟨rfl, (Only.refl _ _).alloc _⟩

def pl0 (c : Int) : PlS := ⟨c, 0, 0, 0, 0, 0, 0, false⟩
theorem pl0_PI {c : Int} (hc : c = 0 ∨ c = 1 ∨ c = 2 ∨ c = 3) : PI n (pl0 c) := ⟨hc, .inl rfl, fun h => absurd rfl h, ⟨(by decide : (0 : Int) ≤ 0), (by decide : (0 : Int) < 18446744073709551616)⟩⟩

set_option maxRecDepth 100000 in
set_option maxHeartbeats 3200000 in
theorem get_alone (c : Int) {sF : MS} {pF : PlS} (hk : k.Ok) (hM : PM k n s) (hc : c = 0 ∨ c = 1 ∨ c = 2 ∨ c = 3) (hrun : placeRun k wh 300 s (pl0 c) = (sF, pF)) (hm : MemR w m s) :
    Calls Try.prog 82 #[.agg #[.int .i64 k.t, .int .i64 k.s, .int .i64 k.c, .int .i64 k.w, .int .i64 k.g, .int .i64 k.p, .int .i64 k.r, .pointer (some ⟨m.b, 0, none⟩), .int .i64 wh], .int .i64 c] w fun e w' => e = .returned (.tuple #[pF.res, .bool pF.ok]) ∧ MemR w' m sF ∧ PM k n sF ∧ Only m.l w w' := by
  obtain ⟨l1, l2, l3⟩ := hm.lts
  have hnx : w.heap.size ∉ m.l := hm.notin (Nat.le_refl _)
  have hE0 : Blk (((w.alloc (.cells #[.int .i64 k.t, .int .i64 k.s, .int .i64 k.c, .int .i64 k.w, .int .i64 k.g, .int .i64 k.p, .int .i64 k.r, .pointer (some ⟨m.b, 0, none⟩), .int .i64 wh] 47)).alloc (.cells #[.int .i64 0, .int .i64 0] 103)).alloc (.cells (pl0 c).cs 145)) w.heap.size #[.int .i64 k.t, .int .i64 k.s, .int .i64 k.c, .int .i64 k.w, .int .i64 k.g, .int .i64 k.p, .int .i64 k.r, .pointer (some ⟨m.b, 0, none⟩), .int .i64 wh] 47 := ((Blk.new w _ 47).alloc _).alloc _
  have hR0 : Blk (((w.alloc (.cells #[.int .i64 k.t, .int .i64 k.s, .int .i64 k.c, .int .i64 k.w, .int .i64 k.g, .int .i64 k.p, .int .i64 k.r, .pointer (some ⟨m.b, 0, none⟩), .int .i64 wh] 47)).alloc (.cells #[.int .i64 0, .int .i64 0] 103)).alloc (.cells (pl0 c).cs 145)) (w.heap.size + 1) #[.int .i64 0, .int .i64 0] 103 := (Blk.new' (by simp) rfl : Blk _ _ _ 103).alloc _
  have hB0 : Blk (((w.alloc (.cells #[.int .i64 k.t, .int .i64 k.s, .int .i64 k.c, .int .i64 k.w, .int .i64 k.g, .int .i64 k.p, .int .i64 k.r, .pointer (some ⟨m.b, 0, none⟩), .int .i64 wh] 47)).alloc (.cells #[.int .i64 0, .int .i64 0] 103)).alloc (.cells (pl0 c).cs 145)) (w.heap.size + 1 + 1) (pl0 c).cs 145 := Blk.new' (by simp) rfl
  have hM0 := ((hm.alloc (.cells #[.int .i64 k.t, .int .i64 k.s, .int .i64 k.c, .int .i64 k.w, .int .i64 k.g, .int .i64 k.p, .int .i64 k.r, .pointer (some ⟨m.b, 0, none⟩), .int .i64 wh] 47)).alloc (.cells #[.int .i64 0, .int .i64 0] 103)).alloc (.cells (pl0 c).cs 145)
  have hO0 : Only m.l w (((w.alloc (.cells #[.int .i64 k.t, .int .i64 k.s, .int .i64 k.c, .int .i64 k.w, .int .i64 k.g, .int .i64 k.p, .int .i64 k.r, .pointer (some ⟨m.b, 0, none⟩), .int .i64 wh] 47)).alloc (.cells #[.int .i64 0, .int .i64 0] 103)).alloc (.cells (pl0 c).cs 145)) := (((Only.refl _ w).alloc _).alloc _).alloc _
  have n1 : w.heap.size + 1 + 1 ≠ m.b := by omega
  have n2 : w.heap.size + 1 + 1 ≠ m.wb := by omega
  have n3 : w.heap.size + 1 + 1 ≠ m.hb := by omega
  have d1 : w.heap.size ∉ [m.b, m.wb, m.hb, w.heap.size + 1 + 1] := by simp only [List.mem_cons, List.not_mem_nil, or_false, not_or]; omega
  have d2 : w.heap.size + 1 ∉ [m.b, m.wb, m.hb, w.heap.size + 1 + 1] := by simp only [List.mem_cons, List.not_mem_nil, or_false, not_or]; omega
  have d3 : ∀ x, x ∈ [m.b, m.wb, m.hb, w.heap.size + 1 + 1] → x < w.heap.size → x ∈ m.l := by
    intro x hx hlt
    simp only [List.mem_cons, List.not_mem_nil, or_false] at hx ⊢
    omega
  have HR := Lib.hid hrun
  have HK := Lib.hid hk
  have HM := Lib.hid hM
  clear hrun hk hM
  go_enter Try.func82, Try.ntmps82
  go_wp2_with (first | (go_at_call 84; refine (plnew_any _ _).mono ?_; rintro e w' ⟨rfl, rfl⟩))
  go_loopw [7] (fun i wr => ∃ (j : Nat) (s' : MS) (p : PlS), i = .int .i64 j ∧ j ≤ 300 ∧ PM k n s' ∧ PI n p ∧ placeRun k wh (300 - j) s' p = (sF, pF) ∧ MemR wr m s' ∧ Blk wr w.heap.size #[.int .i64 k.t, .int .i64 k.s, .int .i64 k.c, .int .i64 k.w, .int .i64 k.g, .int .i64 k.p, .int .i64 k.r, .pointer (some ⟨m.b, 0, none⟩), .int .i64 wh] 47 ∧ Blk wr (w.heap.size + 1) #[.int .i64 0, .int .i64 0] 103 ∧ Blk wr (w.heap.size + 1 + 1) p.cs 145 ∧ Only m.l w wr) (fun i _ => 300 - (intOf i).toNat)
  case atStart => exact ⟨0, s, pl0 c, rfl, by omega, HM.out, pl0_PI hc, HR.out, hM0, hE0, hR0, hB0, hO0⟩
  case round =>
    clear hM0 hE0 hR0 hB0 hO0
    obtain ⟨j, s', p, rfl, hj, hM, hI, hrun, hm', hE, hR, hB, hO⟩ := hrel
    have hEc := hE.cell
    by_cases hlt : j < 300
    · rcases hst : placeStep k wh s' p with ⟨b, s2, p2⟩
      obtain ⟨_, _, _, hM2, hI2, _, _⟩ := place_law HK.out hM hI hst
      have hf : 300 - j = (300 - (j + 1)) + 1 := by omega
      rw [hf] at hrun
      have HS := Lib.hid hst
      have HRU := Lib.hid hrun
      have HI2 := Lib.hid hI2
      have HI := Lib.hid hI
      clear hst hrun hI2 hI hf
      go_wp2_with fail
      refine (place_step _ HK.out hM HI.out HS.out hm' hB n1 n2 n3).mono ?_
      rintro e w3 ⟨rfl, h1, h2, h3⟩
      have hE3 := hE.only h3 d1
      have hR3 := hR.only h3 d2
      have hO3 := hO.trans' h3 d3
      clear hE hR hB hO hEc hm' h3
      cases b
      · have hrun := HRU.out
        rw [placeRun_on HS.out] at hrun
        have HRU := Lib.hid hrun
        clear hrun
        go_wp2
        go_roundw
        case rel => exact ⟨j + 1, s2, p2, by go_num, by omega, hM2, HI2.out (by first | rfl | trivial), HRU.out, h1, hE3, hR3, h2, hO3⟩
        case measure => simp [intOf]; omega
      · have hrun := HRU.out
        rw [placeRun_stop HS.out] at hrun
        simp only [Prod.mk.injEq] at hrun
        obtain ⟨rfl, rfl⟩ := hrun
        have hsp : Calls Try.prog 92 #[.pointer (some ⟨w.heap.size + 1 + 1, 0, none⟩)] _ _ := spot_any _ _ h2
        rcases hok : (p2).ok
        all_goals
          have hres : PlS.res p2 = .agg #[.int .i64 (if (p2).ok = true then (p2).sa else 0), .int .i64 (if (p2).ok = true then (p2).sc else 0)] := rfl
          rw [hok] at hsp hres
          simp only [Bool.false_eq_true, if_false, if_true] at hres
          rw [hres] at hsp
          go_wp2_with fail
          refine hsp.mono ?_
          rintro e w4 ⟨rfl, ho4⟩
          have hR4 := (hR3).only ho4 (by simp)
          have hM4 := (h1).only ho4 (by simp) (by simp) (by simp)
          have hO4 := (hO3).trans' ho4 (fun _ h _ => (List.not_mem_nil h).elim)
          have hRc := hR4.cell
          have hRf := hR4.frozen
          go_wp2
          refine bodyPost_ret (v := _) (by simp [results, Try.results82, go_sem, hRc]; rfl) rfl ⟨by rw [hres, hok], (hM4.other _ _ (by simp only; omega) (by simp only; omega) (by simp only; omega)).other _ _ (by simp only; omega) (by simp only; omega) (by simp only; omega), hM2, (hO4.setCell _ _ (fun h => absurd h (by simp only; omega))).setCell _ _ (fun h => absurd h (by simp only; omega))⟩
    · have h0 : 300 - j = 0 := by omega
      rw [h0] at hrun
      have hrun : (s', p) = (sF, pF) := hrun
      simp only [Prod.mk.injEq] at hrun
      obtain ⟨rfl, rfl⟩ := hrun
      have hsp : Calls Try.prog 92 #[.pointer (some ⟨w.heap.size + 1 + 1, 0, none⟩)] _ _ := spot_any _ _ hB
      rcases hok : (p).ok
      all_goals
        have hres : PlS.res p = .agg #[.int .i64 (if (p).ok = true then (p).sa else 0), .int .i64 (if (p).ok = true then (p).sc else 0)] := rfl
        rw [hok] at hsp hres
        simp only [Bool.false_eq_true, if_false, if_true] at hres
        rw [hres] at hsp
        go_wp2_with fail
        refine hsp.mono ?_
        rintro e w4 ⟨rfl, ho4⟩
        have hR4 := (hR).only ho4 (by simp)
        have hM4 := (hm').only ho4 (by simp) (by simp) (by simp)
        have hO4 := (hO).trans' ho4 (fun _ h _ => (List.not_mem_nil h).elim)
        have hRc := hR4.cell
        have hRf := hR4.frozen
        go_wp2
        refine bodyPost_ret (v := _) (by simp [results, Try.results82, go_sem, hRc]; rfl) rfl ⟨by rw [hres, hok], (hM4.other _ _ (by simp only; omega) (by simp only; omega) (by simp only; omega)).other _ _ (by simp only; omega) (by simp only; omega) (by simp only; omega), hM, (hO4.setCell _ _ (fun h => absurd h (by simp only; omega))).setCell _ _ (fun h => absurd h (by simp only; omega))⟩
end

theorem fresh_PM {k : Cfg} (hk : k.Ok) (h60 : k.s ≤ 60000) {n : Nat} (hn : k.c = n) (hr : ∀ x ∈ (freshS k).ws, U64 x) : PM k n (freshS k) :=
  ⟨hn, fresh_len hk, fun c hc => by
    have := hk.t0; have := hk.s0
    rw [fresh_at hk h60 _ (by omega)]
    unfold wantF
    rw [if_neg (by omega), if_neg (by omega)]
    unfold wantI
    rw [if_neg (by omega)]
    omega, hr⟩

def kP7 : Cfg := ⟨1, 1, 2, 20, 100, 600, 3⟩
theorem kP7_ok : kP7.Ok := by constructor <;> decide
theorem kP7_run : ∃ s1 p1 s2 p2, placeRun kP7 0 300 (freshS kP7) (pl0 0) = (s1, p1) ∧ placeRun kP7 0 300 s1 (pl0 0) = (s2, p2) ∧ p1.res = .agg #[.int .i64 15, .int .i64 0] ∧ p1.ok = true ∧ p2.res = .agg #[.int .i64 18, .int .i64 0] ∧ p2.ok = true := by
  refine ⟨(placeRun kP7 0 300 (freshS kP7) (pl0 0)).1, (placeRun kP7 0 300 (freshS kP7) (pl0 0)).2, (placeRun kP7 0 300 (placeRun kP7 0 300 (freshS kP7) (pl0 0)).1 (pl0 0)).1, (placeRun kP7 0 300 (placeRun kP7 0 300 (freshS kP7) (pl0 0)).1 (pl0 0)).2, rfl, rfl, ?_, ?_, ?_, ?_⟩
  · have h1 : (placeRun kP7 0 300 (freshS kP7) (pl0 0)).2.ok = true := by decide +kernel
    have h2 : (placeRun kP7 0 300 (freshS kP7) (pl0 0)).2.sa = 15 := by decide +kernel
    have h3 : (placeRun kP7 0 300 (freshS kP7) (pl0 0)).2.sc = 0 := by decide +kernel
    unfold PlS.res
    rw [h1, h2, h3]; rfl
  · decide +kernel
  · have h1 : (placeRun kP7 0 300 (placeRun kP7 0 300 (freshS kP7) (pl0 0)).1 (pl0 0)).2.ok = true := by decide +kernel
    have h2 : (placeRun kP7 0 300 (placeRun kP7 0 300 (freshS kP7) (pl0 0)).1 (pl0 0)).2.sa = 18 := by decide +kernel
    have h3 : (placeRun kP7 0 300 (placeRun kP7 0 300 (freshS kP7) (pl0 0)).1 (pl0 0)).2.sc = 0 := by decide +kernel
    unfold PlS.res
    rw [h1, h2, h3]; rfl
  · decide +kernel
theorem kP7_base : aBase kP7 0 = 15 := by decide +kernel

set_option maxRecDepth 100000 in
set_option maxHeartbeats 1600000 in
theorem awake7 (w : World) : Calls Try.prog 81 #[] w fun e w' => e = .returned (.bool true) ∧ Only [] w w' := by
  obtain ⟨s1, p1, s2, p2, q1, q2, q3, q4, q5, q6⟩ := kP7_run
  have hbc : ∀ w', Calls Try.prog 51 #[.agg #[.int .i64 kP7.t, .int .i64 kP7.s, .int .i64 kP7.c, .int .i64 kP7.w, .int .i64 kP7.g, .int .i64 kP7.p, .int .i64 kP7.r], .int .i64 0] w' fun e w2 => e = .returned (.int .i64 15) ∧ w2 = w'.alloc (.cells #[.int .i64 kP7.t, .int .i64 kP7.s, .int .i64 kP7.c, .int .i64 kP7.w, .int .i64 kP7.g, .int .i64 kP7.p, .int .i64 kP7.r] 23) := fun w' => by
    have := base_any w' kP7 0
    rw [kP7_base] at this
    exact this
  have Q1 := Lib.hid q1
  have Q2 := Lib.hid q2
  clear q1 q2
  go_enter Try.func81, Try.ntmps81
  go_wp2_with fail
  refine (arena_yes kP7 kP7_ok rfl rfl rfl _).mono ?_
  rintro e w1 ⟨m, rfl, hm1, hn1, ho1⟩
  obtain ⟨hl1, hl2, hl3⟩ := hm1.lts
  obtain ⟨hn1, hn2, hn3⟩ := hn1
  have hz := ho1.size
  have hnx : w1.heap.size ∉ m.l := hm1.notin (Nat.le_refl _)
  have hlm : ∀ x, x ∈ m.l → x < w.heap.size → x ∈ ([] : List Nat) := fun x hx hlt => by
    simp only [List.mem_cons, List.not_mem_nil, or_false] at hx; omega
  have hP := fresh_PM kP7_ok (by decide) (n := 2) rfl hm1.rng
  have hW : EW w (w1.alloc (.cells #[.int .i64 kP7.t, .int .i64 kP7.s, .int .i64 kP7.c, .int .i64 kP7.w, .int .i64 kP7.g, .int .i64 kP7.p, .int .i64 kP7.r, .pointer (some ⟨m.b, 0, none⟩), .int .i64 0] 47)) m kP7 0 w1.heap.size (freshS kP7) := ⟨hm1.alloc _, Blk.new _ _ _, ho1.alloc _⟩
  have hEc := hW.env.cell
  have hlt1 := hW.env.lt
  clear hm1
  go_wp2_with fail
  refine (get_alone 0 kP7_ok hP (.inl rfl) Q1.out hW.mem).mono ?_
  rintro e w2 ⟨rfl, hm2, hP2, ho2⟩
  have hW2 := hW.step hnx hlm hm2 ho2
  have hE2 := hW2.env.cell
  have hlt2 := hW2.env.lt
  rw [q3, q4]
  clear hEc hW q3 q4
  have hWa := hW2.alloc (.cells #[.int .i64 15, .int .i64 0] 103)
  have hA := Blk.new w2 #[.int .i64 15, .int .i64 0] 103
  have hAm : w2.heap.size ∉ m.l := hW2.mem.notin (Nat.le_refl _)
  go_wp2_with fail
  refine (get_alone 0 kP7_ok hP2 (.inl rfl) Q2.out hWa.mem).mono ?_
  rintro e w3 ⟨rfl, hm3, hP3, ho3⟩
  have hW3 := hWa.step hnx hlm hm3 ho3
  have hA3 := hA.only ho3 hAm
  have hE3 := hW3.env.cell
  have hlt3 := hW3.env.lt
  have hlt4 := hA3.lt
  rw [q5, q6]
  clear hE2 hWa hW2 q5 q6 hA
  have hWd := (hW3.alloc (.cells #[.int .i64 18, .int .i64 0] 103)).drew
  have hAd := (hA3.alloc (.cells #[.int .i64 18, .int .i64 0] 103)).drew
  have hBd := (Blk.new w3 #[.int .i64 18, .int .i64 0] 103).drew
  go_wp2
  have h18 : IntKind.i64.wrap 18 = 18 := by decide
  refine qc_enter (fun w' => EW w w' m kP7 0 w1.heap.size s2 ∧ Blk w' w2.heap.size #[.int .i64 15, .int .i64 0] 103 ∧ Blk w' w3.heap.size #[.int .i64 18, .int .i64 0] 103) (by kernel_rfl) (by kernel_rfl) ?_ ?_
  focus (exact ⟨hWd, hAd, hBd⟩)
  repeat (first
    | go_big_quiet_skip
    | (go_big_quiet_want
       apply Exists.intro
       refine ⟨fun wq hq => ?_, ?_⟩
       focus
         (obtain ⟨hq1, hq2, hq3⟩ := hq; have hc1 := hq1.env.cell; have hc2 := hq2.cell; have hc3 := hq3.cell)
         unfold Oper.quietAt
         go_simp
         (first
           | done
           | with_reducible exact rfl
           | with_reducible exact ⟨rfl, rfl⟩
           | ((go_at_call 51; refine (hbc _).mono ?_; rintro e w' ⟨rfl, rfl⟩; exact ⟨rfl, hq1.alloc _, hq2.alloc _, hq3.alloc _⟩)))
       (try simp only [Act.put, List.setIfInBounds_toArray, List.set_cons_zero, List.set_cons_succ])
       go_big_quiet_on))
  refine wpQuiet_nil ?_
  intro wq hq
  obtain ⟨hq1, hq2, hq3⟩ := hq
  go_wp2
  go_ret
  exact ⟨rfl, hq1.only⟩

end Go.Proofs.Yteoimmjgnflmmaa
