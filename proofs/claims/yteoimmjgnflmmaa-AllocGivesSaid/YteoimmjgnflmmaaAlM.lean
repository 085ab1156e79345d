/-
  An object is made, alone.
-/
import Derived.Test.YteoimmjgnflmmaaAlV
import Derived.Test.YteoimmjgnflmmaaSlA
namespace Go.Proofs.Yteoimmjgnflmmaa
open Go.RowKit Go.BigFrame

def allocRun (k : Cfg) (wh : Int) : Nat → MS → AlX → MS × AlX
  | 0, s, a => (s, a)
  | f + 1, s, a =>
    match allocStep k wh s a with
    | (true, s', a') => (s', a')
    | (false, s', a') => allocRun k wh f s' a'
theorem allocRun_stop {k : Cfg} {wh : Int} {f : Nat} {s s' : MS} {a a' : AlX} (h : allocStep k wh s a = (true, s', a')) : allocRun k wh (f + 1) s a = (s', a') := by
  unfold allocRun; rw [h]
theorem allocRun_on {k : Cfg} {wh : Int} {f : Nat} {s s' : MS} {a a' : AlX} (h : allocStep k wh s a = (false, s', a')) : allocRun k wh (f + 1) s a = allocRun k wh f s' a' := by
  conv => lhs; unfold allocRun
  rw [h]
def AlS.done (x : AlS) : Value := .agg #[.int .i64 x.er, .int .u64 x.hd, .int .i64 x.va, .int .i64 x.st]

section
variable {w : World} {m : MB} {k : Cfg} {n N : Nat} {T : Int} {s : MS} {l : List Int} {wh : Int}
set_option maxHeartbeats 800000 in
theorem adone_any (x : AlS) (tb : Nat) (hb : Blk w tb x.cs 150) : Calls Try.prog 95 #[.pointer (some ⟨tb, 0, none⟩)] w fun e w' => e = .returned x.done ∧ Only [] w w' := by
  obtain ⟨sz, own, pc, ⟨tpc, top, next, slot, ok⟩, at_, gn, pv, sa, sc, gv, er, hd, va, st⟩ := x
  replace hb : Blk w tb #[.int .i64 sz, .bool own, .int .i64 pc, .int .i64 tpc, .int .u64 top, .int .i64 next, .int .i64 slot, .bool ok, .int .i64 at_, .int .i64 gn, pv, .int .i64 sa, .int .i64 sc, gv, .int .i64 er, .int .u64 hd, .int .i64 va, .int .i64 st] 150 := hb
  have hc := hb.cell
  have ht := hb.lt
  go_enter Try.func95, Try.ntmps95
  go_wp2
  exact bodyPost_ret (v := .agg #[.int .i64 er, .int .u64 hd, .int .i64 va, .int .i64 st]) (by simp [results, Try.results95, go_sem]) rfl ⟨rfl, (Only.refl _ _).alloc _⟩
set_option maxHeartbeats 800000 in
theorem adone_nil (w : World) : Calls Try.prog 95 #[.pointer none] w fun e w' => e = .returned (.agg #[.int .i64 1, .int .u64 0, .int .i64 0, .int .i64 0]) ∧ Only [] w w' := by
  go_enter Try.func95, Try.ntmps95
  go_wp2
  exact bodyPost_ret (v := .agg #[.int .i64 1, .int .u64 0, .int .i64 0, .int .i64 0]) (by simp [results, Try.results95, go_sem]) rfl ⟨rfl, (Only.refl _ _).alloc _⟩

theorem done_pv (x : AlS) (p g : Value) : AlS.done { x with pv := p, gv := g } = x.done := rfl
/-- The world on the way: the arena's box, the result's, and who makes it. -/
structure MkW (w wr : World) (m : MB) (k : Cfg) (wh : Int) (s : MS) (B : AlB) (a : AlX) : Prop where
  mem : MemR wr m s
  env : Blk wr w.heap.size #[.int .i64 k.t, .int .i64 k.s, .int .i64 k.c, .int .i64 k.w, .int .i64 k.g, .int .i64 k.p, .int .i64 k.r, .pointer (some ⟨m.b, 0, none⟩), .int .i64 wh] 47
  out : Blk wr (w.heap.size + 1) #[.int .i64 0, .int .u64 0, .int .i64 0, .int .i64 0] 125
  al : AlR wr m B a
  ap : AlP B a
  b : B.b = w.heap.size + 1 + 1
  lo : ∀ x, x ∈ B.all → w.heap.size + 1 + 1 ≤ x
  only : Only m.l w wr
theorem AlB.on_lo {B B' : AlB} {z : Nat} {wr : World} (h : B.on B' wr) (hl : ∀ x, x ∈ B.all → z ≤ x) (hz : z ≤ wr.heap.size) : ∀ x, x ∈ B'.all → z ≤ x := fun x hx => by
  obtain ⟨h1, h2, h3⟩ := h
  unfold AlB.all at hx
  simp only [List.mem_cons, List.mem_append, Option.mem_toList] at hx
  rcases hx with rfl | hx | hx
  · rw [h1]; exact hl _ (by unfold AlB.all; simp)
  · rcases h2 with h2 | ⟨y, hy, hyw⟩
    · rw [h2] at hx; exact hl _ (AlB.mem_p hx)
    · rw [hy] at hx; cases hx; omega
  · rcases h3 with h3 | ⟨y, hy, hyw⟩
    · rw [h3] at hx; exact hl _ (AlB.mem_g hx)
    · rw [hy] at hx; cases hx; omega
theorem MkW.step {wr w1 : World} {s' : MS} {B B' : AlB} {a a' : AlX} (h : MkW w wr m k wh s B a) (hx : w.heap.size ∉ m.l) (hx1 : w.heap.size + 1 ∉ m.l) (h1 : MemR w1 m s') (h2 : AlR w1 m B' a') (h3 : B.on B' wr) (h4 : AlP B' a') (h5 : Only (m.l ++ B.all) wr w1) : MkW w w1 m k wh s' B' a' := by
  have hnx : ∀ y, y < w.heap.size + 1 + 1 → y ∉ m.l → y ∉ m.l ++ B.all := fun y hy hm hh => by
    rcases List.mem_append.1 hh with hh | hh
    · exact hm hh
    · have := h.lo y hh; omega
  have hol := h.out.lt
  refine ⟨h1, h.env.only h5 (hnx _ (by omega) hx), h.out.only h5 (hnx _ (by omega) hx1), h2, h4, h3.1.trans h.b, AlB.on_lo h3 h.lo (by omega), h.only.trans' h5 (fun y hy hlt => ?_)⟩
  rcases List.mem_append.1 hy with hy | hy
  · exact hy
  · have := h.lo y hy; omega

set_option maxRecDepth 100000 in
set_option maxHeartbeats 3200000 in
theorem make_alone (z : Int) (o : Bool) {sF : MS} {aF : AlX} (hk : k.Ok) (hN : N ≤ 60000) (hS : ASh k n N T s l) (hT : T ≤ 1000000) (hrun : allocRun k wh 400 s (al0 z o) = (sF, aF)) (hm : MemR w m s) :
    Calls Try.prog 94 #[.agg #[.int .i64 k.t, .int .i64 k.s, .int .i64 k.c, .int .i64 k.w, .int .i64 k.g, .int .i64 k.p, .int .i64 k.r, .pointer (some ⟨m.b, 0, none⟩), .int .i64 wh], .int .i64 z, .bool o] w fun e w' => e = .returned aF.x.done ∧ MemR w' m sF ∧ Only m.l w w' := by
  have hx0 : w.heap.size ∉ m.l := hm.notin (Nat.le_refl _)
  have hx1 : w.heap.size + 1 ∉ m.l := hm.notin (by omega)
  have hx2 : w.heap.size + 1 + 1 ∉ m.l := hm.notin (by omega)
  have HK := Lib.hid hk
  have HS := Lib.hid hS
  have HR := Lib.hid hrun
  clear hk hS hrun
  go_enter Try.func94, Try.ntmps94
  go_wp2_with (first | (go_at_call 96; refine (anew_any _ _ _).mono ?_; rintro e w' ⟨rfl, rfl⟩))
  have hW : MkW w (((w.alloc (.cells #[.int .i64 k.t, .int .i64 k.s, .int .i64 k.c, .int .i64 k.w, .int .i64 k.g, .int .i64 k.p, .int .i64 k.r, .pointer (some ⟨m.b, 0, none⟩), .int .i64 wh] 47)).alloc (.cells #[.int .i64 0, .int .u64 0, .int .i64 0, .int .i64 0] 125)).alloc (.cells (al0 z o).x.cs 150)) m k wh s ⟨w.heap.size + 1 + 1, none, none⟩ (al0 z o) :=
    ⟨((hm.alloc _).alloc _).alloc _, ((Blk.new w _ 47).alloc _).alloc _, (Blk.new' (by simp) rfl : Blk _ _ _ 125).alloc _, ⟨Blk.new' (by simp) rfl, fun _ hh => (by cases hh), fun _ hh => (by cases hh), fun x hx => (by simp [AlB.all] at hx; subst hx; exact hx2), by simp [AlB.all]⟩, ⟨fun hh => absurd hh (by simp [al0]), fun hh => absurd hh (by simp [al0])⟩, rfl, fun x hx => by simp [AlB.all] at hx; omega, (((Only.refl _ w).alloc _).alloc _).alloc _⟩
  go_loopw [8] (fun i wr => ∃ (j : Nat) (s' : MS) (a : AlX) (B : AlB) (l' : List Int), i = .int .i64 j ∧ j ≤ 400 ∧ MkW w wr m k wh s' B a ∧ ASh k n N (T + j) s' l' ∧ ATh k n N s' l' a ∧ allocRun k wh (400 - j) s' a = (sF, aF)) (fun i _ => 400 - (intOf i).toNat)
  case atStart => exact ⟨0, s, _, _, l, rfl, by omega, hW, by simpa using HS.out, al0_ATh z o, HR.out⟩
  case round =>
    clear hW
    obtain ⟨j, s', a, B, l', rfl, hj, hW, hSh, hTh, hrun⟩ := hrel
    by_cases hlt : j < 400
    · rcases hst : allocStep k wh s' a with ⟨b, s2, a2⟩
      obtain ⟨l2, hS2, hT2⟩ := alloc_own HK.out hN hSh (by omega) hTh hst
      have hcall := alloc_step (wh := wh) HK.out (hTh.ali hSh hN hW.ap) hst hW.mem hW.al
      rw [hW.b] at hcall
      have hf : 400 - j = (400 - (j + 1)) + 1 := by omega
      rw [hf] at hrun
      have HST := Lib.hid hst
      have HRU := Lib.hid hrun
      have HS2 := Lib.hid hS2
      have HT2 := Lib.hid hT2
      have hEc := hW.env.cell
      clear hst hrun hS2 hT2 hf hSh hTh
      go_wp2_with fail
      refine hcall.mono ?_
      rintro e w3 ⟨rfl, h1, ⟨B', h2, h3, h4⟩, h5⟩
      have hW3 := hW.step hx0 hx1 h1 h2 h3 h4 h5
      clear hW hEc hcall h1 h2 h3 h4 h5
      cases b
      · have hrun := HRU.out
        rw [allocRun_on HST.out] at hrun
        have HRU := Lib.hid hrun
        clear hrun
        go_wp2
        go_roundw
        case rel => exact ⟨j + 1, s2, a2, B', l2, by go_num, by omega, hW3, by have := HS2.out; rw [show T + ((j + 1 : Nat) : Int) = T + (j : Int) + 1 from by omega]; exact this, HT2.out (by first | rfl | trivial), HRU.out⟩
        case measure => simp [intOf]; omega
      · have hrun := HRU.out
        rw [allocRun_stop HST.out] at hrun
        simp only [Prod.mk.injEq] at hrun
        obtain ⟨rfl, rfl⟩ := hrun
        have hdn := adone_any _ _ (hW3).al.blk
        rw [(hW3).b] at hdn
        rw [done_pv] at hdn
        unfold AlS.done at hdn
        go_wp2_with fail
        refine hdn.mono ?_
        rintro e w4 ⟨rfl, ho4⟩
        have hR4 := (hW3).out.only ho4 (by simp)
        have hM4 := (hW3).mem.only ho4 (by simp) (by simp) (by simp)
        have hO4 := (hW3).only.trans' ho4 (fun _ h _ => (List.not_mem_nil h).elim)
        have hRc := hR4.cell
        have hRf := hR4.frozen
        have e1 : m.b ≠ w.heap.size + 1 := fun hh => hx1 (by simp [hh])
        have e2 : m.wb ≠ w.heap.size + 1 := fun hh => hx1 (by simp [hh])
        have e3 : m.hb ≠ w.heap.size + 1 := fun hh => hx1 (by simp [hh])
        go_wp2
        refine bodyPost_ret (v := _) (by simp [results, Try.results94, go_sem, hRc]; rfl) rfl ⟨rfl, (((hM4.other _ _ e1 e2 e3).other _ _ e1 e2 e3).other _ _ e1 e2 e3).other _ _ e1 e2 e3, (((hO4.setCell _ _ (fun h => absurd h (by simp only; omega))).setCell _ _ (fun h => absurd h (by simp only; omega))).setCell _ _ (fun h => absurd h (by simp only; omega))).setCell _ _ (fun h => absurd h (by simp only; omega))⟩
    · have h0 : 400 - j = 0 := by omega
      rw [h0] at hrun
      have hrun : (s', a) = (sF, aF) := hrun
      simp only [Prod.mk.injEq] at hrun
      obtain ⟨rfl, rfl⟩ := hrun
      clear h0
      have hdn := adone_any _ _ (hW).al.blk
      rw [(hW).b] at hdn
      rw [done_pv] at hdn
      unfold AlS.done at hdn
      go_wp2_with fail
      refine hdn.mono ?_
      rintro e w4 ⟨rfl, ho4⟩
      have hR4 := (hW).out.only ho4 (by simp)
      have hM4 := (hW).mem.only ho4 (by simp) (by simp) (by simp)
      have hO4 := (hW).only.trans' ho4 (fun _ h _ => (List.not_mem_nil h).elim)
      have hRc := hR4.cell
      have hRf := hR4.frozen
      have e1 : m.b ≠ w.heap.size + 1 := fun hh => hx1 (by simp [hh])
      have e2 : m.wb ≠ w.heap.size + 1 := fun hh => hx1 (by simp [hh])
      have e3 : m.hb ≠ w.heap.size + 1 := fun hh => hx1 (by simp [hh])
      go_wp2
      refine bodyPost_ret (v := _) (by simp [results, Try.results94, go_sem, hRc]; rfl) rfl ⟨rfl, (((hM4.other _ _ e1 e2 e3).other _ _ e1 e2 e3).other _ _ e1 e2 e3).other _ _ e1 e2 e3, (((hO4.setCell _ _ (fun h => absurd h (by simp only; omega))).setCell _ _ (fun h => absurd h (by simp only; omega))).setCell _ _ (fun h => absurd h (by simp only; omega))).setCell _ _ (fun h => absurd h (by simp only; omega))⟩
end

/-- The whole run keeps what may be. -/
theorem allocRun_ASh {k : Cfg} {n N : Nat} {wh : Int} (hk : k.Ok) (hN : N ≤ 60000) : ∀ (f : Nat) (T : Int) (s : MS) (l : List Int) (a : AlX), T + f ≤ 60000000000 → ASh k n N T s l → ATh k n N s l a → ∃ l', ASh k n N (T + f) (allocRun k wh f s a).1 l'
  | 0, T, s, l, a, _, hS, _ => ⟨l, by simpa [allocRun] using hS⟩
  | f + 1, T, s, l, a, hT, hS, hA => by
    rcases hst : allocStep k wh s a with ⟨b, s', a'⟩
    obtain ⟨l', hS', hA'⟩ := alloc_own hk hN hS (by omega) hA hst
    cases b
    · rw [allocRun_on hst]
      obtain ⟨l2, h2⟩ := allocRun_ASh hk hN f (T + 1) s' l' a' (by omega) hS' (hA' rfl)
      exact ⟨l2, by rw [show T + ((f + 1 : Nat) : Int) = T + 1 + (f : Int) from by omega]; exact h2⟩
    · rw [allocRun_stop hst]
      exact ⟨l', ⟨hS'.pm, hS'.pj, hS'.ns, hS'.fr, by have := hS'.tn; simp only; omega⟩⟩

theorem Blk.set4 {w : World} {b T : Nat} {a0 a1 a2 a3 v0 v1 v2 v3 : Value} (h : Blk w b #[a0, a1, a2, a3] T) : Blk ((((w.setCell ⟨b, 0, none⟩ v0).setCell ⟨b, 1, none⟩ v1).setCell ⟨b, 2, none⟩ v2).setCell ⟨b, 3, none⟩ v3) b #[v0, v1, v2, v3] T := (((h.set 0 _ rfl).set 1 _ rfl).set 2 _ rfl).set 3 _ rfl
def kA8 : Cfg := ⟨1, 4, 2, 20, 100, 600, 3⟩
theorem kA8_ok : kA8.Ok := by constructor <;> decide
def a8s1 : MS := (allocRun kA8 0 400 (freshS kA8) (al0 2 false)).1
def a8a1 : AlX := (allocRun kA8 0 400 (freshS kA8) (al0 2 false)).2
def a8a2 : AlX := (allocRun kA8 0 400 a8s1 (al0 2 true)).2
theorem a8_facts : a8a1.x.er = 0 ∧ a8a1.x.hd = 65536 ∧ a8a2.x.hd = 65537 ∧ 0 < a8a1.x.st ∧ a8a1.x.st < a8a2.x.st := by decide +kernel

set_option maxRecDepth 100000 in
set_option maxHeartbeats 12800000 in
theorem awake8 (w : World) : Calls Try.prog 93 #[] w fun e w' => e = .returned (.bool true) ∧ Only [] w w' := by
  have h60 : kA8.s ≤ 60000 := by decide
  obtain ⟨f1, f2, f3, f4, f5⟩ := a8_facts
  rcases q1 : allocRun kA8 0 400 (freshS kA8) (al0 2 false) with ⟨s1, a1⟩
  have hs1 : a8s1 = s1 := by unfold a8s1; rw [q1]
  have ha1 : a8a1 = a1 := by unfold a8a1; rw [q1]
  rcases q2 : allocRun kA8 0 400 s1 (al0 2 true) with ⟨s2, a2⟩
  have ha2 : a8a2 = a2 := by unfold a8a2; rw [hs1, q2]
  rw [ha1] at f1 f2 f4 f5
  rw [ha2] at f3 f5
  have Q1 := Lib.hid q1
  have Q2 := Lib.hid q2
  clear hs1 ha1 ha2 q1 q2
  go_enter Try.func93, Try.ntmps93
  go_wp2_with fail
  refine (arena_yes kA8 kA8_ok rfl rfl rfl _).mono ?_
  rintro e w1 ⟨m, rfl, hm1, hn1, ho1⟩
  obtain ⟨hl1, hl2, hl3⟩ := hm1.lts
  obtain ⟨hn1, hn2, hn3⟩ := hn1
  have hz := ho1.size
  have hnx : w1.heap.size ∉ m.l := hm1.notin (Nat.le_refl _)
  have hlm : ∀ x, x ∈ m.l → x < w.heap.size → x ∈ ([] : List Nat) := fun x hx hlt => by
    simp only [List.mem_cons, List.not_mem_nil, or_false] at hx; omega
  have hS := fresh_ASh kA8_ok h60 (n := 2) (N := 4) rfl rfl hm1.rng
  obtain ⟨l1, hS1⟩ := allocRun_ASh (wh := 0) kA8_ok (by decide) 400 0 (freshS kA8) _ (al0 2 false) (by decide) hS (al0_ATh 2 false)
  rw [Q1.out] at hS1
  have HS := Lib.hid hS
  have HS1 := Lib.hid hS1
  have hW : EW w (w1.alloc (.cells #[.int .i64 kA8.t, .int .i64 kA8.s, .int .i64 kA8.c, .int .i64 kA8.w, .int .i64 kA8.g, .int .i64 kA8.p, .int .i64 kA8.r, .pointer (some ⟨m.b, 0, none⟩), .int .i64 0] 47)) m kA8 0 w1.heap.size (freshS kA8) := ⟨hm1.alloc _, Blk.new _ _ _, ho1.alloc _⟩
  clear hm1 ho1 hS hS1
  obtain ⟨v1, hv1⟩ : ∃ v1, a1.x.va = v1 := ⟨_, rfl⟩
  obtain ⟨v2, hv2⟩ : ∃ v2, a2.x.va = v2 := ⟨_, rfl⟩
  obtain ⟨t1, ht1⟩ : ∃ t1, a1.x.st = t1 := ⟨_, rfl⟩
  obtain ⟨t2, ht2⟩ : ∃ t2, a2.x.st = t2 := ⟨_, rfl⟩
  obtain ⟨r2, hr2⟩ : ∃ r2, a2.x.er = r2 := ⟨_, rfl⟩
  rw [ht1] at f4 f5
  rw [ht2] at f5
  have hd1 : a1.x.done = .agg #[.int .i64 0, .int .u64 65536, .int .i64 v1, .int .i64 t1] := by unfold AlS.done; rw [f1, f2, hv1, ht1]
  have hd2 : a2.x.done = .agg #[.int .i64 r2, .int .u64 65537, .int .i64 v2, .int .i64 t2] := by unfold AlS.done; rw [f3, hv2, ht2, hr2]
  have hc1 : ∀ w', MemR w' m (freshS kA8) → Calls Try.prog 94 #[.agg #[.int .i64 kA8.t, .int .i64 kA8.s, .int .i64 kA8.c, .int .i64 kA8.w, .int .i64 kA8.g, .int .i64 kA8.p, .int .i64 kA8.r, .pointer (some ⟨m.b, 0, none⟩), .int .i64 0], .int .i64 2, .bool false] w' fun e w2 => e = .returned (.agg #[.int .i64 0, .int .u64 65536, .int .i64 v1, .int .i64 t1]) ∧ MemR w2 m s1 ∧ Only m.l w' w2 := fun w' h => by
    have := make_alone 2 false kA8_ok (by decide) HS.out (by decide) Q1.out h
    rw [hd1] at this
    exact this
  have hc2 : ∀ w', MemR w' m s1 → Calls Try.prog 94 #[.agg #[.int .i64 kA8.t, .int .i64 kA8.s, .int .i64 kA8.c, .int .i64 kA8.w, .int .i64 kA8.g, .int .i64 kA8.p, .int .i64 kA8.r, .pointer (some ⟨m.b, 0, none⟩), .int .i64 0], .int .i64 2, .bool true] w' fun e w2 => e = .returned (.agg #[.int .i64 r2, .int .u64 65537, .int .i64 v2, .int .i64 t2]) ∧ MemR w2 m s2 ∧ Only m.l w' w2 := fun w' h => by
    have := make_alone 2 true kA8_ok (by decide) HS1.out (by decide) Q2.out h
    rw [hd2] at this
    exact this
  clear hd1 hd2 f1 f2 f3 hv1 hv2 ht1 ht2 hr2
  go_upto_region 4 with fail
  have hM0 := hW.mem
  have hE0 := hW.env
  have hO0 := hW.only
  have hw1 : ∀ (wa wb : World), Only m.l wa wb → (∀ b o, b < wa.heap.size → w1.heap.size ≤ b → wb.cell? ⟨b, o, none⟩ = wa.cell? ⟨b, o, none⟩) ∧ (∀ b o, b < wa.heap.size → w1.heap.size ≤ b → wb.frozen? ⟨b, o, none⟩ = wa.frozen? ⟨b, o, none⟩) := fun wa wb ho => by
    have hn : ∀ b, w1.heap.size ≤ b → b ∉ m.l := fun b hb => by simp only [List.mem_cons, List.not_mem_nil, or_false, not_or]; omega
    exact ⟨fun b o h1 h2 => World.cell?_of_block (w := wa) (ho.block b h1 (hn b h2)), fun b o h1 h2 => by
      have := ho.block b h1 (hn b h2)
      simp only [World.frozen?, this]⟩
  have hnm : ∀ b, w1.heap.size ≤ b → b ∉ m.l := fun b hb => by simp only [List.mem_cons, List.not_mem_nil, or_false, not_or]; omega
  go_cut [3, 4] (fun s3 s4 wx => ∃ b3 b4 : Nat, s3 = .pointer (some ⟨b3, 0, none⟩) ∧ s4 = .pointer (some ⟨b4, 0, none⟩) ∧ Blk wx b3 #[.int .i64 0, .int .u64 65536, .int .i64 v1, .int .i64 t1] 125 ∧ Blk wx b4 #[.int .i64 r2, .int .u64 65537, .int .i64 v2, .int .i64 t2] 125 ∧ Only [] w wx)
  case first =>
    go_region_held3 (fun w' => ∀ o, w'.cell? ⟨w1.heap.size, o, none⟩ = (#[.int .i64 kA8.t, .int .i64 kA8.s, .int .i64 kA8.c, .int .i64 kA8.w, .int .i64 kA8.g, .int .i64 kA8.p, .int .i64 kA8.r, .pointer (some ⟨m.b, 0, none⟩), .int .i64 0] : Array Value)[o]?) ((refine Blk.cell (T := 47) ?_; repeat (first | with_reducible assumption | with_reducible apply Blk.drew | with_reducible apply Blk.alloc | (with_reducible refine Blk.only ?_ (by with_reducible assumption) (by first | exact List.not_mem_nil | with_reducible assumption)) | (with_reducible refine Blk.other ?_ _ _ (by simp only; omega)))))
      (first
        | (go_at_call 94; with_reducible refine (hc1 _ (by repeat (first | with_reducible assumption | with_reducible apply MemR.drew | with_reducible apply MemR.alloc | (with_reducible refine MemR.only ?_ (by with_reducible assumption) List.not_mem_nil List.not_mem_nil List.not_mem_nil) | (with_reducible refine MemR.other ?_ _ _ (by simp only; omega) (by simp only; omega) (by simp only; omega))))).mono ?_; rintro e wa ⟨rfl, hma, hoa⟩; obtain ⟨qa1, qa2⟩ := hw1 _ _ hoa; have hza := hoa.size; (try simp only [World.size_alloc, World.size_drew] at hza); have hza2 : w1.heap.size ≤ wa.heap.size := (by omega); have hza3 : w1.heap.size ≤ wa.heap.size + 1 := (by omega); (try have ka01 := fun o => qa1 (w1.heap.size + 1) o (by first | omega | (simp only [World.size_alloc, World.size_drew]; omega)) (by omega)); (try have ka02 := fun o => qa2 (w1.heap.size + 1) o (by first | omega | (simp only [World.size_alloc, World.size_drew]; omega)) (by omega)); (try have ka11 := fun o => qa1 (w1.heap.size + 1 + 1) o (by first | omega | (simp only [World.size_alloc, World.size_drew]; omega)) (by omega)); (try have ka12 := fun o => qa2 (w1.heap.size + 1 + 1) o (by first | omega | (simp only [World.size_alloc, World.size_drew]; omega)) (by omega)); (try have la1 : w1.heap.size + 1 < wa.heap.size := (by omega)); (try have la2 : w1.heap.size + 1 + 1 < wa.heap.size := (by omega)); clear qa1 qa2)
        | (go_at_call 94; with_reducible refine (hc2 _ (by repeat (first | with_reducible assumption | with_reducible apply MemR.drew | with_reducible apply MemR.alloc | (with_reducible refine MemR.only ?_ (by with_reducible assumption) List.not_mem_nil List.not_mem_nil List.not_mem_nil) | (with_reducible refine MemR.other ?_ _ _ (by simp only; omega) (by simp only; omega) (by simp only; omega))))).mono ?_; rintro e wb ⟨rfl, hmb, hob⟩; obtain ⟨qb1, qb2⟩ := hw1 _ _ hob; have hzb := hob.size; (try simp only [World.size_alloc] at hzb); (try have kb01 := fun o => qb1 (w1.heap.size + 1) o (by first | omega | (simp only [World.size_alloc]; omega)) (by omega)); (try have kb02 := fun o => qb2 (w1.heap.size + 1) o (by first | omega | (simp only [World.size_alloc]; omega)) (by omega)); (try have kb11 := fun o => qb1 (w1.heap.size + 1 + 1) o (by first | omega | (simp only [World.size_alloc]; omega)) (by omega)); (try have kb12 := fun o => qb2 (w1.heap.size + 1 + 1) o (by first | omega | (simp only [World.size_alloc]; omega)) (by omega)); (try have kb21 := fun o => qb1 (wa.heap.size) o (by first | omega | (simp only [World.size_alloc]; omega)) (by omega)); (try have kb22 := fun o => qb2 (wa.heap.size) o (by first | omega | (simp only [World.size_alloc]; omega)) (by omega)); (try have kb31 := fun o => qb1 (wa.heap.size + 1) o (by first | omega | (simp only [World.size_alloc]; omega)) (by omega)); (try have kb32 := fun o => qb2 (wa.heap.size + 1) o (by first | omega | (simp only [World.size_alloc]; omega)) (by omega)); (try have lb1 : w1.heap.size + 1 < wb.heap.size := (by omega)); (try have lb2 : w1.heap.size + 1 + 1 < wb.heap.size := (by omega)); (try have lb3 : wa.heap.size < wb.heap.size := (by omega)); (try have lb4 : wa.heap.size + 1 < wb.heap.size := (by omega)); clear qb1 qb2))
    all_goals
      go_wp2_with fail
      go_meet
      refine ⟨_, _, rfl, rfl, ?_, ?_, ?_⟩
      · repeat (first | ((with_reducible refine Blk.new' ?_ rfl); (first | with_reducible rfl | (simp only [World.size_alloc, World.size_setCell]; done))) | with_reducible apply Blk.drew | with_reducible apply Blk.alloc | (with_reducible refine Blk.other ?_ _ _ (by simp only; omega)) | (with_reducible refine Blk.set4 (a0 := .int .i64 0) (a1 := .int .u64 0) (a2 := .int .i64 0) (a3 := .int .i64 0) ?_) | (with_reducible refine Blk.only ?_ hob (hnm _ (by omega))) | (with_reducible refine Blk.only ?_ hoa (hnm _ (by omega))))
      · repeat (first | ((with_reducible refine Blk.new' ?_ rfl); (first | with_reducible rfl | (simp only [World.size_alloc, World.size_setCell]; done))) | with_reducible apply Blk.drew | with_reducible apply Blk.alloc | (with_reducible refine Blk.other ?_ _ _ (by simp only; omega)) | (with_reducible refine Blk.set4 (a0 := .int .i64 0) (a1 := .int .u64 0) (a2 := .int .i64 0) (a3 := .int .i64 0) ?_) | (with_reducible refine Blk.only ?_ hob (hnm _ (by omega))) | (with_reducible refine Blk.only ?_ hoa (hnm _ (by omega))))
      · repeat (first | with_reducible exact hO0 | with_reducible apply Only.drew | with_reducible apply Only.alloc | (with_reducible refine Only.setCell ?_ _ _ (fun hh => absurd hh (by simp only; omega))) | (with_reducible refine Only.trans' ?_ hob hlm) | (with_reducible refine Only.trans' ?_ hoa hlm))
  case rest =>
    obtain ⟨b3, b4, rfl, rfl, hB3, hB4, hO⟩ := hcut
    have hc3 := hB3.cell
    have hc4 := hB4.cell
    clear hc1 hc2 hw1
    go_wp2
    go_ret
    exact ⟨rfl, hO⟩

end Go.Proofs.Yteoimmjgnflmmaa
