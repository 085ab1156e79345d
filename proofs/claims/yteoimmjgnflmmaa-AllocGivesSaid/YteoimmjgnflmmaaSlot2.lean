/-
  A slot is taken, and given back, by a thread alone.
-/
import Derived.Test.YteoimmjgnflmmaaSlot
namespace Go.Proofs.Yteoimmjgnflmmaa
open Go.RowKit

section
variable {w : World} {m : MB} {s s' : MS}

theorem take_step (k : Cfg) (wh : Int) (p : TakeS) (tb : Nat) {b : Bool} {p' : TakeS} (hst : takeStep k wh s p = (b, s', p')) (hm : MemR w m s) (hb : Blk w tb p.cs 72) (hpc : p.pc = 0 ∨ p.pc = 1 ∨ (p.pc = 2 ∧ U64 p.top ∧ -1 ≤ p.next ∧ p.next < 131072)) (n1 : tb ≠ m.b) (n2 : tb ≠ m.wb) (n3 : tb ≠ m.hb) :
    Calls Try.prog 65 #[.pointer (some ⟨tb, 0, none⟩), .agg #[.int .i64 k.t, .int .i64 k.s, .int .i64 k.c, .int .i64 k.w, .int .i64 k.g, .int .i64 k.p, .int .i64 k.r, .pointer (some ⟨m.b, 0, none⟩), .int .i64 wh]] w fun e w' =>
      e = .returned (.bool b) ∧ MemR w' m s' ∧ Blk w' tb p'.cs 72 ∧ Only [m.b, m.wb, m.hb, tb] w w' := by
  unfold takeStep at hst
  rcases hpc with h | h | ⟨h, hU, h0, h1⟩
  · rw [if_pos h] at hst
    simp only [Prod.mk.injEq] at hst
    obtain ⟨rfl, rfl, rfl⟩ := hst
    exact take_step0 k wh p tb hm hb h n1 n2 n3
  · rw [if_neg (by omega), if_pos h] at hst
    simp only [Prod.mk.injEq] at hst
    obtain ⟨rfl, rfl, rfl⟩ := hst
    exact take_step1 k wh p tb hm hb h n1 n2 n3
  · rw [if_neg (by omega), if_neg (by omega)] at hst
    simp only [Prod.mk.injEq] at hst
    obtain ⟨rfl, rfl, rfl⟩ := hst
    exact take_step2 k wh p tb hm hb h hU h0 h1 n1 n2 n3

theorem give_step (k : Cfg) (wh : Int) (p : GiveS) (tb : Nat) {b : Bool} {p' : GiveS} (hst : giveStep k wh s p = (b, s', p')) (hm : MemR w m s) (hb : Blk w tb p.cs 142) (hpc : p.pc = 0 ∨ p.pc = 1 ∨ p.pc = 2) (hU : U64 p.top) (h0 : 0 ≤ p.slot) (h1 : p.slot < 131072) (n1 : tb ≠ m.b) (n2 : tb ≠ m.wb) (n3 : tb ≠ m.hb) :
    Calls Try.prog 76 #[.pointer (some ⟨tb, 0, none⟩), .agg #[.int .i64 k.t, .int .i64 k.s, .int .i64 k.c, .int .i64 k.w, .int .i64 k.g, .int .i64 k.p, .int .i64 k.r, .pointer (some ⟨m.b, 0, none⟩), .int .i64 wh]] w fun e w' =>
      e = .returned (.bool b) ∧ MemR w' m s' ∧ Blk w' tb p'.cs 142 ∧ Only [m.b, m.wb, m.hb, tb] w w' := by
  unfold giveStep at hst
  rcases hpc with h | h | h
  · rw [if_pos h] at hst
    simp only [Prod.mk.injEq] at hst
    obtain ⟨rfl, rfl, rfl⟩ := hst
    exact give_step0 k wh p tb hm hb h hU n1 n2 n3
  · rw [if_neg (by omega), if_pos h] at hst
    simp only [Prod.mk.injEq] at hst
    obtain ⟨rfl, rfl, rfl⟩ := hst
    exact give_step1 k wh p tb hm hb h hU n1 n2 n3
  · rw [if_neg (by omega), if_neg (by omega)] at hst
    simp only [Prod.mk.injEq] at hst
    obtain ⟨rfl, rfl, rfl⟩ := hst
    exact give_step2 k wh p tb hm hb h hU h0 h1 n1 n2 n3

set_option maxHeartbeats 400000 in
theorem tslot_any (p : TakeS) (tb : Nat) (hb : Blk w tb p.cs 72) : Calls Try.prog 66 #[.pointer (some ⟨tb, 0, none⟩)] w fun e w' => e = .returned (.tuple #[.int .i64 (if p.ok = true then p.slot else 0), .bool p.ok]) ∧ w = w' := by
  obtain ⟨pc, top, next, slot, ok⟩ := p
  replace hb : Blk w tb #[.int .i64 pc, .int .u64 top, .int .i64 next, .int .i64 slot, .bool ok] 72 := hb
  have hc := hb.cell
  cases ok
  · go_enter Try.func66, Try.ntmps66
    go_wp2
    go_ret2
    exact ⟨rfl, rfl⟩
  · go_enter Try.func66, Try.ntmps66
    go_wp2
    go_ret2
    exact ⟨rfl, rfl⟩

set_option maxHeartbeats 400000 in
theorem newgive_any (g : Int) (w : World) : Calls Try.prog 77 #[.int .i64 g] w fun e w' => e = .returned (.pointer (some ⟨w.heap.size, 0, none⟩)) ∧ w' = w.alloc (.cells (⟨0, g, 0⟩ : GiveS).cs 142) := by
  go_enter Try.func77, Try.ntmps77
  go_wp2
  go_ret
  exact ⟨rfl, rfl⟩

/-- A call's own box of an arena, and a block of its own behind it. -/
structure BW (w wr : World) (m : MB) (k : Cfg) (wh : Int) (s : MS) (tb : Nat) (cs : Array Value) (T : Nat) : Prop where
  mem : MemR wr m s
  env : Blk wr w.heap.size #[.int .i64 k.t, .int .i64 k.s, .int .i64 k.c, .int .i64 k.w, .int .i64 k.g, .int .i64 k.p, .int .i64 k.r, .pointer (some ⟨m.b, 0, none⟩), .int .i64 wh] 47
  obj : Blk wr tb cs T
  only : Only m.l w wr
theorem BW.step {wr w1 : World} {k : Cfg} {wh : Int} {tb T : Nat} {cs cs' : Array Value} (h : BW w wr m k wh s tb cs T) (a1 : w.heap.size ∉ m.l) (a2 : w.heap.size < tb) (h1 : MemR w1 m s') (h2 : Blk w1 tb cs' T) (h3 : Only [m.b, m.wb, m.hb, tb] wr w1) : BW w w1 m k wh s' tb cs' T := by
  refine ⟨h1, h.env.only h3 ?_, h2, h.only.trans' h3 ?_⟩
  · simp only [List.mem_cons, List.not_mem_nil, or_false, not_or] at a1 ⊢; omega
  · intro x hx hlt
    simp only [List.mem_cons, List.not_mem_nil, or_false] at hx ⊢
    omega
theorem BW.alloc {wr : World} {k : Cfg} {wh : Int} {tb T : Nat} {cs : Array Value} (h : BW w wr m k wh s tb cs T) (o : Obj) : BW w (wr.alloc o) m k wh s tb cs T :=
  ⟨h.mem.alloc o, h.env.alloc o, h.obj.alloc o, h.only.alloc o⟩
theorem BW.drew {wr : World} {k : Cfg} {wh : Int} {tb T : Nat} {cs : Array Value} (h : BW w wr m k wh s tb cs T) : BW w wr.drew m k wh s tb cs T :=
  ⟨h.mem.drew, h.env.drew, h.obj.drew, h.only.drew⟩

theorem wrap_steps1 (x : Int) : wrap64 (wrap64 (x + 1) - x) = 1 := by unfold wrap64; omega
theorem wrap_steps3 (x : Int) : wrap64 (wrap64 (wrap64 (wrap64 (x + 1) + 1) + 1) - x) = 3 := by unfold wrap64; omega

theorem load_steps (s : MS) {a : Int} (h : s.ok a) : (s.load a).steps = wrap64 (s.steps + 1) := by unfold MS.load; rw [if_pos h]; rfl
theorem store_steps (s : MS) {a v : Int} (h : s.ok a) : (s.store a v).steps = wrap64 (s.steps + 1) := by unfold MS.store; rw [if_pos h]; rfl
theorem cas_steps (s : MS) {a o v : Int} (h : s.ok a) : (s.cas a o v).steps = wrap64 (s.steps + 1) := by
  unfold MS.cas; rw [if_pos h]; split <;> rfl

/-- What a memory is behind a slot's being taken, given back. -/
structure Took (k : Cfg) (n : Nat) (s s' : MS) (l : List Int) : Prop where
  fr : Fr k n s' l
  top : topN (s'.at 1) = topN (s.at 1) + 1
  len : s'.ws.length = s.ws.length
  same : ∀ a, 0 ≤ a → a ≠ 1 → s'.at a = s.at a

set_option maxRecDepth 100000 in
set_option maxHeartbeats 1600000 in
theorem take_none (k : Cfg) (wh : Int) (n : Nat) (hk : k.Ok) (hm : MemR w m s) (hf : Fr k n s []) :
    Calls Try.prog 64 #[.agg #[.int .i64 k.t, .int .i64 k.s, .int .i64 k.c, .int .i64 k.w, .int .i64 k.g, .int .i64 k.p, .int .i64 k.r, .pointer (some ⟨m.b, 0, none⟩), .int .i64 wh]] w fun e w' => e = .returned (.tuple #[.int .i64 0, .bool false, .int .i64 1]) ∧ MemR w' m ((s.by wh).load 1) ∧ Only m.l w w' := by
  obtain ⟨hl1, hl2, hl3⟩ := hm.lts
  have hnx : w.heap.size ∉ m.l := hm.notin (Nat.le_refl _)
  have n1 : w.heap.size + 1 ≠ m.b := by omega
  have n2 : w.heap.size + 1 ≠ m.wb := by omega
  have n3 : w.heap.size + 1 ≠ m.hb := by omega
  have hok1 := hf.ok1 hk
  have hg : s.get 1 = s.at 1 := get_ok s 1 hok1
  have htop : topS (s.get 1) < 0 := by rw [hg, hf.nil]; decide
  have hd : decide (topS (s.get 1) < 0) = true := decide_eq_true htop
  have hW : BW w ((w.alloc (.cells #[.int .i64 k.t, .int .i64 k.s, .int .i64 k.c, .int .i64 k.w, .int .i64 k.g, .int .i64 k.p, .int .i64 k.r, .pointer (some ⟨m.b, 0, none⟩), .int .i64 wh] 47)).alloc (.cells (⟨0, 0, 0, 0, false⟩ : TakeS).cs 72)) m k wh s (w.heap.size + 1) (⟨0, 0, 0, 0, false⟩ : TakeS).cs 72 :=
    ⟨(hm.alloc _).alloc _, (Blk.new w _ 47).alloc _, Blk.new' (by simp) rfl, ((Only.refl _ w).alloc _).alloc _⟩
  have hst := load_steps (s.by wh) (a := 1) hok1
  have HS := Lib.hid hst
  clear hst hok1 hg htop hf
  go_enter Try.func64, Try.ntmps64
  go_wp2_with fail
  refine (now_env k wh hW.mem).mono ?_
  rintro e w0 ⟨rfl, rfl⟩
  replace hW := hW.alloc (.cells #[.int .i64 k.t, .int .i64 k.s, .int .i64 k.c, .int .i64 k.w, .int .i64 k.g, .int .i64 k.p, .int .i64 k.r, .pointer (some ⟨m.b, 0, none⟩), .int .i64 wh] 47)
  have hEc := hW.env.cell
  go_wp2
  refine wp_loop_rounds 1 ?_
  rw [rounds_succ]
  go_wp2_with fail
  refine (take_step0 k wh ⟨0, 0, 0, 0, false⟩ _ hW.mem hW.obj rfl n1 n2 n3).mono ?_
  rintro e w1 ⟨rfl, h1, h2, h3⟩
  have hW1 := hW.step hnx (by omega) h1 h2 h3
  have hEc1 := hW1.env.cell
  clear hEc
  rw [hd]
  go_wp2_with fail
  refine (tslot_any _ _ hW1.obj).mono ?_
  rintro e w2 ⟨rfl, rfl⟩
  go_wp2_with (first | (go_at_call 61; refine (now_env k wh hW1.mem).mono ?_; rintro e w2 ⟨rfl, rfl⟩))
  go_ret3
  exact ⟨by rw [HS.out]; exact congrArg (fun x => Ending.returned (.tuple #[.int .i64 0, .bool false, .int .i64 x])) (wrap_steps1 s.steps), hW1.mem.alloc _, hW1.only.alloc _⟩

set_option maxRecDepth 100000 in
set_option maxHeartbeats 1600000 in
theorem take_some (k : Cfg) (wh : Int) (n : Nat) (hn : n ≤ 65536) (i : Int) (l : List Int) (hk : k.Ok) (hm : MemR w m s) (hf : Fr k n s (i :: l)) (hc : topN (s.at 1) < 68719476735) :
    Calls Try.prog 64 #[.agg #[.int .i64 k.t, .int .i64 k.s, .int .i64 k.c, .int .i64 k.w, .int .i64 k.g, .int .i64 k.p, .int .i64 k.r, .pointer (some ⟨m.b, 0, none⟩), .int .i64 wh]] w fun e w' => e = .returned (.tuple #[.int .i64 i, .bool true, .int .i64 3]) ∧ (∃ s', MemR w' m s' ∧ Took k n s s' l) ∧ Only m.l w w' := by
  obtain ⟨hl1, hl2, hl3⟩ := hm.lts
  have hnx : w.heap.size ∉ m.l := hm.notin (Nat.le_refl _)
  have n1 : w.heap.size + 1 ≠ m.b := by omega
  have n2 : w.heap.size + 1 ≠ m.wb := by omega
  have n3 : w.heap.size + 1 ≠ m.hb := by omega
  have hok1 : s.ok 1 := hf.ok1 hk
  have hir := hf.head_rg
  have hokL : s.ok (aLink k i) := hf.okL hk hn hir.1 hir.2
  have hg : s.get 1 = s.at 1 := get_ok s 1 hok1
  have hi : topS (s.at 1) = i := hf.head
  have hnr := hf.next_rg hn
  have hd : decide (topS (s.get 1) < 0) = false := decide_eq_false (by rw [hg, hi]; omega)
  have hW : BW w ((w.alloc (.cells #[.int .i64 k.t, .int .i64 k.s, .int .i64 k.c, .int .i64 k.w, .int .i64 k.g, .int .i64 k.p, .int .i64 k.r, .pointer (some ⟨m.b, 0, none⟩), .int .i64 wh] 47)).alloc (.cells (⟨0, 0, 0, 0, false⟩ : TakeS).cs 72)) m k wh s (w.heap.size + 1) (⟨0, 0, 0, 0, false⟩ : TakeS).cs 72 :=
    ⟨(hm.alloc _).alloc _, (Blk.new w _ 47).alloc _, Blk.new' (by simp) rfl, ((Only.refl _ w).alloc _).alloc _⟩
  have hU : U64 (s.get 1) := hm.get_rng 1
  obtain ⟨s1, hs1⟩ : ∃ s1, s1 = (s.by wh).load 1 := ⟨_, rfl⟩
  obtain ⟨s2, hs2⟩ : ∃ s2, s2 = (s1.by wh).load (aLink k i) := ⟨_, rfl⟩
  obtain ⟨s3, hs3⟩ : ∃ s3, s3 = (s2.by wh).cas 1 (s.get 1) (putTop (lk k s i) (topN (s.get 1) + 1)) := ⟨_, rfl⟩
  have hl1w : s1.ws = s.ws := by rw [hs1, load_ws]; rfl
  have hl2w : s2.ws = s.ws := by rw [hs2, load_ws]; exact hl1w
  have ha2 : ∀ a, s2.at a = s.at a := fun a => by unfold MS.at; rw [hl2w]
  have hok2 : (s2.by wh).ok 1 := by show 0 ≤ 1 ∧ (1 : Int) < (s2.ws.length : Int); rw [hl2w]; exact hok1
  have hok1L : (s1.by wh).ok (aLink k i) := by show 0 ≤ aLink k i ∧ aLink k i < (s1.ws.length : Int); rw [hl1w]; exact hokL
  have hgl : s1.get (aLink k i) = s.at (aLink k i) := by
    rw [get_ok _ _ (show s1.ok (aLink k i) from hok1L)]
    unfold MS.at; rw [hl1w]
  have hcan : s2.can 1 (s.get 1) = true := by
    unfold MS.can
    exact decide_eq_true ⟨hok2, by rw [ha2, hg]⟩
  have hat : ∀ a, 0 ≤ a → s3.at a = if a = 1 then putTop (lk k s i) (topN (s.at 1) + 1) else s.at a := fun a ha => by
    rw [hs3, cas_at _ _ _ _ _ hok2 ha, by_at, by_at, ha2, ha2, hg]
    by_cases h : a = 1
    · rw [if_pos ⟨h, rfl⟩, if_pos h]
    · rw [if_neg (fun x => h x.1), if_neg h]
  have hl3w : s3.ws.length = s.ws.length := by rw [hs3, cas_len]; show s2.ws.length = _; rw [hl2w]
  have hT : Took k n s s3 l := ⟨hf.pop hk hn hl3w hat, by rw [hat 1 (by decide), if_pos rfl, topN_put hnr.1 hnr.2 (by have := topN_rng (x := s.at 1); omega) (by omega)], hl3w, fun a ha hne => by rw [hat a ha, if_neg hne]⟩
  have hst : s3.steps = wrap64 (wrap64 (wrap64 (s.steps + 1) + 1) + 1) := by
    rw [hs3, cas_steps _ hok2]
    show wrap64 (s2.steps + 1) = _
    rw [hs2, load_steps _ hok1L]
    show wrap64 (wrap64 (s1.steps + 1) + 1) = _
    rw [hs1, load_steps (s.by wh) (a := 1) hok1]
    rfl
  have HS := Lib.hid hst
  have HT := Lib.hid hT
  have hi' : topS (s.get 1) = i := by rw [hg]; exact hi
  have HI := Lib.hid hi'
  clear hi'
  have HG := Lib.hid hgl
  have HC := Lib.hid hcan
  have HR := Lib.hid hnr
  have H1 := Lib.hid hs1
  have H2 := Lib.hid hs2
  have H3 := Lib.hid hs3
  clear hst hok1 hir hokL hi hnr hf hT hat hl3w ha2 hl1w hl2w hok2 hok1L hg hgl hcan hc hs1 hs2 hs3
  go_enter Try.func64, Try.ntmps64
  go_wp2_with fail
  refine (now_env k wh hW.mem).mono ?_
  rintro e w0 ⟨rfl, rfl⟩
  replace hW := hW.alloc (.cells #[.int .i64 k.t, .int .i64 k.s, .int .i64 k.c, .int .i64 k.w, .int .i64 k.g, .int .i64 k.p, .int .i64 k.r, .pointer (some ⟨m.b, 0, none⟩), .int .i64 wh] 47)
  have hEc := hW.env.cell
  go_wp2
  refine wp_loop_rounds 3 ?_
  rw [rounds_succ]
  go_wp2_with fail
  refine (take_step0 k wh ⟨0, 0, 0, 0, false⟩ _ hW.mem hW.obj rfl n1 n2 n3).mono ?_
  rintro e w1 ⟨rfl, h1, h2, h3⟩
  have hW1 := hW.step hnx (by omega) h1 h2 h3
  rw [hd]
  rw [← H1.out, HI.out] at hW1
  clear hEc hW h1 h2 h3
  have hW := hW1
  have hEc := hW.env.cell
  clear hW1
  go_wp2
  rw [rounds_succ]
  go_wp2_with fail
  refine (take_step1 k wh ⟨1, s.get 1, 0, i, false⟩ _ hW.mem hW.obj rfl n1 n2 n3).mono ?_
  rintro e w1 ⟨rfl, h1, h2, h3⟩
  have hW1 := hW.step hnx (by omega) h1 h2 h3
  have hlk : topS (s1.get (aLink k i)) = lk k s i := by rw [HG.out]; rfl
  simp only [hlk] at hW1
  clear hlk
  rw [← H2.out] at hW1
  clear hEc hW h1 h2 h3
  have hW := hW1
  have hEc := hW.env.cell
  clear hW1
  go_wp2
  rw [rounds_succ]
  go_wp2_with fail
  refine (take_step2 k wh ⟨2, s.get 1, lk k s i, i, false⟩ _ hW.mem hW.obj rfl hU HR.out.1 (by have := HR.out.2; simp only; omega) n1 n2 n3).mono ?_
  rintro e w1 ⟨rfl, h1, h2, h3⟩
  have hW1 := hW.step hnx (by omega) h1 h2 h3
  simp only at hW1
  rw [HC.out]
  rw [← H3.out, HC.out] at hW1
  clear hEc hW h1 h2 h3
  have hW := hW1
  have hEc := hW.env.cell
  clear hW1
  go_wp2_with fail
  refine (tslot_any _ _ hW.obj).mono ?_
  rintro e w2 ⟨rfl, rfl⟩
  go_wp2_with (first | (go_at_call 61; refine (now_env k wh hW.mem).mono ?_; rintro e w2 ⟨rfl, rfl⟩))
  go_ret3
  exact ⟨by rw [HS.out]; exact congrArg (fun x => Ending.returned (.tuple #[.int .i64 i, .bool true, .int .i64 x])) (wrap_steps3 s.steps), ⟨s3, hW.mem.alloc _, HT.out⟩, hW.only.alloc _⟩

/-- What a memory is behind a slot's being given back. -/
structure Gave (k : Cfg) (n : Nat) (s s' : MS) (g : Int) (l : List Int) : Prop where
  fr : Fr k n s' (g :: l)
  top : topN (s'.at 1) = topN (s.at 1) + 1
  len : s'.ws.length = s.ws.length
  same : ∀ a, 0 ≤ a → a ≠ 1 → a ≠ aLink k g → s'.at a = s.at a

set_option maxRecDepth 100000 in
set_option maxHeartbeats 1600000 in
theorem give_alone (k : Cfg) (wh : Int) (n : Nat) (hn : n ≤ 65536) (g : Int) (l : List Int) (hk : k.Ok) (hm : MemR w m s) (hf : Fr k n s l) (hg0 : 0 ≤ g) (hg1 : g < (n : Int)) (hgl : g ∉ l) (hc : topN (s.at 1) < 68719476735) :
    Calls Try.prog 75 #[.agg #[.int .i64 k.t, .int .i64 k.s, .int .i64 k.c, .int .i64 k.w, .int .i64 k.g, .int .i64 k.p, .int .i64 k.r, .pointer (some ⟨m.b, 0, none⟩), .int .i64 wh], .int .i64 g] w fun e w' => e = .returned (.int .i64 3) ∧ (∃ s', MemR w' m s' ∧ Gave k n s s' g l) ∧ Only m.l w w' := by
  obtain ⟨hl1, hl2, hl3⟩ := hm.lts
  have hnx : w.heap.size ∉ m.l := hm.notin (Nat.le_refl _)
  have n1 : w.heap.size + 1 ≠ m.b := by omega
  have n2 : w.heap.size + 1 ≠ m.wb := by omega
  have n3 : w.heap.size + 1 ≠ m.hb := by omega
  have hok1 : s.ok 1 := hf.ok1 hk
  have hokL : s.ok (aLink k g) := hf.okL hk hn hg0 hg1
  have hg : s.get 1 = s.at 1 := get_ok s 1 hok1
  have hfr := hf.first_rg hn
  have e := aLink_ok hk hg0 (by omega)
  have ht0 := hk.t0
  have hW0 : BW w ((w.alloc (.cells #[.int .i64 k.t, .int .i64 k.s, .int .i64 k.c, .int .i64 k.w, .int .i64 k.g, .int .i64 k.p, .int .i64 k.r, .pointer (some ⟨m.b, 0, none⟩), .int .i64 wh] 47)).alloc (.cells (⟨0, g, 0⟩ : GiveS).cs 142)) m k wh s (w.heap.size + 1) (⟨0, g, 0⟩ : GiveS).cs 142 :=
    ⟨(hm.alloc _).alloc _, (Blk.new w _ 47).alloc _, Blk.new' (by simp) rfl, ((Only.refl _ w).alloc _).alloc _⟩
  have hU : U64 (s.get 1) := hm.get_rng 1
  obtain ⟨s1, hs1⟩ : ∃ s1, s1 = (s.by wh).load 1 := ⟨_, rfl⟩
  obtain ⟨s2, hs2⟩ : ∃ s2, s2 = (s1.by wh).store (aLink k g) (putTop (topS (s.get 1)) 0) := ⟨_, rfl⟩
  obtain ⟨s3, hs3⟩ : ∃ s3, s3 = (s2.by wh).cas 1 (s.get 1) (putTop g (topN (s.get 1) + 1)) := ⟨_, rfl⟩
  have hl1w : s1.ws = s.ws := by rw [hs1, load_ws]; rfl
  have hok1L : (s1.by wh).ok (aLink k g) := by show 0 ≤ aLink k g ∧ aLink k g < (s1.ws.length : Int); rw [hl1w]; exact hokL
  have hl2w : s2.ws.length = s.ws.length := by rw [hs2, store_len]; show s1.ws.length = _; rw [hl1w]
  have ha1 : ∀ a, s1.at a = s.at a := fun a => by unfold MS.at; rw [hl1w]
  have ha2 : ∀ a, 0 ≤ a → s2.at a = if a = aLink k g then putTop (topS (s.get 1)) 0 else s.at a := fun a ha => by
    rw [hs2, store_at _ _ _ _ hok1L ha, by_at, ha1]
  have h21 : s2.at 1 = s.at 1 := by rw [ha2 1 (by decide), if_neg (by omega)]
  have hok2 : (s2.by wh).ok 1 := by show 0 ≤ 1 ∧ (1 : Int) < (s2.ws.length : Int); rw [hl2w]; exact hok1
  have hcan : s2.can 1 (s.get 1) = true := by
    unfold MS.can
    exact decide_eq_true ⟨hok2, by rw [h21, hg]⟩
  have hf2 : Fr k n s2 l := hf.link hk hn hgl hg0 hg1 hl2w ha2
  have hat : ∀ a, 0 ≤ a → s3.at a = if a = 1 then putTop g (topN (s.at 1) + 1) else s2.at a := fun a ha => by
    rw [hs3, cas_at _ _ _ _ _ hok2 ha, by_at, by_at, h21, hg]
    by_cases h : a = 1
    · rw [if_pos ⟨h, rfl⟩, if_pos h]
    · rw [if_neg (fun x => h x.1), if_neg h]
  have hl3w : s3.ws.length = s2.ws.length := by rw [hs3, cas_len]; rfl
  have hlk : lk k s2 g = topS (s2.at 1) := by
    unfold lk
    rw [ha2 _ hokL.1, if_pos rfl, h21, hg, topS_put hfr.1 hfr.2]
  have hT : Gave k n s s3 g l := ⟨hf2.push hk hn hgl hg0 hg1 hlk hl3w hat, by rw [hat 1 (by decide), if_pos rfl, topN_put (by omega) (by omega) (by have := topN_rng (x := s.at 1); omega) (by omega)], hl3w.trans hl2w, fun a ha hne hnl => by rw [hat a ha, if_neg hne, ha2 a ha, if_neg hnl]⟩
  have hst : s3.steps = wrap64 (wrap64 (wrap64 (s.steps + 1) + 1) + 1) := by
    rw [hs3, cas_steps _ hok2]
    show wrap64 (s2.steps + 1) = _
    rw [hs2, store_steps _ hok1L]
    show wrap64 (wrap64 (s1.steps + 1) + 1) = _
    rw [hs1, load_steps (s.by wh) (a := 1) hok1]
    rfl
  have HS := Lib.hid hst
  have HT := Lib.hid hT
  have HC := Lib.hid hcan
  have H1 := Lib.hid hs1
  have H2 := Lib.hid hs2
  have H3 := Lib.hid hs3
  have HX := Lib.hid (show g < 131072 by omega)
  clear hst hok1 hokL hfr hf hT hat hl3w ha1 ha2 hl1w hl2w hok2 hok1L hg hgl hcan hc hs1 hs2 hs3 hf2 hlk h21 e ht0 hg1
  go_enter Try.func75, Try.ntmps75
  go_wp2
  have hE0 := Blk.new w #[.int .i64 k.t, .int .i64 k.s, .int .i64 k.c, .int .i64 k.w, .int .i64 k.g, .int .i64 k.p, .int .i64 k.r, .pointer (some ⟨m.b, 0, none⟩), .int .i64 wh] 47
  have hWd := hW0.drew
  have hWe := (hW0.alloc (.cells #[.int .i64 k.t, .int .i64 k.s, .int .i64 k.c, .int .i64 k.w, .int .i64 k.g, .int .i64 k.p, .int .i64 k.r, .pointer (some ⟨m.b, 0, none⟩), .int .i64 wh] 47)).drew
  go_region_held3 (fun w' => ∀ o, w'.cell? ⟨w.heap.size, o, none⟩ = (#[.int .i64 k.t, .int .i64 k.s, .int .i64 k.c, .int .i64 k.w, .int .i64 k.g, .int .i64 k.p, .int .i64 k.r, .pointer (some ⟨m.b, 0, none⟩), .int .i64 wh] : Array Value)[o]?) ((refine Blk.cell (T := 47) ?_; repeat (first | with_reducible assumption | with_reducible apply Blk.drew | with_reducible apply Blk.alloc | (with_reducible refine Blk.only ?_ (by with_reducible assumption) (by first | exact List.not_mem_nil | with_reducible assumption)) | (with_reducible refine Blk.other ?_ _ _ (by simp only; omega)))))
    (first
      | (go_at_call 77; refine (newgive_any _ _).mono ?_; rintro e w' ⟨rfl, rfl⟩)
      | (go_at_call 61; refine (now_env k wh hWd.mem).mono ?_; rintro e w' ⟨rfl, rfl⟩))
  all_goals
    clear hE0 hWd hW0
    have hW := hWe
    have hEc := hW.env.cell
    clear hWe
    go_wp2
    refine wp_loop_rounds 3 ?_
    rw [rounds_succ]
    go_wp2_with fail
    refine (give_step0 k wh ⟨0, g, 0⟩ _ hW.mem hW.obj rfl (show U64 0 from ⟨by decide, by decide⟩) n1 n2 n3).mono ?_
    rintro e w1 ⟨rfl, h1, h2, h3⟩
    have hW1 := hW.step hnx (by omega) h1 h2 h3
    rw [← H1.out] at hW1
    clear hEc hW h1 h2 h3
    have hW := hW1
    have hEc := hW.env.cell
    clear hW1
    go_wp2
    rw [rounds_succ]
    go_wp2_with fail
    refine (give_step1 k wh ⟨1, g, s.get 1⟩ _ hW.mem hW.obj rfl hU n1 n2 n3).mono ?_
    rintro e w1 ⟨rfl, h1, h2, h3⟩
    have hW1 := hW.step hnx (by omega) h1 h2 h3
    simp only at hW1
    rw [← H2.out] at hW1
    clear hEc hW h1 h2 h3
    have hW := hW1
    have hEc := hW.env.cell
    clear hW1
    go_wp2
    rw [rounds_succ]
    go_wp2_with fail
    refine (give_step2 k wh ⟨2, g, s.get 1⟩ _ hW.mem hW.obj rfl hU hg0 HX.out n1 n2 n3).mono ?_
    rintro e w1 ⟨rfl, h1, h2, h3⟩
    have hW1 := hW.step hnx (by omega) h1 h2 h3
    simp only at hW1
    rw [HC.out]
    rw [← H3.out] at hW1
    clear hEc hW h1 h2 h3
    have hW := hW1
    have hEc := hW.env.cell
    clear hW1
    go_wp2_with (first | (go_at_call 61; refine (now_env k wh hW.mem).mono ?_; rintro e w2 ⟨rfl, rfl⟩))
    go_ret
    exact ⟨by rw [HS.out]; exact congrArg (fun x => Ending.returned (.int .i64 x)) (wrap_steps3 s.steps), ⟨s3, hW.mem.alloc _, HT.out⟩, hW.only.alloc _⟩

end
end Go.Proofs.Yteoimmjgnflmmaa
