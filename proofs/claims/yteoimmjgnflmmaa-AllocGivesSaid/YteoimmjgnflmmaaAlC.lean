/-
  What somebody does, step by step, who makes an object: its steps by themselves.
-/
import Derived.Test.YteoimmjgnflmmaaAlT
import Derived.Test.YteoimmjgnflmmaaPl4
import Derived.Test.YteoimmjgnflmmaaPlA
import Derived.Test.YteoimmjgnflmmaaRef
namespace Go.Proofs.Yteoimmjgnflmmaa
open Go.RowKit Go.BigFrame

section
variable {w : World} {m : MB} {s : MS}

theorem anew_any (g : Int) (o : Bool) (w : World) : Calls Try.prog 96 #[.int .i64 g, .bool o] w fun e w' => e = .returned (.pointer (some ⟨w.heap.size, 0, none⟩)) ∧ w' = w.alloc (.cells (⟨g, o, 0, ⟨0, 0, 0, 0, false⟩, 0, 0, .pointer none, 0, 0, .pointer none, 0, 0, 0, 0⟩ : AlS).cs 150) := by
  go_enter Try.func96, Try.ntmps96
  go_wp2
  go_ret
  exact ⟨rfl, rfl⟩

set_option maxRecDepth 100000 in
set_option maxHeartbeats 800000 in
theorem aend_any (k : Cfg) (wh : Int) (x : AlS) (tb : Nat) (z : Int) (hm : MemR w m s) (hb : Blk w tb x.cs 150) (n1 : tb ≠ m.b) (n2 : tb ≠ m.wb) (n3 : tb ≠ m.hb) :
    Calls Try.prog 110 #[.pointer (some ⟨tb, 0, none⟩), .agg #[.int .i64 k.t, .int .i64 k.s, .int .i64 k.c, .int .i64 k.w, .int .i64 k.g, .int .i64 k.p, .int .i64 k.r, .pointer (some ⟨m.b, 0, none⟩), .int .i64 wh], .int .i64 z] w fun e w' =>
      e = .returned (.tuple #[]) ∧ MemR w' m s ∧ Blk w' tb ({ x with er := z, hd := 0, va := 0, st := s.steps } : AlS).cs 150 ∧ Only [tb] w w' := by
  obtain ⟨sz, own, apc, ⟨pc, top, next, slot, ok⟩, at_, gn, pv, sa, sc, gv, er, hd, va, st⟩ := x
  replace hb : Blk w tb #[.int .i64 sz, .bool own, .int .i64 apc, .int .i64 pc, .int .u64 top, .int .i64 next, .int .i64 slot, .bool ok, .int .i64 at_, .int .i64 gn, pv, .int .i64 sa, .int .i64 sc, gv, .int .i64 er, .int .u64 hd, .int .i64 va, .int .i64 st] 150 := hb
  have hc := hb.cell
  have hf := hb.frozen
  have ht := hb.lt
  go_enter Try.func110, Try.ntmps110
  go_wp2_with (first | (go_at_call 61; refine (now_env k wh (hm.alloc _)).mono ?_; rintro e w' ⟨rfl, rfl⟩))
  go_end0
  exact ⟨rfl, (((((hm.other _ _ n1.symm n2.symm n3.symm).other _ _ n1.symm n2.symm n3.symm).other _ _ n1.symm n2.symm n3.symm).other _ _ n1.symm n2.symm n3.symm).alloc _).alloc _, (((((hb.set 14 _ rfl).set 15 _ rfl).set 16 _ rfl).set 17 _ rfl).alloc _).alloc _, ((((((Only.refl _ w).setCell _ _ (by simp)).setCell _ _ (by simp)).setCell _ _ (by simp)).setCell _ _ (by simp)).alloc _).alloc _⟩

set_option maxRecDepth 100000 in
set_option maxHeartbeats 1600000 in
theorem ahead_any (x : AlS) (tb : Nat) (z : Int) (hb : Blk w tb x.cs 150) : Calls Try.prog 111 #[.pointer (some ⟨tb, 0, none⟩), .int .i64 z] w fun e w' => e = .returned (.int .u64 (putHead z x.sz x.at_ x.gn x.own)) ∧ Only [] w w' := by
  obtain ⟨sz, own, apc, ⟨pc, top, next, slot, ok⟩, at_, gn, pv, sa, sc, gv, er, hd, va, st⟩ := x
  replace hb : Blk w tb #[.int .i64 sz, .bool own, .int .i64 apc, .int .i64 pc, .int .u64 top, .int .i64 next, .int .i64 slot, .bool ok, .int .i64 at_, .int .i64 gn, pv, .int .i64 sa, .int .i64 sc, gv, .int .i64 er, .int .u64 hd, .int .i64 va, .int .i64 st] 150 := hb
  have hbd := hb.drew
  go_enter Try.func111, Try.ntmps111
  go_wp2
  refine qc_enter (fun w' => Blk w' tb #[.int .i64 sz, .bool own, .int .i64 apc, .int .i64 pc, .int .u64 top, .int .i64 next, .int .i64 slot, .bool ok, .int .i64 at_, .int .i64 gn, pv, .int .i64 sa, .int .i64 sc, gv, .int .i64 er, .int .u64 hd, .int .i64 va, .int .i64 st] 150 ∧ Only [] w w') (by kernel_rfl) (by kernel_rfl) ?_ ?_
  focus (exact ⟨hbd, (Only.refl _ w).drew⟩)
  repeat (first
    | go_big_quiet_skip
    | (go_big_quiet_want
       apply Exists.intro
       refine ⟨fun wq hq => ?_, ?_⟩
       focus
         (obtain ⟨hq1, hq2⟩ := hq; have hc := hq1.cell)
         unfold Oper.quietAt
         go_simp
         (first
           | done
           | with_reducible exact rfl
           | with_reducible exact ⟨rfl, rfl⟩
           | (first | (go_at_call 116; refine (puthead_any _ _ _ _ _ _).mono ?_; rintro e w' ⟨rfl, ho⟩; exact ⟨rfl, hq1.only ho (by simp), hq2.trans' ho (fun _ h _ => h)⟩)))
       (try simp only [Act.put, List.setIfInBounds_toArray, List.set_cons_zero, List.set_cons_succ])
       go_big_quiet_on))
  refine wpQuiet_nil ?_
  intro wq hq
  obtain ⟨hq1, hq2⟩ := hq
  go_wp2
  go_ret
  exact ⟨rfl, hq2⟩


set_option maxRecDepth 100000 in
set_option maxHeartbeats 1600000 in
theorem astep0_size (k : Cfg) (wh : Int) (x : AlS) (tb : Nat) (hm : MemR w m s) (hb : Blk w tb x.cs 150) (hpc : x.pc = 0) (hcl : cls x.sz < 0) (n1 : tb ≠ m.b) (n2 : tb ≠ m.wb) (n3 : tb ≠ m.hb) :
    Calls Try.prog 97 #[.pointer (some ⟨tb, 0, none⟩), .agg #[.int .i64 k.t, .int .i64 k.s, .int .i64 k.c, .int .i64 k.w, .int .i64 k.g, .int .i64 k.p, .int .i64 k.r, .pointer (some ⟨m.b, 0, none⟩), .int .i64 wh]] w fun e w' => e = .returned (.bool true) ∧ MemR w' m s ∧ Blk w' tb ({ x with er := 5, hd := 0, va := 0, st := s.steps } : AlS).cs 150 ∧ Only [m.b, m.wb, m.hb, tb] w w' := by
  obtain ⟨sz, own, apc, ⟨pc, top, next, slot, ok⟩, at_, gn, pv, sa, sc, gv, er, hd, va, st⟩ := x
  simp only at hpc
  subst hpc
  replace hb : Blk w tb #[.int .i64 sz, .bool own, .int .i64 0, .int .i64 pc, .int .u64 top, .int .i64 next, .int .i64 slot, .bool ok, .int .i64 at_, .int .i64 gn, pv, .int .i64 sa, .int .i64 sc, gv, .int .i64 er, .int .u64 hd, .int .i64 va, .int .i64 st] 150 := hb
  have ht := hb.lt
  have hxn : w.heap.size ∉ [m.b, m.wb, m.hb, tb] := by
    have := hm.notin (Nat.le_refl _)
    simp only [List.mem_cons, List.not_mem_nil, or_false, not_or] at this ⊢
    exact ⟨this.1, this.2.1, this.2.2, by omega⟩
  have hnt : tb ∉ [m.b, m.wb, m.hb] := by simp only [List.mem_cons, List.not_mem_nil, or_false, not_or]; exact ⟨n1, n2, n3⟩
  have hxm : w.heap.size ∉ [m.b, m.wb, m.hb] := hm.notin (Nat.le_refl _)
  have hc0 := hb.cell
  have hf0 := hb.frozen
  have hX0 : Blk (w.alloc (.cells #[.int .i64 k.t, .int .i64 k.s, .int .i64 k.c, .int .i64 k.w, .int .i64 k.g, .int .i64 k.p, .int .i64 k.r, .pointer (some ⟨m.b, 0, none⟩), .int .i64 wh] 47)) w.heap.size #[.int .i64 k.t, .int .i64 k.s, .int .i64 k.c, .int .i64 k.w, .int .i64 k.g, .int .i64 k.p, .int .i64 k.r, .pointer (some ⟨m.b, 0, none⟩), .int .i64 wh] 47 := Blk.new w _ 47
  have hB0 := hb.alloc (.cells #[.int .i64 k.t, .int .i64 k.s, .int .i64 k.c, .int .i64 k.w, .int .i64 k.g, .int .i64 k.p, .int .i64 k.r, .pointer (some ⟨m.b, 0, none⟩), .int .i64 wh] 47)
  have hM0 := hm.alloc (.cells #[.int .i64 k.t, .int .i64 k.s, .int .i64 k.c, .int .i64 k.w, .int .i64 k.g, .int .i64 k.p, .int .i64 k.r, .pointer (some ⟨m.b, 0, none⟩), .int .i64 wh] 47)
  have hO0 : Only [m.b, m.wb, m.hb, tb] w (w.alloc (.cells #[.int .i64 k.t, .int .i64 k.s, .int .i64 k.c, .int .i64 k.w, .int .i64 k.g, .int .i64 k.p, .int .i64 k.r, .pointer (some ⟨m.b, 0, none⟩), .int .i64 wh] 47)) := (Only.refl _ w).alloc _
  obtain ⟨cv, hcv⟩ : ∃ cv, cls sz = cv := ⟨_, rfl⟩
  have hcc : ∀ w', Calls Try.prog 34 #[.int .i64 sz] w' fun e w2 => e = .returned (.int .i64 cv) ∧ w' = w2 := fun w' => by
    have := class_any sz w'
    rw [hcv] at this
    exact this
  simp only at hcl
  rw [hcv] at hcl
  clear hcv
  go_enter Try.func97, Try.ntmps97
  go_wp2_with (first | (go_at_call 34; with_reducible refine (hcc _).mono ?_; rintro e w' ⟨rfl, rfl⟩))
  refine (aend_any k wh ⟨sz, own, 0, ⟨pc, top, next, slot, ok⟩, at_, gn, pv, sa, sc, gv, er, hd, va, st⟩ tb 5 hM0 hB0 n1 n2 n3).mono ?_
  rintro e w1 ⟨rfl, hm1, hB1, ho1⟩
  go_wp2
  go_ret
  exact ⟨rfl, hm1, hB1, hO0.trans' ho1 (by intro x hx _; simp only [List.mem_cons, List.not_mem_nil, or_false] at hx ⊢; omega)⟩

set_option maxRecDepth 100000 in
set_option maxHeartbeats 1600000 in
theorem astep0_go {s' : MS} {t' : TakeS} (k : Cfg) (wh : Int) (x : AlS) (tb : Nat) (hm : MemR w m s) (hb : Blk w tb x.cs 150) (hpc : x.pc = 0) (hcl : 0 ≤ cls x.sz) (hst : takeStep k wh s x.t = (false, s', t')) (hpt : x.t.pc = 0 ∨ x.t.pc = 1 ∨ (x.t.pc = 2 ∧ U64 x.t.top ∧ -1 ≤ x.t.next ∧ x.t.next < 131072)) (n1 : tb ≠ m.b) (n2 : tb ≠ m.wb) (n3 : tb ≠ m.hb) :
    Calls Try.prog 97 #[.pointer (some ⟨tb, 0, none⟩), .agg #[.int .i64 k.t, .int .i64 k.s, .int .i64 k.c, .int .i64 k.w, .int .i64 k.g, .int .i64 k.p, .int .i64 k.r, .pointer (some ⟨m.b, 0, none⟩), .int .i64 wh]] w fun e w' => e = .returned (.bool false) ∧ MemR w' m s' ∧ Blk w' tb ({ x with t := t' } : AlS).cs 150 ∧ Only [m.b, m.wb, m.hb, tb] w w' := by
  obtain ⟨sz, own, apc, ⟨pc, top, next, slot, ok⟩, at_, gn, pv, sa, sc, gv, er, hd, va, st⟩ := x
  simp only at hpc
  subst hpc
  replace hb : Blk w tb #[.int .i64 sz, .bool own, .int .i64 0, .int .i64 pc, .int .u64 top, .int .i64 next, .int .i64 slot, .bool ok, .int .i64 at_, .int .i64 gn, pv, .int .i64 sa, .int .i64 sc, gv, .int .i64 er, .int .u64 hd, .int .i64 va, .int .i64 st] 150 := hb
  have ht := hb.lt
  have hxn : w.heap.size ∉ [m.b, m.wb, m.hb, tb] := by
    have := hm.notin (Nat.le_refl _)
    simp only [List.mem_cons, List.not_mem_nil, or_false, not_or] at this ⊢
    exact ⟨this.1, this.2.1, this.2.2, by omega⟩
  have hnt : tb ∉ [m.b, m.wb, m.hb] := by simp only [List.mem_cons, List.not_mem_nil, or_false, not_or]; exact ⟨n1, n2, n3⟩
  have hxm : w.heap.size ∉ [m.b, m.wb, m.hb] := hm.notin (Nat.le_refl _)
  have hc0 := hb.cell
  have hf0 := hb.frozen
  have hX0 : Blk (w.alloc (.cells #[.int .i64 k.t, .int .i64 k.s, .int .i64 k.c, .int .i64 k.w, .int .i64 k.g, .int .i64 k.p, .int .i64 k.r, .pointer (some ⟨m.b, 0, none⟩), .int .i64 wh] 47)) w.heap.size #[.int .i64 k.t, .int .i64 k.s, .int .i64 k.c, .int .i64 k.w, .int .i64 k.g, .int .i64 k.p, .int .i64 k.r, .pointer (some ⟨m.b, 0, none⟩), .int .i64 wh] 47 := Blk.new w _ 47
  have hB0 := hb.alloc (.cells #[.int .i64 k.t, .int .i64 k.s, .int .i64 k.c, .int .i64 k.w, .int .i64 k.g, .int .i64 k.p, .int .i64 k.r, .pointer (some ⟨m.b, 0, none⟩), .int .i64 wh] 47)
  have hM0 := hm.alloc (.cells #[.int .i64 k.t, .int .i64 k.s, .int .i64 k.c, .int .i64 k.w, .int .i64 k.g, .int .i64 k.p, .int .i64 k.r, .pointer (some ⟨m.b, 0, none⟩), .int .i64 wh] 47)
  have hO0 : Only [m.b, m.wb, m.hb, tb] w (w.alloc (.cells #[.int .i64 k.t, .int .i64 k.s, .int .i64 k.c, .int .i64 k.w, .int .i64 k.g, .int .i64 k.p, .int .i64 k.r, .pointer (some ⟨m.b, 0, none⟩), .int .i64 wh] 47)) := (Only.refl _ w).alloc _
  obtain ⟨cv, hcv⟩ : ∃ cv, cls sz = cv := ⟨_, rfl⟩
  have hcc : ∀ w', Calls Try.prog 34 #[.int .i64 sz] w' fun e w2 => e = .returned (.int .i64 cv) ∧ w' = w2 := fun w' => by
    have := class_any sz w'
    rw [hcv] at this
    exact this
  simp only at hcl
  rw [hcv] at hcl
  clear hcv
  obtain ⟨pc', top', next', slot', ok'⟩ := t'
  have hX := hX0.drew
  have hB := hB0.drew
  have hM := hM0.drew
  have hO := hO0.drew
  have hcall := atake_step k wh ⟨sz, own, 0, ⟨pc, top, next, slot, ok⟩, at_, gn, pv, sa, sc, gv, er, hd, va, st⟩ tb hst hM hB hpt n1 n2 n3
  go_enter Try.func97, Try.ntmps97
  go_wp2_with (first | (go_at_call 34; with_reducible refine (hcc _).mono ?_; rintro e w' ⟨rfl, rfl⟩))
  go_region_held3 (fun w' => ∀ o, w'.cell? ⟨w.heap.size, o, none⟩ = (#[.int .i64 k.t, .int .i64 k.s, .int .i64 k.c, .int .i64 k.w, .int .i64 k.g, .int .i64 k.p, .int .i64 k.r, .pointer (some ⟨m.b, 0, none⟩), .int .i64 wh] : Array Value)[o]?) ((refine Blk.cell (T := 47) ?_; repeat (first | with_reducible assumption | with_reducible apply Blk.drew | with_reducible apply Blk.alloc | (with_reducible refine Blk.only ?_ (by with_reducible assumption) (by first | exact List.not_mem_nil | with_reducible assumption)) | (with_reducible refine Blk.other ?_ _ _ (by simp only; omega)))))
    (first
      | (go_at_call 65; with_reducible refine hcall.mono ?_; rintro e w1 ⟨rfl, hm1, hB1, ho1⟩; have hX1 := hX.only ho1 hxn))
  have hX1c := hX1.cell
  have hO1 := hO.trans' ho1 (fun _ h _ => h)
  have hB1' : Blk w1 tb #[.int .i64 sz, .bool own, .int .i64 0, .int .i64 pc', .int .u64 top', .int .i64 next', .int .i64 slot', .bool ok', .int .i64 at_, .int .i64 gn, pv, .int .i64 sa, .int .i64 sc, gv, .int .i64 er, .int .u64 hd, .int .i64 va, .int .i64 st] 150 := hB1
  go_wp2
  go_ret
  exact ⟨rfl, hm1, hB1, hO1⟩
set_option maxRecDepth 100000 in
set_option maxHeartbeats 1600000 in
theorem astep0_got {s' : MS} {t' : TakeS} (k : Cfg) (wh : Int) (x : AlS) (tb : Nat) (hm : MemR w m s) (hb : Blk w tb x.cs 150) (hpc : x.pc = 0) (hcl : 0 ≤ cls x.sz) (hst : takeStep k wh s x.t = (true, s', t')) (hok : t'.ok = true) (hpt : x.t.pc = 0 ∨ x.t.pc = 1 ∨ (x.t.pc = 2 ∧ U64 x.t.top ∧ -1 ≤ x.t.next ∧ x.t.next < 131072)) (n1 : tb ≠ m.b) (n2 : tb ≠ m.wb) (n3 : tb ≠ m.hb) :
    Calls Try.prog 97 #[.pointer (some ⟨tb, 0, none⟩), .agg #[.int .i64 k.t, .int .i64 k.s, .int .i64 k.c, .int .i64 k.w, .int .i64 k.g, .int .i64 k.p, .int .i64 k.r, .pointer (some ⟨m.b, 0, none⟩), .int .i64 wh]] w fun e w' => e = .returned (.bool false) ∧ MemR w' m s' ∧ Blk w' tb ({ x with t := t', at_ := t'.slot, pc := 1 } : AlS).cs 150 ∧ Only [m.b, m.wb, m.hb, tb] w w' := by
  obtain ⟨sz, own, apc, ⟨pc, top, next, slot, ok⟩, at_, gn, pv, sa, sc, gv, er, hd, va, st⟩ := x
  simp only at hpc
  subst hpc
  replace hb : Blk w tb #[.int .i64 sz, .bool own, .int .i64 0, .int .i64 pc, .int .u64 top, .int .i64 next, .int .i64 slot, .bool ok, .int .i64 at_, .int .i64 gn, pv, .int .i64 sa, .int .i64 sc, gv, .int .i64 er, .int .u64 hd, .int .i64 va, .int .i64 st] 150 := hb
  have ht := hb.lt
  have hxn : w.heap.size ∉ [m.b, m.wb, m.hb, tb] := by
    have := hm.notin (Nat.le_refl _)
    simp only [List.mem_cons, List.not_mem_nil, or_false, not_or] at this ⊢
    exact ⟨this.1, this.2.1, this.2.2, by omega⟩
  have hnt : tb ∉ [m.b, m.wb, m.hb] := by simp only [List.mem_cons, List.not_mem_nil, or_false, not_or]; exact ⟨n1, n2, n3⟩
  have hxm : w.heap.size ∉ [m.b, m.wb, m.hb] := hm.notin (Nat.le_refl _)
  have hc0 := hb.cell
  have hf0 := hb.frozen
  have hX0 : Blk (w.alloc (.cells #[.int .i64 k.t, .int .i64 k.s, .int .i64 k.c, .int .i64 k.w, .int .i64 k.g, .int .i64 k.p, .int .i64 k.r, .pointer (some ⟨m.b, 0, none⟩), .int .i64 wh] 47)) w.heap.size #[.int .i64 k.t, .int .i64 k.s, .int .i64 k.c, .int .i64 k.w, .int .i64 k.g, .int .i64 k.p, .int .i64 k.r, .pointer (some ⟨m.b, 0, none⟩), .int .i64 wh] 47 := Blk.new w _ 47
  have hB0 := hb.alloc (.cells #[.int .i64 k.t, .int .i64 k.s, .int .i64 k.c, .int .i64 k.w, .int .i64 k.g, .int .i64 k.p, .int .i64 k.r, .pointer (some ⟨m.b, 0, none⟩), .int .i64 wh] 47)
  have hM0 := hm.alloc (.cells #[.int .i64 k.t, .int .i64 k.s, .int .i64 k.c, .int .i64 k.w, .int .i64 k.g, .int .i64 k.p, .int .i64 k.r, .pointer (some ⟨m.b, 0, none⟩), .int .i64 wh] 47)
  have hO0 : Only [m.b, m.wb, m.hb, tb] w (w.alloc (.cells #[.int .i64 k.t, .int .i64 k.s, .int .i64 k.c, .int .i64 k.w, .int .i64 k.g, .int .i64 k.p, .int .i64 k.r, .pointer (some ⟨m.b, 0, none⟩), .int .i64 wh] 47)) := (Only.refl _ w).alloc _
  obtain ⟨cv, hcv⟩ : ∃ cv, cls sz = cv := ⟨_, rfl⟩
  have hcc : ∀ w', Calls Try.prog 34 #[.int .i64 sz] w' fun e w2 => e = .returned (.int .i64 cv) ∧ w' = w2 := fun w' => by
    have := class_any sz w'
    rw [hcv] at this
    exact this
  simp only at hcl
  rw [hcv] at hcl
  clear hcv
  obtain ⟨pc', top', next', slot', ok'⟩ := t'
  have hX := hX0.drew
  have hB := hB0.drew
  have hM := hM0.drew
  have hO := hO0.drew
  have hcall := atake_step k wh ⟨sz, own, 0, ⟨pc, top, next, slot, ok⟩, at_, gn, pv, sa, sc, gv, er, hd, va, st⟩ tb hst hM hB hpt n1 n2 n3
  go_enter Try.func97, Try.ntmps97
  go_wp2_with (first | (go_at_call 34; with_reducible refine (hcc _).mono ?_; rintro e w' ⟨rfl, rfl⟩))
  go_region_held3 (fun w' => ∀ o, w'.cell? ⟨w.heap.size, o, none⟩ = (#[.int .i64 k.t, .int .i64 k.s, .int .i64 k.c, .int .i64 k.w, .int .i64 k.g, .int .i64 k.p, .int .i64 k.r, .pointer (some ⟨m.b, 0, none⟩), .int .i64 wh] : Array Value)[o]?) ((refine Blk.cell (T := 47) ?_; repeat (first | with_reducible assumption | with_reducible apply Blk.drew | with_reducible apply Blk.alloc | (with_reducible refine Blk.only ?_ (by with_reducible assumption) (by first | exact List.not_mem_nil | with_reducible assumption)) | (with_reducible refine Blk.other ?_ _ _ (by simp only; omega)))))
    (first
      | (go_at_call 65; with_reducible refine hcall.mono ?_; rintro e w1 ⟨rfl, hm1, hB1, ho1⟩; have hX1 := hX.only ho1 hxn))
  have hX1c := hX1.cell
  have hO1 := hO.trans' ho1 (fun _ h _ => h)
  have hB1' : Blk w1 tb #[.int .i64 sz, .bool own, .int .i64 0, .int .i64 pc', .int .u64 top', .int .i64 next', .int .i64 slot', .bool ok', .int .i64 at_, .int .i64 gn, pv, .int .i64 sa, .int .i64 sc, gv, .int .i64 er, .int .u64 hd, .int .i64 va, .int .i64 st] 150 := hB1
  have hok2 : ok' = _ := hok
  clear hok
  subst hok2
  have htl : Calls Try.prog 66 #[.pointer (some ⟨tb, 3, none⟩)] w1 fun e w' => e = .returned (.tuple #[.int .i64 slot', .bool true]) ∧ w1 = w' := atslot_any _ tb hB1
  have hf1 := hB1.frozen
  have hc1 := hB1'.cell
  have ht1 := hB1.lt
  go_wp2_with (first | (go_at_call 66; with_reducible refine htl.mono ?_; rintro e w' ⟨rfl, rfl⟩))
  go_ret
  exact ⟨rfl, (hm1.other _ _ n1.symm n2.symm n3.symm).other _ _ n1.symm n2.symm n3.symm, (hB1'.set 8 _ rfl).set 2 _ rfl, (hO1.setCell _ _ (by simp)).setCell _ _ (by simp)⟩
set_option maxRecDepth 100000 in
set_option maxHeartbeats 1600000 in
theorem astep0_none {s' : MS} {t' : TakeS} (k : Cfg) (wh : Int) (x : AlS) (tb : Nat) (hm : MemR w m s) (hb : Blk w tb x.cs 150) (hpc : x.pc = 0) (hcl : 0 ≤ cls x.sz) (hst : takeStep k wh s x.t = (true, s', t')) (hok : t'.ok = false) (hpt : x.t.pc = 0 ∨ x.t.pc = 1 ∨ (x.t.pc = 2 ∧ U64 x.t.top ∧ -1 ≤ x.t.next ∧ x.t.next < 131072)) (n1 : tb ≠ m.b) (n2 : tb ≠ m.wb) (n3 : tb ≠ m.hb) :
    Calls Try.prog 97 #[.pointer (some ⟨tb, 0, none⟩), .agg #[.int .i64 k.t, .int .i64 k.s, .int .i64 k.c, .int .i64 k.w, .int .i64 k.g, .int .i64 k.p, .int .i64 k.r, .pointer (some ⟨m.b, 0, none⟩), .int .i64 wh]] w fun e w' => e = .returned (.bool true) ∧ MemR w' m s' ∧ Blk w' tb ({ x with t := t', at_ := 0, pc := 1, er := 7, hd := 0, va := 0, st := s'.steps } : AlS).cs 150 ∧ Only [m.b, m.wb, m.hb, tb] w w' := by
  obtain ⟨sz, own, apc, ⟨pc, top, next, slot, ok⟩, at_, gn, pv, sa, sc, gv, er, hd, va, st⟩ := x
  simp only at hpc
  subst hpc
  replace hb : Blk w tb #[.int .i64 sz, .bool own, .int .i64 0, .int .i64 pc, .int .u64 top, .int .i64 next, .int .i64 slot, .bool ok, .int .i64 at_, .int .i64 gn, pv, .int .i64 sa, .int .i64 sc, gv, .int .i64 er, .int .u64 hd, .int .i64 va, .int .i64 st] 150 := hb
  have ht := hb.lt
  have hxn : w.heap.size ∉ [m.b, m.wb, m.hb, tb] := by
    have := hm.notin (Nat.le_refl _)
    simp only [List.mem_cons, List.not_mem_nil, or_false, not_or] at this ⊢
    exact ⟨this.1, this.2.1, this.2.2, by omega⟩
  have hnt : tb ∉ [m.b, m.wb, m.hb] := by simp only [List.mem_cons, List.not_mem_nil, or_false, not_or]; exact ⟨n1, n2, n3⟩
  have hxm : w.heap.size ∉ [m.b, m.wb, m.hb] := hm.notin (Nat.le_refl _)
  have hc0 := hb.cell
  have hf0 := hb.frozen
  have hX0 : Blk (w.alloc (.cells #[.int .i64 k.t, .int .i64 k.s, .int .i64 k.c, .int .i64 k.w, .int .i64 k.g, .int .i64 k.p, .int .i64 k.r, .pointer (some ⟨m.b, 0, none⟩), .int .i64 wh] 47)) w.heap.size #[.int .i64 k.t, .int .i64 k.s, .int .i64 k.c, .int .i64 k.w, .int .i64 k.g, .int .i64 k.p, .int .i64 k.r, .pointer (some ⟨m.b, 0, none⟩), .int .i64 wh] 47 := Blk.new w _ 47
  have hB0 := hb.alloc (.cells #[.int .i64 k.t, .int .i64 k.s, .int .i64 k.c, .int .i64 k.w, .int .i64 k.g, .int .i64 k.p, .int .i64 k.r, .pointer (some ⟨m.b, 0, none⟩), .int .i64 wh] 47)
  have hM0 := hm.alloc (.cells #[.int .i64 k.t, .int .i64 k.s, .int .i64 k.c, .int .i64 k.w, .int .i64 k.g, .int .i64 k.p, .int .i64 k.r, .pointer (some ⟨m.b, 0, none⟩), .int .i64 wh] 47)
  have hO0 : Only [m.b, m.wb, m.hb, tb] w (w.alloc (.cells #[.int .i64 k.t, .int .i64 k.s, .int .i64 k.c, .int .i64 k.w, .int .i64 k.g, .int .i64 k.p, .int .i64 k.r, .pointer (some ⟨m.b, 0, none⟩), .int .i64 wh] 47)) := (Only.refl _ w).alloc _
  obtain ⟨cv, hcv⟩ : ∃ cv, cls sz = cv := ⟨_, rfl⟩
  have hcc : ∀ w', Calls Try.prog 34 #[.int .i64 sz] w' fun e w2 => e = .returned (.int .i64 cv) ∧ w' = w2 := fun w' => by
    have := class_any sz w'
    rw [hcv] at this
    exact this
  simp only at hcl
  rw [hcv] at hcl
  clear hcv
  obtain ⟨pc', top', next', slot', ok'⟩ := t'
  have hX := hX0.drew
  have hB := hB0.drew
  have hM := hM0.drew
  have hO := hO0.drew
  have hcall := atake_step k wh ⟨sz, own, 0, ⟨pc, top, next, slot, ok⟩, at_, gn, pv, sa, sc, gv, er, hd, va, st⟩ tb hst hM hB hpt n1 n2 n3
  go_enter Try.func97, Try.ntmps97
  go_wp2_with (first | (go_at_call 34; with_reducible refine (hcc _).mono ?_; rintro e w' ⟨rfl, rfl⟩))
  go_region_held3 (fun w' => ∀ o, w'.cell? ⟨w.heap.size, o, none⟩ = (#[.int .i64 k.t, .int .i64 k.s, .int .i64 k.c, .int .i64 k.w, .int .i64 k.g, .int .i64 k.p, .int .i64 k.r, .pointer (some ⟨m.b, 0, none⟩), .int .i64 wh] : Array Value)[o]?) ((refine Blk.cell (T := 47) ?_; repeat (first | with_reducible assumption | with_reducible apply Blk.drew | with_reducible apply Blk.alloc | (with_reducible refine Blk.only ?_ (by with_reducible assumption) (by first | exact List.not_mem_nil | with_reducible assumption)) | (with_reducible refine Blk.other ?_ _ _ (by simp only; omega)))))
    (first
      | (go_at_call 65; with_reducible refine hcall.mono ?_; rintro e w1 ⟨rfl, hm1, hB1, ho1⟩; have hX1 := hX.only ho1 hxn))
  have hX1c := hX1.cell
  have hO1 := hO.trans' ho1 (fun _ h _ => h)
  have hB1' : Blk w1 tb #[.int .i64 sz, .bool own, .int .i64 0, .int .i64 pc', .int .u64 top', .int .i64 next', .int .i64 slot', .bool ok', .int .i64 at_, .int .i64 gn, pv, .int .i64 sa, .int .i64 sc, gv, .int .i64 er, .int .u64 hd, .int .i64 va, .int .i64 st] 150 := hB1
  have hok2 : ok' = _ := hok
  clear hok
  subst hok2
  have htl : Calls Try.prog 66 #[.pointer (some ⟨tb, 3, none⟩)] w1 fun e w' => e = .returned (.tuple #[.int .i64 0, .bool false]) ∧ w1 = w' := atslot_any _ tb hB1
  have hf1 := hB1.frozen
  have hc1 := hB1'.cell
  have ht1 := hB1.lt
  go_wp2_with (first | (go_at_call 66; with_reducible refine htl.mono ?_; rintro e w' ⟨rfl, rfl⟩))
  have hm2 := (hm1.other ⟨tb, 8, none⟩ (.int .i64 0) n1.symm n2.symm n3.symm).other ⟨tb, 2, none⟩ (.int .i64 1) n1.symm n2.symm n3.symm
  have hB2 : Blk ((w1.setCell ⟨tb, 8, none⟩ (.int .i64 0)).setCell ⟨tb, 2, none⟩ (.int .i64 1)) tb (⟨sz, own, 1, ⟨pc', top', next', slot', false⟩, 0, gn, pv, sa, sc, gv, er, hd, va, st⟩ : AlS).cs 150 := (hB1'.set 8 _ rfl).set 2 _ rfl
  have hO2 := (hO1.setCell ⟨tb, 8, none⟩ (.int .i64 0) (by simp)).setCell ⟨tb, 2, none⟩ (.int .i64 1) (by simp)
  refine (aend_any k wh _ tb 7 hm2 hB2 n1 n2 n3).mono ?_
  rintro e w3 ⟨rfl, hm3, hB3, ho3⟩
  go_wp2
  go_ret
  exact ⟨rfl, hm3, hB3, hO2.trans' ho3 (by intro x hx _; simp only [List.mem_cons, List.not_mem_nil, or_false] at hx ⊢; omega)⟩

theorem field40 : ∀ (a b c d : Int) (w : World), (Instr.field 40 (.agg #[.int .i64 a, .int .i64 b, .int .i64 c, .int .i64 d]) 2).run Try.prog w = .ok (.int .i64 c) w := fun _ _ _ _ _ => by kernel_rfl

/-! What it makes: its head is laid, as a pending one, or as a ready one. -/
set_option maxRecDepth 100000 in
set_option maxHeartbeats 1600000 in
theorem astep4 (k : Cfg) (wh : Int) (x : AlS) (tb : Nat) (hm : MemR w m s) (hb : Blk w tb x.cs 150) (hpc : x.pc = 4) (n1 : tb ≠ m.b) (n2 : tb ≠ m.wb) (n3 : tb ≠ m.hb) :
    Calls Try.prog 97 #[.pointer (some ⟨tb, 0, none⟩), .agg #[.int .i64 k.t, .int .i64 k.s, .int .i64 k.c, .int .i64 k.w, .int .i64 k.g, .int .i64 k.p, .int .i64 k.r, .pointer (some ⟨m.b, 0, none⟩), .int .i64 wh]] w fun e w' => e = .returned (.bool false) ∧ MemR w' m ((s.by wh).store x.sa (putHead 1 x.sz x.at_ x.gn x.own)) ∧ Blk w' tb ({ x with pc := 5 } : AlS).cs 150 ∧ Only [m.b, m.wb, m.hb, tb] w w' := by
  obtain ⟨sz, own, apc, ⟨pc, top, next, slot, ok⟩, at_, gn, pv, sa, sc, gv, er, hd, va, st⟩ := x
  simp only at hpc
  subst hpc
  replace hb : Blk w tb #[.int .i64 sz, .bool own, .int .i64 4, .int .i64 pc, .int .u64 top, .int .i64 next, .int .i64 slot, .bool ok, .int .i64 at_, .int .i64 gn, pv, .int .i64 sa, .int .i64 sc, gv, .int .i64 er, .int .u64 hd, .int .i64 va, .int .i64 st] 150 := hb
  have ht := hb.lt
  have hxn : w.heap.size ∉ [m.b, m.wb, m.hb, tb] := by
    have := hm.notin (Nat.le_refl _)
    simp only [List.mem_cons, List.not_mem_nil, or_false, not_or] at this ⊢
    exact ⟨this.1, this.2.1, this.2.2, by omega⟩
  have hnt : tb ∉ [m.b, m.wb, m.hb] := by simp only [List.mem_cons, List.not_mem_nil, or_false, not_or]; exact ⟨n1, n2, n3⟩
  have hxm : w.heap.size ∉ [m.b, m.wb, m.hb] := hm.notin (Nat.le_refl _)
  have hc0 := hb.cell
  have hf0 := hb.frozen
  have hX0 : Blk (w.alloc (.cells #[.int .i64 k.t, .int .i64 k.s, .int .i64 k.c, .int .i64 k.w, .int .i64 k.g, .int .i64 k.p, .int .i64 k.r, .pointer (some ⟨m.b, 0, none⟩), .int .i64 wh] 47)) w.heap.size #[.int .i64 k.t, .int .i64 k.s, .int .i64 k.c, .int .i64 k.w, .int .i64 k.g, .int .i64 k.p, .int .i64 k.r, .pointer (some ⟨m.b, 0, none⟩), .int .i64 wh] 47 := Blk.new w _ 47
  have hB0 := hb.alloc (.cells #[.int .i64 k.t, .int .i64 k.s, .int .i64 k.c, .int .i64 k.w, .int .i64 k.g, .int .i64 k.p, .int .i64 k.r, .pointer (some ⟨m.b, 0, none⟩), .int .i64 wh] 47)
  have hM0 := hm.alloc (.cells #[.int .i64 k.t, .int .i64 k.s, .int .i64 k.c, .int .i64 k.w, .int .i64 k.g, .int .i64 k.p, .int .i64 k.r, .pointer (some ⟨m.b, 0, none⟩), .int .i64 wh] 47)
  have hO0 : Only [m.b, m.wb, m.hb, tb] w (w.alloc (.cells #[.int .i64 k.t, .int .i64 k.s, .int .i64 k.c, .int .i64 k.w, .int .i64 k.g, .int .i64 k.p, .int .i64 k.r, .pointer (some ⟨m.b, 0, none⟩), .int .i64 wh] 47)) := (Only.refl _ w).alloc _
  have hcall : ∀ w', Blk w' tb #[.int .i64 sz, .bool own, .int .i64 4, .int .i64 pc, .int .u64 top, .int .i64 next, .int .i64 slot, .bool ok, .int .i64 at_, .int .i64 gn, pv, .int .i64 sa, .int .i64 sc, gv, .int .i64 er, .int .u64 hd, .int .i64 va, .int .i64 st] 150 → Calls Try.prog 111 #[.pointer (some ⟨tb, 0, none⟩), .int .i64 1] w' fun e w2 => e = .returned (.int .u64 (putHead 1 sz at_ gn own)) ∧ Only [] w' w2 := fun w' h => ahead_any ⟨sz, own, 4, ⟨pc, top, next, slot, ok⟩, at_, gn, pv, sa, sc, gv, er, hd, va, st⟩ tb 1 h
  go_enter Try.func97, Try.ntmps97
  go_wp2
  go_region_held3 (fun w' => (∀ o, w'.cell? ⟨w.heap.size, o, none⟩ = (#[.int .i64 k.t, .int .i64 k.s, .int .i64 k.c, .int .i64 k.w, .int .i64 k.g, .int .i64 k.p, .int .i64 k.r, .pointer (some ⟨m.b, 0, none⟩), .int .i64 wh] : Array Value)[o]?) ∧ (∀ o, w'.cell? ⟨tb, o, none⟩ = (#[.int .i64 sz, .bool own, .int .i64 4, .int .i64 pc, .int .u64 top, .int .i64 next, .int .i64 slot, .bool ok, .int .i64 at_, .int .i64 gn, pv, .int .i64 sa, .int .i64 sc, gv, .int .i64 er, .int .u64 hd, .int .i64 va, .int .i64 st] : Array Value)[o]?)) ((refine ⟨?_, ?_⟩; (focus (refine Blk.cell (T := 47) ?_; repeat (first | with_reducible assumption | with_reducible apply Blk.drew | with_reducible apply Blk.alloc | (with_reducible refine Blk.only ?_ (by with_reducible assumption) (by first | exact List.not_mem_nil | with_reducible assumption)) | (with_reducible refine Blk.other ?_ _ _ (by simp only; omega))))); (focus (refine Blk.cell (T := 150) ?_; repeat (first | with_reducible assumption | with_reducible apply Blk.drew | with_reducible apply Blk.alloc | (with_reducible refine Blk.only ?_ (by with_reducible assumption) (by first | exact List.not_mem_nil | with_reducible assumption)) | (with_reducible refine Blk.other ?_ _ _ (by simp only; omega)))))))
    (first
      | (go_at_call 111; with_reducible refine (hcall _ (by repeat (first | with_reducible assumption | with_reducible apply Blk.drew | with_reducible apply Blk.alloc | (with_reducible refine Blk.only ?_ (by with_reducible assumption) (by first | exact List.not_mem_nil | with_reducible assumption)) | (with_reducible refine Blk.other ?_ _ _ (by simp only; omega))))).mono ?_; rintro e w1 ⟨rfl, ho1⟩)
      | (go_at_call 70; with_reducible refine (store_env (m := m) (s := s) k wh (by repeat (first | with_reducible assumption | with_reducible apply MemR.drew | with_reducible apply MemR.alloc | (with_reducible refine MemR.only ?_ (by with_reducible assumption) List.not_mem_nil List.not_mem_nil List.not_mem_nil) | (with_reducible refine MemR.other ?_ _ _ (by simp only; omega) (by simp only; omega) (by simp only; omega)))) (putHead_rng _ _ _ _ _)).mono ?_; rintro e w2 ⟨rfl, hm2, ho2⟩))
  all_goals
    have hB2 : Blk w2 tb #[.int .i64 sz, .bool own, .int .i64 4, .int .i64 pc, .int .u64 top, .int .i64 next, .int .i64 slot, .bool ok, .int .i64 at_, .int .i64 gn, pv, .int .i64 sa, .int .i64 sc, gv, .int .i64 er, .int .u64 hd, .int .i64 va, .int .i64 st] 150 := by repeat (first | with_reducible assumption | with_reducible apply Blk.drew | with_reducible apply Blk.alloc | (with_reducible refine Blk.only ?_ (by with_reducible assumption) (by first | exact List.not_mem_nil | with_reducible assumption)) | (with_reducible refine Blk.other ?_ _ _ (by simp only; omega)))
    have hf2 := hB2.frozen
    have hc2 := hB2.cell
    have ht2 := hB2.lt
    have hO2 : Only [m.b, m.wb, m.hb, tb] w w2 := by repeat (first | with_reducible exact Only.refl _ _ | with_reducible assumption | with_reducible apply Only.drew | with_reducible apply Only.alloc | (with_reducible refine Only.setCell ?_ _ _ (by simp)) | (with_reducible refine Only.trans' ?_ (by with_reducible assumption) (by intro x hx _; first | exact absurd hx List.not_mem_nil | (simp only [List.mem_cons, List.not_mem_nil, or_false] at hx ⊢; omega))))
    go_wp2
    go_ret
    exact ⟨rfl, hm2.other _ _ n1.symm n2.symm n3.symm, hB2.set 2 _ rfl, hO2.setCell _ _ (by simp)⟩

set_option maxRecDepth 100000 in
set_option maxHeartbeats 1600000 in
theorem astep6 (k : Cfg) (wh : Int) (x : AlS) (tb : Nat) (hm : MemR w m s) (hb : Blk w tb x.cs 150) (hpc : x.pc = 6) (n1 : tb ≠ m.b) (n2 : tb ≠ m.wb) (n3 : tb ≠ m.hb) :
    Calls Try.prog 97 #[.pointer (some ⟨tb, 0, none⟩), .agg #[.int .i64 k.t, .int .i64 k.s, .int .i64 k.c, .int .i64 k.w, .int .i64 k.g, .int .i64 k.p, .int .i64 k.r, .pointer (some ⟨m.b, 0, none⟩), .int .i64 wh]] w fun e w' => e = .returned (.bool true) ∧ MemR w' m ((s.by wh).store x.sa (putHead 2 x.sz x.at_ x.gn x.own)) ∧ Blk w' tb x.cs 150 ∧ Only [m.b, m.wb, m.hb, tb] w w' := by
  obtain ⟨sz, own, apc, ⟨pc, top, next, slot, ok⟩, at_, gn, pv, sa, sc, gv, er, hd, va, st⟩ := x
  simp only at hpc
  subst hpc
  replace hb : Blk w tb #[.int .i64 sz, .bool own, .int .i64 6, .int .i64 pc, .int .u64 top, .int .i64 next, .int .i64 slot, .bool ok, .int .i64 at_, .int .i64 gn, pv, .int .i64 sa, .int .i64 sc, gv, .int .i64 er, .int .u64 hd, .int .i64 va, .int .i64 st] 150 := hb
  have ht := hb.lt
  have hxn : w.heap.size ∉ [m.b, m.wb, m.hb, tb] := by
    have := hm.notin (Nat.le_refl _)
    simp only [List.mem_cons, List.not_mem_nil, or_false, not_or] at this ⊢
    exact ⟨this.1, this.2.1, this.2.2, by omega⟩
  have hnt : tb ∉ [m.b, m.wb, m.hb] := by simp only [List.mem_cons, List.not_mem_nil, or_false, not_or]; exact ⟨n1, n2, n3⟩
  have hxm : w.heap.size ∉ [m.b, m.wb, m.hb] := hm.notin (Nat.le_refl _)
  have hc0 := hb.cell
  have hf0 := hb.frozen
  have hX0 : Blk (w.alloc (.cells #[.int .i64 k.t, .int .i64 k.s, .int .i64 k.c, .int .i64 k.w, .int .i64 k.g, .int .i64 k.p, .int .i64 k.r, .pointer (some ⟨m.b, 0, none⟩), .int .i64 wh] 47)) w.heap.size #[.int .i64 k.t, .int .i64 k.s, .int .i64 k.c, .int .i64 k.w, .int .i64 k.g, .int .i64 k.p, .int .i64 k.r, .pointer (some ⟨m.b, 0, none⟩), .int .i64 wh] 47 := Blk.new w _ 47
  have hB0 := hb.alloc (.cells #[.int .i64 k.t, .int .i64 k.s, .int .i64 k.c, .int .i64 k.w, .int .i64 k.g, .int .i64 k.p, .int .i64 k.r, .pointer (some ⟨m.b, 0, none⟩), .int .i64 wh] 47)
  have hM0 := hm.alloc (.cells #[.int .i64 k.t, .int .i64 k.s, .int .i64 k.c, .int .i64 k.w, .int .i64 k.g, .int .i64 k.p, .int .i64 k.r, .pointer (some ⟨m.b, 0, none⟩), .int .i64 wh] 47)
  have hO0 : Only [m.b, m.wb, m.hb, tb] w (w.alloc (.cells #[.int .i64 k.t, .int .i64 k.s, .int .i64 k.c, .int .i64 k.w, .int .i64 k.g, .int .i64 k.p, .int .i64 k.r, .pointer (some ⟨m.b, 0, none⟩), .int .i64 wh] 47)) := (Only.refl _ w).alloc _
  have hcall : ∀ w', Blk w' tb #[.int .i64 sz, .bool own, .int .i64 6, .int .i64 pc, .int .u64 top, .int .i64 next, .int .i64 slot, .bool ok, .int .i64 at_, .int .i64 gn, pv, .int .i64 sa, .int .i64 sc, gv, .int .i64 er, .int .u64 hd, .int .i64 va, .int .i64 st] 150 → Calls Try.prog 111 #[.pointer (some ⟨tb, 0, none⟩), .int .i64 2] w' fun e w2 => e = .returned (.int .u64 (putHead 2 sz at_ gn own)) ∧ Only [] w' w2 := fun w' h => ahead_any ⟨sz, own, 6, ⟨pc, top, next, slot, ok⟩, at_, gn, pv, sa, sc, gv, er, hd, va, st⟩ tb 2 h
  go_enter Try.func97, Try.ntmps97
  go_wp2
  go_region_held3 (fun w' => (∀ o, w'.cell? ⟨w.heap.size, o, none⟩ = (#[.int .i64 k.t, .int .i64 k.s, .int .i64 k.c, .int .i64 k.w, .int .i64 k.g, .int .i64 k.p, .int .i64 k.r, .pointer (some ⟨m.b, 0, none⟩), .int .i64 wh] : Array Value)[o]?) ∧ (∀ o, w'.cell? ⟨tb, o, none⟩ = (#[.int .i64 sz, .bool own, .int .i64 6, .int .i64 pc, .int .u64 top, .int .i64 next, .int .i64 slot, .bool ok, .int .i64 at_, .int .i64 gn, pv, .int .i64 sa, .int .i64 sc, gv, .int .i64 er, .int .u64 hd, .int .i64 va, .int .i64 st] : Array Value)[o]?)) ((refine ⟨?_, ?_⟩; (focus (refine Blk.cell (T := 47) ?_; repeat (first | with_reducible assumption | with_reducible apply Blk.drew | with_reducible apply Blk.alloc | (with_reducible refine Blk.only ?_ (by with_reducible assumption) (by first | exact List.not_mem_nil | with_reducible assumption)) | (with_reducible refine Blk.other ?_ _ _ (by simp only; omega))))); (focus (refine Blk.cell (T := 150) ?_; repeat (first | with_reducible assumption | with_reducible apply Blk.drew | with_reducible apply Blk.alloc | (with_reducible refine Blk.only ?_ (by with_reducible assumption) (by first | exact List.not_mem_nil | with_reducible assumption)) | (with_reducible refine Blk.other ?_ _ _ (by simp only; omega)))))))
    (first
      | (go_at_call 111; with_reducible refine (hcall _ (by repeat (first | with_reducible assumption | with_reducible apply Blk.drew | with_reducible apply Blk.alloc | (with_reducible refine Blk.only ?_ (by with_reducible assumption) (by first | exact List.not_mem_nil | with_reducible assumption)) | (with_reducible refine Blk.other ?_ _ _ (by simp only; omega))))).mono ?_; rintro e w1 ⟨rfl, ho1⟩)
      | (go_at_call 70; with_reducible refine (store_env (m := m) (s := s) k wh (by repeat (first | with_reducible assumption | with_reducible apply MemR.drew | with_reducible apply MemR.alloc | (with_reducible refine MemR.only ?_ (by with_reducible assumption) List.not_mem_nil List.not_mem_nil List.not_mem_nil) | (with_reducible refine MemR.other ?_ _ _ (by simp only; omega) (by simp only; omega) (by simp only; omega)))) (putHead_rng _ _ _ _ _)).mono ?_; rintro e w2 ⟨rfl, hm2, ho2⟩))
  all_goals
    have hB2 : Blk w2 tb #[.int .i64 sz, .bool own, .int .i64 6, .int .i64 pc, .int .u64 top, .int .i64 next, .int .i64 slot, .bool ok, .int .i64 at_, .int .i64 gn, pv, .int .i64 sa, .int .i64 sc, gv, .int .i64 er, .int .u64 hd, .int .i64 va, .int .i64 st] 150 := by repeat (first | with_reducible assumption | with_reducible apply Blk.drew | with_reducible apply Blk.alloc | (with_reducible refine Blk.only ?_ (by with_reducible assumption) (by first | exact List.not_mem_nil | with_reducible assumption)) | (with_reducible refine Blk.other ?_ _ _ (by simp only; omega)))
    have hO2 : Only [m.b, m.wb, m.hb, tb] w w2 := by repeat (first | with_reducible exact Only.refl _ _ | with_reducible assumption | with_reducible apply Only.drew | with_reducible apply Only.alloc | (with_reducible refine Only.setCell ?_ _ _ (by simp)) | (with_reducible refine Only.trans' ?_ (by with_reducible assumption) (by intro x hx _; first | exact absurd hx List.not_mem_nil | (simp only [List.mem_cons, List.not_mem_nil, or_false] at hx ⊢; omega))))
    go_wp2
    go_ret
    exact ⟨rfl, hm2, hB2, hO2⟩

/-! The chunk's live words are counted. -/
set_option maxRecDepth 100000 in
set_option maxHeartbeats 1600000 in
theorem astep3 (k : Cfg) (wh : Int) (x : AlS) (tb : Nat) (hm : MemR w m s) (hb : Blk w tb x.cs 150) (hpc : x.pc = 3) (hcl : 0 ≤ cls x.sz) (n1 : tb ≠ m.b) (n2 : tb ≠ m.wb) (n3 : tb ≠ m.hb) :
    Calls Try.prog 97 #[.pointer (some ⟨tb, 0, none⟩), .agg #[.int .i64 k.t, .int .i64 k.s, .int .i64 k.c, .int .i64 k.w, .int .i64 k.g, .int .i64 k.p, .int .i64 k.r, .pointer (some ⟨m.b, 0, none⟩), .int .i64 wh]] w fun e w' => e = .returned (.bool false) ∧ MemR w' m ((s.by wh).add (wrap64 (aChunk k x.sc + 1)) (room (cls x.sz))) ∧ Blk w' tb ({ x with pc := 4 } : AlS).cs 150 ∧ Only [m.b, m.wb, m.hb, tb] w w' := by
  have hcs := cls_cases x.sz
  have hr0 : 0 ≤ room (cls x.sz) ∧ room (cls x.sz) < 18446744073709551616 ∧ (cls x.sz = 0 ∨ cls x.sz = 1 ∨ cls x.sz = 2 ∨ cls x.sz = 3 ∨ cls x.sz = -1) := by
    have : cls x.sz = 0 ∨ cls x.sz = 1 ∨ cls x.sz = 2 ∨ cls x.sz = 3 := by omega
    have h2 := room_rng this
    exact ⟨by omega, by omega, by omega⟩
  clear hcs
  obtain ⟨sz, own, apc, ⟨pc, top, next, slot, ok⟩, at_, gn, pv, sa, sc, gv, er, hd, va, st⟩ := x
  simp only at hpc
  subst hpc
  replace hb : Blk w tb #[.int .i64 sz, .bool own, .int .i64 3, .int .i64 pc, .int .u64 top, .int .i64 next, .int .i64 slot, .bool ok, .int .i64 at_, .int .i64 gn, pv, .int .i64 sa, .int .i64 sc, gv, .int .i64 er, .int .u64 hd, .int .i64 va, .int .i64 st] 150 := hb
  have ht := hb.lt
  have hxn : w.heap.size ∉ [m.b, m.wb, m.hb, tb] := by
    have := hm.notin (Nat.le_refl _)
    simp only [List.mem_cons, List.not_mem_nil, or_false, not_or] at this ⊢
    exact ⟨this.1, this.2.1, this.2.2, by omega⟩
  have hnt : tb ∉ [m.b, m.wb, m.hb] := by simp only [List.mem_cons, List.not_mem_nil, or_false, not_or]; exact ⟨n1, n2, n3⟩
  have hxm : w.heap.size ∉ [m.b, m.wb, m.hb] := hm.notin (Nat.le_refl _)
  have hc0 := hb.cell
  have hf0 := hb.frozen
  have hX0 : Blk (w.alloc (.cells #[.int .i64 k.t, .int .i64 k.s, .int .i64 k.c, .int .i64 k.w, .int .i64 k.g, .int .i64 k.p, .int .i64 k.r, .pointer (some ⟨m.b, 0, none⟩), .int .i64 wh] 47)) w.heap.size #[.int .i64 k.t, .int .i64 k.s, .int .i64 k.c, .int .i64 k.w, .int .i64 k.g, .int .i64 k.p, .int .i64 k.r, .pointer (some ⟨m.b, 0, none⟩), .int .i64 wh] 47 := Blk.new w _ 47
  have hB0 := hb.alloc (.cells #[.int .i64 k.t, .int .i64 k.s, .int .i64 k.c, .int .i64 k.w, .int .i64 k.g, .int .i64 k.p, .int .i64 k.r, .pointer (some ⟨m.b, 0, none⟩), .int .i64 wh] 47)
  have hM0 := hm.alloc (.cells #[.int .i64 k.t, .int .i64 k.s, .int .i64 k.c, .int .i64 k.w, .int .i64 k.g, .int .i64 k.p, .int .i64 k.r, .pointer (some ⟨m.b, 0, none⟩), .int .i64 wh] 47)
  have hO0 : Only [m.b, m.wb, m.hb, tb] w (w.alloc (.cells #[.int .i64 k.t, .int .i64 k.s, .int .i64 k.c, .int .i64 k.w, .int .i64 k.g, .int .i64 k.p, .int .i64 k.r, .pointer (some ⟨m.b, 0, none⟩), .int .i64 wh] 47)) := (Only.refl _ w).alloc _
  simp only at hr0 hcl
  obtain ⟨cv, hcv⟩ : ∃ cv, cls sz = cv := ⟨_, rfl⟩
  have hcc : ∀ w', Calls Try.prog 34 #[.int .i64 sz] w' fun e w2 => e = .returned (.int .i64 cv) ∧ w' = w2 := fun w' => by
    have := class_any sz w'
    rw [hcv] at this
    exact this
  rw [hcv] at hcl hr0 ⊢
  clear hcv
  obtain ⟨hr0, hr1, hr2⟩ := hr0
  obtain ⟨rv, hrv⟩ : ∃ rv, room cv = rv := ⟨_, rfl⟩
  have hrc : ∀ w', Calls Try.prog 36 #[.int .i64 cv] w' fun e w2 => e = .returned (.int .i64 rv) ∧ w' = w2 := fun w' => by
    have := room_any cv w' hr2
    rw [hrv] at this
    exact this
  rw [hrv] at hr0 hr1 ⊢
  clear hrv hr2
  go_enter Try.func97, Try.ntmps97
  go_wp2
  go_region_held3 (fun w' => (∀ o, w'.cell? ⟨w.heap.size, o, none⟩ = (#[.int .i64 k.t, .int .i64 k.s, .int .i64 k.c, .int .i64 k.w, .int .i64 k.g, .int .i64 k.p, .int .i64 k.r, .pointer (some ⟨m.b, 0, none⟩), .int .i64 wh] : Array Value)[o]?) ∧ (∀ o, w'.cell? ⟨tb, o, none⟩ = (#[.int .i64 sz, .bool own, .int .i64 3, .int .i64 pc, .int .u64 top, .int .i64 next, .int .i64 slot, .bool ok, .int .i64 at_, .int .i64 gn, pv, .int .i64 sa, .int .i64 sc, gv, .int .i64 er, .int .u64 hd, .int .i64 va, .int .i64 st] : Array Value)[o]?)) ((refine ⟨?_, ?_⟩; (focus (refine Blk.cell (T := 47) ?_; repeat (first | with_reducible assumption | with_reducible apply Blk.drew | with_reducible apply Blk.alloc | (with_reducible refine Blk.only ?_ (by with_reducible assumption) (by first | exact List.not_mem_nil | with_reducible assumption)) | (with_reducible refine Blk.other ?_ _ _ (by simp only; omega))))); (focus (refine Blk.cell (T := 150) ?_; repeat (first | with_reducible assumption | with_reducible apply Blk.drew | with_reducible apply Blk.alloc | (with_reducible refine Blk.only ?_ (by with_reducible assumption) (by first | exact List.not_mem_nil | with_reducible assumption)) | (with_reducible refine Blk.other ?_ _ _ (by simp only; omega)))))))
    (first
      | (go_at_call 50; with_reducible refine (chunka_any _ k _).mono ?_; rintro e w1 ⟨rfl, rfl⟩)
      | (go_at_call 34; with_reducible refine (hcc _).mono ?_; rintro e w1 ⟨rfl, rfl⟩)
      | (go_at_call 36; with_reducible refine (hrc _).mono ?_; rintro e w1 ⟨rfl, rfl⟩)
      | (go_at_call 73; with_reducible refine (add_env (m := m) (s := s) k wh (by repeat (first | with_reducible assumption | with_reducible apply MemR.drew | with_reducible apply MemR.alloc | (with_reducible refine MemR.only ?_ (by with_reducible assumption) List.not_mem_nil List.not_mem_nil List.not_mem_nil) | (with_reducible refine MemR.other ?_ _ _ (by simp only; omega) (by simp only; omega) (by simp only; omega)))) hr0 hr1).mono ?_; rintro e w2 ⟨rfl, hm2, ho2⟩))
  all_goals
    have hB2 : Blk w2 tb #[.int .i64 sz, .bool own, .int .i64 3, .int .i64 pc, .int .u64 top, .int .i64 next, .int .i64 slot, .bool ok, .int .i64 at_, .int .i64 gn, pv, .int .i64 sa, .int .i64 sc, gv, .int .i64 er, .int .u64 hd, .int .i64 va, .int .i64 st] 150 := by repeat (first | with_reducible assumption | with_reducible apply Blk.drew | with_reducible apply Blk.alloc | (with_reducible refine Blk.only ?_ (by with_reducible assumption) (by first | exact List.not_mem_nil | with_reducible assumption)) | (with_reducible refine Blk.other ?_ _ _ (by simp only; omega)))
    have hO2 : Only [m.b, m.wb, m.hb, tb] w w2 := by repeat (first | with_reducible exact Only.refl _ _ | with_reducible assumption | with_reducible apply Only.drew | with_reducible apply Only.alloc | (with_reducible refine Only.setCell ?_ _ _ (by simp)) | (with_reducible refine Only.trans' ?_ (by with_reducible assumption) (by intro x hx _; first | exact absurd hx List.not_mem_nil | (simp only [List.mem_cons, List.not_mem_nil, or_false] at hx ⊢; omega))))
    have hf2 := hB2.frozen
    have hc2 := hB2.cell
    have ht2 := hB2.lt
    rw [IntWalk.i64_left] at hm2
    go_wp2
    go_ret
    exact ⟨rfl, hm2.other _ _ n1.symm n2.symm n3.symm, hB2.set 2 _ rfl, hO2.setCell _ _ (by simp)⟩

end
end Go.Proofs.Yteoimmjgnflmmaa
