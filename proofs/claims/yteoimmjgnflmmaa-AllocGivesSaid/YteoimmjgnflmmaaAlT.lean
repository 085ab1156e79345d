/-
  Somebody who makes an object; the slot that it takes: the first of its parts, within its own block.
-/
import Derived.Test.YteoimmjgnflmmaaSlot2
namespace Go.Proofs.Yteoimmjgnflmmaa
open Go.RowKit

structure AlS where
  sz : Int
  own : Bool
  pc : Int
  t : TakeS
  at_ : Int
  gn : Int
  pv : Value
  sa : Int
  sc : Int
  gv : Value
  er : Int
  hd : Int
  va : Int
  st : Int
def AlS.cs (x : AlS) : Array Value := #[.int .i64 x.sz, .bool x.own, .int .i64 x.pc, .int .i64 x.t.pc, .int .u64 x.t.top, .int .i64 x.t.next, .int .i64 x.t.slot, .bool x.t.ok, .int .i64 x.at_, .int .i64 x.gn, x.pv, .int .i64 x.sa, .int .i64 x.sc, x.gv, .int .i64 x.er, .int .u64 x.hd, .int .i64 x.va, .int .i64 x.st]

section
variable {w : World} {m : MB} {s : MS}

set_option maxRecDepth 100000 in
set_option maxHeartbeats 1600000 in
theorem atake_step0 (k : Cfg) (wh : Int) (x : AlS) (tb : Nat) (hm : MemR w m s) (hb : Blk w tb x.cs 150) (hpc : x.t.pc = 0) (n1 : tb ≠ m.b) (n2 : tb ≠ m.wb) (n3 : tb ≠ m.hb) :
    Calls Try.prog 65 #[.pointer (some ⟨tb, 3, none⟩), .agg #[.int .i64 k.t, .int .i64 k.s, .int .i64 k.c, .int .i64 k.w, .int .i64 k.g, .int .i64 k.p, .int .i64 k.r, .pointer (some ⟨m.b, 0, none⟩), .int .i64 wh]] w fun e w' =>
      e = .returned (.bool (decide (topS (s.get 1) < 0))) ∧ MemR w' m ((s.by wh).load 1) ∧ Blk w' tb ({ x with t := ⟨1, s.get 1, x.t.next, topS (s.get 1), x.t.ok⟩ } : AlS).cs 150 ∧ Only [m.b, m.wb, m.hb, tb] w w' := by
  have hU := hm.get_rng 1
  obtain ⟨sz, own, apc, ⟨pc, top, next, slot, ok⟩, at_, gn, pv, sa, sc, gv, er, hd, va, st⟩ := x
  simp only at hpc
  subst hpc
  replace hb : Blk w tb #[.int .i64 sz, .bool own, .int .i64 apc, .int .i64 0, .int .u64 top, .int .i64 next, .int .i64 slot, .bool ok, .int .i64 at_, .int .i64 gn, pv, .int .i64 sa, .int .i64 sc, gv, .int .i64 er, .int .u64 hd, .int .i64 va, .int .i64 st] 150 := hb
  have ht := hb.lt
  have hnx : w.heap.size ∉ [m.b, m.wb, m.hb] := hm.notin (Nat.le_refl _)
  have hnt : tb ∉ [m.b, m.wb, m.hb] := by simp only [List.mem_cons, List.not_mem_nil, or_false, not_or]; exact ⟨n1, n2, n3⟩
  have hc0 := hb.cell
  have hf0 := hb.frozen
  go_enter Try.func65, Try.ntmps65
  go_wp2
  have hX0 : Blk (w.alloc (.cells #[.int .i64 k.t, .int .i64 k.s, .int .i64 k.c, .int .i64 k.w, .int .i64 k.g, .int .i64 k.p, .int .i64 k.r, .pointer (some ⟨m.b, 0, none⟩), .int .i64 wh] 47)) w.heap.size #[.int .i64 k.t, .int .i64 k.s, .int .i64 k.c, .int .i64 k.w, .int .i64 k.g, .int .i64 k.p, .int .i64 k.r, .pointer (some ⟨m.b, 0, none⟩), .int .i64 wh] 47 := Blk.new w _ 47
  have hB0 := hb.alloc (.cells #[.int .i64 k.t, .int .i64 k.s, .int .i64 k.c, .int .i64 k.w, .int .i64 k.g, .int .i64 k.p, .int .i64 k.r, .pointer (some ⟨m.b, 0, none⟩), .int .i64 wh] 47)
  have hM0 := hm.alloc (.cells #[.int .i64 k.t, .int .i64 k.s, .int .i64 k.c, .int .i64 k.w, .int .i64 k.g, .int .i64 k.p, .int .i64 k.r, .pointer (some ⟨m.b, 0, none⟩), .int .i64 wh] 47)
  have hX : Blk (w.alloc (.cells #[.int .i64 k.t, .int .i64 k.s, .int .i64 k.c, .int .i64 k.w, .int .i64 k.g, .int .i64 k.p, .int .i64 k.r, .pointer (some ⟨m.b, 0, none⟩), .int .i64 wh] 47)).drew w.heap.size #[.int .i64 k.t, .int .i64 k.s, .int .i64 k.c, .int .i64 k.w, .int .i64 k.g, .int .i64 k.p, .int .i64 k.r, .pointer (some ⟨m.b, 0, none⟩), .int .i64 wh] 47 := (Blk.new w _ 47).drew
  have hB : Blk (w.alloc (.cells #[.int .i64 k.t, .int .i64 k.s, .int .i64 k.c, .int .i64 k.w, .int .i64 k.g, .int .i64 k.p, .int .i64 k.r, .pointer (some ⟨m.b, 0, none⟩), .int .i64 wh] 47)).drew tb #[.int .i64 sz, .bool own, .int .i64 apc, .int .i64 0, .int .u64 top, .int .i64 next, .int .i64 slot, .bool ok, .int .i64 at_, .int .i64 gn, pv, .int .i64 sa, .int .i64 sc, gv, .int .i64 er, .int .u64 hd, .int .i64 va, .int .i64 st] 150 := (hb.alloc _).drew
  have hM : MemR (w.alloc (.cells #[.int .i64 k.t, .int .i64 k.s, .int .i64 k.c, .int .i64 k.w, .int .i64 k.g, .int .i64 k.p, .int .i64 k.r, .pointer (some ⟨m.b, 0, none⟩), .int .i64 wh] 47)).drew m s := (hm.alloc _).drew
  go_region_held3 (fun w' => ∀ o, w'.cell? ⟨w.heap.size, o, none⟩ = (#[.int .i64 k.t, .int .i64 k.s, .int .i64 k.c, .int .i64 k.w, .int .i64 k.g, .int .i64 k.p, .int .i64 k.r, .pointer (some ⟨m.b, 0, none⟩), .int .i64 wh] : Array Value)[o]?) ((refine Blk.cell (T := 47) ?_; repeat (first | with_reducible assumption | with_reducible apply Blk.drew | with_reducible apply Blk.alloc | (with_reducible refine Blk.only ?_ (by with_reducible assumption) (by first | exact List.not_mem_nil | with_reducible assumption)) | (with_reducible refine Blk.other ?_ _ _ (by simp only; omega)))))
    (first
      | (go_at_call 46; refine (topa_any _).mono ?_; rintro e w' ⟨rfl, rfl⟩)
      | (go_at_call 69; refine (load_env k wh hM).mono ?_; rintro e w1 ⟨rfl, hm1, ho1⟩; have hB1 := hB.only ho1 hnt; have f1 := hB1.frozen; have c1 := hB1.cell))
  all_goals
    go_wp2_with (first | (go_at_call 80; refine (top_any _ _ hU).mono ?_; rintro e w' ⟨rfl, rfl⟩))
    go_ret
    refine ⟨rfl, ?_, ?_, ?_⟩
    · repeat (first | with_reducible assumption | with_reducible apply MemR.drew | with_reducible apply MemR.alloc | (with_reducible refine MemR.only ?_ (by with_reducible assumption) List.not_mem_nil List.not_mem_nil List.not_mem_nil) | (with_reducible refine MemR.other ?_ _ _ (by simp only; omega) (by simp only; omega) (by simp only; omega)))
    · exact ((hB1.set 4 _ rfl).set 6 _ rfl).set 3 _ rfl
    · repeat (first | with_reducible exact Only.refl _ _ | with_reducible assumption | with_reducible apply Only.drew | with_reducible apply Only.drewN | with_reducible apply Only.alloc | (with_reducible refine Only.setCell ?_ _ _ (by simp)) | (with_reducible refine Only.trans' ?_ (by with_reducible assumption) (by intro x hx _; simp only [List.mem_cons, List.not_mem_nil, or_false] at hx ⊢; omega)))

set_option maxRecDepth 100000 in
set_option maxHeartbeats 1600000 in
theorem atake_step1 (k : Cfg) (wh : Int) (x : AlS) (tb : Nat) (hm : MemR w m s) (hb : Blk w tb x.cs 150) (hpc : x.t.pc = 1) (n1 : tb ≠ m.b) (n2 : tb ≠ m.wb) (n3 : tb ≠ m.hb) :
    Calls Try.prog 65 #[.pointer (some ⟨tb, 3, none⟩), .agg #[.int .i64 k.t, .int .i64 k.s, .int .i64 k.c, .int .i64 k.w, .int .i64 k.g, .int .i64 k.p, .int .i64 k.r, .pointer (some ⟨m.b, 0, none⟩), .int .i64 wh]] w fun e w' =>
      e = .returned (.bool x.t.ok) ∧ MemR w' m ((s.by wh).load (aLink k x.t.slot)) ∧ Blk w' tb ({ x with t := ⟨2, x.t.top, topS (s.get (aLink k x.t.slot)), x.t.slot, x.t.ok⟩ } : AlS).cs 150 ∧ Only [m.b, m.wb, m.hb, tb] w w' := by
  unfold aLink
  obtain ⟨sz, own, apc, ⟨pc, top, next, slot, ok⟩, at_, gn, pv, sa, sc, gv, er, hd, va, st⟩ := x
  simp only at hpc
  subst hpc
  replace hb : Blk w tb #[.int .i64 sz, .bool own, .int .i64 apc, .int .i64 1, .int .u64 top, .int .i64 next, .int .i64 slot, .bool ok, .int .i64 at_, .int .i64 gn, pv, .int .i64 sa, .int .i64 sc, gv, .int .i64 er, .int .u64 hd, .int .i64 va, .int .i64 st] 150 := hb
  have ht := hb.lt
  have hnx : w.heap.size ∉ [m.b, m.wb, m.hb] := hm.notin (Nat.le_refl _)
  have hnt : tb ∉ [m.b, m.wb, m.hb] := by simp only [List.mem_cons, List.not_mem_nil, or_false, not_or]; exact ⟨n1, n2, n3⟩
  have hc0 := hb.cell
  have hf0 := hb.frozen
  go_enter Try.func65, Try.ntmps65
  go_wp2
  have hX0 : Blk (w.alloc (.cells #[.int .i64 k.t, .int .i64 k.s, .int .i64 k.c, .int .i64 k.w, .int .i64 k.g, .int .i64 k.p, .int .i64 k.r, .pointer (some ⟨m.b, 0, none⟩), .int .i64 wh] 47)) w.heap.size #[.int .i64 k.t, .int .i64 k.s, .int .i64 k.c, .int .i64 k.w, .int .i64 k.g, .int .i64 k.p, .int .i64 k.r, .pointer (some ⟨m.b, 0, none⟩), .int .i64 wh] 47 := Blk.new w _ 47
  have hB0 := hb.alloc (.cells #[.int .i64 k.t, .int .i64 k.s, .int .i64 k.c, .int .i64 k.w, .int .i64 k.g, .int .i64 k.p, .int .i64 k.r, .pointer (some ⟨m.b, 0, none⟩), .int .i64 wh] 47)
  have hM0 := hm.alloc (.cells #[.int .i64 k.t, .int .i64 k.s, .int .i64 k.c, .int .i64 k.w, .int .i64 k.g, .int .i64 k.p, .int .i64 k.r, .pointer (some ⟨m.b, 0, none⟩), .int .i64 wh] 47)
  have hX : Blk (w.alloc (.cells #[.int .i64 k.t, .int .i64 k.s, .int .i64 k.c, .int .i64 k.w, .int .i64 k.g, .int .i64 k.p, .int .i64 k.r, .pointer (some ⟨m.b, 0, none⟩), .int .i64 wh] 47)).drew w.heap.size #[.int .i64 k.t, .int .i64 k.s, .int .i64 k.c, .int .i64 k.w, .int .i64 k.g, .int .i64 k.p, .int .i64 k.r, .pointer (some ⟨m.b, 0, none⟩), .int .i64 wh] 47 := (Blk.new w _ 47).drew
  have hB : Blk (w.alloc (.cells #[.int .i64 k.t, .int .i64 k.s, .int .i64 k.c, .int .i64 k.w, .int .i64 k.g, .int .i64 k.p, .int .i64 k.r, .pointer (some ⟨m.b, 0, none⟩), .int .i64 wh] 47)).drew tb #[.int .i64 sz, .bool own, .int .i64 apc, .int .i64 1, .int .u64 top, .int .i64 next, .int .i64 slot, .bool ok, .int .i64 at_, .int .i64 gn, pv, .int .i64 sa, .int .i64 sc, gv, .int .i64 er, .int .u64 hd, .int .i64 va, .int .i64 st] 150 := (hb.alloc _).drew
  have hM : MemR (w.alloc (.cells #[.int .i64 k.t, .int .i64 k.s, .int .i64 k.c, .int .i64 k.w, .int .i64 k.g, .int .i64 k.p, .int .i64 k.r, .pointer (some ⟨m.b, 0, none⟩), .int .i64 wh] 47)).drew m s := (hm.alloc _).drew
  have h3 : ∀ w', Blk w' tb #[.int .i64 sz, .bool own, .int .i64 apc, .int .i64 1, .int .u64 top, .int .i64 next, .int .i64 slot, .bool ok, .int .i64 at_, .int .i64 gn, pv, .int .i64 sa, .int .i64 sc, gv, .int .i64 er, .int .u64 hd, .int .i64 va, .int .i64 st] 150 → w'.cell? ⟨tb, 6, none⟩ = some (.int .i64 slot) := fun w' h => h.cell 6
  have h3s : ∀ w' v, Blk w' tb #[.int .i64 sz, .bool own, .int .i64 apc, .int .i64 1, .int .u64 top, .int .i64 next, .int .i64 slot, .bool ok, .int .i64 at_, .int .i64 gn, pv, .int .i64 sa, .int .i64 sc, gv, .int .i64 er, .int .u64 hd, .int .i64 va, .int .i64 st] 150 → (w'.setCell ⟨tb, 5, none⟩ v).cell? ⟨tb, 6, none⟩ = some (.int .i64 slot) := fun w' v h => (h.set 5 v rfl).cell 6
  go_region_held3 (fun w' => (∀ o, w'.cell? ⟨w.heap.size, o, none⟩ = (#[.int .i64 k.t, .int .i64 k.s, .int .i64 k.c, .int .i64 k.w, .int .i64 k.g, .int .i64 k.p, .int .i64 k.r, .pointer (some ⟨m.b, 0, none⟩), .int .i64 wh] : Array Value)[o]?) ∧ w'.cell? ⟨tb, 6, none⟩ = some (.int .i64 slot)) ((refine ⟨?_, ?_⟩; (focus (refine Blk.cell (T := 47) ?_; repeat (first | with_reducible assumption | with_reducible apply Blk.drew | with_reducible apply Blk.alloc | (with_reducible refine Blk.only ?_ (by with_reducible assumption) (by first | exact List.not_mem_nil | with_reducible assumption)) | (with_reducible refine Blk.other ?_ _ _ (by simp only; omega))))); (focus (first | (with_reducible refine h3 _ ?_; (repeat (first | with_reducible assumption | with_reducible apply Blk.drew | with_reducible apply Blk.alloc | (with_reducible refine Blk.only ?_ (by with_reducible assumption) (by first | exact List.not_mem_nil | with_reducible assumption)) | (with_reducible refine Blk.other ?_ _ _ (by simp only; omega)))); done) | (with_reducible refine h3s _ _ ?_; (repeat (first | with_reducible assumption | with_reducible apply Blk.drew | with_reducible apply Blk.alloc | (with_reducible refine Blk.only ?_ (by with_reducible assumption) (by first | exact List.not_mem_nil | with_reducible assumption)) | (with_reducible refine Blk.other ?_ _ _ (by simp only; omega)))); done)))))
    (first
      | (go_at_call 49; with_reducible refine (slota_any _ k _).mono ?_; rintro e w' ⟨rfl, rfl⟩)
      | (go_at_call 80; with_reducible refine (top_any _ _ (hm.get_rng _)).mono ?_; rintro e w' ⟨rfl, rfl⟩)
      | (go_at_call 69; with_reducible refine (load_env k wh ((hM0.alloc _).drew)).mono ?_; rintro e w1 ⟨rfl, hm1, ho1⟩; have hB1 := ((hB0.alloc (.cells #[.int .i64 k.t, .int .i64 k.s, .int .i64 k.c, .int .i64 k.w, .int .i64 k.g, .int .i64 k.p, .int .i64 k.r] 23)).drew).only ho1 hnt; have f1 := hB1.frozen; have c1 := hB1.cell; have hX1 := ((hX0.alloc (.cells #[.int .i64 k.t, .int .i64 k.s, .int .i64 k.c, .int .i64 k.w, .int .i64 k.g, .int .i64 k.p, .int .i64 k.r] 23)).drew).only ho1 hnx; have hX1c := hX1.cell))
  all_goals
    rw [IntWalk.i64_left] at hm1
    go_wp2
    go_ret
    refine ⟨rfl, ?_, ?_, ?_⟩
    · repeat (first | with_reducible assumption | with_reducible apply MemR.drew | with_reducible apply MemR.alloc | (with_reducible refine MemR.only ?_ (by with_reducible assumption) List.not_mem_nil List.not_mem_nil List.not_mem_nil) | (with_reducible refine MemR.other ?_ _ _ (by simp only; omega) (by simp only; omega) (by simp only; omega)))
    · exact (hB1.set 5 _ rfl).set 3 _ rfl
    · repeat (first | with_reducible exact Only.refl _ _ | with_reducible assumption | with_reducible apply Only.drew | with_reducible apply Only.drewN | with_reducible apply Only.alloc | (with_reducible refine Only.setCell ?_ _ _ (by simp)) | (with_reducible refine Only.trans' ?_ (by with_reducible assumption) (by intro x hx _; simp only [List.mem_cons, List.not_mem_nil, or_false] at hx ⊢; omega)))

set_option maxRecDepth 100000 in
set_option maxHeartbeats 1600000 in
theorem atake_step2 (k : Cfg) (wh : Int) (x : AlS) (tb : Nat) (hm : MemR w m s) (hb : Blk w tb x.cs 150) (hpc : x.t.pc = 2) (hU : U64 x.t.top) (hx0 : -1 ≤ x.t.next) (hx1 : x.t.next < 131072) (n1 : tb ≠ m.b) (n2 : tb ≠ m.wb) (n3 : tb ≠ m.hb) :
    Calls Try.prog 65 #[.pointer (some ⟨tb, 3, none⟩), .agg #[.int .i64 k.t, .int .i64 k.s, .int .i64 k.c, .int .i64 k.w, .int .i64 k.g, .int .i64 k.p, .int .i64 k.r, .pointer (some ⟨m.b, 0, none⟩), .int .i64 wh]] w fun e w' =>
      e = .returned (.bool (s.can 1 x.t.top)) ∧ MemR w' m ((s.by wh).cas 1 x.t.top (putTop x.t.next (topN x.t.top + 1))) ∧ Blk w' tb ({ x with t := ⟨0, x.t.top, x.t.next, x.t.slot, s.can 1 x.t.top⟩ } : AlS).cs 150 ∧ Only [m.b, m.wb, m.hb, tb] w w' := by
  have hN := topN_rng (x := x.t.top)
  obtain ⟨hN0, hN1⟩ := hN
  obtain ⟨sz, own, apc, ⟨pc, top, next, slot, ok⟩, at_, gn, pv, sa, sc, gv, er, hd, va, st⟩ := x
  simp only at hpc
  subst hpc
  replace hb : Blk w tb #[.int .i64 sz, .bool own, .int .i64 apc, .int .i64 2, .int .u64 top, .int .i64 next, .int .i64 slot, .bool ok, .int .i64 at_, .int .i64 gn, pv, .int .i64 sa, .int .i64 sc, gv, .int .i64 er, .int .u64 hd, .int .i64 va, .int .i64 st] 150 := hb
  have ht := hb.lt
  have hnx : w.heap.size ∉ [m.b, m.wb, m.hb] := hm.notin (Nat.le_refl _)
  have hnt : tb ∉ [m.b, m.wb, m.hb] := by simp only [List.mem_cons, List.not_mem_nil, or_false, not_or]; exact ⟨n1, n2, n3⟩
  have hc0 := hb.cell
  have hf0 := hb.frozen
  go_enter Try.func65, Try.ntmps65
  go_wp2_with (first | (go_at_call 80; refine (top_any _ _ hU).mono ?_; rintro e w' ⟨rfl, rfl⟩))
  have hX0 : Blk (w.alloc (.cells #[.int .i64 k.t, .int .i64 k.s, .int .i64 k.c, .int .i64 k.w, .int .i64 k.g, .int .i64 k.p, .int .i64 k.r, .pointer (some ⟨m.b, 0, none⟩), .int .i64 wh] 47)) w.heap.size #[.int .i64 k.t, .int .i64 k.s, .int .i64 k.c, .int .i64 k.w, .int .i64 k.g, .int .i64 k.p, .int .i64 k.r, .pointer (some ⟨m.b, 0, none⟩), .int .i64 wh] 47 := Blk.new w _ 47
  have hB0 := hb.alloc (.cells #[.int .i64 k.t, .int .i64 k.s, .int .i64 k.c, .int .i64 k.w, .int .i64 k.g, .int .i64 k.p, .int .i64 k.r, .pointer (some ⟨m.b, 0, none⟩), .int .i64 wh] 47)
  have hM0 := hm.alloc (.cells #[.int .i64 k.t, .int .i64 k.s, .int .i64 k.c, .int .i64 k.w, .int .i64 k.g, .int .i64 k.p, .int .i64 k.r, .pointer (some ⟨m.b, 0, none⟩), .int .i64 wh] 47)
  have hX : Blk (w.alloc (.cells #[.int .i64 k.t, .int .i64 k.s, .int .i64 k.c, .int .i64 k.w, .int .i64 k.g, .int .i64 k.p, .int .i64 k.r, .pointer (some ⟨m.b, 0, none⟩), .int .i64 wh] 47)).drew w.heap.size #[.int .i64 k.t, .int .i64 k.s, .int .i64 k.c, .int .i64 k.w, .int .i64 k.g, .int .i64 k.p, .int .i64 k.r, .pointer (some ⟨m.b, 0, none⟩), .int .i64 wh] 47 := (Blk.new w _ 47).drew
  have hB : Blk (w.alloc (.cells #[.int .i64 k.t, .int .i64 k.s, .int .i64 k.c, .int .i64 k.w, .int .i64 k.g, .int .i64 k.p, .int .i64 k.r, .pointer (some ⟨m.b, 0, none⟩), .int .i64 wh] 47)).drew tb #[.int .i64 sz, .bool own, .int .i64 apc, .int .i64 2, .int .u64 top, .int .i64 next, .int .i64 slot, .bool ok, .int .i64 at_, .int .i64 gn, pv, .int .i64 sa, .int .i64 sc, gv, .int .i64 er, .int .u64 hd, .int .i64 va, .int .i64 st] 150 := (hb.alloc _).drew
  have hM : MemR (w.alloc (.cells #[.int .i64 k.t, .int .i64 k.s, .int .i64 k.c, .int .i64 k.w, .int .i64 k.g, .int .i64 k.p, .int .i64 k.r, .pointer (some ⟨m.b, 0, none⟩), .int .i64 wh] 47)).drew m s := (hm.alloc _).drew
  have hb0 : Blk (w.setCell ⟨tb, 3, none⟩ (.int .i64 0)) tb #[.int .i64 sz, .bool own, .int .i64 apc, .int .i64 0, .int .u64 top, .int .i64 next, .int .i64 slot, .bool ok, .int .i64 at_, .int .i64 gn, pv, .int .i64 sa, .int .i64 sc, gv, .int .i64 er, .int .u64 hd, .int .i64 va, .int .i64 st] 150 := hb.set 3 _ rfl
  have hb1 : Blk ((w.setCell ⟨tb, 3, none⟩ (.int .i64 0)).alloc (.cells #[.int .i64 k.t, .int .i64 k.s, .int .i64 k.c, .int .i64 k.w, .int .i64 k.g, .int .i64 k.p, .int .i64 k.r, .pointer (some ⟨m.b, 0, none⟩), .int .i64 wh] 47)).drew tb #[.int .i64 sz, .bool own, .int .i64 apc, .int .i64 0, .int .u64 top, .int .i64 next, .int .i64 slot, .bool ok, .int .i64 at_, .int .i64 gn, pv, .int .i64 sa, .int .i64 sc, gv, .int .i64 er, .int .u64 hd, .int .i64 va, .int .i64 st] 150 := (hb0.alloc _).drew
  have hx1 : Blk ((w.setCell ⟨tb, 3, none⟩ (.int .i64 0)).alloc (.cells #[.int .i64 k.t, .int .i64 k.s, .int .i64 k.c, .int .i64 k.w, .int .i64 k.g, .int .i64 k.p, .int .i64 k.r, .pointer (some ⟨m.b, 0, none⟩), .int .i64 wh] 47)).drew w.heap.size #[.int .i64 k.t, .int .i64 k.s, .int .i64 k.c, .int .i64 k.w, .int .i64 k.g, .int .i64 k.p, .int .i64 k.r, .pointer (some ⟨m.b, 0, none⟩), .int .i64 wh] 47 := (Blk.new' (by simp) rfl : Blk ((w.setCell ⟨tb, 3, none⟩ (.int .i64 0)).alloc (.cells #[.int .i64 k.t, .int .i64 k.s, .int .i64 k.c, .int .i64 k.w, .int .i64 k.g, .int .i64 k.p, .int .i64 k.r, .pointer (some ⟨m.b, 0, none⟩), .int .i64 wh] 47)) w.heap.size #[.int .i64 k.t, .int .i64 k.s, .int .i64 k.c, .int .i64 k.w, .int .i64 k.g, .int .i64 k.p, .int .i64 k.r, .pointer (some ⟨m.b, 0, none⟩), .int .i64 wh] 47).drew
  have hm0 : MemR ((w.setCell ⟨tb, 3, none⟩ (.int .i64 0)).alloc (.cells #[.int .i64 k.t, .int .i64 k.s, .int .i64 k.c, .int .i64 k.w, .int .i64 k.g, .int .i64 k.p, .int .i64 k.r, .pointer (some ⟨m.b, 0, none⟩), .int .i64 wh] 47)).drew m s := ((hm.other _ _ n1.symm n2.symm n3.symm).alloc _).drew
  have ho0 : Only [m.b, m.wb, m.hb, tb] w ((w.setCell ⟨tb, 3, none⟩ (.int .i64 0)).alloc (.cells #[.int .i64 k.t, .int .i64 k.s, .int .i64 k.c, .int .i64 k.w, .int .i64 k.g, .int .i64 k.p, .int .i64 k.r, .pointer (some ⟨m.b, 0, none⟩), .int .i64 wh] 47)).drew := (((Only.refl _ w).setCell _ _ (by simp)).alloc _).drew
  have h3 : ∀ w', Blk w' tb #[.int .i64 sz, .bool own, .int .i64 apc, .int .i64 0, .int .u64 top, .int .i64 next, .int .i64 slot, .bool ok, .int .i64 at_, .int .i64 gn, pv, .int .i64 sa, .int .i64 sc, gv, .int .i64 er, .int .u64 hd, .int .i64 va, .int .i64 st] 150 → w'.cell? ⟨tb, 4, none⟩ = some (.int .u64 top) ∧ w'.cell? ⟨tb, 5, none⟩ = some (.int .i64 next) := fun w' h => ⟨h.cell 4, h.cell 5⟩
  have h3s : ∀ w' v, Blk w' tb #[.int .i64 sz, .bool own, .int .i64 apc, .int .i64 0, .int .u64 top, .int .i64 next, .int .i64 slot, .bool ok, .int .i64 at_, .int .i64 gn, pv, .int .i64 sa, .int .i64 sc, gv, .int .i64 er, .int .u64 hd, .int .i64 va, .int .i64 st] 150 → (w'.setCell ⟨tb, 7, none⟩ v).cell? ⟨tb, 4, none⟩ = some (.int .u64 top) ∧ (w'.setCell ⟨tb, 7, none⟩ v).cell? ⟨tb, 5, none⟩ = some (.int .i64 next) := fun w' v h => ⟨(h.set 7 v rfl).cell 4, (h.set 7 v rfl).cell 5⟩
  go_region_held3 (fun w' => (∀ o, w'.cell? ⟨w.heap.size, o, none⟩ = (#[.int .i64 k.t, .int .i64 k.s, .int .i64 k.c, .int .i64 k.w, .int .i64 k.g, .int .i64 k.p, .int .i64 k.r, .pointer (some ⟨m.b, 0, none⟩), .int .i64 wh] : Array Value)[o]?) ∧ w'.cell? ⟨tb, 4, none⟩ = some (.int .u64 top) ∧ w'.cell? ⟨tb, 5, none⟩ = some (.int .i64 next)) ((refine ⟨?_, ?_⟩; (focus (refine Blk.cell (T := 47) ?_; repeat (first | with_reducible assumption | with_reducible apply Blk.drew | with_reducible apply Blk.alloc | (with_reducible refine Blk.only ?_ (by with_reducible assumption) (by first | exact List.not_mem_nil | with_reducible assumption)) | (with_reducible refine Blk.other ?_ _ _ (by simp only; omega))))); (focus (first | (with_reducible refine h3 _ ?_; (repeat (first | with_reducible assumption | with_reducible apply Blk.drew | with_reducible apply Blk.alloc | (with_reducible refine Blk.only ?_ (by with_reducible assumption) (by first | exact List.not_mem_nil | with_reducible assumption)) | (with_reducible refine Blk.other ?_ _ _ (by simp only; omega)))); done) | (with_reducible refine h3s _ _ ?_; (repeat (first | with_reducible assumption | with_reducible apply Blk.drew | with_reducible apply Blk.alloc | (with_reducible refine Blk.only ?_ (by with_reducible assumption) (by first | exact List.not_mem_nil | with_reducible assumption)) | (with_reducible refine Blk.other ?_ _ _ (by simp only; omega)))); done)))))
    (first
      | (go_at_call 46; refine (topa_any _).mono ?_; rintro e w' ⟨rfl, rfl⟩)
      | (go_at_call 102; with_reducible refine (puttop_any _ _ _ (by omega) (by omega)).mono ?_; rintro e w' ⟨rfl, rfl⟩)
      | (go_at_call 72; with_reducible refine (cas_env k wh hm0 (putTop_rng hx0)).mono ?_; rintro e w1 ⟨rfl, hm1, ho1⟩; have hB1 := hb1.only ho1 hnt; have f1 := hB1.frozen; have c1 := hB1.cell; have hX1 := hx1.only ho1 hnx))
  all_goals
    have hN := topN_rng (x := top)
    have hw : IntKind.i64.wrap (topN top + 1) = topN top + 1 := by rw [IntWalk.i64_left]; unfold wrap64; omega
    rw [hw] at hm1
    have hO1 := ho0.trans' ho1 (by intro x hx _; simp only [List.mem_cons, List.not_mem_nil, or_false] at hx ⊢; omega)
    clear hN hw
    go_wp2
    go_ret
    exact ⟨rfl, hm1.other _ _ n1.symm n2.symm n3.symm, hB1.set 7 _ rfl, hO1.setCell _ _ (by simp)⟩


/-- A step of it. -/
theorem atake_step (k : Cfg) (wh : Int) (x : AlS) (tb : Nat) {s' : MS} {b : Bool} {t' : TakeS} (hst : takeStep k wh s x.t = (b, s', t')) (hm : MemR w m s) (hb : Blk w tb x.cs 150) (hpc : x.t.pc = 0 ∨ x.t.pc = 1 ∨ (x.t.pc = 2 ∧ U64 x.t.top ∧ -1 ≤ x.t.next ∧ x.t.next < 131072)) (n1 : tb ≠ m.b) (n2 : tb ≠ m.wb) (n3 : tb ≠ m.hb) :
    Calls Try.prog 65 #[.pointer (some ⟨tb, 3, none⟩), .agg #[.int .i64 k.t, .int .i64 k.s, .int .i64 k.c, .int .i64 k.w, .int .i64 k.g, .int .i64 k.p, .int .i64 k.r, .pointer (some ⟨m.b, 0, none⟩), .int .i64 wh]] w fun e w' =>
      e = .returned (.bool b) ∧ MemR w' m s' ∧ Blk w' tb ({ x with t := t' } : AlS).cs 150 ∧ Only [m.b, m.wb, m.hb, tb] w w' := by
  unfold takeStep at hst
  rcases hpc with h | h | ⟨h, hU, h0, h1⟩
  · rw [if_pos h] at hst
    simp only [Prod.mk.injEq] at hst
    obtain ⟨rfl, rfl, rfl⟩ := hst
    exact atake_step0 k wh x tb hm hb h n1 n2 n3
  · rw [if_neg (by omega), if_pos h] at hst
    simp only [Prod.mk.injEq] at hst
    obtain ⟨rfl, rfl, rfl⟩ := hst
    exact atake_step1 k wh x tb hm hb h n1 n2 n3
  · rw [if_neg (by omega), if_neg (by omega)] at hst
    simp only [Prod.mk.injEq] at hst
    obtain ⟨rfl, rfl, rfl⟩ := hst
    exact atake_step2 k wh x tb hm hb h hU h0 h1 n1 n2 n3
set_option maxHeartbeats 400000 in
theorem atslot_any (x : AlS) (tb : Nat) (hb : Blk w tb x.cs 150) : Calls Try.prog 66 #[.pointer (some ⟨tb, 3, none⟩)] w fun e w' => e = .returned (.tuple #[.int .i64 (if x.t.ok = true then x.t.slot else 0), .bool x.t.ok]) ∧ w = w' := by
  obtain ⟨sz, own, apc, ⟨pc, top, next, slot, ok⟩, at_, gn, pv, sa, sc, gv, er, hd, va, st⟩ := x
  replace hb : Blk w tb #[.int .i64 sz, .bool own, .int .i64 apc, .int .i64 pc, .int .u64 top, .int .i64 next, .int .i64 slot, .bool ok, .int .i64 at_, .int .i64 gn, pv, .int .i64 sa, .int .i64 sc, gv, .int .i64 er, .int .u64 hd, .int .i64 va, .int .i64 st] 150 := hb
  have hc := hb.cell
  cases ok
  · go_enter Try.func66, Try.ntmps66
    go_wp2
    go_ret2
    exact ⟨rfl, rfl⟩
  · go_enter Try.func66, Try.ntmps66
    go_wp2
    go_ret2
    exact ⟨rfl, rfl⟩
end
end Go.Proofs.Yteoimmjgnflmmaa
