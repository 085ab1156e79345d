/-
  What a thread does, step by step, that takes a slot, or that gives one back.
-/
import Derived.Test.YteoimmjgnflmmaaSlS
import Derived.Test.YteoimmjgnflmmaaQc
namespace Go.Proofs.Yteoimmjgnflmmaa
open Go.RowKit

section
variable {w : World} {m : MB} {s : MS}

set_option maxRecDepth 100000 in
set_option maxHeartbeats 1600000 in
theorem take_step0 (k : Cfg) (wh : Int) (p : TakeS) (tb : Nat) (hm : MemR w m s) (hb : Blk w tb p.cs 72) (hpc : p.pc = 0) (n1 : tb ≠ m.b) (n2 : tb ≠ m.wb) (n3 : tb ≠ m.hb) :
    Calls Try.prog 65 #[.pointer (some ⟨tb, 0, none⟩), .agg #[.int .i64 k.t, .int .i64 k.s, .int .i64 k.c, .int .i64 k.w, .int .i64 k.g, .int .i64 k.p, .int .i64 k.r, .pointer (some ⟨m.b, 0, none⟩), .int .i64 wh]] w fun e w' =>
      e = .returned (.bool (decide (topS (s.get 1) < 0))) ∧ MemR w' m ((s.by wh).load 1) ∧ Blk w' tb (⟨1, s.get 1, p.next, topS (s.get 1), p.ok⟩ : TakeS).cs 72 ∧ Only [m.b, m.wb, m.hb, tb] w w' := by
  have hU := hm.get_rng 1
  obtain ⟨pc, top, next, slot, ok⟩ := p
  simp only at hpc
  subst hpc
  replace hb : Blk w tb #[.int .i64 0, .int .u64 top, .int .i64 next, .int .i64 slot, .bool ok] 72 := hb
  have ht := hb.lt
  have hnx : w.heap.size ∉ [m.b, m.wb, m.hb] := hm.notin (Nat.le_refl _)
  have hnt : tb ∉ [m.b, m.wb, m.hb] := by simp only [List.mem_cons, List.not_mem_nil, or_false, not_or]; exact ⟨n1, n2, n3⟩
  have hc0 := hb.cell
  have hf0 := hb.frozen
  go_enter Try.func65, Try.ntmps65
  go_wp2
  have hX0 : Blk (w.alloc (.cells #[.int .i64 k.t, .int .i64 k.s, .int .i64 k.c, .int .i64 k.w, .int .i64 k.g, .int .i64 k.p, .int .i64 k.r, .pointer (some ⟨m.b, 0, none⟩), .int .i64 wh] 47)) w.heap.size #[.int .i64 k.t, .int .i64 k.s, .int .i64 k.c, .int .i64 k.w, .int .i64 k.g, .int .i64 k.p, .int .i64 k.r, .pointer (some ⟨m.b, 0, none⟩), .int .i64 wh] 47 := Blk.new w _ 47
  have hB0 := hb.alloc (.cells #[.int .i64 k.t, .int .i64 k.s, .int .i64 k.c, .int .i64 k.w, .int .i64 k.g, .int .i64 k.p, .int .i64 k.r, .pointer (some ⟨m.b, 0, none⟩), .int .i64 wh] 47)
  have hM0 := hm.alloc (.cells #[.int .i64 k.t, .int .i64 k.s, .int .i64 k.c, .int .i64 k.w, .int .i64 k.g, .int .i64 k.p, .int .i64 k.r, .pointer (some ⟨m.b, 0, none⟩), .int .i64 wh] 47)
  have hX : Blk (w.alloc (.cells #[.int .i64 k.t, .int .i64 k.s, .int .i64 k.c, .int .i64 k.w, .int .i64 k.g, .int .i64 k.p, .int .i64 k.r, .pointer (some ⟨m.b, 0, none⟩), .int .i64 wh] 47)).drew w.heap.size #[.int .i64 k.t, .int .i64 k.s, .int .i64 k.c, .int .i64 k.w, .int .i64 k.g, .int .i64 k.p, .int .i64 k.r, .pointer (some ⟨m.b, 0, none⟩), .int .i64 wh] 47 := (Blk.new w _ 47).drew
  have hB : Blk (w.alloc (.cells #[.int .i64 k.t, .int .i64 k.s, .int .i64 k.c, .int .i64 k.w, .int .i64 k.g, .int .i64 k.p, .int .i64 k.r, .pointer (some ⟨m.b, 0, none⟩), .int .i64 wh] 47)).drew tb #[.int .i64 0, .int .u64 top, .int .i64 next, .int .i64 slot, .bool ok] 72 := (hb.alloc _).drew
  have hM : MemR (w.alloc (.cells #[.int .i64 k.t, .int .i64 k.s, .int .i64 k.c, .int .i64 k.w, .int .i64 k.g, .int .i64 k.p, .int .i64 k.r, .pointer (some ⟨m.b, 0, none⟩), .int .i64 wh] 47)).drew m s := (hm.alloc _).drew
  go_region_held3 (fun w' => ∀ o, w'.cell? ⟨w.heap.size, o, none⟩ = (#[.int .i64 k.t, .int .i64 k.s, .int .i64 k.c, .int .i64 k.w, .int .i64 k.g, .int .i64 k.p, .int .i64 k.r, .pointer (some ⟨m.b, 0, none⟩), .int .i64 wh] : Array Value)[o]?) ((refine Blk.cell (T := 47) ?_; repeat (first | with_reducible assumption | with_reducible apply Blk.drew | with_reducible apply Blk.alloc | (with_reducible refine Blk.only ?_ (by with_reducible assumption) (by first | exact List.not_mem_nil | with_reducible assumption)) | (with_reducible refine Blk.other ?_ _ _ (by simp only; omega)))))
    (first
      | (go_at_call 46; refine (topa_any _).mono ?_; rintro e w' ⟨rfl, rfl⟩)
      | (go_at_call 69; refine (load_env k wh hM).mono ?_; rintro e w1 ⟨rfl, hm1, ho1⟩; have hB1 := hB.only ho1 hnt; have f1 := hB1.frozen; have c1 := hB1.cell))
  all_goals
    go_wp2_with (first | (go_at_call 80; refine (top_any _ _ hU).mono ?_; rintro e w' ⟨rfl, rfl⟩))
    go_ret
    refine ⟨rfl, ?_, ?_, ?_⟩
    · repeat (first | with_reducible assumption | with_reducible apply MemR.drew | with_reducible apply MemR.alloc | (with_reducible refine MemR.only ?_ (by with_reducible assumption) List.not_mem_nil List.not_mem_nil List.not_mem_nil) | (with_reducible refine MemR.other ?_ _ _ (by simp only; omega) (by simp only; omega) (by simp only; omega)))
    · exact ((hB1.set 1 _ rfl).set 3 _ rfl).set 0 _ rfl
    · repeat (first | with_reducible exact Only.refl _ _ | with_reducible assumption | with_reducible apply Only.drew | with_reducible apply Only.drewN | with_reducible apply Only.alloc | (with_reducible refine Only.setCell ?_ _ _ (by simp)) | (with_reducible refine Only.trans' ?_ (by with_reducible assumption) (by intro x hx _; simp only [List.mem_cons, List.not_mem_nil, or_false] at hx ⊢; omega)))

set_option maxRecDepth 100000 in
set_option maxHeartbeats 1600000 in
theorem take_step1 (k : Cfg) (wh : Int) (p : TakeS) (tb : Nat) (hm : MemR w m s) (hb : Blk w tb p.cs 72) (hpc : p.pc = 1) (n1 : tb ≠ m.b) (n2 : tb ≠ m.wb) (n3 : tb ≠ m.hb) :
    Calls Try.prog 65 #[.pointer (some ⟨tb, 0, none⟩), .agg #[.int .i64 k.t, .int .i64 k.s, .int .i64 k.c, .int .i64 k.w, .int .i64 k.g, .int .i64 k.p, .int .i64 k.r, .pointer (some ⟨m.b, 0, none⟩), .int .i64 wh]] w fun e w' =>
      e = .returned (.bool p.ok) ∧ MemR w' m ((s.by wh).load (aLink k p.slot)) ∧ Blk w' tb (⟨2, p.top, topS (s.get (aLink k p.slot)), p.slot, p.ok⟩ : TakeS).cs 72 ∧ Only [m.b, m.wb, m.hb, tb] w w' := by
  unfold aLink
  obtain ⟨pc, top, next, slot, ok⟩ := p
  simp only at hpc
  subst hpc
  replace hb : Blk w tb #[.int .i64 1, .int .u64 top, .int .i64 next, .int .i64 slot, .bool ok] 72 := hb
  have ht := hb.lt
  have hnx : w.heap.size ∉ [m.b, m.wb, m.hb] := hm.notin (Nat.le_refl _)
  have hnt : tb ∉ [m.b, m.wb, m.hb] := by simp only [List.mem_cons, List.not_mem_nil, or_false, not_or]; exact ⟨n1, n2, n3⟩
  have hc0 := hb.cell
  have hf0 := hb.frozen
  go_enter Try.func65, Try.ntmps65
  go_wp2
  have hX0 : Blk (w.alloc (.cells #[.int .i64 k.t, .int .i64 k.s, .int .i64 k.c, .int .i64 k.w, .int .i64 k.g, .int .i64 k.p, .int .i64 k.r, .pointer (some ⟨m.b, 0, none⟩), .int .i64 wh] 47)) w.heap.size #[.int .i64 k.t, .int .i64 k.s, .int .i64 k.c, .int .i64 k.w, .int .i64 k.g, .int .i64 k.p, .int .i64 k.r, .pointer (some ⟨m.b, 0, none⟩), .int .i64 wh] 47 := Blk.new w _ 47
  have hB0 := hb.alloc (.cells #[.int .i64 k.t, .int .i64 k.s, .int .i64 k.c, .int .i64 k.w, .int .i64 k.g, .int .i64 k.p, .int .i64 k.r, .pointer (some ⟨m.b, 0, none⟩), .int .i64 wh] 47)
  have hM0 := hm.alloc (.cells #[.int .i64 k.t, .int .i64 k.s, .int .i64 k.c, .int .i64 k.w, .int .i64 k.g, .int .i64 k.p, .int .i64 k.r, .pointer (some ⟨m.b, 0, none⟩), .int .i64 wh] 47)
  have hX : Blk (w.alloc (.cells #[.int .i64 k.t, .int .i64 k.s, .int .i64 k.c, .int .i64 k.w, .int .i64 k.g, .int .i64 k.p, .int .i64 k.r, .pointer (some ⟨m.b, 0, none⟩), .int .i64 wh] 47)).drew w.heap.size #[.int .i64 k.t, .int .i64 k.s, .int .i64 k.c, .int .i64 k.w, .int .i64 k.g, .int .i64 k.p, .int .i64 k.r, .pointer (some ⟨m.b, 0, none⟩), .int .i64 wh] 47 := (Blk.new w _ 47).drew
  have hB : Blk (w.alloc (.cells #[.int .i64 k.t, .int .i64 k.s, .int .i64 k.c, .int .i64 k.w, .int .i64 k.g, .int .i64 k.p, .int .i64 k.r, .pointer (some ⟨m.b, 0, none⟩), .int .i64 wh] 47)).drew tb #[.int .i64 1, .int .u64 top, .int .i64 next, .int .i64 slot, .bool ok] 72 := (hb.alloc _).drew
  have hM : MemR (w.alloc (.cells #[.int .i64 k.t, .int .i64 k.s, .int .i64 k.c, .int .i64 k.w, .int .i64 k.g, .int .i64 k.p, .int .i64 k.r, .pointer (some ⟨m.b, 0, none⟩), .int .i64 wh] 47)).drew m s := (hm.alloc _).drew
  have h3 : ∀ w', Blk w' tb #[.int .i64 1, .int .u64 top, .int .i64 next, .int .i64 slot, .bool ok] 72 → w'.cell? ⟨tb, 3, none⟩ = some (.int .i64 slot) := fun w' h => h.cell 3
  have h3s : ∀ w' v, Blk w' tb #[.int .i64 1, .int .u64 top, .int .i64 next, .int .i64 slot, .bool ok] 72 → (w'.setCell ⟨tb, 2, none⟩ v).cell? ⟨tb, 3, none⟩ = some (.int .i64 slot) := fun w' v h => (h.set 2 v rfl).cell 3
  go_region_held3 (fun w' => (∀ o, w'.cell? ⟨w.heap.size, o, none⟩ = (#[.int .i64 k.t, .int .i64 k.s, .int .i64 k.c, .int .i64 k.w, .int .i64 k.g, .int .i64 k.p, .int .i64 k.r, .pointer (some ⟨m.b, 0, none⟩), .int .i64 wh] : Array Value)[o]?) ∧ w'.cell? ⟨tb, 3, none⟩ = some (.int .i64 slot)) ((refine ⟨?_, ?_⟩; (focus (refine Blk.cell (T := 47) ?_; repeat (first | with_reducible assumption | with_reducible apply Blk.drew | with_reducible apply Blk.alloc | (with_reducible refine Blk.only ?_ (by with_reducible assumption) (by first | exact List.not_mem_nil | with_reducible assumption)) | (with_reducible refine Blk.other ?_ _ _ (by simp only; omega))))); (focus (first | (with_reducible refine h3 _ ?_; (repeat (first | with_reducible assumption | with_reducible apply Blk.drew | with_reducible apply Blk.alloc | (with_reducible refine Blk.only ?_ (by with_reducible assumption) (by first | exact List.not_mem_nil | with_reducible assumption)) | (with_reducible refine Blk.other ?_ _ _ (by simp only; omega)))); done) | (with_reducible refine h3s _ _ ?_; (repeat (first | with_reducible assumption | with_reducible apply Blk.drew | with_reducible apply Blk.alloc | (with_reducible refine Blk.only ?_ (by with_reducible assumption) (by first | exact List.not_mem_nil | with_reducible assumption)) | (with_reducible refine Blk.other ?_ _ _ (by simp only; omega)))); done)))))
    (first
      | (go_at_call 49; with_reducible refine (slota_any _ k _).mono ?_; rintro e w' ⟨rfl, rfl⟩)
      | (go_at_call 80; with_reducible refine (top_any _ _ (hm.get_rng _)).mono ?_; rintro e w' ⟨rfl, rfl⟩)
      | (go_at_call 69; with_reducible refine (load_env k wh ((hM0.alloc _).drew)).mono ?_; rintro e w1 ⟨rfl, hm1, ho1⟩; have hB1 := ((hB0.alloc (.cells #[.int .i64 k.t, .int .i64 k.s, .int .i64 k.c, .int .i64 k.w, .int .i64 k.g, .int .i64 k.p, .int .i64 k.r] 23)).drew).only ho1 hnt; have f1 := hB1.frozen; have c1 := hB1.cell; have hX1 := ((hX0.alloc (.cells #[.int .i64 k.t, .int .i64 k.s, .int .i64 k.c, .int .i64 k.w, .int .i64 k.g, .int .i64 k.p, .int .i64 k.r] 23)).drew).only ho1 hnx; have hX1c := hX1.cell))
  all_goals
    rw [IntWalk.i64_left] at hm1
    go_wp2
    go_ret
    refine ⟨rfl, ?_, ?_, ?_⟩
    · repeat (first | with_reducible assumption | with_reducible apply MemR.drew | with_reducible apply MemR.alloc | (with_reducible refine MemR.only ?_ (by with_reducible assumption) List.not_mem_nil List.not_mem_nil List.not_mem_nil) | (with_reducible refine MemR.other ?_ _ _ (by simp only; omega) (by simp only; omega) (by simp only; omega)))
    · exact (hB1.set 2 _ rfl).set 0 _ rfl
    · repeat (first | with_reducible exact Only.refl _ _ | with_reducible assumption | with_reducible apply Only.drew | with_reducible apply Only.drewN | with_reducible apply Only.alloc | (with_reducible refine Only.setCell ?_ _ _ (by simp)) | (with_reducible refine Only.trans' ?_ (by with_reducible assumption) (by intro x hx _; simp only [List.mem_cons, List.not_mem_nil, or_false] at hx ⊢; omega)))

set_option maxRecDepth 100000 in
set_option maxHeartbeats 1600000 in
theorem take_step2 (k : Cfg) (wh : Int) (p : TakeS) (tb : Nat) (hm : MemR w m s) (hb : Blk w tb p.cs 72) (hpc : p.pc = 2) (hU : U64 p.top) (hx0 : -1 ≤ p.next) (hx1 : p.next < 131072) (n1 : tb ≠ m.b) (n2 : tb ≠ m.wb) (n3 : tb ≠ m.hb) :
    Calls Try.prog 65 #[.pointer (some ⟨tb, 0, none⟩), .agg #[.int .i64 k.t, .int .i64 k.s, .int .i64 k.c, .int .i64 k.w, .int .i64 k.g, .int .i64 k.p, .int .i64 k.r, .pointer (some ⟨m.b, 0, none⟩), .int .i64 wh]] w fun e w' =>
      e = .returned (.bool (s.can 1 p.top)) ∧ MemR w' m ((s.by wh).cas 1 p.top (putTop p.next (topN p.top + 1))) ∧ Blk w' tb (⟨0, p.top, p.next, p.slot, s.can 1 p.top⟩ : TakeS).cs 72 ∧ Only [m.b, m.wb, m.hb, tb] w w' := by
  have hN := topN_rng (x := p.top)
  obtain ⟨hN0, hN1⟩ := hN
  obtain ⟨pc, top, next, slot, ok⟩ := p
  simp only at hpc
  subst hpc
  replace hb : Blk w tb #[.int .i64 2, .int .u64 top, .int .i64 next, .int .i64 slot, .bool ok] 72 := hb
  have ht := hb.lt
  have hnx : w.heap.size ∉ [m.b, m.wb, m.hb] := hm.notin (Nat.le_refl _)
  have hnt : tb ∉ [m.b, m.wb, m.hb] := by simp only [List.mem_cons, List.not_mem_nil, or_false, not_or]; exact ⟨n1, n2, n3⟩
  have hc0 := hb.cell
  have hf0 := hb.frozen
  go_enter Try.func65, Try.ntmps65
  go_wp2_with (first | (go_at_call 80; refine (top_any _ _ hU).mono ?_; rintro e w' ⟨rfl, rfl⟩))
  have hX0 : Blk (w.alloc (.cells #[.int .i64 k.t, .int .i64 k.s, .int .i64 k.c, .int .i64 k.w, .int .i64 k.g, .int .i64 k.p, .int .i64 k.r, .pointer (some ⟨m.b, 0, none⟩), .int .i64 wh] 47)) w.heap.size #[.int .i64 k.t, .int .i64 k.s, .int .i64 k.c, .int .i64 k.w, .int .i64 k.g, .int .i64 k.p, .int .i64 k.r, .pointer (some ⟨m.b, 0, none⟩), .int .i64 wh] 47 := Blk.new w _ 47
  have hB0 := hb.alloc (.cells #[.int .i64 k.t, .int .i64 k.s, .int .i64 k.c, .int .i64 k.w, .int .i64 k.g, .int .i64 k.p, .int .i64 k.r, .pointer (some ⟨m.b, 0, none⟩), .int .i64 wh] 47)
  have hM0 := hm.alloc (.cells #[.int .i64 k.t, .int .i64 k.s, .int .i64 k.c, .int .i64 k.w, .int .i64 k.g, .int .i64 k.p, .int .i64 k.r, .pointer (some ⟨m.b, 0, none⟩), .int .i64 wh] 47)
  have hX : Blk (w.alloc (.cells #[.int .i64 k.t, .int .i64 k.s, .int .i64 k.c, .int .i64 k.w, .int .i64 k.g, .int .i64 k.p, .int .i64 k.r, .pointer (some ⟨m.b, 0, none⟩), .int .i64 wh] 47)).drew w.heap.size #[.int .i64 k.t, .int .i64 k.s, .int .i64 k.c, .int .i64 k.w, .int .i64 k.g, .int .i64 k.p, .int .i64 k.r, .pointer (some ⟨m.b, 0, none⟩), .int .i64 wh] 47 := (Blk.new w _ 47).drew
  have hB : Blk (w.alloc (.cells #[.int .i64 k.t, .int .i64 k.s, .int .i64 k.c, .int .i64 k.w, .int .i64 k.g, .int .i64 k.p, .int .i64 k.r, .pointer (some ⟨m.b, 0, none⟩), .int .i64 wh] 47)).drew tb #[.int .i64 2, .int .u64 top, .int .i64 next, .int .i64 slot, .bool ok] 72 := (hb.alloc _).drew
  have hM : MemR (w.alloc (.cells #[.int .i64 k.t, .int .i64 k.s, .int .i64 k.c, .int .i64 k.w, .int .i64 k.g, .int .i64 k.p, .int .i64 k.r, .pointer (some ⟨m.b, 0, none⟩), .int .i64 wh] 47)).drew m s := (hm.alloc _).drew
  have hb0 : Blk (w.setCell ⟨tb, 0, none⟩ (.int .i64 0)) tb #[.int .i64 0, .int .u64 top, .int .i64 next, .int .i64 slot, .bool ok] 72 := hb.set 0 _ rfl
  have hb1 : Blk ((w.setCell ⟨tb, 0, none⟩ (.int .i64 0)).alloc (.cells #[.int .i64 k.t, .int .i64 k.s, .int .i64 k.c, .int .i64 k.w, .int .i64 k.g, .int .i64 k.p, .int .i64 k.r, .pointer (some ⟨m.b, 0, none⟩), .int .i64 wh] 47)).drew tb #[.int .i64 0, .int .u64 top, .int .i64 next, .int .i64 slot, .bool ok] 72 := (hb0.alloc _).drew
  have hx1 : Blk ((w.setCell ⟨tb, 0, none⟩ (.int .i64 0)).alloc (.cells #[.int .i64 k.t, .int .i64 k.s, .int .i64 k.c, .int .i64 k.w, .int .i64 k.g, .int .i64 k.p, .int .i64 k.r, .pointer (some ⟨m.b, 0, none⟩), .int .i64 wh] 47)).drew w.heap.size #[.int .i64 k.t, .int .i64 k.s, .int .i64 k.c, .int .i64 k.w, .int .i64 k.g, .int .i64 k.p, .int .i64 k.r, .pointer (some ⟨m.b, 0, none⟩), .int .i64 wh] 47 := (Blk.new' (by simp) rfl : Blk ((w.setCell ⟨tb, 0, none⟩ (.int .i64 0)).alloc (.cells #[.int .i64 k.t, .int .i64 k.s, .int .i64 k.c, .int .i64 k.w, .int .i64 k.g, .int .i64 k.p, .int .i64 k.r, .pointer (some ⟨m.b, 0, none⟩), .int .i64 wh] 47)) w.heap.size #[.int .i64 k.t, .int .i64 k.s, .int .i64 k.c, .int .i64 k.w, .int .i64 k.g, .int .i64 k.p, .int .i64 k.r, .pointer (some ⟨m.b, 0, none⟩), .int .i64 wh] 47).drew
  have hm0 : MemR ((w.setCell ⟨tb, 0, none⟩ (.int .i64 0)).alloc (.cells #[.int .i64 k.t, .int .i64 k.s, .int .i64 k.c, .int .i64 k.w, .int .i64 k.g, .int .i64 k.p, .int .i64 k.r, .pointer (some ⟨m.b, 0, none⟩), .int .i64 wh] 47)).drew m s := ((hm.other _ _ n1.symm n2.symm n3.symm).alloc _).drew
  have ho0 : Only [m.b, m.wb, m.hb, tb] w ((w.setCell ⟨tb, 0, none⟩ (.int .i64 0)).alloc (.cells #[.int .i64 k.t, .int .i64 k.s, .int .i64 k.c, .int .i64 k.w, .int .i64 k.g, .int .i64 k.p, .int .i64 k.r, .pointer (some ⟨m.b, 0, none⟩), .int .i64 wh] 47)).drew := (((Only.refl _ w).setCell _ _ (by simp)).alloc _).drew
  have h3 : ∀ w', Blk w' tb #[.int .i64 0, .int .u64 top, .int .i64 next, .int .i64 slot, .bool ok] 72 → w'.cell? ⟨tb, 1, none⟩ = some (.int .u64 top) ∧ w'.cell? ⟨tb, 2, none⟩ = some (.int .i64 next) := fun w' h => ⟨h.cell 1, h.cell 2⟩
  have h3s : ∀ w' v, Blk w' tb #[.int .i64 0, .int .u64 top, .int .i64 next, .int .i64 slot, .bool ok] 72 → (w'.setCell ⟨tb, 4, none⟩ v).cell? ⟨tb, 1, none⟩ = some (.int .u64 top) ∧ (w'.setCell ⟨tb, 4, none⟩ v).cell? ⟨tb, 2, none⟩ = some (.int .i64 next) := fun w' v h => ⟨(h.set 4 v rfl).cell 1, (h.set 4 v rfl).cell 2⟩
  go_region_held3 (fun w' => (∀ o, w'.cell? ⟨w.heap.size, o, none⟩ = (#[.int .i64 k.t, .int .i64 k.s, .int .i64 k.c, .int .i64 k.w, .int .i64 k.g, .int .i64 k.p, .int .i64 k.r, .pointer (some ⟨m.b, 0, none⟩), .int .i64 wh] : Array Value)[o]?) ∧ w'.cell? ⟨tb, 1, none⟩ = some (.int .u64 top) ∧ w'.cell? ⟨tb, 2, none⟩ = some (.int .i64 next)) ((refine ⟨?_, ?_⟩; (focus (refine Blk.cell (T := 47) ?_; repeat (first | with_reducible assumption | with_reducible apply Blk.drew | with_reducible apply Blk.alloc | (with_reducible refine Blk.only ?_ (by with_reducible assumption) (by first | exact List.not_mem_nil | with_reducible assumption)) | (with_reducible refine Blk.other ?_ _ _ (by simp only; omega))))); (focus (first | (with_reducible refine h3 _ ?_; (repeat (first | with_reducible assumption | with_reducible apply Blk.drew | with_reducible apply Blk.alloc | (with_reducible refine Blk.only ?_ (by with_reducible assumption) (by first | exact List.not_mem_nil | with_reducible assumption)) | (with_reducible refine Blk.other ?_ _ _ (by simp only; omega)))); done) | (with_reducible refine h3s _ _ ?_; (repeat (first | with_reducible assumption | with_reducible apply Blk.drew | with_reducible apply Blk.alloc | (with_reducible refine Blk.only ?_ (by with_reducible assumption) (by first | exact List.not_mem_nil | with_reducible assumption)) | (with_reducible refine Blk.other ?_ _ _ (by simp only; omega)))); done)))))
    (first
      | (go_at_call 46; refine (topa_any _).mono ?_; rintro e w' ⟨rfl, rfl⟩)
      | (go_at_call 102; with_reducible refine (puttop_any _ _ _ (by omega) (by omega)).mono ?_; rintro e w' ⟨rfl, rfl⟩)
      | (go_at_call 72; with_reducible refine (cas_env k wh hm0 (putTop_rng hx0)).mono ?_; rintro e w1 ⟨rfl, hm1, ho1⟩; have hB1 := hb1.only ho1 hnt; have f1 := hB1.frozen; have c1 := hB1.cell; have hX1 := hx1.only ho1 hnx))
  all_goals
    have hN := topN_rng (x := top)
    have hw : IntKind.i64.wrap (topN top + 1) = topN top + 1 := by rw [IntWalk.i64_left]; unfold wrap64; omega
    rw [hw] at hm1
    have hO1 := ho0.trans' ho1 (by intro x hx _; simp only [List.mem_cons, List.not_mem_nil, or_false] at hx ⊢; omega)
    clear hN hw
    go_wp2
    go_ret
    exact ⟨rfl, hm1.other _ _ n1.symm n2.symm n3.symm, hB1.set 4 _ rfl, hO1.setCell _ _ (by simp)⟩

set_option maxRecDepth 100000 in
set_option maxHeartbeats 1600000 in
theorem give_step0 (k : Cfg) (wh : Int) (p : GiveS) (tb : Nat) (hm : MemR w m s) (hb : Blk w tb p.cs 142) (hpc : p.pc = 0) (hU : U64 p.top) (n1 : tb ≠ m.b) (n2 : tb ≠ m.wb) (n3 : tb ≠ m.hb) :
    Calls Try.prog 76 #[.pointer (some ⟨tb, 0, none⟩), .agg #[.int .i64 k.t, .int .i64 k.s, .int .i64 k.c, .int .i64 k.w, .int .i64 k.g, .int .i64 k.p, .int .i64 k.r, .pointer (some ⟨m.b, 0, none⟩), .int .i64 wh]] w fun e w' =>
      e = .returned (.bool false) ∧ MemR w' m ((s.by wh).load 1) ∧ Blk w' tb (⟨1, p.slot, s.get 1⟩ : GiveS).cs 142 ∧ Only [m.b, m.wb, m.hb, tb] w w' := by
  obtain ⟨pc, slot, top⟩ := p
  simp only at hpc
  subst hpc
  replace hb : Blk w tb #[.int .i64 0, .int .i64 slot, .int .u64 top] 142 := hb
  have ht := hb.lt
  have hnx : w.heap.size ∉ [m.b, m.wb, m.hb] := hm.notin (Nat.le_refl _)
  have hnt : tb ∉ [m.b, m.wb, m.hb] := by simp only [List.mem_cons, List.not_mem_nil, or_false, not_or]; exact ⟨n1, n2, n3⟩
  have hc0 := hb.cell
  have hf0 := hb.frozen
  go_enter Try.func76, Try.ntmps76
  go_wp2_with (first | (go_at_call 80; refine (top_any _ _ hU).mono ?_; rintro e w' ⟨rfl, rfl⟩))
  have hX0 : Blk (w.alloc (.cells #[.int .i64 k.t, .int .i64 k.s, .int .i64 k.c, .int .i64 k.w, .int .i64 k.g, .int .i64 k.p, .int .i64 k.r, .pointer (some ⟨m.b, 0, none⟩), .int .i64 wh] 47)) w.heap.size #[.int .i64 k.t, .int .i64 k.s, .int .i64 k.c, .int .i64 k.w, .int .i64 k.g, .int .i64 k.p, .int .i64 k.r, .pointer (some ⟨m.b, 0, none⟩), .int .i64 wh] 47 := Blk.new w _ 47
  have hB0 := hb.alloc (.cells #[.int .i64 k.t, .int .i64 k.s, .int .i64 k.c, .int .i64 k.w, .int .i64 k.g, .int .i64 k.p, .int .i64 k.r, .pointer (some ⟨m.b, 0, none⟩), .int .i64 wh] 47)
  have hM0 := hm.alloc (.cells #[.int .i64 k.t, .int .i64 k.s, .int .i64 k.c, .int .i64 k.w, .int .i64 k.g, .int .i64 k.p, .int .i64 k.r, .pointer (some ⟨m.b, 0, none⟩), .int .i64 wh] 47)
  have hX : Blk (w.alloc (.cells #[.int .i64 k.t, .int .i64 k.s, .int .i64 k.c, .int .i64 k.w, .int .i64 k.g, .int .i64 k.p, .int .i64 k.r, .pointer (some ⟨m.b, 0, none⟩), .int .i64 wh] 47)).drew w.heap.size #[.int .i64 k.t, .int .i64 k.s, .int .i64 k.c, .int .i64 k.w, .int .i64 k.g, .int .i64 k.p, .int .i64 k.r, .pointer (some ⟨m.b, 0, none⟩), .int .i64 wh] 47 := (Blk.new w _ 47).drew
  have hB : Blk (w.alloc (.cells #[.int .i64 k.t, .int .i64 k.s, .int .i64 k.c, .int .i64 k.w, .int .i64 k.g, .int .i64 k.p, .int .i64 k.r, .pointer (some ⟨m.b, 0, none⟩), .int .i64 wh] 47)).drew tb #[.int .i64 0, .int .i64 slot, .int .u64 top] 142 := (hb.alloc _).drew
  have hM : MemR (w.alloc (.cells #[.int .i64 k.t, .int .i64 k.s, .int .i64 k.c, .int .i64 k.w, .int .i64 k.g, .int .i64 k.p, .int .i64 k.r, .pointer (some ⟨m.b, 0, none⟩), .int .i64 wh] 47)).drew m s := (hm.alloc _).drew
  go_region_held3 (fun w' => ∀ o, w'.cell? ⟨w.heap.size, o, none⟩ = (#[.int .i64 k.t, .int .i64 k.s, .int .i64 k.c, .int .i64 k.w, .int .i64 k.g, .int .i64 k.p, .int .i64 k.r, .pointer (some ⟨m.b, 0, none⟩), .int .i64 wh] : Array Value)[o]?) ((refine Blk.cell (T := 47) ?_; repeat (first | with_reducible assumption | with_reducible apply Blk.drew | with_reducible apply Blk.alloc | (with_reducible refine Blk.only ?_ (by with_reducible assumption) (by first | exact List.not_mem_nil | with_reducible assumption)) | (with_reducible refine Blk.other ?_ _ _ (by simp only; omega)))))
    (first
      | (go_at_call 46; refine (topa_any _).mono ?_; rintro e w' ⟨rfl, rfl⟩)
      | (go_at_call 69; refine (load_env k wh hM).mono ?_; rintro e w1 ⟨rfl, hm1, ho1⟩; have hB1 := hB.only ho1 hnt; have f1 := hB1.frozen; have c1 := hB1.cell))
  all_goals
    go_wp2
    go_ret
    refine ⟨rfl, ?_, ?_, ?_⟩
    · repeat (first | with_reducible assumption | with_reducible apply MemR.drew | with_reducible apply MemR.alloc | (with_reducible refine MemR.only ?_ (by with_reducible assumption) List.not_mem_nil List.not_mem_nil List.not_mem_nil) | (with_reducible refine MemR.other ?_ _ _ (by simp only; omega) (by simp only; omega) (by simp only; omega)))
    · exact (hB1.set 2 _ rfl).set 0 _ rfl
    · repeat (first | with_reducible exact Only.refl _ _ | with_reducible assumption | with_reducible apply Only.drew | with_reducible apply Only.drewN | with_reducible apply Only.alloc | (with_reducible refine Only.setCell ?_ _ _ (by simp)) | (with_reducible refine Only.trans' ?_ (by with_reducible assumption) (by intro x hx _; simp only [List.mem_cons, List.not_mem_nil, or_false] at hx ⊢; omega)))

set_option maxRecDepth 100000 in
set_option maxHeartbeats 1600000 in
theorem give_step1 (k : Cfg) (wh : Int) (p : GiveS) (tb : Nat) (hm : MemR w m s) (hb : Blk w tb p.cs 142) (hpc : p.pc = 1) (hU : U64 p.top) (n1 : tb ≠ m.b) (n2 : tb ≠ m.wb) (n3 : tb ≠ m.hb) :
    Calls Try.prog 76 #[.pointer (some ⟨tb, 0, none⟩), .agg #[.int .i64 k.t, .int .i64 k.s, .int .i64 k.c, .int .i64 k.w, .int .i64 k.g, .int .i64 k.p, .int .i64 k.r, .pointer (some ⟨m.b, 0, none⟩), .int .i64 wh]] w fun e w' =>
      e = .returned (.bool false) ∧ MemR w' m ((s.by wh).store (aLink k p.slot) (putTop (topS p.top) 0)) ∧ Blk w' tb (⟨2, p.slot, p.top⟩ : GiveS).cs 142 ∧ Only [m.b, m.wb, m.hb, tb] w w' := by
  have hS := topS_rng (x := p.top)
  obtain ⟨hS0, hS1⟩ := hS
  unfold aLink
  obtain ⟨pc, slot, top⟩ := p
  simp only at hpc
  subst hpc
  replace hb : Blk w tb #[.int .i64 1, .int .i64 slot, .int .u64 top] 142 := hb
  have ht := hb.lt
  have hnx : w.heap.size ∉ [m.b, m.wb, m.hb] := hm.notin (Nat.le_refl _)
  have hnt : tb ∉ [m.b, m.wb, m.hb] := by simp only [List.mem_cons, List.not_mem_nil, or_false, not_or]; exact ⟨n1, n2, n3⟩
  have hc0 := hb.cell
  have hf0 := hb.frozen
  go_enter Try.func76, Try.ntmps76
  go_wp2_with (first | (go_at_call 80; refine (top_any _ _ hU).mono ?_; rintro e w' ⟨rfl, rfl⟩))
  have hX0 : Blk (w.alloc (.cells #[.int .i64 k.t, .int .i64 k.s, .int .i64 k.c, .int .i64 k.w, .int .i64 k.g, .int .i64 k.p, .int .i64 k.r, .pointer (some ⟨m.b, 0, none⟩), .int .i64 wh] 47)) w.heap.size #[.int .i64 k.t, .int .i64 k.s, .int .i64 k.c, .int .i64 k.w, .int .i64 k.g, .int .i64 k.p, .int .i64 k.r, .pointer (some ⟨m.b, 0, none⟩), .int .i64 wh] 47 := Blk.new w _ 47
  have hB0 := hb.alloc (.cells #[.int .i64 k.t, .int .i64 k.s, .int .i64 k.c, .int .i64 k.w, .int .i64 k.g, .int .i64 k.p, .int .i64 k.r, .pointer (some ⟨m.b, 0, none⟩), .int .i64 wh] 47)
  have hM0 := hm.alloc (.cells #[.int .i64 k.t, .int .i64 k.s, .int .i64 k.c, .int .i64 k.w, .int .i64 k.g, .int .i64 k.p, .int .i64 k.r, .pointer (some ⟨m.b, 0, none⟩), .int .i64 wh] 47)
  have hX : Blk (w.alloc (.cells #[.int .i64 k.t, .int .i64 k.s, .int .i64 k.c, .int .i64 k.w, .int .i64 k.g, .int .i64 k.p, .int .i64 k.r, .pointer (some ⟨m.b, 0, none⟩), .int .i64 wh] 47)).drew w.heap.size #[.int .i64 k.t, .int .i64 k.s, .int .i64 k.c, .int .i64 k.w, .int .i64 k.g, .int .i64 k.p, .int .i64 k.r, .pointer (some ⟨m.b, 0, none⟩), .int .i64 wh] 47 := (Blk.new w _ 47).drew
  have hB : Blk (w.alloc (.cells #[.int .i64 k.t, .int .i64 k.s, .int .i64 k.c, .int .i64 k.w, .int .i64 k.g, .int .i64 k.p, .int .i64 k.r, .pointer (some ⟨m.b, 0, none⟩), .int .i64 wh] 47)).drew tb #[.int .i64 1, .int .i64 slot, .int .u64 top] 142 := (hb.alloc _).drew
  have hM : MemR (w.alloc (.cells #[.int .i64 k.t, .int .i64 k.s, .int .i64 k.c, .int .i64 k.w, .int .i64 k.g, .int .i64 k.p, .int .i64 k.r, .pointer (some ⟨m.b, 0, none⟩), .int .i64 wh] 47)).drew m s := (hm.alloc _).drew
  have h3 : ∀ w', Blk w' tb #[.int .i64 1, .int .i64 slot, .int .u64 top] 142 → w'.cell? ⟨tb, 1, none⟩ = some (.int .i64 slot) := fun w' h => h.cell 1
  go_region_held3 (fun w' => (∀ o, w'.cell? ⟨w.heap.size, o, none⟩ = (#[.int .i64 k.t, .int .i64 k.s, .int .i64 k.c, .int .i64 k.w, .int .i64 k.g, .int .i64 k.p, .int .i64 k.r, .pointer (some ⟨m.b, 0, none⟩), .int .i64 wh] : Array Value)[o]?) ∧ w'.cell? ⟨tb, 1, none⟩ = some (.int .i64 slot)) ((refine ⟨?_, ?_⟩; (focus (refine Blk.cell (T := 47) ?_; repeat (first | with_reducible assumption | with_reducible apply Blk.drew | with_reducible apply Blk.alloc | (with_reducible refine Blk.only ?_ (by with_reducible assumption) (by first | exact List.not_mem_nil | with_reducible assumption)) | (with_reducible refine Blk.other ?_ _ _ (by simp only; omega))))); (focus ((with_reducible refine h3 _ ?_; (repeat (first | with_reducible assumption | with_reducible apply Blk.drew | with_reducible apply Blk.alloc | (with_reducible refine Blk.only ?_ (by with_reducible assumption) (by first | exact List.not_mem_nil | with_reducible assumption)) | (with_reducible refine Blk.other ?_ _ _ (by simp only; omega)))); done)))))
    (first
      | (go_at_call 49; with_reducible refine (slota_any _ k _).mono ?_; rintro e w' ⟨rfl, rfl⟩)
      | (go_at_call 102; with_reducible refine (puttop_any _ _ _ (by omega) (by omega)).mono ?_; rintro e w' ⟨rfl, rfl⟩)
      | (go_at_call 70; with_reducible refine (store_env k wh ((hM0.alloc _).drew) (putTop_rng hS0)).mono ?_; rintro e w1 ⟨rfl, hm1, ho1⟩; have hB1 := ((hB0.alloc (.cells #[.int .i64 k.t, .int .i64 k.s, .int .i64 k.c, .int .i64 k.w, .int .i64 k.g, .int .i64 k.p, .int .i64 k.r] 23)).drew).only ho1 hnt; have f1 := hB1.frozen; have c1 := hB1.cell; have hX1 := ((hX0.alloc (.cells #[.int .i64 k.t, .int .i64 k.s, .int .i64 k.c, .int .i64 k.w, .int .i64 k.g, .int .i64 k.p, .int .i64 k.r] 23)).drew).only ho1 hnx; have hX1c := hX1.cell))
  all_goals
    rw [IntWalk.i64_left] at hm1
    go_wp2
    go_ret
    refine ⟨rfl, ?_, ?_, ?_⟩
    · repeat (first | with_reducible assumption | with_reducible apply MemR.drew | with_reducible apply MemR.alloc | (with_reducible refine MemR.only ?_ (by with_reducible assumption) List.not_mem_nil List.not_mem_nil List.not_mem_nil) | (with_reducible refine MemR.other ?_ _ _ (by simp only; omega) (by simp only; omega) (by simp only; omega)))
    · exact hB1.set 0 _ rfl
    · repeat (first | with_reducible exact Only.refl _ _ | with_reducible assumption | with_reducible apply Only.drew | with_reducible apply Only.drewN | with_reducible apply Only.alloc | (with_reducible refine Only.setCell ?_ _ _ (by simp)) | (with_reducible refine Only.trans' ?_ (by with_reducible assumption) (by intro x hx _; simp only [List.mem_cons, List.not_mem_nil, or_false] at hx ⊢; omega)))

set_option maxRecDepth 100000 in
set_option maxHeartbeats 1600000 in
theorem give_step2 (k : Cfg) (wh : Int) (p : GiveS) (tb : Nat) (hm : MemR w m s) (hb : Blk w tb p.cs 142) (hpc : p.pc = 2) (hU : U64 p.top) (hx0 : 0 ≤ p.slot) (hx1 : p.slot < 131072) (n1 : tb ≠ m.b) (n2 : tb ≠ m.wb) (n3 : tb ≠ m.hb) :
    Calls Try.prog 76 #[.pointer (some ⟨tb, 0, none⟩), .agg #[.int .i64 k.t, .int .i64 k.s, .int .i64 k.c, .int .i64 k.w, .int .i64 k.g, .int .i64 k.p, .int .i64 k.r, .pointer (some ⟨m.b, 0, none⟩), .int .i64 wh]] w fun e w' =>
      e = .returned (.bool (s.can 1 p.top)) ∧ MemR w' m ((s.by wh).cas 1 p.top (putTop p.slot (topN p.top + 1))) ∧ Blk w' tb (⟨0, p.slot, p.top⟩ : GiveS).cs 142 ∧ Only [m.b, m.wb, m.hb, tb] w w' := by
  have hN := topN_rng (x := p.top)
  obtain ⟨hN0, hN1⟩ := hN
  obtain ⟨pc, slot, top⟩ := p
  simp only at hpc
  subst hpc
  replace hb : Blk w tb #[.int .i64 2, .int .i64 slot, .int .u64 top] 142 := hb
  have ht := hb.lt
  have hnx : w.heap.size ∉ [m.b, m.wb, m.hb] := hm.notin (Nat.le_refl _)
  have hnt : tb ∉ [m.b, m.wb, m.hb] := by simp only [List.mem_cons, List.not_mem_nil, or_false, not_or]; exact ⟨n1, n2, n3⟩
  have hc0 := hb.cell
  have hf0 := hb.frozen
  go_enter Try.func76, Try.ntmps76
  go_wp2_with (first | (go_at_call 80; refine (top_any _ _ hU).mono ?_; rintro e w' ⟨rfl, rfl⟩))
  have hX0 : Blk (w.alloc (.cells #[.int .i64 k.t, .int .i64 k.s, .int .i64 k.c, .int .i64 k.w, .int .i64 k.g, .int .i64 k.p, .int .i64 k.r, .pointer (some ⟨m.b, 0, none⟩), .int .i64 wh] 47)) w.heap.size #[.int .i64 k.t, .int .i64 k.s, .int .i64 k.c, .int .i64 k.w, .int .i64 k.g, .int .i64 k.p, .int .i64 k.r, .pointer (some ⟨m.b, 0, none⟩), .int .i64 wh] 47 := Blk.new w _ 47
  have hB0 := hb.alloc (.cells #[.int .i64 k.t, .int .i64 k.s, .int .i64 k.c, .int .i64 k.w, .int .i64 k.g, .int .i64 k.p, .int .i64 k.r, .pointer (some ⟨m.b, 0, none⟩), .int .i64 wh] 47)
  have hM0 := hm.alloc (.cells #[.int .i64 k.t, .int .i64 k.s, .int .i64 k.c, .int .i64 k.w, .int .i64 k.g, .int .i64 k.p, .int .i64 k.r, .pointer (some ⟨m.b, 0, none⟩), .int .i64 wh] 47)
  have hX : Blk (w.alloc (.cells #[.int .i64 k.t, .int .i64 k.s, .int .i64 k.c, .int .i64 k.w, .int .i64 k.g, .int .i64 k.p, .int .i64 k.r, .pointer (some ⟨m.b, 0, none⟩), .int .i64 wh] 47)).drew w.heap.size #[.int .i64 k.t, .int .i64 k.s, .int .i64 k.c, .int .i64 k.w, .int .i64 k.g, .int .i64 k.p, .int .i64 k.r, .pointer (some ⟨m.b, 0, none⟩), .int .i64 wh] 47 := (Blk.new w _ 47).drew
  have hB : Blk (w.alloc (.cells #[.int .i64 k.t, .int .i64 k.s, .int .i64 k.c, .int .i64 k.w, .int .i64 k.g, .int .i64 k.p, .int .i64 k.r, .pointer (some ⟨m.b, 0, none⟩), .int .i64 wh] 47)).drew tb #[.int .i64 2, .int .i64 slot, .int .u64 top] 142 := (hb.alloc _).drew
  have hM : MemR (w.alloc (.cells #[.int .i64 k.t, .int .i64 k.s, .int .i64 k.c, .int .i64 k.w, .int .i64 k.g, .int .i64 k.p, .int .i64 k.r, .pointer (some ⟨m.b, 0, none⟩), .int .i64 wh] 47)).drew m s := (hm.alloc _).drew
  clear hX0 hB0 hM0 hX hB hM
  have hb0 : Blk (w.setCell ⟨tb, 0, none⟩ (.int .i64 0)) tb #[.int .i64 0, .int .i64 slot, .int .u64 top] 142 := hb.set 0 _ rfl
  have hb1 : Blk ((w.setCell ⟨tb, 0, none⟩ (.int .i64 0)).alloc (.cells #[.int .i64 k.t, .int .i64 k.s, .int .i64 k.c, .int .i64 k.w, .int .i64 k.g, .int .i64 k.p, .int .i64 k.r, .pointer (some ⟨m.b, 0, none⟩), .int .i64 wh] 47)).drew tb #[.int .i64 0, .int .i64 slot, .int .u64 top] 142 := (hb0.alloc _).drew
  have hx1' : Blk ((w.setCell ⟨tb, 0, none⟩ (.int .i64 0)).alloc (.cells #[.int .i64 k.t, .int .i64 k.s, .int .i64 k.c, .int .i64 k.w, .int .i64 k.g, .int .i64 k.p, .int .i64 k.r, .pointer (some ⟨m.b, 0, none⟩), .int .i64 wh] 47)).drew w.heap.size #[.int .i64 k.t, .int .i64 k.s, .int .i64 k.c, .int .i64 k.w, .int .i64 k.g, .int .i64 k.p, .int .i64 k.r, .pointer (some ⟨m.b, 0, none⟩), .int .i64 wh] 47 := (Blk.new' (by simp) rfl : Blk ((w.setCell ⟨tb, 0, none⟩ (.int .i64 0)).alloc (.cells #[.int .i64 k.t, .int .i64 k.s, .int .i64 k.c, .int .i64 k.w, .int .i64 k.g, .int .i64 k.p, .int .i64 k.r, .pointer (some ⟨m.b, 0, none⟩), .int .i64 wh] 47)) w.heap.size #[.int .i64 k.t, .int .i64 k.s, .int .i64 k.c, .int .i64 k.w, .int .i64 k.g, .int .i64 k.p, .int .i64 k.r, .pointer (some ⟨m.b, 0, none⟩), .int .i64 wh] 47).drew
  have hm0 : MemR ((w.setCell ⟨tb, 0, none⟩ (.int .i64 0)).alloc (.cells #[.int .i64 k.t, .int .i64 k.s, .int .i64 k.c, .int .i64 k.w, .int .i64 k.g, .int .i64 k.p, .int .i64 k.r, .pointer (some ⟨m.b, 0, none⟩), .int .i64 wh] 47)).drew m s := ((hm.other _ _ n1.symm n2.symm n3.symm).alloc _).drew
  have ho0 : Only [m.b, m.wb, m.hb, tb] w ((w.setCell ⟨tb, 0, none⟩ (.int .i64 0)).alloc (.cells #[.int .i64 k.t, .int .i64 k.s, .int .i64 k.c, .int .i64 k.w, .int .i64 k.g, .int .i64 k.p, .int .i64 k.r, .pointer (some ⟨m.b, 0, none⟩), .int .i64 wh] 47)).drew := (((Only.refl _ w).setCell _ _ (by simp)).alloc _).drew
  have hr : -1 ≤ slot := by omega
  have h3 : ∀ w', Blk w' tb #[.int .i64 0, .int .i64 slot, .int .u64 top] 142 → w'.cell? ⟨tb, 1, none⟩ = some (.int .i64 slot) ∧ w'.cell? ⟨tb, 2, none⟩ = some (.int .u64 top) := fun w' h => ⟨h.cell 1, h.cell 2⟩
  go_region_held3 (fun w' => (∀ o, w'.cell? ⟨w.heap.size, o, none⟩ = (#[.int .i64 k.t, .int .i64 k.s, .int .i64 k.c, .int .i64 k.w, .int .i64 k.g, .int .i64 k.p, .int .i64 k.r, .pointer (some ⟨m.b, 0, none⟩), .int .i64 wh] : Array Value)[o]?) ∧ w'.cell? ⟨tb, 1, none⟩ = some (.int .i64 slot) ∧ w'.cell? ⟨tb, 2, none⟩ = some (.int .u64 top)) ((refine ⟨?_, ?_⟩; (focus (refine Blk.cell (T := 47) ?_; repeat (first | with_reducible assumption | with_reducible apply Blk.drew | with_reducible apply Blk.alloc | (with_reducible refine Blk.only ?_ (by with_reducible assumption) (by first | exact List.not_mem_nil | with_reducible assumption)) | (with_reducible refine Blk.other ?_ _ _ (by simp only; omega))))); (focus ((with_reducible refine h3 _ ?_; (repeat (first | with_reducible assumption | with_reducible apply Blk.drew | with_reducible apply Blk.alloc | (with_reducible refine Blk.only ?_ (by with_reducible assumption) (by first | exact List.not_mem_nil | with_reducible assumption)) | (with_reducible refine Blk.other ?_ _ _ (by simp only; omega)))); done)))))
    (first
      | (go_at_call 46; refine (topa_any _).mono ?_; rintro e w' ⟨rfl, rfl⟩)
      | (go_at_call 102; with_reducible refine (puttop_any _ _ _ (by omega) (by omega)).mono ?_; rintro e w' ⟨rfl, rfl⟩)
      | (go_at_call 72; with_reducible refine (cas_env k wh hm0 (putTop_rng hr)).mono ?_; rintro e w1 ⟨rfl, hm1, ho1⟩; have hB1 := hb1.only ho1 hnt; have f1 := hB1.frozen; have c1 := hB1.cell; have hX1 := hx1'.only ho1 hnx))
  all_goals
    have hN := topN_rng (x := top)
    have hw : IntKind.i64.wrap (topN top + 1) = topN top + 1 := by rw [IntWalk.i64_left]; unfold wrap64; omega
    rw [hw] at hm1
    have hO1 := ho0.trans' ho1 (by intro x hx _; simp only [List.mem_cons, List.not_mem_nil, or_false] at hx ⊢; omega)
    clear hN hw
    go_wp2
    go_ret
    exact ⟨rfl, hm1, hB1, hO1⟩

end
end Go.Proofs.Yteoimmjgnflmmaa
