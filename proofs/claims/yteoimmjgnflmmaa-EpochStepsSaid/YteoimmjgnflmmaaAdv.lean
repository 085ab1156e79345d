/-
  A thread that moves the epoch on, step by step.
-/
import Derived.Test.YteoimmjgnflmmaaQc
namespace Go.Proofs.Yteoimmjgnflmmaa
open Go.RowKit

structure AdvS where
  pc : Int
  ep : Int
  i : Int
  went : Bool
def AdvS.cs (p : AdvS) : Array Value := #[.int .i64 p.pc, .int .u64 p.ep, .int .i64 p.i, .bool p.went]

section
variable {w : World} {m : MB} {s : MS}

set_option maxHeartbeats 1600000 in
theorem adv_step0 (k : Cfg) (wh : Int) (p : AdvS) (tb : Nat) (hm : MemR w m s) (hb : Blk w tb p.cs 116) (hpc : p.pc = 0) (n1 : tb ≠ m.b) (n2 : tb ≠ m.wb) (n3 : tb ≠ m.hb) :
    Calls Try.prog 86 #[.pointer (some ⟨tb, 0, none⟩), .agg #[.int .i64 k.t, .int .i64 k.s, .int .i64 k.c, .int .i64 k.w, .int .i64 k.g, .int .i64 k.p, .int .i64 k.r, .pointer (some ⟨m.b, 0, none⟩), .int .i64 wh]] w fun e w' =>
      e = .returned (.bool false) ∧ MemR w' m ((s.by wh).load 0) ∧ Blk w' tb (⟨1, s.get 0, p.i, p.went⟩ : AdvS).cs 116 ∧ Only [m.b, m.wb, m.hb, tb] w w' := by
  obtain ⟨pc, ep, i, went⟩ := p
  simp only at hpc
  subst hpc
  replace hb : Blk w tb #[.int .i64 0, .int .u64 ep, .int .i64 i, .bool went] 116 := hb
  have ht := hb.lt
  have hnx : w.heap.size ∉ [m.b, m.wb, m.hb] := hm.notin (Nat.le_refl _)
  have hnt : tb ∉ [m.b, m.wb, m.hb] := by simp only [List.mem_cons, List.not_mem_nil, or_false, not_or]; exact ⟨n1, n2, n3⟩
  have hc0 := hb.cell
  go_enter Try.func86, Try.ntmps86
  go_wp2
  have hX : Blk (w.alloc (.cells #[.int .i64 k.t, .int .i64 k.s, .int .i64 k.c, .int .i64 k.w, .int .i64 k.g, .int .i64 k.p, .int .i64 k.r, .pointer (some ⟨m.b, 0, none⟩), .int .i64 wh] 47)).drew w.heap.size #[.int .i64 k.t, .int .i64 k.s, .int .i64 k.c, .int .i64 k.w, .int .i64 k.g, .int .i64 k.p, .int .i64 k.r, .pointer (some ⟨m.b, 0, none⟩), .int .i64 wh] 47 := (Blk.new w _ 47).drew
  have hB : Blk (w.alloc (.cells #[.int .i64 k.t, .int .i64 k.s, .int .i64 k.c, .int .i64 k.w, .int .i64 k.g, .int .i64 k.p, .int .i64 k.r, .pointer (some ⟨m.b, 0, none⟩), .int .i64 wh] 47)).drew tb #[.int .i64 0, .int .u64 ep, .int .i64 i, .bool went] 116 := (hb.alloc _).drew
  have hM : MemR (w.alloc (.cells #[.int .i64 k.t, .int .i64 k.s, .int .i64 k.c, .int .i64 k.w, .int .i64 k.g, .int .i64 k.p, .int .i64 k.r, .pointer (some ⟨m.b, 0, none⟩), .int .i64 wh] 47)).drew m s := (hm.alloc _).drew
  go_region_held3 (fun w' => ∀ o, w'.cell? ⟨w.heap.size, o, none⟩ = (#[.int .i64 k.t, .int .i64 k.s, .int .i64 k.c, .int .i64 k.w, .int .i64 k.g, .int .i64 k.p, .int .i64 k.r, .pointer (some ⟨m.b, 0, none⟩), .int .i64 wh] : Array Value)[o]?) ((refine Blk.cell (T := 47) ?_; repeat (first | with_reducible assumption | with_reducible apply Blk.drew | with_reducible apply Blk.alloc | (with_reducible refine Blk.only ?_ (by with_reducible assumption) (by first | exact List.not_mem_nil | with_reducible assumption)) | (with_reducible refine Blk.other ?_ _ _ (by simp only; omega)))))
    (first
      | (go_at_call 45; refine (epoch_any _).mono ?_; rintro e w' ⟨rfl, rfl⟩)
      | (go_at_call 69; refine (load_env k wh hM).mono ?_; rintro e w1 ⟨rfl, hm1, ho1⟩; have hB1 := hB.only ho1 hnt; have f1 := hB1.frozen; have c1 := hB1.cell))
  all_goals
    go_wp2
    go_ret
    refine ⟨rfl, ?_, ?_, ?_⟩
    · repeat (first | with_reducible assumption | with_reducible apply MemR.drew | with_reducible apply MemR.alloc | (with_reducible refine MemR.only ?_ (by with_reducible assumption) List.not_mem_nil List.not_mem_nil List.not_mem_nil) | (with_reducible refine MemR.other ?_ _ _ (by simp only; omega) (by simp only; omega) (by simp only; omega)))
    · exact (hB1.set 1 _ rfl).set 0 _ rfl
    · repeat (first | with_reducible exact Only.refl _ _ | with_reducible assumption | with_reducible apply Only.drew | with_reducible apply Only.drewN | with_reducible apply Only.alloc | (with_reducible refine Only.setCell ?_ _ _ (by simp)) | (with_reducible refine Only.trans' ?_ (by with_reducible assumption) (by intro x hx _; simp only [List.mem_cons, List.not_mem_nil, or_false] at hx ⊢; omega)))

set_option maxHeartbeats 1600000 in
theorem adv_refuse (k : Cfg) (wh : Int) (p : AdvS) (tb : Nat) (hm : MemR w m s) (hb : Blk w tb p.cs 116) (hpc : p.pc = 1) (h0 : (s.get (aPin p.i) != 0) = true) (h1 : (s.get (aPin p.i) != IntKind.u64.wrap (p.ep + 1)) = true) (n1 : tb ≠ m.b) (n2 : tb ≠ m.wb) (n3 : tb ≠ m.hb) :
    Calls Try.prog 86 #[.pointer (some ⟨tb, 0, none⟩), .agg #[.int .i64 k.t, .int .i64 k.s, .int .i64 k.c, .int .i64 k.w, .int .i64 k.g, .int .i64 k.p, .int .i64 k.r, .pointer (some ⟨m.b, 0, none⟩), .int .i64 wh]] w fun e w' =>
      e = .returned (.bool true) ∧ MemR w' m ((s.by wh).load (aPin p.i)) ∧ Blk w' tb p.cs 116 ∧ Only [m.b, m.wb, m.hb, tb] w w' := by
  obtain ⟨pc, ep, i, went⟩ := p
  simp only at hpc
  subst hpc
  replace hb : Blk w tb #[.int .i64 1, .int .u64 ep, .int .i64 i, .bool went] 116 := hb
  have ht := hb.lt
  have hnx : w.heap.size ∉ [m.b, m.wb, m.hb] := hm.notin (Nat.le_refl _)
  have hnt : tb ∉ [m.b, m.wb, m.hb] := by simp only [List.mem_cons, List.not_mem_nil, or_false, not_or]; exact ⟨n1, n2, n3⟩
  have hc0 := hb.cell
  go_enter Try.func86, Try.ntmps86
  go_wp2
  have hX : Blk (w.alloc (.cells #[.int .i64 k.t, .int .i64 k.s, .int .i64 k.c, .int .i64 k.w, .int .i64 k.g, .int .i64 k.p, .int .i64 k.r, .pointer (some ⟨m.b, 0, none⟩), .int .i64 wh] 47)).drew w.heap.size #[.int .i64 k.t, .int .i64 k.s, .int .i64 k.c, .int .i64 k.w, .int .i64 k.g, .int .i64 k.p, .int .i64 k.r, .pointer (some ⟨m.b, 0, none⟩), .int .i64 wh] 47 := (Blk.new w _ 47).drew
  have hB : Blk (w.alloc (.cells #[.int .i64 k.t, .int .i64 k.s, .int .i64 k.c, .int .i64 k.w, .int .i64 k.g, .int .i64 k.p, .int .i64 k.r, .pointer (some ⟨m.b, 0, none⟩), .int .i64 wh] 47)).drew tb #[.int .i64 1, .int .u64 ep, .int .i64 i, .bool went] 116 := (hb.alloc _).drew
  have hM : MemR (w.alloc (.cells #[.int .i64 k.t, .int .i64 k.s, .int .i64 k.c, .int .i64 k.w, .int .i64 k.g, .int .i64 k.p, .int .i64 k.r, .pointer (some ⟨m.b, 0, none⟩), .int .i64 wh] 47)).drew m s := (hm.alloc _).drew

  go_region_held3 (fun w' => (∀ o, w'.cell? ⟨w.heap.size, o, none⟩ = (#[.int .i64 k.t, .int .i64 k.s, .int .i64 k.c, .int .i64 k.w, .int .i64 k.g, .int .i64 k.p, .int .i64 k.r, .pointer (some ⟨m.b, 0, none⟩), .int .i64 wh] : Array Value)[o]?) ∧ w'.cell? ⟨tb, 2, none⟩ = some (.int .i64 i)) ((refine ⟨Blk.cell (T := 47) ?_, Blk.cell (T := 116) (cs := #[.int .i64 1, .int .u64 ep, .int .i64 i, .bool went]) ?_ 2⟩; all_goals repeat (first | with_reducible assumption | with_reducible apply Blk.drew | with_reducible apply Blk.alloc | (with_reducible refine Blk.only ?_ (by with_reducible assumption) (by first | exact List.not_mem_nil | with_reducible assumption)) | (with_reducible refine Blk.other ?_ _ _ (by simp only; omega)))))
    (first
      | (go_at_call 48; refine (pin_any _ _).mono ?_; rintro e w' ⟨rfl, rfl⟩)
      | (go_at_call 69; refine (load_env k wh hM).mono ?_; rintro e w1 ⟨rfl, hm1, ho1⟩; have hB1 := hB.only ho1 hnt; have f1 := hB1.frozen; have c1 := hB1.cell; have hX1 := (hX.only ho1 hnx).cell))
  all_goals
    go_wp2
    go_ret
    refine ⟨rfl, ?_, ?_, ?_⟩
    · repeat (first | with_reducible assumption | with_reducible apply MemR.drew | with_reducible apply MemR.alloc | (with_reducible refine MemR.only ?_ (by with_reducible assumption) List.not_mem_nil List.not_mem_nil List.not_mem_nil) | (with_reducible refine MemR.other ?_ _ _ (by simp only; omega) (by simp only; omega) (by simp only; omega)))
    · exact hB1
    · repeat (first | with_reducible exact Only.refl _ _ | with_reducible assumption | with_reducible apply Only.drew | with_reducible apply Only.drewN | with_reducible apply Only.alloc | (with_reducible refine Only.setCell ?_ _ _ (by simp)) | (with_reducible refine Only.trans' ?_ (by with_reducible assumption) (by intro x hx _; simp only [List.mem_cons, List.not_mem_nil, or_false] at hx ⊢; omega)))

set_option maxHeartbeats 1600000 in
theorem adv_next0 (k : Cfg) (wh : Int) (p : AdvS) (tb : Nat) (hm : MemR w m s) (hb : Blk w tb p.cs 116) (hpc : p.pc = 1) (h0 : (s.get (aPin p.i) != 0) = false) (hi0 : 0 ≤ p.i) (hi1 : p.i < 1000) (hlt : p.i + 1 < k.t) (n1 : tb ≠ m.b) (n2 : tb ≠ m.wb) (n3 : tb ≠ m.hb) :
    Calls Try.prog 86 #[.pointer (some ⟨tb, 0, none⟩), .agg #[.int .i64 k.t, .int .i64 k.s, .int .i64 k.c, .int .i64 k.w, .int .i64 k.g, .int .i64 k.p, .int .i64 k.r, .pointer (some ⟨m.b, 0, none⟩), .int .i64 wh]] w fun e w' =>
      e = .returned (.bool false) ∧ MemR w' m ((s.by wh).load (aPin p.i)) ∧ Blk w' tb (⟨1, p.ep, p.i + 1, p.went⟩ : AdvS).cs 116 ∧ Only [m.b, m.wb, m.hb, tb] w w' := by
  obtain ⟨pc, ep, i, went⟩ := p
  simp only at hpc
  subst hpc
  replace hb : Blk w tb #[.int .i64 1, .int .u64 ep, .int .i64 i, .bool went] 116 := hb
  have ht := hb.lt
  have hnx : w.heap.size ∉ [m.b, m.wb, m.hb] := hm.notin (Nat.le_refl _)
  have hnt : tb ∉ [m.b, m.wb, m.hb] := by simp only [List.mem_cons, List.not_mem_nil, or_false, not_or]; exact ⟨n1, n2, n3⟩
  have hc0 := hb.cell
  go_enter Try.func86, Try.ntmps86
  go_wp2
  have hX : Blk (w.alloc (.cells #[.int .i64 k.t, .int .i64 k.s, .int .i64 k.c, .int .i64 k.w, .int .i64 k.g, .int .i64 k.p, .int .i64 k.r, .pointer (some ⟨m.b, 0, none⟩), .int .i64 wh] 47)).drew w.heap.size #[.int .i64 k.t, .int .i64 k.s, .int .i64 k.c, .int .i64 k.w, .int .i64 k.g, .int .i64 k.p, .int .i64 k.r, .pointer (some ⟨m.b, 0, none⟩), .int .i64 wh] 47 := (Blk.new w _ 47).drew
  have hB : Blk (w.alloc (.cells #[.int .i64 k.t, .int .i64 k.s, .int .i64 k.c, .int .i64 k.w, .int .i64 k.g, .int .i64 k.p, .int .i64 k.r, .pointer (some ⟨m.b, 0, none⟩), .int .i64 wh] 47)).drew tb #[.int .i64 1, .int .u64 ep, .int .i64 i, .bool went] 116 := (hb.alloc _).drew
  have hM : MemR (w.alloc (.cells #[.int .i64 k.t, .int .i64 k.s, .int .i64 k.c, .int .i64 k.w, .int .i64 k.g, .int .i64 k.p, .int .i64 k.r, .pointer (some ⟨m.b, 0, none⟩), .int .i64 wh] 47)).drew m s := (hm.alloc _).drew
  go_region_held3 (fun w' => (∀ o, w'.cell? ⟨w.heap.size, o, none⟩ = (#[.int .i64 k.t, .int .i64 k.s, .int .i64 k.c, .int .i64 k.w, .int .i64 k.g, .int .i64 k.p, .int .i64 k.r, .pointer (some ⟨m.b, 0, none⟩), .int .i64 wh] : Array Value)[o]?) ∧ w'.cell? ⟨tb, 2, none⟩ = some (.int .i64 i)) ((refine ⟨Blk.cell (T := 47) ?_, Blk.cell (T := 116) (cs := #[.int .i64 1, .int .u64 ep, .int .i64 i, .bool went]) ?_ 2⟩; all_goals repeat (first | with_reducible assumption | with_reducible apply Blk.drew | with_reducible apply Blk.alloc | (with_reducible refine Blk.only ?_ (by with_reducible assumption) (by first | exact List.not_mem_nil | with_reducible assumption)) | (with_reducible refine Blk.other ?_ _ _ (by simp only; omega)))))
    (first
      | (go_at_call 48; refine (pin_any _ _).mono ?_; rintro e w' ⟨rfl, rfl⟩)
      | (go_at_call 69; refine (load_env k wh hM).mono ?_; rintro e w1 ⟨rfl, hm1, ho1⟩; have hB1 := hB.only ho1 hnt; have f1 := hB1.frozen; have c1 := hB1.cell; have hX1 := (hX.only ho1 hnx).cell))
  all_goals
    have hO1 : Only [m.b, m.wb, m.hb, tb] w w1 := by
      repeat (first | with_reducible exact Only.refl _ _ | with_reducible assumption | with_reducible apply Only.drew | with_reducible apply Only.drewN | with_reducible apply Only.alloc | (with_reducible refine Only.setCell ?_ _ _ (by simp)) | (with_reducible refine Only.trans' ?_ (by with_reducible assumption) (by intro x hx _; simp only [List.mem_cons, List.not_mem_nil, or_false] at hx ⊢; omega)))
    go_wp2
    go_quiet (fail)
    go_wp2
    go_ret
    first
      | exact ⟨rfl, (hm1.other _ _ n1.symm n2.symm n3.symm).drewN _, (hB1.set 2 _ rfl).drewN _, (hO1.setCell _ _ (by simp)).drewN _⟩
      | (exact ⟨rfl, ((hm1.other _ _ n1.symm n2.symm n3.symm).drewN _).other _ _ n1.symm n2.symm n3.symm, ((hB1.set 2 _ rfl).drewN _).set 0 _ rfl, ((hO1.setCell _ _ (by simp)).drewN _).setCell _ _ (by simp)⟩)

set_option maxHeartbeats 1600000 in
theorem adv_next1 (k : Cfg) (wh : Int) (p : AdvS) (tb : Nat) (hm : MemR w m s) (hb : Blk w tb p.cs 116) (hpc : p.pc = 1) (h0 : (s.get (aPin p.i) != 0) = true) (h1 : (s.get (aPin p.i) != IntKind.u64.wrap (p.ep + 1)) = false) (hi0 : 0 ≤ p.i) (hi1 : p.i < 1000) (hlt : p.i + 1 < k.t) (n1 : tb ≠ m.b) (n2 : tb ≠ m.wb) (n3 : tb ≠ m.hb) :
    Calls Try.prog 86 #[.pointer (some ⟨tb, 0, none⟩), .agg #[.int .i64 k.t, .int .i64 k.s, .int .i64 k.c, .int .i64 k.w, .int .i64 k.g, .int .i64 k.p, .int .i64 k.r, .pointer (some ⟨m.b, 0, none⟩), .int .i64 wh]] w fun e w' =>
      e = .returned (.bool false) ∧ MemR w' m ((s.by wh).load (aPin p.i)) ∧ Blk w' tb (⟨1, p.ep, p.i + 1, p.went⟩ : AdvS).cs 116 ∧ Only [m.b, m.wb, m.hb, tb] w w' := by
  obtain ⟨pc, ep, i, went⟩ := p
  simp only at hpc
  subst hpc
  replace hb : Blk w tb #[.int .i64 1, .int .u64 ep, .int .i64 i, .bool went] 116 := hb
  have ht := hb.lt
  have hnx : w.heap.size ∉ [m.b, m.wb, m.hb] := hm.notin (Nat.le_refl _)
  have hnt : tb ∉ [m.b, m.wb, m.hb] := by simp only [List.mem_cons, List.not_mem_nil, or_false, not_or]; exact ⟨n1, n2, n3⟩
  have hc0 := hb.cell
  go_enter Try.func86, Try.ntmps86
  go_wp2
  have hX : Blk (w.alloc (.cells #[.int .i64 k.t, .int .i64 k.s, .int .i64 k.c, .int .i64 k.w, .int .i64 k.g, .int .i64 k.p, .int .i64 k.r, .pointer (some ⟨m.b, 0, none⟩), .int .i64 wh] 47)).drew w.heap.size #[.int .i64 k.t, .int .i64 k.s, .int .i64 k.c, .int .i64 k.w, .int .i64 k.g, .int .i64 k.p, .int .i64 k.r, .pointer (some ⟨m.b, 0, none⟩), .int .i64 wh] 47 := (Blk.new w _ 47).drew
  have hB : Blk (w.alloc (.cells #[.int .i64 k.t, .int .i64 k.s, .int .i64 k.c, .int .i64 k.w, .int .i64 k.g, .int .i64 k.p, .int .i64 k.r, .pointer (some ⟨m.b, 0, none⟩), .int .i64 wh] 47)).drew tb #[.int .i64 1, .int .u64 ep, .int .i64 i, .bool went] 116 := (hb.alloc _).drew
  have hM : MemR (w.alloc (.cells #[.int .i64 k.t, .int .i64 k.s, .int .i64 k.c, .int .i64 k.w, .int .i64 k.g, .int .i64 k.p, .int .i64 k.r, .pointer (some ⟨m.b, 0, none⟩), .int .i64 wh] 47)).drew m s := (hm.alloc _).drew
  go_region_held3 (fun w' => (∀ o, w'.cell? ⟨w.heap.size, o, none⟩ = (#[.int .i64 k.t, .int .i64 k.s, .int .i64 k.c, .int .i64 k.w, .int .i64 k.g, .int .i64 k.p, .int .i64 k.r, .pointer (some ⟨m.b, 0, none⟩), .int .i64 wh] : Array Value)[o]?) ∧ w'.cell? ⟨tb, 2, none⟩ = some (.int .i64 i)) ((refine ⟨Blk.cell (T := 47) ?_, Blk.cell (T := 116) (cs := #[.int .i64 1, .int .u64 ep, .int .i64 i, .bool went]) ?_ 2⟩; all_goals repeat (first | with_reducible assumption | with_reducible apply Blk.drew | with_reducible apply Blk.alloc | (with_reducible refine Blk.only ?_ (by with_reducible assumption) (by first | exact List.not_mem_nil | with_reducible assumption)) | (with_reducible refine Blk.other ?_ _ _ (by simp only; omega)))))
    (first
      | (go_at_call 48; refine (pin_any _ _).mono ?_; rintro e w' ⟨rfl, rfl⟩)
      | (go_at_call 69; refine (load_env k wh hM).mono ?_; rintro e w1 ⟨rfl, hm1, ho1⟩; have hB1 := hB.only ho1 hnt; have f1 := hB1.frozen; have c1 := hB1.cell; have hX1 := (hX.only ho1 hnx).cell))
  all_goals
    have hO1 : Only [m.b, m.wb, m.hb, tb] w w1 := by
      repeat (first | with_reducible exact Only.refl _ _ | with_reducible assumption | with_reducible apply Only.drew | with_reducible apply Only.drewN | with_reducible apply Only.alloc | (with_reducible refine Only.setCell ?_ _ _ (by simp)) | (with_reducible refine Only.trans' ?_ (by with_reducible assumption) (by intro x hx _; simp only [List.mem_cons, List.not_mem_nil, or_false] at hx ⊢; omega)))
    go_wp2
    go_quiet (fail)
    go_wp2
    go_ret
    first
      | exact ⟨rfl, (hm1.other _ _ n1.symm n2.symm n3.symm).drewN _, (hB1.set 2 _ rfl).drewN _, (hO1.setCell _ _ (by simp)).drewN _⟩
      | (exact ⟨rfl, ((hm1.other _ _ n1.symm n2.symm n3.symm).drewN _).other _ _ n1.symm n2.symm n3.symm, ((hB1.set 2 _ rfl).drewN _).set 0 _ rfl, ((hO1.setCell _ _ (by simp)).drewN _).setCell _ _ (by simp)⟩)

set_option maxHeartbeats 1600000 in
theorem adv_last0 (k : Cfg) (wh : Int) (p : AdvS) (tb : Nat) (hm : MemR w m s) (hb : Blk w tb p.cs 116) (hpc : p.pc = 1) (h0 : (s.get (aPin p.i) != 0) = false) (hi0 : 0 ≤ p.i) (hi1 : p.i < 1000) (hlt : k.t ≤ p.i + 1) (n1 : tb ≠ m.b) (n2 : tb ≠ m.wb) (n3 : tb ≠ m.hb) :
    Calls Try.prog 86 #[.pointer (some ⟨tb, 0, none⟩), .agg #[.int .i64 k.t, .int .i64 k.s, .int .i64 k.c, .int .i64 k.w, .int .i64 k.g, .int .i64 k.p, .int .i64 k.r, .pointer (some ⟨m.b, 0, none⟩), .int .i64 wh]] w fun e w' =>
      e = .returned (.bool false) ∧ MemR w' m ((s.by wh).load (aPin p.i)) ∧ Blk w' tb (⟨2, p.ep, p.i + 1, p.went⟩ : AdvS).cs 116 ∧ Only [m.b, m.wb, m.hb, tb] w w' := by
  obtain ⟨pc, ep, i, went⟩ := p
  simp only at hpc
  subst hpc
  replace hb : Blk w tb #[.int .i64 1, .int .u64 ep, .int .i64 i, .bool went] 116 := hb
  have ht := hb.lt
  have hnx : w.heap.size ∉ [m.b, m.wb, m.hb] := hm.notin (Nat.le_refl _)
  have hnt : tb ∉ [m.b, m.wb, m.hb] := by simp only [List.mem_cons, List.not_mem_nil, or_false, not_or]; exact ⟨n1, n2, n3⟩
  have hc0 := hb.cell
  go_enter Try.func86, Try.ntmps86
  go_wp2
  have hX : Blk (w.alloc (.cells #[.int .i64 k.t, .int .i64 k.s, .int .i64 k.c, .int .i64 k.w, .int .i64 k.g, .int .i64 k.p, .int .i64 k.r, .pointer (some ⟨m.b, 0, none⟩), .int .i64 wh] 47)).drew w.heap.size #[.int .i64 k.t, .int .i64 k.s, .int .i64 k.c, .int .i64 k.w, .int .i64 k.g, .int .i64 k.p, .int .i64 k.r, .pointer (some ⟨m.b, 0, none⟩), .int .i64 wh] 47 := (Blk.new w _ 47).drew
  have hB : Blk (w.alloc (.cells #[.int .i64 k.t, .int .i64 k.s, .int .i64 k.c, .int .i64 k.w, .int .i64 k.g, .int .i64 k.p, .int .i64 k.r, .pointer (some ⟨m.b, 0, none⟩), .int .i64 wh] 47)).drew tb #[.int .i64 1, .int .u64 ep, .int .i64 i, .bool went] 116 := (hb.alloc _).drew
  have hM : MemR (w.alloc (.cells #[.int .i64 k.t, .int .i64 k.s, .int .i64 k.c, .int .i64 k.w, .int .i64 k.g, .int .i64 k.p, .int .i64 k.r, .pointer (some ⟨m.b, 0, none⟩), .int .i64 wh] 47)).drew m s := (hm.alloc _).drew
  go_region_held3 (fun w' => (∀ o, w'.cell? ⟨w.heap.size, o, none⟩ = (#[.int .i64 k.t, .int .i64 k.s, .int .i64 k.c, .int .i64 k.w, .int .i64 k.g, .int .i64 k.p, .int .i64 k.r, .pointer (some ⟨m.b, 0, none⟩), .int .i64 wh] : Array Value)[o]?) ∧ w'.cell? ⟨tb, 2, none⟩ = some (.int .i64 i)) ((refine ⟨Blk.cell (T := 47) ?_, Blk.cell (T := 116) (cs := #[.int .i64 1, .int .u64 ep, .int .i64 i, .bool went]) ?_ 2⟩; all_goals repeat (first | with_reducible assumption | with_reducible apply Blk.drew | with_reducible apply Blk.alloc | (with_reducible refine Blk.only ?_ (by with_reducible assumption) (by first | exact List.not_mem_nil | with_reducible assumption)) | (with_reducible refine Blk.other ?_ _ _ (by simp only; omega)))))
    (first
      | (go_at_call 48; refine (pin_any _ _).mono ?_; rintro e w' ⟨rfl, rfl⟩)
      | (go_at_call 69; refine (load_env k wh hM).mono ?_; rintro e w1 ⟨rfl, hm1, ho1⟩; have hB1 := hB.only ho1 hnt; have f1 := hB1.frozen; have c1 := hB1.cell; have hX1 := (hX.only ho1 hnx).cell))
  all_goals
    have hO1 : Only [m.b, m.wb, m.hb, tb] w w1 := by
      repeat (first | with_reducible exact Only.refl _ _ | with_reducible assumption | with_reducible apply Only.drew | with_reducible apply Only.drewN | with_reducible apply Only.alloc | (with_reducible refine Only.setCell ?_ _ _ (by simp)) | (with_reducible refine Only.trans' ?_ (by with_reducible assumption) (by intro x hx _; simp only [List.mem_cons, List.not_mem_nil, or_false] at hx ⊢; omega)))
    go_wp2
    go_quiet (fail)
    go_wp2
    go_ret
    first
      | exact ⟨rfl, (hm1.other _ _ n1.symm n2.symm n3.symm).drewN _, (hB1.set 2 _ rfl).drewN _, (hO1.setCell _ _ (by simp)).drewN _⟩
      | (exact ⟨rfl, ((hm1.other _ _ n1.symm n2.symm n3.symm).drewN _).other _ _ n1.symm n2.symm n3.symm, ((hB1.set 2 _ rfl).drewN _).set 0 _ rfl, ((hO1.setCell _ _ (by simp)).drewN _).setCell _ _ (by simp)⟩)

set_option maxHeartbeats 1600000 in
theorem adv_last1 (k : Cfg) (wh : Int) (p : AdvS) (tb : Nat) (hm : MemR w m s) (hb : Blk w tb p.cs 116) (hpc : p.pc = 1) (h0 : (s.get (aPin p.i) != 0) = true) (h1 : (s.get (aPin p.i) != IntKind.u64.wrap (p.ep + 1)) = false) (hi0 : 0 ≤ p.i) (hi1 : p.i < 1000) (hlt : k.t ≤ p.i + 1) (n1 : tb ≠ m.b) (n2 : tb ≠ m.wb) (n3 : tb ≠ m.hb) :
    Calls Try.prog 86 #[.pointer (some ⟨tb, 0, none⟩), .agg #[.int .i64 k.t, .int .i64 k.s, .int .i64 k.c, .int .i64 k.w, .int .i64 k.g, .int .i64 k.p, .int .i64 k.r, .pointer (some ⟨m.b, 0, none⟩), .int .i64 wh]] w fun e w' =>
      e = .returned (.bool false) ∧ MemR w' m ((s.by wh).load (aPin p.i)) ∧ Blk w' tb (⟨2, p.ep, p.i + 1, p.went⟩ : AdvS).cs 116 ∧ Only [m.b, m.wb, m.hb, tb] w w' := by
  obtain ⟨pc, ep, i, went⟩ := p
  simp only at hpc
  subst hpc
  replace hb : Blk w tb #[.int .i64 1, .int .u64 ep, .int .i64 i, .bool went] 116 := hb
  have ht := hb.lt
  have hnx : w.heap.size ∉ [m.b, m.wb, m.hb] := hm.notin (Nat.le_refl _)
  have hnt : tb ∉ [m.b, m.wb, m.hb] := by simp only [List.mem_cons, List.not_mem_nil, or_false, not_or]; exact ⟨n1, n2, n3⟩
  have hc0 := hb.cell
  go_enter Try.func86, Try.ntmps86
  go_wp2
  have hX : Blk (w.alloc (.cells #[.int .i64 k.t, .int .i64 k.s, .int .i64 k.c, .int .i64 k.w, .int .i64 k.g, .int .i64 k.p, .int .i64 k.r, .pointer (some ⟨m.b, 0, none⟩), .int .i64 wh] 47)).drew w.heap.size #[.int .i64 k.t, .int .i64 k.s, .int .i64 k.c, .int .i64 k.w, .int .i64 k.g, .int .i64 k.p, .int .i64 k.r, .pointer (some ⟨m.b, 0, none⟩), .int .i64 wh] 47 := (Blk.new w _ 47).drew
  have hB : Blk (w.alloc (.cells #[.int .i64 k.t, .int .i64 k.s, .int .i64 k.c, .int .i64 k.w, .int .i64 k.g, .int .i64 k.p, .int .i64 k.r, .pointer (some ⟨m.b, 0, none⟩), .int .i64 wh] 47)).drew tb #[.int .i64 1, .int .u64 ep, .int .i64 i, .bool went] 116 := (hb.alloc _).drew
  have hM : MemR (w.alloc (.cells #[.int .i64 k.t, .int .i64 k.s, .int .i64 k.c, .int .i64 k.w, .int .i64 k.g, .int .i64 k.p, .int .i64 k.r, .pointer (some ⟨m.b, 0, none⟩), .int .i64 wh] 47)).drew m s := (hm.alloc _).drew
  go_region_held3 (fun w' => (∀ o, w'.cell? ⟨w.heap.size, o, none⟩ = (#[.int .i64 k.t, .int .i64 k.s, .int .i64 k.c, .int .i64 k.w, .int .i64 k.g, .int .i64 k.p, .int .i64 k.r, .pointer (some ⟨m.b, 0, none⟩), .int .i64 wh] : Array Value)[o]?) ∧ w'.cell? ⟨tb, 2, none⟩ = some (.int .i64 i)) ((refine ⟨Blk.cell (T := 47) ?_, Blk.cell (T := 116) (cs := #[.int .i64 1, .int .u64 ep, .int .i64 i, .bool went]) ?_ 2⟩; all_goals repeat (first | with_reducible assumption | with_reducible apply Blk.drew | with_reducible apply Blk.alloc | (with_reducible refine Blk.only ?_ (by with_reducible assumption) (by first | exact List.not_mem_nil | with_reducible assumption)) | (with_reducible refine Blk.other ?_ _ _ (by simp only; omega)))))
    (first
      | (go_at_call 48; refine (pin_any _ _).mono ?_; rintro e w' ⟨rfl, rfl⟩)
      | (go_at_call 69; refine (load_env k wh hM).mono ?_; rintro e w1 ⟨rfl, hm1, ho1⟩; have hB1 := hB.only ho1 hnt; have f1 := hB1.frozen; have c1 := hB1.cell; have hX1 := (hX.only ho1 hnx).cell))
  all_goals
    have hO1 : Only [m.b, m.wb, m.hb, tb] w w1 := by
      repeat (first | with_reducible exact Only.refl _ _ | with_reducible assumption | with_reducible apply Only.drew | with_reducible apply Only.drewN | with_reducible apply Only.alloc | (with_reducible refine Only.setCell ?_ _ _ (by simp)) | (with_reducible refine Only.trans' ?_ (by with_reducible assumption) (by intro x hx _; simp only [List.mem_cons, List.not_mem_nil, or_false] at hx ⊢; omega)))
    go_wp2
    go_quiet (fail)
    go_wp2
    go_ret
    first
      | exact ⟨rfl, (hm1.other _ _ n1.symm n2.symm n3.symm).drewN _, (hB1.set 2 _ rfl).drewN _, (hO1.setCell _ _ (by simp)).drewN _⟩
      | (exact ⟨rfl, ((hm1.other _ _ n1.symm n2.symm n3.symm).drewN _).other _ _ n1.symm n2.symm n3.symm, ((hB1.set 2 _ rfl).drewN _).set 0 _ rfl, ((hO1.setCell _ _ (by simp)).drewN _).setCell _ _ (by simp)⟩)

set_option maxHeartbeats 1600000 in
theorem adv_cas (k : Cfg) (wh : Int) (p : AdvS) (tb : Nat) (hm : MemR w m s) (hb : Blk w tb p.cs 116) (hpc : p.pc = 2) (n1 : tb ≠ m.b) (n2 : tb ≠ m.wb) (n3 : tb ≠ m.hb) :
    Calls Try.prog 86 #[.pointer (some ⟨tb, 0, none⟩), .agg #[.int .i64 k.t, .int .i64 k.s, .int .i64 k.c, .int .i64 k.w, .int .i64 k.g, .int .i64 k.p, .int .i64 k.r, .pointer (some ⟨m.b, 0, none⟩), .int .i64 wh]] w fun e w' =>
      e = .returned (.bool true) ∧ MemR w' m ((s.by wh).cas 0 p.ep (IntKind.u64.wrap (p.ep + 1))) ∧ Blk w' tb (⟨2, p.ep, p.i, (s.by wh).can 0 p.ep⟩ : AdvS).cs 116 ∧ Only [m.b, m.wb, m.hb, tb] w w' := by
  obtain ⟨pc, ep, i, went⟩ := p
  simp only at hpc
  subst hpc
  replace hb : Blk w tb #[.int .i64 2, .int .u64 ep, .int .i64 i, .bool went] 116 := hb
  have ht := hb.lt
  have hnx : w.heap.size ∉ [m.b, m.wb, m.hb] := hm.notin (Nat.le_refl _)
  have hnt : tb ∉ [m.b, m.wb, m.hb] := by simp only [List.mem_cons, List.not_mem_nil, or_false, not_or]; exact ⟨n1, n2, n3⟩
  have hc0 := hb.cell
  go_enter Try.func86, Try.ntmps86
  go_wp2
  have hX : Blk (w.alloc (.cells #[.int .i64 k.t, .int .i64 k.s, .int .i64 k.c, .int .i64 k.w, .int .i64 k.g, .int .i64 k.p, .int .i64 k.r, .pointer (some ⟨m.b, 0, none⟩), .int .i64 wh] 47)).drew w.heap.size #[.int .i64 k.t, .int .i64 k.s, .int .i64 k.c, .int .i64 k.w, .int .i64 k.g, .int .i64 k.p, .int .i64 k.r, .pointer (some ⟨m.b, 0, none⟩), .int .i64 wh] 47 := (Blk.new w _ 47).drew
  have hB : Blk (w.alloc (.cells #[.int .i64 k.t, .int .i64 k.s, .int .i64 k.c, .int .i64 k.w, .int .i64 k.g, .int .i64 k.p, .int .i64 k.r, .pointer (some ⟨m.b, 0, none⟩), .int .i64 wh] 47)).drew tb #[.int .i64 2, .int .u64 ep, .int .i64 i, .bool went] 116 := (hb.alloc _).drew
  have hM : MemR (w.alloc (.cells #[.int .i64 k.t, .int .i64 k.s, .int .i64 k.c, .int .i64 k.w, .int .i64 k.g, .int .i64 k.p, .int .i64 k.r, .pointer (some ⟨m.b, 0, none⟩), .int .i64 wh] 47)).drew m s := (hm.alloc _).drew
  go_region_held3 (fun w' => (∀ o, w'.cell? ⟨w.heap.size, o, none⟩ = (#[.int .i64 k.t, .int .i64 k.s, .int .i64 k.c, .int .i64 k.w, .int .i64 k.g, .int .i64 k.p, .int .i64 k.r, .pointer (some ⟨m.b, 0, none⟩), .int .i64 wh] : Array Value)[o]?) ∧ w'.cell? ⟨tb, 1, none⟩ = some (.int .u64 ep)) ((refine ⟨?_, ?_⟩; (focus (refine Blk.cell (T := 47) ?_; repeat (first | with_reducible assumption | with_reducible apply Blk.drew | with_reducible apply Blk.alloc | (with_reducible refine Blk.only ?_ (by with_reducible assumption) (by first | exact List.not_mem_nil | with_reducible assumption)) | (with_reducible refine Blk.other ?_ _ _ (by simp only; omega))))); (focus (first | exact hB.cell 1 | exact hB1.cell 1 | (exact (hB1.set 3 _ rfl).cell 1)))))
    (first
      | (go_at_call 45; refine (epoch_any _).mono ?_; rintro e w' ⟨rfl, rfl⟩)
      | (go_at_call 72; refine (cas_env k wh hM (u64_wrap _)).mono ?_; rintro e w1 ⟨rfl, hm1, ho1⟩; have hB1 := hB.only ho1 hnt; have f1 := hB1.frozen; have c1 := hB1.cell))
  all_goals
    have hO1 : Only [m.b, m.wb, m.hb, tb] w w1 := by
      repeat (first | with_reducible exact Only.refl _ _ | with_reducible assumption | with_reducible apply Only.drew | with_reducible apply Only.drewN | with_reducible apply Only.alloc | (with_reducible refine Only.setCell ?_ _ _ (by simp)) | (with_reducible refine Only.trans' ?_ (by with_reducible assumption) (by intro x hx _; simp only [List.mem_cons, List.not_mem_nil, or_false] at hx ⊢; omega)))
    go_wp2
    go_ret
    exact ⟨rfl, hm1.other _ _ n1.symm n2.symm n3.symm, hB1.set 3 _ rfl, hO1.setCell _ _ (by simp)⟩

end
end Go.Proofs.Yteoimmjgnflmmaa
