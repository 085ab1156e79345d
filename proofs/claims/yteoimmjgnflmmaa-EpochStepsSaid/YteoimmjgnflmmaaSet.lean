/-
  What a thread does, step by step, that lets a chunk settle.
-/
import Derived.Test.YteoimmjgnflmmaaPl
namespace Go.Proofs.Yteoimmjgnflmmaa
open Go.RowKit Go.BigFrame

structure SetS where
  ch : Int
  pc : Int
  w : Int
  sn : Int
  i : Int
  fr : Bool
def SetS.cs (p : SetS) : Array Value := #[.int .i64 p.ch, .int .i64 p.pc, .int .u64 p.w, .int .u64 p.sn, .int .i64 p.i, .bool p.fr]
def settleStep (k : Cfg) (wh : Int) (s : MS) (p : SetS) : Bool × MS × SetS :=
  if p.pc = 0 then (decide (chSt (s.get (aChunk k p.ch)) ≠ 3), (s.by wh).load (aChunk k p.ch), { p with pc := 1, w := s.get (aChunk k p.ch) })
  else if p.pc = 1 then (false, (s.by wh).load (wrap64 (aChunk k p.ch + 2)), { p with pc := 2, sn := s.get (wrap64 (aChunk k p.ch + 2)) })
  else if p.pc = 2 then (decide (s.get 0 < IntKind.u64.wrap (p.sn + 2)), (s.by wh).load 0, { p with pc := 3 })
  else if p.pc = 3 then (false, (s.by wh).store (wrap64 (aBase k p.ch + p.i)) 0, if chUs p.w ≤ p.i + 1 then { p with pc := 4, i := p.i + 1 } else { p with i := p.i + 1 })
  else if p.pc = 4 then (false, (s.by wh).store (wrap64 (aChunk k p.ch + 1)) 0, { p with pc := 5 })
  else (true, (s.by wh).store (aChunk k p.ch) (putChunk 0 0 0 (chSp p.w + 1)), { p with fr := true })

section
variable {w : World} {m : MB} {s : MS}

theorem setnew_any (g : Int) (w : World) : Calls Try.prog 88 #[.int .i64 g] w fun e w' => e = .returned (.pointer (some ⟨w.heap.size, 0, none⟩)) ∧ w' = w.alloc (.cells (⟨g, 0, 0, 0, 0, false⟩ : SetS).cs 148) := by
  go_enter Try.func88, Try.ntmps88
  go_wp2
  go_ret
  exact ⟨rfl, rfl⟩
set_option maxHeartbeats 400000 in
theorem freed_any (p : SetS) (tb : Nat) (hb : Blk w tb p.cs 148) : Calls Try.prog 90 #[.pointer (some ⟨tb, 0, none⟩)] w fun e w' => e = .returned (.bool p.fr) ∧ w = w' := by
  have hc := hb.cell
  unfold SetS.cs at hc
  go_enter Try.func90, Try.ntmps90
  go_wp2
  go_ret
  exact ⟨rfl, rfl⟩
set_option maxHeartbeats 400000 in
theorem freed_nil (w : World) : Calls Try.prog 90 #[.pointer none] w fun e w' => e = .returned (.bool false) ∧ w = w' := by
  go_enter Try.func90, Try.ntmps90
  go_wp2
  go_ret
  exact ⟨rfl, rfl⟩
set_option maxHeartbeats 400000 in
theorem went_nil (w : World) : Calls Try.prog 91 #[.pointer none] w fun e w' => e = .returned (.bool false) ∧ w = w' := by
  go_enter Try.func91, Try.ntmps91
  go_wp2
  go_ret
  exact ⟨rfl, rfl⟩

set_option maxRecDepth 100000 in
set_option maxHeartbeats 3200000 in
theorem settle0 (k : Cfg) (wh : Int) (p : SetS) (tb : Nat) (hm : MemR w m s) (hb : Blk w tb p.cs 148) (hU : U64 p.w) (hpc : p.pc = 0) (n1 : tb ≠ m.b) (n2 : tb ≠ m.wb) (n3 : tb ≠ m.hb) :
    Calls Try.prog 89 #[.pointer (some ⟨tb, 0, none⟩), .agg #[.int .i64 k.t, .int .i64 k.s, .int .i64 k.c, .int .i64 k.w, .int .i64 k.g, .int .i64 k.p, .int .i64 k.r, .pointer (some ⟨m.b, 0, none⟩), .int .i64 wh]] w fun e w' => e = .returned (.bool (decide (chSt (s.get (aChunk k p.ch)) ≠ 3))) ∧ MemR w' m ((s.by wh).load (aChunk k p.ch)) ∧ Blk w' tb ({ p with pc := 1, w := s.get (aChunk k p.ch) } : SetS).cs 148 ∧ Only [m.b, m.wb, m.hb, tb] w w' := by
  have hfd := field107
  have hV := hm.get_rng (aChunk k p.ch)
  obtain ⟨ch, pc, wd, sn, i, fr⟩ := p
  simp only at hpc
  subst hpc
  replace hb : Blk w tb #[.int .i64 ch, .int .i64 0, .int .u64 wd, .int .u64 sn, .int .i64 i, .bool fr] 148 := hb
  have ht := hb.lt
  have hnx : w.heap.size ∉ [m.b, m.wb, m.hb] := hm.notin (Nat.le_refl _)
  have hnt : tb ∉ [m.b, m.wb, m.hb] := by simp only [List.mem_cons, List.not_mem_nil, or_false, not_or]; exact ⟨n1, n2, n3⟩
  have hsub : ∀ x, x ∈ m.l → x < w.heap.size → x ∈ [m.b, m.wb, m.hb, tb] := by intro x hx _; simp only [List.mem_cons, List.not_mem_nil, or_false] at hx ⊢; omega
  have hsub0 : ∀ x, x ∈ ([] : List Nat) → x < w.heap.size → x ∈ [m.b, m.wb, m.hb, tb] := by intro x hx; cases hx
  have hmb := hm.lts
  obtain ⟨l1, l2, l3⟩ := hmb
  have hc0 := hb.cell
  go_enter Try.func89, Try.ntmps89
  go_wp2
  refine qc_enter (fun w' => MemR w' m s ∧ Blk w' tb #[.int .i64 ch, .int .i64 0, .int .u64 wd, .int .u64 sn, .int .i64 i, .bool fr] 148 ∧ Blk w' w.heap.size #[.int .i64 k.t, .int .i64 k.s, .int .i64 k.c, .int .i64 k.w, .int .i64 k.g, .int .i64 k.p, .int .i64 k.r, .pointer (some ⟨m.b, 0, none⟩), .int .i64 wh] 47 ∧ Only [m.b, m.wb, m.hb, tb] w w') (by kernel_rfl) (by kernel_rfl) ?_ ?_
  focus (exact ⟨(hm.alloc _).drew, (hb.alloc _).drew, (Blk.new w _ 47).drew, ((Only.refl _ w).alloc _).drew⟩)
  repeat (first
    | go_big_quiet_skip
    | (go_big_quiet_want
       apply Exists.intro
       refine ⟨fun wq hq => ?_, ?_⟩
       focus
         (obtain ⟨hq1, hq2, hq3, hq4⟩ := hq; have hc2 := hq2.cell; have hc3 := hq3.cell)
         unfold Oper.quietAt
         go_simp
         (first
           | done
           | with_reducible exact rfl
           | with_reducible exact ⟨rfl, rfl⟩
           | ((go_at_call 50; refine (chunka_any _ k _).mono ?_; rintro e w' ⟨rfl, rfl⟩; exact ⟨rfl, hq1.alloc _, hq2.alloc _, hq3.alloc _, hq4.alloc _⟩)))
       (try simp only [Act.put, List.setIfInBounds_toArray, List.set_cons_zero, List.set_cons_succ])
       go_big_quiet_on))
  refine wpQuiet_nil ?_
  intro wq hq
  obtain ⟨hq1, hq2, hq3, hq4⟩ := hq
  have hqc := hq2.cell
  clear hc0
  go_wp2_with fail
  refine (chunk_word wd _ hU).mono ?_
  rintro e w2 ⟨rfl, ho2⟩
  have hM := (hq1.only ho2 (by simp) (by simp) (by simp)).alloc (.cells #[.int .i64 (chSt wd), .int .i64 (chCl wd), .int .i64 (chUs wd), .int .i64 (chSp wd)] 107)
  have hB := (hq2.only ho2 (by simp)).alloc (.cells #[.int .i64 (chSt wd), .int .i64 (chCl wd), .int .i64 (chUs wd), .int .i64 (chSp wd)] 107)
  have hX := (hq3.only ho2 (by simp)).alloc (.cells #[.int .i64 (chSt wd), .int .i64 (chCl wd), .int .i64 (chUs wd), .int .i64 (chSp wd)] 107)
  have hO := (hq4.trans' ho2 hsub0).alloc (.cells #[.int .i64 (chSt wd), .int .i64 (chCl wd), .int .i64 (chUs wd), .int .i64 (chSp wd)] 107)
  have hC := Blk.new w2 #[.int .i64 (chSt wd), .int .i64 (chCl wd), .int .i64 (chUs wd), .int .i64 (chSp wd)] 107
  have hcn : w2.heap.size ∉ [m.b, m.wb, m.hb] := by
    have := ho2.size
    have := hq4.size
    simp only [List.mem_cons, List.not_mem_nil, or_false, not_or]; omega
  have hct : w2.heap.size ≠ tb := by
    have := ho2.size
    have := hq4.size
    omega
  have htt : tb < w2.heap.size := by
    have := ho2.size
    have := hq4.size
    omega
  have hxt : w.heap.size < w2.heap.size := (hq3.only ho2 (by simp)).lt
  have hBw := hq2.only ho2 (by simp)
  have hMw := hq1.only ho2 (by simp) (by simp) (by simp)
  have hXw := hq3.only ho2 (by simp)
  have hOw := hq4.trans' ho2 hsub0
  have hfw := hBw.frozen
  have hbc2 := (hq2.only ho2 (by simp)).cell
  have hxc2 := (hq3.only ho2 (by simp)).cell
  clear hq1 hq2 hq3 hq4 hqc ho2 hb hm
  go_wp2_with fail
  refine (load_env k wh hM).mono ?_
  rintro e w3 ⟨rfl, hM3, ho3⟩
  have hB3 := hB.only ho3 hnt
  have hO3 := hO.trans' ho3 hsub
  have hc3 := hB3.cell
  have hf3 := hB3.frozen
  clear hM hB hX hO hC hbc2 hxc2
  generalize hv : s.get (aChunk k ch) = v at *
  go_wp2_with fail
  refine (chunk_word v _ hV).mono ?_
  rintro e w4 ⟨rfl, ho4⟩
  go_wp2
  go_ret
  subst hv
  refine ⟨by simp [bne, decide_not]; rfl, ((hM3.other _ _ n1.symm n2.symm n3.symm).other _ _ n1.symm n2.symm n3.symm).only ho4 (by simp) (by simp) (by simp), ((hB3.set 2 _ rfl).set 1 _ rfl).only ho4 (by simp), ((hO3.setCell _ _ (by simp)).setCell _ _ (by simp)).trans' ho4 hsub0⟩

set_option maxRecDepth 100000 in
set_option maxHeartbeats 3200000 in
theorem settle1 (k : Cfg) (wh : Int) (p : SetS) (tb : Nat) (hm : MemR w m s) (hb : Blk w tb p.cs 148) (hU : U64 p.w) (hpc : p.pc = 1) (n1 : tb ≠ m.b) (n2 : tb ≠ m.wb) (n3 : tb ≠ m.hb) :
    Calls Try.prog 89 #[.pointer (some ⟨tb, 0, none⟩), .agg #[.int .i64 k.t, .int .i64 k.s, .int .i64 k.c, .int .i64 k.w, .int .i64 k.g, .int .i64 k.p, .int .i64 k.r, .pointer (some ⟨m.b, 0, none⟩), .int .i64 wh]] w fun e w' => e = .returned (.bool false) ∧ MemR w' m ((s.by wh).load (wrap64 (aChunk k p.ch + 2))) ∧ Blk w' tb ({ p with pc := 2, sn := s.get (wrap64 (aChunk k p.ch + 2)) } : SetS).cs 148 ∧ Only [m.b, m.wb, m.hb, tb] w w' := by
  obtain ⟨ch, pc, wd, sn, i, fr⟩ := p
  simp only at hpc
  subst hpc
  replace hb : Blk w tb #[.int .i64 ch, .int .i64 1, .int .u64 wd, .int .u64 sn, .int .i64 i, .bool fr] 148 := hb
  have ht := hb.lt
  have hnx : w.heap.size ∉ [m.b, m.wb, m.hb] := hm.notin (Nat.le_refl _)
  have hnt : tb ∉ [m.b, m.wb, m.hb] := by simp only [List.mem_cons, List.not_mem_nil, or_false, not_or]; exact ⟨n1, n2, n3⟩
  have hsub : ∀ x, x ∈ m.l → x < w.heap.size → x ∈ [m.b, m.wb, m.hb, tb] := by intro x hx _; simp only [List.mem_cons, List.not_mem_nil, or_false] at hx ⊢; omega
  have hsub0 : ∀ x, x ∈ ([] : List Nat) → x < w.heap.size → x ∈ [m.b, m.wb, m.hb, tb] := by intro x hx; cases hx
  have hmb := hm.lts
  obtain ⟨l1, l2, l3⟩ := hmb
  have hc0 := hb.cell
  go_enter Try.func89, Try.ntmps89
  go_wp2
  refine qc_enter (fun w' => MemR w' m s ∧ Blk w' tb #[.int .i64 ch, .int .i64 1, .int .u64 wd, .int .u64 sn, .int .i64 i, .bool fr] 148 ∧ Blk w' w.heap.size #[.int .i64 k.t, .int .i64 k.s, .int .i64 k.c, .int .i64 k.w, .int .i64 k.g, .int .i64 k.p, .int .i64 k.r, .pointer (some ⟨m.b, 0, none⟩), .int .i64 wh] 47 ∧ Only [m.b, m.wb, m.hb, tb] w w') (by kernel_rfl) (by kernel_rfl) ?_ ?_
  focus (exact ⟨(hm.alloc _).drew, (hb.alloc _).drew, (Blk.new w _ 47).drew, ((Only.refl _ w).alloc _).drew⟩)
  repeat (first
    | go_big_quiet_skip
    | (go_big_quiet_want
       apply Exists.intro
       refine ⟨fun wq hq => ?_, ?_⟩
       focus
         (obtain ⟨hq1, hq2, hq3, hq4⟩ := hq; have hc2 := hq2.cell; have hc3 := hq3.cell)
         unfold Oper.quietAt
         go_simp
         (first
           | done
           | with_reducible exact rfl
           | with_reducible exact ⟨rfl, rfl⟩
           | ((go_at_call 50; refine (chunka_any _ k _).mono ?_; rintro e w' ⟨rfl, rfl⟩; exact ⟨rfl, hq1.alloc _, hq2.alloc _, hq3.alloc _, hq4.alloc _⟩)))
       (try simp only [Act.put, List.setIfInBounds_toArray, List.set_cons_zero, List.set_cons_succ])
       go_big_quiet_on))
  refine wpQuiet_nil ?_
  intro wq hq
  obtain ⟨hq1, hq2, hq3, hq4⟩ := hq
  have hqc := hq2.cell
  clear hc0
  go_wp2_with fail
  refine (chunk_word wd _ hU).mono ?_
  rintro e w2 ⟨rfl, ho2⟩
  have hM := (hq1.only ho2 (by simp) (by simp) (by simp)).alloc (.cells #[.int .i64 (chSt wd), .int .i64 (chCl wd), .int .i64 (chUs wd), .int .i64 (chSp wd)] 107)
  have hB := (hq2.only ho2 (by simp)).alloc (.cells #[.int .i64 (chSt wd), .int .i64 (chCl wd), .int .i64 (chUs wd), .int .i64 (chSp wd)] 107)
  have hX := (hq3.only ho2 (by simp)).alloc (.cells #[.int .i64 (chSt wd), .int .i64 (chCl wd), .int .i64 (chUs wd), .int .i64 (chSp wd)] 107)
  have hO := (hq4.trans' ho2 hsub0).alloc (.cells #[.int .i64 (chSt wd), .int .i64 (chCl wd), .int .i64 (chUs wd), .int .i64 (chSp wd)] 107)
  have hC := Blk.new w2 #[.int .i64 (chSt wd), .int .i64 (chCl wd), .int .i64 (chUs wd), .int .i64 (chSp wd)] 107
  have hcn : w2.heap.size ∉ [m.b, m.wb, m.hb] := by
    have := ho2.size
    have := hq4.size
    simp only [List.mem_cons, List.not_mem_nil, or_false, not_or]; omega
  have hct : w2.heap.size ≠ tb := by
    have := ho2.size
    have := hq4.size
    omega
  have htt : tb < w2.heap.size := by
    have := ho2.size
    have := hq4.size
    omega
  have hxt : w.heap.size < w2.heap.size := (hq3.only ho2 (by simp)).lt
  have hBw := hq2.only ho2 (by simp)
  have hMw := hq1.only ho2 (by simp) (by simp) (by simp)
  have hXw := hq3.only ho2 (by simp)
  have hOw := hq4.trans' ho2 hsub0
  have hfw := hBw.frozen
  have hbc2 := (hq2.only ho2 (by simp)).cell
  have hxc2 := (hq3.only ho2 (by simp)).cell
  clear hq1 hq2 hq3 hq4 hqc ho2 hb hm
  go_wp2_with fail
  refine (load_env k wh hM).mono ?_
  rintro e w3 ⟨rfl, hM3, ho3⟩
  have hB3 := hB.only ho3 hnt
  have hO3 := hO.trans' ho3 hsub
  have hc3 := hB3.cell
  have hf3 := hB3.frozen
  clear hM hB hX hO hC hbc2 hxc2
  go_wp2
  go_ret
  exact ⟨rfl, (hM3.other _ _ n1.symm n2.symm n3.symm).other _ _ n1.symm n2.symm n3.symm, (hB3.set 3 _ rfl).set 1 _ rfl, (hO3.setCell _ _ (by simp)).setCell _ _ (by simp)⟩

set_option maxRecDepth 100000 in
set_option maxHeartbeats 3200000 in
theorem settle4 (k : Cfg) (wh : Int) (p : SetS) (tb : Nat) (hm : MemR w m s) (hb : Blk w tb p.cs 148) (hU : U64 p.w) (hpc : p.pc = 4) (n1 : tb ≠ m.b) (n2 : tb ≠ m.wb) (n3 : tb ≠ m.hb) :
    Calls Try.prog 89 #[.pointer (some ⟨tb, 0, none⟩), .agg #[.int .i64 k.t, .int .i64 k.s, .int .i64 k.c, .int .i64 k.w, .int .i64 k.g, .int .i64 k.p, .int .i64 k.r, .pointer (some ⟨m.b, 0, none⟩), .int .i64 wh]] w fun e w' => e = .returned (.bool false) ∧ MemR w' m ((s.by wh).store (wrap64 (aChunk k p.ch + 1)) 0) ∧ Blk w' tb ({ p with pc := 5 } : SetS).cs 148 ∧ Only [m.b, m.wb, m.hb, tb] w w' := by
  obtain ⟨ch, pc, wd, sn, i, fr⟩ := p
  simp only at hpc
  subst hpc
  replace hb : Blk w tb #[.int .i64 ch, .int .i64 4, .int .u64 wd, .int .u64 sn, .int .i64 i, .bool fr] 148 := hb
  have ht := hb.lt
  have hnx : w.heap.size ∉ [m.b, m.wb, m.hb] := hm.notin (Nat.le_refl _)
  have hnt : tb ∉ [m.b, m.wb, m.hb] := by simp only [List.mem_cons, List.not_mem_nil, or_false, not_or]; exact ⟨n1, n2, n3⟩
  have hsub : ∀ x, x ∈ m.l → x < w.heap.size → x ∈ [m.b, m.wb, m.hb, tb] := by intro x hx _; simp only [List.mem_cons, List.not_mem_nil, or_false] at hx ⊢; omega
  have hsub0 : ∀ x, x ∈ ([] : List Nat) → x < w.heap.size → x ∈ [m.b, m.wb, m.hb, tb] := by intro x hx; cases hx
  have hmb := hm.lts
  obtain ⟨l1, l2, l3⟩ := hmb
  have hc0 := hb.cell
  go_enter Try.func89, Try.ntmps89
  go_wp2
  refine qc_enter (fun w' => MemR w' m s ∧ Blk w' tb #[.int .i64 ch, .int .i64 4, .int .u64 wd, .int .u64 sn, .int .i64 i, .bool fr] 148 ∧ Blk w' w.heap.size #[.int .i64 k.t, .int .i64 k.s, .int .i64 k.c, .int .i64 k.w, .int .i64 k.g, .int .i64 k.p, .int .i64 k.r, .pointer (some ⟨m.b, 0, none⟩), .int .i64 wh] 47 ∧ Only [m.b, m.wb, m.hb, tb] w w') (by kernel_rfl) (by kernel_rfl) ?_ ?_
  focus (exact ⟨(hm.alloc _).drew, (hb.alloc _).drew, (Blk.new w _ 47).drew, ((Only.refl _ w).alloc _).drew⟩)
  repeat (first
    | go_big_quiet_skip
    | (go_big_quiet_want
       apply Exists.intro
       refine ⟨fun wq hq => ?_, ?_⟩
       focus
         (obtain ⟨hq1, hq2, hq3, hq4⟩ := hq; have hc2 := hq2.cell; have hc3 := hq3.cell)
         unfold Oper.quietAt
         go_simp
         (first
           | done
           | with_reducible exact rfl
           | with_reducible exact ⟨rfl, rfl⟩
           | ((go_at_call 50; refine (chunka_any _ k _).mono ?_; rintro e w' ⟨rfl, rfl⟩; exact ⟨rfl, hq1.alloc _, hq2.alloc _, hq3.alloc _, hq4.alloc _⟩)))
       (try simp only [Act.put, List.setIfInBounds_toArray, List.set_cons_zero, List.set_cons_succ])
       go_big_quiet_on))
  refine wpQuiet_nil ?_
  intro wq hq
  obtain ⟨hq1, hq2, hq3, hq4⟩ := hq
  have hqc := hq2.cell
  clear hc0
  go_wp2_with fail
  refine (chunk_word wd _ hU).mono ?_
  rintro e w2 ⟨rfl, ho2⟩
  have hM := (hq1.only ho2 (by simp) (by simp) (by simp)).alloc (.cells #[.int .i64 (chSt wd), .int .i64 (chCl wd), .int .i64 (chUs wd), .int .i64 (chSp wd)] 107)
  have hB := (hq2.only ho2 (by simp)).alloc (.cells #[.int .i64 (chSt wd), .int .i64 (chCl wd), .int .i64 (chUs wd), .int .i64 (chSp wd)] 107)
  have hX := (hq3.only ho2 (by simp)).alloc (.cells #[.int .i64 (chSt wd), .int .i64 (chCl wd), .int .i64 (chUs wd), .int .i64 (chSp wd)] 107)
  have hO := (hq4.trans' ho2 hsub0).alloc (.cells #[.int .i64 (chSt wd), .int .i64 (chCl wd), .int .i64 (chUs wd), .int .i64 (chSp wd)] 107)
  have hC := Blk.new w2 #[.int .i64 (chSt wd), .int .i64 (chCl wd), .int .i64 (chUs wd), .int .i64 (chSp wd)] 107
  have hcn : w2.heap.size ∉ [m.b, m.wb, m.hb] := by
    have := ho2.size
    have := hq4.size
    simp only [List.mem_cons, List.not_mem_nil, or_false, not_or]; omega
  have hct : w2.heap.size ≠ tb := by
    have := ho2.size
    have := hq4.size
    omega
  have htt : tb < w2.heap.size := by
    have := ho2.size
    have := hq4.size
    omega
  have hxt : w.heap.size < w2.heap.size := (hq3.only ho2 (by simp)).lt
  have hBw := hq2.only ho2 (by simp)
  have hMw := hq1.only ho2 (by simp) (by simp) (by simp)
  have hXw := hq3.only ho2 (by simp)
  have hOw := hq4.trans' ho2 hsub0
  have hfw := hBw.frozen
  have hbc2 := (hq2.only ho2 (by simp)).cell
  have hxc2 := (hq3.only ho2 (by simp)).cell
  clear hq1 hq2 hq3 hq4 hqc ho2 hb hm
  go_wp2_with fail
  refine (store_env k wh hM ⟨by decide, by decide⟩).mono ?_
  rintro e w3 ⟨rfl, hM3, ho3⟩
  have hB3 := hB.only ho3 hnt
  have hO3 := hO.trans' ho3 hsub
  have hc3 := hB3.cell
  have hf3 := hB3.frozen
  clear hM hB hX hO hC hbc2 hxc2
  go_wp2
  go_ret
  exact ⟨rfl, hM3.other _ _ n1.symm n2.symm n3.symm, hB3.set 1 _ rfl, hO3.setCell _ _ (by simp)⟩

set_option maxRecDepth 100000 in
set_option maxHeartbeats 3200000 in
theorem settle2 (k : Cfg) (wh : Int) (p : SetS) (tb : Nat) (hm : MemR w m s) (hb : Blk w tb p.cs 148) (hU : U64 p.w) (hpc : p.pc = 2) (n1 : tb ≠ m.b) (n2 : tb ≠ m.wb) (n3 : tb ≠ m.hb) :
    Calls Try.prog 89 #[.pointer (some ⟨tb, 0, none⟩), .agg #[.int .i64 k.t, .int .i64 k.s, .int .i64 k.c, .int .i64 k.w, .int .i64 k.g, .int .i64 k.p, .int .i64 k.r, .pointer (some ⟨m.b, 0, none⟩), .int .i64 wh]] w fun e w' => e = .returned (.bool (decide (s.get 0 < IntKind.u64.wrap (p.sn + 2)))) ∧ MemR w' m ((s.by wh).load 0) ∧ Blk w' tb ({ p with pc := 3 } : SetS).cs 148 ∧ Only [m.b, m.wb, m.hb, tb] w w' := by
  obtain ⟨ch, pc, wd, sn, i, fr⟩ := p
  simp only at hpc
  subst hpc
  replace hb : Blk w tb #[.int .i64 ch, .int .i64 2, .int .u64 wd, .int .u64 sn, .int .i64 i, .bool fr] 148 := hb
  have ht := hb.lt
  have hnx : w.heap.size ∉ [m.b, m.wb, m.hb] := hm.notin (Nat.le_refl _)
  have hnt : tb ∉ [m.b, m.wb, m.hb] := by simp only [List.mem_cons, List.not_mem_nil, or_false, not_or]; exact ⟨n1, n2, n3⟩
  have hsub : ∀ x, x ∈ m.l → x < w.heap.size → x ∈ [m.b, m.wb, m.hb, tb] := by intro x hx _; simp only [List.mem_cons, List.not_mem_nil, or_false] at hx ⊢; omega
  have hsub0 : ∀ x, x ∈ ([] : List Nat) → x < w.heap.size → x ∈ [m.b, m.wb, m.hb, tb] := by intro x hx; cases hx
  have hmb := hm.lts
  obtain ⟨l1, l2, l3⟩ := hmb
  have hc0 := hb.cell
  go_enter Try.func89, Try.ntmps89
  go_wp2
  refine qc_enter (fun w' => MemR w' m s ∧ Blk w' tb #[.int .i64 ch, .int .i64 2, .int .u64 wd, .int .u64 sn, .int .i64 i, .bool fr] 148 ∧ Blk w' w.heap.size #[.int .i64 k.t, .int .i64 k.s, .int .i64 k.c, .int .i64 k.w, .int .i64 k.g, .int .i64 k.p, .int .i64 k.r, .pointer (some ⟨m.b, 0, none⟩), .int .i64 wh] 47 ∧ Only [m.b, m.wb, m.hb, tb] w w') (by kernel_rfl) (by kernel_rfl) ?_ ?_
  focus (exact ⟨(hm.alloc _).drew, (hb.alloc _).drew, (Blk.new w _ 47).drew, ((Only.refl _ w).alloc _).drew⟩)
  repeat (first
    | go_big_quiet_skip
    | (go_big_quiet_want
       apply Exists.intro
       refine ⟨fun wq hq => ?_, ?_⟩
       focus
         (obtain ⟨hq1, hq2, hq3, hq4⟩ := hq; have hc2 := hq2.cell; have hc3 := hq3.cell)
         unfold Oper.quietAt
         go_simp
         (first
           | done
           | with_reducible exact rfl
           | with_reducible exact ⟨rfl, rfl⟩
           | ((go_at_call 50; refine (chunka_any _ k _).mono ?_; rintro e w' ⟨rfl, rfl⟩; exact ⟨rfl, hq1.alloc _, hq2.alloc _, hq3.alloc _, hq4.alloc _⟩)))
       (try simp only [Act.put, List.setIfInBounds_toArray, List.set_cons_zero, List.set_cons_succ])
       go_big_quiet_on))
  refine wpQuiet_nil ?_
  intro wq hq
  obtain ⟨hq1, hq2, hq3, hq4⟩ := hq
  have hqc := hq2.cell
  clear hc0
  go_wp2_with fail
  refine (chunk_word wd _ hU).mono ?_
  rintro e w2 ⟨rfl, ho2⟩
  have hM := (hq1.only ho2 (by simp) (by simp) (by simp)).alloc (.cells #[.int .i64 (chSt wd), .int .i64 (chCl wd), .int .i64 (chUs wd), .int .i64 (chSp wd)] 107)
  have hB := (hq2.only ho2 (by simp)).alloc (.cells #[.int .i64 (chSt wd), .int .i64 (chCl wd), .int .i64 (chUs wd), .int .i64 (chSp wd)] 107)
  have hX := (hq3.only ho2 (by simp)).alloc (.cells #[.int .i64 (chSt wd), .int .i64 (chCl wd), .int .i64 (chUs wd), .int .i64 (chSp wd)] 107)
  have hO := (hq4.trans' ho2 hsub0).alloc (.cells #[.int .i64 (chSt wd), .int .i64 (chCl wd), .int .i64 (chUs wd), .int .i64 (chSp wd)] 107)
  have hC := Blk.new w2 #[.int .i64 (chSt wd), .int .i64 (chCl wd), .int .i64 (chUs wd), .int .i64 (chSp wd)] 107
  have hcn : w2.heap.size ∉ [m.b, m.wb, m.hb] := by
    have := ho2.size
    have := hq4.size
    simp only [List.mem_cons, List.not_mem_nil, or_false, not_or]; omega
  have hct : w2.heap.size ≠ tb := by
    have := ho2.size
    have := hq4.size
    omega
  have htt : tb < w2.heap.size := by
    have := ho2.size
    have := hq4.size
    omega
  have hxt : w.heap.size < w2.heap.size := (hq3.only ho2 (by simp)).lt
  have hBw := hq2.only ho2 (by simp)
  have hMw := hq1.only ho2 (by simp) (by simp) (by simp)
  have hXw := hq3.only ho2 (by simp)
  have hOw := hq4.trans' ho2 hsub0
  have hfw := hBw.frozen
  have hbc2 := (hq2.only ho2 (by simp)).cell
  have hxc2 := (hq3.only ho2 (by simp)).cell
  clear hq1 hq2 hq3 hq4 hqc ho2 hb hm
  have hB0 : Blk ((w2.setCell ⟨tb, 1, none⟩ (.int .i64 3)).alloc (.cells #[.int .i64 (chSt wd), .int .i64 (chCl wd), .int .i64 (chUs wd), .int .i64 (chSp wd)] 107)) tb #[.int .i64 ch, .int .i64 3, .int .u64 wd, .int .u64 sn, .int .i64 i, .bool fr] 148 := (hBw.set 1 (.int .i64 3) rfl).alloc (.cells #[.int .i64 (chSt wd), .int .i64 (chCl wd), .int .i64 (chUs wd), .int .i64 (chSp wd)] 107)
  have hM0 : MemR ((w2.setCell ⟨tb, 1, none⟩ (.int .i64 3)).alloc (.cells #[.int .i64 (chSt wd), .int .i64 (chCl wd), .int .i64 (chUs wd), .int .i64 (chSp wd)] 107)) m s := (hMw.other _ _ n1.symm n2.symm n3.symm).alloc _
  have hX0 : Blk ((w2.setCell ⟨tb, 1, none⟩ (.int .i64 3)).alloc (.cells #[.int .i64 (chSt wd), .int .i64 (chCl wd), .int .i64 (chUs wd), .int .i64 (chSp wd)] 107)) w.heap.size #[.int .i64 k.t, .int .i64 k.s, .int .i64 k.c, .int .i64 k.w, .int .i64 k.g, .int .i64 k.p, .int .i64 k.r, .pointer (some ⟨m.b, 0, none⟩), .int .i64 wh] 47 := (hXw.other _ _ (by simp only; omega)).alloc _
  have hO0 : Only [m.b, m.wb, m.hb, tb] w ((w2.setCell ⟨tb, 1, none⟩ (.int .i64 3)).alloc (.cells #[.int .i64 (chSt wd), .int .i64 (chCl wd), .int .i64 (chUs wd), .int .i64 (chSp wd)] 107)) := (hOw.setCell _ _ (by simp)).alloc _
  go_wp2
  clear hM hB hX hO hC hbc2 hxc2 hBw hMw hXw hOw hfw
  go_region_held3 (fun w' => (∀ o, w'.cell? ⟨w.heap.size, o, none⟩ = (#[.int .i64 k.t, .int .i64 k.s, .int .i64 k.c, .int .i64 k.w, .int .i64 k.g, .int .i64 k.p, .int .i64 k.r, .pointer (some ⟨m.b, 0, none⟩), .int .i64 wh] : Array Value)[o]?) ∧ (∀ o, w'.cell? ⟨tb, o, none⟩ = (#[.int .i64 ch, .int .i64 3, .int .u64 wd, .int .u64 sn, .int .i64 i, .bool fr] : Array Value)[o]?)) ((refine ⟨?_, ?_⟩; (focus (refine Blk.cell (T := 47) ?_; repeat (first | with_reducible assumption | with_reducible apply Blk.drew | with_reducible apply Blk.alloc | (with_reducible refine Blk.only ?_ (by with_reducible assumption) (by first | exact List.not_mem_nil | with_reducible assumption)) | (with_reducible refine Blk.other ?_ _ _ (by simp only; omega))))); (focus (refine Blk.cell (T := 148) (cs := #[.int .i64 ch, .int .i64 3, .int .u64 wd, .int .u64 sn, .int .i64 i, .bool fr]) ?_; repeat (first | with_reducible assumption | with_reducible apply Blk.drew | with_reducible apply Blk.alloc | (with_reducible refine Blk.only ?_ (by with_reducible assumption) (by first | exact List.not_mem_nil | with_reducible assumption)) | (with_reducible refine Blk.other ?_ _ _ (by simp only; omega)))))))
    (first
      | (go_at_call 45; with_reducible refine (epoch_any _).mono ?_; rintro e w' ⟨rfl, rfl⟩)
      | (go_at_call 69; with_reducible refine (load_env k wh hM0.drew).mono ?_; rintro e w6 ⟨rfl, hM6, ho6⟩; have hB6 : Blk w6 tb #[.int .i64 ch, .int .i64 3, .int .u64 wd, .int .u64 sn, .int .i64 i, .bool fr] 148 := hB0.drew.only ho6 hnt; have hX6 := hX0.drew.only ho6 hnx; have hO6 := hO0.drew.trans' ho6 hsub))
  all_goals
    go_wp2
    go_ret
    exact ⟨rfl, hM6, hB6, hO6⟩

set_option maxRecDepth 100000 in
set_option maxHeartbeats 3200000 in
theorem settle3 (b : Bool) (k : Cfg) (wh : Int) (p : SetS) (tb : Nat) (hm : MemR w m s) (hb : Blk w tb p.cs 148) (hU : U64 p.w) (hpc : p.pc = 3) (h0 : 0 ≤ p.i) (h1 : p.i < 1000) (hb2 : decide (chUs p.w ≤ p.i + 1) = b) (n1 : tb ≠ m.b) (n2 : tb ≠ m.wb) (n3 : tb ≠ m.hb) :
    Calls Try.prog 89 #[.pointer (some ⟨tb, 0, none⟩), .agg #[.int .i64 k.t, .int .i64 k.s, .int .i64 k.c, .int .i64 k.w, .int .i64 k.g, .int .i64 k.p, .int .i64 k.r, .pointer (some ⟨m.b, 0, none⟩), .int .i64 wh]] w fun e w' => e = .returned (.bool false) ∧ MemR w' m ((s.by wh).store (wrap64 (aBase k p.ch + p.i)) 0) ∧ Blk w' tb (if b = true then { p with pc := 4, i := p.i + 1 } else { p with i := p.i + 1 } : SetS).cs 148 ∧ Only [m.b, m.wb, m.hb, tb] w w' := by
  have hz0 : U64 0 := ⟨by decide, by decide⟩
  obtain ⟨ch, pc, wd, sn, i, fr⟩ := p
  simp only at hpc
  subst hpc
  replace hb : Blk w tb #[.int .i64 ch, .int .i64 3, .int .u64 wd, .int .u64 sn, .int .i64 i, .bool fr] 148 := hb
  have ht := hb.lt
  have hnx : w.heap.size ∉ [m.b, m.wb, m.hb] := hm.notin (Nat.le_refl _)
  have hnt : tb ∉ [m.b, m.wb, m.hb] := by simp only [List.mem_cons, List.not_mem_nil, or_false, not_or]; exact ⟨n1, n2, n3⟩
  have hsub : ∀ x, x ∈ m.l → x < w.heap.size → x ∈ [m.b, m.wb, m.hb, tb] := by intro x hx _; simp only [List.mem_cons, List.not_mem_nil, or_false] at hx ⊢; omega
  have hsub0 : ∀ x, x ∈ ([] : List Nat) → x < w.heap.size → x ∈ [m.b, m.wb, m.hb, tb] := by intro x hx; cases hx
  have hmb := hm.lts
  obtain ⟨l1, l2, l3⟩ := hmb
  have hc0 := hb.cell
  go_enter Try.func89, Try.ntmps89
  go_wp2
  refine qc_enter (fun w' => MemR w' m s ∧ Blk w' tb #[.int .i64 ch, .int .i64 3, .int .u64 wd, .int .u64 sn, .int .i64 i, .bool fr] 148 ∧ Blk w' w.heap.size #[.int .i64 k.t, .int .i64 k.s, .int .i64 k.c, .int .i64 k.w, .int .i64 k.g, .int .i64 k.p, .int .i64 k.r, .pointer (some ⟨m.b, 0, none⟩), .int .i64 wh] 47 ∧ Only [m.b, m.wb, m.hb, tb] w w') (by kernel_rfl) (by kernel_rfl) ?_ ?_
  focus (exact ⟨(hm.alloc _).drew, (hb.alloc _).drew, (Blk.new w _ 47).drew, ((Only.refl _ w).alloc _).drew⟩)
  repeat (first
    | go_big_quiet_skip
    | (go_big_quiet_want
       apply Exists.intro
       refine ⟨fun wq hq => ?_, ?_⟩
       focus
         (obtain ⟨hq1, hq2, hq3, hq4⟩ := hq; have hc2 := hq2.cell; have hc3 := hq3.cell)
         unfold Oper.quietAt
         go_simp
         (first
           | done
           | with_reducible exact rfl
           | with_reducible exact ⟨rfl, rfl⟩
           | ((go_at_call 50; refine (chunka_any _ k _).mono ?_; rintro e w' ⟨rfl, rfl⟩; exact ⟨rfl, hq1.alloc _, hq2.alloc _, hq3.alloc _, hq4.alloc _⟩)))
       (try simp only [Act.put, List.setIfInBounds_toArray, List.set_cons_zero, List.set_cons_succ])
       go_big_quiet_on))
  refine wpQuiet_nil ?_
  intro wq hq
  obtain ⟨hq1, hq2, hq3, hq4⟩ := hq
  have hqc := hq2.cell
  clear hc0
  go_wp2_with fail
  refine (chunk_word wd _ hU).mono ?_
  rintro e w2 ⟨rfl, ho2⟩
  have hM := (hq1.only ho2 (by simp) (by simp) (by simp)).alloc (.cells #[.int .i64 (chSt wd), .int .i64 (chCl wd), .int .i64 (chUs wd), .int .i64 (chSp wd)] 107)
  have hB := (hq2.only ho2 (by simp)).alloc (.cells #[.int .i64 (chSt wd), .int .i64 (chCl wd), .int .i64 (chUs wd), .int .i64 (chSp wd)] 107)
  have hX := (hq3.only ho2 (by simp)).alloc (.cells #[.int .i64 (chSt wd), .int .i64 (chCl wd), .int .i64 (chUs wd), .int .i64 (chSp wd)] 107)
  have hO := (hq4.trans' ho2 hsub0).alloc (.cells #[.int .i64 (chSt wd), .int .i64 (chCl wd), .int .i64 (chUs wd), .int .i64 (chSp wd)] 107)
  have hC := Blk.new w2 #[.int .i64 (chSt wd), .int .i64 (chCl wd), .int .i64 (chUs wd), .int .i64 (chSp wd)] 107
  have hcn : w2.heap.size ∉ [m.b, m.wb, m.hb] := by
    have := ho2.size
    have := hq4.size
    simp only [List.mem_cons, List.not_mem_nil, or_false, not_or]; omega
  have hct : w2.heap.size ≠ tb := by
    have := ho2.size
    have := hq4.size
    omega
  have htt : tb < w2.heap.size := by
    have := ho2.size
    have := hq4.size
    omega
  have hxt : w.heap.size < w2.heap.size := (hq3.only ho2 (by simp)).lt
  have hBw := hq2.only ho2 (by simp)
  have hMw := hq1.only ho2 (by simp) (by simp) (by simp)
  have hXw := hq3.only ho2 (by simp)
  have hOw := hq4.trans' ho2 hsub0
  have hfw := hBw.frozen
  have hbc2 := (hq2.only ho2 (by simp)).cell
  have hxc2 := (hq3.only ho2 (by simp)).cell
  clear hq1 hq2 hq3 hq4 hqc ho2 hb hm
  go_wp2
  clear hbc2 hxc2 hBw hMw hXw hOw hfw
  go_region_held3 (fun w' => (∀ o, w'.cell? ⟨w.heap.size, o, none⟩ = (#[.int .i64 k.t, .int .i64 k.s, .int .i64 k.c, .int .i64 k.w, .int .i64 k.g, .int .i64 k.p, .int .i64 k.r, .pointer (some ⟨m.b, 0, none⟩), .int .i64 wh] : Array Value)[o]?) ∧ (∀ o, w'.cell? ⟨tb, o, none⟩ = (#[.int .i64 ch, .int .i64 3, .int .u64 wd, .int .u64 sn, .int .i64 i, .bool fr] : Array Value)[o]?)) ((refine ⟨?_, ?_⟩; (focus (refine Blk.cell (T := 47) ?_; repeat (first | with_reducible assumption | with_reducible apply Blk.drew | with_reducible apply Blk.alloc | (with_reducible refine Blk.only ?_ (by with_reducible assumption) (by first | exact List.not_mem_nil | with_reducible assumption)) | (with_reducible refine Blk.other ?_ _ _ (by simp only; omega))))); (focus (refine Blk.cell (T := 148) (cs := #[.int .i64 ch, .int .i64 3, .int .u64 wd, .int .u64 sn, .int .i64 i, .bool fr]) ?_; repeat (first | with_reducible assumption | with_reducible apply Blk.drew | with_reducible apply Blk.alloc | (with_reducible refine Blk.only ?_ (by with_reducible assumption) (by first | exact List.not_mem_nil | with_reducible assumption)) | (with_reducible refine Blk.other ?_ _ _ (by simp only; omega)))))))
    (first
      | (go_at_call 51; with_reducible refine (base_any _ k _).mono ?_; rintro e w' ⟨rfl, rfl⟩)
      | (go_at_call 70; with_reducible refine (store_env k wh ((hM.alloc _).drew) hz0).mono ?_; rintro e w6 ⟨rfl, hM6, ho6⟩; have hB6 : Blk w6 tb #[.int .i64 ch, .int .i64 3, .int .u64 wd, .int .u64 sn, .int .i64 i, .bool fr] 148 := ((hB.alloc (.cells #[.int .i64 k.t, .int .i64 k.s, .int .i64 k.c, .int .i64 k.w, .int .i64 k.g, .int .i64 k.p, .int .i64 k.r] 23)).drew).only ho6 hnt; have hX6 := ((hX.alloc (.cells #[.int .i64 k.t, .int .i64 k.s, .int .i64 k.c, .int .i64 k.w, .int .i64 k.g, .int .i64 k.p, .int .i64 k.r] 23)).drew).only ho6 hnx; have hC6 := ((hC.alloc (.cells #[.int .i64 k.t, .int .i64 k.s, .int .i64 k.c, .int .i64 k.w, .int .i64 k.g, .int .i64 k.p, .int .i64 k.r] 23)).drew).only ho6 hcn; have hO6 := ((hO.alloc (.cells #[.int .i64 k.t, .int .i64 k.s, .int .i64 k.c, .int .i64 k.w, .int .i64 k.g, .int .i64 k.p, .int .i64 k.r] 23)).drew).trans' ho6 hsub))
  all_goals
    clear hM hB hX hO hC
    rw [IntWalk.i64_left] at hM6
    have hc6 := hB6.cell
    have hf6 := hB6.frozen
    have hB7 : Blk (w6.setCell ⟨tb, 4, none⟩ (.int .i64 (i + 1))) tb #[.int .i64 ch, .int .i64 3, .int .u64 wd, .int .u64 sn, .int .i64 (i + 1), .bool fr] 148 := hB6.set 4 _ rfl
    have hM7 : MemR (w6.setCell ⟨tb, 4, none⟩ (.int .i64 (i + 1))) m ((s.by wh).store (wrap64 (aBase k ch + i)) 0) := hM6.other _ _ n1.symm n2.symm n3.symm
    have hC7 : Blk (w6.setCell ⟨tb, 4, none⟩ (.int .i64 (i + 1))) w2.heap.size #[.int .i64 (chSt wd), .int .i64 (chCl wd), .int .i64 (chUs wd), .int .i64 (chSp wd)] 107 := hC6.other _ _ hct
    have hO7 : Only [m.b, m.wb, m.hb, tb] w (w6.setCell ⟨tb, 4, none⟩ (.int .i64 (i + 1))) := hO6.setCell _ _ (by simp)
    go_wp2
    refine qc_enter (fun w' => MemR w' m ((s.by wh).store (wrap64 (aBase k ch + i)) 0) ∧ Blk w' tb #[.int .i64 ch, .int .i64 3, .int .u64 wd, .int .u64 sn, .int .i64 (i + 1), .bool fr] 148 ∧ Blk w' w2.heap.size #[.int .i64 (chSt wd), .int .i64 (chCl wd), .int .i64 (chUs wd), .int .i64 (chSp wd)] 107 ∧ Only [m.b, m.wb, m.hb, tb] w w') (by kernel_rfl) (by kernel_rfl) ?_ ?_
    focus (exact ⟨hM7.drew, hB7.drew, hC7.drew, hO7.drew⟩)
    repeat (first
      | go_big_quiet_skip
      | (go_big_quiet_want
         apply Exists.intro
         refine ⟨fun wq hq => ?_, ?_⟩
         focus
           (obtain ⟨hq1, hq2, hq3, hq4⟩ := hq; have hc2 := hq2.cell; have hc3 := hq3.cell)
           unfold Oper.quietAt
           go_simp
           (first
             | done
             | with_reducible exact rfl
             | with_reducible exact ⟨rfl, rfl⟩
             | (fail))
         (try simp only [Act.put, List.setIfInBounds_toArray, List.set_cons_zero, List.set_cons_succ])
         go_big_quiet_on))
    refine wpQuiet_nil ?_
    intro wq hq
    obtain ⟨hq1, hq2, hq3, hq4⟩ := hq
    have hqc := hq2.cell
    have hqf := hq2.frozen
    cases b
    · have h2 : ¬ chUs wd ≤ i + 1 := by simpa using hb2
      have h3 : i + 1 < chUs wd := by omega
      clear hb2 h2
      go_wp2
      go_ret
      exact ⟨rfl, hq1, hq2, hq4⟩
    · have h2 : chUs wd ≤ i + 1 := by simpa using hb2
      clear hb2
      go_wp2
      go_ret
      exact ⟨rfl, hq1.other _ _ n1.symm n2.symm n3.symm, hq2.set 1 _ rfl, hq4.setCell _ _ (by simp)⟩

set_option maxRecDepth 100000 in
set_option maxHeartbeats 3200000 in
theorem settle5 (k : Cfg) (wh : Int) (p : SetS) (tb : Nat) (hm : MemR w m s) (hb : Blk w tb p.cs 148) (hU : U64 p.w) (hpc : p.pc = 5) (n1 : tb ≠ m.b) (n2 : tb ≠ m.wb) (n3 : tb ≠ m.hb) :
    Calls Try.prog 89 #[.pointer (some ⟨tb, 0, none⟩), .agg #[.int .i64 k.t, .int .i64 k.s, .int .i64 k.c, .int .i64 k.w, .int .i64 k.g, .int .i64 k.p, .int .i64 k.r, .pointer (some ⟨m.b, 0, none⟩), .int .i64 wh]] w fun e w' => e = .returned (.bool true) ∧ MemR w' m ((s.by wh).store (aChunk k p.ch) (putChunk 0 0 0 (chSp p.w + 1))) ∧ Blk w' tb ({ p with fr := true } : SetS).cs 148 ∧ Only [m.b, m.wb, m.hb, tb] w w' := by
  have hr := ch_rng p.w
  obtain ⟨_, _, _, _, _, _, hr1, hr2⟩ := hr
  obtain ⟨ch, pc, wd, sn, i, fr⟩ := p
  simp only at hpc
  subst hpc
  replace hb : Blk w tb #[.int .i64 ch, .int .i64 5, .int .u64 wd, .int .u64 sn, .int .i64 i, .bool fr] 148 := hb
  have ht := hb.lt
  have hnx : w.heap.size ∉ [m.b, m.wb, m.hb] := hm.notin (Nat.le_refl _)
  have hnt : tb ∉ [m.b, m.wb, m.hb] := by simp only [List.mem_cons, List.not_mem_nil, or_false, not_or]; exact ⟨n1, n2, n3⟩
  have hsub : ∀ x, x ∈ m.l → x < w.heap.size → x ∈ [m.b, m.wb, m.hb, tb] := by intro x hx _; simp only [List.mem_cons, List.not_mem_nil, or_false] at hx ⊢; omega
  have hsub0 : ∀ x, x ∈ ([] : List Nat) → x < w.heap.size → x ∈ [m.b, m.wb, m.hb, tb] := by intro x hx; cases hx
  have hmb := hm.lts
  obtain ⟨l1, l2, l3⟩ := hmb
  have hc0 := hb.cell
  go_enter Try.func89, Try.ntmps89
  go_wp2
  refine qc_enter (fun w' => MemR w' m s ∧ Blk w' tb #[.int .i64 ch, .int .i64 5, .int .u64 wd, .int .u64 sn, .int .i64 i, .bool fr] 148 ∧ Blk w' w.heap.size #[.int .i64 k.t, .int .i64 k.s, .int .i64 k.c, .int .i64 k.w, .int .i64 k.g, .int .i64 k.p, .int .i64 k.r, .pointer (some ⟨m.b, 0, none⟩), .int .i64 wh] 47 ∧ Only [m.b, m.wb, m.hb, tb] w w') (by kernel_rfl) (by kernel_rfl) ?_ ?_
  focus (exact ⟨(hm.alloc _).drew, (hb.alloc _).drew, (Blk.new w _ 47).drew, ((Only.refl _ w).alloc _).drew⟩)
  repeat (first
    | go_big_quiet_skip
    | (go_big_quiet_want
       apply Exists.intro
       refine ⟨fun wq hq => ?_, ?_⟩
       focus
         (obtain ⟨hq1, hq2, hq3, hq4⟩ := hq; have hc2 := hq2.cell; have hc3 := hq3.cell)
         unfold Oper.quietAt
         go_simp
         (first
           | done
           | with_reducible exact rfl
           | with_reducible exact ⟨rfl, rfl⟩
           | ((go_at_call 50; refine (chunka_any _ k _).mono ?_; rintro e w' ⟨rfl, rfl⟩; exact ⟨rfl, hq1.alloc _, hq2.alloc _, hq3.alloc _, hq4.alloc _⟩)))
       (try simp only [Act.put, List.setIfInBounds_toArray, List.set_cons_zero, List.set_cons_succ])
       go_big_quiet_on))
  refine wpQuiet_nil ?_
  intro wq hq
  obtain ⟨hq1, hq2, hq3, hq4⟩ := hq
  have hqc := hq2.cell
  clear hc0
  go_wp2_with fail
  refine (chunk_word wd _ hU).mono ?_
  rintro e w2 ⟨rfl, ho2⟩
  have hM := (hq1.only ho2 (by simp) (by simp) (by simp)).alloc (.cells #[.int .i64 (chSt wd), .int .i64 (chCl wd), .int .i64 (chUs wd), .int .i64 (chSp wd)] 107)
  have hB := (hq2.only ho2 (by simp)).alloc (.cells #[.int .i64 (chSt wd), .int .i64 (chCl wd), .int .i64 (chUs wd), .int .i64 (chSp wd)] 107)
  have hX := (hq3.only ho2 (by simp)).alloc (.cells #[.int .i64 (chSt wd), .int .i64 (chCl wd), .int .i64 (chUs wd), .int .i64 (chSp wd)] 107)
  have hO := (hq4.trans' ho2 hsub0).alloc (.cells #[.int .i64 (chSt wd), .int .i64 (chCl wd), .int .i64 (chUs wd), .int .i64 (chSp wd)] 107)
  have hC := Blk.new w2 #[.int .i64 (chSt wd), .int .i64 (chCl wd), .int .i64 (chUs wd), .int .i64 (chSp wd)] 107
  have hcn : w2.heap.size ∉ [m.b, m.wb, m.hb] := by
    have := ho2.size
    have := hq4.size
    simp only [List.mem_cons, List.not_mem_nil, or_false, not_or]; omega
  have hct : w2.heap.size ≠ tb := by
    have := ho2.size
    have := hq4.size
    omega
  have htt : tb < w2.heap.size := by
    have := ho2.size
    have := hq4.size
    omega
  have hxt : w.heap.size < w2.heap.size := (hq3.only ho2 (by simp)).lt
  have hBw := hq2.only ho2 (by simp)
  have hMw := hq1.only ho2 (by simp) (by simp) (by simp)
  have hXw := hq3.only ho2 (by simp)
  have hOw := hq4.trans' ho2 hsub0
  have hfw := hBw.frozen
  have hbc2 := (hq2.only ho2 (by simp)).cell
  have hxc2 := (hq3.only ho2 (by simp)).cell
  clear hq1 hq2 hq3 hq4 hqc ho2 hb hm
  have hw : IntKind.i64.wrap (chSp wd + 1) = chSp wd + 1 := by rw [IntWalk.i64_left]; unfold wrap64; omega
  have HW := Lib.hid hw
  clear hw
  go_wp2
  clear hbc2 hxc2 hBw hMw hXw hOw hfw
  go_region_held3 (fun w' => (∀ o, w'.cell? ⟨w.heap.size, o, none⟩ = (#[.int .i64 k.t, .int .i64 k.s, .int .i64 k.c, .int .i64 k.w, .int .i64 k.g, .int .i64 k.p, .int .i64 k.r, .pointer (some ⟨m.b, 0, none⟩), .int .i64 wh] : Array Value)[o]?) ∧ (∀ o, w'.cell? ⟨w2.heap.size, o, none⟩ = (#[.int .i64 (chSt wd), .int .i64 (chCl wd), .int .i64 (chUs wd), .int .i64 (chSp wd)] : Array Value)[o]?)) ((refine ⟨?_, ?_⟩; (focus (refine Blk.cell (T := 47) ?_; repeat (first | with_reducible assumption | with_reducible apply Blk.drew | with_reducible apply Blk.alloc | (with_reducible refine Blk.only ?_ (by with_reducible assumption) (by first | exact List.not_mem_nil | with_reducible assumption)) | (with_reducible refine Blk.other ?_ _ _ (by simp only; omega))))); (focus (refine Blk.cell (T := 107) (cs := #[.int .i64 (chSt wd), .int .i64 (chCl wd), .int .i64 (chUs wd), .int .i64 (chSp wd)]) ?_; repeat (first | with_reducible assumption | with_reducible apply Blk.drew | with_reducible apply Blk.alloc | (with_reducible refine Blk.only ?_ (by with_reducible assumption) (by first | exact List.not_mem_nil | with_reducible assumption)) | (with_reducible refine Blk.other ?_ _ _ (by simp only; omega)))))))
    (first
      | (go_at_call 87; with_reducible refine (putchunk_any _ _ _ _ _).mono ?_; rintro e w5 ⟨rfl, ho5⟩)
      | (go_at_call 70; with_reducible refine (store_env k wh (hM.drew.only ho5 List.not_mem_nil List.not_mem_nil List.not_mem_nil) (putChunk_rng _ _ _ _)).mono ?_; rintro e w6 ⟨rfl, hM6, ho6⟩; have hB6 : Blk w6 tb #[.int .i64 ch, .int .i64 5, .int .u64 wd, .int .u64 sn, .int .i64 i, .bool fr] 148 := (hB.drew.only ho5 List.not_mem_nil).only ho6 hnt; have hX6 := (hX.drew.only ho5 List.not_mem_nil).only ho6 hnx; have hC6 := (hC.drew.only ho5 List.not_mem_nil).only ho6 hcn; have hO6 := (hO.drew.trans' ho5 hsub0).trans' ho6 hsub))
  all_goals
    clear hM hB hX hO hC
    have hc6 := hB6.cell
    have hf6 := hB6.frozen
    rw [HW.out] at hM6
    go_wp2
    go_ret
    exact ⟨rfl, hM6.other _ _ n1.symm n2.symm n3.symm, hB6.set 5 _ rfl, hO6.setCell _ _ (by simp)⟩
end
end Go.Proofs.Yteoimmjgnflmmaa
