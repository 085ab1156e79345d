/-
  What a thread does, step by step, that wants words of a class.
-/
import Derived.Test.YteoimmjgnflmmaaQc
namespace Go.Proofs.Yteoimmjgnflmmaa
open Go.RowKit Go.BigFrame

structure PlS where
  cl : Int
  pc : Int
  op : Int
  i : Int
  w : Int
  sa : Int
  sc : Int
  ok : Bool
def PlS.cs (p : PlS) : Array Value := #[.int .i64 p.cl, .int .i64 p.pc, .int .u64 p.op, .int .i64 p.i, .int .u64 p.w, .int .i64 p.sa, .int .i64 p.sc, .bool p.ok]

theorem ch_rng (x : Int) : 0 ≤ chSt x ∧ chSt x < 4 ∧ 0 ≤ chCl x ∧ chCl x < 64 ∧ 0 ≤ chUs x ∧ chUs x < 1048576 ∧ 0 ≤ chSp x ∧ chSp x < 68719476736 := by
  unfold chSt chCl chUs chSp; omega
theorem field107 : ∀ (a b c d : Int) (w : World), (Instr.field 107 (.agg #[.int .i64 a, .int .i64 b, .int .i64 c, .int .i64 d]) 0).run Try.prog w = .ok (.int .i64 a) w := fun _ _ _ _ _ => by kernel_rfl
theorem field107s : ∀ (a b c d : Int) (w : World), (Instr.field 107 (.agg #[.int .i64 a, .int .i64 b, .int .i64 c, .int .i64 d]) 3).run Try.prog w = .ok (.int .i64 d) w := fun _ _ _ _ _ => by kernel_rfl

/-- A free chunk's word as an open one of the class. -/
def plFresh (p : PlS) : Int := putChunk 1 p.cl 0 (chSp p.w + 1)

section
variable {w : World} {m : MB} {s : MS}

theorem plnew_any (g : Int) (w : World) : Calls Try.prog 84 #[.int .i64 g] w fun e w' => e = .returned (.pointer (some ⟨w.heap.size, 0, none⟩)) ∧ w' = w.alloc (.cells (⟨g, 0, 0, 0, 0, 0, 0, false⟩ : PlS).cs 145) := by
  go_enter Try.func84, Try.ntmps84
  go_wp2
  go_ret
  exact ⟨rfl, rfl⟩

set_option maxRecDepth 100000 in
set_option maxHeartbeats 800000 in
theorem plfresh_any (p : PlS) (tb : Nat) (hb : Blk w tb p.cs 145) (hU : U64 p.w) : Calls Try.prog 108 #[.pointer (some ⟨tb, 0, none⟩)] w fun e w' => e = .returned (.int .u64 (plFresh p)) ∧ Only [] w w' := by
  obtain ⟨cl, pc, op, ai, wd, sa, sc, ok⟩ := p
  have hr := ch_rng wd
  obtain ⟨_, _, _, _, _, _, hr1, hr2⟩ := hr
  have hfd := field107s
  replace hb : Blk w tb #[.int .i64 cl, .int .i64 pc, .int .u64 op, .int .i64 ai, .int .u64 wd, .int .i64 sa, .int .i64 sc, .bool ok] 145 := hb
  have hbd := hb.drew
  go_enter Try.func108, Try.ntmps108
  go_wp2
  refine qc_enter (fun w' => Blk w' tb #[.int .i64 cl, .int .i64 pc, .int .u64 op, .int .i64 ai, .int .u64 wd, .int .i64 sa, .int .i64 sc, .bool ok] 145 ∧ Only [] w w') (by kernel_rfl) (by kernel_rfl) ?_ ?_
  focus (exact ⟨hbd, (Only.refl _ w).drew⟩)
  repeat (first
    | go_big_quiet_skip
    | (go_big_quiet_want
       apply Exists.intro
       refine ⟨fun wq hq => ?_, ?_⟩
       focus
         (obtain ⟨hq1, hq2⟩ := hq; have hc := hq1.cell)
         unfold Oper.quietAt
         go_simp
         (first
           | done
           | with_reducible exact rfl
           | with_reducible exact ⟨rfl, rfl⟩
           | (first | (go_at_call 83; refine (chunk_word wd _ hU).mono ?_; rintro e w' ⟨rfl, ho⟩; exact ⟨rfl, hq1.only ho (by simp), hq2.trans' ho (fun _ h _ => h)⟩) | (go_at_call 87; refine (putchunk_any _ _ _ _ _).mono ?_; rintro e w' ⟨rfl, ho⟩; exact ⟨rfl, hq1.only ho (by simp), hq2.trans' ho (fun _ h _ => h)⟩)))
       (try simp only [Act.put, List.setIfInBounds_toArray, List.set_cons_zero, List.set_cons_succ])
       go_big_quiet_on))
  refine wpQuiet_nil ?_
  intro wq hq
  obtain ⟨hq1, hq2⟩ := hq
  go_wp2
  go_ret
  have hw : IntKind.i64.wrap (chSp wd + 1) = chSp wd + 1 := by rw [IntWalk.i64_left]; unfold wrap64; omega
  exact ⟨by show Ending.returned (.int .u64 (putChunk 1 cl 0 (IntKind.i64.wrap (chSp wd + 1)))) = _; rw [hw]; rfl, hq2⟩

set_option maxRecDepth 100000 in
set_option maxHeartbeats 800000 in
theorem plon_any (k : Cfg) (wh : Int) (p : PlS) (tb : Nat) (hb : Blk w tb p.cs 145) (h0 : 0 ≤ p.i) (h1 : p.i < 1000) : Calls Try.prog 107 #[.pointer (some ⟨tb, 0, none⟩), .agg #[.int .i64 k.t, .int .i64 k.s, .int .i64 k.c, .int .i64 k.w, .int .i64 k.g, .int .i64 k.p, .int .i64 k.r, .pointer (some ⟨m.b, 0, none⟩), .int .i64 wh]] w fun e w' => e = .returned (.bool (decide (k.c ≤ p.i + 1))) ∧ Blk w' tb { p with i := p.i + 1, pc := 3 }.cs 145 ∧ Only [tb] w w' := by
  obtain ⟨cl, pc, op, ai, wd, sa, sc, ok⟩ := p
  simp only at h0 h1
  replace hb : Blk w tb #[.int .i64 cl, .int .i64 pc, .int .u64 op, .int .i64 ai, .int .u64 wd, .int .i64 sa, .int .i64 sc, .bool ok] 145 := hb
  have hc := hb.cell
  have hf := hb.frozen
  have ht := hb.lt
  go_enter Try.func107, Try.ntmps107
  go_wp2
  have hp1 : Blk ((w.setCell ⟨tb, 3, none⟩ (.int .i64 (ai + 1))).setCell ⟨tb, 1, none⟩ (.int .i64 3)) tb #[.int .i64 cl, .int .i64 3, .int .u64 op, .int .i64 (ai + 1), .int .u64 wd, .int .i64 sa, .int .i64 sc, .bool ok] 145 := (hb.set 3 _ rfl).set 1 _ rfl
  have ho1 : Only [tb] w ((w.setCell ⟨tb, 3, none⟩ (.int .i64 (ai + 1))).setCell ⟨tb, 1, none⟩ (.int .i64 3)) := ((Only.refl _ w).setCell _ _ (by simp)).setCell _ _ (by simp)
  refine qc_enter (fun w' => Blk w' tb #[.int .i64 cl, .int .i64 3, .int .u64 op, .int .i64 (ai + 1), .int .u64 wd, .int .i64 sa, .int .i64 sc, .bool ok] 145 ∧ Blk w' w.heap.size #[.int .i64 k.t, .int .i64 k.s, .int .i64 k.c, .int .i64 k.w, .int .i64 k.g, .int .i64 k.p, .int .i64 k.r, .pointer (some ⟨m.b, 0, none⟩), .int .i64 wh] 47 ∧ Only [tb] w w') (by kernel_rfl) (by kernel_rfl) ?_ ?_
  focus (exact ⟨(hp1.alloc _).drew, (Blk.new' (by simp) rfl : Blk _ _ _ 47).drew, (ho1.alloc _).drew⟩)
  repeat (first
    | go_big_quiet_skip
    | (go_big_quiet_want
       apply Exists.intro
       refine ⟨fun wq hq => ?_, ?_⟩
       focus
         (obtain ⟨hq1, hq2, hq3⟩ := hq; have hc := hq1.cell; have hc2 := hq2.cell)
         unfold Oper.quietAt
         go_simp
         (first
           | done
           | with_reducible exact rfl
           | with_reducible exact ⟨rfl, rfl⟩
           | (fail))
       (try simp only [Act.put, List.setIfInBounds_toArray, List.set_cons_zero, List.set_cons_succ])
       go_big_quiet_on))
  refine wpQuiet_nil ?_
  intro wq hq
  obtain ⟨hq1, hq2, hq3⟩ := hq
  go_wp2
  go_ret
  exact ⟨rfl, hq1, hq3⟩

set_option maxRecDepth 100000 in
set_option maxHeartbeats 1600000 in
theorem place_look (b : Bool) (k : Cfg) (wh : Int) (p : PlS) (tb : Nat) (hm : MemR w m s) (hb : Blk w tb p.cs 145) (hpc : p.pc = 0) (ho : s.get (aOpen p.cl) ≤ 1000) (hb2 : decide (s.get (aOpen p.cl) - 1 < 0) = b) (n1 : tb ≠ m.b) (n2 : tb ≠ m.wb) (n3 : tb ≠ m.hb) :
    Calls Try.prog 85 #[.pointer (some ⟨tb, 0, none⟩), .agg #[.int .i64 k.t, .int .i64 k.s, .int .i64 k.c, .int .i64 k.w, .int .i64 k.g, .int .i64 k.p, .int .i64 k.r, .pointer (some ⟨m.b, 0, none⟩), .int .i64 wh]] w fun e w' =>
      e = .returned (.bool false) ∧ MemR w' m ((s.by wh).load (aOpen p.cl)) ∧ Blk w' tb (if b = true then { p with pc := 3, op := s.get (aOpen p.cl), i := 0 } else { p with pc := 1, op := s.get (aOpen p.cl), i := s.get (aOpen p.cl) - 1 } : PlS).cs 145 ∧ Only [m.b, m.wb, m.hb, tb] w w' := by
  have hU := hm.get_rng (aOpen p.cl)
  obtain ⟨hU0, hU1⟩ := hU
  obtain ⟨cl, pc, op, ai, wd, sa, sc, ok⟩ := p
  simp only at hpc
  subst hpc
  replace hb : Blk w tb #[.int .i64 cl, .int .i64 0, .int .u64 op, .int .i64 ai, .int .u64 wd, .int .i64 sa, .int .i64 sc, .bool ok] 145 := hb
  have ht := hb.lt
  have hnx : w.heap.size ∉ [m.b, m.wb, m.hb] := hm.notin (Nat.le_refl _)
  have hnt : tb ∉ [m.b, m.wb, m.hb] := by simp only [List.mem_cons, List.not_mem_nil, or_false, not_or]; exact ⟨n1, n2, n3⟩
  have hc0 := hb.cell
  have hf0 := hb.frozen
  go_enter Try.func85, Try.ntmps85
  go_wp2
  have hX0 : Blk (w.alloc (.cells #[.int .i64 k.t, .int .i64 k.s, .int .i64 k.c, .int .i64 k.w, .int .i64 k.g, .int .i64 k.p, .int .i64 k.r, .pointer (some ⟨m.b, 0, none⟩), .int .i64 wh] 47)) w.heap.size #[.int .i64 k.t, .int .i64 k.s, .int .i64 k.c, .int .i64 k.w, .int .i64 k.g, .int .i64 k.p, .int .i64 k.r, .pointer (some ⟨m.b, 0, none⟩), .int .i64 wh] 47 := Blk.new w _ 47
  have hB0 := hb.alloc (.cells #[.int .i64 k.t, .int .i64 k.s, .int .i64 k.c, .int .i64 k.w, .int .i64 k.g, .int .i64 k.p, .int .i64 k.r, .pointer (some ⟨m.b, 0, none⟩), .int .i64 wh] 47)
  have hM0 := hm.alloc (.cells #[.int .i64 k.t, .int .i64 k.s, .int .i64 k.c, .int .i64 k.w, .int .i64 k.g, .int .i64 k.p, .int .i64 k.r, .pointer (some ⟨m.b, 0, none⟩), .int .i64 wh] 47)
  have hX := hX0.drew
  have hB := hB0.drew
  have hM := hM0.drew
  have h3 : ∀ w', Blk w' tb #[.int .i64 cl, .int .i64 0, .int .u64 op, .int .i64 ai, .int .u64 wd, .int .i64 sa, .int .i64 sc, .bool ok] 145 → w'.cell? ⟨tb, 0, none⟩ = some (.int .i64 cl) := fun w' h => h.cell 0
  have h3s : ∀ w' v, Blk w' tb #[.int .i64 cl, .int .i64 0, .int .u64 op, .int .i64 ai, .int .u64 wd, .int .i64 sa, .int .i64 sc, .bool ok] 145 → (w'.setCell ⟨tb, 2, none⟩ v).cell? ⟨tb, 0, none⟩ = some (.int .i64 cl) := fun w' v h => (h.set 2 v rfl).cell 0
  go_region_held3 (fun w' => (∀ o, w'.cell? ⟨w.heap.size, o, none⟩ = (#[.int .i64 k.t, .int .i64 k.s, .int .i64 k.c, .int .i64 k.w, .int .i64 k.g, .int .i64 k.p, .int .i64 k.r, .pointer (some ⟨m.b, 0, none⟩), .int .i64 wh] : Array Value)[o]?) ∧ w'.cell? ⟨tb, 0, none⟩ = some (.int .i64 cl)) ((refine ⟨?_, ?_⟩; (focus (refine Blk.cell (T := 47) ?_; repeat (first | with_reducible assumption | with_reducible apply Blk.drew | with_reducible apply Blk.alloc | (with_reducible refine Blk.only ?_ (by with_reducible assumption) (by first | exact List.not_mem_nil | with_reducible assumption)) | (with_reducible refine Blk.other ?_ _ _ (by simp only; omega))))); (focus (first | (with_reducible refine h3 _ ?_; (repeat (first | with_reducible assumption | with_reducible apply Blk.drew | with_reducible apply Blk.alloc | (with_reducible refine Blk.only ?_ (by with_reducible assumption) (by first | exact List.not_mem_nil | with_reducible assumption)) | (with_reducible refine Blk.other ?_ _ _ (by simp only; omega)))); done) | (with_reducible refine h3s _ _ ?_; (repeat (first | with_reducible assumption | with_reducible apply Blk.drew | with_reducible apply Blk.alloc | (with_reducible refine Blk.only ?_ (by with_reducible assumption) (by first | exact List.not_mem_nil | with_reducible assumption)) | (with_reducible refine Blk.other ?_ _ _ (by simp only; omega)))); done)))))
    (first
      | (go_at_call 47; with_reducible refine (open_any _ _).mono ?_; rintro e w' ⟨rfl, rfl⟩)
      | (go_at_call 69; with_reducible refine (load_env k wh hM).mono ?_; rintro e w1 ⟨rfl, hm1, ho1⟩; have hB1 := hB.only ho1 hnt; have f1 := hB1.frozen; have c1 := hB1.cell; have hX1 := hX.only ho1 hnx; have hX1c := hX1.cell))
  all_goals
    have hO1 : Only [m.b, m.wb, m.hb, tb] w w1 := by
      repeat (first | with_reducible exact Only.refl _ _ | with_reducible assumption | with_reducible apply Only.drew | with_reducible apply Only.drewN | with_reducible apply Only.alloc | (with_reducible refine Only.setCell ?_ _ _ (by simp)) | (with_reducible refine Only.trans' ?_ (by with_reducible assumption) (by intro x hx _; simp only [List.mem_cons, List.not_mem_nil, or_false] at hx ⊢; omega)))
    generalize hov : s.get (aOpen cl) = ov at *
    cases b
    · have hge : ¬ ov - 1 < 0 := by simpa using hb2
      have hge2 : 0 ≤ ov - 1 := by omega
      clear hb2 hge
      go_wp2
      go_ret
      refine ⟨rfl, ?_, ?_, ?_⟩
      · repeat (first | with_reducible assumption | with_reducible apply MemR.drew | with_reducible apply MemR.alloc | (with_reducible refine MemR.only ?_ (by with_reducible assumption) List.not_mem_nil List.not_mem_nil List.not_mem_nil) | (with_reducible refine MemR.other ?_ _ _ (by simp only; omega) (by simp only; omega) (by simp only; omega)))
      · exact ((hB1.set 2 _ rfl).set 3 _ rfl).set 1 _ rfl
      · repeat (first | with_reducible exact Only.refl _ _ | with_reducible assumption | with_reducible apply Only.drew | with_reducible apply Only.drewN | with_reducible apply Only.alloc | (with_reducible refine Only.setCell ?_ _ _ (by simp)) | (with_reducible refine Only.trans' ?_ (by with_reducible assumption) (by intro x hx _; simp only [List.mem_cons, List.not_mem_nil, or_false] at hx ⊢; omega)))
    · have hge2 : ov - 1 < 0 := by simpa using hb2
      clear hb2
      go_wp2
      go_ret
      refine ⟨rfl, ?_, ?_, ?_⟩
      · repeat (first | with_reducible assumption | with_reducible apply MemR.drew | with_reducible apply MemR.alloc | (with_reducible refine MemR.only ?_ (by with_reducible assumption) List.not_mem_nil List.not_mem_nil List.not_mem_nil) | (with_reducible refine MemR.other ?_ _ _ (by simp only; omega) (by simp only; omega) (by simp only; omega)))
      · exact ((((hB1.set 2 _ rfl).set 3 _ rfl).set 1 _ rfl).set 3 _ rfl).set 1 _ rfl
      · repeat (first | with_reducible exact Only.refl _ _ | with_reducible assumption | with_reducible apply Only.drew | with_reducible apply Only.drewN | with_reducible apply Only.alloc | (with_reducible refine Only.setCell ?_ _ _ (by simp)) | (with_reducible refine Only.trans' ?_ (by with_reducible assumption) (by intro x hx _; simp only [List.mem_cons, List.not_mem_nil, or_false] at hx ⊢; omega)))

theorem room_rng {c : Int} (h : c = 0 ∨ c = 1 ∨ c = 2 ∨ c = 3) : 3 ≤ room c ∧ room c ≤ 17 := by
  rcases h with rfl | rfl | rfl | rfl <;> decide

set_option maxRecDepth 100000 in
set_option maxHeartbeats 3200000 in
theorem place_see (b : Bool) (k : Cfg) (wh : Int) (p : PlS) (tb : Nat) (hm : MemR w m s) (hb : Blk w tb p.cs 145) (hpc : p.pc = 1) (hcl : p.cl = 0 ∨ p.cl = 1 ∨ p.cl = 2 ∨ p.cl = 3) (hb2 : decide (chSt (s.get (aChunk k p.i)) = 1 ∧ chCl (s.get (aChunk k p.i)) = p.cl ∧ chUs (s.get (aChunk k p.i)) + room p.cl ≤ k.w) = b) (n1 : tb ≠ m.b) (n2 : tb ≠ m.wb) (n3 : tb ≠ m.hb) :
    Calls Try.prog 85 #[.pointer (some ⟨tb, 0, none⟩), .agg #[.int .i64 k.t, .int .i64 k.s, .int .i64 k.c, .int .i64 k.w, .int .i64 k.g, .int .i64 k.p, .int .i64 k.r, .pointer (some ⟨m.b, 0, none⟩), .int .i64 wh]] w fun e w' =>
      e = .returned (.bool false) ∧ MemR w' m ((s.by wh).load (aChunk k p.i)) ∧ Blk w' tb (if b = true then { p with pc := 2, w := s.get (aChunk k p.i) } else { p with pc := 3, w := s.get (aChunk k p.i), i := 0 } : PlS).cs 145 ∧ Only [m.b, m.wb, m.hb, tb] w w' := by
  have hU := hm.get_rng (aChunk k p.i)
  have hrm := room_rng hcl
  have hcl5 : p.cl = 0 ∨ p.cl = 1 ∨ p.cl = 2 ∨ p.cl = 3 ∨ p.cl = -1 := by omega
  have HCL := Lib.hid hcl
  clear hcl
  obtain ⟨cl, pc, op, ai, wd, sa, sc, ok⟩ := p
  simp only at hpc
  subst hpc
  replace hb : Blk w tb #[.int .i64 cl, .int .i64 1, .int .u64 op, .int .i64 ai, .int .u64 wd, .int .i64 sa, .int .i64 sc, .bool ok] 145 := hb
  have ht := hb.lt
  have hnx : w.heap.size ∉ [m.b, m.wb, m.hb] := hm.notin (Nat.le_refl _)
  have hnt : tb ∉ [m.b, m.wb, m.hb] := by simp only [List.mem_cons, List.not_mem_nil, or_false, not_or]; exact ⟨n1, n2, n3⟩
  have hc0 := hb.cell
  have hf0 := hb.frozen
  go_enter Try.func85, Try.ntmps85
  go_wp2
  have hX0 : Blk (w.alloc (.cells #[.int .i64 k.t, .int .i64 k.s, .int .i64 k.c, .int .i64 k.w, .int .i64 k.g, .int .i64 k.p, .int .i64 k.r, .pointer (some ⟨m.b, 0, none⟩), .int .i64 wh] 47)) w.heap.size #[.int .i64 k.t, .int .i64 k.s, .int .i64 k.c, .int .i64 k.w, .int .i64 k.g, .int .i64 k.p, .int .i64 k.r, .pointer (some ⟨m.b, 0, none⟩), .int .i64 wh] 47 := Blk.new w _ 47
  have hB0 := hb.alloc (.cells #[.int .i64 k.t, .int .i64 k.s, .int .i64 k.c, .int .i64 k.w, .int .i64 k.g, .int .i64 k.p, .int .i64 k.r, .pointer (some ⟨m.b, 0, none⟩), .int .i64 wh] 47)
  have hM0 := hm.alloc (.cells #[.int .i64 k.t, .int .i64 k.s, .int .i64 k.c, .int .i64 k.w, .int .i64 k.g, .int .i64 k.p, .int .i64 k.r, .pointer (some ⟨m.b, 0, none⟩), .int .i64 wh] 47)
  have hX := hX0.drew
  have hB := hB0.drew
  have hM := hM0.drew
  have h3 : ∀ w', Blk w' tb #[.int .i64 cl, .int .i64 1, .int .u64 op, .int .i64 ai, .int .u64 wd, .int .i64 sa, .int .i64 sc, .bool ok] 145 → w'.cell? ⟨tb, 3, none⟩ = some (.int .i64 ai) := fun w' h => h.cell 3
  have h3s : ∀ w' v, Blk w' tb #[.int .i64 cl, .int .i64 1, .int .u64 op, .int .i64 ai, .int .u64 wd, .int .i64 sa, .int .i64 sc, .bool ok] 145 → (w'.setCell ⟨tb, 4, none⟩ v).cell? ⟨tb, 3, none⟩ = some (.int .i64 ai) := fun w' v h => (h.set 4 v rfl).cell 3
  go_region_held3 (fun w' => (∀ o, w'.cell? ⟨w.heap.size, o, none⟩ = (#[.int .i64 k.t, .int .i64 k.s, .int .i64 k.c, .int .i64 k.w, .int .i64 k.g, .int .i64 k.p, .int .i64 k.r, .pointer (some ⟨m.b, 0, none⟩), .int .i64 wh] : Array Value)[o]?) ∧ w'.cell? ⟨tb, 3, none⟩ = some (.int .i64 ai)) ((refine ⟨?_, ?_⟩; (focus (refine Blk.cell (T := 47) ?_; repeat (first | with_reducible assumption | with_reducible apply Blk.drew | with_reducible apply Blk.alloc | (with_reducible refine Blk.only ?_ (by with_reducible assumption) (by first | exact List.not_mem_nil | with_reducible assumption)) | (with_reducible refine Blk.other ?_ _ _ (by simp only; omega))))); (focus (first | (with_reducible refine h3 _ ?_; (repeat (first | with_reducible assumption | with_reducible apply Blk.drew | with_reducible apply Blk.alloc | (with_reducible refine Blk.only ?_ (by with_reducible assumption) (by first | exact List.not_mem_nil | with_reducible assumption)) | (with_reducible refine Blk.other ?_ _ _ (by simp only; omega)))); done) | (with_reducible refine h3s _ _ ?_; (repeat (first | with_reducible assumption | with_reducible apply Blk.drew | with_reducible apply Blk.alloc | (with_reducible refine Blk.only ?_ (by with_reducible assumption) (by first | exact List.not_mem_nil | with_reducible assumption)) | (with_reducible refine Blk.other ?_ _ _ (by simp only; omega)))); done)))))
    (first
      | (go_at_call 50; with_reducible refine (chunka_any _ k _).mono ?_; rintro e w' ⟨rfl, rfl⟩)
      | (go_at_call 69; with_reducible refine (load_env k wh ((hM0.alloc _).drew)).mono ?_; rintro e w1 ⟨rfl, hm1, ho1⟩; have hB1 := ((hB0.alloc (.cells #[.int .i64 k.t, .int .i64 k.s, .int .i64 k.c, .int .i64 k.w, .int .i64 k.g, .int .i64 k.p, .int .i64 k.r] 23)).drew).only ho1 hnt; have f1 := hB1.frozen; have c1 := hB1.cell; have hX1 := ((hX0.alloc (.cells #[.int .i64 k.t, .int .i64 k.s, .int .i64 k.c, .int .i64 k.w, .int .i64 k.g, .int .i64 k.p, .int .i64 k.r] 23)).drew).only ho1 hnx; have hX1c := hX1.cell))
  all_goals
    have hO1 : Only [m.b, m.wb, m.hb, tb] w w1 := (((Only.refl _ w).alloc _).alloc _).drew.trans' ho1 (by intro x hx _; simp only [List.mem_cons, List.not_mem_nil, or_false] at hx ⊢; omega)
    generalize hv : s.get (aChunk k ai) = v at *
    go_wp2_with fail
    refine (chunk_word v _ hU).mono ?_
    rintro e w2 ⟨rfl, ho2⟩
    have hB2 : Blk w2 tb #[.int .i64 cl, .int .i64 1, .int .u64 op, .int .i64 ai, .int .u64 v, .int .i64 sa, .int .i64 sc, .bool ok] 145 := (hB1.set 4 _ rfl).only ho2 (by simp)
    have hM2 := (hm1.other ⟨tb, 4, none⟩ (.int .u64 v) n1.symm n2.symm n3.symm).only ho2 (by simp) (by simp) (by simp)
    have hX2 := (hX1.other ⟨tb, 4, none⟩ (.int .u64 v) (by simp only; omega)).only ho2 (by simp)
    have hO2 := (hO1.setCell ⟨tb, 4, none⟩ (.int .u64 v) (by simp)).trans' ho2 (fun _ h _ => (List.not_mem_nil h).elim)
    have hr := ch_rng v
    obtain ⟨hr1, hr2, hr3, hr4, hr5, hr6, _, _⟩ := hr
    obtain ⟨hrm0, hrm1⟩ := hrm
    have huw : IntKind.i64.wrap (chUs v + room cl) = chUs v + room cl := by rw [IntWalk.i64_left]; unfold wrap64; omega
    clear hB1 hm1 hX1 hO1 ho1 ho2 h3 h3s f1 c1 hX1c hB0 hM0 hX0 hX hB hM hc0 hf0 hb
    by_cases t1 : chSt v = 1
    · by_cases t2 : chCl v = cl
      · by_cases t3 : chUs v + room cl ≤ k.w
        · have hbt : b = true := by rw [← hb2]; exact decide_eq_true ⟨t1, t2, t3⟩
          subst hbt
          have u1 : (chSt v != 1) = false := by simpa using t1
          have u2 : (chCl v != cl) = false := by simpa using t2
          clear hb2 t1 t2
          have ht2 := hB2.lt
          have f2 := hB2.frozen
          have c2 := hB2.cell
          have hB3 : Blk (w2.setCell ⟨tb, 1, none⟩ (.int .i64 2)) tb #[.int .i64 cl, .int .i64 2, .int .u64 op, .int .i64 ai, .int .u64 v, .int .i64 sa, .int .i64 sc, .bool ok] 145 := hB2.set 1 _ rfl
          have hM3 : MemR (w2.setCell ⟨tb, 1, none⟩ (.int .i64 2)) m ((s.by wh).load (aChunk k ai)) := hM2.other _ _ n1.symm n2.symm n3.symm
          have hX3 : Blk (w2.setCell ⟨tb, 1, none⟩ (.int .i64 2)) w.heap.size #[.int .i64 k.t, .int .i64 k.s, .int .i64 k.c, .int .i64 k.w, .int .i64 k.g, .int .i64 k.p, .int .i64 k.r, .pointer (some ⟨m.b, 0, none⟩), .int .i64 wh] 47 := hX2.other _ _ (by simp only; omega)
          have hO3 : Only [m.b, m.wb, m.hb, tb] w (w2.setCell ⟨tb, 1, none⟩ (.int .i64 2)) := hO2.setCell _ _ (by simp)
          go_wp2
          refine qc_enter (fun w' => MemR w' m ((s.by wh).load (aChunk k ai)) ∧ Blk w' tb #[.int .i64 cl, .int .i64 2, .int .u64 op, .int .i64 ai, .int .u64 v, .int .i64 sa, .int .i64 sc, .bool ok] 145 ∧ Blk w' w2.heap.size #[.int .i64 (chSt v), .int .i64 (chCl v), .int .i64 (chUs v), .int .i64 (chSp v)] 107 ∧ Blk w' w.heap.size #[.int .i64 k.t, .int .i64 k.s, .int .i64 k.c, .int .i64 k.w, .int .i64 k.g, .int .i64 k.p, .int .i64 k.r, .pointer (some ⟨m.b, 0, none⟩), .int .i64 wh] 47 ∧ Only [m.b, m.wb, m.hb, tb] w w') (by kernel_rfl) (by kernel_rfl) ?_ ?_
          focus (exact ⟨(hM3.alloc _).drew, (hB3.alloc _).drew, (Blk.new' (by simp) rfl : Blk _ _ _ 107).drew, (hX3.alloc _).drew, (hO3.alloc _).drew⟩)
          repeat (first
            | go_big_quiet_skip
            | (go_big_quiet_want
               apply Exists.intro
               refine ⟨fun wq hq => ?_, ?_⟩
               focus
                 (obtain ⟨hq1, hq2, hq3, hq4, hq5⟩ := hq; have hc2 := hq2.cell; have hc3 := hq3.cell; have hc4 := hq4.cell)
                 unfold Oper.quietAt
                 go_simp
                 (first
                   | done
                   | with_reducible exact rfl
                   | with_reducible exact ⟨rfl, rfl⟩
                   | ((go_at_call 36; refine (room_any _ _ hcl5).mono ?_; rintro e w' ⟨rfl, rfl⟩; exact ⟨rfl, hq1, hq2, hq3, hq4, hq5⟩)))
               (try simp only [Act.put, List.setIfInBounds_toArray, List.set_cons_zero, List.set_cons_succ])
               go_big_quiet_on))
          refine wpQuiet_nil ?_
          intro wq hq
          obtain ⟨hq1, hq2, hq3, hq4, hq5⟩ := hq
          have hqf := hq2.frozen
          have hqc := hq2.cell
          clear hB3 hM3 hX3 hO3
          go_wp2
          go_ret
          exact ⟨rfl, hq1, hq2, hq5⟩
        · have hbt : b = false := by rw [← hb2]; exact decide_eq_false (fun x => t3 x.2.2)
          subst hbt
          have u1 : (chSt v != 1) = false := by simpa using t1
          have u2 : (chCl v != cl) = false := by simpa using t2
          have u3 : k.w < chUs v + room cl := by omega
          clear hb2 t1 t2 t3
          have ht2 := hB2.lt
          have f2 := hB2.frozen
          have c2 := hB2.cell
          have hB3 : Blk (w2.setCell ⟨tb, 1, none⟩ (.int .i64 2)) tb #[.int .i64 cl, .int .i64 2, .int .u64 op, .int .i64 ai, .int .u64 v, .int .i64 sa, .int .i64 sc, .bool ok] 145 := hB2.set 1 _ rfl
          have hM3 : MemR (w2.setCell ⟨tb, 1, none⟩ (.int .i64 2)) m ((s.by wh).load (aChunk k ai)) := hM2.other _ _ n1.symm n2.symm n3.symm
          have hX3 : Blk (w2.setCell ⟨tb, 1, none⟩ (.int .i64 2)) w.heap.size #[.int .i64 k.t, .int .i64 k.s, .int .i64 k.c, .int .i64 k.w, .int .i64 k.g, .int .i64 k.p, .int .i64 k.r, .pointer (some ⟨m.b, 0, none⟩), .int .i64 wh] 47 := hX2.other _ _ (by simp only; omega)
          have hO3 : Only [m.b, m.wb, m.hb, tb] w (w2.setCell ⟨tb, 1, none⟩ (.int .i64 2)) := hO2.setCell _ _ (by simp)
          go_wp2
          refine qc_enter (fun w' => MemR w' m ((s.by wh).load (aChunk k ai)) ∧ Blk w' tb #[.int .i64 cl, .int .i64 2, .int .u64 op, .int .i64 ai, .int .u64 v, .int .i64 sa, .int .i64 sc, .bool ok] 145 ∧ Blk w' w2.heap.size #[.int .i64 (chSt v), .int .i64 (chCl v), .int .i64 (chUs v), .int .i64 (chSp v)] 107 ∧ Blk w' w.heap.size #[.int .i64 k.t, .int .i64 k.s, .int .i64 k.c, .int .i64 k.w, .int .i64 k.g, .int .i64 k.p, .int .i64 k.r, .pointer (some ⟨m.b, 0, none⟩), .int .i64 wh] 47 ∧ Only [m.b, m.wb, m.hb, tb] w w') (by kernel_rfl) (by kernel_rfl) ?_ ?_
          focus (exact ⟨(hM3.alloc _).drew, (hB3.alloc _).drew, (Blk.new' (by simp) rfl : Blk _ _ _ 107).drew, (hX3.alloc _).drew, (hO3.alloc _).drew⟩)
          repeat (first
            | go_big_quiet_skip
            | (go_big_quiet_want
               apply Exists.intro
               refine ⟨fun wq hq => ?_, ?_⟩
               focus
                 (obtain ⟨hq1, hq2, hq3, hq4, hq5⟩ := hq; have hc2 := hq2.cell; have hc3 := hq3.cell; have hc4 := hq4.cell)
                 unfold Oper.quietAt
                 go_simp
                 (first
                   | done
                   | with_reducible exact rfl
                   | with_reducible exact ⟨rfl, rfl⟩
                   | ((go_at_call 36; refine (room_any _ _ hcl5).mono ?_; rintro e w' ⟨rfl, rfl⟩; exact ⟨rfl, hq1, hq2, hq3, hq4, hq5⟩)))
               (try simp only [Act.put, List.setIfInBounds_toArray, List.set_cons_zero, List.set_cons_succ])
               go_big_quiet_on))
          refine wpQuiet_nil ?_
          intro wq hq
          obtain ⟨hq1, hq2, hq3, hq4, hq5⟩ := hq
          have hqf := hq2.frozen
          have hqc := hq2.cell
          clear hB3 hM3 hX3 hO3
          go_wp2
          go_ret
          exact ⟨rfl, (hq1.other _ _ n1.symm n2.symm n3.symm).other _ _ n1.symm n2.symm n3.symm, (hq2.set 3 _ rfl).set 1 _ rfl, (hq5.setCell _ _ (by simp)).setCell _ _ (by simp)⟩
      · have hbt : b = false := by rw [← hb2]; exact decide_eq_false (fun x => t2 x.2.1)
        subst hbt
        have u1 : (chSt v != 1) = false := by simpa using t1
        have u2 : (chCl v != cl) = true := by simpa using t2
        clear hb2 t1 t2
        have ht2 := hB2.lt
        have f2 := hB2.frozen
        have c2 := hB2.cell
        have hB3 : Blk (w2.setCell ⟨tb, 1, none⟩ (.int .i64 2)) tb #[.int .i64 cl, .int .i64 2, .int .u64 op, .int .i64 ai, .int .u64 v, .int .i64 sa, .int .i64 sc, .bool ok] 145 := hB2.set 1 _ rfl
        have hM3 : MemR (w2.setCell ⟨tb, 1, none⟩ (.int .i64 2)) m ((s.by wh).load (aChunk k ai)) := hM2.other _ _ n1.symm n2.symm n3.symm
        have hX3 : Blk (w2.setCell ⟨tb, 1, none⟩ (.int .i64 2)) w.heap.size #[.int .i64 k.t, .int .i64 k.s, .int .i64 k.c, .int .i64 k.w, .int .i64 k.g, .int .i64 k.p, .int .i64 k.r, .pointer (some ⟨m.b, 0, none⟩), .int .i64 wh] 47 := hX2.other _ _ (by simp only; omega)
        have hO3 : Only [m.b, m.wb, m.hb, tb] w (w2.setCell ⟨tb, 1, none⟩ (.int .i64 2)) := hO2.setCell _ _ (by simp)
        go_wp2
        refine qc_enter (fun w' => MemR w' m ((s.by wh).load (aChunk k ai)) ∧ Blk w' tb #[.int .i64 cl, .int .i64 2, .int .u64 op, .int .i64 ai, .int .u64 v, .int .i64 sa, .int .i64 sc, .bool ok] 145 ∧ Blk w' w2.heap.size #[.int .i64 (chSt v), .int .i64 (chCl v), .int .i64 (chUs v), .int .i64 (chSp v)] 107 ∧ Blk w' w.heap.size #[.int .i64 k.t, .int .i64 k.s, .int .i64 k.c, .int .i64 k.w, .int .i64 k.g, .int .i64 k.p, .int .i64 k.r, .pointer (some ⟨m.b, 0, none⟩), .int .i64 wh] 47 ∧ Only [m.b, m.wb, m.hb, tb] w w') (by kernel_rfl) (by kernel_rfl) ?_ ?_
        focus (exact ⟨(hM3.alloc _).drew, (hB3.alloc _).drew, (Blk.new' (by simp) rfl : Blk _ _ _ 107).drew, (hX3.alloc _).drew, (hO3.alloc _).drew⟩)
        repeat (first
          | go_big_quiet_skip
          | (go_big_quiet_want
             apply Exists.intro
             refine ⟨fun wq hq => ?_, ?_⟩
             focus
               (obtain ⟨hq1, hq2, hq3, hq4, hq5⟩ := hq; have hc2 := hq2.cell; have hc3 := hq3.cell; have hc4 := hq4.cell)
               unfold Oper.quietAt
               go_simp
               (first
                 | done
                 | with_reducible exact rfl
                 | with_reducible exact ⟨rfl, rfl⟩
                 | ((go_at_call 36; refine (room_any _ _ hcl5).mono ?_; rintro e w' ⟨rfl, rfl⟩; exact ⟨rfl, hq1, hq2, hq3, hq4, hq5⟩)))
             (try simp only [Act.put, List.setIfInBounds_toArray, List.set_cons_zero, List.set_cons_succ])
             go_big_quiet_on))
        refine wpQuiet_nil ?_
        intro wq hq
        obtain ⟨hq1, hq2, hq3, hq4, hq5⟩ := hq
        have hqf := hq2.frozen
        have hqc := hq2.cell
        clear hB3 hM3 hX3 hO3
        go_wp2
        go_ret
        exact ⟨rfl, (hq1.other _ _ n1.symm n2.symm n3.symm).other _ _ n1.symm n2.symm n3.symm, (hq2.set 3 _ rfl).set 1 _ rfl, (hq5.setCell _ _ (by simp)).setCell _ _ (by simp)⟩
    · have hbt : b = false := by rw [← hb2]; exact decide_eq_false (fun x => t1 x.1)
      subst hbt
      have u1 : (chSt v != 1) = true := by simpa using t1
      clear hb2 t1
      have ht2 := hB2.lt
      have f2 := hB2.frozen
      have c2 := hB2.cell
      have hB3 : Blk (w2.setCell ⟨tb, 1, none⟩ (.int .i64 2)) tb #[.int .i64 cl, .int .i64 2, .int .u64 op, .int .i64 ai, .int .u64 v, .int .i64 sa, .int .i64 sc, .bool ok] 145 := hB2.set 1 _ rfl
      have hM3 : MemR (w2.setCell ⟨tb, 1, none⟩ (.int .i64 2)) m ((s.by wh).load (aChunk k ai)) := hM2.other _ _ n1.symm n2.symm n3.symm
      have hX3 : Blk (w2.setCell ⟨tb, 1, none⟩ (.int .i64 2)) w.heap.size #[.int .i64 k.t, .int .i64 k.s, .int .i64 k.c, .int .i64 k.w, .int .i64 k.g, .int .i64 k.p, .int .i64 k.r, .pointer (some ⟨m.b, 0, none⟩), .int .i64 wh] 47 := hX2.other _ _ (by simp only; omega)
      have hO3 : Only [m.b, m.wb, m.hb, tb] w (w2.setCell ⟨tb, 1, none⟩ (.int .i64 2)) := hO2.setCell _ _ (by simp)
      go_wp2
      refine qc_enter (fun w' => MemR w' m ((s.by wh).load (aChunk k ai)) ∧ Blk w' tb #[.int .i64 cl, .int .i64 2, .int .u64 op, .int .i64 ai, .int .u64 v, .int .i64 sa, .int .i64 sc, .bool ok] 145 ∧ Blk w' w2.heap.size #[.int .i64 (chSt v), .int .i64 (chCl v), .int .i64 (chUs v), .int .i64 (chSp v)] 107 ∧ Blk w' w.heap.size #[.int .i64 k.t, .int .i64 k.s, .int .i64 k.c, .int .i64 k.w, .int .i64 k.g, .int .i64 k.p, .int .i64 k.r, .pointer (some ⟨m.b, 0, none⟩), .int .i64 wh] 47 ∧ Only [m.b, m.wb, m.hb, tb] w w') (by kernel_rfl) (by kernel_rfl) ?_ ?_
      focus (exact ⟨(hM3.alloc _).drew, (hB3.alloc _).drew, (Blk.new' (by simp) rfl : Blk _ _ _ 107).drew, (hX3.alloc _).drew, (hO3.alloc _).drew⟩)
      repeat (first
        | go_big_quiet_skip
        | (go_big_quiet_want
           apply Exists.intro
           refine ⟨fun wq hq => ?_, ?_⟩
           focus
             (obtain ⟨hq1, hq2, hq3, hq4, hq5⟩ := hq; have hc2 := hq2.cell; have hc3 := hq3.cell; have hc4 := hq4.cell)
             unfold Oper.quietAt
             go_simp
             (first
               | done
               | with_reducible exact rfl
               | with_reducible exact ⟨rfl, rfl⟩
               | ((go_at_call 36; refine (room_any _ _ hcl5).mono ?_; rintro e w' ⟨rfl, rfl⟩; exact ⟨rfl, hq1, hq2, hq3, hq4, hq5⟩)))
           (try simp only [Act.put, List.setIfInBounds_toArray, List.set_cons_zero, List.set_cons_succ])
           go_big_quiet_on))
      refine wpQuiet_nil ?_
      intro wq hq
      obtain ⟨hq1, hq2, hq3, hq4, hq5⟩ := hq
      have hqf := hq2.frozen
      have hqc := hq2.cell
      clear hB3 hM3 hX3 hO3
      go_wp2
      go_ret
      exact ⟨rfl, (hq1.other _ _ n1.symm n2.symm n3.symm).other _ _ n1.symm n2.symm n3.symm, (hq2.set 3 _ rfl).set 1 _ rfl, (hq5.setCell _ _ (by simp)).setCell _ _ (by simp)⟩

end
end Go.Proofs.Yteoimmjgnflmmaa
