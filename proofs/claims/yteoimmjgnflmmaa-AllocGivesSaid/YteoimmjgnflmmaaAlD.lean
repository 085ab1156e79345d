/-
  What somebody does, step by step, who makes an object: the steps that others' steps are parts of.
-/
import Derived.Test.YteoimmjgnflmmaaAlC
namespace Go.Proofs.Yteoimmjgnflmmaa
open Go.RowKit Go.BigFrame

section
variable {w : World} {m : MB} {s : MS}

set_option maxRecDepth 100000 in
set_option maxHeartbeats 1600000 in
theorem astep7 {s' : MS} {b : Bool} {g g' : GiveS} (gb : Nat) (k : Cfg) (wh : Int) (x : AlS) (tb : Nat) (hm : MemR w m s) (hb : Blk w tb x.cs 150) (hpc : x.pc = 7) (hgv : x.gv = .pointer (some ⟨gb, 0, none⟩)) (hg : Blk w gb g.cs 142) (hst : giveStep k wh s g = (b, s', g')) (hgp : g.pc = 0 ∨ g.pc = 1 ∨ g.pc = 2) (hU : U64 g.top) (h0 : 0 ≤ g.slot) (h1 : g.slot < 131072) (n1 : tb ≠ m.b) (n2 : tb ≠ m.wb) (n3 : tb ≠ m.hb) (g1 : gb ≠ m.b) (g2 : gb ≠ m.wb) (g3 : gb ≠ m.hb) (g4 : gb ≠ tb) :
    Calls Try.prog 97 #[.pointer (some ⟨tb, 0, none⟩), .agg #[.int .i64 k.t, .int .i64 k.s, .int .i64 k.c, .int .i64 k.w, .int .i64 k.g, .int .i64 k.p, .int .i64 k.r, .pointer (some ⟨m.b, 0, none⟩), .int .i64 wh]] w fun e w' => e = .returned (.bool b) ∧ MemR w' m s' ∧ Blk w' tb x.cs 150 ∧ Blk w' gb g'.cs 142 ∧ Only [m.b, m.wb, m.hb, tb, gb] w w' := by
  obtain ⟨sz, own, apc, ⟨pc, top, next, slot, ok⟩, at_, gn, pv, sa, sc, gv, er, hd, va, st⟩ := x
  simp only at hpc
  subst hpc
  replace hb : Blk w tb #[.int .i64 sz, .bool own, .int .i64 7, .int .i64 pc, .int .u64 top, .int .i64 next, .int .i64 slot, .bool ok, .int .i64 at_, .int .i64 gn, pv, .int .i64 sa, .int .i64 sc, gv, .int .i64 er, .int .u64 hd, .int .i64 va, .int .i64 st] 150 := hb
  have ht := hb.lt
  have hxn : w.heap.size ∉ [m.b, m.wb, m.hb, tb] := by
    have := hm.notin (Nat.le_refl _)
    simp only [List.mem_cons, List.not_mem_nil, or_false, not_or] at this ⊢
    exact ⟨this.1, this.2.1, this.2.2, by omega⟩
  have hnt : tb ∉ [m.b, m.wb, m.hb] := by simp only [List.mem_cons, List.not_mem_nil, or_false, not_or]; exact ⟨n1, n2, n3⟩
  have hxm : w.heap.size ∉ [m.b, m.wb, m.hb] := hm.notin (Nat.le_refl _)
  have hc0 := hb.cell
  have hf0 := hb.frozen
  have hX0 : Blk (w.alloc (.cells #[.int .i64 k.t, .int .i64 k.s, .int .i64 k.c, .int .i64 k.w, .int .i64 k.g, .int .i64 k.p, .int .i64 k.r, .pointer (some ⟨m.b, 0, none⟩), .int .i64 wh] 47)) w.heap.size #[.int .i64 k.t, .int .i64 k.s, .int .i64 k.c, .int .i64 k.w, .int .i64 k.g, .int .i64 k.p, .int .i64 k.r, .pointer (some ⟨m.b, 0, none⟩), .int .i64 wh] 47 := Blk.new w _ 47
  have hB0 := hb.alloc (.cells #[.int .i64 k.t, .int .i64 k.s, .int .i64 k.c, .int .i64 k.w, .int .i64 k.g, .int .i64 k.p, .int .i64 k.r, .pointer (some ⟨m.b, 0, none⟩), .int .i64 wh] 47)
  have hM0 := hm.alloc (.cells #[.int .i64 k.t, .int .i64 k.s, .int .i64 k.c, .int .i64 k.w, .int .i64 k.g, .int .i64 k.p, .int .i64 k.r, .pointer (some ⟨m.b, 0, none⟩), .int .i64 wh] 47)
  have hO0 : Only [m.b, m.wb, m.hb, tb] w (w.alloc (.cells #[.int .i64 k.t, .int .i64 k.s, .int .i64 k.c, .int .i64 k.w, .int .i64 k.g, .int .i64 k.p, .int .i64 k.r, .pointer (some ⟨m.b, 0, none⟩), .int .i64 wh] 47)) := (Only.refl _ w).alloc _
  have hgv2 : gv = _ := hgv
  clear hgv
  subst hgv2
  have hgl := hg.lt
  have hxg : w.heap.size ∉ [m.b, m.wb, m.hb, gb] := by
    simp only [List.mem_cons, List.not_mem_nil, or_false, not_or] at hxm ⊢
    exact ⟨hxm.1, hxm.2.1, hxm.2.2, by omega⟩
  have hng : tb ∉ [m.b, m.wb, m.hb, gb] := by
    simp only [List.mem_cons, List.not_mem_nil, or_false, not_or]
    exact ⟨n1, n2, n3, fun h => g4 h.symm⟩
  have hcall := give_step k wh g gb hst hM0.drew (hg.alloc (.cells #[.int .i64 k.t, .int .i64 k.s, .int .i64 k.c, .int .i64 k.w, .int .i64 k.g, .int .i64 k.p, .int .i64 k.r, .pointer (some ⟨m.b, 0, none⟩), .int .i64 wh] 47)).drew hgp hU h0 h1 g1 g2 g3
  go_enter Try.func97, Try.ntmps97
  go_wp2
  go_region_held3 (fun w' => (∀ o, w'.cell? ⟨w.heap.size, o, none⟩ = (#[.int .i64 k.t, .int .i64 k.s, .int .i64 k.c, .int .i64 k.w, .int .i64 k.g, .int .i64 k.p, .int .i64 k.r, .pointer (some ⟨m.b, 0, none⟩), .int .i64 wh] : Array Value)[o]?) ∧ (∀ o, w'.cell? ⟨tb, o, none⟩ = (#[.int .i64 sz, .bool own, .int .i64 7, .int .i64 pc, .int .u64 top, .int .i64 next, .int .i64 slot, .bool ok, .int .i64 at_, .int .i64 gn, pv, .int .i64 sa, .int .i64 sc, .pointer (some ⟨gb, 0, none⟩), .int .i64 er, .int .u64 hd, .int .i64 va, .int .i64 st] : Array Value)[o]?)) ((refine ⟨?_, ?_⟩; (focus (refine Blk.cell (T := 47) ?_; repeat (first | with_reducible assumption | with_reducible apply Blk.drew | with_reducible apply Blk.alloc | (with_reducible refine Blk.only ?_ (by with_reducible assumption) (by first | exact List.not_mem_nil | with_reducible assumption)) | (with_reducible refine Blk.other ?_ _ _ (by simp only; omega))))); (focus (refine Blk.cell (T := 150) ?_; repeat (first | with_reducible assumption | with_reducible apply Blk.drew | with_reducible apply Blk.alloc | (with_reducible refine Blk.only ?_ (by with_reducible assumption) (by first | exact List.not_mem_nil | with_reducible assumption)) | (with_reducible refine Blk.other ?_ _ _ (by simp only; omega)))))))
    (first
      | (go_at_call 76; with_reducible refine hcall.mono ?_; rintro e w2 ⟨rfl, hm2, hg2, ho2⟩))
  all_goals
    have hB2 : Blk w2 tb #[.int .i64 sz, .bool own, .int .i64 7, .int .i64 pc, .int .u64 top, .int .i64 next, .int .i64 slot, .bool ok, .int .i64 at_, .int .i64 gn, pv, .int .i64 sa, .int .i64 sc, .pointer (some ⟨gb, 0, none⟩), .int .i64 er, .int .u64 hd, .int .i64 va, .int .i64 st] 150 := by repeat (first | with_reducible assumption | with_reducible apply Blk.drew | with_reducible apply Blk.alloc | (with_reducible refine Blk.only ?_ (by with_reducible assumption) (by first | exact List.not_mem_nil | with_reducible assumption)) | (with_reducible refine Blk.other ?_ _ _ (by simp only; omega)))
    have hO2 : Only [m.b, m.wb, m.hb, tb, gb] w w2 := by repeat (first | with_reducible exact Only.refl _ _ | with_reducible assumption | with_reducible apply Only.drew | with_reducible apply Only.alloc | (with_reducible refine Only.setCell ?_ _ _ (by simp)) | (with_reducible refine Only.trans' ?_ (by with_reducible assumption) (by intro x hx _; first | exact absurd hx List.not_mem_nil | (simp only [List.mem_cons, List.not_mem_nil, or_false] at hx ⊢; omega))))
    go_wp2
    go_ret
    exact ⟨rfl, hm2, hB2, hg2, hO2⟩

set_option maxRecDepth 100000 in
set_option maxHeartbeats 1600000 in
theorem astep2_go {n : Nat} {s' : MS} {p p' : PlS} (pb : Nat) (k : Cfg) (wh : Int) (x : AlS) (tb : Nat) (hm : MemR w m s) (hb : Blk w tb x.cs 150) (hpc : x.pc = 2) (hpv : x.pv = .pointer (some ⟨pb, 0, none⟩)) (hp : Blk w pb p.cs 145) (hk : k.Ok) (hM : PM k n s) (hI : PI n p) (hst : placeStep k wh s p = (false, s', p')) (n1 : tb ≠ m.b) (n2 : tb ≠ m.wb) (n3 : tb ≠ m.hb) (g1 : pb ≠ m.b) (g2 : pb ≠ m.wb) (g3 : pb ≠ m.hb) (g4 : pb ≠ tb) :
    Calls Try.prog 97 #[.pointer (some ⟨tb, 0, none⟩), .agg #[.int .i64 k.t, .int .i64 k.s, .int .i64 k.c, .int .i64 k.w, .int .i64 k.g, .int .i64 k.p, .int .i64 k.r, .pointer (some ⟨m.b, 0, none⟩), .int .i64 wh]] w fun e w' => e = .returned (.bool false) ∧ MemR w' m s' ∧ Blk w' tb x.cs 150 ∧ Blk w' pb p'.cs 145 ∧ Only [m.b, m.wb, m.hb, tb, pb] w w' := by
  obtain ⟨sz, own, apc, ⟨pc, top, next, slot, ok⟩, at_, gn, pv, sa, sc, gv, er, hd, va, st⟩ := x
  simp only at hpc
  subst hpc
  replace hb : Blk w tb #[.int .i64 sz, .bool own, .int .i64 2, .int .i64 pc, .int .u64 top, .int .i64 next, .int .i64 slot, .bool ok, .int .i64 at_, .int .i64 gn, pv, .int .i64 sa, .int .i64 sc, gv, .int .i64 er, .int .u64 hd, .int .i64 va, .int .i64 st] 150 := hb
  have ht := hb.lt
  have hxn : w.heap.size ∉ [m.b, m.wb, m.hb, tb] := by
    have := hm.notin (Nat.le_refl _)
    simp only [List.mem_cons, List.not_mem_nil, or_false, not_or] at this ⊢
    exact ⟨this.1, this.2.1, this.2.2, by omega⟩
  have hnt : tb ∉ [m.b, m.wb, m.hb] := by simp only [List.mem_cons, List.not_mem_nil, or_false, not_or]; exact ⟨n1, n2, n3⟩
  have hxm : w.heap.size ∉ [m.b, m.wb, m.hb] := hm.notin (Nat.le_refl _)
  have hc0 := hb.cell
  have hf0 := hb.frozen
  have hX0 : Blk (w.alloc (.cells #[.int .i64 k.t, .int .i64 k.s, .int .i64 k.c, .int .i64 k.w, .int .i64 k.g, .int .i64 k.p, .int .i64 k.r, .pointer (some ⟨m.b, 0, none⟩), .int .i64 wh] 47)) w.heap.size #[.int .i64 k.t, .int .i64 k.s, .int .i64 k.c, .int .i64 k.w, .int .i64 k.g, .int .i64 k.p, .int .i64 k.r, .pointer (some ⟨m.b, 0, none⟩), .int .i64 wh] 47 := Blk.new w _ 47
  have hB0 := hb.alloc (.cells #[.int .i64 k.t, .int .i64 k.s, .int .i64 k.c, .int .i64 k.w, .int .i64 k.g, .int .i64 k.p, .int .i64 k.r, .pointer (some ⟨m.b, 0, none⟩), .int .i64 wh] 47)
  have hM0 := hm.alloc (.cells #[.int .i64 k.t, .int .i64 k.s, .int .i64 k.c, .int .i64 k.w, .int .i64 k.g, .int .i64 k.p, .int .i64 k.r, .pointer (some ⟨m.b, 0, none⟩), .int .i64 wh] 47)
  have hO0 : Only [m.b, m.wb, m.hb, tb] w (w.alloc (.cells #[.int .i64 k.t, .int .i64 k.s, .int .i64 k.c, .int .i64 k.w, .int .i64 k.g, .int .i64 k.p, .int .i64 k.r, .pointer (some ⟨m.b, 0, none⟩), .int .i64 wh] 47)) := (Only.refl _ w).alloc _
  have hpv2 : pv = _ := hpv
  clear hpv
  subst hpv2
  have hpl := hp.lt
  have hxg : w.heap.size ∉ [m.b, m.wb, m.hb, pb] := by
    simp only [List.mem_cons, List.not_mem_nil, or_false, not_or] at hxm ⊢
    exact ⟨hxm.1, hxm.2.1, hxm.2.2, by omega⟩
  have hng : tb ∉ [m.b, m.wb, m.hb, pb] := by
    simp only [List.mem_cons, List.not_mem_nil, or_false, not_or]
    exact ⟨n1, n2, n3, fun h => g4 h.symm⟩
  have hcall := place_step pb hk hM hI hst hM0.drew (hp.alloc (.cells #[.int .i64 k.t, .int .i64 k.s, .int .i64 k.c, .int .i64 k.w, .int .i64 k.g, .int .i64 k.p, .int .i64 k.r, .pointer (some ⟨m.b, 0, none⟩), .int .i64 wh] 47)).drew g1 g2 g3
  clear hst hI hM hk
  go_enter Try.func97, Try.ntmps97
  go_wp2
  go_region_held3 (fun w' => (∀ o, w'.cell? ⟨w.heap.size, o, none⟩ = (#[.int .i64 k.t, .int .i64 k.s, .int .i64 k.c, .int .i64 k.w, .int .i64 k.g, .int .i64 k.p, .int .i64 k.r, .pointer (some ⟨m.b, 0, none⟩), .int .i64 wh] : Array Value)[o]?) ∧ (∀ o, w'.cell? ⟨tb, o, none⟩ = (#[.int .i64 sz, .bool own, .int .i64 2, .int .i64 pc, .int .u64 top, .int .i64 next, .int .i64 slot, .bool ok, .int .i64 at_, .int .i64 gn, .pointer (some ⟨pb, 0, none⟩), .int .i64 sa, .int .i64 sc, gv, .int .i64 er, .int .u64 hd, .int .i64 va, .int .i64 st] : Array Value)[o]?)) ((refine ⟨?_, ?_⟩; (focus (refine Blk.cell (T := 47) ?_; repeat (first | with_reducible assumption | with_reducible apply Blk.drew | with_reducible apply Blk.alloc | (with_reducible refine Blk.only ?_ (by with_reducible assumption) (by first | exact List.not_mem_nil | with_reducible assumption)) | (with_reducible refine Blk.other ?_ _ _ (by simp only; omega))))); (focus (refine Blk.cell (T := 150) ?_; repeat (first | with_reducible assumption | with_reducible apply Blk.drew | with_reducible apply Blk.alloc | (with_reducible refine Blk.only ?_ (by with_reducible assumption) (by first | exact List.not_mem_nil | with_reducible assumption)) | (with_reducible refine Blk.other ?_ _ _ (by simp only; omega)))))))
    (first
      | (go_at_call 85; with_reducible refine hcall.mono ?_; rintro e w2 ⟨rfl, hm2, hp2, ho2⟩))
  have hB2 : Blk w2 tb #[.int .i64 sz, .bool own, .int .i64 2, .int .i64 pc, .int .u64 top, .int .i64 next, .int .i64 slot, .bool ok, .int .i64 at_, .int .i64 gn, .pointer (some ⟨pb, 0, none⟩), .int .i64 sa, .int .i64 sc, gv, .int .i64 er, .int .u64 hd, .int .i64 va, .int .i64 st] 150 := by repeat (first | with_reducible assumption | with_reducible apply Blk.drew | with_reducible apply Blk.alloc | (with_reducible refine Blk.only ?_ (by with_reducible assumption) (by first | exact List.not_mem_nil | with_reducible assumption)) | (with_reducible refine Blk.other ?_ _ _ (by simp only; omega)))
  have hX2 : Blk w2 w.heap.size #[.int .i64 k.t, .int .i64 k.s, .int .i64 k.c, .int .i64 k.w, .int .i64 k.g, .int .i64 k.p, .int .i64 k.r, .pointer (some ⟨m.b, 0, none⟩), .int .i64 wh] 47 := by repeat (first | with_reducible assumption | with_reducible apply Blk.drew | with_reducible apply Blk.alloc | (with_reducible refine Blk.only ?_ (by with_reducible assumption) (by first | exact List.not_mem_nil | with_reducible assumption)) | (with_reducible refine Blk.other ?_ _ _ (by simp only; omega)))
  have hO2 : Only [m.b, m.wb, m.hb, tb, pb] w w2 := by repeat (first | with_reducible exact Only.refl _ _ | with_reducible assumption | with_reducible apply Only.drew | with_reducible apply Only.alloc | (with_reducible refine Only.setCell ?_ _ _ (by simp)) | (with_reducible refine Only.trans' ?_ (by with_reducible assumption) (by intro x hx _; first | exact absurd hx List.not_mem_nil | (simp only [List.mem_cons, List.not_mem_nil, or_false] at hx ⊢; omega))))
  go_wp2
  go_ret
  exact ⟨rfl, hm2, hB2, hp2, hO2⟩
set_option maxRecDepth 100000 in
set_option maxHeartbeats 1600000 in
theorem astep2_got {n : Nat} {s' : MS} {p p' : PlS} (pb : Nat) (k : Cfg) (wh : Int) (x : AlS) (tb : Nat) (hm : MemR w m s) (hb : Blk w tb x.cs 150) (hpc : x.pc = 2) (hpv : x.pv = .pointer (some ⟨pb, 0, none⟩)) (hp : Blk w pb p.cs 145) (hk : k.Ok) (hM : PM k n s) (hI : PI n p) (hst : placeStep k wh s p = (true, s', p')) (hok : p'.ok = true) (n1 : tb ≠ m.b) (n2 : tb ≠ m.wb) (n3 : tb ≠ m.hb) (g1 : pb ≠ m.b) (g2 : pb ≠ m.wb) (g3 : pb ≠ m.hb) (g4 : pb ≠ tb) :
    Calls Try.prog 97 #[.pointer (some ⟨tb, 0, none⟩), .agg #[.int .i64 k.t, .int .i64 k.s, .int .i64 k.c, .int .i64 k.w, .int .i64 k.g, .int .i64 k.p, .int .i64 k.r, .pointer (some ⟨m.b, 0, none⟩), .int .i64 wh]] w fun e w' => e = .returned (.bool false) ∧ MemR w' m s' ∧ Blk w' tb ({ x with sa := p'.sa, sc := p'.sc, pc := 3 } : AlS).cs 150 ∧ Blk w' pb p'.cs 145 ∧ Only [m.b, m.wb, m.hb, tb, pb] w w' := by
  have hres : PlS.res p' = .agg #[.int .i64 p'.sa, .int .i64 p'.sc] := by unfold PlS.res; rw [if_pos hok, if_pos hok]
  have HRES := Lib.hid hres
  have HOK := Lib.hid hok
  clear hres hok
  obtain ⟨sz, own, apc, ⟨pc, top, next, slot, ok⟩, at_, gn, pv, sa, sc, gv, er, hd, va, st⟩ := x
  simp only at hpc
  subst hpc
  replace hb : Blk w tb #[.int .i64 sz, .bool own, .int .i64 2, .int .i64 pc, .int .u64 top, .int .i64 next, .int .i64 slot, .bool ok, .int .i64 at_, .int .i64 gn, pv, .int .i64 sa, .int .i64 sc, gv, .int .i64 er, .int .u64 hd, .int .i64 va, .int .i64 st] 150 := hb
  have ht := hb.lt
  have hxn : w.heap.size ∉ [m.b, m.wb, m.hb, tb] := by
    have := hm.notin (Nat.le_refl _)
    simp only [List.mem_cons, List.not_mem_nil, or_false, not_or] at this ⊢
    exact ⟨this.1, this.2.1, this.2.2, by omega⟩
  have hnt : tb ∉ [m.b, m.wb, m.hb] := by simp only [List.mem_cons, List.not_mem_nil, or_false, not_or]; exact ⟨n1, n2, n3⟩
  have hxm : w.heap.size ∉ [m.b, m.wb, m.hb] := hm.notin (Nat.le_refl _)
  have hc0 := hb.cell
  have hf0 := hb.frozen
  have hX0 : Blk (w.alloc (.cells #[.int .i64 k.t, .int .i64 k.s, .int .i64 k.c, .int .i64 k.w, .int .i64 k.g, .int .i64 k.p, .int .i64 k.r, .pointer (some ⟨m.b, 0, none⟩), .int .i64 wh] 47)) w.heap.size #[.int .i64 k.t, .int .i64 k.s, .int .i64 k.c, .int .i64 k.w, .int .i64 k.g, .int .i64 k.p, .int .i64 k.r, .pointer (some ⟨m.b, 0, none⟩), .int .i64 wh] 47 := Blk.new w _ 47
  have hB0 := hb.alloc (.cells #[.int .i64 k.t, .int .i64 k.s, .int .i64 k.c, .int .i64 k.w, .int .i64 k.g, .int .i64 k.p, .int .i64 k.r, .pointer (some ⟨m.b, 0, none⟩), .int .i64 wh] 47)
  have hM0 := hm.alloc (.cells #[.int .i64 k.t, .int .i64 k.s, .int .i64 k.c, .int .i64 k.w, .int .i64 k.g, .int .i64 k.p, .int .i64 k.r, .pointer (some ⟨m.b, 0, none⟩), .int .i64 wh] 47)
  have hO0 : Only [m.b, m.wb, m.hb, tb] w (w.alloc (.cells #[.int .i64 k.t, .int .i64 k.s, .int .i64 k.c, .int .i64 k.w, .int .i64 k.g, .int .i64 k.p, .int .i64 k.r, .pointer (some ⟨m.b, 0, none⟩), .int .i64 wh] 47)) := (Only.refl _ w).alloc _
  have hpv2 : pv = _ := hpv
  clear hpv
  subst hpv2
  have hpl := hp.lt
  have hxg : w.heap.size ∉ [m.b, m.wb, m.hb, pb] := by
    simp only [List.mem_cons, List.not_mem_nil, or_false, not_or] at hxm ⊢
    exact ⟨hxm.1, hxm.2.1, hxm.2.2, by omega⟩
  have hng : tb ∉ [m.b, m.wb, m.hb, pb] := by
    simp only [List.mem_cons, List.not_mem_nil, or_false, not_or]
    exact ⟨n1, n2, n3, fun h => g4 h.symm⟩
  have hcall := place_step pb hk hM hI hst hM0.drew (hp.alloc (.cells #[.int .i64 k.t, .int .i64 k.s, .int .i64 k.c, .int .i64 k.w, .int .i64 k.g, .int .i64 k.p, .int .i64 k.r, .pointer (some ⟨m.b, 0, none⟩), .int .i64 wh] 47)).drew g1 g2 g3
  clear hst hI hM hk
  go_enter Try.func97, Try.ntmps97
  go_wp2
  go_region_held3 (fun w' => (∀ o, w'.cell? ⟨w.heap.size, o, none⟩ = (#[.int .i64 k.t, .int .i64 k.s, .int .i64 k.c, .int .i64 k.w, .int .i64 k.g, .int .i64 k.p, .int .i64 k.r, .pointer (some ⟨m.b, 0, none⟩), .int .i64 wh] : Array Value)[o]?) ∧ (∀ o, w'.cell? ⟨tb, o, none⟩ = (#[.int .i64 sz, .bool own, .int .i64 2, .int .i64 pc, .int .u64 top, .int .i64 next, .int .i64 slot, .bool ok, .int .i64 at_, .int .i64 gn, .pointer (some ⟨pb, 0, none⟩), .int .i64 sa, .int .i64 sc, gv, .int .i64 er, .int .u64 hd, .int .i64 va, .int .i64 st] : Array Value)[o]?)) ((refine ⟨?_, ?_⟩; (focus (refine Blk.cell (T := 47) ?_; repeat (first | with_reducible assumption | with_reducible apply Blk.drew | with_reducible apply Blk.alloc | (with_reducible refine Blk.only ?_ (by with_reducible assumption) (by first | exact List.not_mem_nil | with_reducible assumption)) | (with_reducible refine Blk.other ?_ _ _ (by simp only; omega))))); (focus (refine Blk.cell (T := 150) ?_; repeat (first | with_reducible assumption | with_reducible apply Blk.drew | with_reducible apply Blk.alloc | (with_reducible refine Blk.only ?_ (by with_reducible assumption) (by first | exact List.not_mem_nil | with_reducible assumption)) | (with_reducible refine Blk.other ?_ _ _ (by simp only; omega)))))))
    (first
      | (go_at_call 85; with_reducible refine hcall.mono ?_; rintro e w2 ⟨rfl, hm2, hp2, ho2⟩))
  have hB2 : Blk w2 tb #[.int .i64 sz, .bool own, .int .i64 2, .int .i64 pc, .int .u64 top, .int .i64 next, .int .i64 slot, .bool ok, .int .i64 at_, .int .i64 gn, .pointer (some ⟨pb, 0, none⟩), .int .i64 sa, .int .i64 sc, gv, .int .i64 er, .int .u64 hd, .int .i64 va, .int .i64 st] 150 := by repeat (first | with_reducible assumption | with_reducible apply Blk.drew | with_reducible apply Blk.alloc | (with_reducible refine Blk.only ?_ (by with_reducible assumption) (by first | exact List.not_mem_nil | with_reducible assumption)) | (with_reducible refine Blk.other ?_ _ _ (by simp only; omega)))
  have hX2 : Blk w2 w.heap.size #[.int .i64 k.t, .int .i64 k.s, .int .i64 k.c, .int .i64 k.w, .int .i64 k.g, .int .i64 k.p, .int .i64 k.r, .pointer (some ⟨m.b, 0, none⟩), .int .i64 wh] 47 := by repeat (first | with_reducible assumption | with_reducible apply Blk.drew | with_reducible apply Blk.alloc | (with_reducible refine Blk.only ?_ (by with_reducible assumption) (by first | exact List.not_mem_nil | with_reducible assumption)) | (with_reducible refine Blk.other ?_ _ _ (by simp only; omega)))
  have hO2 : Only [m.b, m.wb, m.hb, tb, pb] w w2 := by repeat (first | with_reducible exact Only.refl _ _ | with_reducible assumption | with_reducible apply Only.drew | with_reducible apply Only.alloc | (with_reducible refine Only.setCell ?_ _ _ (by simp)) | (with_reducible refine Only.trans' ?_ (by with_reducible assumption) (by intro x hx _; first | exact absurd hx List.not_mem_nil | (simp only [List.mem_cons, List.not_mem_nil, or_false] at hx ⊢; omega))))
  have hsp := spot_any p' pb hp2
  rw [HRES.out, HOK.out] at hsp
  have hf2 := hB2.frozen
  have hc2 := hB2.cell
  have ht2 := hB2.lt
  go_wp2_with fail
  refine hsp.mono ?_
  rintro e w3 ⟨rfl, ho3⟩
  have hB3 := hB2.only ho3 (by simp)
  have hp3 := hp2.only ho3 (by simp)
  have hm3 := hm2.only ho3 (by simp) (by simp) (by simp)
  have hf3 := hB3.frozen
  have hc3 := hB3.cell
  have ht3 := hB3.lt
  have hpl3 := hp3.lt
  clear hf2 hc2 ht2
  go_wp2
  go_ret
  exact ⟨rfl, (((hm3.other _ _ n1.symm n2.symm n3.symm).other _ _ n1.symm n2.symm n3.symm).other _ _ n1.symm n2.symm n3.symm).alloc _, (((hB3.set 11 _ rfl).set 12 _ rfl).set 2 _ rfl).alloc _, (((hp3.other _ _ g4).other _ _ g4).other _ _ g4).alloc _, ((((hO2.trans' ho3 (fun _ h _ => (List.not_mem_nil h).elim)).setCell _ _ (by simp)).setCell _ _ (by simp)).setCell _ _ (by simp)).alloc _⟩
set_option maxRecDepth 100000 in
set_option maxHeartbeats 1600000 in
theorem astep2_none {n : Nat} {s' : MS} {p p' : PlS} (pb : Nat) (k : Cfg) (wh : Int) (x : AlS) (tb : Nat) (hm : MemR w m s) (hb : Blk w tb x.cs 150) (hpc : x.pc = 2) (hpv : x.pv = .pointer (some ⟨pb, 0, none⟩)) (hp : Blk w pb p.cs 145) (hk : k.Ok) (hM : PM k n s) (hI : PI n p) (hst : placeStep k wh s p = (true, s', p')) (hok : p'.ok = false) (n1 : tb ≠ m.b) (n2 : tb ≠ m.wb) (n3 : tb ≠ m.hb) (g1 : pb ≠ m.b) (g2 : pb ≠ m.wb) (g3 : pb ≠ m.hb) (g4 : pb ≠ tb) :
    Calls Try.prog 97 #[.pointer (some ⟨tb, 0, none⟩), .agg #[.int .i64 k.t, .int .i64 k.s, .int .i64 k.c, .int .i64 k.w, .int .i64 k.g, .int .i64 k.p, .int .i64 k.r, .pointer (some ⟨m.b, 0, none⟩), .int .i64 wh]] w fun e w' => e = .returned (.bool false) ∧ MemR w' m s' ∧ (∃ gb, w.heap.size ≤ gb ∧ gb ∉ [m.b, m.wb, m.hb, tb, pb] ∧ Blk w' tb ({ x with sa := 0, sc := 0, pc := 7, er := 6, hd := 0, va := 0, st := s'.steps, gv := .pointer (some ⟨gb, 0, none⟩) } : AlS).cs 150 ∧ Blk w' gb (⟨0, x.at_, 0⟩ : GiveS).cs 142) ∧ Blk w' pb p'.cs 145 ∧ Only [m.b, m.wb, m.hb, tb, pb] w w' := by
  have hres : PlS.res p' = .agg #[.int .i64 0, .int .i64 0] := by unfold PlS.res; rw [if_neg (by simp [hok]), if_neg (by simp [hok])]
  have HRES := Lib.hid hres
  have HOK := Lib.hid hok
  clear hres hok
  obtain ⟨sz, own, apc, ⟨pc, top, next, slot, ok⟩, at_, gn, pv, sa, sc, gv, er, hd, va, st⟩ := x
  simp only at hpc
  subst hpc
  replace hb : Blk w tb #[.int .i64 sz, .bool own, .int .i64 2, .int .i64 pc, .int .u64 top, .int .i64 next, .int .i64 slot, .bool ok, .int .i64 at_, .int .i64 gn, pv, .int .i64 sa, .int .i64 sc, gv, .int .i64 er, .int .u64 hd, .int .i64 va, .int .i64 st] 150 := hb
  have ht := hb.lt
  have hxn : w.heap.size ∉ [m.b, m.wb, m.hb, tb] := by
    have := hm.notin (Nat.le_refl _)
    simp only [List.mem_cons, List.not_mem_nil, or_false, not_or] at this ⊢
    exact ⟨this.1, this.2.1, this.2.2, by omega⟩
  have hnt : tb ∉ [m.b, m.wb, m.hb] := by simp only [List.mem_cons, List.not_mem_nil, or_false, not_or]; exact ⟨n1, n2, n3⟩
  have hxm : w.heap.size ∉ [m.b, m.wb, m.hb] := hm.notin (Nat.le_refl _)
  have hc0 := hb.cell
  have hf0 := hb.frozen
  have hX0 : Blk (w.alloc (.cells #[.int .i64 k.t, .int .i64 k.s, .int .i64 k.c, .int .i64 k.w, .int .i64 k.g, .int .i64 k.p, .int .i64 k.r, .pointer (some ⟨m.b, 0, none⟩), .int .i64 wh] 47)) w.heap.size #[.int .i64 k.t, .int .i64 k.s, .int .i64 k.c, .int .i64 k.w, .int .i64 k.g, .int .i64 k.p, .int .i64 k.r, .pointer (some ⟨m.b, 0, none⟩), .int .i64 wh] 47 := Blk.new w _ 47
  have hB0 := hb.alloc (.cells #[.int .i64 k.t, .int .i64 k.s, .int .i64 k.c, .int .i64 k.w, .int .i64 k.g, .int .i64 k.p, .int .i64 k.r, .pointer (some ⟨m.b, 0, none⟩), .int .i64 wh] 47)
  have hM0 := hm.alloc (.cells #[.int .i64 k.t, .int .i64 k.s, .int .i64 k.c, .int .i64 k.w, .int .i64 k.g, .int .i64 k.p, .int .i64 k.r, .pointer (some ⟨m.b, 0, none⟩), .int .i64 wh] 47)
  have hO0 : Only [m.b, m.wb, m.hb, tb] w (w.alloc (.cells #[.int .i64 k.t, .int .i64 k.s, .int .i64 k.c, .int .i64 k.w, .int .i64 k.g, .int .i64 k.p, .int .i64 k.r, .pointer (some ⟨m.b, 0, none⟩), .int .i64 wh] 47)) := (Only.refl _ w).alloc _
  have hpv2 : pv = _ := hpv
  clear hpv
  subst hpv2
  have hpl := hp.lt
  have hxg : w.heap.size ∉ [m.b, m.wb, m.hb, pb] := by
    simp only [List.mem_cons, List.not_mem_nil, or_false, not_or] at hxm ⊢
    exact ⟨hxm.1, hxm.2.1, hxm.2.2, by omega⟩
  have hng : tb ∉ [m.b, m.wb, m.hb, pb] := by
    simp only [List.mem_cons, List.not_mem_nil, or_false, not_or]
    exact ⟨n1, n2, n3, fun h => g4 h.symm⟩
  have hcall := place_step pb hk hM hI hst hM0.drew (hp.alloc (.cells #[.int .i64 k.t, .int .i64 k.s, .int .i64 k.c, .int .i64 k.w, .int .i64 k.g, .int .i64 k.p, .int .i64 k.r, .pointer (some ⟨m.b, 0, none⟩), .int .i64 wh] 47)).drew g1 g2 g3
  clear hst hI hM hk
  go_enter Try.func97, Try.ntmps97
  go_wp2
  go_region_held3 (fun w' => (∀ o, w'.cell? ⟨w.heap.size, o, none⟩ = (#[.int .i64 k.t, .int .i64 k.s, .int .i64 k.c, .int .i64 k.w, .int .i64 k.g, .int .i64 k.p, .int .i64 k.r, .pointer (some ⟨m.b, 0, none⟩), .int .i64 wh] : Array Value)[o]?) ∧ (∀ o, w'.cell? ⟨tb, o, none⟩ = (#[.int .i64 sz, .bool own, .int .i64 2, .int .i64 pc, .int .u64 top, .int .i64 next, .int .i64 slot, .bool ok, .int .i64 at_, .int .i64 gn, .pointer (some ⟨pb, 0, none⟩), .int .i64 sa, .int .i64 sc, gv, .int .i64 er, .int .u64 hd, .int .i64 va, .int .i64 st] : Array Value)[o]?)) ((refine ⟨?_, ?_⟩; (focus (refine Blk.cell (T := 47) ?_; repeat (first | with_reducible assumption | with_reducible apply Blk.drew | with_reducible apply Blk.alloc | (with_reducible refine Blk.only ?_ (by with_reducible assumption) (by first | exact List.not_mem_nil | with_reducible assumption)) | (with_reducible refine Blk.other ?_ _ _ (by simp only; omega))))); (focus (refine Blk.cell (T := 150) ?_; repeat (first | with_reducible assumption | with_reducible apply Blk.drew | with_reducible apply Blk.alloc | (with_reducible refine Blk.only ?_ (by with_reducible assumption) (by first | exact List.not_mem_nil | with_reducible assumption)) | (with_reducible refine Blk.other ?_ _ _ (by simp only; omega)))))))
    (first
      | (go_at_call 85; with_reducible refine hcall.mono ?_; rintro e w2 ⟨rfl, hm2, hp2, ho2⟩))
  have hB2 : Blk w2 tb #[.int .i64 sz, .bool own, .int .i64 2, .int .i64 pc, .int .u64 top, .int .i64 next, .int .i64 slot, .bool ok, .int .i64 at_, .int .i64 gn, .pointer (some ⟨pb, 0, none⟩), .int .i64 sa, .int .i64 sc, gv, .int .i64 er, .int .u64 hd, .int .i64 va, .int .i64 st] 150 := by repeat (first | with_reducible assumption | with_reducible apply Blk.drew | with_reducible apply Blk.alloc | (with_reducible refine Blk.only ?_ (by with_reducible assumption) (by first | exact List.not_mem_nil | with_reducible assumption)) | (with_reducible refine Blk.other ?_ _ _ (by simp only; omega)))
  have hX2 : Blk w2 w.heap.size #[.int .i64 k.t, .int .i64 k.s, .int .i64 k.c, .int .i64 k.w, .int .i64 k.g, .int .i64 k.p, .int .i64 k.r, .pointer (some ⟨m.b, 0, none⟩), .int .i64 wh] 47 := by repeat (first | with_reducible assumption | with_reducible apply Blk.drew | with_reducible apply Blk.alloc | (with_reducible refine Blk.only ?_ (by with_reducible assumption) (by first | exact List.not_mem_nil | with_reducible assumption)) | (with_reducible refine Blk.other ?_ _ _ (by simp only; omega)))
  have hO2 : Only [m.b, m.wb, m.hb, tb, pb] w w2 := by repeat (first | with_reducible exact Only.refl _ _ | with_reducible assumption | with_reducible apply Only.drew | with_reducible apply Only.alloc | (with_reducible refine Only.setCell ?_ _ _ (by simp)) | (with_reducible refine Only.trans' ?_ (by with_reducible assumption) (by intro x hx _; first | exact absurd hx List.not_mem_nil | (simp only [List.mem_cons, List.not_mem_nil, or_false] at hx ⊢; omega))))
  have hsp := spot_any p' pb hp2
  rw [HRES.out, HOK.out] at hsp
  have hf2 := hB2.frozen
  have hc2 := hB2.cell
  have ht2 := hB2.lt
  go_wp2_with fail
  refine hsp.mono ?_
  rintro e w3 ⟨rfl, ho3⟩
  have hB3 := hB2.only ho3 (by simp)
  have hp3 := hp2.only ho3 (by simp)
  have hm3 := hm2.only ho3 (by simp) (by simp) (by simp)
  have hX3 := hX2.only ho3 (by simp)
  have hX3c := hX3.cell
  have hf3 := hB3.frozen
  have hc3 := hB3.cell
  have ht3 := hB3.lt
  have hpl3 := hp3.lt
  have hxl3 := hX3.lt
  have hm4 := (((hm3.other ⟨tb, 11, none⟩ (.int .i64 0) n1.symm n2.symm n3.symm).other ⟨tb, 12, none⟩ (.int .i64 0) n1.symm n2.symm n3.symm).other ⟨tb, 2, none⟩ (.int .i64 3) n1.symm n2.symm n3.symm).alloc (.cells #[.int .i64 0, .int .i64 0] 103)
  have hB4 : Blk ((((w3.setCell ⟨tb, 11, none⟩ (.int .i64 0)).setCell ⟨tb, 12, none⟩ (.int .i64 0)).setCell ⟨tb, 2, none⟩ (.int .i64 3)).alloc (.cells #[.int .i64 0, .int .i64 0] 103)) tb (⟨sz, own, 3, ⟨pc, top, next, slot, ok⟩, at_, gn, .pointer (some ⟨pb, 0, none⟩), 0, 0, gv, er, hd, va, st⟩ : AlS).cs 150 := (((hB3.set 11 _ rfl).set 12 _ rfl).set 2 _ rfl).alloc _
  have hp4 : Blk ((((w3.setCell ⟨tb, 11, none⟩ (.int .i64 0)).setCell ⟨tb, 12, none⟩ (.int .i64 0)).setCell ⟨tb, 2, none⟩ (.int .i64 3)).alloc (.cells #[.int .i64 0, .int .i64 0] 103)) pb p'.cs 145 := (((hp3.other _ _ g4).other _ _ g4).other _ _ g4).alloc _
  have hO4 : Only [m.b, m.wb, m.hb, tb, pb] w ((((w3.setCell ⟨tb, 11, none⟩ (.int .i64 0)).setCell ⟨tb, 12, none⟩ (.int .i64 0)).setCell ⟨tb, 2, none⟩ (.int .i64 3)).alloc (.cells #[.int .i64 0, .int .i64 0] 103)) := ((((hO2.trans' ho3 (fun _ h _ => (List.not_mem_nil h).elim)).setCell _ _ (by simp)).setCell _ _ (by simp)).setCell _ _ (by simp)).alloc _
  have hcall2 := aend_any k wh _ tb 6 hm4 hB4 n1 n2 n3
  clear hf2 hc2 ht2 hcall hc0 hf0
  go_wp2_with fail
  refine hcall2.mono ?_
  rintro e w5 ⟨rfl, hm5, hB5, ho5⟩
  have hp5 := hp4.only ho5 (by simp only [List.mem_cons, List.not_mem_nil, or_false]; exact g4)
  have hO5 := hO4.trans' ho5 (by intro x hx _; simp only [List.mem_cons, List.not_mem_nil, or_false] at hx ⊢; omega)
  have hB5' : Blk w5 tb #[.int .i64 sz, .bool own, .int .i64 3, .int .i64 pc, .int .u64 top, .int .i64 next, .int .i64 slot, .bool ok, .int .i64 at_, .int .i64 gn, .pointer (some ⟨pb, 0, none⟩), .int .i64 0, .int .i64 0, gv, .int .i64 6, .int .u64 0, .int .i64 0, .int .i64 s'.steps] 150 := hB5
  have hf5 := hB5.frozen
  have hc5 := hB5'.cell
  have ht5 := hB5.lt
  have hpl5 := hp5.lt
  have hO5s := hO5.size
  obtain ⟨l1, l2, l3⟩ := hm5.lts
  clear hX3c hf3 hc3 hcall2 hB4 hp4 hm4 hO4
  go_wp2_with (first | (go_at_call 77; refine (newgive_any _ _).mono ?_; rintro e w' ⟨rfl, rfl⟩))
  go_ret
  refine ⟨rfl, ?_, ⟨w5.heap.size, hO5s, ?_, ?_, ?_⟩, ?_, ?_⟩
  · exact ((hm5.other _ _ n1.symm n2.symm n3.symm).other _ _ n1.symm n2.symm n3.symm).alloc _
  · simp only [List.mem_cons, List.not_mem_nil, or_false, not_or]; omega
  · exact ((hB5'.set 13 _ rfl).set 2 _ rfl).alloc _
  · exact Blk.new' (by simp) rfl
  · exact ((hp5.other _ _ g4).other _ _ g4).alloc _
  · exact ((hO5.setCell _ _ (by simp)).setCell _ _ (by simp)).alloc _

set_option maxRecDepth 100000 in
set_option maxHeartbeats 1600000 in
theorem astep1 (k : Cfg) (wh : Int) (x : AlS) (tb : Nat) (hm : MemR w m s) (hb : Blk w tb x.cs 150) (hpc : x.pc = 1) (n1 : tb ≠ m.b) (n2 : tb ≠ m.wb) (n3 : tb ≠ m.hb) :
    Calls Try.prog 97 #[.pointer (some ⟨tb, 0, none⟩), .agg #[.int .i64 k.t, .int .i64 k.s, .int .i64 k.c, .int .i64 k.w, .int .i64 k.g, .int .i64 k.p, .int .i64 k.r, .pointer (some ⟨m.b, 0, none⟩), .int .i64 wh]] w fun e w' => e = .returned (.bool false) ∧ MemR w' m ((s.by wh).load (aSlot k x.at_)) ∧ (∃ pb, w.heap.size ≤ pb ∧ pb ∉ [m.b, m.wb, m.hb, tb] ∧ Blk w' tb ({ x with gn := slGn (s.get (aSlot k x.at_)), pc := 2, pv := .pointer (some ⟨pb, 0, none⟩) } : AlS).cs 150 ∧ Blk w' pb (pl0 (cls x.sz)).cs 145) ∧ Only [m.b, m.wb, m.hb, tb] w w' := by
  have hU := hm.get_rng (aSlot k x.at_)
  have hfd := field40
  obtain ⟨sz, own, apc, ⟨pc, top, next, slot, ok⟩, at_, gn, pv, sa, sc, gv, er, hd, va, st⟩ := x
  simp only at hpc
  subst hpc
  replace hb : Blk w tb #[.int .i64 sz, .bool own, .int .i64 1, .int .i64 pc, .int .u64 top, .int .i64 next, .int .i64 slot, .bool ok, .int .i64 at_, .int .i64 gn, pv, .int .i64 sa, .int .i64 sc, gv, .int .i64 er, .int .u64 hd, .int .i64 va, .int .i64 st] 150 := hb
  have ht := hb.lt
  have hxn : w.heap.size ∉ [m.b, m.wb, m.hb, tb] := by
    have := hm.notin (Nat.le_refl _)
    simp only [List.mem_cons, List.not_mem_nil, or_false, not_or] at this ⊢
    exact ⟨this.1, this.2.1, this.2.2, by omega⟩
  have hnt : tb ∉ [m.b, m.wb, m.hb] := by simp only [List.mem_cons, List.not_mem_nil, or_false, not_or]; exact ⟨n1, n2, n3⟩
  have hxm : w.heap.size ∉ [m.b, m.wb, m.hb] := hm.notin (Nat.le_refl _)
  have hc0 := hb.cell
  have hf0 := hb.frozen
  have hX0 : Blk (w.alloc (.cells #[.int .i64 k.t, .int .i64 k.s, .int .i64 k.c, .int .i64 k.w, .int .i64 k.g, .int .i64 k.p, .int .i64 k.r, .pointer (some ⟨m.b, 0, none⟩), .int .i64 wh] 47)) w.heap.size #[.int .i64 k.t, .int .i64 k.s, .int .i64 k.c, .int .i64 k.w, .int .i64 k.g, .int .i64 k.p, .int .i64 k.r, .pointer (some ⟨m.b, 0, none⟩), .int .i64 wh] 47 := Blk.new w _ 47
  have hB0 := hb.alloc (.cells #[.int .i64 k.t, .int .i64 k.s, .int .i64 k.c, .int .i64 k.w, .int .i64 k.g, .int .i64 k.p, .int .i64 k.r, .pointer (some ⟨m.b, 0, none⟩), .int .i64 wh] 47)
  have hM0 := hm.alloc (.cells #[.int .i64 k.t, .int .i64 k.s, .int .i64 k.c, .int .i64 k.w, .int .i64 k.g, .int .i64 k.p, .int .i64 k.r, .pointer (some ⟨m.b, 0, none⟩), .int .i64 wh] 47)
  have hO0 : Only [m.b, m.wb, m.hb, tb] w (w.alloc (.cells #[.int .i64 k.t, .int .i64 k.s, .int .i64 k.c, .int .i64 k.w, .int .i64 k.g, .int .i64 k.p, .int .i64 k.r, .pointer (some ⟨m.b, 0, none⟩), .int .i64 wh] 47)) := (Only.refl _ w).alloc _
  simp only at hU
  obtain ⟨cv, hcv⟩ : ∃ cv, cls sz = cv := ⟨_, rfl⟩
  have hcc : ∀ w', Calls Try.prog 34 #[.int .i64 sz] w' fun e w2 => e = .returned (.int .i64 cv) ∧ w' = w2 := fun w' => by
    have := class_any sz w'
    rw [hcv] at this
    exact this
  rw [hcv]
  clear hcv
  have h8 : ∀ w', Blk w' tb #[.int .i64 sz, .bool own, .int .i64 1, .int .i64 pc, .int .u64 top, .int .i64 next, .int .i64 slot, .bool ok, .int .i64 at_, .int .i64 gn, pv, .int .i64 sa, .int .i64 sc, gv, .int .i64 er, .int .u64 hd, .int .i64 va, .int .i64 st] 150 → w'.cell? ⟨tb, 8, none⟩ = some (.int .i64 at_) := fun w' h => h.cell 8
  have h8s : ∀ w' u v, Blk w' tb #[.int .i64 sz, .bool own, .int .i64 1, .int .i64 pc, .int .u64 top, .int .i64 next, .int .i64 slot, .bool ok, .int .i64 at_, .int .i64 gn, pv, .int .i64 sa, .int .i64 sc, gv, .int .i64 er, .int .u64 hd, .int .i64 va, .int .i64 st] 150 → ((w'.setCell ⟨tb, 9, none⟩ u).setCell ⟨tb, 2, none⟩ v).cell? ⟨tb, 8, none⟩ = some (.int .i64 at_) := fun w' u v h => ((h.set 9 u rfl).set 2 v rfl).cell 8
  have h8t : ∀ w' u, Blk w' tb #[.int .i64 sz, .bool own, .int .i64 1, .int .i64 pc, .int .u64 top, .int .i64 next, .int .i64 slot, .bool ok, .int .i64 at_, .int .i64 gn, pv, .int .i64 sa, .int .i64 sc, gv, .int .i64 er, .int .u64 hd, .int .i64 va, .int .i64 st] 150 → (w'.setCell ⟨tb, 9, none⟩ u).cell? ⟨tb, 8, none⟩ = some (.int .i64 at_) := fun w' u h => (h.set 9 u rfl).cell 8
  have hM := (hM0.alloc (.cells #[.int .i64 k.t, .int .i64 k.s, .int .i64 k.c, .int .i64 k.w, .int .i64 k.g, .int .i64 k.p, .int .i64 k.r] 23)).drew
  have hB := (hB0.alloc (.cells #[.int .i64 k.t, .int .i64 k.s, .int .i64 k.c, .int .i64 k.w, .int .i64 k.g, .int .i64 k.p, .int .i64 k.r] 23)).drew
  have hX := (hX0.alloc (.cells #[.int .i64 k.t, .int .i64 k.s, .int .i64 k.c, .int .i64 k.w, .int .i64 k.g, .int .i64 k.p, .int .i64 k.r] 23)).drew
  have hO := (hO0.alloc (.cells #[.int .i64 k.t, .int .i64 k.s, .int .i64 k.c, .int .i64 k.w, .int .i64 k.g, .int .i64 k.p, .int .i64 k.r] 23)).drew
  go_enter Try.func97, Try.ntmps97
  go_wp2
  go_region_held3 (fun w' => (∀ o, w'.cell? ⟨w.heap.size, o, none⟩ = (#[.int .i64 k.t, .int .i64 k.s, .int .i64 k.c, .int .i64 k.w, .int .i64 k.g, .int .i64 k.p, .int .i64 k.r, .pointer (some ⟨m.b, 0, none⟩), .int .i64 wh] : Array Value)[o]?) ∧ w'.cell? ⟨tb, 8, none⟩ = some (.int .i64 at_)) ((refine ⟨?_, ?_⟩; (focus (refine Blk.cell (T := 47) ?_; repeat (first | with_reducible assumption | with_reducible apply Blk.drew | with_reducible apply Blk.alloc | (with_reducible refine Blk.only ?_ (by with_reducible assumption) (by first | exact List.not_mem_nil | with_reducible assumption)) | (with_reducible refine Blk.other ?_ _ _ (by simp only; omega))))); (focus (first | (with_reducible refine h8 _ ?_; (repeat (first | with_reducible assumption | with_reducible apply Blk.drew | with_reducible apply Blk.alloc | (with_reducible refine Blk.only ?_ (by with_reducible assumption) (by first | exact List.not_mem_nil | with_reducible assumption)) | (with_reducible refine Blk.other ?_ _ _ (by simp only; omega)))); done) | (with_reducible refine h8s _ _ _ ?_; (repeat (first | with_reducible assumption | with_reducible apply Blk.drew | with_reducible apply Blk.alloc | (with_reducible refine Blk.only ?_ (by with_reducible assumption) (by first | exact List.not_mem_nil | with_reducible assumption)) | (with_reducible refine Blk.other ?_ _ _ (by simp only; omega)))); done) | (with_reducible refine h8t _ _ ?_; (repeat (first | with_reducible assumption | with_reducible apply Blk.drew | with_reducible apply Blk.alloc | (with_reducible refine Blk.only ?_ (by with_reducible assumption) (by first | exact List.not_mem_nil | with_reducible assumption)) | (with_reducible refine Blk.other ?_ _ _ (by simp only; omega)))); done)))))
    (first
      | (go_at_call 49; with_reducible refine (slota_any _ k _).mono ?_; rintro e w' ⟨rfl, rfl⟩)
      | (go_at_call 69; with_reducible refine (load_env k wh hM).mono ?_; rintro e w1 ⟨rfl, hm1, ho1⟩; have hB1 := hB.only ho1 hnt; have hX1 := hX.only ho1 hxm)
      | (go_at_call 98; with_reducible refine (slot_word _ _ hU).mono ?_; rintro e w2 ⟨rfl, ho2⟩; have hB2 := hB1.only ho2 (by simp); have hf2 := hB2.frozen; have hc2 := hB2.cell; have ht2 := hB2.lt))
  all_goals
    have hm2 := (hm1.only ho2 (by simp) (by simp) (by simp) |>.other ⟨tb, 9, none⟩ (.int .i64 (slGn (s.get (aSlot k at_)))) n1.symm n2.symm n3.symm).other ⟨tb, 2, none⟩ (.int .i64 2) n1.symm n2.symm n3.symm
    have hB3 : Blk ((w2.setCell ⟨tb, 9, none⟩ (.int .i64 (slGn (s.get (aSlot k at_))))).setCell ⟨tb, 2, none⟩ (.int .i64 2)) tb #[.int .i64 sz, .bool own, .int .i64 2, .int .i64 pc, .int .u64 top, .int .i64 next, .int .i64 slot, .bool ok, .int .i64 at_, .int .i64 (slGn (s.get (aSlot k at_))), pv, .int .i64 sa, .int .i64 sc, gv, .int .i64 er, .int .u64 hd, .int .i64 va, .int .i64 st] 150 := (hB2.set 9 _ rfl).set 2 _ rfl
    have hO2 : Only [m.b, m.wb, m.hb, tb] w ((w2.setCell ⟨tb, 9, none⟩ (.int .i64 (slGn (s.get (aSlot k at_))))).setCell ⟨tb, 2, none⟩ (.int .i64 2)) := (((hO.trans' ho1 (by intro x hx _; simp only [List.mem_cons, List.not_mem_nil, or_false] at hx ⊢; omega)).trans' ho2 (fun _ h _ => (List.not_mem_nil h).elim)).setCell _ _ (by simp)).setCell _ _ (by simp)
    obtain ⟨w3, hw3⟩ : ∃ w3, (w2.setCell ⟨tb, 9, none⟩ (.int .i64 (slGn (s.get (aSlot k at_))))).setCell ⟨tb, 2, none⟩ (.int .i64 2) = w3 := ⟨_, rfl⟩
    rw [hw3] at hm2 hB3 hO2 ⊢
    clear hw3 hf2 hc2 ht2 hB2 hB1 hX1 ho1 ho2 hm1 h8 h8s h8t hc0 hf0
    have hf3 := hB3.frozen
    have hc3 := hB3.cell
    have ht3 := hB3.lt
    obtain ⟨l1, l2, l3⟩ := hm2.lts
    have hsz := hO2.size
    go_wp2_with (first | (go_at_call 34; with_reducible refine (hcc _).mono ?_; rintro e w' ⟨rfl, rfl⟩) | (go_at_call 84; refine (plnew_any _ _).mono ?_; rintro e w' ⟨rfl, rfl⟩))
    go_ret
    refine ⟨rfl, ?_, ⟨w3.heap.size, hsz, ?_, ?_, ?_⟩, ?_⟩
    · exact (hm2.other _ _ n1.symm n2.symm n3.symm).alloc _
    · simp only [List.mem_cons, List.not_mem_nil, or_false, not_or]; omega
    · exact (hB3.set 10 _ rfl).alloc _
    · exact Blk.new' (by simp) rfl
    · exact (hO2.setCell _ _ (by simp)).alloc _

set_option maxRecDepth 100000 in
set_option maxHeartbeats 3200000 in
theorem astep5 (k : Cfg) (wh : Int) (x : AlS) (tb : Nat) (hm : MemR w m s) (hb : Blk w tb x.cs 150) (hpc : x.pc = 5) (n1 : tb ≠ m.b) (n2 : tb ≠ m.wb) (n3 : tb ≠ m.hb) :
    Calls Try.prog 97 #[.pointer (some ⟨tb, 0, none⟩), .agg #[.int .i64 k.t, .int .i64 k.s, .int .i64 k.c, .int .i64 k.w, .int .i64 k.g, .int .i64 k.p, .int .i64 k.r, .pointer (some ⟨m.b, 0, none⟩), .int .i64 wh]] w fun e w' => e = .returned (.bool false) ∧ MemR w' m ((s.by wh).store (aSlot k x.at_) (putSlot 1 x.sa x.gn 0)) ∧ Blk w' tb ({ x with pc := 6, er := 0, hd := putHandle x.at_ x.gn, va := 0, st := ((s.by wh).store (aSlot k x.at_) (putSlot 1 x.sa x.gn 0)).steps } : AlS).cs 150 ∧ Only [m.b, m.wb, m.hb, tb] w w' := by
  obtain ⟨sz, own, apc, ⟨pc, top, next, slot, ok⟩, at_, gn, pv, sa, sc, gv, er, hd, va, st⟩ := x
  simp only at hpc
  subst hpc
  replace hb : Blk w tb #[.int .i64 sz, .bool own, .int .i64 5, .int .i64 pc, .int .u64 top, .int .i64 next, .int .i64 slot, .bool ok, .int .i64 at_, .int .i64 gn, pv, .int .i64 sa, .int .i64 sc, gv, .int .i64 er, .int .u64 hd, .int .i64 va, .int .i64 st] 150 := hb
  have ht := hb.lt
  have hxn : w.heap.size ∉ [m.b, m.wb, m.hb, tb] := by
    have := hm.notin (Nat.le_refl _)
    simp only [List.mem_cons, List.not_mem_nil, or_false, not_or] at this ⊢
    exact ⟨this.1, this.2.1, this.2.2, by omega⟩
  have hnt : tb ∉ [m.b, m.wb, m.hb] := by simp only [List.mem_cons, List.not_mem_nil, or_false, not_or]; exact ⟨n1, n2, n3⟩
  have hxm : w.heap.size ∉ [m.b, m.wb, m.hb] := hm.notin (Nat.le_refl _)
  have hc0 := hb.cell
  have hf0 := hb.frozen
  have hX0 : Blk (w.alloc (.cells #[.int .i64 k.t, .int .i64 k.s, .int .i64 k.c, .int .i64 k.w, .int .i64 k.g, .int .i64 k.p, .int .i64 k.r, .pointer (some ⟨m.b, 0, none⟩), .int .i64 wh] 47)) w.heap.size #[.int .i64 k.t, .int .i64 k.s, .int .i64 k.c, .int .i64 k.w, .int .i64 k.g, .int .i64 k.p, .int .i64 k.r, .pointer (some ⟨m.b, 0, none⟩), .int .i64 wh] 47 := Blk.new w _ 47
  have hB0 := hb.alloc (.cells #[.int .i64 k.t, .int .i64 k.s, .int .i64 k.c, .int .i64 k.w, .int .i64 k.g, .int .i64 k.p, .int .i64 k.r, .pointer (some ⟨m.b, 0, none⟩), .int .i64 wh] 47)
  have hM0 := hm.alloc (.cells #[.int .i64 k.t, .int .i64 k.s, .int .i64 k.c, .int .i64 k.w, .int .i64 k.g, .int .i64 k.p, .int .i64 k.r, .pointer (some ⟨m.b, 0, none⟩), .int .i64 wh] 47)
  have hO0 : Only [m.b, m.wb, m.hb, tb] w (w.alloc (.cells #[.int .i64 k.t, .int .i64 k.s, .int .i64 k.c, .int .i64 k.w, .int .i64 k.g, .int .i64 k.p, .int .i64 k.r, .pointer (some ⟨m.b, 0, none⟩), .int .i64 wh] 47)) := (Only.refl _ w).alloc _
  simp only
  obtain ⟨s1, hs1⟩ : ∃ s1, (s.by wh).store (aSlot k at_) (putSlot 1 sa gn 0) = s1 := ⟨_, rfl⟩
  obtain ⟨hv, hhv⟩ : ∃ hv, putHandle at_ gn = hv := ⟨_, rfl⟩
  have hph : ∀ w', Calls Try.prog 112 #[.agg #[.int .i64 at_, .int .i64 gn]] w' fun e w2 => e = .returned (.int .u64 hv) ∧ Only [] w' w2 := fun w' => by
    have := puthandle_any at_ gn w'
    rw [hhv] at this
    exact this
  have HS1 := Lib.hid hs1
  rw [hs1, hhv]
  clear hs1 hhv
  have hst : ∀ w', MemR w' m s → Calls Try.prog 70 #[.agg #[.int .i64 k.t, .int .i64 k.s, .int .i64 k.c, .int .i64 k.w, .int .i64 k.g, .int .i64 k.p, .int .i64 k.r, .pointer (some ⟨m.b, 0, none⟩), .int .i64 wh], .int .i64 (aSlot k at_), .int .u64 (putSlot 1 sa gn 0)] w' fun e w2 => e = .returned (.tuple #[]) ∧ MemR w2 m s1 ∧ Only m.l w' w2 := fun w' h => by
    have := store_env (a := aSlot k at_) k wh h (putSlot_rng 1 sa gn 0)
    rw [HS1.out] at this
    exact this
  go_enter Try.func97, Try.ntmps97
  go_wp2
  go_region_held3 (fun w' => (∀ o, w'.cell? ⟨w.heap.size, o, none⟩ = (#[.int .i64 k.t, .int .i64 k.s, .int .i64 k.c, .int .i64 k.w, .int .i64 k.g, .int .i64 k.p, .int .i64 k.r, .pointer (some ⟨m.b, 0, none⟩), .int .i64 wh] : Array Value)[o]?) ∧ (∀ o, w'.cell? ⟨tb, o, none⟩ = (#[.int .i64 sz, .bool own, .int .i64 5, .int .i64 pc, .int .u64 top, .int .i64 next, .int .i64 slot, .bool ok, .int .i64 at_, .int .i64 gn, pv, .int .i64 sa, .int .i64 sc, gv, .int .i64 er, .int .u64 hd, .int .i64 va, .int .i64 st] : Array Value)[o]?)) ((refine ⟨?_, ?_⟩; (focus (refine Blk.cell (T := 47) ?_; repeat (first | with_reducible assumption | with_reducible apply Blk.drew | with_reducible apply Blk.alloc | (with_reducible refine Blk.only ?_ (by with_reducible assumption) (by first | exact List.not_mem_nil | with_reducible assumption)) | (with_reducible refine Blk.other ?_ _ _ (by simp only; omega))))); (focus (refine Blk.cell (T := 150) ?_; repeat (first | with_reducible assumption | with_reducible apply Blk.drew | with_reducible apply Blk.alloc | (with_reducible refine Blk.only ?_ (by with_reducible assumption) (by first | exact List.not_mem_nil | with_reducible assumption)) | (with_reducible refine Blk.other ?_ _ _ (by simp only; omega)))))))
    (first
      | (go_at_call 49; with_reducible refine (slota_any _ k _).mono ?_; rintro e w1 ⟨rfl, rfl⟩)
      | (go_at_call 101; with_reducible refine (putslot_any _ _ _ _ _).mono ?_; rintro e w1 ⟨rfl, ho1⟩)
      | (go_at_call 70; with_reducible refine (hst _ (by repeat (first | with_reducible assumption | with_reducible apply MemR.drew | with_reducible apply MemR.alloc | (with_reducible refine MemR.only ?_ (by with_reducible assumption) List.not_mem_nil List.not_mem_nil List.not_mem_nil) | (with_reducible refine MemR.other ?_ _ _ (by simp only; omega) (by simp only; omega) (by simp only; omega))))).mono ?_; rintro e w2 ⟨rfl, hm2, ho2⟩))
  all_goals
    have hB2 : Blk w2 tb #[.int .i64 sz, .bool own, .int .i64 5, .int .i64 pc, .int .u64 top, .int .i64 next, .int .i64 slot, .bool ok, .int .i64 at_, .int .i64 gn, pv, .int .i64 sa, .int .i64 sc, gv, .int .i64 er, .int .u64 hd, .int .i64 va, .int .i64 st] 150 := by repeat (first | with_reducible assumption | with_reducible apply Blk.drew | with_reducible apply Blk.alloc | (with_reducible refine Blk.only ?_ (by with_reducible assumption) (by first | exact List.not_mem_nil | with_reducible assumption)) | (with_reducible refine Blk.other ?_ _ _ (by simp only; omega)))
    have hX2 : Blk w2 w.heap.size #[.int .i64 k.t, .int .i64 k.s, .int .i64 k.c, .int .i64 k.w, .int .i64 k.g, .int .i64 k.p, .int .i64 k.r, .pointer (some ⟨m.b, 0, none⟩), .int .i64 wh] 47 := by repeat (first | with_reducible assumption | with_reducible apply Blk.drew | with_reducible apply Blk.alloc | (with_reducible refine Blk.only ?_ (by with_reducible assumption) (by first | exact List.not_mem_nil | with_reducible assumption)) | (with_reducible refine Blk.other ?_ _ _ (by simp only; omega)))
    have hO2 : Only [m.b, m.wb, m.hb, tb] w w2 := by repeat (first | with_reducible exact Only.refl _ _ | with_reducible assumption | with_reducible apply Only.drew | with_reducible apply Only.alloc | (with_reducible refine Only.setCell ?_ _ _ (by simp)) | (with_reducible refine Only.trans' ?_ (by with_reducible assumption) (by intro x hx _; first | exact absurd hx List.not_mem_nil | (simp only [List.mem_cons, List.not_mem_nil, or_false] at hx ⊢; omega))))
    have h89 : ∀ w', Blk w' tb #[.int .i64 sz, .bool own, .int .i64 5, .int .i64 pc, .int .u64 top, .int .i64 next, .int .i64 slot, .bool ok, .int .i64 at_, .int .i64 gn, pv, .int .i64 sa, .int .i64 sc, gv, .int .i64 er, .int .u64 hd, .int .i64 va, .int .i64 st] 150 → w'.cell? ⟨tb, 8, none⟩ = some (.int .i64 at_) ∧ w'.cell? ⟨tb, 9, none⟩ = some (.int .i64 gn) := fun w' h => ⟨h.cell 8, h.cell 9⟩
    have h89s : ∀ w' u v y z, Blk w' tb #[.int .i64 sz, .bool own, .int .i64 5, .int .i64 pc, .int .u64 top, .int .i64 next, .int .i64 slot, .bool ok, .int .i64 at_, .int .i64 gn, pv, .int .i64 sa, .int .i64 sc, gv, .int .i64 er, .int .u64 hd, .int .i64 va, .int .i64 st] 150 → ((((w'.setCell ⟨tb, 14, none⟩ u).setCell ⟨tb, 15, none⟩ v).setCell ⟨tb, 16, none⟩ y).setCell ⟨tb, 17, none⟩ z).cell? ⟨tb, 8, none⟩ = some (.int .i64 at_) ∧ ((((w'.setCell ⟨tb, 14, none⟩ u).setCell ⟨tb, 15, none⟩ v).setCell ⟨tb, 16, none⟩ y).setCell ⟨tb, 17, none⟩ z).cell? ⟨tb, 9, none⟩ = some (.int .i64 gn) := fun w' u v y z h => ⟨((((h.set 14 u rfl).set 15 v rfl).set 16 y rfl).set 17 z rfl).cell 8, ((((h.set 14 u rfl).set 15 v rfl).set 16 y rfl).set 17 z rfl).cell 9⟩
    have ht2 := hB2.lt
    have hxt : w.heap.size ≠ tb := by omega
    clear ho2
    go_wp2
    have hBd := hB2.drew
    have hXd := hX2.drew
    have hMd := hm2.drew
    have hOd := hO2.drew
    have hf2 := hBd.frozen
    have hc2 := hBd.cell
    go_region_held3 (fun w' => (∀ o, w'.cell? ⟨w.heap.size, o, none⟩ = (#[.int .i64 k.t, .int .i64 k.s, .int .i64 k.c, .int .i64 k.w, .int .i64 k.g, .int .i64 k.p, .int .i64 k.r, .pointer (some ⟨m.b, 0, none⟩), .int .i64 wh] : Array Value)[o]?) ∧ w'.cell? ⟨tb, 8, none⟩ = some (.int .i64 at_) ∧ w'.cell? ⟨tb, 9, none⟩ = some (.int .i64 gn)) (first | (refine ⟨?_, ?_⟩; (focus (refine Blk.cell (T := 47) ?_; (repeat (first | with_reducible assumption | with_reducible apply Blk.drew | with_reducible apply Blk.alloc | (with_reducible refine Blk.only ?_ (by with_reducible assumption) (by first | exact List.not_mem_nil | with_reducible assumption)) | (with_reducible refine Blk.other ?_ _ _ (by simp only; omega)))); done)); (focus (first | (with_reducible refine h89 _ ?_; (repeat (first | with_reducible assumption | with_reducible apply Blk.drew | with_reducible apply Blk.alloc | (with_reducible refine Blk.only ?_ (by with_reducible assumption) (by first | exact List.not_mem_nil | with_reducible assumption)) | (with_reducible refine Blk.other ?_ _ _ (by simp only; omega)))); done) | (with_reducible refine h89s _ _ _ _ _ ?_; (repeat (first | with_reducible assumption | with_reducible apply Blk.drew | with_reducible apply Blk.alloc | (with_reducible refine Blk.only ?_ (by with_reducible assumption) (by first | exact List.not_mem_nil | with_reducible assumption)) | (with_reducible refine Blk.other ?_ _ _ (by simp only; omega)))); done)))) | exact ⟨hE4, hK8, hK9⟩)
      (first
        | (go_at_call 112; with_reducible refine (hph _).mono ?_; rintro e w3 ⟨rfl, ho3⟩; have hB3 := hBd.only ho3 (by simp); have hm3 := hMd.only ho3 (by simp) (by simp) (by simp); have hf3 := hB3.frozen; have hc3 := hB3.cell; have ht3 := hB3.lt; have hX3 := hXd.only ho3 (by simp))
        | (go_at_call 61; with_reducible refine (now_env k wh hm3).mono ?_; rintro e w4 ⟨rfl, rfl⟩; have hB4 := ((((hB3.set 14 (.int .i64 0) rfl).set 15 (.int .u64 hv) rfl).set 16 (.int .i64 0) rfl).set 17 (.int .i64 s1.steps) rfl).alloc (.cells #[.int .i64 k.t, .int .i64 k.s, .int .i64 k.c, .int .i64 k.w, .int .i64 k.g, .int .i64 k.p, .int .i64 k.r, .pointer (some ⟨m.b, 0, none⟩), .int .i64 wh] 47); have hK8 := (hB4.cell 8).trans (show _ = some (Value.int .i64 at_) from rfl); have hK9 := (hB4.cell 9).trans (show _ = some (Value.int .i64 gn) from rfl); have hE4 := (((((hX3.other ⟨tb, 14, none⟩ (.int .i64 0) hxt).other ⟨tb, 15, none⟩ (.int .u64 hv) hxt).other ⟨tb, 16, none⟩ (.int .i64 0) hxt).other ⟨tb, 17, none⟩ (.int .i64 s1.steps) hxt).alloc (.cells #[.int .i64 k.t, .int .i64 k.s, .int .i64 k.c, .int .i64 k.w, .int .i64 k.g, .int .i64 k.p, .int .i64 k.r, .pointer (some ⟨m.b, 0, none⟩), .int .i64 wh] 47)).cell))
    all_goals
      have hO3 : Only [m.b, m.wb, m.hb, tb] w w3 := hOd.trans' ho3 (fun _ h _ => (List.not_mem_nil h).elim)
      go_wp2
      go_ret
      refine ⟨rfl, ?_, ?_, ?_⟩
      · exact (((((hm3.other _ _ n1.symm n2.symm n3.symm).other _ _ n1.symm n2.symm n3.symm).other _ _ n1.symm n2.symm n3.symm).other _ _ n1.symm n2.symm n3.symm).other _ _ n1.symm n2.symm n3.symm).alloc _
      · exact (((((hB3.set 14 _ rfl).set 15 _ rfl).set 16 _ rfl).set 17 _ rfl).set 2 _ rfl).alloc _
      · exact (((((hO3.setCell _ _ (by simp)).setCell _ _ (by simp)).setCell _ _ (by simp)).setCell _ _ (by simp)).setCell _ _ (by simp)).alloc _
end
end Go.Proofs.Yteoimmjgnflmmaa
