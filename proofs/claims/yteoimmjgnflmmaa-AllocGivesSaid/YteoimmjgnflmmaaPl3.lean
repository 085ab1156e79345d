/-
  What a thread does, step by step, that wants words of a class: scanning, taking, opening, leaving.
-/
import Derived.Test.YteoimmjgnflmmaaPl
namespace Go.Proofs.Yteoimmjgnflmmaa
open Go.RowKit Go.BigFrame

section
variable {w : World} {m : MB} {s : MS}

set_option maxRecDepth 100000 in
set_option maxHeartbeats 3200000 in
theorem place_scan (b : Bool) (k : Cfg) (wh : Int) (p : PlS) (tb : Nat) (hm : MemR w m s) (hb : Blk w tb p.cs 145) (hpc : p.pc = 3) (h0 : 0 ≤ p.i) (h1 : p.i < 1000) (hb2 : decide (chSt (s.get (aChunk k p.i)) = 0) = b) (n1 : tb ≠ m.b) (n2 : tb ≠ m.wb) (n3 : tb ≠ m.hb) :
    Calls Try.prog 85 #[.pointer (some ⟨tb, 0, none⟩), .agg #[.int .i64 k.t, .int .i64 k.s, .int .i64 k.c, .int .i64 k.w, .int .i64 k.g, .int .i64 k.p, .int .i64 k.r, .pointer (some ⟨m.b, 0, none⟩), .int .i64 wh]] w fun e w' =>
      e = .returned (.bool (!b && decide (k.c ≤ p.i + 1))) ∧ MemR w' m ((s.by wh).load (aChunk k p.i)) ∧ Blk w' tb (if b = true then { p with pc := 4, w := s.get (aChunk k p.i) } else { p with pc := 3, w := s.get (aChunk k p.i), i := p.i + 1 } : PlS).cs 145 ∧ Only [m.b, m.wb, m.hb, tb] w w' := by
  have hU := hm.get_rng (aChunk k p.i)
  have hfd := field107
  obtain ⟨cl, pc, op, ai, wd, sa, sc, ok⟩ := p
  simp only at hpc
  subst hpc
  replace hb : Blk w tb #[.int .i64 cl, .int .i64 3, .int .u64 op, .int .i64 ai, .int .u64 wd, .int .i64 sa, .int .i64 sc, .bool ok] 145 := hb
  have ht := hb.lt
  have hnx : w.heap.size ∉ [m.b, m.wb, m.hb] := hm.notin (Nat.le_refl _)
  have hnt : tb ∉ [m.b, m.wb, m.hb] := by simp only [List.mem_cons, List.not_mem_nil, or_false, not_or]; exact ⟨n1, n2, n3⟩
  have hc0 := hb.cell
  have hf0 := hb.frozen
  have hsub : ∀ x, x ∈ m.l → x < w.heap.size → x ∈ [m.b, m.wb, m.hb, tb] := by intro x hx _; simp only [List.mem_cons, List.not_mem_nil, or_false] at hx ⊢; omega
  have hsub0 : ∀ x, x ∈ ([] : List Nat) → x < w.heap.size → x ∈ [m.b, m.wb, m.hb, tb] := by intro x hx; cases hx
  have hsub1 : ∀ x, x ∈ [tb] → x < w.heap.size → x ∈ [m.b, m.wb, m.hb, tb] := by intro x hx _; simp only [List.mem_cons, List.not_mem_nil, or_false] at hx ⊢; omega
  have htm1 : m.b ∉ [tb] := by simp only [List.mem_cons, List.not_mem_nil, or_false]; exact n1.symm
  have htm2 : m.wb ∉ [tb] := by simp only [List.mem_cons, List.not_mem_nil, or_false]; exact n2.symm
  have htm3 : m.hb ∉ [tb] := by simp only [List.mem_cons, List.not_mem_nil, or_false]; exact n3.symm
  go_enter Try.func85, Try.ntmps85
  go_wp2
  have hX0 : Blk (w.alloc (.cells #[.int .i64 k.t, .int .i64 k.s, .int .i64 k.c, .int .i64 k.w, .int .i64 k.g, .int .i64 k.p, .int .i64 k.r, .pointer (some ⟨m.b, 0, none⟩), .int .i64 wh] 47)) w.heap.size #[.int .i64 k.t, .int .i64 k.s, .int .i64 k.c, .int .i64 k.w, .int .i64 k.g, .int .i64 k.p, .int .i64 k.r, .pointer (some ⟨m.b, 0, none⟩), .int .i64 wh] 47 := Blk.new w _ 47
  have hB0 := hb.alloc (.cells #[.int .i64 k.t, .int .i64 k.s, .int .i64 k.c, .int .i64 k.w, .int .i64 k.g, .int .i64 k.p, .int .i64 k.r, .pointer (some ⟨m.b, 0, none⟩), .int .i64 wh] 47)
  have hM0 := hm.alloc (.cells #[.int .i64 k.t, .int .i64 k.s, .int .i64 k.c, .int .i64 k.w, .int .i64 k.g, .int .i64 k.p, .int .i64 k.r, .pointer (some ⟨m.b, 0, none⟩), .int .i64 wh] 47)
  have hO0 : Only [m.b, m.wb, m.hb, tb] w (w.alloc (.cells #[.int .i64 k.t, .int .i64 k.s, .int .i64 k.c, .int .i64 k.w, .int .i64 k.g, .int .i64 k.p, .int .i64 k.r, .pointer (some ⟨m.b, 0, none⟩), .int .i64 wh] 47)) := (Only.refl _ w).alloc _
  have hX := hX0.drew
  have hB := hB0.drew
  have hM := hM0.drew
  have h3 : ∀ w', Blk w' tb #[.int .i64 cl, .int .i64 3, .int .u64 op, .int .i64 ai, .int .u64 wd, .int .i64 sa, .int .i64 sc, .bool ok] 145 → w'.cell? ⟨tb, 3, none⟩ = some (.int .i64 ai) := fun w' h => h.cell 3
  have h3s : ∀ w' v, Blk w' tb #[.int .i64 cl, .int .i64 3, .int .u64 op, .int .i64 ai, .int .u64 wd, .int .i64 sa, .int .i64 sc, .bool ok] 145 → (w'.setCell ⟨tb, 4, none⟩ v).cell? ⟨tb, 3, none⟩ = some (.int .i64 ai) := fun w' v h => (h.set 4 v rfl).cell 3
  go_region_held3 (fun w' => (∀ o, w'.cell? ⟨w.heap.size, o, none⟩ = (#[.int .i64 k.t, .int .i64 k.s, .int .i64 k.c, .int .i64 k.w, .int .i64 k.g, .int .i64 k.p, .int .i64 k.r, .pointer (some ⟨m.b, 0, none⟩), .int .i64 wh] : Array Value)[o]?) ∧ w'.cell? ⟨tb, 3, none⟩ = some (.int .i64 ai)) ((refine ⟨?_, ?_⟩; (focus (refine Blk.cell (T := 47) ?_; repeat (first | with_reducible assumption | with_reducible apply Blk.drew | with_reducible apply Blk.alloc | (with_reducible refine Blk.only ?_ (by with_reducible assumption) (by first | exact List.not_mem_nil | with_reducible assumption)) | (with_reducible refine Blk.other ?_ _ _ (by simp only; omega))))); (focus (first | (with_reducible refine h3 _ ?_; (repeat (first | with_reducible assumption | with_reducible apply Blk.drew | with_reducible apply Blk.alloc | (with_reducible refine Blk.only ?_ (by with_reducible assumption) (by first | exact List.not_mem_nil | with_reducible assumption)) | (with_reducible refine Blk.other ?_ _ _ (by simp only; omega)))); done) | (with_reducible refine h3s _ _ ?_; (repeat (first | with_reducible assumption | with_reducible apply Blk.drew | with_reducible apply Blk.alloc | (with_reducible refine Blk.only ?_ (by with_reducible assumption) (by first | exact List.not_mem_nil | with_reducible assumption)) | (with_reducible refine Blk.other ?_ _ _ (by simp only; omega)))); done)))))
    (first
      | (go_at_call 50; with_reducible refine (chunka_any _ k _).mono ?_; rintro e w' ⟨rfl, rfl⟩)
      | (go_at_call 69; with_reducible refine (load_env k wh ((hM0.alloc _).drew)).mono ?_; rintro e w1 ⟨rfl, hm1, ho1⟩; have hB1 := ((hB0.alloc (.cells #[.int .i64 k.t, .int .i64 k.s, .int .i64 k.c, .int .i64 k.w, .int .i64 k.g, .int .i64 k.p, .int .i64 k.r] 23)).drew).only ho1 hnt; have f1 := hB1.frozen; have c1 := hB1.cell; have hX1 := ((hX0.alloc (.cells #[.int .i64 k.t, .int .i64 k.s, .int .i64 k.c, .int .i64 k.w, .int .i64 k.g, .int .i64 k.p, .int .i64 k.r] 23)).drew).only ho1 hnx; have hX1c := hX1.cell))
  all_goals
    have hO1 : Only [m.b, m.wb, m.hb, tb] w w1 := (((Only.refl _ w).alloc _).alloc _).drew.trans' ho1 hsub
    generalize hv : s.get (aChunk k ai) = v at *
    go_wp2_with fail
    refine (chunk_word v _ hU).mono ?_
    rintro e w2 ⟨rfl, ho2⟩
    have hB2 : Blk w2 tb #[.int .i64 cl, .int .i64 3, .int .u64 op, .int .i64 ai, .int .u64 v, .int .i64 sa, .int .i64 sc, .bool ok] 145 := (hB1.set 4 _ rfl).only ho2 (by simp)
    have hM2 := (hm1.other ⟨tb, 4, none⟩ (.int .u64 v) n1.symm n2.symm n3.symm).only ho2 (by simp) (by simp) (by simp)
    have hX2 := (hX1.other ⟨tb, 4, none⟩ (.int .u64 v) (by simp only; omega)).only ho2 (by simp)
    have hO2 := (hO1.setCell ⟨tb, 4, none⟩ (.int .u64 v) (by simp)).trans' ho2 hsub0
    have hc2 := hB2.cell
    have hf2 := hB2.frozen
    have hx2 := hX2.cell
    clear hB1 hm1 hX1 hO1 ho1 ho2 h3 h3s f1 c1 hX1c hB0 hM0 hX0 hX hB hM hc0 hf0 hb
    cases b
    · have u1 : (chSt v != 0) = true := by simpa using hb2
      clear hb2
      go_wp2_with fail
      refine (plon_any k wh ⟨cl, 3, op, ai, v, sa, sc, ok⟩ tb hB2 h0 h1).mono ?_
      rintro e w3 ⟨rfl, hB3, ho3⟩
      go_wp2
      go_ret
      exact ⟨rfl, hM2.only ho3 htm1 htm2 htm3, hB3, hO2.trans' ho3 hsub1⟩
    · have u1 : (chSt v != 0) = false := by simpa using hb2
      clear hb2
      go_wp2
      go_ret
      exact ⟨rfl, hM2.other _ _ n1.symm n2.symm n3.symm, hB2.set 1 _ rfl, hO2.setCell _ _ (by simp)⟩

theorem plFresh_rng (p : PlS) : U64 (plFresh p) := putChunk_rng _ _ _ _
set_option maxRecDepth 100000 in
set_option maxHeartbeats 3200000 in
theorem place_take (b : Bool) (k : Cfg) (wh : Int) (p : PlS) (tb : Nat) (hm : MemR w m s) (hb : Blk w tb p.cs 145) (hpc : p.pc = 4) (h0 : 0 ≤ p.i) (h1 : p.i < 1000) (hU : U64 p.w) (hcan : s.can (aChunk k p.i) p.w = b) (n1 : tb ≠ m.b) (n2 : tb ≠ m.wb) (n3 : tb ≠ m.hb) :
    Calls Try.prog 85 #[.pointer (some ⟨tb, 0, none⟩), .agg #[.int .i64 k.t, .int .i64 k.s, .int .i64 k.c, .int .i64 k.w, .int .i64 k.g, .int .i64 k.p, .int .i64 k.r, .pointer (some ⟨m.b, 0, none⟩), .int .i64 wh]] w fun e w' =>
      e = .returned (.bool (!b && decide (k.c ≤ p.i + 1))) ∧ MemR w' m ((s.by wh).cas (aChunk k p.i) p.w (plFresh p)) ∧ Blk w' tb (if b = true then { p with pc := 5 } else { p with pc := 3, i := p.i + 1 } : PlS).cs 145 ∧ Only [m.b, m.wb, m.hb, tb] w w' := by
  obtain ⟨cl, pc, op, ai, wd, sa, sc, ok⟩ := p
  simp only at hpc
  subst hpc
  replace hb : Blk w tb #[.int .i64 cl, .int .i64 4, .int .u64 op, .int .i64 ai, .int .u64 wd, .int .i64 sa, .int .i64 sc, .bool ok] 145 := hb
  have ht := hb.lt
  have hnx : w.heap.size ∉ [m.b, m.wb, m.hb] := hm.notin (Nat.le_refl _)
  have hnt : tb ∉ [m.b, m.wb, m.hb] := by simp only [List.mem_cons, List.not_mem_nil, or_false, not_or]; exact ⟨n1, n2, n3⟩
  have hc0 := hb.cell
  have hf0 := hb.frozen
  have hsub : ∀ x, x ∈ m.l → x < w.heap.size → x ∈ [m.b, m.wb, m.hb, tb] := by intro x hx _; simp only [List.mem_cons, List.not_mem_nil, or_false] at hx ⊢; omega
  have hsub0 : ∀ x, x ∈ ([] : List Nat) → x < w.heap.size → x ∈ [m.b, m.wb, m.hb, tb] := by intro x hx; cases hx
  have hsub1 : ∀ x, x ∈ [tb] → x < w.heap.size → x ∈ [m.b, m.wb, m.hb, tb] := by intro x hx _; simp only [List.mem_cons, List.not_mem_nil, or_false] at hx ⊢; omega
  have htm1 : m.b ∉ [tb] := by simp only [List.mem_cons, List.not_mem_nil, or_false]; exact n1.symm
  have htm2 : m.wb ∉ [tb] := by simp only [List.mem_cons, List.not_mem_nil, or_false]; exact n2.symm
  have htm3 : m.hb ∉ [tb] := by simp only [List.mem_cons, List.not_mem_nil, or_false]; exact n3.symm
  go_enter Try.func85, Try.ntmps85
  go_wp2
  have hX0 : Blk (w.alloc (.cells #[.int .i64 k.t, .int .i64 k.s, .int .i64 k.c, .int .i64 k.w, .int .i64 k.g, .int .i64 k.p, .int .i64 k.r, .pointer (some ⟨m.b, 0, none⟩), .int .i64 wh] 47)) w.heap.size #[.int .i64 k.t, .int .i64 k.s, .int .i64 k.c, .int .i64 k.w, .int .i64 k.g, .int .i64 k.p, .int .i64 k.r, .pointer (some ⟨m.b, 0, none⟩), .int .i64 wh] 47 := Blk.new w _ 47
  have hB0 := hb.alloc (.cells #[.int .i64 k.t, .int .i64 k.s, .int .i64 k.c, .int .i64 k.w, .int .i64 k.g, .int .i64 k.p, .int .i64 k.r, .pointer (some ⟨m.b, 0, none⟩), .int .i64 wh] 47)
  have hM0 := hm.alloc (.cells #[.int .i64 k.t, .int .i64 k.s, .int .i64 k.c, .int .i64 k.w, .int .i64 k.g, .int .i64 k.p, .int .i64 k.r, .pointer (some ⟨m.b, 0, none⟩), .int .i64 wh] 47)
  have hO0 : Only [m.b, m.wb, m.hb, tb] w (w.alloc (.cells #[.int .i64 k.t, .int .i64 k.s, .int .i64 k.c, .int .i64 k.w, .int .i64 k.g, .int .i64 k.p, .int .i64 k.r, .pointer (some ⟨m.b, 0, none⟩), .int .i64 wh] 47)) := (Only.refl _ w).alloc _
  have hX := hX0.drew
  have hB := hB0.drew
  have hM := hM0.drew
  go_region_held3 (fun w' => (∀ o, w'.cell? ⟨w.heap.size, o, none⟩ = (#[.int .i64 k.t, .int .i64 k.s, .int .i64 k.c, .int .i64 k.w, .int .i64 k.g, .int .i64 k.p, .int .i64 k.r, .pointer (some ⟨m.b, 0, none⟩), .int .i64 wh] : Array Value)[o]?) ∧ (∀ o, w'.cell? ⟨tb, o, none⟩ = (#[.int .i64 cl, .int .i64 4, .int .u64 op, .int .i64 ai, .int .u64 wd, .int .i64 sa, .int .i64 sc, .bool ok] : Array Value)[o]?)) ((refine ⟨?_, ?_⟩; (focus (refine Blk.cell (T := 47) ?_; repeat (first | with_reducible assumption | with_reducible apply Blk.drew | with_reducible apply Blk.alloc | (with_reducible refine Blk.only ?_ (by with_reducible assumption) (by first | exact List.not_mem_nil | with_reducible assumption)) | (with_reducible refine Blk.other ?_ _ _ (by simp only; omega))))); (focus (refine Blk.cell (T := 145) (cs := #[.int .i64 cl, .int .i64 4, .int .u64 op, .int .i64 ai, .int .u64 wd, .int .i64 sa, .int .i64 sc, .bool ok]) ?_; repeat (first | with_reducible assumption | with_reducible apply Blk.drew | with_reducible apply Blk.alloc | (with_reducible refine Blk.only ?_ (by with_reducible assumption) (by first | exact List.not_mem_nil | with_reducible assumption)) | (with_reducible refine Blk.other ?_ _ _ (by simp only; omega)))))))
    (first
      | (go_at_call 50; with_reducible refine (chunka_any _ k _).mono ?_; rintro e w' ⟨rfl, rfl⟩)
      | (go_at_call 108; refine (plfresh_any ⟨cl, 4, op, ai, wd, sa, sc, ok⟩ tb (show Blk _ tb #[.int .i64 cl, .int .i64 4, .int .u64 op, .int .i64 ai, .int .u64 wd, .int .i64 sa, .int .i64 sc, .bool ok] 145 from (by repeat (first | with_reducible assumption | with_reducible apply Blk.drew | with_reducible apply Blk.alloc | (with_reducible refine Blk.only ?_ (by with_reducible assumption) (by first | exact List.not_mem_nil | with_reducible assumption)) | (with_reducible refine Blk.other ?_ _ _ (by simp only; omega))))) hU).mono ?_; rintro e w5 ⟨rfl, ho5⟩)
      | (go_at_call 72; with_reducible refine (cas_env (m := m) (s := s) k wh (by repeat (first | with_reducible assumption | with_reducible apply MemR.drew | with_reducible apply MemR.alloc | (with_reducible refine MemR.only ?_ (by with_reducible assumption) List.not_mem_nil List.not_mem_nil List.not_mem_nil) | (with_reducible refine MemR.other ?_ _ _ (by simp only; omega) (by simp only; omega) (by simp only; omega)))) (plFresh_rng _)).mono ?_; rintro e w6 ⟨rfl, hM6, ho6⟩; have hX6 : Blk w6 w.heap.size #[.int .i64 k.t, .int .i64 k.s, .int .i64 k.c, .int .i64 k.w, .int .i64 k.g, .int .i64 k.p, .int .i64 k.r, .pointer (some ⟨m.b, 0, none⟩), .int .i64 wh] 47 := (by refine Blk.only ?_ ho6 hnx; (repeat (first | with_reducible assumption | with_reducible apply Blk.drew | with_reducible apply Blk.alloc | (with_reducible refine Blk.only ?_ (by with_reducible assumption) (by first | exact List.not_mem_nil | with_reducible assumption)) | (with_reducible refine Blk.other ?_ _ _ (by simp only; omega))))); have hB6 : Blk w6 tb #[.int .i64 cl, .int .i64 4, .int .u64 op, .int .i64 ai, .int .u64 wd, .int .i64 sa, .int .i64 sc, .bool ok] 145 := (by refine Blk.only ?_ ho6 hnt; (repeat (first | with_reducible assumption | with_reducible apply Blk.drew | with_reducible apply Blk.alloc | (with_reducible refine Blk.only ?_ (by with_reducible assumption) (by first | exact List.not_mem_nil | with_reducible assumption)) | (with_reducible refine Blk.other ?_ _ _ (by simp only; omega))))); have hO6 : Only [m.b, m.wb, m.hb, tb] w w6 := (by refine Only.trans' (Only.trans' ?_ ho5 hsub0) ho6 hsub; repeat (first | with_reducible exact hO0 | with_reducible apply Only.drew | with_reducible apply Only.alloc))))
  all_goals
    have hc6 := hB6.cell
    have hf6 := hB6.frozen
    have hx6 := hX6.cell
    clear hB0 hM0 hX0 hX hB hM hc0 hf0 hb hO0
    cases b
    · go_wp2_with fail
      refine (plon_any k wh ⟨cl, 4, op, ai, wd, sa, sc, ok⟩ tb hB6 h0 h1).mono ?_
      rintro e w3 ⟨rfl, hB3, ho3⟩
      go_wp2
      go_ret
      exact ⟨rfl, hM6.only ho3 htm1 htm2 htm3, hB3, hO6.trans' ho3 hsub1⟩
    · go_wp2
      go_ret
      exact ⟨rfl, hM6.other _ _ n1.symm n2.symm n3.symm, hB6.set 1 _ rfl, hO6.setCell _ _ (by simp)⟩

set_option maxRecDepth 100000 in
set_option maxHeartbeats 3200000 in
theorem place_open (b : Bool) (k : Cfg) (wh : Int) (p : PlS) (tb : Nat) (hm : MemR w m s) (hb : Blk w tb p.cs 145) (hpc : p.pc = 5) (h0 : 0 ≤ p.i) (h1 : p.i < 1000) (hcan : s.can (aOpen p.cl) p.op = b) (n1 : tb ≠ m.b) (n2 : tb ≠ m.wb) (n3 : tb ≠ m.hb) :
    Calls Try.prog 85 #[.pointer (some ⟨tb, 0, none⟩), .agg #[.int .i64 k.t, .int .i64 k.s, .int .i64 k.c, .int .i64 k.w, .int .i64 k.g, .int .i64 k.p, .int .i64 k.r, .pointer (some ⟨m.b, 0, none⟩), .int .i64 wh]] w fun e w' =>
      e = .returned (.bool false) ∧ MemR w' m ((s.by wh).cas (aOpen p.cl) p.op (p.i + 1)) ∧ Blk w' tb (if b = true then { p with pc := 0 } else { p with pc := 6 } : PlS).cs 145 ∧ Only [m.b, m.wb, m.hb, tb] w w' := by
  obtain ⟨cl, pc, op, ai, wd, sa, sc, ok⟩ := p
  simp only at hpc
  subst hpc
  replace hb : Blk w tb #[.int .i64 cl, .int .i64 5, .int .u64 op, .int .i64 ai, .int .u64 wd, .int .i64 sa, .int .i64 sc, .bool ok] 145 := hb
  have ht := hb.lt
  have hnx : w.heap.size ∉ [m.b, m.wb, m.hb] := hm.notin (Nat.le_refl _)
  have hnt : tb ∉ [m.b, m.wb, m.hb] := by simp only [List.mem_cons, List.not_mem_nil, or_false, not_or]; exact ⟨n1, n2, n3⟩
  have hc0 := hb.cell
  have hf0 := hb.frozen
  have hsub : ∀ x, x ∈ m.l → x < w.heap.size → x ∈ [m.b, m.wb, m.hb, tb] := by intro x hx _; simp only [List.mem_cons, List.not_mem_nil, or_false] at hx ⊢; omega
  have hsub0 : ∀ x, x ∈ ([] : List Nat) → x < w.heap.size → x ∈ [m.b, m.wb, m.hb, tb] := by intro x hx; cases hx
  have hsub1 : ∀ x, x ∈ [tb] → x < w.heap.size → x ∈ [m.b, m.wb, m.hb, tb] := by intro x hx _; simp only [List.mem_cons, List.not_mem_nil, or_false] at hx ⊢; omega
  have htm1 : m.b ∉ [tb] := by simp only [List.mem_cons, List.not_mem_nil, or_false]; exact n1.symm
  have htm2 : m.wb ∉ [tb] := by simp only [List.mem_cons, List.not_mem_nil, or_false]; exact n2.symm
  have htm3 : m.hb ∉ [tb] := by simp only [List.mem_cons, List.not_mem_nil, or_false]; exact n3.symm
  go_enter Try.func85, Try.ntmps85
  go_wp2
  have hX0 : Blk (w.alloc (.cells #[.int .i64 k.t, .int .i64 k.s, .int .i64 k.c, .int .i64 k.w, .int .i64 k.g, .int .i64 k.p, .int .i64 k.r, .pointer (some ⟨m.b, 0, none⟩), .int .i64 wh] 47)) w.heap.size #[.int .i64 k.t, .int .i64 k.s, .int .i64 k.c, .int .i64 k.w, .int .i64 k.g, .int .i64 k.p, .int .i64 k.r, .pointer (some ⟨m.b, 0, none⟩), .int .i64 wh] 47 := Blk.new w _ 47
  have hB0 := hb.alloc (.cells #[.int .i64 k.t, .int .i64 k.s, .int .i64 k.c, .int .i64 k.w, .int .i64 k.g, .int .i64 k.p, .int .i64 k.r, .pointer (some ⟨m.b, 0, none⟩), .int .i64 wh] 47)
  have hM0 := hm.alloc (.cells #[.int .i64 k.t, .int .i64 k.s, .int .i64 k.c, .int .i64 k.w, .int .i64 k.g, .int .i64 k.p, .int .i64 k.r, .pointer (some ⟨m.b, 0, none⟩), .int .i64 wh] 47)
  have hO0 : Only [m.b, m.wb, m.hb, tb] w (w.alloc (.cells #[.int .i64 k.t, .int .i64 k.s, .int .i64 k.c, .int .i64 k.w, .int .i64 k.g, .int .i64 k.p, .int .i64 k.r, .pointer (some ⟨m.b, 0, none⟩), .int .i64 wh] 47)) := (Only.refl _ w).alloc _
  have hX := hX0.drew
  have hB := hB0.drew
  have hM := hM0.drew
  clear hX hB hM
  have hb6 : Blk (w.setCell ⟨tb, 1, none⟩ (.int .i64 6)) tb #[.int .i64 cl, .int .i64 6, .int .u64 op, .int .i64 ai, .int .u64 wd, .int .i64 sa, .int .i64 sc, .bool ok] 145 := hb.set 1 _ rfl
  have hB7 : Blk ((w.setCell ⟨tb, 1, none⟩ (.int .i64 6)).alloc (.cells #[.int .i64 k.t, .int .i64 k.s, .int .i64 k.c, .int .i64 k.w, .int .i64 k.g, .int .i64 k.p, .int .i64 k.r, .pointer (some ⟨m.b, 0, none⟩), .int .i64 wh] 47)) tb #[.int .i64 cl, .int .i64 6, .int .u64 op, .int .i64 ai, .int .u64 wd, .int .i64 sa, .int .i64 sc, .bool ok] 145 := hb6.alloc _
  have hX7 : Blk ((w.setCell ⟨tb, 1, none⟩ (.int .i64 6)).alloc (.cells #[.int .i64 k.t, .int .i64 k.s, .int .i64 k.c, .int .i64 k.w, .int .i64 k.g, .int .i64 k.p, .int .i64 k.r, .pointer (some ⟨m.b, 0, none⟩), .int .i64 wh] 47)) w.heap.size #[.int .i64 k.t, .int .i64 k.s, .int .i64 k.c, .int .i64 k.w, .int .i64 k.g, .int .i64 k.p, .int .i64 k.r, .pointer (some ⟨m.b, 0, none⟩), .int .i64 wh] 47 := Blk.new' (by simp) rfl
  have hM7 : MemR ((w.setCell ⟨tb, 1, none⟩ (.int .i64 6)).alloc (.cells #[.int .i64 k.t, .int .i64 k.s, .int .i64 k.c, .int .i64 k.w, .int .i64 k.g, .int .i64 k.p, .int .i64 k.r, .pointer (some ⟨m.b, 0, none⟩), .int .i64 wh] 47)) m s := (hm.other _ _ n1.symm n2.symm n3.symm).alloc _
  have hO7 : Only [m.b, m.wb, m.hb, tb] w ((w.setCell ⟨tb, 1, none⟩ (.int .i64 6)).alloc (.cells #[.int .i64 k.t, .int .i64 k.s, .int .i64 k.c, .int .i64 k.w, .int .i64 k.g, .int .i64 k.p, .int .i64 k.r, .pointer (some ⟨m.b, 0, none⟩), .int .i64 wh] 47)) := ((Only.refl _ w).setCell _ _ (by simp)).alloc _
  have hw : IntKind.u64.wrap (IntKind.i64.wrap (ai + 1)) = ai + 1 := by
    rw [IntWalk.i64_left, IntKind.wrap_u64]; unfold wrap64; omega
  have HW := Lib.hid hw
  clear hw
  go_region_held3 (fun w' => (∀ o, w'.cell? ⟨w.heap.size, o, none⟩ = (#[.int .i64 k.t, .int .i64 k.s, .int .i64 k.c, .int .i64 k.w, .int .i64 k.g, .int .i64 k.p, .int .i64 k.r, .pointer (some ⟨m.b, 0, none⟩), .int .i64 wh] : Array Value)[o]?) ∧ (∀ o, w'.cell? ⟨tb, o, none⟩ = (#[.int .i64 cl, .int .i64 6, .int .u64 op, .int .i64 ai, .int .u64 wd, .int .i64 sa, .int .i64 sc, .bool ok] : Array Value)[o]?)) ((refine ⟨?_, ?_⟩; (focus (refine Blk.cell (T := 47) ?_; repeat (first | with_reducible assumption | with_reducible apply Blk.drew | with_reducible apply Blk.alloc | (with_reducible refine Blk.only ?_ (by with_reducible assumption) (by first | exact List.not_mem_nil | with_reducible assumption)) | (with_reducible refine Blk.other ?_ _ _ (by simp only; omega))))); (focus (refine Blk.cell (T := 145) (cs := #[.int .i64 cl, .int .i64 6, .int .u64 op, .int .i64 ai, .int .u64 wd, .int .i64 sa, .int .i64 sc, .bool ok]) ?_; repeat (first | with_reducible assumption | with_reducible apply Blk.drew | with_reducible apply Blk.alloc | (with_reducible refine Blk.only ?_ (by with_reducible assumption) (by first | exact List.not_mem_nil | with_reducible assumption)) | (with_reducible refine Blk.other ?_ _ _ (by simp only; omega)))))))
    (first
      | (go_at_call 47; with_reducible refine (open_any _ _).mono ?_; rintro e w' ⟨rfl, rfl⟩)
      | (go_at_call 72; with_reducible refine (cas_env (m := m) (s := s) k wh hM7.drew (u64_wrap _)).mono ?_; rintro e w6 ⟨rfl, hM6, ho6⟩; have hB6 : Blk w6 tb #[.int .i64 cl, .int .i64 6, .int .u64 op, .int .i64 ai, .int .u64 wd, .int .i64 sa, .int .i64 sc, .bool ok] 145 := (by refine Blk.only ?_ ho6 hnt; (repeat (first | with_reducible assumption | with_reducible apply Blk.drew | with_reducible apply Blk.alloc | (with_reducible refine Blk.only ?_ (by with_reducible assumption) (by first | exact List.not_mem_nil | with_reducible assumption)) | (with_reducible refine Blk.other ?_ _ _ (by simp only; omega))))); have hX6 : Blk w6 w.heap.size #[.int .i64 k.t, .int .i64 k.s, .int .i64 k.c, .int .i64 k.w, .int .i64 k.g, .int .i64 k.p, .int .i64 k.r, .pointer (some ⟨m.b, 0, none⟩), .int .i64 wh] 47 := (by refine Blk.only ?_ ho6 hnx; (repeat (first | with_reducible assumption | with_reducible apply Blk.drew | with_reducible apply Blk.alloc | (with_reducible refine Blk.only ?_ (by with_reducible assumption) (by first | exact List.not_mem_nil | with_reducible assumption)) | (with_reducible refine Blk.other ?_ _ _ (by simp only; omega))))); have hO6 : Only [m.b, m.wb, m.hb, tb] w w6 := (by refine Only.trans' ?_ ho6 hsub; repeat (first | with_reducible exact hO7 | with_reducible apply Only.drew | with_reducible apply Only.alloc))))
  all_goals
    have hc6 := hB6.cell
    have hf6 := hB6.frozen
    clear hB0 hM0 hX0 hc0 hf0 hb hO0 hB7 hX7 hM7 hO7
    rw [HW.out] at hM6
    cases b
    · go_wp2
      go_ret
      exact ⟨rfl, hM6, hB6, hO6⟩
    · go_wp2
      go_ret
      exact ⟨rfl, hM6.other _ _ n1.symm n2.symm n3.symm, hB6.set 1 _ rfl, hO6.setCell _ _ (by simp)⟩

set_option maxRecDepth 100000 in
set_option maxHeartbeats 3200000 in
theorem place_leave (k : Cfg) (wh : Int) (p : PlS) (tb : Nat) (hm : MemR w m s) (hb : Blk w tb p.cs 145) (hpc : p.pc = 6) (hU : U64 p.w) (n1 : tb ≠ m.b) (n2 : tb ≠ m.wb) (n3 : tb ≠ m.hb) :
    Calls Try.prog 85 #[.pointer (some ⟨tb, 0, none⟩), .agg #[.int .i64 k.t, .int .i64 k.s, .int .i64 k.c, .int .i64 k.w, .int .i64 k.g, .int .i64 k.p, .int .i64 k.r, .pointer (some ⟨m.b, 0, none⟩), .int .i64 wh]] w fun e w' =>
      e = .returned (.bool false) ∧ MemR w' m ((s.by wh).cas (aChunk k p.i) (plFresh p) (putChunk 0 0 0 (chSp p.w + 2))) ∧ Blk w' tb ({ p with pc := 0 } : PlS).cs 145 ∧ Only [m.b, m.wb, m.hb, tb] w w' := by
  have hfd := field107s
  obtain ⟨cl, pc, op, ai, wd, sa, sc, ok⟩ := p
  simp only at hpc
  subst hpc
  replace hb : Blk w tb #[.int .i64 cl, .int .i64 6, .int .u64 op, .int .i64 ai, .int .u64 wd, .int .i64 sa, .int .i64 sc, .bool ok] 145 := hb
  have ht := hb.lt
  have hnx : w.heap.size ∉ [m.b, m.wb, m.hb] := hm.notin (Nat.le_refl _)
  have hnt : tb ∉ [m.b, m.wb, m.hb] := by simp only [List.mem_cons, List.not_mem_nil, or_false, not_or]; exact ⟨n1, n2, n3⟩
  have hc0 := hb.cell
  have hf0 := hb.frozen
  have hsub : ∀ x, x ∈ m.l → x < w.heap.size → x ∈ [m.b, m.wb, m.hb, tb] := by intro x hx _; simp only [List.mem_cons, List.not_mem_nil, or_false] at hx ⊢; omega
  have hsub0 : ∀ x, x ∈ ([] : List Nat) → x < w.heap.size → x ∈ [m.b, m.wb, m.hb, tb] := by intro x hx; cases hx
  have hsub1 : ∀ x, x ∈ [tb] → x < w.heap.size → x ∈ [m.b, m.wb, m.hb, tb] := by intro x hx _; simp only [List.mem_cons, List.not_mem_nil, or_false] at hx ⊢; omega
  have htm1 : m.b ∉ [tb] := by simp only [List.mem_cons, List.not_mem_nil, or_false]; exact n1.symm
  have htm2 : m.wb ∉ [tb] := by simp only [List.mem_cons, List.not_mem_nil, or_false]; exact n2.symm
  have htm3 : m.hb ∉ [tb] := by simp only [List.mem_cons, List.not_mem_nil, or_false]; exact n3.symm
  go_enter Try.func85, Try.ntmps85
  go_wp2_with fail
  have hX0 : Blk (w.alloc (.cells #[.int .i64 k.t, .int .i64 k.s, .int .i64 k.c, .int .i64 k.w, .int .i64 k.g, .int .i64 k.p, .int .i64 k.r, .pointer (some ⟨m.b, 0, none⟩), .int .i64 wh] 47)) w.heap.size #[.int .i64 k.t, .int .i64 k.s, .int .i64 k.c, .int .i64 k.w, .int .i64 k.g, .int .i64 k.p, .int .i64 k.r, .pointer (some ⟨m.b, 0, none⟩), .int .i64 wh] 47 := Blk.new w _ 47
  have hB0 := hb.alloc (.cells #[.int .i64 k.t, .int .i64 k.s, .int .i64 k.c, .int .i64 k.w, .int .i64 k.g, .int .i64 k.p, .int .i64 k.r, .pointer (some ⟨m.b, 0, none⟩), .int .i64 wh] 47)
  have hM0 := hm.alloc (.cells #[.int .i64 k.t, .int .i64 k.s, .int .i64 k.c, .int .i64 k.w, .int .i64 k.g, .int .i64 k.p, .int .i64 k.r, .pointer (some ⟨m.b, 0, none⟩), .int .i64 wh] 47)
  have hO0 : Only [m.b, m.wb, m.hb, tb] w (w.alloc (.cells #[.int .i64 k.t, .int .i64 k.s, .int .i64 k.c, .int .i64 k.w, .int .i64 k.g, .int .i64 k.p, .int .i64 k.r, .pointer (some ⟨m.b, 0, none⟩), .int .i64 wh] 47)) := (Only.refl _ w).alloc _
  have hX := hX0.drew
  have hB := hB0.drew
  have hM := hM0.drew
  refine (chunk_word wd _ hU).mono ?_
  rintro e w2 ⟨rfl, ho2⟩
  have hw : IntKind.i64.wrap (chSp wd + 2) = chSp wd + 2 := by
    have := ch_rng wd
    rw [IntWalk.i64_left]; unfold wrap64; omega
  go_wp2_with fail
  refine (putchunk_any _ _ _ _ _).mono ?_
  rintro e w3 ⟨rfl, ho3⟩
  have hX3 := (hX0.only ho2 (by simp)).only ho3 (by simp)
  have hB3 := (hB0.only ho2 (by simp)).only ho3 (by simp)
  have hM3 := (hM0.only ho2 (by simp) (by simp) (by simp)).only ho3 (by simp) (by simp) (by simp)
  have hO3 := (hO0.trans' ho2 hsub0).trans' ho3 hsub0
  clear hB0 hM0 hX0 hX hB hM hc0 hf0 hb hO0 ho2 ho3 hw
  have hc3 := hB3.cell
  go_wp2
  go_region_held3 (fun w' => (∀ o, w'.cell? ⟨w.heap.size, o, none⟩ = (#[.int .i64 k.t, .int .i64 k.s, .int .i64 k.c, .int .i64 k.w, .int .i64 k.g, .int .i64 k.p, .int .i64 k.r, .pointer (some ⟨m.b, 0, none⟩), .int .i64 wh] : Array Value)[o]?) ∧ (∀ o, w'.cell? ⟨tb, o, none⟩ = (#[.int .i64 cl, .int .i64 6, .int .u64 op, .int .i64 ai, .int .u64 wd, .int .i64 sa, .int .i64 sc, .bool ok] : Array Value)[o]?)) ((refine ⟨?_, ?_⟩; (focus (refine Blk.cell (T := 47) ?_; repeat (first | with_reducible assumption | with_reducible apply Blk.drew | with_reducible apply Blk.alloc | (with_reducible refine Blk.only ?_ (by with_reducible assumption) (by first | exact List.not_mem_nil | with_reducible assumption)) | (with_reducible refine Blk.other ?_ _ _ (by simp only; omega))))); (focus (refine Blk.cell (T := 145) (cs := #[.int .i64 cl, .int .i64 6, .int .u64 op, .int .i64 ai, .int .u64 wd, .int .i64 sa, .int .i64 sc, .bool ok]) ?_; repeat (first | with_reducible assumption | with_reducible apply Blk.drew | with_reducible apply Blk.alloc | (with_reducible refine Blk.only ?_ (by with_reducible assumption) (by first | exact List.not_mem_nil | with_reducible assumption)) | (with_reducible refine Blk.other ?_ _ _ (by simp only; omega)))))))
    (first
      | (go_at_call 50; with_reducible refine (chunka_any _ k _).mono ?_; rintro e w' ⟨rfl, rfl⟩)
      | (go_at_call 108; refine (plfresh_any ⟨cl, 6, op, ai, wd, sa, sc, ok⟩ tb (show Blk _ tb #[.int .i64 cl, .int .i64 6, .int .u64 op, .int .i64 ai, .int .u64 wd, .int .i64 sa, .int .i64 sc, .bool ok] 145 from (by repeat (first | with_reducible assumption | with_reducible apply Blk.drew | with_reducible apply Blk.alloc | (with_reducible refine Blk.only ?_ (by with_reducible assumption) (by first | exact List.not_mem_nil | with_reducible assumption)) | (with_reducible refine Blk.other ?_ _ _ (by simp only; omega))))) hU).mono ?_; rintro e w5 ⟨rfl, ho5⟩)
      | (go_at_call 72; with_reducible refine (cas_env (m := m) (s := s) k wh (by repeat (first | with_reducible assumption | with_reducible apply MemR.drew | with_reducible apply MemR.alloc | (with_reducible refine MemR.only ?_ (by with_reducible assumption) List.not_mem_nil List.not_mem_nil List.not_mem_nil) | (with_reducible refine MemR.other ?_ _ _ (by simp only; omega) (by simp only; omega) (by simp only; omega)))) (putChunk_rng _ _ _ _)).mono ?_; rintro e w6 ⟨rfl, hM6, ho6⟩; have hX6 : Blk w6 w.heap.size #[.int .i64 k.t, .int .i64 k.s, .int .i64 k.c, .int .i64 k.w, .int .i64 k.g, .int .i64 k.p, .int .i64 k.r, .pointer (some ⟨m.b, 0, none⟩), .int .i64 wh] 47 := (by refine Blk.only ?_ ho6 hnx; (repeat (first | with_reducible assumption | with_reducible apply Blk.drew | with_reducible apply Blk.alloc | (with_reducible refine Blk.only ?_ (by with_reducible assumption) (by first | exact List.not_mem_nil | with_reducible assumption)) | (with_reducible refine Blk.other ?_ _ _ (by simp only; omega))))); have hB6 : Blk w6 tb #[.int .i64 cl, .int .i64 6, .int .u64 op, .int .i64 ai, .int .u64 wd, .int .i64 sa, .int .i64 sc, .bool ok] 145 := (by refine Blk.only ?_ ho6 hnt; (repeat (first | with_reducible assumption | with_reducible apply Blk.drew | with_reducible apply Blk.alloc | (with_reducible refine Blk.only ?_ (by with_reducible assumption) (by first | exact List.not_mem_nil | with_reducible assumption)) | (with_reducible refine Blk.other ?_ _ _ (by simp only; omega))))); have hO6 : Only [m.b, m.wb, m.hb, tb] w w6 := (by refine Only.trans' (Only.trans' ?_ ho5 hsub0) ho6 hsub; repeat (first | with_reducible exact hO3 | with_reducible apply Only.drew | with_reducible apply Only.alloc))))
  all_goals
    have hc6 := hB6.cell
    have hf6 := hB6.frozen
    go_wp2
    go_ret
    exact ⟨rfl, hM6.other _ _ n1.symm n2.symm n3.symm, hB6.set 1 _ rfl, hO6.setCell _ _ (by simp)⟩

end
end Go.Proofs.Yteoimmjgnflmmaa
