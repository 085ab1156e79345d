/-
  What a thread does, step by step, that pins the epoch.
-/
import Derived.Test.YteoimmjgnflmmaaNew
namespace Go.Proofs.Yteoimmjgnflmmaa
open Go.RowKit

theorem setIfInBounds_self {cs : Array Value} {i : Nat} {v : Value} (h : cs[i]? = some v) : cs.setIfInBounds i v = cs := by
  apply Array.ext'
  rw [Array.toList_setIfInBounds]
  apply List.ext_getElem?
  intro j
  by_cases hj : i = j
  · subst hj
    rw [List.getElem?_set_self (by have := (Array.getElem?_eq_some_iff.1 h).1; simpa using this)]
    simpa using h.symm
  · rw [List.getElem?_set_ne hj]

structure PinS where
  pc : Int
  ep : Int
def PinS.put (p : PinS) (cs : Array Value) (o : Nat) : Array Value := (cs.setIfInBounds o (.int .i64 p.pc)).setIfInBounds (o + 1) (.int .u64 p.ep)
structure PinS.At (p : PinS) (cs : Array Value) (o : Nat) : Prop where
  pc : cs[o]? = some (.int .i64 p.pc)
  ep : cs[o + 1]? = some (.int .u64 p.ep)
theorem PinS.put_at (p : PinS) (cs : Array Value) (o : Nat) (h : o + 1 < cs.size) : p.At (p.put cs o) o := by
  constructor
  · simp [PinS.put, show o < cs.size by omega]
  · simp [PinS.put, h]
theorem PinS.put_size (p : PinS) (cs : Array Value) (o : Nat) : (p.put cs o).size = cs.size := by simp [PinS.put]

def inStep (wh : Int) (s : MS) (p : PinS) : Bool × MS × PinS :=
  if p.pc = 0 then (false, (s.by wh).load 0, ⟨1, s.get 0⟩)
  else if p.pc = 1 then (false, (s.by wh).store (aPin wh) (IntKind.u64.wrap (p.ep + 1)), ⟨2, p.ep⟩)
  else if s.get 0 = p.ep then (true, (s.by wh).load 0, p) else (false, (s.by wh).load 0, ⟨1, s.get 0⟩)

section
variable {w : World} {m : MB} {s : MS}

set_option maxHeartbeats 1600000 in
theorem in_step0 (k : Cfg) (wh : Int) (p : PinS) (tb o : Nat) (cs : Array Value) (T : Nat) (hm : MemR w m s) (hb : Blk w tb cs T) (hat : p.At cs o) (hpc : p.pc = 0) (n1 : tb ≠ m.b) (n2 : tb ≠ m.wb) (n3 : tb ≠ m.hb) :
    Calls Try.prog 55 #[.pointer (some ⟨tb, o, none⟩), .agg #[.int .i64 k.t, .int .i64 k.s, .int .i64 k.c, .int .i64 k.w, .int .i64 k.g, .int .i64 k.p, .int .i64 k.r, .pointer (some ⟨m.b, 0, none⟩), .int .i64 wh]] w fun e w' =>
      e = .returned (.bool false) ∧ MemR w' m ((s.by wh).load 0) ∧ Blk w' tb ((⟨1, s.get 0⟩ : PinS).put cs o) T ∧ Only [m.b, m.wb, m.hb, tb] w w' := by
  obtain ⟨pc, ep⟩ := p
  simp only at hpc
  subst hpc
  obtain ⟨a0, a1⟩ := hat
  have ht := hb.lt
  have hc0 := (hb.cell o).trans a0
  have hnx : w.heap.size ∉ [m.b, m.wb, m.hb] := hm.notin (Nat.le_refl _)
  have hnt : tb ∉ [m.b, m.wb, m.hb] := by simp only [List.mem_cons, List.not_mem_nil, or_false, not_or]; exact ⟨n1, n2, n3⟩
  go_enter Try.func55, Try.ntmps55
  go_wp2
  have hX : Blk (w.alloc (.cells #[.int .i64 k.t, .int .i64 k.s, .int .i64 k.c, .int .i64 k.w, .int .i64 k.g, .int .i64 k.p, .int .i64 k.r, .pointer (some ⟨m.b, 0, none⟩), .int .i64 wh] 47)).drew w.heap.size #[.int .i64 k.t, .int .i64 k.s, .int .i64 k.c, .int .i64 k.w, .int .i64 k.g, .int .i64 k.p, .int .i64 k.r, .pointer (some ⟨m.b, 0, none⟩), .int .i64 wh] 47 := (Blk.new w _ 47).drew
  have hB : Blk (w.alloc (.cells #[.int .i64 k.t, .int .i64 k.s, .int .i64 k.c, .int .i64 k.w, .int .i64 k.g, .int .i64 k.p, .int .i64 k.r, .pointer (some ⟨m.b, 0, none⟩), .int .i64 wh] 47)).drew tb cs T := (hb.alloc _).drew
  have hM : MemR (w.alloc (.cells #[.int .i64 k.t, .int .i64 k.s, .int .i64 k.c, .int .i64 k.w, .int .i64 k.g, .int .i64 k.p, .int .i64 k.r, .pointer (some ⟨m.b, 0, none⟩), .int .i64 wh] 47)).drew m s := (hm.alloc _).drew
  go_region_held3 (fun w' => ∀ o, w'.cell? ⟨w.heap.size, o, none⟩ = (#[.int .i64 k.t, .int .i64 k.s, .int .i64 k.c, .int .i64 k.w, .int .i64 k.g, .int .i64 k.p, .int .i64 k.r, .pointer (some ⟨m.b, 0, none⟩), .int .i64 wh] : Array Value)[o]?) ((refine Blk.cell (T := 47) ?_; repeat (first | with_reducible assumption | with_reducible apply Blk.drew | with_reducible apply Blk.alloc | (with_reducible refine Blk.only ?_ (by with_reducible assumption) (by first | exact List.not_mem_nil | with_reducible assumption)) | (with_reducible refine Blk.other ?_ _ _ (by simp only; omega)))))
    (first
      | (go_at_call 45; refine (epoch_any _).mono ?_; rintro e w' ⟨rfl, rfl⟩)
      | (go_at_call 69; refine (load_env k wh hM).mono ?_; rintro e w1 ⟨rfl, hm1, ho1⟩; have hB1 := hB.only ho1 hnt; have f1 := hB1.frozen; have c10 := (hB1.cell o).trans a0; have c11 := (hB1.cell (o + 1)).trans a1))
  all_goals
    go_wp2
    go_ret
    refine ⟨rfl, ?_, ?_, ?_⟩
    · repeat (first | with_reducible assumption | with_reducible apply MemR.drew | with_reducible apply MemR.alloc | (with_reducible refine MemR.only ?_ (by with_reducible assumption) List.not_mem_nil List.not_mem_nil List.not_mem_nil) | (with_reducible refine MemR.other ?_ _ _ (by simp only; omega) (by simp only; omega) (by simp only; omega)))
    · exact (hB1.set (o + 1) _ rfl).set o _ (by unfold PinS.put; rw [Array.setIfInBounds_comm _ _ (by omega)])
    · repeat (first | with_reducible exact Only.refl _ _ | with_reducible assumption | with_reducible apply Only.drew | with_reducible apply Only.drewN | with_reducible apply Only.alloc | (with_reducible refine Only.setCell ?_ _ _ (by simp)) | (with_reducible refine Only.trans' ?_ (by with_reducible assumption) (by intro x hx _; simp only [List.mem_cons, List.not_mem_nil, or_false] at hx ⊢; omega)))

set_option maxHeartbeats 1600000 in
theorem in_step1 (k : Cfg) (wh : Int) (p : PinS) (tb o : Nat) (cs : Array Value) (T : Nat) (hm : MemR w m s) (hb : Blk w tb cs T) (hat : p.At cs o) (hpc : p.pc = 1) (n1 : tb ≠ m.b) (n2 : tb ≠ m.wb) (n3 : tb ≠ m.hb) :
    Calls Try.prog 55 #[.pointer (some ⟨tb, o, none⟩), .agg #[.int .i64 k.t, .int .i64 k.s, .int .i64 k.c, .int .i64 k.w, .int .i64 k.g, .int .i64 k.p, .int .i64 k.r, .pointer (some ⟨m.b, 0, none⟩), .int .i64 wh]] w fun e w' =>
      e = .returned (.bool false) ∧ MemR w' m ((s.by wh).store (aPin wh) (IntKind.u64.wrap (p.ep + 1))) ∧ Blk w' tb ((⟨2, p.ep⟩ : PinS).put cs o) T ∧ Only [m.b, m.wb, m.hb, tb] w w' := by
  obtain ⟨pc, ep⟩ := p
  simp only at hpc
  subst hpc
  obtain ⟨a0, a1⟩ := hat
  simp only at a0 a1
  have ht := hb.lt
  have hc0 := (hb.cell o).trans a0
  have hnx : w.heap.size ∉ [m.b, m.wb, m.hb] := hm.notin (Nat.le_refl _)
  have hnt : tb ∉ [m.b, m.wb, m.hb] := by simp only [List.mem_cons, List.not_mem_nil, or_false, not_or]; exact ⟨n1, n2, n3⟩
  go_enter Try.func55, Try.ntmps55
  go_wp2
  have hX : Blk (w.alloc (.cells #[.int .i64 k.t, .int .i64 k.s, .int .i64 k.c, .int .i64 k.w, .int .i64 k.g, .int .i64 k.p, .int .i64 k.r, .pointer (some ⟨m.b, 0, none⟩), .int .i64 wh] 47)).drew w.heap.size #[.int .i64 k.t, .int .i64 k.s, .int .i64 k.c, .int .i64 k.w, .int .i64 k.g, .int .i64 k.p, .int .i64 k.r, .pointer (some ⟨m.b, 0, none⟩), .int .i64 wh] 47 := (Blk.new w _ 47).drew
  have hB : Blk (w.alloc (.cells #[.int .i64 k.t, .int .i64 k.s, .int .i64 k.c, .int .i64 k.w, .int .i64 k.g, .int .i64 k.p, .int .i64 k.r, .pointer (some ⟨m.b, 0, none⟩), .int .i64 wh] 47)).drew tb cs T := (hb.alloc _).drew
  have hM : MemR (w.alloc (.cells #[.int .i64 k.t, .int .i64 k.s, .int .i64 k.c, .int .i64 k.w, .int .i64 k.g, .int .i64 k.p, .int .i64 k.r, .pointer (some ⟨m.b, 0, none⟩), .int .i64 wh] 47)).drew m s := (hm.alloc _).drew
  go_region_held3 (fun w' => (∀ o, w'.cell? ⟨w.heap.size, o, none⟩ = (#[.int .i64 k.t, .int .i64 k.s, .int .i64 k.c, .int .i64 k.w, .int .i64 k.g, .int .i64 k.p, .int .i64 k.r, .pointer (some ⟨m.b, 0, none⟩), .int .i64 wh] : Array Value)[o]?) ∧ w'.cell? ⟨tb, o + 1, none⟩ = some (.int .u64 ep)) ((refine ⟨Blk.cell (T := 47) ?_, (Blk.cell (T := T) (cs := cs) ?_ (o + 1)).trans a1⟩; all_goals repeat (first | with_reducible assumption | with_reducible apply Blk.drew | with_reducible apply Blk.alloc | (with_reducible refine Blk.only ?_ (by with_reducible assumption) (by first | exact List.not_mem_nil | with_reducible assumption)) | (with_reducible refine Blk.other ?_ _ _ (by simp only; omega)))))
    (first
      | (go_at_call 48; refine (pin_any _ _).mono ?_; rintro e w' ⟨rfl, rfl⟩)
      | (go_at_call 70; refine (store_env k wh hM (u64_wrap _)).mono ?_; rintro e w1 ⟨rfl, hm1, ho1⟩; have hB1 := hB.only ho1 hnt; have f1 := hB1.frozen; have c10 := (hB1.cell o).trans a0))
  all_goals
    go_wp2
    go_ret
    refine ⟨rfl, ?_, ?_, ?_⟩
    · repeat (first | with_reducible assumption | with_reducible apply MemR.drew | with_reducible apply MemR.alloc | (with_reducible refine MemR.only ?_ (by with_reducible assumption) List.not_mem_nil List.not_mem_nil List.not_mem_nil) | (with_reducible refine MemR.other ?_ _ _ (by simp only; omega) (by simp only; omega) (by simp only; omega)))
    · exact hB1.set o _ (by
        unfold PinS.put
        rw [Array.setIfInBounds_comm _ _ (by omega), setIfInBounds_self a1])
    · repeat (first | with_reducible exact Only.refl _ _ | with_reducible assumption | with_reducible apply Only.drew | with_reducible apply Only.drewN | with_reducible apply Only.alloc | (with_reducible refine Only.setCell ?_ _ _ (by simp)) | (with_reducible refine Only.trans' ?_ (by with_reducible assumption) (by intro x hx _; simp only [List.mem_cons, List.not_mem_nil, or_false] at hx ⊢; omega)))

set_option maxHeartbeats 1600000 in
theorem in_step2y (k : Cfg) (wh : Int) (p : PinS) (tb o : Nat) (cs : Array Value) (T : Nat) (hm : MemR w m s) (hb : Blk w tb cs T) (hat : p.At cs o) (hpc0 : (p.pc == 0) = false) (hpc1 : (p.pc == 1) = false) (heq : s.get 0 = p.ep) (n1 : tb ≠ m.b) (n2 : tb ≠ m.wb) (n3 : tb ≠ m.hb) :
    Calls Try.prog 55 #[.pointer (some ⟨tb, o, none⟩), .agg #[.int .i64 k.t, .int .i64 k.s, .int .i64 k.c, .int .i64 k.w, .int .i64 k.g, .int .i64 k.p, .int .i64 k.r, .pointer (some ⟨m.b, 0, none⟩), .int .i64 wh]] w fun e w' =>
      e = .returned (.bool true) ∧ MemR w' m ((s.by wh).load 0) ∧ Blk w' tb cs T ∧ Only [m.b, m.wb, m.hb, tb] w w' := by
  obtain ⟨pc, ep⟩ := p
  obtain ⟨a0, a1⟩ := hat
  simp only at a0 a1 hpc0 hpc1 heq
  have ht := hb.lt
  have hc0 := (hb.cell o).trans a0
  have hnx : w.heap.size ∉ [m.b, m.wb, m.hb] := hm.notin (Nat.le_refl _)
  have hnt : tb ∉ [m.b, m.wb, m.hb] := by simp only [List.mem_cons, List.not_mem_nil, or_false, not_or]; exact ⟨n1, n2, n3⟩
  have hd : (s.get 0 == ep) = true := by simpa using heq
  clear heq
  go_enter Try.func55, Try.ntmps55
  go_wp2
  have hX : Blk (w.alloc (.cells #[.int .i64 k.t, .int .i64 k.s, .int .i64 k.c, .int .i64 k.w, .int .i64 k.g, .int .i64 k.p, .int .i64 k.r, .pointer (some ⟨m.b, 0, none⟩), .int .i64 wh] 47)).drew w.heap.size #[.int .i64 k.t, .int .i64 k.s, .int .i64 k.c, .int .i64 k.w, .int .i64 k.g, .int .i64 k.p, .int .i64 k.r, .pointer (some ⟨m.b, 0, none⟩), .int .i64 wh] 47 := (Blk.new w _ 47).drew
  have hB : Blk (w.alloc (.cells #[.int .i64 k.t, .int .i64 k.s, .int .i64 k.c, .int .i64 k.w, .int .i64 k.g, .int .i64 k.p, .int .i64 k.r, .pointer (some ⟨m.b, 0, none⟩), .int .i64 wh] 47)).drew tb cs T := (hb.alloc _).drew
  have hM : MemR (w.alloc (.cells #[.int .i64 k.t, .int .i64 k.s, .int .i64 k.c, .int .i64 k.w, .int .i64 k.g, .int .i64 k.p, .int .i64 k.r, .pointer (some ⟨m.b, 0, none⟩), .int .i64 wh] 47)).drew m s := (hm.alloc _).drew
  go_region_held3 (fun w' => ∀ o, w'.cell? ⟨w.heap.size, o, none⟩ = (#[.int .i64 k.t, .int .i64 k.s, .int .i64 k.c, .int .i64 k.w, .int .i64 k.g, .int .i64 k.p, .int .i64 k.r, .pointer (some ⟨m.b, 0, none⟩), .int .i64 wh] : Array Value)[o]?) ((refine Blk.cell (T := 47) ?_; repeat (first | with_reducible assumption | with_reducible apply Blk.drew | with_reducible apply Blk.alloc | (with_reducible refine Blk.only ?_ (by with_reducible assumption) (by first | exact List.not_mem_nil | with_reducible assumption)) | (with_reducible refine Blk.other ?_ _ _ (by simp only; omega)))))
    (first
      | (go_at_call 45; refine (epoch_any _).mono ?_; rintro e w' ⟨rfl, rfl⟩)
      | (go_at_call 69; refine (load_env k wh hM).mono ?_; rintro e w1 ⟨rfl, hm1, ho1⟩; have hB1 := hB.only ho1 hnt; have f1 := hB1.frozen; have c10 := (hB1.cell o).trans a0; have c11 := (hB1.cell (o + 1)).trans a1))
  all_goals
    go_wp2
    go_ret
    refine ⟨rfl, ?_, ?_, ?_⟩
    · repeat (first | with_reducible assumption | with_reducible apply MemR.drew | with_reducible apply MemR.alloc | (with_reducible refine MemR.only ?_ (by with_reducible assumption) List.not_mem_nil List.not_mem_nil List.not_mem_nil) | (with_reducible refine MemR.other ?_ _ _ (by simp only; omega) (by simp only; omega) (by simp only; omega)))
    · exact hB1
    · repeat (first | with_reducible exact Only.refl _ _ | with_reducible assumption | with_reducible apply Only.drew | with_reducible apply Only.drewN | with_reducible apply Only.alloc | (with_reducible refine Only.setCell ?_ _ _ (by simp)) | (with_reducible refine Only.trans' ?_ (by with_reducible assumption) (by intro x hx _; simp only [List.mem_cons, List.not_mem_nil, or_false] at hx ⊢; omega)))

set_option maxHeartbeats 1600000 in
theorem in_step2n (k : Cfg) (wh : Int) (p : PinS) (tb o : Nat) (cs : Array Value) (T : Nat) (hm : MemR w m s) (hb : Blk w tb cs T) (hat : p.At cs o) (hpc0 : (p.pc == 0) = false) (hpc1 : (p.pc == 1) = false) (heq : ¬ s.get 0 = p.ep) (n1 : tb ≠ m.b) (n2 : tb ≠ m.wb) (n3 : tb ≠ m.hb) :
    Calls Try.prog 55 #[.pointer (some ⟨tb, o, none⟩), .agg #[.int .i64 k.t, .int .i64 k.s, .int .i64 k.c, .int .i64 k.w, .int .i64 k.g, .int .i64 k.p, .int .i64 k.r, .pointer (some ⟨m.b, 0, none⟩), .int .i64 wh]] w fun e w' =>
      e = .returned (.bool false) ∧ MemR w' m ((s.by wh).load 0) ∧ Blk w' tb ((⟨1, s.get 0⟩ : PinS).put cs o) T ∧ Only [m.b, m.wb, m.hb, tb] w w' := by
  obtain ⟨pc, ep⟩ := p
  obtain ⟨a0, a1⟩ := hat
  simp only at a0 a1 hpc0 hpc1 heq
  have ht := hb.lt
  have hc0 := (hb.cell o).trans a0
  have hnx : w.heap.size ∉ [m.b, m.wb, m.hb] := hm.notin (Nat.le_refl _)
  have hnt : tb ∉ [m.b, m.wb, m.hb] := by simp only [List.mem_cons, List.not_mem_nil, or_false, not_or]; exact ⟨n1, n2, n3⟩
  have hd : (s.get 0 == ep) = false := by simpa using heq
  clear heq
  go_enter Try.func55, Try.ntmps55
  go_wp2
  have hX : Blk (w.alloc (.cells #[.int .i64 k.t, .int .i64 k.s, .int .i64 k.c, .int .i64 k.w, .int .i64 k.g, .int .i64 k.p, .int .i64 k.r, .pointer (some ⟨m.b, 0, none⟩), .int .i64 wh] 47)).drew w.heap.size #[.int .i64 k.t, .int .i64 k.s, .int .i64 k.c, .int .i64 k.w, .int .i64 k.g, .int .i64 k.p, .int .i64 k.r, .pointer (some ⟨m.b, 0, none⟩), .int .i64 wh] 47 := (Blk.new w _ 47).drew
  have hB : Blk (w.alloc (.cells #[.int .i64 k.t, .int .i64 k.s, .int .i64 k.c, .int .i64 k.w, .int .i64 k.g, .int .i64 k.p, .int .i64 k.r, .pointer (some ⟨m.b, 0, none⟩), .int .i64 wh] 47)).drew tb cs T := (hb.alloc _).drew
  have hM : MemR (w.alloc (.cells #[.int .i64 k.t, .int .i64 k.s, .int .i64 k.c, .int .i64 k.w, .int .i64 k.g, .int .i64 k.p, .int .i64 k.r, .pointer (some ⟨m.b, 0, none⟩), .int .i64 wh] 47)).drew m s := (hm.alloc _).drew
  go_region_held3 (fun w' => ∀ o, w'.cell? ⟨w.heap.size, o, none⟩ = (#[.int .i64 k.t, .int .i64 k.s, .int .i64 k.c, .int .i64 k.w, .int .i64 k.g, .int .i64 k.p, .int .i64 k.r, .pointer (some ⟨m.b, 0, none⟩), .int .i64 wh] : Array Value)[o]?) ((refine Blk.cell (T := 47) ?_; repeat (first | with_reducible assumption | with_reducible apply Blk.drew | with_reducible apply Blk.alloc | (with_reducible refine Blk.only ?_ (by with_reducible assumption) (by first | exact List.not_mem_nil | with_reducible assumption)) | (with_reducible refine Blk.other ?_ _ _ (by simp only; omega)))))
    (first
      | (go_at_call 45; refine (epoch_any _).mono ?_; rintro e w' ⟨rfl, rfl⟩)
      | (go_at_call 69; refine (load_env k wh hM).mono ?_; rintro e w1 ⟨rfl, hm1, ho1⟩; have hB1 := hB.only ho1 hnt; have f1 := hB1.frozen; have c10 := (hB1.cell o).trans a0; have c11 := (hB1.cell (o + 1)).trans a1))
  all_goals
    go_wp2
    go_ret
    refine ⟨rfl, ?_, ?_, ?_⟩
    · repeat (first | with_reducible assumption | with_reducible apply MemR.drew | with_reducible apply MemR.alloc | (with_reducible refine MemR.only ?_ (by with_reducible assumption) List.not_mem_nil List.not_mem_nil List.not_mem_nil) | (with_reducible refine MemR.other ?_ _ _ (by simp only; omega) (by simp only; omega) (by simp only; omega)))
    · exact (hB1.set (o + 1) _ rfl).set o _ (by unfold PinS.put; rw [Array.setIfInBounds_comm _ _ (by omega)])
    · repeat (first | with_reducible exact Only.refl _ _ | with_reducible assumption | with_reducible apply Only.drew | with_reducible apply Only.drewN | with_reducible apply Only.alloc | (with_reducible refine Only.setCell ?_ _ _ (by simp)) | (with_reducible refine Only.trans' ?_ (by with_reducible assumption) (by intro x hx _; simp only [List.mem_cons, List.not_mem_nil, or_false] at hx ⊢; omega)))


def InPost (wh : Int) (p : PinS) (tb o : Nat) (cs : Array Value) (T : Nat) (m : MB) (s : MS) (w : World) (e : Ending) (w' : World) : Prop :=
  e = .returned (.bool (inStep wh s p).1) ∧ MemR w' m (inStep wh s p).2.1 ∧ Blk w' tb ((inStep wh s p).2.2.put cs o) T ∧ Only [m.b, m.wb, m.hb, tb] w w'

theorem in_step (k : Cfg) (wh : Int) (p : PinS) (tb o : Nat) (cs : Array Value) (T : Nat) (hm : MemR w m s) (hb : Blk w tb cs T) (hat : p.At cs o) (n1 : tb ≠ m.b) (n2 : tb ≠ m.wb) (n3 : tb ≠ m.hb) :
    Calls Try.prog 55 #[.pointer (some ⟨tb, o, none⟩), .agg #[.int .i64 k.t, .int .i64 k.s, .int .i64 k.c, .int .i64 k.w, .int .i64 k.g, .int .i64 k.p, .int .i64 k.r, .pointer (some ⟨m.b, 0, none⟩), .int .i64 wh]] w (InPost wh p tb o cs T m s w) := by
  have hself : p.put cs o = cs := by
    unfold PinS.put
    rw [setIfInBounds_self hat.pc, setIfInBounds_self hat.ep]
  by_cases h0 : p.pc = 0
  · refine (in_step0 k wh p tb o cs T hm hb hat h0 n1 n2 n3).mono ?_
    rintro e w' ⟨rfl, h1, h2, h3⟩
    unfold InPost inStep
    rw [if_pos h0]
    exact ⟨rfl, h1, h2, h3⟩
  · by_cases h1 : p.pc = 1
    · refine (in_step1 k wh p tb o cs T hm hb hat h1 n1 n2 n3).mono ?_
      rintro e w' ⟨rfl, h4, h2, h3⟩
      unfold InPost inStep
      rw [if_neg h0, if_pos h1]
      exact ⟨rfl, h4, h2, h3⟩
    · by_cases h2 : s.get 0 = p.ep
      · refine (in_step2y k wh p tb o cs T hm hb hat (by simpa using h0) (by simpa using h1) h2 n1 n2 n3).mono ?_
        rintro e w' ⟨rfl, h4, h5, h3⟩
        unfold InPost inStep
        rw [if_neg h0, if_neg h1, if_pos h2]
        exact ⟨rfl, h4, by rw [hself]; exact h5, h3⟩
      · refine (in_step2n k wh p tb o cs T hm hb hat (by simpa using h0) (by simpa using h1) h2 n1 n2 n3).mono ?_
        rintro e w' ⟨rfl, h4, h5, h3⟩
        unfold InPost inStep
        rw [if_neg h0, if_neg h1, if_neg h2]
        exact ⟨rfl, h4, h5, h3⟩

/-- The same, its outcome told ahead. -/
theorem in_step' (k : Cfg) (wh : Int) (p : PinS) (tb o : Nat) (cs : Array Value) (T : Nat) {b : Bool} {s' : MS} {p' : PinS} (hst : inStep wh s p = (b, s', p')) (hm : MemR w m s) (hb : Blk w tb cs T) (hat : p.At cs o) (n1 : tb ≠ m.b) (n2 : tb ≠ m.wb) (n3 : tb ≠ m.hb) :
    Calls Try.prog 55 #[.pointer (some ⟨tb, o, none⟩), .agg #[.int .i64 k.t, .int .i64 k.s, .int .i64 k.c, .int .i64 k.w, .int .i64 k.g, .int .i64 k.p, .int .i64 k.r, .pointer (some ⟨m.b, 0, none⟩), .int .i64 wh]] w fun e w' =>
      e = .returned (.bool b) ∧ MemR w' m s' ∧ Blk w' tb (p'.put cs o) T ∧ Only [m.b, m.wb, m.hb, tb] w w' := by
  refine (in_step k wh p tb o cs T hm hb hat n1 n2 n3).mono ?_
  intro e w' h
  unfold InPost at h
  rw [hst] at h
  exact h

end
end Go.Proofs.Yteoimmjgnflmmaa
