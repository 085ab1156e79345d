/-
  The arena of the pins' laws, and their guard: three steps pin the epoch.
-/
import Derived.Test.YteoimmjgnflmmaaPin
import Derived.Test.YteoimmjgnflmmaaPur
import Derived.Test.YteoimmjgnflmmaaRef
namespace Go.Proofs.Yteoimmjgnflmmaa
open Go.RowKit

theorem PinS.at2 (pc ep : Int) : (⟨pc, ep⟩ : PinS).At #[.int .i64 pc, .int .u64 ep] 0 := ⟨rfl, rfl⟩

def kP : Cfg := ⟨4, 1, 1, 17, 1, 0, 1⟩
theorem kP_conf : conf ⟨3, 0, 0, 0, 0, 0, 0⟩ = kP := rfl
theorem kP_ok : kP.Ok := by rw [← kP_conf]; exact conf_ok _
theorem kP_len : (freshS kP).ws.length = 32 := by decide +kernel

def ArenaP (k : Cfg) (wh : Int) (w : World) (e : Ending) (w' : World) : Prop :=
  ∃ m : MB, e = .returned (.tuple #[.agg #[.int .i64 k.t, .int .i64 k.s, .int .i64 k.c, .int .i64 k.w, .int .i64 k.g, .int .i64 k.p, .int .i64 k.r, .pointer (some ⟨m.b, 0, none⟩), .int .i64 wh], .bool true]) ∧ MemR w' m (freshS k) ∧ m.New w ∧ Only [] w w'

set_option maxHeartbeats 800000 in
theorem arena5 (k : Cfg) (hkc : conf ⟨3, 0, 0, 0, 0, 0, 0⟩ = k) (wh : Int) (w : World) : Calls Try.prog 53 #[.int .i64 wh] w (ArenaP k wh w) := by
  have hk : k.Ok := hkc ▸ conf_ok _
  have HKC := Lib.hid hkc
  clear hkc
  go_enter Try.func53, Try.ntmps53
  go_wp2_with fail
  refine (config_any ⟨3, 0, 0, 0, 0, 0, 0⟩ _).mono ?_
  rintro e w1 ⟨rfl, ho1⟩
  rw [HKC.out]
  have hR1 : Blk w1 w.heap.size #[.int .i64 0, .int .i64 0, .int .i64 0, .int .i64 0, .int .i64 0, .int .i64 0, .int .i64 0, .pointer none, .int .i64 0] 47 := (Blk.new w _ 47).only ho1 (by simp)
  have hz1 := ho1.size
  simp only [World.size_alloc] at hz1
  go_wp2_with fail
  refine (fresh_yes k hk _).mono ?_
  rintro e w2 ⟨m, rfl, hm2, hn2, ho2⟩
  have hR := (hR1.alloc (.cells #[.int .i64 k.t, .int .i64 k.s, .int .i64 k.c, .int .i64 k.w, .int .i64 k.g, .int .i64 k.p, .int .i64 k.r] 23)).only ho2 (by simp)
  have hC : Blk w2 w1.heap.size #[.int .i64 k.t, .int .i64 k.s, .int .i64 k.c, .int .i64 k.w, .int .i64 k.g, .int .i64 k.p, .int .i64 k.r] 23 := (Blk.new w1 _ 23).only ho2 (by simp)
  have hRc := hR.cell
  have hRf := hR.frozen
  have hCc := hC.cell
  have hz := ho2.size
  simp only [World.size_alloc] at hz
  have hb := hn2.b
  have hwb := hn2.wb
  have hhb := hn2.hb
  simp only [World.size_alloc] at hb hwb hhb
  have hN : m.New w := ⟨by omega, by omega, by omega⟩
  have hO : Only [] w w2 := by
    repeat (first | with_reducible exact Only.refl _ _ | with_reducible assumption | with_reducible apply Only.drew | with_reducible apply Only.drewN | with_reducible apply Only.alloc | (with_reducible refine Only.trans' ?_ (by with_reducible assumption) (fun _ h _ => h)))
  go_wp2
  refine bodyPost_ret (v := .tuple #[.agg #[.int .i64 k.t, .int .i64 k.s, .int .i64 k.c, .int .i64 k.w, .int .i64 k.g, .int .i64 k.p, .int .i64 k.r, .pointer (some ⟨m.b, 0, none⟩), .int .i64 wh], .bool true]) (by simp [results, Try.results53, go_sem, hRc]) rfl ⟨m, ?_, ?_, hN, ?_⟩
  · rfl
  · refine hm2.only (l := [w.heap.size]) ?_ (by simp; omega) (by simp; omega) (by simp; omega)
    repeat (refine Only.setCell ?_ _ _ (by simp))
    exact Only.refl _ _
  · repeat (refine Only.setCell ?_ _ _ (by simp))
    exact hO

def a5s1 : MS := (inStep 1 (freshS kP) ⟨0, 0⟩).2.1
def a5s2 : MS := (inStep 1 a5s1 ⟨1, 0⟩).2.1
def a5s3 : MS := (inStep 1 a5s2 ⟨2, 0⟩).2.1
theorem a5q1 : inStep 1 (freshS kP) ⟨0, 0⟩ = (false, a5s1, ⟨1, 0⟩) := by kernel_rfl
theorem a5q2 : inStep 1 a5s1 ⟨1, 0⟩ = (false, a5s2, ⟨2, 0⟩) := by kernel_rfl
theorem a5q3 : inStep 1 a5s2 ⟨2, 0⟩ = (true, a5s3, ⟨2, 0⟩) := by kernel_rfl
theorem a5g : a5s3.get (aPin 1) = 1 := by decide +kernel

set_option maxRecDepth 100000 in
set_option maxHeartbeats 1600000 in
theorem awake5 (w : World) : Calls Try.prog 54 #[] w fun e w' => e = .returned (.bool true) ∧ Only [] w w' := by
  go_enter Try.func54, Try.ntmps54
  go_wp2_with fail
  refine (arena5 kP rfl 1 _).mono ?_
  rintro e w1 ⟨m, rfl, hm1, hn1, ho1⟩
  have hN := hn1
  have hnb := hn1.b
  have hnw := hn1.wb
  have hnh := hn1.hb
  have hx := hm1.notin (Nat.le_refl _)
  have hx1 := hm1.notin (Nat.le_succ _)
  have hlt := hm1.mem.lt
  go_wp2
  have hE : Blk ((w1.alloc (.cells #[.int .i64 kP.t, .int .i64 kP.s, .int .i64 kP.c, .int .i64 kP.w, .int .i64 kP.g, .int .i64 kP.p, .int .i64 kP.r, .pointer (some ⟨m.b, 0, none⟩), .int .i64 1] 47)).alloc (.cells #[.int .i64 0, .int .u64 0] 51)).drew w1.heap.size #[.int .i64 kP.t, .int .i64 kP.s, .int .i64 kP.c, .int .i64 kP.w, .int .i64 kP.g, .int .i64 kP.p, .int .i64 kP.r, .pointer (some ⟨m.b, 0, none⟩), .int .i64 1] 47 := ((Blk.new w1 _ 47).alloc _).drew
  have hP : Blk ((w1.alloc (.cells #[.int .i64 kP.t, .int .i64 kP.s, .int .i64 kP.c, .int .i64 kP.w, .int .i64 kP.g, .int .i64 kP.p, .int .i64 kP.r, .pointer (some ⟨m.b, 0, none⟩), .int .i64 1] 47)).alloc (.cells #[.int .i64 0, .int .u64 0] 51)).drew (w1.heap.size + 1) #[.int .i64 0, .int .u64 0] 51 := (Blk.new' (by simp) rfl).drew
  have hM : MemR ((w1.alloc (.cells #[.int .i64 kP.t, .int .i64 kP.s, .int .i64 kP.c, .int .i64 kP.w, .int .i64 kP.g, .int .i64 kP.p, .int .i64 kP.r, .pointer (some ⟨m.b, 0, none⟩), .int .i64 1] 47)).alloc (.cells #[.int .i64 0, .int .u64 0] 51)).drew m (freshS kP) := ((hm1.alloc _).alloc _).drew
  obtain ⟨_, hwlt, hhlt⟩ := hm1.lts
  have hxE : w1.heap.size ∉ [m.b, m.wb, m.hb, w1.heap.size + 1] := by
    simp only [List.mem_cons, List.not_mem_nil, or_false, not_or]; omega
  have d1 : w1.heap.size + 1 ≠ m.b := by omega
  have d2 : w1.heap.size + 1 ≠ m.wb := by omega
  have d3 : w1.heap.size + 1 ≠ m.hb := by omega
  go_region_held3 (fun w' => ∀ o, w'.cell? ⟨w1.heap.size, o, none⟩ = (#[.int .i64 kP.t, .int .i64 kP.s, .int .i64 kP.c, .int .i64 kP.w, .int .i64 kP.g, .int .i64 kP.p, .int .i64 kP.r, .pointer (some ⟨m.b, 0, none⟩), .int .i64 1] : Array Value)[o]?) ((refine Blk.cell (T := 47) ?_; repeat (first | with_reducible assumption | with_reducible apply Blk.drew | with_reducible apply Blk.alloc | (with_reducible refine Blk.only ?_ (by with_reducible assumption) (by first | exact List.not_mem_nil | with_reducible assumption)) | (with_reducible refine Blk.other ?_ _ _ (by simp only; omega)))))
    (first
      | (go_at_call 55; with_reducible refine (in_step' kP 1 ⟨0, 0⟩ (w1.heap.size + 1) 0 _ 51 a5q1 hM hP (PinS.at2 _ _) d1 d2 d3).mono ?_; rintro e w2 ⟨rfl, hm2, hP2, ho2⟩; replace hP2 := hP2.cast (cs' := #[.int .i64 1, .int .u64 0]) rfl)
      | (go_at_call 55; with_reducible refine (in_step' kP 1 ⟨1, 0⟩ (w1.heap.size + 1) 0 _ 51 a5q2 hm2 hP2 (PinS.at2 _ _) d1 d2 d3).mono ?_; rintro e w3 ⟨rfl, hm3, hP3, ho3⟩; replace hP3 := hP3.cast (cs' := #[.int .i64 2, .int .u64 0]) rfl)
      | (go_at_call 55; with_reducible refine (in_step' kP 1 ⟨2, 0⟩ (w1.heap.size + 1) 0 _ 51 a5q3 hm3 hP3 (PinS.at2 _ _) d1 d2 d3).mono ?_; rintro e w4 ⟨rfl, hm4, hP4, ho4⟩))
  all_goals
    have hE4 : Blk w4 w1.heap.size #[.int .i64 kP.t, .int .i64 kP.s, .int .i64 kP.c, .int .i64 kP.w, .int .i64 kP.g, .int .i64 kP.p, .int .i64 kP.r, .pointer (some ⟨m.b, 0, none⟩), .int .i64 1] 47 := by
      repeat (first | with_reducible assumption | with_reducible apply Blk.drew | with_reducible apply Blk.alloc | (with_reducible refine Blk.only ?_ (by with_reducible assumption) (by first | exact List.not_mem_nil | with_reducible assumption)) | (with_reducible refine Blk.other ?_ _ _ (by simp only; omega)))
    have hx4 := hE4.cell
    have hg := a5g
    have hO : Only [] w w4 := by
      refine Only.trans' (Only.trans' (Only.trans' ((((Only.refl [] w).trans' ho1 (fun _ h _ => h)).alloc _).alloc _).drew ho2 ?_) ho3 ?_) ho4 ?_
      all_goals
        intro x hx _
        simp only [List.mem_cons, List.not_mem_nil, or_false] at hx
        have := ho1.size
        omega
    go_wp2
    go_quiet ((first
      | (go_at_call 48; exact Calls.quiet_of_same (pin_q _ _))
      | (go_at_call 44; exact Calls.quiet_of_same (peek_q hm4 _ _))))
    go_wp2
    go_ret
    exact ⟨rfl, hO.drewN _⟩

end Go.Proofs.Yteoimmjgnflmmaa
