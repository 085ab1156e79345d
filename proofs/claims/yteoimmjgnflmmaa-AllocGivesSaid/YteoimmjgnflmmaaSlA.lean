/-
  The arenas of the slots' laws, and their guard.
-/
import Derived.Test.YteoimmjgnflmmaaSlot2
import Derived.Test.YteoimmjgnflmmaaFrA
namespace Go.Proofs.Yteoimmjgnflmmaa
open Go.RowKit

def kS (t n : Int) : Cfg := ⟨t, n, 1, 20, 100, 600, 3⟩
theorem kS_ok {t n : Int} (t0 : 1 ≤ t) (t1 : t ≤ 8) (n0 : 1 ≤ n) (n1 : n ≤ 60000) : (kS t n).Ok := by
  unfold kS
  constructor <;> simp only <;> omega

/-- Where a world is that a call came to: its memory, its arena, and what it left. -/
structure EW (w wr : World) (m : MB) (k : Cfg) (wh : Int) (eb : Nat) (s : MS) : Prop where
  mem : MemR wr m s
  env : Blk wr eb #[.int .i64 k.t, .int .i64 k.s, .int .i64 k.c, .int .i64 k.w, .int .i64 k.g, .int .i64 k.p, .int .i64 k.r, .pointer (some ⟨m.b, 0, none⟩), .int .i64 wh] 47
  only : Only [] w wr
section
variable {w wr w1 : World} {m : MB} {k : Cfg} {wh : Int} {eb : Nat} {s s' : MS}
theorem EW.step (h : EW w wr m k wh eb s) (a1 : eb ∉ m.l) (a2 : ∀ x, x ∈ m.l → x < w.heap.size → x ∈ ([] : List Nat)) (h1 : MemR w1 m s') (h3 : Only m.l wr w1) : EW w w1 m k wh eb s' :=
  ⟨h1, h.env.only h3 a1, h.only.trans' h3 a2⟩
theorem EW.drew (h : EW w wr m k wh eb s) : EW w wr.drew m k wh eb s := ⟨h.mem.drew, h.env.drew, h.only.drew⟩
theorem EW.drewN (h : EW w wr m k wh eb s) (n : Nat) : EW w (wr.drewN n) m k wh eb s := ⟨h.mem.drewN n, h.env.drewN n, h.only.drewN n⟩
theorem EW.other (h : EW w wr m k wh eb s) (a : Addr) (v : Value) (h1 : a.block ∉ m.l) (h2 : eb ≠ a.block) (h3 : w.heap.size ≤ a.block) : EW w (wr.setCell a v) m k wh eb s := by
  simp only [List.mem_cons, List.not_mem_nil, or_false, not_or] at h1
  exact ⟨h.mem.other _ _ (by omega) (by omega) (by omega), h.env.other _ _ h2, h.only.setCell _ _ (fun hh => by omega)⟩
theorem EW.alloc (h : EW w wr m k wh eb s) (o : Obj) : EW w (wr.alloc o) m k wh eb s := ⟨h.mem.alloc o, h.env.alloc o, h.only.alloc o⟩
end

set_option maxRecDepth 100000 in
set_option maxHeartbeats 1600000 in
theorem awake6 (w : World) : Calls Try.prog 63 #[] w fun e w' => e = .returned (.bool true) ∧ Only [] w w' := by
  have hk : (kS 2 2).Ok := kS_ok (by decide) (by decide) (by decide) (by decide)
  have hf := fresh_fr hk (by decide) (n := 2) rfl
  have ht0 : topN ((freshS (kS 2 2)).at 1) = 0 := by rw [fresh_top hk (by decide)]; decide
  go_enter Try.func63, Try.ntmps63
  go_wp2_with fail
  refine (arena_yes (kS 2 2) hk rfl rfl rfl _).mono ?_
  rintro e w1 ⟨m, rfl, hm1, hn1, ho1⟩
  obtain ⟨hl1, hl2, hl3⟩ := hm1.lts
  obtain ⟨hn1, hn2, hn3⟩ := hn1
  have hz := ho1.size
  have hnx : w1.heap.size ∉ m.l := hm1.notin (Nat.le_refl _)
  have hlm : ∀ x, x ∈ m.l → x < w.heap.size → x ∈ ([] : List Nat) := fun x hx hlt => by
    simp only [List.mem_cons, List.not_mem_nil, or_false] at hx; omega
  have hW : EW w (w1.alloc (.cells #[.int .i64 (kS 2 2).t, .int .i64 (kS 2 2).s, .int .i64 (kS 2 2).c, .int .i64 (kS 2 2).w, .int .i64 (kS 2 2).g, .int .i64 (kS 2 2).p, .int .i64 (kS 2 2).r, .pointer (some ⟨m.b, 0, none⟩), .int .i64 0] 47)) m (kS 2 2) 0 w1.heap.size (freshS (kS 2 2)) := ⟨hm1.alloc _, Blk.new _ _ _, ho1.alloc _⟩
  have hEc := hW.env.cell
  have HF := Lib.hid hf
  have HT := Lib.hid ht0
  clear hf ht0
  go_wp2_with fail
  refine (take_some (kS 2 2) 0 2 (by decide) 0 [1] hk hW.mem HF.out (by rw [HT.out]; decide)).mono ?_
  rintro e w2 ⟨rfl, ⟨s2, hm2, hT2⟩, ho2⟩
  have hW2 := hW.step hnx hlm hm2 ho2
  have hc2 : topN (s2.at 1) = 1 := by rw [hT2.top, HT.out]; rfl
  have hE2 := hW2.env.cell
  have HC := Lib.hid hc2
  have HT2 := Lib.hid hT2
  clear hEc hT2 hc2
  go_wp2_with fail
  refine (take_some (kS 2 2) 0 2 (by decide) 1 [] hk hW2.mem HT2.out.fr (by rw [HC.out]; decide)).mono ?_
  rintro e w3 ⟨rfl, ⟨s3, hm3, hT3⟩, ho3⟩
  have hW3 := hW2.step hnx hlm hm3 ho3
  have HT3 := Lib.hid hT3
  clear hE2 hT3
  have hE3 := hW3.env.cell
  go_wp2_with fail
  refine (take_none (kS 2 2) 0 2 hk hW3.mem HT3.out.fr).mono ?_
  rintro e w4 ⟨rfl, hm4, ho4⟩
  have hW4 := hW3.step hnx hlm hm4 ho4
  clear hE3
  go_wp2
  go_ret
  exact ⟨rfl, hW4.only⟩

end Go.Proofs.Yteoimmjgnflmmaa
