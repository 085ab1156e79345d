/-
  Which arenas may be, as the program and as the reference tell it.
-/
import Derived.Test.YteoimmjgnflmmaaLay
namespace Go.Proofs.Yteoimmjgnflmmaa
open Go.RowKit

def ok1 (k : Cfg) : Bool := decide (1 ≤ k.t ∧ k.t ≤ 8 ∧ 1 ≤ k.s ∧ k.s ≤ 65536)
def ok2 (k : Cfg) : Bool := decide (1 ≤ k.c ∧ k.c ≤ 64 ∧ 17 ≤ k.w ∧ k.w ≤ 256)
def ok3 (k : Cfg) : Bool := decide (1 ≤ k.g ∧ k.g ≤ 65535 ∧ 0 ≤ k.p ∧ k.p ≤ 1000 ∧ 1 ≤ k.r ∧ k.r ≤ 16)
def okB (k : Cfg) : Bool := ok1 k && ok2 k && ok3 k
theorem okB_iff (k : Cfg) : okB k = true ↔ k.Ok := by
  unfold okB ok1 ok2 ok3
  simp only [Bool.and_eq_true, decide_eq_true_eq]
  constructor
  · rintro ⟨⟨⟨a, b, c, d⟩, e, f, g, h⟩, i, j, l, m, n, o⟩
    exact ⟨a, b, c, d, e, f, g, h, i, j, l, m, n, o⟩
  · rintro ⟨a, b, c, d, e, f, g, h, i, j, l, m, n, o⟩
    exact ⟨⟨⟨a, b, c, d⟩, e, f, g, h⟩, i, j, l, m, n, o⟩

set_option maxHeartbeats 1600000 in
theorem check_any (k : Cfg) (w : World) : Calls Try.prog 32 #[.agg #[.int .i64 k.t, .int .i64 k.s, .int .i64 k.c, .int .i64 k.w, .int .i64 k.g, .int .i64 k.p, .int .i64 k.r]] w fun e w' => e = .returned (.bool (okB k)) ∧ w' = w.alloc (.cells #[.int .i64 k.t, .int .i64 k.s, .int .i64 k.c, .int .i64 k.w, .int .i64 k.g, .int .i64 k.p, .int .i64 k.r] 23) := by
  go_enter Try.func32, Try.ntmps32
  go_upto_region 1 with fail
  go_cut [3] (fun v w' => v = .bool (ok1 k) ∧ w' = w.alloc (.cells #[.int .i64 k.t, .int .i64 k.s, .int .i64 k.c, .int .i64 k.w, .int .i64 k.g, .int .i64 k.p, .int .i64 k.r] 23))
  case first =>
    go_wp2
    all_goals
      go_meet
      refine ⟨?_, rfl⟩
      unfold ok1
      congr 1
      symm
      first | (apply decide_eq_true; omega) | (apply decide_eq_false; omega) | (rw [decide_eq_decide]; omega)
  case rest =>
    obtain ⟨rfl, rfl⟩ := hcut
    go_upto_region 2 with fail
    go_cut [4] (fun v w' => v = .bool (ok2 k) ∧ w' = w.alloc (.cells #[.int .i64 k.t, .int .i64 k.s, .int .i64 k.c, .int .i64 k.w, .int .i64 k.g, .int .i64 k.p, .int .i64 k.r] 23))
    case first =>
      go_wp2
      all_goals
        go_meet
        refine ⟨?_, rfl⟩
        unfold ok2
        congr 1
        symm
        first | (apply decide_eq_true; omega) | (apply decide_eq_false; omega) | (rw [decide_eq_decide]; omega)
    case rest =>
      obtain ⟨rfl, rfl⟩ := hcut
      go_upto_region 3 with fail
      go_cut [5] (fun v w' => v = .bool (ok3 k) ∧ w' = w.alloc (.cells #[.int .i64 k.t, .int .i64 k.s, .int .i64 k.c, .int .i64 k.w, .int .i64 k.g, .int .i64 k.p, .int .i64 k.r] 23))
      case first =>
        go_wp2
        all_goals
          go_meet
          refine ⟨?_, rfl⟩
          unfold ok3
          congr 1
          symm
          first | (apply decide_eq_true; omega) | (apply decide_eq_false; omega) | (rw [decide_eq_decide]; omega)
      case rest =>
        obtain ⟨rfl, rfl⟩ := hcut
        cases h1 : ok1 k <;> cases h2 : ok2 k <;> cases h3 : ok3 k
        all_goals
          have hg : okB k = (ok1 k && ok2 k && ok3 k) := rfl
          rw [h1, h2, h3] at hg
          have HG := Lib.hid hg
          clear hg h1 h2 h3
          go_wp2
          go_ret
          exact ⟨by rw [HG.out]; rfl, rfl⟩

def chkL (k : Cfg) : List Int := [k.t, k.s, k.c, k.w, k.g, k.p, k.r]
def chkLo : List Int := [1, 1, 1, 17, 1, 0, 1]
def chkHi : List Int := [8, 65536, 64, 256, 65535, 1000, 16]
def inRow (k : Cfg) (j : Nat) : Prop := chkLo.getD j 0 ≤ (chkL k).getD j 0 ∧ (chkL k).getD j 0 ≤ chkHi.getD j 0
theorem inRow_all (k : Cfg) (h : ∀ j, j < 7 → inRow k j) : okB k = true := by
  rw [okB_iff]
  have h0 := h 0 (by decide)
  have h1 := h 1 (by decide)
  have h2 := h 2 (by decide)
  have h3 := h 3 (by decide)
  have h4 := h 4 (by decide)
  have h5 := h 5 (by decide)
  have h6 := h 6 (by decide)
  exact ⟨h0.1, h0.2, h1.1, h1.2, h2.1, h2.2, h3.1, h3.2, h4.1, h4.2, h5.1, h5.2, h6.1, h6.2⟩
theorem inRow_not (k : Cfg) (j : Nat) (hj : j < 7) (h : ¬ inRow k j) : okB k = false := by
  cases hb : okB k with
  | false => rfl
  | true =>
    exfalso
    obtain ⟨a, b, c, d, e, f, g, h', i, j', l, m, n, o⟩ := (okB_iff k).1 hb
    apply h
    have hq : j = 0 ∨ j = 1 ∨ j = 2 ∨ j = 3 ∨ j = 4 ∨ j = 5 ∨ j = 6 := by omega
    rcases hq with rfl | rfl | rfl | rfl | rfl | rfl | rfl
    · exact ⟨a, b⟩
    · exact ⟨c, d⟩
    · exact ⟨e, f⟩
    · exact ⟨g, h'⟩
    · exact ⟨i, j'⟩
    · exact ⟨l, m⟩
    · exact ⟨n, o⟩
theorem row7 (l : List Int) (hl : l.length = 7) (j : Nat) (hj : j < 7) : (l.map (Value.int .i64)).toArray[j]? = some (.int .i64 (l.getD j 0)) := by
  simp [List.getD, show j < l.length by omega]

/-- The three rows of the reference's check. -/
structure Three (k : Cfg) (w wr : World) : Prop where
  lo : Blk wr (w.heap.size + 1) (i64s chkLo) 3
  hi : Blk wr (w.heap.size + 1 + 1) (i64s chkHi) 3
  xs : Blk wr (w.heap.size + 1 + 1 + 1) (i64s (chkL k)) 3
  only : Only [] w wr
theorem i64s_at {w : World} {b T : Nat} {l : List Int} (h : Blk w b (i64s l) T) (i : Nat) (hi : i < l.length) : w.cell? ⟨b, i, none⟩ = some (.int .i64 (l.getD i 0)) := by
  rw [h.cell, i64s_get _ _ hi]

set_option maxHeartbeats 1600000 in
theorem refcheck_any (k : Cfg) (w : World) : Calls Try.prog 33 #[.agg #[.int .i64 k.t, .int .i64 k.s, .int .i64 k.c, .int .i64 k.w, .int .i64 k.g, .int .i64 k.p, .int .i64 k.r]] w fun e w' => e = .returned (.bool (okB k)) ∧ Only [] w w' := by
  go_enter Try.func33, Try.ntmps33
  go_wp2
  go_loopw [6] (fun i wr => ∃ j : Nat, j ≤ 7 ∧ i = .int .i64 j ∧ (∀ q, q < j → inRow k q) ∧ Three k w wr) (fun i _ => 7 - (intOf i).toNat)
  case atStart =>
    refine ⟨0, by omega, rfl, fun q hq => by omega, ?_, ?_, ?_, ?_⟩
    · exact ((Blk.new' (by simp) rfl).alloc _).alloc _
    · exact (Blk.new' (by simp) rfl).alloc _
    · exact Blk.new' (by simp) rfl
    · exact ((((Only.refl _ _).alloc _).alloc _).alloc _).alloc _
  case round =>
    rename_i wr
    obtain ⟨j, hj, rfl, hin, hT⟩ := hrel
    by_cases hlt : j < 7
    · have c1 := i64s_at hT.lo j hlt
      have c2 := i64s_at hT.hi j hlt
      have c3 := i64s_at hT.xs j hlt
      have HIN := Lib.hid hin
      clear hin
      have hno : ((chkL k).getD j 0 < chkLo.getD j 0 ∨ chkHi.getD j 0 < (chkL k).getD j 0) → okB k = false := fun h => inRow_not k j hlt (fun h' => by have := h'.1; have := h'.2; omega)
      have hye : ¬ (chkL k).getD j 0 < chkLo.getD j 0 → ¬ chkHi.getD j 0 < (chkL k).getD j 0 → inRow k j := fun h h' => ⟨by omega, by omega⟩
      generalize (chkL k).getD j 0 = x at *
      generalize chkLo.getD j 0 = lo at *
      generalize chkHi.getD j 0 = hi at *
      by_cases h1 : x < lo
      · have hd : decide (x < lo) = true := by simpa using h1
        have hg := hno (.inl h1)
        have HG := Lib.hid hg
        clear hg hno hye
        go_wp2
        go_quiet (fail)
        go_wp2
        go_ret
        exact ⟨by rw [HG.out]; rfl, hT.only.drewN _⟩
      · have hd : decide (x < lo) = false := by simpa using h1
        by_cases h2 : hi < x
        · have hd2 : decide (hi < x) = true := by simpa using h2
          have hg := hno (.inr h2)
          have HG := Lib.hid hg
          clear hg hno hye
          go_wp2
          go_quiet (fail)
          go_wp2
          go_ret
          exact ⟨by rw [HG.out]; rfl, hT.only.drewN _⟩
        · have hd2 : decide (hi < x) = false := by simpa using h2
          have hr := hye h1 h2
          have HR := Lib.hid hr
          clear hr hno hye
          go_wp2
          go_quiet (fail)
          go_wp2
          go_roundw
          case rel =>
            refine ⟨j + 1, by omega, by go_num, fun q hq => ?_, hT.lo.drewN _, hT.hi.drewN _, hT.xs.drewN _, hT.only.drewN _⟩
            rcases Nat.lt_or_ge q j with h | h
            · exact HIN.out q h
            · have : q = j := by omega
              subst this
              exact HR.out
          case measure => simp [intOf]; omega
    · have h7 : j = 7 := by omega
      subst h7
      have hg := inRow_all k hin
      have HG := Lib.hid hg
      clear hg hin
      go_wp2
      go_ret
      exact ⟨by rw [HG.out]; rfl, hT.only⟩

end Go.Proofs.Yteoimmjgnflmmaa
