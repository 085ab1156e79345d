/-
  The epoch is moved on by a thread alone: when it goes, and what it leaves.
-/
import Derived.Test.YteoimmjgnflmmaaAdv
namespace Go.Proofs.Yteoimmjgnflmmaa
open Go.RowKit

theorem went_any (w : World) (p : AdvS) (tb : Nat) (hb : Blk w tb p.cs 116) : Calls Try.prog 91 #[.pointer (some ⟨tb, 0, none⟩)] w fun e w' => e = .returned (.bool p.went) ∧ w = w' := by
  have hc := hb.cell
  unfold AdvS.cs at hc
  go_enter Try.func91, Try.ntmps91
  go_wp2
  go_ret
  exact ⟨rfl, rfl⟩

theorem aPin_small {i : Int} (h0 : 0 ≤ i) (h1 : i < 1000) : aPin i = 6 + i := by
  unfold aPin wrap64; omega

/-- A pin that lets the epoch go on. -/
def okPin (l : List Int) (i : Nat) : Prop := l.getD (6 + i) 0 = 0 ∨ l.getD (6 + i) 0 = IntKind.u64.wrap (l.getD 0 0 + 1)
def AllOk (l : List Int) (t : Nat) : Prop := ∀ i, i < t → okPin l i

structure AW (w wr : World) (m : MB) (k : Cfg) (wh : Int) (s : MS) (p : AdvS) : Prop where
  mem : MemR wr m s
  env : Blk wr w.heap.size #[.int .i64 k.t, .int .i64 k.s, .int .i64 k.c, .int .i64 k.w, .int .i64 k.g, .int .i64 k.p, .int .i64 k.r, .pointer (some ⟨m.b, 0, none⟩), .int .i64 wh] 47
  adv : Blk wr (w.heap.size + 1) p.cs 116
  only : Only m.l w wr

section
variable {w wr w1 : World} {m : MB} {k : Cfg} {wh : Int} {s s1 : MS} {p p1 : AdvS}
theorem AW.step (h : AW w wr m k wh s p) (a1 : w.heap.size ∉ m.l) (h1 : MemR w1 m s1) (h2 : Blk w1 (w.heap.size + 1) p1.cs 116) (h3 : Only [m.b, m.wb, m.hb, w.heap.size + 1] wr w1) : AW w w1 m k wh s1 p1 := by
  refine ⟨h1, h.env.only h3 ?_, h2, h.only.trans' h3 ?_⟩
  · simp only [List.mem_cons, List.not_mem_nil, or_false, not_or] at a1 ⊢; omega
  · intro x hx hlt
    simp only [List.mem_cons, List.not_mem_nil, or_false] at hx ⊢
    omega
end

set_option maxHeartbeats 1600000 in
theorem advance_any (k : Cfg) (wh : Int) (t : Nat) (b : Bool) {w : World} {m : MB} {s : MS} (hm : MemR w m s) (ht : k.t = t) (ht1 : 1 ≤ t) (ht2 : t ≤ 16) (hlen : 6 + t ≤ s.ws.length) (hb : b = true ↔ AllOk s.ws t) :
    Calls Try.prog 60 #[.agg #[.int .i64 k.t, .int .i64 k.s, .int .i64 k.c, .int .i64 k.w, .int .i64 k.g, .int .i64 k.p, .int .i64 k.r, .pointer (some ⟨m.b, 0, none⟩), .int .i64 wh]] w fun e w' => e = .returned (.bool b) ∧ (∃ s', MemR w' m s' ∧ s'.ws = cond b (s.ws.set 0 (IntKind.u64.wrap (s.ws.getD 0 0 + 1))) s.ws) ∧ Only m.l w w' := by
  have HT := Lib.hid ht
  have HB := Lib.hid hb
  clear ht hb
  have hl := hm.lts
  obtain ⟨hl1, hl2, hl3⟩ := hl
  have hnx : w.heap.size ∉ m.l := hm.notin (Nat.le_refl _)
  have n1 : w.heap.size + 1 ≠ m.b := by omega
  have n2 : w.heap.size + 1 ≠ m.wb := by omega
  have n3 : w.heap.size + 1 ≠ m.hb := by omega
  have hW0 : AW w ((w.alloc (.cells #[.int .i64 k.t, .int .i64 k.s, .int .i64 k.c, .int .i64 k.w, .int .i64 k.g, .int .i64 k.p, .int .i64 k.r, .pointer (some ⟨m.b, 0, none⟩), .int .i64 wh] 47)).alloc (.cells (⟨0, 0, 0, false⟩ : AdvS).cs 116)) m k wh s ⟨0, 0, 0, false⟩ :=
    ⟨(hm.alloc _).alloc _, (Blk.new w _ 47).alloc _, Blk.new' (by simp) rfl, ((Only.refl _ w).alloc _).alloc _⟩
  go_enter Try.func60, Try.ntmps60
  go_wp2
  go_loopw [4] (fun i wr => ∃ (j : Nat) (p : AdvS) (s1 : MS), i = .int .i64 j ∧ j ≤ 18 ∧ s1.ws = s.ws ∧ AW w wr m k wh s1 p ∧ ((j = 0 ∧ p = ⟨0, 0, 0, false⟩) ∨ (1 ≤ j ∧ j ≤ t ∧ p = ⟨1, s.ws.getD 0 0, ((j - 1 : Nat) : Int), false⟩ ∧ AllOk s.ws (j - 1)) ∨ (j = t + 1 ∧ p = ⟨2, s.ws.getD 0 0, t, false⟩ ∧ AllOk s.ws t))) (fun i _ => 40 - (intOf i).toNat)
  case atStart => exact ⟨0, _, s, rfl, by omega, rfl, hW0, .inl ⟨rfl, rfl⟩⟩
  case round =>
    obtain ⟨j, p, s1, rfl, hj, hws, hW, hp⟩ := hrel
    clear hW0
    have hEc := hW.env.cell
    have hM := hW.mem
    have hA := hW.adv
    have hlt : j < 40 := by omega
    have hg0 : s1.get 0 = s.ws.getD 0 0 := by
      rw [get_ok s1 0 ⟨by omega, by rw [hws]; omega⟩]
      unfold MS.at; rw [hws]; rfl
    rcases hp with ⟨rfl, rfl⟩ | ⟨hj1, hjt, rfl, hall⟩ | ⟨rfl, rfl, hall⟩
    · skip
      go_wp2_with fail
      refine (adv_step0 k wh _ _ hM hA rfl n1 n2 n3).mono ?_
      rintro e w1 ⟨rfl, h1, h2, h3⟩
      have hW1 := hW.step hnx h1 h2 h3
      go_wp2
      go_roundw
      case rel =>
        exact ⟨1, _, _, by go_num, by omega, by rw [load_ws]; exact hws, hW1, .inr (.inl ⟨by omega, by omega, by rw [hg0]; rfl, fun i hi => absurd hi (by omega)⟩)⟩
      case measure => simp [intOf]
    · have hpa : aPin ((j - 1 : Nat) : Int) = 6 + ((j - 1 : Nat) : Int) := aPin_small (by omega) (by omega)
      have hgp : s1.get (aPin ((j - 1 : Nat) : Int)) = s.ws.getD (6 + (j - 1)) 0 := by
        rw [get_ok s1 _ ⟨by omega, by rw [hpa, hws]; omega⟩]
        unfold MS.at
        rw [hws, hpa]
        congr 1
      by_cases hz : s.ws.getD (6 + (j - 1)) 0 = 0
      · have h0 : (s1.get (aPin ((j - 1 : Nat) : Int)) != 0) = false := by rw [hgp, hz]; rfl
        have hall' : AllOk s.ws j := fun i hi => by
          rcases Nat.lt_or_ge i (j - 1) with h | h
          · exact hall i h
          · rw [show i = j - 1 by omega]; exact .inl hz
        clear hgp
        have hcast : ((j - 1 : Nat) : Int) + 1 = ((j + 1 - 1 : Nat) : Int) := by omega
        by_cases hjt2 : j < t
        · skip
          go_wp2_with fail
          refine (adv_next0 k wh _ _ hM hA rfl h0 (by simp only; omega) (by simp only; omega) (by rw [HT.out]; simp only; omega) n1 n2 n3).mono ?_
          rintro e w1 ⟨rfl, h1, h2, h3⟩
          have hW1 := hW.step hnx h1 h2 h3
          go_wp2
          go_roundw
          case rel =>
            exact ⟨j + 1, _, _, by go_num, by omega, by rw [load_ws]; exact hws, hW1, .inr (.inl ⟨by omega, by omega, by simp only [hcast], hall'⟩)⟩
          case measure => simp [intOf]; omega
        · skip
          go_wp2_with fail
          refine (adv_last0 k wh _ _ hM hA rfl h0 (by simp only; omega) (by simp only; omega) (by rw [HT.out]; simp only; omega) n1 n2 n3).mono ?_
          rintro e w1 ⟨rfl, h1, h2, h3⟩
          have hW1 := hW.step hnx h1 h2 h3
          have hjt3 : j = t := by omega
          go_wp2
          go_roundw
          case rel =>
            exact ⟨j + 1, _, _, by go_num, by omega, by rw [load_ws]; exact hws, hW1, .inr (.inr ⟨by omega, by simp only [hcast]; rw [show j + 1 - 1 = t by omega], by rw [← hjt3]; exact hall'⟩)⟩
          case measure => simp [intOf]; omega
      · have h0 : (s1.get (aPin ((j - 1 : Nat) : Int)) != 0) = true := by rw [hgp]; simpa using hz
        by_cases he : s.ws.getD (6 + (j - 1)) 0 = IntKind.u64.wrap (s.ws.getD 0 0 + 1)
        · have h1 : (s1.get (aPin ((j - 1 : Nat) : Int)) != IntKind.u64.wrap (s.ws.getD 0 0 + 1)) = false := by rw [hgp, he]; simp
          have hall' : AllOk s.ws j := fun i hi => by
            rcases Nat.lt_or_ge i (j - 1) with h | h
            · exact hall i h
            · rw [show i = j - 1 by omega]; exact .inr he
          clear hgp
          have hcast : ((j - 1 : Nat) : Int) + 1 = ((j + 1 - 1 : Nat) : Int) := by omega
          by_cases hjt2 : j < t
          · skip
            go_wp2_with fail
            refine (adv_next1 k wh _ _ hM hA rfl h0 h1 (by simp only; omega) (by simp only; omega) (by rw [HT.out]; simp only; omega) n1 n2 n3).mono ?_
            rintro e w1 ⟨rfl, h1, h2, h3⟩
            have hW1 := hW.step hnx h1 h2 h3
            go_wp2
            go_roundw
            case rel =>
              exact ⟨j + 1, _, _, by go_num, by omega, by rw [load_ws]; exact hws, hW1, .inr (.inl ⟨by omega, by omega, by simp only [hcast], hall'⟩)⟩
            case measure => simp [intOf]; omega
          · skip
            go_wp2_with fail
            refine (adv_last1 k wh _ _ hM hA rfl h0 h1 (by simp only; omega) (by simp only; omega) (by rw [HT.out]; simp only; omega) n1 n2 n3).mono ?_
            rintro e w1 ⟨rfl, h1, h2, h3⟩
            have hW1 := hW.step hnx h1 h2 h3
            have hjt3 : j = t := by omega
            go_wp2
            go_roundw
            case rel =>
              exact ⟨j + 1, _, _, by go_num, by omega, by rw [load_ws]; exact hws, hW1, .inr (.inr ⟨by omega, by simp only [hcast]; rw [show j + 1 - 1 = t by omega], by rw [← hjt3]; exact hall'⟩)⟩
            case measure => simp [intOf]; omega
        · have h1 : (s1.get (aPin ((j - 1 : Nat) : Int)) != IntKind.u64.wrap (s.ws.getD 0 0 + 1)) = true := by rw [hgp]; simpa using he
          have hbf : b = false := by
            cases hbb : b
            · rfl
            · rcases HB.out.1 hbb (j - 1) (by omega) with h | h
              · exact absurd h hz
              · exact absurd h he
          clear hgp
          go_wp2_with fail
          refine (adv_refuse k wh _ _ hM hA rfl h0 h1 n1 n2 n3).mono ?_
          rintro e w1 ⟨rfl, h1, h2, h3⟩
          have hW1 := hW.step hnx h1 h2 h3
          have hA1 := hW1.adv
          go_wp2_with fail
          refine (went_any _ _ _ hA1).mono ?_
          rintro e w2 ⟨rfl, rfl⟩
          go_wp2
          go_ret
          rw [hbf]
          exact ⟨rfl, ⟨_, hW1.mem, by rw [load_ws]; exact hws⟩, hW1.only⟩
    · have hbt : b = true := HB.out.2 hall
      go_wp2_with fail
      refine (adv_cas k wh _ _ hM hA rfl n1 n2 n3).mono ?_
      rintro e w1 ⟨rfl, h1, h2, h3⟩
      have hW1 := hW.step hnx h1 h2 h3
      have hA1 := hW1.adv
      go_wp2_with fail
      refine (went_any _ _ _ hA1).mono ?_
      rintro e w2 ⟨rfl, rfl⟩
      go_wp2
      go_ret
      have hok : (s1.by wh).ok 0 := ⟨by omega, by show (0 : Int) < (s1.ws.length : Int); rw [hws]; omega⟩
      have hat : (s1.by wh).at 0 = s.ws.getD 0 0 := by show s1.ws.getD 0 0 = _; rw [hws]
      rw [hbt]
      refine ⟨?_, ⟨_, hW1.mem, ?_⟩, hW1.only⟩
      · show Ending.returned (.bool ((s1.by wh).can 0 (s.ws.getD 0 0))) = _
        unfold MS.can
        rw [decide_eq_true ⟨hok, hat⟩]
      · show ((s1.by wh).cas 0 (s.ws.getD 0 0) _).ws = _
        rw [cas_ws, if_pos ⟨hok, hat⟩, by_ws, hws]
        rfl

end Go.Proofs.Yteoimmjgnflmmaa
