/-
  AllocStamps, walked.
-/
import Derived.Test.YteoimmjgnflmmaaAlM
import Derived.Test.YteoimmjgnflmmaaCpy
namespace Go.Proofs.Yteoimmjgnflmmaa
open Go.RowKit Go.BigFrame

def kB : Cfg := ⟨1, 4, 4, 20, 100, 600, 3⟩
theorem kB_ok : kB.Ok := by constructor <;> decide
/-- What the law's loop comes to. -/
def stampA (s : MS) (A : Int) : Int := if A = 0 ∧ slSt (s.get (aSlot kB 0)) = 1 then s.steps else A
def srun : Nat → MS → AlX → Int → MS × AlX × Int
  | 0, s, a, A => (s, a, A)
  | f + 1, s, a, A =>
    match allocStep kB 0 s a with
    | (true, s', a') => (s', a', stampA s' A)
    | (false, s', a') => srun f s' a' (stampA s' A)
theorem srun_stop {f : Nat} {s s' : MS} {a a' : AlX} {A : Int} (h : allocStep kB 0 s a = (true, s', a')) : srun (f + 1) s a A = (s', a', stampA s' A) := by
  unfold srun; rw [h]
theorem srun_on {f : Nat} {s s' : MS} {a a' : AlX} {A : Int} (h : allocStep kB 0 s a = (false, s', a')) : srun (f + 1) s a A = srun f s' a' (stampA s' A) := by
  conv => lhs; unfold srun
  rw [h]
def sfin (d : Nat) : MS × AlX × Int := srun 60 (freshS kB) (al0 (1 + (d : Int)) false) 0
theorem sfin_facts : ∀ d, d < 16 → (sfin d).2.1.x.er = 0 ∧ 0 < (sfin d).2.2 ∧ (sfin d).2.2 < 1000 ∧ (sfin d).2.1.x.st = (sfin d).2.2 ∧ (sfin d).1.steps = (sfin d).2.2 + 1 := by decide +kernel

/-- The world on the way: an arena's box, and who makes an object. -/
structure AlW (w wr : World) (m : MB) (k : Cfg) (eb tb : Nat) (s : MS) (B : AlB) (a : AlX) : Prop where
  ew : EW w wr m k 0 eb s
  al : AlR wr m B a
  ap : AlP B a
  b : B.b = tb
  lo : ∀ x, x ∈ B.all → w.heap.size ≤ x ∧ x ≠ eb
section
variable {w wr w1 : World} {m : MB} {k : Cfg} {eb tb : Nat} {s s' : MS} {B B' : AlB} {a a' : AlX}
theorem AlR.only0 (h : AlR wr m B a) (ho : Only [] wr w1) : AlR w1 m B a :=
  ⟨h.blk.only ho (by simp), fun x hx => (h.p x hx).only ho (by simp), fun x hx => (h.g x hx).only ho (by simp), h.nm, h.nd⟩
theorem AlW.only0 (h : AlW w wr m k eb tb s B a) (ho : Only [] wr w1) : AlW w w1 m k eb tb s B a :=
  ⟨⟨h.ew.mem.only ho (by simp) (by simp) (by simp), h.ew.env.only ho (by simp), h.ew.only.trans' ho (fun _ h _ => h)⟩, h.al.only0 ho, h.ap, h.b, h.lo⟩
theorem AlW.drew (h : AlW w wr m k eb tb s B a) : AlW w wr.drew m k eb tb s B a := h.only0 (Only.refl [] wr).drew
theorem AlW.alloc (h : AlW w wr m k eb tb s B a) (o : Obj) : AlW w (wr.alloc o) m k eb tb s B a := h.only0 ((Only.refl [] wr).alloc o)
theorem AlW.step (h : AlW w wr m k eb tb s B a) (he : eb ∉ m.l) (hlm : ∀ x, x ∈ m.l → x < w.heap.size → x ∈ ([] : List Nat)) (h1 : MemR w1 m s') (h2 : AlR w1 m B' a') (h3 : B.on B' wr) (h4 : AlP B' a') (h5 : Only (m.l ++ B.all) wr w1) : AlW w w1 m k eb tb s' B' a' := by
  have hel := h.ew.env.lt
  have hsz := h.ew.only.size
  refine ⟨⟨h1, h.ew.env.only h5 (fun hh => ?_), h.ew.only.trans' h5 (fun y hy hlt => ?_)⟩, h2, h4, h3.1.trans h.b, fun x hx => ?_⟩
  · rcases List.mem_append.1 hh with hh | hh
    · exact he hh
    · exact (h.lo _ hh).2 rfl
  · rcases List.mem_append.1 hy with hy | hy
    · exact hlm y hy hlt
    · have := (h.lo y hy).1; omega
  · obtain ⟨g1, g2, g3⟩ := h3
    unfold AlB.all at hx
    simp only [List.mem_cons, List.mem_append, Option.mem_toList] at hx
    rcases hx with rfl | hx | hx
    · rw [g1]; exact h.lo _ (by unfold AlB.all; simp)
    · rcases g2 with g2 | ⟨y, hy, hyw⟩
      · rw [g2] at hx; exact h.lo _ (AlB.mem_p hx)
      · rw [hy] at hx; cases hx; omega
    · rcases g3 with g3 | ⟨y, hy, hyw⟩
      · rw [g3] at hx; exact h.lo _ (AlB.mem_g hx)
      · rw [hy] at hx; cases hx; omega
/-- Who begins. -/
theorem AlW.new (h : EW w wr m k 0 eb s) (hs : w.heap.size ≤ wr.heap.size) (z : Int) (o : Bool) : AlW w (wr.alloc (.cells (al0 z o).x.cs 150)) m k eb wr.heap.size s ⟨wr.heap.size, none, none⟩ (al0 z o) := by
  have hel := h.env.lt
  have hnm : wr.heap.size ∉ m.l := h.mem.notin (Nat.le_refl _)
  exact ⟨h.alloc _, ⟨Blk.new wr _ 150, fun _ hh => (by cases hh), fun _ hh => (by cases hh), fun x hx => (by simp [AlB.all] at hx; subst hx; exact hnm), by simp [AlB.all]⟩, ⟨fun hh => absurd hh (by simp [al0]), fun hh => absurd hh (by simp [al0])⟩, rfl, fun x hx => by simp [AlB.all] at hx; subst hx; exact ⟨hs, by omega⟩⟩
end

theorem field40s : ∀ (a b c d : Int) (w : World), (Instr.field 40 (.agg #[.int .i64 a, .int .i64 b, .int .i64 c, .int .i64 d]) 0).run Try.prog w = .ok (.int .i64 a) w := fun _ _ _ _ _ => by kernel_rfl

set_option maxRecDepth 100000 in
set_option maxHeartbeats 6400000 in
theorem astamps_walk (size : Int) (_hs : I64 size) (w : World) : Calls Try.prog 27 #[.int .i64 size] w fun e w' => e = .returned (.bool true) ∧ Only [] w w' := by
  obtain ⟨d, hd, hsl⟩ := iand15n size
  have h60 : kB.s ≤ 60000 := by decide
  have hfd := field40s
  obtain ⟨f1, f2, f3, f4, f5⟩ := sfin_facts d hd
  rcases hfin : sfin d with ⟨sF, aF, AF⟩
  rw [hfin] at f1 f2 f3 f4 f5
  unfold sfin at hfin
  simp only at f1 f2 f3 f4 f5
  have HFIN := Lib.hid hfin
  have F1 := Lib.hid f1
  have F4 := Lib.hid f4
  have F5 := Lib.hid f5
  clear hfin f1 f4 f5
  go_enter Try.func27, Try.ntmps27
  go_wp2_with fail
  refine (arena_yes kB kB_ok rfl rfl rfl _).mono ?_
  rintro e w1 ⟨m, rfl, hm1, hn1, ho1⟩
  obtain ⟨hl1, hl2, hl3⟩ := hm1.lts
  obtain ⟨hn1, hn2, hn3⟩ := hn1
  have hz := ho1.size
  have hnx : w1.heap.size ∉ m.l := hm1.notin (Nat.le_refl _)
  have hlm : ∀ x, x ∈ m.l → x < w.heap.size → x ∈ ([] : List Nat) := fun x hx hlt => by
    simp only [List.mem_cons, List.not_mem_nil, or_false] at hx; omega
  have hS := fresh_ASh kB_ok h60 (n := 4) (N := 4) rfl rfl hm1.rng
  have HS := Lib.hid hS
  have hW : EW w (w1.alloc (.cells #[.int .i64 kB.t, .int .i64 kB.s, .int .i64 kB.c, .int .i64 kB.w, .int .i64 kB.g, .int .i64 kB.p, .int .i64 kB.r, .pointer (some ⟨m.b, 0, none⟩), .int .i64 0] 47)) m kB 0 w1.heap.size (freshS kB) := ⟨hm1.alloc _, Blk.new _ _ _, ho1.alloc _⟩
  clear hm1 ho1 hS
  go_wp2_with fail
  refine (awake8 _).mono ?_
  rintro e w2 ⟨rfl, ho2⟩
  have hz2 := ho2.size
  simp only [World.size_alloc] at hz2
  have hWb : EW w w2 m kB 0 w1.heap.size (freshS kB) := ⟨hW.mem.only ho2 (by simp) (by simp) (by simp), hW.env.only ho2 (by simp), hW.only.trans' ho2 (fun _ h _ => h)⟩
  clear hW ho2
  have hWn := AlW.new hWb (by omega) (1 + (d : Int)) false
  go_wp2_with (first | (go_at_call 96; refine (anew_any _ _ _).mono ?_; rintro e w' ⟨rfl, rfl⟩))
  go_loopw [8, 7] (fun i x wr => ∃ (j : Nat) (A : Int) (s : MS) (a : AlX) (B : AlB) (l : List Int), i = .int .i64 j ∧ x = .int .i64 A ∧ j ≤ 60 ∧ AlW w wr m kB w1.heap.size w2.heap.size s B a ∧ ASh kB 4 4 (j : Int) s l ∧ ATh kB 4 4 s l a ∧ srun (60 - j) s a A = (sF, aF, AF)) (fun i _ _ => 60 - (intOf i).toNat)
  case atStart => exact ⟨0, 0, _, _, _, _, rfl, rfl, by omega, hWn, HS.out, al0_ATh _ _, HFIN.out⟩
  case round =>
    clear hWn hWb
    obtain ⟨j, A, s, a, B, l, rfl, rfl, hj, hW, hSh, hTh, hrun⟩ := hrel
    by_cases hlt : j < 60
    · rcases hst : allocStep kB 0 s a with ⟨b, s2, a2⟩
      obtain ⟨l2, hS2, hT2⟩ := alloc_own kB_ok (by decide) hSh (by omega) hTh hst
      have hcall := alloc_step (wh := 0) kB_ok (hTh.ali hSh (by decide) hW.ap) hst hW.ew.mem hW.al
      rw [hW.b] at hcall
      have hf : 60 - j = (60 - (j + 1)) + 1 := by omega
      rw [hf] at hrun
      obtain ⟨A', hA'⟩ : ∃ A', stampA s2 A = A' := ⟨_, rfl⟩
      have HST := Lib.hid hst
      have HRU := Lib.hid hrun
      have HS2 := Lib.hid hS2
      have HT2 := Lib.hid hT2
      have HA := Lib.hid hA'
      have hEc := hW.ew.env.cell
      clear hst hrun hS2 hT2 hf hSh hTh hA'
      go_wp2_with fail
      refine hcall.mono ?_
      rintro e w3 ⟨rfl, h1, ⟨B', h2, h3, h4⟩, h5⟩
      have hW3 := hW.step hnx hlm h1 h2 h3 h4 h5
      clear hW hEc hcall h1 h2 h3 h4 h5
      obtain ⟨v, hv⟩ : ∃ v, s2.get (aSlot kB 0) = v := ⟨_, rfl⟩
      have hvU : U64 v := by rw [← hv]; exact hW3.ew.mem.get_rng _
      have hpk : ∀ w', MemR w' m s2 → Calls Try.prog 44 #[.pointer (some ⟨m.b, 0, none⟩), .int .i64 (aSlot kB 0)] w' fun e w2 => e = .returned (.int .u64 v) ∧ w' = w2 := fun w' h => by
        have := peek_any (a := aSlot kB 0) h
        rw [hv] at this
        exact this
      have HV := Lib.hid hv
      clear hv
      have hcw := fun w' => slot_word v w' hvU
      obtain ⟨st, hste⟩ : ∃ st, slSt v = st := ⟨_, rfl⟩
      simp only [hste] at hcw
      have HSTE := Lib.hid hste
      clear hste hvU
      have hEc3 := hW3.ew.env.cell
      by_cases hA0 : A = 0
      · subst hA0
        by_cases hs1 : st = 1
        · have hAA : s2.steps = A' := by rw [← HA.out]; unfold stampA; rw [if_pos ⟨rfl, by rw [HV.out, HSTE.out]; exact hs1⟩]
          have k1 : (st == 1) = true := beq_iff_eq.2 hs1
          have hnw3 : ∀ w', MemR w' m s2 → Calls Try.prog 61 #[.agg #[.int .i64 kB.t, .int .i64 kB.s, .int .i64 kB.c, .int .i64 kB.w, .int .i64 kB.g, .int .i64 kB.p, .int .i64 kB.r, .pointer (some ⟨m.b, 0, none⟩), .int .i64 0]] w' fun e w2 => e = .returned (.int .i64 A') ∧ w2 = w'.alloc (.cells #[.int .i64 kB.t, .int .i64 kB.s, .int .i64 kB.c, .int .i64 kB.w, .int .i64 kB.g, .int .i64 kB.p, .int .i64 kB.r, .pointer (some ⟨m.b, 0, none⟩), .int .i64 0] 47) := fun w' h => by
            have := now_env kB 0 h
            rw [hAA] at this
            exact this
          clear hs1 hAA
          have hWd := hW3.drew
          go_wp2
          refine qc_enter (fun w' => AlW w w' m kB w1.heap.size w2.heap.size s2 B' a2) (by kernel_rfl) (by kernel_rfl) ?_ ?_
          focus (exact hWd)
          repeat (first
            | go_big_quiet_skip
            | (go_big_quiet_want
               apply Exists.intro
               refine ⟨fun wq hq => ?_, ?_⟩
               focus
                 (have hc1 := hq.ew.env.cell)
                 unfold Oper.quietAt
                 go_simp
                 (first
                   | done
                   | with_reducible exact rfl
                   | with_reducible exact ⟨rfl, rfl⟩
                   | (first | (go_at_call 49; refine (slota_any _ kB _).mono ?_; rintro e w' ⟨rfl, rfl⟩; exact ⟨rfl, hq.alloc _⟩) | (go_at_call 44; with_reducible refine (hpk _ hq.ew.mem).mono ?_; rintro e w' ⟨rfl, rfl⟩; exact ⟨rfl, hq⟩) | (go_at_call 98; with_reducible refine (hcw _).mono ?_; rintro e w' ⟨rfl, ho⟩; exact ⟨rfl, hq.only0 ho⟩)))
               (try simp only [Act.put, List.setIfInBounds_toArray, List.set_cons_zero, List.set_cons_succ])
               go_big_quiet_on))
          refine wpQuiet_nil ?_
          intro wq hq
          have hEq := hq.ew.env.cell
          clear hWd hW3 hEc3
          go_upto_if 48 with (first | (go_at_call 61; with_reducible refine (hnw3 _ hq.ew.mem).mono ?_; rintro e w' ⟨rfl, rfl⟩))
          have hqa := hq.alloc (.cells #[.int .i64 kB.t, .int .i64 kB.s, .int .i64 kB.c, .int .i64 kB.w, .int .i64 kB.g, .int .i64 kB.p, .int .i64 kB.r, .pointer (some ⟨m.b, 0, none⟩), .int .i64 0] 47)
          clear hEq hq
          cases b
          · have hrun := HRU.out
            rw [srun_on HST.out, HA.out] at hrun
            have HRU := Lib.hid hrun
            clear hrun
            go_wp2
            go_roundw
            case rel => exact ⟨j + 1, A', s2, a2, B', l2, by go_num, by first | rfl | (rw [hAA]), by omega, hqa, HS2.out, HT2.out (by first | rfl | trivial), HRU.out⟩
            case measure => simp [intOf]; omega
          · have hrun := HRU.out
            rw [srun_stop HST.out, HA.out] at hrun
            simp only [Prod.mk.injEq] at hrun
            obtain ⟨q1, q2, q3⟩ := hrun
            replace q1 := q1.symm
            replace q2 := q2.symm
            replace q3 := q3.symm
            subst q1 q2 q3
            have hdn := adone_any _ _ (hqa).al.blk
            rw [(hqa).b, done_pv] at hdn
            unfold AlS.done at hdn
            rw [F1.out, F4.out] at hdn
            have hEc := (hqa).ew.env.cell
            have hel := (hqa).ew.env.lt
            go_wp2_with fail
            refine hdn.mono ?_
            rintro e w4 ⟨rfl, ho4⟩
            have hW4 := (hqa).only0 ho4
            have hE4 := hW4.ew.env.cell
            have hM4 := hW4.ew.mem
            have hel4 := hW4.ew.env.lt
            have hnw : ∀ w', MemR w' m sF → Calls Try.prog 61 #[.agg #[.int .i64 kB.t, .int .i64 kB.s, .int .i64 kB.c, .int .i64 kB.w, .int .i64 kB.g, .int .i64 kB.p, .int .i64 kB.r, .pointer (some ⟨m.b, 0, none⟩), .int .i64 0]] w' fun e w2 => e = .returned (.int .i64 (AF + 1)) ∧ w2 = w'.alloc (.cells #[.int .i64 kB.t, .int .i64 kB.s, .int .i64 kB.c, .int .i64 kB.w, .int .i64 kB.g, .int .i64 kB.p, .int .i64 kB.r, .pointer (some ⟨m.b, 0, none⟩), .int .i64 0] 47) := fun w' h => by
              have := now_env kB 0 h
              rw [F5.out] at this
              exact this
            clear hEc hel hdn
            go_wp2_with (first | (go_at_call 61; with_reducible refine (hnw _ (by repeat (first | with_reducible assumption | with_reducible apply MemR.drew | with_reducible apply MemR.alloc | (with_reducible refine MemR.only ?_ (by with_reducible assumption) List.not_mem_nil List.not_mem_nil List.not_mem_nil) | (with_reducible refine MemR.other ?_ _ _ (by simp only; omega) (by simp only; omega) (by simp only; omega))))).mono ?_; rintro e w' ⟨rfl, rfl⟩))
            go_ret
            exact ⟨rfl, (hW4.ew.only.alloc _).alloc _⟩
        · have hAA : (0 : Int) = A' := by rw [← HA.out]; unfold stampA; rw [if_neg (by rintro ⟨_, h⟩; rw [HV.out, HSTE.out] at h; exact hs1 h)]
          have k1 : (st == 1) = false := beq_eq_false_iff_ne.2 hs1
          have HAA := Lib.hid hAA
          clear hs1 hAA
          have hWd := hW3.drew
          go_wp2
          refine qc_enter (fun w' => AlW w w' m kB w1.heap.size w2.heap.size s2 B' a2) (by kernel_rfl) (by kernel_rfl) ?_ ?_
          focus (exact hWd)
          repeat (first
            | go_big_quiet_skip
            | (go_big_quiet_want
               apply Exists.intro
               refine ⟨fun wq hq => ?_, ?_⟩
               focus
                 (have hc1 := hq.ew.env.cell)
                 unfold Oper.quietAt
                 go_simp
                 (first
                   | done
                   | with_reducible exact rfl
                   | with_reducible exact ⟨rfl, rfl⟩
                   | (first | (go_at_call 49; refine (slota_any _ kB _).mono ?_; rintro e w' ⟨rfl, rfl⟩; exact ⟨rfl, hq.alloc _⟩) | (go_at_call 44; with_reducible refine (hpk _ hq.ew.mem).mono ?_; rintro e w' ⟨rfl, rfl⟩; exact ⟨rfl, hq⟩) | (go_at_call 98; with_reducible refine (hcw _).mono ?_; rintro e w' ⟨rfl, ho⟩; exact ⟨rfl, hq.only0 ho⟩)))
               (try simp only [Act.put, List.setIfInBounds_toArray, List.set_cons_zero, List.set_cons_succ])
               go_big_quiet_on))
          refine wpQuiet_nil ?_
          intro wq hq
          go_upto_if 48 with fail
          clear hWd hW3 hEc3
          have hAA := HAA.out
          subst hAA
          cases b
          · have hrun := HRU.out
            rw [srun_on HST.out, HA.out] at hrun
            have HRU := Lib.hid hrun
            clear hrun
            go_wp2
            go_roundw
            case rel => exact ⟨j + 1, 0, s2, a2, B', l2, by go_num, by first | rfl | (rw [hAA]), by omega, hq, HS2.out, HT2.out (by first | rfl | trivial), HRU.out⟩
            case measure => simp [intOf]; omega
          · have hrun := HRU.out
            rw [srun_stop HST.out, HA.out] at hrun
            simp only [Prod.mk.injEq] at hrun
            obtain ⟨_, _, q3⟩ := hrun
            exfalso
            clear hq HRU
            omega
      · have hAA : A = A' := by rw [← HA.out]; unfold stampA; rw [if_neg (fun h => hA0 h.1)]
        have k1 : (A == 0) = false := beq_eq_false_iff_ne.2 hA0
        subst hAA
        clear hA0
        have hWd := hW3.drew
        go_wp2
        refine qc_enter (fun w' => AlW w w' m kB w1.heap.size w2.heap.size s2 B' a2) (by kernel_rfl) (by kernel_rfl) ?_ ?_
        focus (exact hWd)
        repeat (first
          | go_big_quiet_skip
          | (go_big_quiet_want
             apply Exists.intro
             refine ⟨fun wq hq => ?_, ?_⟩
             focus
               (have hc1 := hq.ew.env.cell)
               unfold Oper.quietAt
               go_simp
               (first
                 | done
                 | with_reducible exact rfl
                 | with_reducible exact ⟨rfl, rfl⟩
                 | (fail))
             (try simp only [Act.put, List.setIfInBounds_toArray, List.set_cons_zero, List.set_cons_succ])
             go_big_quiet_on))
        refine wpQuiet_nil ?_
        intro wq hq
        go_upto_if 48 with fail
        clear hWd hW3 hEc3
        cases b
        · have hrun := HRU.out
          rw [srun_on HST.out, HA.out] at hrun
          have HRU := Lib.hid hrun
          clear hrun
          go_wp2
          go_roundw
          case rel => exact ⟨j + 1, A, s2, a2, B', l2, by go_num, by first | rfl | (rw [hAA]), by omega, hq, HS2.out, HT2.out (by first | rfl | trivial), HRU.out⟩
          case measure => simp [intOf]; omega
        · have hrun := HRU.out
          rw [srun_stop HST.out, HA.out] at hrun
          simp only [Prod.mk.injEq] at hrun
          obtain ⟨q1, q2, q3⟩ := hrun
          replace q1 := q1.symm
          replace q2 := q2.symm
          replace q3 := q3.symm
          subst q1 q2 q3
          have hdn := adone_any _ _ (hq).al.blk
          rw [(hq).b, done_pv] at hdn
          unfold AlS.done at hdn
          rw [F1.out, F4.out] at hdn
          have hEc := (hq).ew.env.cell
          have hel := (hq).ew.env.lt
          go_wp2_with fail
          refine hdn.mono ?_
          rintro e w4 ⟨rfl, ho4⟩
          have hW4 := (hq).only0 ho4
          have hE4 := hW4.ew.env.cell
          have hM4 := hW4.ew.mem
          have hel4 := hW4.ew.env.lt
          have hnw : ∀ w', MemR w' m sF → Calls Try.prog 61 #[.agg #[.int .i64 kB.t, .int .i64 kB.s, .int .i64 kB.c, .int .i64 kB.w, .int .i64 kB.g, .int .i64 kB.p, .int .i64 kB.r, .pointer (some ⟨m.b, 0, none⟩), .int .i64 0]] w' fun e w2 => e = .returned (.int .i64 (AF + 1)) ∧ w2 = w'.alloc (.cells #[.int .i64 kB.t, .int .i64 kB.s, .int .i64 kB.c, .int .i64 kB.w, .int .i64 kB.g, .int .i64 kB.p, .int .i64 kB.r, .pointer (some ⟨m.b, 0, none⟩), .int .i64 0] 47) := fun w' h => by
            have := now_env kB 0 h
            rw [F5.out] at this
            exact this
          clear hEc hel hdn
          go_wp2_with (first | (go_at_call 61; with_reducible refine (hnw _ (by repeat (first | with_reducible assumption | with_reducible apply MemR.drew | with_reducible apply MemR.alloc | (with_reducible refine MemR.only ?_ (by with_reducible assumption) List.not_mem_nil List.not_mem_nil List.not_mem_nil) | (with_reducible refine MemR.other ?_ _ _ (by simp only; omega) (by simp only; omega) (by simp only; omega))))).mono ?_; rintro e w' ⟨rfl, rfl⟩))
          go_ret
          exact ⟨rfl, (hW4.ew.only.alloc _).alloc _⟩
    · have h0 : 60 - j = 0 := by omega
      rw [h0] at hrun
      have hrun : (s, a, A) = (sF, aF, AF) := hrun
      simp only [Prod.mk.injEq] at hrun
      obtain ⟨q1, q2, q3⟩ := hrun
      replace q1 := q1.symm
      replace q2 := q2.symm
      replace q3 := q3.symm
      subst q1 q2 q3
      clear h0
      have hdn := adone_any _ _ (hW).al.blk
      rw [(hW).b, done_pv] at hdn
      unfold AlS.done at hdn
      rw [F1.out, F4.out] at hdn
      have hEc := (hW).ew.env.cell
      have hel := (hW).ew.env.lt
      go_wp2_with fail
      refine hdn.mono ?_
      rintro e w4 ⟨rfl, ho4⟩
      have hW4 := (hW).only0 ho4
      have hE4 := hW4.ew.env.cell
      have hM4 := hW4.ew.mem
      have hel4 := hW4.ew.env.lt
      have hnw : ∀ w', MemR w' m sF → Calls Try.prog 61 #[.agg #[.int .i64 kB.t, .int .i64 kB.s, .int .i64 kB.c, .int .i64 kB.w, .int .i64 kB.g, .int .i64 kB.p, .int .i64 kB.r, .pointer (some ⟨m.b, 0, none⟩), .int .i64 0]] w' fun e w2 => e = .returned (.int .i64 (AF + 1)) ∧ w2 = w'.alloc (.cells #[.int .i64 kB.t, .int .i64 kB.s, .int .i64 kB.c, .int .i64 kB.w, .int .i64 kB.g, .int .i64 kB.p, .int .i64 kB.r, .pointer (some ⟨m.b, 0, none⟩), .int .i64 0] 47) := fun w' h => by
        have := now_env kB 0 h
        rw [F5.out] at this
        exact this
      clear hEc hel hdn
      go_wp2_with (first | (go_at_call 61; with_reducible refine (hnw _ (by repeat (first | with_reducible assumption | with_reducible apply MemR.drew | with_reducible apply MemR.alloc | (with_reducible refine MemR.only ?_ (by with_reducible assumption) List.not_mem_nil List.not_mem_nil List.not_mem_nil) | (with_reducible refine MemR.other ?_ _ _ (by simp only; omega) (by simp only; omega) (by simp only; omega))))).mono ?_; rintro e w' ⟨rfl, rfl⟩))
      go_ret
      exact ⟨rfl, (hW4.ew.only.alloc _).alloc _⟩

end Go.Proofs.Yteoimmjgnflmmaa
