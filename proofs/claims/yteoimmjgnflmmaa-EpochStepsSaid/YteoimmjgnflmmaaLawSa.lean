/-
  SlotAgain, walked.
-/
import Derived.Test.YteoimmjgnflmmaaSlA
import Derived.Test.YteoimmjgnflmmaaCpy
namespace Go.Proofs.Yteoimmjgnflmmaa
open Go.RowKit Go.BigFrame

/-- Three steps alone, from the first one on: the first slot is taken. -/
theorem take_pure {k : Cfg} {n : Nat} {s : MS} {i : Int} {l : List Int} (wh : Int) (hk : k.Ok) (hn : n ≤ 65536) (hf : Fr k n s (i :: l)) (hr : U64 (s.at 1)) (hc : topN (s.at 1) < 68719476735) (t0 n0 sl0 : Int) :
    ∃ s1 s2 s3 T nx, takeStep k wh s ⟨0, t0, n0, sl0, false⟩ = (false, s1, ⟨1, T, n0, i, false⟩) ∧ takeStep k wh s1 ⟨1, T, n0, i, false⟩ = (false, s2, ⟨2, T, nx, i, false⟩) ∧ takeStep k wh s2 ⟨2, T, nx, i, false⟩ = (true, s3, ⟨0, T, nx, i, true⟩) ∧ U64 T ∧ -1 ≤ nx ∧ nx < 131072 ∧ Took k n s s3 l ∧ s2.ws = s.ws ∧ T = s.at 1 ∧ nx = lk k s i := by
  have hok1 : s.ok 1 := hf.ok1 hk
  have hir := hf.head_rg
  have hokL : s.ok (aLink k i) := hf.okL hk hn hir.1 hir.2
  have hg : s.get 1 = s.at 1 := get_ok s 1 hok1
  have hi : topS (s.at 1) = i := hf.head
  have hnr := hf.next_rg hn
  have hd : decide (topS (s.at 1) < 0) = false := decide_eq_false (by rw [hi]; omega)
  obtain ⟨s1, hs1⟩ : ∃ s1, s1 = (s.by wh).load 1 := ⟨_, rfl⟩
  obtain ⟨s2, hs2⟩ : ∃ s2, s2 = (s1.by wh).load (aLink k i) := ⟨_, rfl⟩
  obtain ⟨s3, hs3⟩ : ∃ s3, s3 = (s2.by wh).cas 1 (s.at 1) (putTop (lk k s i) (topN (s.at 1) + 1)) := ⟨_, rfl⟩
  have hl1w : s1.ws = s.ws := by rw [hs1, load_ws]; rfl
  have hl2w : s2.ws = s.ws := by rw [hs2, load_ws]; exact hl1w
  have ha2 : ∀ a, s2.at a = s.at a := fun a => by unfold MS.at; rw [hl2w]
  have hok2 : (s2.by wh).ok 1 := by show 0 ≤ 1 ∧ (1 : Int) < (s2.ws.length : Int); rw [hl2w]; exact hok1
  have hok1L : s1.ok (aLink k i) := by show 0 ≤ aLink k i ∧ aLink k i < (s1.ws.length : Int); rw [hl1w]; exact hokL
  have hgl : s1.get (aLink k i) = s.at (aLink k i) := by
    rw [get_ok _ _ hok1L]
    unfold MS.at; rw [hl1w]
  have hcan : s2.can 1 (s.at 1) = true := by
    unfold MS.can
    exact decide_eq_true ⟨hok2, by rw [ha2]⟩
  have hat : ∀ a, 0 ≤ a → s3.at a = if a = 1 then putTop (lk k s i) (topN (s.at 1) + 1) else s.at a := fun a ha => by
    rw [hs3, cas_at _ _ _ _ _ hok2 ha, by_at, by_at, ha2, ha2]
    by_cases h : a = 1
    · rw [if_pos ⟨h, rfl⟩, if_pos h]
    · rw [if_neg (fun x => h x.1), if_neg h]
  have hl3w : s3.ws.length = s.ws.length := by rw [hs3, cas_len]; show s2.ws.length = _; rw [hl2w]
  refine ⟨s1, s2, s3, s.at 1, lk k s i, ?_, ?_, ?_, hr, hnr.1, by omega, ⟨hf.pop hk hn hl3w hat, by rw [hat 1 (by decide), if_pos rfl, topN_put hnr.1 hnr.2 (by have := topN_rng (x := s.at 1); omega) (by omega)], hl3w, fun a ha hne => by rw [hat a ha, if_neg hne]⟩, hl2w, rfl, rfl⟩
  · unfold takeStep
    rw [if_pos rfl, hg, hd, hi, ← hs1]
  · unfold takeStep
    rw [if_neg (by simp), if_pos rfl]
    simp only
    rw [hgl, ← hs2]
    rfl
  · unfold takeStep
    rw [if_neg (by simp), if_neg (by simp)]
    simp only
    rw [hcan, ← hs3]

/-- Another one's block, too. -/
structure EO (w wr : World) (m : MB) (k : Cfg) (wh : Int) (eb : Nat) (s : MS) (tb : Nat) (cs : Array Value) (T : Nat) : Prop where
  ew : EW w wr m k wh eb s
  ob : Blk wr tb cs T
/-- Where these lie. -/
structure EA (w : World) (m : MB) (eb tb : Nat) : Prop where
  b : w.heap.size ≤ m.b
  wb : w.heap.size ≤ m.wb
  hb : w.heap.size ≤ m.hb
  t : w.heap.size ≤ tb
  e1 : eb ∉ m.l
  t1 : tb ≠ m.b
  t2 : tb ≠ m.wb
  t3 : tb ≠ m.hb
  et : eb ≠ tb
section
variable {w wr w1 : World} {m : MB} {k : Cfg} {wh : Int} {eb tb T : Nat} {s s' : MS} {cs cs' : Array Value}
theorem EO.call (h : EO w wr m k wh eb s tb cs T) (a : EA w m eb tb) (h1 : MemR w1 m s') (h3 : Only m.l wr w1) : EO w w1 m k wh eb s' tb cs T :=
  ⟨h.ew.step a.e1 (fun x hx hlt => by
    have := a.b; have := a.wb; have := a.hb
    simp only [List.mem_cons, List.not_mem_nil, or_false] at hx; omega) h1 h3, h.ob.only h3 (by
    have := a.t1; have := a.t2; have := a.t3
    simp only [List.mem_cons, List.not_mem_nil, or_false, not_or]; omega)⟩
theorem EO.step (h : EO w wr m k wh eb s tb cs T) (a : EA w m eb tb) (h1 : MemR w1 m s') (h2 : Blk w1 tb cs' T) (h3 : Only [m.b, m.wb, m.hb, tb] wr w1) : EO w w1 m k wh eb s' tb cs' T := by
  have e1 := a.e1; have := a.b; have := a.wb; have := a.hb; have := a.t; have := a.et
  simp only [List.mem_cons, List.not_mem_nil, or_false, not_or] at e1
  refine ⟨⟨h1, h.ew.env.only h3 ?_, h.ew.only.trans' h3 ?_⟩, h2⟩
  · simp only [List.mem_cons, List.not_mem_nil, or_false, not_or]; omega
  · intro x hx hlt
    simp only [List.mem_cons, List.not_mem_nil, or_false] at hx
    omega
theorem EO.drew (h : EO w wr m k wh eb s tb cs T) : EO w wr.drew m k wh eb s tb cs T := ⟨h.ew.drew, h.ob.drew⟩
end

set_option maxRecDepth 100000 in
set_option maxHeartbeats 3200000 in
theorem sagain_walk (slots : Int) (_hs : I64 slots) (times : Int) (_ht : I64 times) (w : World) : Calls Try.prog 17 #[.int .i64 slots, .int .i64 times] w fun e w' => e = .returned (.bool true) ∧ Only [] w w' := by
  obtain ⟨a, ha, hsl⟩ := iand7n slots
  obtain ⟨b, hb, hti⟩ := iand3n times
  have hk : (kS 2 (2 + (a : Int))).Ok := kS_ok (by decide) (by decide) (by omega) (by omega)
  have h60 : (kS 2 (2 + (a : Int))).s ≤ 60000 := by show 2 + (a : Int) ≤ 60000; omega
  have hf0 := fresh_fr hk h60 (n := 2 + a) (by show 2 + (a : Int) = _; omega)
  have hr1 : rangeI 0 (2 + a) = 0 :: 1 :: rangeI 2 a := by
    rw [show 2 + a = (a + 1) + 1 by omega, rangeI_succ, rangeI_succ]; rfl
  rw [hr1] at hf0
  have hat1 := fresh_top hk h60
  have hnm : (0 : Int) ∉ rangeI 2 a := fun h => by have := mem_rangeI h; omega
  obtain ⟨s1, s2, s3, T, nx, q1, q2, q3, q4, q5, q6, q7, q8, q9, q10⟩ := take_pure (k := (kS 2 (2 + (a : Int)))) (n := 2 + a) 0 hk (by omega) hf0 (by rw [hat1]; exact ⟨by decide, by decide⟩) (by rw [hat1]; decide) 0 0 0
  have hTN : topN T = 0 := by rw [q9, hat1]; decide
  have hf2 : Fr (kS 2 (2 + (a : Int))) (2 + a) s2 (0 :: 1 :: rangeI 2 a) := hf0.keep (by rw [q8]) (fun a _ => by unfold MS.at; rw [q8]) hk (by omega)
  have hc2 : topN (s2.at 1) = 0 := by unfold MS.at; rw [q8]; show topN ((freshS _).at 1) = 0; rw [hat1]; decide
  have HN := Lib.hid hnm
  have HK := Lib.hid hk
  have Q1 := Lib.hid q1
  have Q2 := Lib.hid q2
  have Q5 := Lib.hid q5
  have Q6 := Lib.hid q6
  have HTN := Lib.hid hTN
  have HF2 := Lib.hid hf2
  have HC2 := Lib.hid hc2
  clear hf0 hr1 hat1 hnm q1 q2 q3 q5 q6 q7 q8 q9 q10 hTN hf2 hc2 h60 hk s3
  go_enter Try.func17, Try.ntmps17
  go_wp2_with fail
  refine (arena_yes (kS 2 (2 + (a : Int))) HK.out rfl rfl rfl _).mono ?_
  rintro e w1 ⟨m, rfl, hm1, hn1, ho1⟩
  obtain ⟨hl1, hl2, hl3⟩ := hm1.lts
  obtain ⟨hn1, hn2, hn3⟩ := hn1
  have hz := ho1.size
  have hnx : w1.heap.size ∉ m.l := hm1.notin (Nat.le_refl _)
  have hW : EW w (w1.alloc (.cells #[.int .i64 (kS 2 (2 + (a : Int))).t, .int .i64 (kS 2 (2 + (a : Int))).s, .int .i64 (kS 2 (2 + (a : Int))).c, .int .i64 (kS 2 (2 + (a : Int))).w, .int .i64 (kS 2 (2 + (a : Int))).g, .int .i64 (kS 2 (2 + (a : Int))).p, .int .i64 (kS 2 (2 + (a : Int))).r, .pointer (some ⟨m.b, 0, none⟩), .int .i64 0] 47)) m (kS 2 (2 + (a : Int))) 0 w1.heap.size (freshS (kS 2 (2 + (a : Int)))) := ⟨hm1.alloc _, Blk.new _ _ _, ho1.alloc _⟩
  clear hm1 ho1
  go_wp2_with fail
  refine (awake6 _).mono ?_
  rintro e w2 ⟨rfl, ho2⟩
  have hz2 := ho2.size
  simp only [World.size_alloc] at hz2
  have hWb : EW w w2 m (kS 2 (2 + (a : Int))) 0 w1.heap.size (freshS (kS 2 (2 + (a : Int)))) := ⟨hW.mem.only ho2 (by simp) (by simp) (by simp), hW.env.only ho2 (by simp), hW.only.trans' ho2 (fun _ h _ => h)⟩
  clear hW ho2
  obtain ⟨tb, htb⟩ : ∃ tb, w2.heap.size = tb := ⟨_, rfl⟩
  have hA : EA w m w1.heap.size tb := ⟨hn1, hn2, hn3, by omega, hnx, by omega, by omega, by omega, by omega⟩
  have hO := EO.mk (hWb.alloc (.cells (⟨0, 0, 0, 0, false⟩ : TakeS).cs 72)) (htb ▸ Blk.new w2 (⟨0, 0, 0, 0, false⟩ : TakeS).cs 72)
  have hOd : EO w (w2.alloc (.cells #[.int .i64 0, .int .u64 0, .int .i64 0, .int .i64 0, .bool false] 72)).drew m (kS 2 (2 + (a : Int))) 0 w1.heap.size (freshS (kS 2 (2 + (a : Int)))) tb (⟨0, 0, 0, 0, false⟩ : TakeS).cs 72 := hO.drew
  have hEd := hOd.ew.env.cell
  have n1 := hA.t1
  have n2 := hA.t2
  have n3 := hA.t3
  clear hWb hO
  go_wp2
  go_region_held3 (fun w' => ∀ o, w'.cell? ⟨w1.heap.size, o, none⟩ = (#[.int .i64 (kS 2 (2 + (a : Int))).t, .int .i64 (kS 2 (2 + (a : Int))).s, .int .i64 (kS 2 (2 + (a : Int))).c, .int .i64 (kS 2 (2 + (a : Int))).w, .int .i64 (kS 2 (2 + (a : Int))).g, .int .i64 (kS 2 (2 + (a : Int))).p, .int .i64 (kS 2 (2 + (a : Int))).r, .pointer (some ⟨m.b, 0, none⟩), .int .i64 0] : Array Value)[o]?) (first | exact hEd | exact hEd3 | exact hEd4)
    (first
      | (go_at_call 65; with_reducible refine (take_step (kS 2 (2 + (a : Int))) 0 _ tb Q2.out hO3.ew.mem hO3.ob (.inr (.inl rfl)) n1 n2 n3).mono ?_; rintro e w4 ⟨rfl, h41, h42, h43⟩; have hO4 := hO3.step hA h41 h42 h43; have hEd4 := hO4.ew.env.cell)
      | (go_at_call 65; with_reducible refine (take_step (kS 2 (2 + (a : Int))) 0 _ tb Q1.out hOd.ew.mem hOd.ob (.inl rfl) n1 n2 n3).mono ?_; rintro e w3 ⟨rfl, h31, h32, h33⟩; have hO3 := hOd.step hA h31 h32 h33; have hEd3 := hO3.ew.env.cell))
  all_goals
    clear hOd hO3 hEd hEd3 h31 h32 h33 h41 h42 h43 hEd4
    have hEc := hO4.ew.env.cell
    have HO4 := Lib.hid hO4
    clear hO4
    go_wp2_with fail
    refine (take_some (kS 2 (2 + (a : Int))) 0 (2 + a) (by omega) 0 _ HK.out HO4.out.ew.mem HF2.out (by rw [HC2.out]; decide)).mono ?_
    rintro e w5 ⟨rfl, ⟨s5, hm5, hT5⟩, ho5⟩
    have hO5 := HO4.out.call hA hm5 ho5
    have hc5 : topN (s5.at 1) = 1 := by rw [hT5.top, HC2.out]; rfl
    have HT5 := Lib.hid hT5
    have HC5 := Lib.hid hc5
    clear hEc hT5 ho5 hm5 hc5 HO4
    have hEc := hO5.ew.env.cell
    have HO5 := Lib.hid hO5
    clear hO5
    go_wp2_with fail
    refine (take_some (kS 2 (2 + (a : Int))) 0 (2 + a) (by omega) 1 _ HK.out HO5.out.ew.mem HT5.out.fr (by rw [HC5.out]; decide)).mono ?_
    rintro e w6 ⟨rfl, ⟨s6, hm6, hT6⟩, ho6⟩
    have hO6 := HO5.out.call hA hm6 ho6
    have hc6 : topN (s6.at 1) = 2 := by rw [hT6.top, HC5.out]; rfl
    have HT6 := Lib.hid hT6
    have HC6 := Lib.hid hc6
    clear hEc hT6 ho6 hm6 hc6 HO5
    have hEc := hO6.ew.env.cell
    go_wp2
    go_loopw [17, 11, 12] (fun i x p wr => ∃ (j : Nat) (s : MS), i = .int .i64 j ∧ x = .int .i64 0 ∧ p = .bool true ∧ j ≤ b ∧ Fr (kS 2 (2 + (a : Int))) (2 + a) s (rangeI 2 a) ∧ topN (s.at 1) = 2 + 2 * j ∧ EO w wr m (kS 2 (2 + (a : Int))) 0 w1.heap.size s tb (⟨2, T, nx, 0, false⟩ : TakeS).cs 72) (fun i _ _ _ => b - (intOf i).toNat)
    case atStart => exact ⟨0, s6, rfl, rfl, rfl, by omega, HT6.out.fr, by rw [HC6.out]; rfl, hO6⟩
    case round =>
      clear hEc hO6
      obtain ⟨j, s, rfl, rfl, rfl, hj, hf, htn, hO⟩ := hrel
      have hEc := hO.ew.env.cell
      have HF := Lib.hid hf
      have HTj := Lib.hid htn
      have HO := Lib.hid hO
      clear hf htn hO
      by_cases hlt : j < b
      · go_wp2_with fail
        refine (give_alone (kS 2 (2 + (a : Int))) 0 (2 + a) (by omega) 0 _ HK.out HO.out.ew.mem HF.out (by decide) (by omega) HN.out (by rw [HTj.out]; omega)).mono ?_
        rintro e w7 ⟨rfl, ⟨s7, hm7, hG7⟩, ho7⟩
        have hO7 := HO.out.call hA hm7 ho7
        have hc7 : topN (s7.at 1) = 3 + 2 * j := by rw [hG7.top, HTj.out]; omega
        have HG7 := Lib.hid hG7
        have HC7 := Lib.hid hc7
        clear hEc hG7 ho7 hm7 hc7
        have hEc := hO7.ew.env.cell
        have HO7 := Lib.hid hO7
        clear hO7
        go_wp2_with fail
        refine (take_some (kS 2 (2 + (a : Int))) 0 (2 + a) (by omega) 0 _ HK.out HO7.out.ew.mem HG7.out.fr (by rw [HC7.out]; omega)).mono ?_
        rintro e w8 ⟨rfl, ⟨s8, hm8, hT8⟩, ho8⟩
        have hO8 := HO7.out.call hA hm8 ho8
        have hc8 : topN (s8.at 1) = 2 + 2 * ((j + 1 : Nat) : Int) := by rw [hT8.top, HC7.out]; omega
        have HT8 := Lib.hid hT8
        have HC8 := Lib.hid hc8
        clear hEc hT8 ho8 hm8 hc8
        go_wp2
        go_roundw
        case rel => exact ⟨j + 1, s8, by go_num, rfl, rfl, by omega, HT8.out.fr, HC8.out, hO8⟩
        case measure => simp [intOf]; omega
      · go_wp2_with fail
        refine (give_alone (kS 2 (2 + (a : Int))) 0 (2 + a) (by omega) 0 _ HK.out HO.out.ew.mem HF.out (by decide) (by omega) HN.out (by rw [HTj.out]; omega)).mono ?_
        rintro e w7 ⟨rfl, ⟨s7, hm7, hG7⟩, ho7⟩
        have hO7 := HO.out.call hA hm7 ho7
        have hc7 : topN (s7.at 1) = 3 + 2 * j := by rw [hG7.top, HTj.out]; omega
        have hcan : s7.can 1 T = false := by
          unfold MS.can
          refine decide_eq_false (fun x => ?_)
          have h1 := HTN.out
          rw [← x.2, hc7] at h1
          omega
        obtain ⟨s8, hs8⟩ : ∃ s8, s8 = (s7.by 0).cas 1 T (putTop nx (topN T + 1)) := ⟨_, rfl⟩
        have hq8 : takeStep (kS 2 (2 + (a : Int))) 0 s7 ⟨2, T, nx, 0, false⟩ = (false, s8, ⟨0, T, nx, 0, false⟩) := by
          unfold takeStep
          rw [if_neg (by simp), if_neg (by simp)]
          simp only
          rw [hcan, ← hs8]
        have hw8 : s8.ws = s7.ws := by
          rw [hs8, cas_ws, if_neg]
          · rfl
          · intro x
            have : s7.can 1 T = true := by unfold MS.can; exact decide_eq_true x
            rw [hcan] at this
            cases this
        have hf8 : Fr (kS 2 (2 + (a : Int))) (2 + a) s8 (0 :: rangeI 2 a) := hG7.fr.keep (by rw [hw8]) (fun a _ => by unfold MS.at; rw [hw8]) HK.out (by omega)
        have hr8 : U64 (s8.at 1) := by
          have : s8.at 1 = s7.at 1 := by unfold MS.at; rw [hw8]
          rw [this]; exact hm7.at_rng 1
        have hc8 : topN (s8.at 1) < 68719476735 := by
          have : s8.at 1 = s7.at 1 := by unfold MS.at; rw [hw8]
          rw [this, hc7]; omega
        obtain ⟨s9, s10, s11, T', nx', q1, q2, q3, q4', q5, q6, _, _, _, _⟩ := take_pure (k := (kS 2 (2 + (a : Int)))) (n := 2 + a) 0 HK.out (by omega) hf8 hr8 hc8 T nx 0
        have R1 := Lib.hid q1
        have R2 := Lib.hid q2
        have R3 := Lib.hid q3
        have R5 := Lib.hid q5
        have R6 := Lib.hid q6
        have R8 := Lib.hid hq8
        have HO7 := Lib.hid hO7
        clear hEc hG7 ho7 hm7 hc7 q1 q2 q3 q5 q6 hq8 hw8 hs8 hf8 hr8 hc8 hcan hO7
        have hEc := HO7.out.ew.env.cell
        go_wp2_with fail
        refine (take_step (kS 2 (2 + (a : Int))) 0 _ tb R8.out HO7.out.ew.mem HO7.out.ob (.inr (.inr ⟨rfl, q4, Q5.out, Q6.out⟩)) n1 n2 n3).mono ?_
        rintro e w8 ⟨rfl, h1, h2, h3⟩
        have HO8 := Lib.hid (HO7.out.step hA h1 h2 h3)
        clear hEc h1 h2 h3 HO7
        have hEc := HO8.out.ew.env.cell
        go_wp2
        refine wp_loop_rounds 4 ?_
        rw [rounds_succ]
        go_wp2_with fail
        refine (take_step (kS 2 (2 + (a : Int))) 0 _ tb R1.out HO8.out.ew.mem HO8.out.ob (.inl rfl) n1 n2 n3).mono ?_
        rintro e w9 ⟨rfl, h1, h2, h3⟩
        have HO9 := Lib.hid (HO8.out.step hA h1 h2 h3)
        clear hEc h1 h2 h3 HO8
        have hEc := HO9.out.ew.env.cell
        go_wp2
        rw [rounds_succ]
        go_wp2_with fail
        refine (take_step (kS 2 (2 + (a : Int))) 0 _ tb R2.out HO9.out.ew.mem HO9.out.ob (.inr (.inl rfl)) n1 n2 n3).mono ?_
        rintro e w10 ⟨rfl, h1, h2, h3⟩
        have HO10 := Lib.hid (HO9.out.step hA h1 h2 h3)
        clear hEc h1 h2 h3 HO9
        have hEc := HO10.out.ew.env.cell
        go_wp2
        rw [rounds_succ]
        go_wp2_with fail
        refine (take_step (kS 2 (2 + (a : Int))) 0 _ tb R3.out HO10.out.ew.mem HO10.out.ob (.inr (.inr ⟨rfl, q4', R5.out, R6.out⟩)) n1 n2 n3).mono ?_
        rintro e w11 ⟨rfl, h1, h2, h3⟩
        have HO11 := Lib.hid (HO10.out.step hA h1 h2 h3)
        clear hEc h1 h2 h3 HO10
        go_wp2
        rw [rounds_succ]
        go_wp2_with fail
        refine (tslot_any _ _ HO11.out.ob).mono ?_
        rintro e w12 ⟨rfl, rfl⟩
        go_wp2
        go_ret
        exact ⟨rfl, HO11.out.ew.only⟩

end Go.Proofs.Yteoimmjgnflmmaa
