/-
  SlotShares, walked.
-/
import Derived.Test.YteoimmjgnflmmaaSlF
namespace Go.Proofs.Yteoimmjgnflmmaa
open Go.RowKit Go.BigFrame

theorem tmod3 (x : Int) : ∃ (r : Int) (κ : Nat), κ < 3 ∧ -2 ≤ r ∧ r ≤ 2 ∧ Int.tmod x 3 = r ∧ Int.tmod (r + 3) 3 = (κ : Int) := by
  have h1 : -2 ≤ Int.tmod x 3 ∧ Int.tmod x 3 ≤ 2 := by
    by_cases h : 0 ≤ x
    · rw [Int.tmod_eq_emod_of_nonneg h]; omega
    · have : Int.tmod x 3 = -(Int.tmod (-x) 3) := by rw [Int.neg_tmod]; omega
      rw [this, Int.tmod_eq_emod_of_nonneg (by omega)]; omega
  have h2 : Int.tmod (Int.tmod x 3 + 3) 3 = (Int.tmod x 3 + 3) % 3 := Int.tmod_eq_emod_of_nonneg (by omega)
  refine ⟨Int.tmod x 3, (Int.tmod (Int.tmod x 3 + 3) 3).toNat, ?_, h1.1, h1.2, rfl, ?_⟩
  · rw [h2]; omega
  · rw [h2]; omega
theorem tmod3n (j : Nat) : ∃ κ : Nat, κ < 3 ∧ Int.tmod (j : Int) 3 = (κ : Int) := ⟨j % 3, by omega, by rw [Int.tmod_eq_emod_of_nonneg (by omega)]; omega⟩

set_option maxRecDepth 100000 in
set_option maxHeartbeats 12800000 in
theorem sshares_walk (slots : Int) (_hs : I64 slots) (A : Option Addr) (n c : Nat) (xs : List Int) (_hx : ∀ x ∈ xs, I64 x) (w : World) (hS' : Slc (Value.int .i64) w A n xs) : Calls Try.prog 16 #[.int .i64 slots, .slice A n c] w fun e w' => e = .returned (.bool true) ∧ Only [] w w' := by
  obtain ⟨a, ha, hsl⟩ := iand3n slots
  have hmost := hS'.most
  unfold maxLen at hmost
  have hk : (kS 4 (1 + (a : Int))).Ok := kS_ok (by decide) (by decide) (by omega) (by omega)
  have h60 : (kS 4 (1 + (a : Int))).s ≤ 60000 := by show 1 + (a : Int) ≤ 60000; omega
  have hf0 := fresh_fr hk h60 (n := 1 + a) (by show 1 + (a : Int) = _; omega)
  have hat1 : topN ((freshS (kS 4 (1 + (a : Int)))).at 1) = 0 := by rw [fresh_top hk h60]; decide
  have HK := Lib.hid hk
  have HF0 := Lib.hid hf0
  have HT0 := Lib.hid hat1
  clear hf0 hat1 h60 hk
  obtain ⟨B, hBn⟩ : ∃ B, IntKind.i64.wrap ((n : Int) + 60) = B := ⟨_, rfl⟩
  have hBn2 : wrap64 ((n : Int) + 60) = B := by rw [← hBn, IntWalk.i64_left]
  go_enter Try.func16, Try.ntmps16
  go_wp2_with fail
  refine (arena_yes (kS 4 (1 + (a : Int))) HK.out rfl rfl rfl _).mono ?_
  rintro e w1 ⟨m, rfl, hm1, hn1, ho1⟩
  obtain ⟨hl1, hl2, hl3⟩ := hm1.lts
  obtain ⟨hn1, hn2, hn3⟩ := hn1
  have hz := ho1.size
  have hnx : w1.heap.size ∉ m.l := hm1.notin (Nat.le_refl _)
  have hW : EW w (w1.alloc (.cells #[.int .i64 (kS 4 (1 + (a : Int))).t, .int .i64 (kS 4 (1 + (a : Int))).s, .int .i64 (kS 4 (1 + (a : Int))).c, .int .i64 (kS 4 (1 + (a : Int))).w, .int .i64 (kS 4 (1 + (a : Int))).g, .int .i64 (kS 4 (1 + (a : Int))).p, .int .i64 (kS 4 (1 + (a : Int))).r, .pointer (some ⟨m.b, 0, none⟩), .int .i64 0] 47)) m (kS 4 (1 + (a : Int))) 0 w1.heap.size (freshS (kS 4 (1 + (a : Int)))) := ⟨hm1.alloc _, Blk.new _ _ _, ho1.alloc _⟩
  clear hm1 ho1
  go_wp2_with fail
  refine (awake6 _).mono ?_
  rintro e w2 ⟨rfl, ho2⟩
  have hz2 := ho2.size
  simp only [World.size_alloc] at hz2
  have hWb : EW w w2 m (kS 4 (1 + (a : Int))) 0 w1.heap.size (freshS (kS 4 (1 + (a : Int)))) := ⟨hW.mem.only ho2 (by simp) (by simp) (by simp), hW.env.only ho2 (by simp), hW.only.trans' ho2 (fun _ h _ => h)⟩
  clear hW ho2
  have hA : SA w m w1.heap.size w2.heap.size := ⟨hn1, hn2, hn3, hz, by omega, hnx, by simp only [List.mem_cons, List.not_mem_nil, or_false, not_or]; omega, by omega⟩
  go_wp2
  refine wp_loop_rounds 4 ?_
  rw [rounds_succ]
  go_wp2
  rw [rounds_succ]
  go_wp2
  rw [rounds_succ]
  go_wp2
  rw [rounds_succ]
  go_wp2
  go_loopw [10] (fun i wr => ∃ (j : Nat) (s : MS) (l : List Int) (f : Nat → Th), i = .int .i64 j ∧ j ≤ 361 ∧ SW w wr m (kS 4 (1 + (a : Int))) 0 w1.heap.size w2.heap.size s f ∧ Blk wr w2.heap.size (cells3 f) 93 ∧ Sys (kS 4 (1 + (a : Int))) (1 + a) s l (fun i => (f i).ts) ∧ topN (s.at 1) ≤ j) (fun i _ => 361 - (intOf i).toNat)
  case atStart =>
    refine ⟨0, _, _, fun i => ⟨.take ⟨0, 0, 0, 0, false⟩, w2.heap.size + 1 + i⟩, rfl, by omega, ⟨((((hWb.alloc _).alloc _).alloc _).alloc _), fun i hi => ?_, fun i hi => ?_, fun i j hi hj hij => by simp only; omega⟩, (((Blk.new w2 _ 93).alloc _).alloc _).alloc _, ⟨HF0.out, fun i _ => ⟨rfl, .inl rfl⟩, fun i j _ _ _ g hg => (by cases hg), by rw [length_rangeI]; rfl⟩, by rw [HT0.out]; decide⟩
    · have : i = 0 ∨ i = 1 ∨ i = 2 := by omega
      rcases this with rfl | rfl | rfl
      · exact ((Blk.new' (by simp) rfl : Blk _ _ _ 72).alloc _).alloc _
      · exact (Blk.new' (by simp) rfl : Blk _ _ _ 72).alloc _
      · exact Blk.new' (by simp) rfl
    · simp only [List.mem_cons, List.not_mem_nil, or_false, not_or]; omega
  case round =>
    clear hWb
    obtain ⟨j, s, l, f, rfl, hj, hW, hB, hS, htn⟩ := hrel
    have hEc := hW.ew.env.cell
    by_cases hjB : (j : Int) < B
    · by_cases hAB : j < n ∧ j < 300
      · obtain ⟨hn, h300⟩ := hAB
        obtain ⟨bb, off, rfl, hbb, _⟩ := hS'.cells (by omega)
        obtain ⟨bb', off', hadr, _, hcell⟩ := (hS'.only hW.ew.only).cells (by omega)
        cases hadr
        have hcj := hcell j hn
        clear hcell
        obtain ⟨z, hz⟩ : ∃ z, xs.getD j default = z := ⟨_, rfl⟩
        rw [hz] at hcj
        obtain ⟨r, κ, hκ, hr1, hr2, hr, hk3⟩ := tmod3 z
        clear hz
        rcases hfk : f κ with ⟨ts, tb⟩
        have hget := cells3_get f κ hκ
        have hOk := hW.ths κ hκ
        have hnb := hW.nb κ hκ
        have hFts : (fun i => (f i).ts) κ = ts := by show (f κ).ts = ts; rw [hfk]
        have hTk : TOk (kS 4 (1 + (a : Int))) (1 + a) s l ts := hFts ▸ hS.ok κ hκ
        rw [hfk] at hget hOk hnb
        simp only at hnb
        obtain ⟨nb0, nb1, nb2, nb3⟩ := hnb
        obtain ⟨g0, g1, g2⟩ := hget
        have n1 : tb ≠ m.b := by simp only [List.mem_cons, List.not_mem_nil, or_false, not_or] at nb1; omega
        have n2 : tb ≠ m.wb := by simp only [List.mem_cons, List.not_mem_nil, or_false, not_or] at nb1; omega
        have n3 : tb ≠ m.hb := by simp only [List.mem_cons, List.not_mem_nil, or_false, not_or] at nb1; omega
        have hlt := hOk.lt
        simp only at hlt
        obtain ⟨xb, hxb⟩ : ∃ xb, wr.heap.size = xb := ⟨_, rfl⟩
        have hxl := hW.ew.mem.lts
        have hxe := hW.ew.env.lt
        have hxa := hB.lt
        have hxz := hW.ew.only.size
        have hxt : ∀ i, i < 3 → (f i).b < xb := fun i hi => by have := (hW.ths i hi).lt; omega
        obtain ⟨hxl1, hxl2, hxl3⟩ := hxl
        rw [hxb] at hlt hxl1 hxl2 hxl3 hxe hxa hxz
        have hxm : xb ∉ m.l := by simp only [List.mem_cons, List.not_mem_nil, or_false, not_or]; omega
        have hxn : xb ∉ [m.b, m.wb, m.hb, tb] := by simp only [List.mem_cons, List.not_mem_nil, or_false, not_or]; omega
        have han : w2.heap.size ∉ [m.b, m.wb, m.hb, tb] := by
          have := hA.a1
          simp only [List.mem_cons, List.not_mem_nil, or_false, not_or] at this ⊢; omega
        cases ts with
        | give p =>
          have h0 : wr.cell? ⟨w2.heap.size, κ * 3, none⟩ = some (.pointer none) := (hB.cell _).trans g0
          have h1 : wr.cell? ⟨w2.heap.size, κ * 3 + 1, none⟩ = some (.pointer (some ⟨tb, 0, none⟩)) := (hB.cell _).trans g1
          have h2 : wr.cell? ⟨w2.heap.size, κ * 3 + 2, none⟩ = some (.int .i64 p.slot) := (hB.cell _).trans g2
          have hX : Blk (wr.alloc (.cells #[.pointer none, .pointer (some ⟨tb, 0, none⟩), .int .i64 p.slot] 92)) xb #[.pointer none, .pointer (some ⟨tb, 0, none⟩), .int .i64 p.slot] 92 := Blk.new' hxb.symm rfl
          have hWa := hW.alloc (.cells #[.pointer none, .pointer (some ⟨tb, 0, none⟩), .int .i64 p.slot] 92)
          have hBa := hB.alloc (.cells #[.pointer none, .pointer (some ⟨tb, 0, none⟩), .int .i64 p.slot] 92)
          have hPa := Blk.alloc (show Blk wr tb p.cs 142 from hOk) (.cells #[.pointer none, .pointer (some ⟨tb, 0, none⟩), .int .i64 p.slot] 92)
          have hpc : p.pc = 0 ∨ p.pc = 1 ∨ p.pc = 2 := by
            rcases hTk.2.2.2.2 with h | ⟨h, _⟩
            · exact .inl h
            · exact .inr h
          have hps0 := hTk.1
          have hps1 : p.slot < 131072 := by have := hTk.2.1; omega
          have hpU := hTk.2.2.2.1
          rcases hst : giveStep (kS 4 (1 + (a : Int))) 0 s p with ⟨b, s', p'⟩
          obtain ⟨ht1, hps, hcase⟩ := hS.gives HK.out (by omega) hκ hFts (hW.ew.mem.at_rng 1) (by omega) hst
          have HST := Lib.hid hst
          have HC := Lib.hid hcase
          have HS := Lib.hid hS
          have HPC := Lib.hid hpc
          have HFK := Lib.hid hfk
          have HPS := Lib.hid hps
          have HP1 := Lib.hid hps1
          have G0 := Lib.hid g0
          have G1 := Lib.hid g1
          have G2 := Lib.hid g2
          have hEa := hWa.ew.env.cell
          clear hst hcase hS hpc hTk hOk g0 g1 g2 hfk hFts hW hB hps hps1
          go_wp2_with fail
          refine (give_step (kS 4 (1 + (a : Int))) 0 p tb HST.out hWa.ew.mem hPa HPC.out hpU hps0 HP1.out n1 n2 n3).mono ?_
          rintro e w3 ⟨rfl, h31, h32, h33⟩
          have hW3 := hWa.step hA hκ (congrArg Th.b HFK.out) h31 (ts' := .give p') h32 h33
          have hX3 := hX.only h33 hxn
          have hB3 := hBa.only h33 han
          have hxu : ∀ i, i < 3 → xb ≠ (updF f κ ⟨.give p', tb⟩ i).b := fun i hi hh => by
            have h5 := hxt i hi
            unfold updF at hh
            split at hh
            · simp only at hh; omega
            · omega
          clear hWa hX hBa hPa h31 h32 h33 hEa hEc h0 h1 h2
          have hXc := hX3.cell
          have hXf := hX3.frozen
          have hBf := hB3.frozen
          have hx3 : xb < w3.heap.size := hX3.lt
          have ha3 : w2.heap.size < w3.heap.size := hB3.lt
          have hb0 : w3.cell? ⟨w2.heap.size, κ * 3, none⟩ = some (.pointer none) := (hB3.cell _).trans G0.out
          have hb1 : w3.cell? ⟨w2.heap.size, κ * 3 + 1, none⟩ = some (.pointer (some ⟨tb, 0, none⟩)) := (hB3.cell _).trans G1.out
          have hb2 : w3.cell? ⟨w2.heap.size, κ * 3 + 2, none⟩ = some (.int .i64 p.slot) := (hB3.cell _).trans G2.out
          cases b
          · have HS := Lib.hid (HC.out.elim (fun h => h.2) (fun h => by cases h.1))
            go_wp2
            go_roundw
            case rel => exact ⟨j + 1, s', l, updF f κ ⟨.give p', tb⟩, by go_num, by omega, ((hW3.setA hA _ _).setA hA _ _).setA hA _ _, ((hB3.set _ _ rfl).set _ _ rfl).set _ _ (cells3_set f ⟨.give p', tb⟩ rfl rfl (by show Value.int .i64 p.slot = .int .i64 p'.slot; rw [HPS.out]) κ hκ), by rw [updF_ts]; exact HS.out, by omega⟩
            case measure => simp [intOf]; omega
          · have HS := Lib.hid (HC.out.elim (fun h => by cases h.1) (fun h => h.2 ⟨0, 0, 0, 0, false⟩ rfl rfl))
            go_wp2
            go_roundw
            case rel =>
              refine ⟨j + 1, s', p.slot :: l, updF f κ ⟨.take ⟨0, 0, 0, 0, false⟩, w3.heap.size⟩, by go_num, by omega, ?_, ((((((hB3.other _ _ (by simp only; omega)).other _ _ (by simp only; omega)).other _ _ (by simp only; omega)).set _ _ rfl).set _ _ rfl).set _ _ (cells3_set f ⟨.take ⟨0, 0, 0, 0, false⟩, w3.heap.size⟩ rfl rfl rfl κ hκ)).alloc _, by rw [updF_ts]; exact HS.out, by omega⟩
              have := ((((((hW3.setX xb hxm (by omega) hxu hxz 0 (.pointer (some ⟨w3.heap.size, 0, none⟩))).setX xb hxm (by omega) hxu hxz 1 (.pointer none)).setX xb hxm (by omega) hxu hxz 2 (.int .i64 (-1))).setA hA (κ * 3) (.pointer (some ⟨w3.heap.size, 0, none⟩))).setA hA (κ * 3 + 1) (.pointer none)).setA hA (κ * 3 + 2) (.int .i64 (-1))).fresh (ts' := .take ⟨0, 0, 0, 0, false⟩) hκ (by simpa using hB3.lt) (.cells #[.int .i64 0, .int .u64 0, .int .i64 0, .int .i64 0, .bool false] 72) (b := w3.heap.size) (by simp) (Blk.new' (by simp) rfl)
              rw [updF_updF] at this
              exact this
            case measure => simp [intOf]; omega
        | take p =>
          have h0 : wr.cell? ⟨w2.heap.size, κ * 3, none⟩ = some (.pointer (some ⟨tb, 0, none⟩)) := (hB.cell _).trans g0
          have h1 : wr.cell? ⟨w2.heap.size, κ * 3 + 1, none⟩ = some (.pointer none) := (hB.cell _).trans g1
          have h2 : wr.cell? ⟨w2.heap.size, κ * 3 + 2, none⟩ = some (.int .i64 (-1)) := (hB.cell _).trans g2
          have hX : Blk (wr.alloc (.cells #[.pointer (some ⟨tb, 0, none⟩), .pointer none, .int .i64 (-1)] 92)) xb #[.pointer (some ⟨tb, 0, none⟩), .pointer none, .int .i64 (-1)] 92 := Blk.new' hxb.symm rfl
          have hWa := hW.alloc (.cells #[.pointer (some ⟨tb, 0, none⟩), .pointer none, .int .i64 (-1)] 92)
          have hBa := hB.alloc (.cells #[.pointer (some ⟨tb, 0, none⟩), .pointer none, .int .i64 (-1)] 92)
          have hPa := Blk.alloc (show Blk wr tb p.cs 72 from hOk) (.cells #[.pointer (some ⟨tb, 0, none⟩), .pointer none, .int .i64 (-1)] 92)
          have hpc : p.pc = 0 ∨ p.pc = 1 ∨ (p.pc = 2 ∧ U64 p.top ∧ -1 ≤ p.next ∧ p.next < 131072) := by
            rcases hTk.2 with h | ⟨h | h, h3, _, _, _, h4⟩
            · exact .inl h
            · exact .inr (.inl h)
            · exact .inr (.inr ⟨h, h3, (h4 h).1, (h4 h).2.1⟩)
          rcases hst : takeStep (kS 4 (1 + (a : Int))) 0 s p with ⟨b, s', p'⟩
          obtain ⟨ht1, hcase⟩ := hS.takes HK.out (by omega) hκ hFts (hW.ew.mem.at_rng 1) (by omega) hst
          have HST := Lib.hid hst
          have HC := Lib.hid hcase
          have HS := Lib.hid hS
          have HPC := Lib.hid hpc
          have HFK := Lib.hid hfk
          have G0 := Lib.hid g0
          have G1 := Lib.hid g1
          have G2 := Lib.hid g2
          have hEa := hWa.ew.env.cell
          clear hst hcase hS hpc hTk hOk g0 g1 g2 hfk hFts hW hB
          go_wp2_with fail
          refine (take_step (kS 4 (1 + (a : Int))) 0 p tb HST.out hWa.ew.mem hPa HPC.out n1 n2 n3).mono ?_
          rintro e w3 ⟨rfl, h31, h32, h33⟩
          have hW3 := hWa.step hA hκ (congrArg Th.b HFK.out) h31 (ts' := .take p') h32 h33
          have hX3 := hX.only h33 hxn
          have hB3 := hBa.only h33 han
          have hP3 := h32
          have hxu : ∀ i, i < 3 → xb ≠ (updF f κ ⟨.take p', tb⟩ i).b := fun i hi hh => by
            have h5 := hxt i hi
            unfold updF at hh
            split at hh
            · simp only at hh; omega
            · omega
          clear hWa hX hBa hPa h31 h32 h33 hEa hEc h0 h1 h2
          have hXc := hX3.cell
          have hXf := hX3.frozen
          have hBf := hB3.frozen
          have hx3 : xb < w3.heap.size := hX3.lt
          have ha3 : w2.heap.size < w3.heap.size := hB3.lt
          have hb0 : w3.cell? ⟨w2.heap.size, κ * 3, none⟩ = some (.pointer (some ⟨tb, 0, none⟩)) := (hB3.cell _).trans G0.out
          have hb1 : w3.cell? ⟨w2.heap.size, κ * 3 + 1, none⟩ = some (.pointer none) := (hB3.cell _).trans G1.out
          have hb2 : w3.cell? ⟨w2.heap.size, κ * 3 + 2, none⟩ = some (.int .i64 (-1)) := (hB3.cell _).trans G2.out
          cases b
          · have hS := HC.out.elim (fun h => h.2) (fun h => h.elim (fun h => by cases h.1) (fun h => by cases h.1))
            have HS := Lib.hid hS
            clear hS
            go_wp2
            go_roundw
            case rel => exact ⟨j + 1, s', l, updF f κ ⟨.take p', tb⟩, by go_num, by omega, ((hW3.setA hA _ _).setA hA _ _).setA hA _ _, ((hB3.set _ _ rfl).set _ _ rfl).set _ _ (cells3_set f ⟨.take p', tb⟩ rfl rfl rfl κ hκ), by rw [updF_ts]; exact HS.out, by omega⟩
            case measure => simp [intOf]; omega
          · rcases HC.out with h | ⟨_, hpo, hS⟩ | ⟨_, hpo, hp0, hp1, l', hS⟩
            · cases h.1
            · have htsl : Calls Try.prog 66 #[.pointer (some ⟨tb, 0, none⟩)] w3 fun e w' => e = .returned (.tuple #[.int .i64 0, .bool false]) ∧ w3 = w' := by
                have := tslot_any _ _ hP3
                rw [hpo] at this
                exact this
              have HS := Lib.hid (hS ⟨0, 0, 0, 0, false⟩ rfl rfl)
              clear hS hpo
              go_wp2_with (first | (go_at_call 66; with_reducible refine htsl.mono ?_; rintro e w' ⟨rfl, rfl⟩))
              go_roundw
              case rel =>
                refine ⟨j + 1, s', l, updF f κ ⟨.take ⟨0, 0, 0, 0, false⟩, w3.heap.size⟩, by go_num, by omega, ?_, ((((hB3.other _ _ (by simp only; omega)).set _ _ rfl).set _ _ rfl).set _ _ (cells3_set f ⟨.take ⟨0, 0, 0, 0, false⟩, w3.heap.size⟩ rfl rfl rfl κ hκ)).alloc _, by rw [updF_ts]; exact HS.out, by omega⟩
                have := ((((hW3.setX xb hxm (by omega) hxu hxz 0 (.pointer (some ⟨w3.heap.size, 0, none⟩))).setA hA (κ * 3) (.pointer (some ⟨w3.heap.size, 0, none⟩))).setA hA (κ * 3 + 1) (.pointer none)).setA hA (κ * 3 + 2) (.int .i64 (-1))).fresh (ts' := .take ⟨0, 0, 0, 0, false⟩) hκ (by simpa using hB3.lt) (.cells #[.int .i64 0, .int .u64 0, .int .i64 0, .int .i64 0, .bool false] 72) (b := w3.heap.size) (by simp) (Blk.new' (by simp) rfl)
                rw [updF_updF] at this
                exact this
              case measure => simp [intOf]; omega
            · have htsl : Calls Try.prog 66 #[.pointer (some ⟨tb, 0, none⟩)] w3 fun e w' => e = .returned (.tuple #[.int .i64 p'.slot, .bool true]) ∧ w3 = w' := by
                have := tslot_any _ _ hP3
                rw [hpo] at this
                exact this
              have hSq := hS ⟨0, p'.slot, 0⟩ rfl rfl rfl
              have hvn : ∀ i, i < 3 → ((f i).hv == p'.slot) = false := fun i hi => by
                by_cases hik : i = κ
                · subst hik
                  have : (f i).hv = -1 := by rw [HFK.out]; rfl
                  rw [this]
                  simp only [beq_eq_false_iff_ne, ne_eq]
                  omega
                · have h1 := hSq.ds κ i hκ hi (Ne.symm hik) p'.slot (by rw [updT_at]; rfl)
                  rw [updT_ne _ _ _ _ hik] at h1
                  rcases hfi : f i with ⟨ts2, b2⟩
                  rw [hfi] at h1
                  cases ts2 with
                  | take p2 =>
                    show ((-1 : Int) == p'.slot) = false
                    simp only [beq_eq_false_iff_ne, ne_eq]
                    omega
                  | give p2 =>
                    show (p2.slot == p'.slot) = false
                    simp only [beq_eq_false_iff_ne, ne_eq]
                    exact fun hh => h1 (congrArg some hh)
              have hv0 := hvn 0 (by decide)
              have hv1 := hvn 1 (by decide)
              have hv2 := hvn 2 (by decide)
              have hc2 : w3.cell? ⟨w2.heap.size, 2, none⟩ = some (.int .i64 (f 0).hv) := (hB3.cell _).trans (cells3_get f 0 (by decide)).2.2
              have hc5 : w3.cell? ⟨w2.heap.size, 5, none⟩ = some (.int .i64 (f 1).hv) := (hB3.cell _).trans (cells3_get f 1 (by decide)).2.2
              have hc8 : w3.cell? ⟨w2.heap.size, 8, none⟩ = some (.int .i64 (f 2).hv) := (hB3.cell _).trans (cells3_get f 2 (by decide)).2.2
              have HS := Lib.hid hSq
              clear hS hpo hvn hSq
              go_wp2_with (first | (go_at_call 66; with_reducible refine htsl.mono ?_; rintro e w' ⟨rfl, rfl⟩))
              refine wp_loop_rounds 4 ?_
              rw [rounds_succ]
              go_wp2
              rw [rounds_succ]
              go_wp2
              rw [rounds_succ]
              go_wp2
              rw [rounds_succ]
              go_wp2_with (first | (go_at_call 77; refine (newgive_any _ _).mono ?_; rintro e w' ⟨rfl, rfl⟩))
              go_roundw
              case rel =>
                refine ⟨j + 1, s', l', updF f κ ⟨.give ⟨0, p'.slot, 0⟩, w3.heap.size⟩, by go_num, by omega, ?_, ((((((hB3.other _ _ (by simp only; omega)).other _ _ (by simp only; omega)).other _ _ (by simp only; omega)).set _ _ rfl).set _ _ rfl).set _ _ (cells3_set f ⟨.give ⟨0, p'.slot, 0⟩, w3.heap.size⟩ rfl rfl rfl κ hκ)).alloc _, by rw [updF_ts]; exact HS.out, by omega⟩
                have := ((((((hW3.setX xb hxm (by omega) hxu hxz 0 (.pointer none)).setX xb hxm (by omega) hxu hxz 1 (.pointer (some ⟨w3.heap.size, 0, none⟩))).setX xb hxm (by omega) hxu hxz 2 (.int .i64 p'.slot)).setA hA (κ * 3) (.pointer none)).setA hA (κ * 3 + 1) (.pointer (some ⟨w3.heap.size, 0, none⟩))).setA hA (κ * 3 + 2) (.int .i64 p'.slot)).fresh (ts' := .give ⟨0, p'.slot, 0⟩) hκ (by simpa using hB3.lt) (.cells (⟨0, p'.slot, 0⟩ : GiveS).cs 142) (b := w3.heap.size) (by simp) (Blk.new' (by simp) rfl)
                rw [updF_updF] at this
                exact this
              case measure => simp [intOf]; omega
      · by_cases hn : j < n
        · have h300 : ¬ j < 300 := fun h => hAB ⟨hn, h⟩
          by_cases h360 : 360 < j
          · skip
            have hBc : ∀ o, wr.cell? ⟨w2.heap.size, o, none⟩ = (#[(f 0).tp, (f 0).gp, .int .i64 (f 0).hv, (f 1).tp, (f 1).gp, .int .i64 (f 1).hv, (f 2).tp, (f 2).gp, .int .i64 (f 2).hv] : Array Value)[o]? := hB.cell
            have HS := Lib.hid hS
            have htn1 : topN (s.at 1) ≤ 1000 := by omega
            have HTN := Lib.hid htn1
            clear hS htn htn1
            go_wp2_with fail
            refine (free_any a ha hW hA HS.out HTN.out).mono ?_
            rintro e w3 ⟨rfl, ho3⟩
            go_wp2
            go_ret
            exact ⟨rfl, ho3⟩
          · obtain ⟨κ, hκ, hk3⟩ := tmod3n j
            rcases hfk : f κ with ⟨ts, tb⟩
            have hget := cells3_get f κ hκ
            have hOk := hW.ths κ hκ
            have hnb := hW.nb κ hκ
            have hFts : (fun i => (f i).ts) κ = ts := by show (f κ).ts = ts; rw [hfk]
            have hTk : TOk (kS 4 (1 + (a : Int))) (1 + a) s l ts := hFts ▸ hS.ok κ hκ
            rw [hfk] at hget hOk hnb
            simp only at hnb
            obtain ⟨nb0, nb1, nb2, nb3⟩ := hnb
            obtain ⟨g0, g1, g2⟩ := hget
            have n1 : tb ≠ m.b := by simp only [List.mem_cons, List.not_mem_nil, or_false, not_or] at nb1; omega
            have n2 : tb ≠ m.wb := by simp only [List.mem_cons, List.not_mem_nil, or_false, not_or] at nb1; omega
            have n3 : tb ≠ m.hb := by simp only [List.mem_cons, List.not_mem_nil, or_false, not_or] at nb1; omega
            have hlt := hOk.lt
            simp only at hlt
            obtain ⟨xb, hxb⟩ : ∃ xb, wr.heap.size = xb := ⟨_, rfl⟩
            have hxl := hW.ew.mem.lts
            have hxe := hW.ew.env.lt
            have hxa := hB.lt
            have hxz := hW.ew.only.size
            have hxt : ∀ i, i < 3 → (f i).b < xb := fun i hi => by have := (hW.ths i hi).lt; omega
            obtain ⟨hxl1, hxl2, hxl3⟩ := hxl
            rw [hxb] at hlt hxl1 hxl2 hxl3 hxe hxa hxz
            have hxm : xb ∉ m.l := by simp only [List.mem_cons, List.not_mem_nil, or_false, not_or]; omega
            have hxn : xb ∉ [m.b, m.wb, m.hb, tb] := by simp only [List.mem_cons, List.not_mem_nil, or_false, not_or]; omega
            have han : w2.heap.size ∉ [m.b, m.wb, m.hb, tb] := by
              have := hA.a1
              simp only [List.mem_cons, List.not_mem_nil, or_false, not_or] at this ⊢; omega
            cases ts with
            | give p =>
              have h0 : wr.cell? ⟨w2.heap.size, κ * 3, none⟩ = some (.pointer none) := (hB.cell _).trans g0
              have h1 : wr.cell? ⟨w2.heap.size, κ * 3 + 1, none⟩ = some (.pointer (some ⟨tb, 0, none⟩)) := (hB.cell _).trans g1
              have h2 : wr.cell? ⟨w2.heap.size, κ * 3 + 2, none⟩ = some (.int .i64 p.slot) := (hB.cell _).trans g2
              have hX : Blk (wr.alloc (.cells #[.pointer none, .pointer (some ⟨tb, 0, none⟩), .int .i64 p.slot] 92)) xb #[.pointer none, .pointer (some ⟨tb, 0, none⟩), .int .i64 p.slot] 92 := Blk.new' hxb.symm rfl
              have hWa := hW.alloc (.cells #[.pointer none, .pointer (some ⟨tb, 0, none⟩), .int .i64 p.slot] 92)
              have hBa := hB.alloc (.cells #[.pointer none, .pointer (some ⟨tb, 0, none⟩), .int .i64 p.slot] 92)
              have hPa := Blk.alloc (show Blk wr tb p.cs 142 from hOk) (.cells #[.pointer none, .pointer (some ⟨tb, 0, none⟩), .int .i64 p.slot] 92)
              have hpc : p.pc = 0 ∨ p.pc = 1 ∨ p.pc = 2 := by
                rcases hTk.2.2.2.2 with h | ⟨h, _⟩
                · exact .inl h
                · exact .inr h
              have hps0 := hTk.1
              have hps1 : p.slot < 131072 := by have := hTk.2.1; omega
              have hpU := hTk.2.2.2.1
              rcases hst : giveStep (kS 4 (1 + (a : Int))) 0 s p with ⟨b, s', p'⟩
              obtain ⟨ht1, hps, hcase⟩ := hS.gives HK.out (by omega) hκ hFts (hW.ew.mem.at_rng 1) (by omega) hst
              have HST := Lib.hid hst
              have HC := Lib.hid hcase
              have HS := Lib.hid hS
              have HPC := Lib.hid hpc
              have HFK := Lib.hid hfk
              have HPS := Lib.hid hps
              have HP1 := Lib.hid hps1
              have G0 := Lib.hid g0
              have G1 := Lib.hid g1
              have G2 := Lib.hid g2
              have hEa := hWa.ew.env.cell
              clear hst hcase hS hpc hTk hOk g0 g1 g2 hfk hFts hW hB hps hps1
              go_wp2_with fail
              refine (give_step (kS 4 (1 + (a : Int))) 0 p tb HST.out hWa.ew.mem hPa HPC.out hpU hps0 HP1.out n1 n2 n3).mono ?_
              rintro e w3 ⟨rfl, h31, h32, h33⟩
              have hW3 := hWa.step hA hκ (congrArg Th.b HFK.out) h31 (ts' := .give p') h32 h33
              have hX3 := hX.only h33 hxn
              have hB3 := hBa.only h33 han
              have hxu : ∀ i, i < 3 → xb ≠ (updF f κ ⟨.give p', tb⟩ i).b := fun i hi hh => by
                have h5 := hxt i hi
                unfold updF at hh
                split at hh
                · simp only at hh; omega
                · omega
              clear hWa hX hBa hPa h31 h32 h33 hEa hEc h0 h1 h2
              have hXc := hX3.cell
              have hXf := hX3.frozen
              have hBf := hB3.frozen
              have hx3 : xb < w3.heap.size := hX3.lt
              have ha3 : w2.heap.size < w3.heap.size := hB3.lt
              have hb0 : w3.cell? ⟨w2.heap.size, κ * 3, none⟩ = some (.pointer none) := (hB3.cell _).trans G0.out
              have hb1 : w3.cell? ⟨w2.heap.size, κ * 3 + 1, none⟩ = some (.pointer (some ⟨tb, 0, none⟩)) := (hB3.cell _).trans G1.out
              have hb2 : w3.cell? ⟨w2.heap.size, κ * 3 + 2, none⟩ = some (.int .i64 p.slot) := (hB3.cell _).trans G2.out
              cases b
              · have HS := Lib.hid (HC.out.elim (fun h => h.2) (fun h => by cases h.1))
                go_wp2
                go_roundw
                case rel => exact ⟨j + 1, s', l, updF f κ ⟨.give p', tb⟩, by go_num, by omega, ((hW3.setA hA _ _).setA hA _ _).setA hA _ _, ((hB3.set _ _ rfl).set _ _ rfl).set _ _ (cells3_set f ⟨.give p', tb⟩ rfl rfl (by show Value.int .i64 p.slot = .int .i64 p'.slot; rw [HPS.out]) κ hκ), by rw [updF_ts]; exact HS.out, by omega⟩
                case measure => simp [intOf]; omega
              · have HS := Lib.hid (HC.out.elim (fun h => by cases h.1) (fun h => h.2 ⟨0, 0, 0, 0, false⟩ rfl rfl))
                go_wp2
                go_roundw
                case rel =>
                  refine ⟨j + 1, s', p.slot :: l, updF f κ ⟨.take ⟨0, 0, 0, 0, false⟩, w3.heap.size⟩, by go_num, by omega, ?_, ((((((hB3.other _ _ (by simp only; omega)).other _ _ (by simp only; omega)).other _ _ (by simp only; omega)).set _ _ rfl).set _ _ rfl).set _ _ (cells3_set f ⟨.take ⟨0, 0, 0, 0, false⟩, w3.heap.size⟩ rfl rfl rfl κ hκ)).alloc _, by rw [updF_ts]; exact HS.out, by omega⟩
                  have := ((((((hW3.setX xb hxm (by omega) hxu hxz 0 (.pointer (some ⟨w3.heap.size, 0, none⟩))).setX xb hxm (by omega) hxu hxz 1 (.pointer none)).setX xb hxm (by omega) hxu hxz 2 (.int .i64 (-1))).setA hA (κ * 3) (.pointer (some ⟨w3.heap.size, 0, none⟩))).setA hA (κ * 3 + 1) (.pointer none)).setA hA (κ * 3 + 2) (.int .i64 (-1))).fresh (ts' := .take ⟨0, 0, 0, 0, false⟩) hκ (by simpa using hB3.lt) (.cells #[.int .i64 0, .int .u64 0, .int .i64 0, .int .i64 0, .bool false] 72) (b := w3.heap.size) (by simp) (Blk.new' (by simp) rfl)
                  rw [updF_updF] at this
                  exact this
                case measure => simp [intOf]; omega
            | take p =>
              have h0 : wr.cell? ⟨w2.heap.size, κ * 3, none⟩ = some (.pointer (some ⟨tb, 0, none⟩)) := (hB.cell _).trans g0
              have h1 : wr.cell? ⟨w2.heap.size, κ * 3 + 1, none⟩ = some (.pointer none) := (hB.cell _).trans g1
              have h2 : wr.cell? ⟨w2.heap.size, κ * 3 + 2, none⟩ = some (.int .i64 (-1)) := (hB.cell _).trans g2
              have hX : Blk (wr.alloc (.cells #[.pointer (some ⟨tb, 0, none⟩), .pointer none, .int .i64 (-1)] 92)) xb #[.pointer (some ⟨tb, 0, none⟩), .pointer none, .int .i64 (-1)] 92 := Blk.new' hxb.symm rfl
              have hWa := hW.alloc (.cells #[.pointer (some ⟨tb, 0, none⟩), .pointer none, .int .i64 (-1)] 92)
              have hBa := hB.alloc (.cells #[.pointer (some ⟨tb, 0, none⟩), .pointer none, .int .i64 (-1)] 92)
              have hPa := Blk.alloc (show Blk wr tb p.cs 72 from hOk) (.cells #[.pointer (some ⟨tb, 0, none⟩), .pointer none, .int .i64 (-1)] 92)
              have hpc : p.pc = 0 ∨ p.pc = 1 ∨ (p.pc = 2 ∧ U64 p.top ∧ -1 ≤ p.next ∧ p.next < 131072) := by
                rcases hTk.2 with h | ⟨h | h, h3, _, _, _, h4⟩
                · exact .inl h
                · exact .inr (.inl h)
                · exact .inr (.inr ⟨h, h3, (h4 h).1, (h4 h).2.1⟩)
              rcases hst : takeStep (kS 4 (1 + (a : Int))) 0 s p with ⟨b, s', p'⟩
              obtain ⟨ht1, hcase⟩ := hS.takes HK.out (by omega) hκ hFts (hW.ew.mem.at_rng 1) (by omega) hst
              have HST := Lib.hid hst
              have HC := Lib.hid hcase
              have HS := Lib.hid hS
              have HPC := Lib.hid hpc
              have HFK := Lib.hid hfk
              have G0 := Lib.hid g0
              have G1 := Lib.hid g1
              have G2 := Lib.hid g2
              have hEa := hWa.ew.env.cell
              clear hst hcase hS hpc hTk hOk g0 g1 g2 hfk hFts hW hB
              go_wp2_with fail
              refine (take_step (kS 4 (1 + (a : Int))) 0 p tb HST.out hWa.ew.mem hPa HPC.out n1 n2 n3).mono ?_
              rintro e w3 ⟨rfl, h31, h32, h33⟩
              have hW3 := hWa.step hA hκ (congrArg Th.b HFK.out) h31 (ts' := .take p') h32 h33
              have hX3 := hX.only h33 hxn
              have hB3 := hBa.only h33 han
              have hP3 := h32
              have hxu : ∀ i, i < 3 → xb ≠ (updF f κ ⟨.take p', tb⟩ i).b := fun i hi hh => by
                have h5 := hxt i hi
                unfold updF at hh
                split at hh
                · simp only at hh; omega
                · omega
              clear hWa hX hBa hPa h31 h32 h33 hEa hEc h0 h1 h2
              have hXc := hX3.cell
              have hXf := hX3.frozen
              have hBf := hB3.frozen
              have hx3 : xb < w3.heap.size := hX3.lt
              have ha3 : w2.heap.size < w3.heap.size := hB3.lt
              have hb0 : w3.cell? ⟨w2.heap.size, κ * 3, none⟩ = some (.pointer (some ⟨tb, 0, none⟩)) := (hB3.cell _).trans G0.out
              have hb1 : w3.cell? ⟨w2.heap.size, κ * 3 + 1, none⟩ = some (.pointer none) := (hB3.cell _).trans G1.out
              have hb2 : w3.cell? ⟨w2.heap.size, κ * 3 + 2, none⟩ = some (.int .i64 (-1)) := (hB3.cell _).trans G2.out
              cases b
              · have hS := HC.out.elim (fun h => h.2) (fun h => h.elim (fun h => by cases h.1) (fun h => by cases h.1))
                have HS := Lib.hid hS
                clear hS
                go_wp2
                go_roundw
                case rel => exact ⟨j + 1, s', l, updF f κ ⟨.take p', tb⟩, by go_num, by omega, ((hW3.setA hA _ _).setA hA _ _).setA hA _ _, ((hB3.set _ _ rfl).set _ _ rfl).set _ _ (cells3_set f ⟨.take p', tb⟩ rfl rfl rfl κ hκ), by rw [updF_ts]; exact HS.out, by omega⟩
                case measure => simp [intOf]; omega
              · rcases HC.out with h | ⟨_, hpo, hS⟩ | ⟨_, hpo, hp0, hp1, l', hS⟩
                · cases h.1
                · have htsl : Calls Try.prog 66 #[.pointer (some ⟨tb, 0, none⟩)] w3 fun e w' => e = .returned (.tuple #[.int .i64 0, .bool false]) ∧ w3 = w' := by
                    have := tslot_any _ _ hP3
                    rw [hpo] at this
                    exact this
                  have HS := Lib.hid (hS ⟨0, 0, 0, 0, false⟩ rfl rfl)
                  clear hS hpo
                  go_wp2_with (first | (go_at_call 66; with_reducible refine htsl.mono ?_; rintro e w' ⟨rfl, rfl⟩))
                  go_roundw
                  case rel =>
                    refine ⟨j + 1, s', l, updF f κ ⟨.take ⟨0, 0, 0, 0, false⟩, w3.heap.size⟩, by go_num, by omega, ?_, ((((hB3.other _ _ (by simp only; omega)).set _ _ rfl).set _ _ rfl).set _ _ (cells3_set f ⟨.take ⟨0, 0, 0, 0, false⟩, w3.heap.size⟩ rfl rfl rfl κ hκ)).alloc _, by rw [updF_ts]; exact HS.out, by omega⟩
                    have := ((((hW3.setX xb hxm (by omega) hxu hxz 0 (.pointer (some ⟨w3.heap.size, 0, none⟩))).setA hA (κ * 3) (.pointer (some ⟨w3.heap.size, 0, none⟩))).setA hA (κ * 3 + 1) (.pointer none)).setA hA (κ * 3 + 2) (.int .i64 (-1))).fresh (ts' := .take ⟨0, 0, 0, 0, false⟩) hκ (by simpa using hB3.lt) (.cells #[.int .i64 0, .int .u64 0, .int .i64 0, .int .i64 0, .bool false] 72) (b := w3.heap.size) (by simp) (Blk.new' (by simp) rfl)
                    rw [updF_updF] at this
                    exact this
                  case measure => simp [intOf]; omega
                · have htsl : Calls Try.prog 66 #[.pointer (some ⟨tb, 0, none⟩)] w3 fun e w' => e = .returned (.tuple #[.int .i64 p'.slot, .bool true]) ∧ w3 = w' := by
                    have := tslot_any _ _ hP3
                    rw [hpo] at this
                    exact this
                  have hSq := hS ⟨0, p'.slot, 0⟩ rfl rfl rfl
                  have hvn : ∀ i, i < 3 → ((f i).hv == p'.slot) = false := fun i hi => by
                    by_cases hik : i = κ
                    · subst hik
                      have : (f i).hv = -1 := by rw [HFK.out]; rfl
                      rw [this]
                      simp only [beq_eq_false_iff_ne, ne_eq]
                      omega
                    · have h1 := hSq.ds κ i hκ hi (Ne.symm hik) p'.slot (by rw [updT_at]; rfl)
                      rw [updT_ne _ _ _ _ hik] at h1
                      rcases hfi : f i with ⟨ts2, b2⟩
                      rw [hfi] at h1
                      cases ts2 with
                      | take p2 =>
                        show ((-1 : Int) == p'.slot) = false
                        simp only [beq_eq_false_iff_ne, ne_eq]
                        omega
                      | give p2 =>
                        show (p2.slot == p'.slot) = false
                        simp only [beq_eq_false_iff_ne, ne_eq]
                        exact fun hh => h1 (congrArg some hh)
                  have hv0 := hvn 0 (by decide)
                  have hv1 := hvn 1 (by decide)
                  have hv2 := hvn 2 (by decide)
                  have hc2 : w3.cell? ⟨w2.heap.size, 2, none⟩ = some (.int .i64 (f 0).hv) := (hB3.cell _).trans (cells3_get f 0 (by decide)).2.2
                  have hc5 : w3.cell? ⟨w2.heap.size, 5, none⟩ = some (.int .i64 (f 1).hv) := (hB3.cell _).trans (cells3_get f 1 (by decide)).2.2
                  have hc8 : w3.cell? ⟨w2.heap.size, 8, none⟩ = some (.int .i64 (f 2).hv) := (hB3.cell _).trans (cells3_get f 2 (by decide)).2.2
                  have HS := Lib.hid hSq
                  clear hS hpo hvn hSq
                  go_wp2_with (first | (go_at_call 66; with_reducible refine htsl.mono ?_; rintro e w' ⟨rfl, rfl⟩))
                  refine wp_loop_rounds 4 ?_
                  rw [rounds_succ]
                  go_wp2
                  rw [rounds_succ]
                  go_wp2
                  rw [rounds_succ]
                  go_wp2
                  rw [rounds_succ]
                  go_wp2_with (first | (go_at_call 77; refine (newgive_any _ _).mono ?_; rintro e w' ⟨rfl, rfl⟩))
                  go_roundw
                  case rel =>
                    refine ⟨j + 1, s', l', updF f κ ⟨.give ⟨0, p'.slot, 0⟩, w3.heap.size⟩, by go_num, by omega, ?_, ((((((hB3.other _ _ (by simp only; omega)).other _ _ (by simp only; omega)).other _ _ (by simp only; omega)).set _ _ rfl).set _ _ rfl).set _ _ (cells3_set f ⟨.give ⟨0, p'.slot, 0⟩, w3.heap.size⟩ rfl rfl rfl κ hκ)).alloc _, by rw [updF_ts]; exact HS.out, by omega⟩
                    have := ((((((hW3.setX xb hxm (by omega) hxu hxz 0 (.pointer none)).setX xb hxm (by omega) hxu hxz 1 (.pointer (some ⟨w3.heap.size, 0, none⟩))).setX xb hxm (by omega) hxu hxz 2 (.int .i64 p'.slot)).setA hA (κ * 3) (.pointer none)).setA hA (κ * 3 + 1) (.pointer (some ⟨w3.heap.size, 0, none⟩))).setA hA (κ * 3 + 2) (.int .i64 p'.slot)).fresh (ts' := .give ⟨0, p'.slot, 0⟩) hκ (by simpa using hB3.lt) (.cells (⟨0, p'.slot, 0⟩ : GiveS).cs 142) (b := w3.heap.size) (by simp) (Blk.new' (by simp) rfl)
                    rw [updF_updF] at this
                    exact this
                  case measure => simp [intOf]; omega
        · by_cases h360 : 360 < j
          · skip
            have hBc : ∀ o, wr.cell? ⟨w2.heap.size, o, none⟩ = (#[(f 0).tp, (f 0).gp, .int .i64 (f 0).hv, (f 1).tp, (f 1).gp, .int .i64 (f 1).hv, (f 2).tp, (f 2).gp, .int .i64 (f 2).hv] : Array Value)[o]? := hB.cell
            have HS := Lib.hid hS
            have htn1 : topN (s.at 1) ≤ 1000 := by omega
            have HTN := Lib.hid htn1
            clear hS htn htn1
            go_wp2_with fail
            refine (free_any a ha hW hA HS.out HTN.out).mono ?_
            rintro e w3 ⟨rfl, ho3⟩
            go_wp2
            go_ret
            exact ⟨rfl, ho3⟩
          · obtain ⟨κ, hκ, hk3⟩ := tmod3n j
            rcases hfk : f κ with ⟨ts, tb⟩
            have hget := cells3_get f κ hκ
            have hOk := hW.ths κ hκ
            have hnb := hW.nb κ hκ
            have hFts : (fun i => (f i).ts) κ = ts := by show (f κ).ts = ts; rw [hfk]
            have hTk : TOk (kS 4 (1 + (a : Int))) (1 + a) s l ts := hFts ▸ hS.ok κ hκ
            rw [hfk] at hget hOk hnb
            simp only at hnb
            obtain ⟨nb0, nb1, nb2, nb3⟩ := hnb
            obtain ⟨g0, g1, g2⟩ := hget
            have n1 : tb ≠ m.b := by simp only [List.mem_cons, List.not_mem_nil, or_false, not_or] at nb1; omega
            have n2 : tb ≠ m.wb := by simp only [List.mem_cons, List.not_mem_nil, or_false, not_or] at nb1; omega
            have n3 : tb ≠ m.hb := by simp only [List.mem_cons, List.not_mem_nil, or_false, not_or] at nb1; omega
            have hlt := hOk.lt
            simp only at hlt
            obtain ⟨xb, hxb⟩ : ∃ xb, wr.heap.size = xb := ⟨_, rfl⟩
            have hxl := hW.ew.mem.lts
            have hxe := hW.ew.env.lt
            have hxa := hB.lt
            have hxz := hW.ew.only.size
            have hxt : ∀ i, i < 3 → (f i).b < xb := fun i hi => by have := (hW.ths i hi).lt; omega
            obtain ⟨hxl1, hxl2, hxl3⟩ := hxl
            rw [hxb] at hlt hxl1 hxl2 hxl3 hxe hxa hxz
            have hxm : xb ∉ m.l := by simp only [List.mem_cons, List.not_mem_nil, or_false, not_or]; omega
            have hxn : xb ∉ [m.b, m.wb, m.hb, tb] := by simp only [List.mem_cons, List.not_mem_nil, or_false, not_or]; omega
            have han : w2.heap.size ∉ [m.b, m.wb, m.hb, tb] := by
              have := hA.a1
              simp only [List.mem_cons, List.not_mem_nil, or_false, not_or] at this ⊢; omega
            cases ts with
            | give p =>
              have h0 : wr.cell? ⟨w2.heap.size, κ * 3, none⟩ = some (.pointer none) := (hB.cell _).trans g0
              have h1 : wr.cell? ⟨w2.heap.size, κ * 3 + 1, none⟩ = some (.pointer (some ⟨tb, 0, none⟩)) := (hB.cell _).trans g1
              have h2 : wr.cell? ⟨w2.heap.size, κ * 3 + 2, none⟩ = some (.int .i64 p.slot) := (hB.cell _).trans g2
              have hX : Blk (wr.alloc (.cells #[.pointer none, .pointer (some ⟨tb, 0, none⟩), .int .i64 p.slot] 92)) xb #[.pointer none, .pointer (some ⟨tb, 0, none⟩), .int .i64 p.slot] 92 := Blk.new' hxb.symm rfl
              have hWa := hW.alloc (.cells #[.pointer none, .pointer (some ⟨tb, 0, none⟩), .int .i64 p.slot] 92)
              have hBa := hB.alloc (.cells #[.pointer none, .pointer (some ⟨tb, 0, none⟩), .int .i64 p.slot] 92)
              have hPa := Blk.alloc (show Blk wr tb p.cs 142 from hOk) (.cells #[.pointer none, .pointer (some ⟨tb, 0, none⟩), .int .i64 p.slot] 92)
              have hpc : p.pc = 0 ∨ p.pc = 1 ∨ p.pc = 2 := by
                rcases hTk.2.2.2.2 with h | ⟨h, _⟩
                · exact .inl h
                · exact .inr h
              have hps0 := hTk.1
              have hps1 : p.slot < 131072 := by have := hTk.2.1; omega
              have hpU := hTk.2.2.2.1
              rcases hst : giveStep (kS 4 (1 + (a : Int))) 0 s p with ⟨b, s', p'⟩
              obtain ⟨ht1, hps, hcase⟩ := hS.gives HK.out (by omega) hκ hFts (hW.ew.mem.at_rng 1) (by omega) hst
              have HST := Lib.hid hst
              have HC := Lib.hid hcase
              have HS := Lib.hid hS
              have HPC := Lib.hid hpc
              have HFK := Lib.hid hfk
              have HPS := Lib.hid hps
              have HP1 := Lib.hid hps1
              have G0 := Lib.hid g0
              have G1 := Lib.hid g1
              have G2 := Lib.hid g2
              have hEa := hWa.ew.env.cell
              clear hst hcase hS hpc hTk hOk g0 g1 g2 hfk hFts hW hB hps hps1
              go_wp2_with fail
              refine (give_step (kS 4 (1 + (a : Int))) 0 p tb HST.out hWa.ew.mem hPa HPC.out hpU hps0 HP1.out n1 n2 n3).mono ?_
              rintro e w3 ⟨rfl, h31, h32, h33⟩
              have hW3 := hWa.step hA hκ (congrArg Th.b HFK.out) h31 (ts' := .give p') h32 h33
              have hX3 := hX.only h33 hxn
              have hB3 := hBa.only h33 han
              have hxu : ∀ i, i < 3 → xb ≠ (updF f κ ⟨.give p', tb⟩ i).b := fun i hi hh => by
                have h5 := hxt i hi
                unfold updF at hh
                split at hh
                · simp only at hh; omega
                · omega
              clear hWa hX hBa hPa h31 h32 h33 hEa hEc h0 h1 h2
              have hXc := hX3.cell
              have hXf := hX3.frozen
              have hBf := hB3.frozen
              have hx3 : xb < w3.heap.size := hX3.lt
              have ha3 : w2.heap.size < w3.heap.size := hB3.lt
              have hb0 : w3.cell? ⟨w2.heap.size, κ * 3, none⟩ = some (.pointer none) := (hB3.cell _).trans G0.out
              have hb1 : w3.cell? ⟨w2.heap.size, κ * 3 + 1, none⟩ = some (.pointer (some ⟨tb, 0, none⟩)) := (hB3.cell _).trans G1.out
              have hb2 : w3.cell? ⟨w2.heap.size, κ * 3 + 2, none⟩ = some (.int .i64 p.slot) := (hB3.cell _).trans G2.out
              cases b
              · have HS := Lib.hid (HC.out.elim (fun h => h.2) (fun h => by cases h.1))
                go_wp2
                go_roundw
                case rel => exact ⟨j + 1, s', l, updF f κ ⟨.give p', tb⟩, by go_num, by omega, ((hW3.setA hA _ _).setA hA _ _).setA hA _ _, ((hB3.set _ _ rfl).set _ _ rfl).set _ _ (cells3_set f ⟨.give p', tb⟩ rfl rfl (by show Value.int .i64 p.slot = .int .i64 p'.slot; rw [HPS.out]) κ hκ), by rw [updF_ts]; exact HS.out, by omega⟩
                case measure => simp [intOf]; omega
              · have HS := Lib.hid (HC.out.elim (fun h => by cases h.1) (fun h => h.2 ⟨0, 0, 0, 0, false⟩ rfl rfl))
                go_wp2
                go_roundw
                case rel =>
                  refine ⟨j + 1, s', p.slot :: l, updF f κ ⟨.take ⟨0, 0, 0, 0, false⟩, w3.heap.size⟩, by go_num, by omega, ?_, ((((((hB3.other _ _ (by simp only; omega)).other _ _ (by simp only; omega)).other _ _ (by simp only; omega)).set _ _ rfl).set _ _ rfl).set _ _ (cells3_set f ⟨.take ⟨0, 0, 0, 0, false⟩, w3.heap.size⟩ rfl rfl rfl κ hκ)).alloc _, by rw [updF_ts]; exact HS.out, by omega⟩
                  have := ((((((hW3.setX xb hxm (by omega) hxu hxz 0 (.pointer (some ⟨w3.heap.size, 0, none⟩))).setX xb hxm (by omega) hxu hxz 1 (.pointer none)).setX xb hxm (by omega) hxu hxz 2 (.int .i64 (-1))).setA hA (κ * 3) (.pointer (some ⟨w3.heap.size, 0, none⟩))).setA hA (κ * 3 + 1) (.pointer none)).setA hA (κ * 3 + 2) (.int .i64 (-1))).fresh (ts' := .take ⟨0, 0, 0, 0, false⟩) hκ (by simpa using hB3.lt) (.cells #[.int .i64 0, .int .u64 0, .int .i64 0, .int .i64 0, .bool false] 72) (b := w3.heap.size) (by simp) (Blk.new' (by simp) rfl)
                  rw [updF_updF] at this
                  exact this
                case measure => simp [intOf]; omega
            | take p =>
              have h0 : wr.cell? ⟨w2.heap.size, κ * 3, none⟩ = some (.pointer (some ⟨tb, 0, none⟩)) := (hB.cell _).trans g0
              have h1 : wr.cell? ⟨w2.heap.size, κ * 3 + 1, none⟩ = some (.pointer none) := (hB.cell _).trans g1
              have h2 : wr.cell? ⟨w2.heap.size, κ * 3 + 2, none⟩ = some (.int .i64 (-1)) := (hB.cell _).trans g2
              have hX : Blk (wr.alloc (.cells #[.pointer (some ⟨tb, 0, none⟩), .pointer none, .int .i64 (-1)] 92)) xb #[.pointer (some ⟨tb, 0, none⟩), .pointer none, .int .i64 (-1)] 92 := Blk.new' hxb.symm rfl
              have hWa := hW.alloc (.cells #[.pointer (some ⟨tb, 0, none⟩), .pointer none, .int .i64 (-1)] 92)
              have hBa := hB.alloc (.cells #[.pointer (some ⟨tb, 0, none⟩), .pointer none, .int .i64 (-1)] 92)
              have hPa := Blk.alloc (show Blk wr tb p.cs 72 from hOk) (.cells #[.pointer (some ⟨tb, 0, none⟩), .pointer none, .int .i64 (-1)] 92)
              have hpc : p.pc = 0 ∨ p.pc = 1 ∨ (p.pc = 2 ∧ U64 p.top ∧ -1 ≤ p.next ∧ p.next < 131072) := by
                rcases hTk.2 with h | ⟨h | h, h3, _, _, _, h4⟩
                · exact .inl h
                · exact .inr (.inl h)
                · exact .inr (.inr ⟨h, h3, (h4 h).1, (h4 h).2.1⟩)
              rcases hst : takeStep (kS 4 (1 + (a : Int))) 0 s p with ⟨b, s', p'⟩
              obtain ⟨ht1, hcase⟩ := hS.takes HK.out (by omega) hκ hFts (hW.ew.mem.at_rng 1) (by omega) hst
              have HST := Lib.hid hst
              have HC := Lib.hid hcase
              have HS := Lib.hid hS
              have HPC := Lib.hid hpc
              have HFK := Lib.hid hfk
              have G0 := Lib.hid g0
              have G1 := Lib.hid g1
              have G2 := Lib.hid g2
              have hEa := hWa.ew.env.cell
              clear hst hcase hS hpc hTk hOk g0 g1 g2 hfk hFts hW hB
              go_wp2_with fail
              refine (take_step (kS 4 (1 + (a : Int))) 0 p tb HST.out hWa.ew.mem hPa HPC.out n1 n2 n3).mono ?_
              rintro e w3 ⟨rfl, h31, h32, h33⟩
              have hW3 := hWa.step hA hκ (congrArg Th.b HFK.out) h31 (ts' := .take p') h32 h33
              have hX3 := hX.only h33 hxn
              have hB3 := hBa.only h33 han
              have hP3 := h32
              have hxu : ∀ i, i < 3 → xb ≠ (updF f κ ⟨.take p', tb⟩ i).b := fun i hi hh => by
                have h5 := hxt i hi
                unfold updF at hh
                split at hh
                · simp only at hh; omega
                · omega
              clear hWa hX hBa hPa h31 h32 h33 hEa hEc h0 h1 h2
              have hXc := hX3.cell
              have hXf := hX3.frozen
              have hBf := hB3.frozen
              have hx3 : xb < w3.heap.size := hX3.lt
              have ha3 : w2.heap.size < w3.heap.size := hB3.lt
              have hb0 : w3.cell? ⟨w2.heap.size, κ * 3, none⟩ = some (.pointer (some ⟨tb, 0, none⟩)) := (hB3.cell _).trans G0.out
              have hb1 : w3.cell? ⟨w2.heap.size, κ * 3 + 1, none⟩ = some (.pointer none) := (hB3.cell _).trans G1.out
              have hb2 : w3.cell? ⟨w2.heap.size, κ * 3 + 2, none⟩ = some (.int .i64 (-1)) := (hB3.cell _).trans G2.out
              cases b
              · have hS := HC.out.elim (fun h => h.2) (fun h => h.elim (fun h => by cases h.1) (fun h => by cases h.1))
                have HS := Lib.hid hS
                clear hS
                go_wp2
                go_roundw
                case rel => exact ⟨j + 1, s', l, updF f κ ⟨.take p', tb⟩, by go_num, by omega, ((hW3.setA hA _ _).setA hA _ _).setA hA _ _, ((hB3.set _ _ rfl).set _ _ rfl).set _ _ (cells3_set f ⟨.take p', tb⟩ rfl rfl rfl κ hκ), by rw [updF_ts]; exact HS.out, by omega⟩
                case measure => simp [intOf]; omega
              · rcases HC.out with h | ⟨_, hpo, hS⟩ | ⟨_, hpo, hp0, hp1, l', hS⟩
                · cases h.1
                · have htsl : Calls Try.prog 66 #[.pointer (some ⟨tb, 0, none⟩)] w3 fun e w' => e = .returned (.tuple #[.int .i64 0, .bool false]) ∧ w3 = w' := by
                    have := tslot_any _ _ hP3
                    rw [hpo] at this
                    exact this
                  have HS := Lib.hid (hS ⟨0, 0, 0, 0, false⟩ rfl rfl)
                  clear hS hpo
                  go_wp2_with (first | (go_at_call 66; with_reducible refine htsl.mono ?_; rintro e w' ⟨rfl, rfl⟩))
                  go_roundw
                  case rel =>
                    refine ⟨j + 1, s', l, updF f κ ⟨.take ⟨0, 0, 0, 0, false⟩, w3.heap.size⟩, by go_num, by omega, ?_, ((((hB3.other _ _ (by simp only; omega)).set _ _ rfl).set _ _ rfl).set _ _ (cells3_set f ⟨.take ⟨0, 0, 0, 0, false⟩, w3.heap.size⟩ rfl rfl rfl κ hκ)).alloc _, by rw [updF_ts]; exact HS.out, by omega⟩
                    have := ((((hW3.setX xb hxm (by omega) hxu hxz 0 (.pointer (some ⟨w3.heap.size, 0, none⟩))).setA hA (κ * 3) (.pointer (some ⟨w3.heap.size, 0, none⟩))).setA hA (κ * 3 + 1) (.pointer none)).setA hA (κ * 3 + 2) (.int .i64 (-1))).fresh (ts' := .take ⟨0, 0, 0, 0, false⟩) hκ (by simpa using hB3.lt) (.cells #[.int .i64 0, .int .u64 0, .int .i64 0, .int .i64 0, .bool false] 72) (b := w3.heap.size) (by simp) (Blk.new' (by simp) rfl)
                    rw [updF_updF] at this
                    exact this
                  case measure => simp [intOf]; omega
                · have htsl : Calls Try.prog 66 #[.pointer (some ⟨tb, 0, none⟩)] w3 fun e w' => e = .returned (.tuple #[.int .i64 p'.slot, .bool true]) ∧ w3 = w' := by
                    have := tslot_any _ _ hP3
                    rw [hpo] at this
                    exact this
                  have hSq := hS ⟨0, p'.slot, 0⟩ rfl rfl rfl
                  have hvn : ∀ i, i < 3 → ((f i).hv == p'.slot) = false := fun i hi => by
                    by_cases hik : i = κ
                    · subst hik
                      have : (f i).hv = -1 := by rw [HFK.out]; rfl
                      rw [this]
                      simp only [beq_eq_false_iff_ne, ne_eq]
                      omega
                    · have h1 := hSq.ds κ i hκ hi (Ne.symm hik) p'.slot (by rw [updT_at]; rfl)
                      rw [updT_ne _ _ _ _ hik] at h1
                      rcases hfi : f i with ⟨ts2, b2⟩
                      rw [hfi] at h1
                      cases ts2 with
                      | take p2 =>
                        show ((-1 : Int) == p'.slot) = false
                        simp only [beq_eq_false_iff_ne, ne_eq]
                        omega
                      | give p2 =>
                        show (p2.slot == p'.slot) = false
                        simp only [beq_eq_false_iff_ne, ne_eq]
                        exact fun hh => h1 (congrArg some hh)
                  have hv0 := hvn 0 (by decide)
                  have hv1 := hvn 1 (by decide)
                  have hv2 := hvn 2 (by decide)
                  have hc2 : w3.cell? ⟨w2.heap.size, 2, none⟩ = some (.int .i64 (f 0).hv) := (hB3.cell _).trans (cells3_get f 0 (by decide)).2.2
                  have hc5 : w3.cell? ⟨w2.heap.size, 5, none⟩ = some (.int .i64 (f 1).hv) := (hB3.cell _).trans (cells3_get f 1 (by decide)).2.2
                  have hc8 : w3.cell? ⟨w2.heap.size, 8, none⟩ = some (.int .i64 (f 2).hv) := (hB3.cell _).trans (cells3_get f 2 (by decide)).2.2
                  have HS := Lib.hid hSq
                  clear hS hpo hvn hSq
                  go_wp2_with (first | (go_at_call 66; with_reducible refine htsl.mono ?_; rintro e w' ⟨rfl, rfl⟩))
                  refine wp_loop_rounds 4 ?_
                  rw [rounds_succ]
                  go_wp2
                  rw [rounds_succ]
                  go_wp2
                  rw [rounds_succ]
                  go_wp2
                  rw [rounds_succ]
                  go_wp2_with (first | (go_at_call 77; refine (newgive_any _ _).mono ?_; rintro e w' ⟨rfl, rfl⟩))
                  go_roundw
                  case rel =>
                    refine ⟨j + 1, s', l', updF f κ ⟨.give ⟨0, p'.slot, 0⟩, w3.heap.size⟩, by go_num, by omega, ?_, ((((((hB3.other _ _ (by simp only; omega)).other _ _ (by simp only; omega)).other _ _ (by simp only; omega)).set _ _ rfl).set _ _ rfl).set _ _ (cells3_set f ⟨.give ⟨0, p'.slot, 0⟩, w3.heap.size⟩ rfl rfl rfl κ hκ)).alloc _, by rw [updF_ts]; exact HS.out, by omega⟩
                    have := ((((((hW3.setX xb hxm (by omega) hxu hxz 0 (.pointer none)).setX xb hxm (by omega) hxu hxz 1 (.pointer (some ⟨w3.heap.size, 0, none⟩))).setX xb hxm (by omega) hxu hxz 2 (.int .i64 p'.slot)).setA hA (κ * 3) (.pointer none)).setA hA (κ * 3 + 1) (.pointer (some ⟨w3.heap.size, 0, none⟩))).setA hA (κ * 3 + 2) (.int .i64 p'.slot)).fresh (ts' := .give ⟨0, p'.slot, 0⟩) hκ (by simpa using hB3.lt) (.cells (⟨0, p'.slot, 0⟩ : GiveS).cs 142) (b := w3.heap.size) (by simp) (Blk.new' (by simp) rfl)
                    rw [updF_updF] at this
                    exact this
                  case measure => simp [intOf]; omega
    · skip
      have hBc : ∀ o, wr.cell? ⟨w2.heap.size, o, none⟩ = (#[(f 0).tp, (f 0).gp, .int .i64 (f 0).hv, (f 1).tp, (f 1).gp, .int .i64 (f 1).hv, (f 2).tp, (f 2).gp, .int .i64 (f 2).hv] : Array Value)[o]? := hB.cell
      have HS := Lib.hid hS
      have htn1 : topN (s.at 1) ≤ 1000 := by omega
      have HTN := Lib.hid htn1
      clear hS htn htn1
      go_wp2_with fail
      refine (free_any a ha hW hA HS.out HTN.out).mono ?_
      rintro e w3 ⟨rfl, ho3⟩
      go_wp2
      go_ret
      exact ⟨rfl, ho3⟩

end Go.Proofs.Yteoimmjgnflmmaa
