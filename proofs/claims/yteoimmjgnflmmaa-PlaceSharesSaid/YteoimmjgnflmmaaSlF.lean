/-
  At the end: are all slots free, each once, but those that somebody has?
-/
import Derived.Test.YteoimmjgnflmmaaSlT
namespace Go.Proofs.Yteoimmjgnflmmaa
open Go.RowKit Go.BigFrame

def bools (l : List Bool) : Array Value := (l.map Value.bool).toArray
theorem bools_get (l : List Bool) (i : Nat) (h : i < l.length) : (bools l)[i]? = some (.bool (l.getD i false)) := by
  simp [bools, List.getD, h]
theorem bools_set (l : List Bool) (i : Nat) (v : Bool) : (bools l).setIfInBounds i (.bool v) = bools (l.set i v) := by
  apply Array.ext'
  simp [bools, List.map_set]
theorem made_bool (n : Nat) : madeCells (Value.bool false).cells n = bools (List.replicate n false) := by
  apply Array.ext'
  simp [madeCells, bools, Value.cells]
  apply List.ext_getElem
  · simp
  · intro i h1 h2
    simp [Nat.mod_one]
theorem run_make56 (n : Nat) (hn : n ≤ 1048576) : ∀ w : World, (Instr.makeSlice 56 (.int .i64 (n : Int)) (.int .i64 (n : Int))).run Try.prog w = .ok (.slice (some ⟨w.heap.size, 0, none⟩) n n) (w.alloc (.cells (bools (List.replicate n false)) 4)) := by
  intro w
  obtain ⟨i0, hi, hz0, hz1, hz2⟩ := info_parts Try.info4
  have h := run_make (P := Try.prog) w 56 4 i0 (.bool false) Try.underlying56 hi hz0 .i64 .i64 n n (by omega) (by omega) (by rw [hz2]; omega) (by omega)
  rw [h, hz1, Nat.mul_one, Int.toNat_natCast, made_bool]

/-- How many steps somebody who gives has before them, alone. -/
def gr (s : MS) (p : GiveS) : Nat := if p.pc = 0 then 3 else if p.pc = 1 then (if s.at 1 = p.top then 2 else 5) else (if s.at 1 = p.top then 1 else 4)
theorem gr_le (s : MS) (p : GiveS) : 1 ≤ gr s p ∧ gr s p ≤ 5 := by unfold gr; split <;> (try split) <;> (try split) <;> omega
theorem give_rank {k : Cfg} {n : Nat} {wh : Int} {s s' : MS} {l : List Int} {p p' : GiveS} (hk : k.Ok) (hn : n ≤ 65536) (hf : Fr k n s l) (h : TOk k n s l (.give p)) (hst : giveStep k wh s p = (false, s', p')) : gr s' p' + 1 ≤ gr s p := by
  have h1 := hf.ok1 hk
  have h1' : (s.by wh).ok 1 := h1
  have hg := get_ok s 1 h1
  obtain ⟨h2, h3, h4, h5, h6⟩ := h
  have hL0 := hf.okL hk hn h2 h3
  have hL : (s.by wh).ok (aLink k p.slot) := hL0
  have e := aLink_ok hk h2 (by omega)
  have ht0 := hk.t0
  unfold giveStep at hst
  by_cases c0 : p.pc = 0
  · rw [if_pos c0, hg] at hst
    simp only [Prod.mk.injEq] at hst
    obtain ⟨_, rfl, rfl⟩ := hst
    unfold gr
    rw [load_at, by_at]
    simp [c0]
  · rw [if_neg c0] at hst
    by_cases c1 : p.pc = 1
    · rw [if_pos c1] at hst
      simp only [Prod.mk.injEq] at hst
      obtain ⟨_, hs', rfl⟩ := hst
      have h1e : s'.at 1 = s.at 1 := by rw [← hs', store_at _ _ _ _ hL (by decide), if_neg (by omega)]; rfl
      unfold gr
      rw [h1e]
      simp only [c1]
      by_cases he : s.at 1 = p.top
      · simp [he]
      · simp [he]
    · rw [if_neg c1] at hst
      simp only [Prod.mk.injEq] at hst
      obtain ⟨hb, hs', hp'⟩ := hst
      have hne : ¬ s.at 1 = p.top := fun he => by
        have : s.can 1 p.top = true := by unfold MS.can; exact decide_eq_true ⟨h1, he⟩
        rw [this] at hb; cases hb
      rw [← hp']
      unfold gr
      simp [c0, c1, hne]

theorem isSome_zero {f : Nat → TS} {l : List Int} {n : Nat} (h : l.length + ((f 0).own.isSome.toNat + (f 1).own.isSome.toNat + (f 2).own.isSome.toNat) = n) (h0 : ∀ i, i < 3 → (f i).own = none) : l.length = n := by
  rw [h0 0 (by decide), h0 1 (by decide), h0 2 (by decide)] at h
  simpa using h

set_option maxRecDepth 100000 in
set_option maxHeartbeats 3200000 in
theorem free_any (a : Nat) (ha : a < 4) {w0 w : World} {m : MB} {eb0 ab0 : Nat} {s : MS} {f : Nat → Th} {l : List Int} (hW0 : SW w0 w m (kS 4 (1 + (a : Int))) 0 eb0 ab0 s f) (hA0 : SA w0 m eb0 ab0) (hY : Sys (kS 4 (1 + (a : Int))) (1 + a) s l (fun i => (f i).ts)) (htn : topN (s.at 1) ≤ 1000) :
    Calls Try.prog 78 #[.agg #[.int .i64 (kS 4 (1 + (a : Int))).t, .int .i64 (kS 4 (1 + (a : Int))).s, .int .i64 (kS 4 (1 + (a : Int))).c, .int .i64 (kS 4 (1 + (a : Int))).w, .int .i64 (kS 4 (1 + (a : Int))).g, .int .i64 (kS 4 (1 + (a : Int))).p, .int .i64 (kS 4 (1 + (a : Int))).r, .pointer (some ⟨m.b, 0, none⟩), .int .i64 0], .int .i64 (1 + (a : Int)), .agg (cells3 f)] w fun e w' => e = .returned (.bool true) ∧ Only [] w0 w' := by
  have hk : (kS 4 (1 + (a : Int))).Ok := kS_ok (by decide) (by decide) (by omega) (by omega)
  have HK := Lib.hid hk
  have HY := Lib.hid hY
  have HT := Lib.hid htn
  have hz0 := hW0.ew.only.size
  obtain ⟨l1, l2, l3⟩ := hW0.ew.mem.lts
  have hnm : w.heap.size ∉ m.l := hW0.ew.mem.notin (Nat.le_refl _)
  have hnm1 : w.heap.size + 1 ∉ m.l := hW0.ew.mem.notin (Nat.le_succ _)
  have hlm : ∀ x, x ∈ m.l → x < w0.heap.size → x ∈ ([] : List Nat) := fun x hx hlt => by
    have := hA0.b; have := hA0.wb; have := hA0.hb
    simp only [List.mem_cons, List.not_mem_nil, or_false] at hx; omega
  have hbl : ∀ i, i < 3 → (f i).b < w.heap.size := fun i hi => (hW0.ths i hi).lt
  have hnb : ∀ i, i < 3 → w0.heap.size ≤ (f i).b ∧ (f i).b ∉ m.l := fun i hi => ⟨(hW0.nb i hi).1, (hW0.nb i hi).2.1⟩
  have hE : EW w0 ((w.alloc (.cells #[.int .i64 (kS 4 (1 + (a : Int))).t, .int .i64 (kS 4 (1 + (a : Int))).s, .int .i64 (kS 4 (1 + (a : Int))).c, .int .i64 (kS 4 (1 + (a : Int))).w, .int .i64 (kS 4 (1 + (a : Int))).g, .int .i64 (kS 4 (1 + (a : Int))).p, .int .i64 (kS 4 (1 + (a : Int))).r, .pointer (some ⟨m.b, 0, none⟩), .int .i64 0] 47)).alloc (.cells (cells3 f) 93)) m (kS 4 (1 + (a : Int))) 0 w.heap.size s := ⟨(hW0.ew.mem.alloc _).alloc _, (Blk.new w _ 47).alloc _, (hW0.ew.only.alloc _).alloc _⟩
  have hB : Blk ((w.alloc (.cells #[.int .i64 (kS 4 (1 + (a : Int))).t, .int .i64 (kS 4 (1 + (a : Int))).s, .int .i64 (kS 4 (1 + (a : Int))).c, .int .i64 (kS 4 (1 + (a : Int))).w, .int .i64 (kS 4 (1 + (a : Int))).g, .int .i64 (kS 4 (1 + (a : Int))).p, .int .i64 (kS 4 (1 + (a : Int))).r, .pointer (some ⟨m.b, 0, none⟩), .int .i64 0] 47)).alloc (.cells (cells3 f) 93)) (w.heap.size + 1) (cells3 f) 93 := Blk.new' (by simp) rfl
  have hth : ∀ i, i < 3 → (f i).Ok ((w.alloc (.cells #[.int .i64 (kS 4 (1 + (a : Int))).t, .int .i64 (kS 4 (1 + (a : Int))).s, .int .i64 (kS 4 (1 + (a : Int))).c, .int .i64 (kS 4 (1 + (a : Int))).w, .int .i64 (kS 4 (1 + (a : Int))).g, .int .i64 (kS 4 (1 + (a : Int))).p, .int .i64 (kS 4 (1 + (a : Int))).r, .pointer (some ⟨m.b, 0, none⟩), .int .i64 0] 47)).alloc (.cells (cells3 f) 93)) := fun i hi => ((hW0.alloc _).alloc _).ths i hi
  have hdd := hW0.dd
  have HD := Lib.hid hdd
  have HN := Lib.hid hnb
  have HB := Lib.hid hbl
  clear hk hY htn hW0 hdd hnb hbl
  go_enter Try.func78, Try.ntmps78
  go_wp2
  go_loopw [7] (fun i wr => ∃ (q : Nat) (s : MS) (l : List Int) (F : Nat → TS) (cs : Array Value), i = .int .i64 q ∧ q ≤ 3 ∧ EW w0 wr m (kS 4 (1 + (a : Int))) 0 w.heap.size s ∧ Blk wr (w.heap.size + 1) cs 93 ∧ cs.size = 9 ∧ (∀ i, q ≤ i → i < 3 → cs[i * 3 + 1]? = some (f i).gp ∧ F i = (f i).ts ∧ (f i).Ok wr) ∧ (∀ i, i < q → (F i).own = none) ∧ Sys (kS 4 (1 + (a : Int))) (1 + a) s l F ∧ topN (s.at 1) ≤ 1000 + 6 * q) (fun i _ => 3 - (intOf i).toNat)
  case atStart => exact ⟨0, s, l, _, _, rfl, by omega, hE, hB, rfl, fun i _ hi => ⟨(cells3_get f i hi).2.1, rfl, hth i hi⟩, fun i hi => by omega, HY.out, by have := HT.out; omega⟩
  case round =>
    clear hE hB hth
    obtain ⟨q, s, l, F, cs, rfl, hq, hE, hB, hcs, hrest, hdone, hY, htn⟩ := hrel
    by_cases hq3 : q < 3
    · obtain ⟨hgp, hFq, hOk⟩ := hrest q (Nat.le_refl _) hq3
      rcases hfq : f q with ⟨ts, gb⟩
      rw [hfq] at hgp hFq hOk
      cases ts with
      | take p =>
        have hcell : wr.cell? ⟨w.heap.size + 1, q * 3 + 1, none⟩ = some (.pointer none) := (hB.cell _).trans hgp
        go_wp2
        refine wp_loop_rounds 1 ?_
        rw [rounds_succ]
        go_wp2
        go_roundw
        case rel => exact ⟨q + 1, s, l, F, cs, by go_num, by omega, hE, hB, hcs, fun i h1 h2 => hrest i (by omega) h2, fun i hi => by
          rcases Nat.lt_or_ge i q with h | h
          · exact hdone i h
          · rw [show i = q by omega, hFq]; rfl, hY, by omega⟩
        case measure => simp [intOf]; omega
      | give p =>
        have hT0 := hY.ok q hq3
        rw [hFq] at hT0
        have hcf := hB.frozen
        go_wp2
        go_loopw [8] (fun x wr => ∃ (i2 : Nat) (s : MS) (l : List Int) (F : Nat → TS) (cs : Array Value), x = .int .i64 i2 ∧ i2 ≤ 5 ∧ EW w0 wr m (kS 4 (1 + (a : Int))) 0 w.heap.size s ∧ Blk wr (w.heap.size + 1) cs 93 ∧ cs.size = 9 ∧ (∀ i, q < i → i < 3 → cs[i * 3 + 1]? = some (f i).gp ∧ F i = (f i).ts ∧ (f i).Ok wr) ∧ (∀ i, i < q → (F i).own = none) ∧ Sys (kS 4 (1 + (a : Int))) (1 + a) s l F ∧ topN (s.at 1) ≤ 1000 + 6 * q + i2 ∧ ((∃ p, F q = .give p ∧ Blk wr gb p.cs 142 ∧ cs[q * 3 + 1]? = some (.pointer (some ⟨gb, 0, none⟩)) ∧ i2 + gr s p ≤ 5) ∨ ((F q).own = none ∧ cs[q * 3 + 1]? = some (.pointer none)))) (fun x _ => 5 - (intOf x).toNat)
        case atStart => exact ⟨0, s, l, F, cs, rfl, by omega, hE, hB, hcs, fun i h1 h2 => hrest i (by omega) h2, hdone, hY, by omega, .inl ⟨p, hFq, hOk, hgp, by have := gr_le s p; omega⟩⟩
        case round =>
          clear hE hB hcs hrest hdone hY htn hgp hFq hOk hT0 hcf
          obtain ⟨i2, s, l, F, cs, rfl, hi2, hE, hB, hcs, hrest, hdone, hY, htn, hor⟩ := hrel
          rcases hor with ⟨p, hFq, hP, hgp, hgr⟩ | ⟨hown, hgp⟩
          · have hTk := hY.ok q hq3
            rw [hFq] at hTk
            have hk := HK.out
            have hge := (gr_le s p).1
            have hi40 : i2 < 40 := by omega
            have hps0 := hTk.1
            have hps1 : p.slot < 131072 := by have := hTk.2.1; omega
            have hpU := hTk.2.2.2.1
            have hpc : p.pc = 0 ∨ p.pc = 1 ∨ p.pc = 2 := by
              rcases hTk.2.2.2.2 with h | ⟨h, _⟩
              · exact .inl h
              · exact .inr h
            rcases hst : giveStep (kS 4 (1 + (a : Int))) 0 s p with ⟨b, s', p'⟩
            obtain ⟨hnb1, hnb2⟩ := HN.out q hq3
            rw [hfq] at hnb1 hnb2
            have hlt := HB.out q hq3
            rw [hfq] at hlt
            simp only at hnb1 hnb2 hlt
            have n1 : gb ≠ m.b := by simp only [List.mem_cons, List.not_mem_nil, or_false, not_or] at hnb2; omega
            have n2 : gb ≠ m.wb := by simp only [List.mem_cons, List.not_mem_nil, or_false, not_or] at hnb2; omega
            have n3 : gb ≠ m.hb := by simp only [List.mem_cons, List.not_mem_nil, or_false, not_or] at hnb2; omega
            have hrk : b = false → gr s' p' + 1 ≤ gr s p := fun hb => by
              subst hb
              exact give_rank hk (by omega) hY.fr hTk hst
            obtain ⟨ht1, hps, hcase⟩ := hY.gives hk (by omega) hq3 hFq (hE.mem.at_rng 1) (by omega) hst
            have hcell : wr.cell? ⟨w.heap.size + 1, q * 3 + 1, none⟩ = some (.pointer (some ⟨gb, 0, none⟩)) := (hB.cell _).trans hgp
            have hEc := hE.env.cell
            have hEd := hE.drew
            have hBd := hB.drew
            have hPd := hP.drew
            have hEdc := hEd.env.cell
            have hcelld : wr.drew.cell? ⟨w.heap.size + 1, q * 3 + 1, none⟩ = some (.pointer (some ⟨gb, 0, none⟩)) := hcell
            have hne1 : w.heap.size ∉ [m.b, m.wb, m.hb, gb] := by
              simp only [List.mem_cons, List.not_mem_nil, or_false, not_or]; omega
            have hne2 : w.heap.size + 1 ∉ [m.b, m.wb, m.hb, gb] := by
              simp only [List.mem_cons, List.not_mem_nil, or_false, not_or]; omega
            have hlm2 : ∀ x, x ∈ [m.b, m.wb, m.hb, gb] → x < w0.heap.size → x ∈ ([] : List Nat) := fun x hx hlt => by
              simp only [List.mem_cons, List.not_mem_nil, or_false] at hx
              have := hA0.b; have := hA0.wb; have := hA0.hb
              omega
            have hoth : ∀ i, q < i → i < 3 → (f i).b ∉ [m.b, m.wb, m.hb, gb] := fun i h1 h2 => by
              have h3 := (HN.out i h2).2
              have h4 := HD.out i q h2 hq3 (by omega)
              rw [hfq] at h4
              simp only [List.mem_cons, List.not_mem_nil, or_false, not_or] at h3 ⊢
              simp only at h4
              omega
            have HST := Lib.hid hst
            have HC := Lib.hid hcase
            have HR := Lib.hid hrk
            have HG := Lib.hid hrest
            have HF := Lib.hid hFq
            have HGP := Lib.hid hgp
            clear hst hcase hrk hTk hY hE hB hP hrest hFq hk hgp
            go_wp2
            first
              | go_region_held3 (fun w' => (∀ o, w'.cell? ⟨w.heap.size, o, none⟩ = (#[.int .i64 (kS 4 (1 + (a : Int))).t, .int .i64 (kS 4 (1 + (a : Int))).s, .int .i64 (kS 4 (1 + (a : Int))).c, .int .i64 (kS 4 (1 + (a : Int))).w, .int .i64 (kS 4 (1 + (a : Int))).g, .int .i64 (kS 4 (1 + (a : Int))).p, .int .i64 (kS 4 (1 + (a : Int))).r, .pointer (some ⟨m.b, 0, none⟩), .int .i64 0] : Array Value)[o]?) ∧ w'.cell? ⟨w.heap.size + 1, q * 3 + 1, none⟩ = some (.pointer (some ⟨gb, 0, none⟩))) (first | exact ⟨hEdc, hcelld⟩ | exact ⟨hE3c, hc3⟩)
                  (first
                    | (go_at_call 76; with_reducible refine (give_step (kS 4 (1 + (a : Int))) 0 p gb HST.out hEd.mem hPd hpc hpU hps0 hps1 n1 n2 n3).mono ?_; rintro e w3 ⟨rfl, h31, h32, h33⟩; have hE3 : EW w0 w3 m (kS 4 (1 + (a : Int))) 0 w.heap.size s' := ⟨h31, hEd.env.only h33 hne1, hEd.only.trans' h33 hlm2⟩; have hB3 := hBd.only h33 hne2; have hE3c := hE3.env.cell; have hc3 : w3.cell? ⟨w.heap.size + 1, q * 3 + 1, none⟩ = some (.pointer (some ⟨gb, 0, none⟩)) := (hB3.cell _).trans HGP.out))
              | fail "region"
            all_goals
              have hrest3 : ∀ i, q < i → i < 3 → (f i).Ok w3 := fun i h1 h2 => (HG.out i h1 h2).2.2.only ((Only.refl _ wr).drew.trans' h33 (fun _ h _ => h)) (hoth i h1 h2)
              have H3 := Lib.hid hrest3
              clear hrest3 hEd hBd hPd hEdc hcelld h31 h33 hEc hcell hoth
              have hcf := hB3.frozen
              cases b
              · have hS := HC.out.elim (fun h => h.2) (fun h => by cases h.1)
                have HS := Lib.hid hS
                clear hS
                go_wp2
                go_roundw
                case rel => exact ⟨i2 + 1, s', l, updT F q (.give p'), cs, by go_num, by have := HR.out rfl; have := (gr_le s' p').1; omega, hE3, hB3, hcs, fun i h1 h2 => ⟨(HG.out i h1 h2).1, by rw [updT_ne _ _ _ _ (by omega)]; exact (HG.out i h1 h2).2.1, H3.out i h1 h2⟩, fun i h1 => by rw [updT_ne _ _ _ _ (by omega)]; exact hdone i h1, HS.out, by omega, .inl ⟨p', updT_at _ _ _, h32, HGP.out, by have := HR.out rfl; omega⟩⟩
                case measure => simp [intOf]; omega
              · have hS := HC.out.elim (fun h => by cases h.1) (fun h => h.2 ⟨0, 0, 0, 0, false⟩ rfl rfl)
                have HS := Lib.hid hS
                clear hS
                go_wp2
                go_roundw
                case rel => exact ⟨i2 + 1, s', p.slot :: l, updT F q (.take ⟨0, 0, 0, 0, false⟩), cs.setIfInBounds (q * 3 + 1) (.pointer none), by go_num, by omega, hE3.other _ _ hnm1 (by simp only; omega) (by simp only; omega), hB3.set _ _ rfl, by simpa using hcs, fun i h1 h2 => ⟨by rw [Array.getElem?_setIfInBounds_ne (by omega)]; exact (HG.out i h1 h2).1, by rw [updT_ne _ _ _ _ (by omega)]; exact (HG.out i h1 h2).2.1, (H3.out i h1 h2).only ((Only.refl [w.heap.size + 1] w3).setCell _ _ (by simp)) (by
                  have := HB.out i h2
                  simp only [List.mem_cons, List.not_mem_nil, or_false]; omega)⟩, fun i h1 => by rw [updT_ne _ _ _ _ (by omega)]; exact hdone i h1, HS.out, by omega, .inr ⟨by rw [updT_at]; rfl, by rw [Array.getElem?_setIfInBounds_self_of_lt (by omega)]⟩⟩
                case measure => simp [intOf]; omega
          · have hcell : wr.cell? ⟨w.heap.size + 1, q * 3 + 1, none⟩ = some (.pointer none) := (hB.cell _).trans hgp
            have hi40 : i2 < 40 := by omega
            go_wp2
            go_roundw
            case rel => exact ⟨q + 1, s, l, F, cs, by go_num, by omega, hE, hB, hcs, fun i h1 h2 => hrest i (by omega) h2, fun i hi => by
              rcases Nat.lt_or_ge i q with h | h
              · exact hdone i h
              · rw [show i = q by omega]; exact hown, hY, by omega⟩
            case measure => simp [intOf]; omega
    · have hl : l.length = 1 + a := isSome_zero hY.ct (fun i hi => hdone i (by omega))
      have hf := hY.fr
      have HF := Lib.hid hf
      have HTN := Lib.hid htn
      have q56 := run_make56 (1 + a) (by omega)
      rw [show ((1 + a : Nat) : Int) = 1 + (a : Int) by omega] at q56
      have hEc := hE.env.cell
      have hEm : EW w0 (wr.alloc (.cells (bools (List.replicate (1 + a) false)) 4)) m (kS 4 (1 + (a : Int))) 0 w.heap.size s := hE.alloc _
      have hBm := Blk.new wr (bools (List.replicate (1 + a) false)) 4
      obtain ⟨k1, k2, k3⟩ := hE.mem.lts
      have he3 := hE.env.lt
      have hz3 := hE.only.size
      obtain ⟨sb, hsb⟩ : ∃ sb, wr.heap.size = sb := ⟨_, rfl⟩
      rw [hsb] at hBm k1 k2 k3 he3 hz3
      have hsm : sb ∉ m.l := by simp only [List.mem_cons, List.not_mem_nil, or_false, not_or]; omega
      clear hY htn hrest hdone hB hcs hf
      go_wp2
      clear hE hEc
      go_loopw [10] (fun i wr => ∃ (j : Nat) (s : MS) (l : List Int) (sn : List Bool), i = .int .i64 j ∧ j ≤ 1 + a ∧ EW w0 wr m (kS 4 (1 + (a : Int))) 0 w.heap.size s ∧ Blk wr sb (bools sn) 4 ∧ sn.length = 1 + a ∧ l.length + j = 1 + a ∧ Fr (kS 4 (1 + (a : Int))) (1 + a) s l ∧ (∀ x ∈ l, sn.getD x.toNat false = false) ∧ topN (s.at 1) ≤ 1100 + j) (fun i _ => 1 + a - (intOf i).toNat)
      case atStart => exact ⟨0, s, l, _, rfl, by omega, hEm, hBm, by simp, by omega, HF.out, fun x hx => by
        have := HF.out.rg x hx
        simp only [List.getD, List.getElem?_replicate]
        split <;> rfl, by have := HTN.out; omega⟩
      case round =>
        clear hEm hBm q56
        obtain ⟨j, s, l, sn, rfl, hj, hE, hB, hsl, hlj, hf, hsn, htn⟩ := hrel
        have hEc := hE.env.cell
        by_cases hlt : j < 1 + a
        · cases l with
          | nil => simp only [List.length_nil] at hlj; omega
          | cons x l =>
            have hxr := hf.head_rg
            obtain ⟨hx0, hx1⟩ := hxr
            have hx2 : x < 1 + (a : Int) := by omega
            have hsx := hsn x (List.mem_cons_self ..)
            have hnd := List.nodup_cons.1 hf.nd
            have HF := Lib.hid hf
            have HT := Lib.hid htn
            have HSN := Lib.hid hsn
            have HND := Lib.hid hnd
            obtain ⟨y, rfl⟩ := Int.eq_ofNat_of_zero_le hx0
            simp only [Int.toNat_natCast] at hsx
            clear hf htn hsn hnd hx1
            go_wp2_with fail
            refine (take_some (kS 4 (1 + (a : Int))) 0 (1 + a) (by omega) _ _ HK.out hE.mem HF.out (by have := HT.out; omega)).mono ?_
            rintro e w3 ⟨rfl, ⟨s3, hm3, hT3⟩, ho3⟩
            have hE3 := hE.step hnm hlm hm3 ho3
            have hB3 := hB.only ho3 hsm
            have hcy : w3.cell? ⟨sb, y, none⟩ = some (.bool false) := by
              rw [hB3.cell, bools_get _ _ (by omega), hsx]
            have hcf := hB3.frozen
            have HT3 := Lib.hid hT3
            clear hE hB hEc hm3 ho3 hT3 hsx
            go_wp2
            go_roundw
            case rel => exact ⟨j + 1, s3, l, sn.set y true, by go_num, by omega, hE3.other _ _ hsm (by simp only; omega) (by simp only; omega), hB3.set _ _ (bools_set _ _ _), by simpa using hsl, by simp only [List.length_cons] at hlj; omega, HT3.out.fr, fun z hz => by
              have h1 := HSN.out z (List.mem_cons_of_mem _ hz)
              have h2 := HF.out.rg z (List.mem_cons_of_mem _ hz)
              have h3 : z.toNat ≠ y := fun h => HND.out.1 (by rw [show ((y : Nat) : Int) = z by omega]; exact hz)
              simpa [List.getD, List.getElem?_set_ne (Ne.symm h3)] using h1, by rw [HT3.out.top]; have := HT.out; omega⟩
            case measure => simp [intOf]; omega
        · have hl0 : l = [] := List.eq_nil_of_length_eq_zero (by omega)
          subst hl0
          have HF := Lib.hid hf
          clear hf hsn htn hlj
          go_wp2_with fail
          refine (take_none (kS 4 (1 + (a : Int))) 0 (1 + a) HK.out hE.mem HF.out).mono ?_
          rintro e w3 ⟨rfl, hm3, ho3⟩
          have hE3 := hE.step hnm hlm hm3 ho3
          go_wp2
          go_ret
          exact ⟨rfl, hE3.only⟩

end Go.Proofs.Yteoimmjgnflmmaa
