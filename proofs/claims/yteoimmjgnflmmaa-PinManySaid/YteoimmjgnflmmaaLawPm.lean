/-
  PinMany, walked.
-/
import Derived.Test.YteoimmjgnflmmaaLawPr
import Derived.Test.YteoimmjgnflmmaaQc
namespace Go.Proofs.Yteoimmjgnflmmaa
open Go.RowKit

def upd {α : Type} (f : Nat → α) (i : Nat) (x : α) : Nat → α := fun j => if j = i then x else f j
theorem upd_at {α : Type} (f : Nat → α) (i : Nat) (x : α) : upd f i x i = x := by simp [upd]
theorem upd_ne {α : Type} (f : Nat → α) (i j : Nat) (x : α) (h : j ≠ i) : upd f i x j = f j := by simp [upd, h]

/-- Four threads. -/
def pk (f : Nat → PinS) : Array Value := #[.int .i64 (f 0).pc, .int .u64 (f 0).ep, .int .i64 (f 1).pc, .int .u64 (f 1).ep, .int .i64 (f 2).pc, .int .u64 (f 2).ep, .int .i64 (f 3).pc, .int .u64 (f 3).ep]
def dk (d : Nat → Bool) : Array Value := #[.bool (d 0), .bool (d 1), .bool (d 2), .bool (d 3)]
theorem pk_put (f : Nat → PinS) (p : PinS) : ∀ i, i < 4 → p.put (pk f) (2 * i) = pk (upd f i p)
  | 0, _ => rfl
  | 1, _ => rfl
  | 2, _ => rfl
  | 3, _ => rfl
theorem pk_at (f : Nat → PinS) : ∀ i, i < 4 → (f i).At (pk f) (2 * i)
  | 0, _ => ⟨rfl, rfl⟩
  | 1, _ => ⟨rfl, rfl⟩
  | 2, _ => ⟨rfl, rfl⟩
  | 3, _ => ⟨rfl, rfl⟩
theorem dk_put (d : Nat → Bool) (b : Bool) : ∀ i, i < 4 → (dk d).setIfInBounds i (.bool b) = dk (upd d i b)
  | 0, _ => rfl
  | 1, _ => rfl
  | 2, _ => rfl
  | 3, _ => rfl

theorem dk_get (d : Nat → Bool) : ∀ i, i < 4 → (dk d)[i]? = some (.bool (d i))
  | 0, _ => rfl
  | 1, _ => rfl
  | 2, _ => rfl
  | 3, _ => rfl
theorem aPin_at (i : Nat) (h : i < 4) : aPin i = 6 + i := by
  unfold aPin wrap64; omega

/-- A step leaves all words but its own pin. -/
theorem in_other {wh : Int} {s s' : MS} {p p' : PinS} {b : Bool} {a : Int} (hA : s.ok (aPin wh)) (ha : 0 ≤ a) (hne : a ≠ aPin wh) (hst : inStep wh s p = (b, s', p')) : s'.at a = s.at a := by
  unfold inStep at hst
  have hA' : (s.by wh).ok (aPin wh) := hA
  split at hst
  · simp only [Prod.mk.injEq] at hst
    obtain ⟨rfl, rfl, rfl⟩ := hst
    rw [load_at]; rfl
  · split at hst
    · simp only [Prod.mk.injEq] at hst
      obtain ⟨rfl, rfl, rfl⟩ := hst
      rw [store_at _ _ _ _ hA' ha, if_neg hne]; rfl
    · split at hst
      · simp only [Prod.mk.injEq] at hst
        obtain ⟨rfl, rfl, rfl⟩ := hst
        rw [load_at]; rfl
      · simp only [Prod.mk.injEq] at hst
        obtain ⟨rfl, rfl, rfl⟩ := hst
        rw [load_at]; rfl

structure MR (s : MS) (f : Nat → PinS) (d : Nat → Bool) : Prop where
  len : s.ws.length = 32
  zero : s.at 0 = 0
  pr : ∀ i : Nat, i < 4 → PR (6 + i) s (f i)
  dn : ∀ i : Nat, i < 4 → d i = true → s.at (6 + i) = 1

theorem MR.step {s s' : MS} {f : Nat → PinS} {d : Nat → Bool} {p' : PinS} {b : Bool} {i : Nat} (h : MR s f d) (hi : i < 4) (hst : inStep i s (f i) = (b, s', p')) :
    MR s' (upd f i p') (upd d i b) ∧ (b = false → rk s' p' + 1 ≤ rk s (f i)) := by
  obtain ⟨hl, hz, hp, hd⟩ := h
  have ha := aPin_at i hi
  have hpi := hp i hi
  rw [← ha] at hpi
  obtain ⟨h1, h2, h3, h4⟩ := hpi.step (by omega) (by omega) hst
  have hA : s.ok (aPin i) := ⟨by omega, by omega⟩
  have ho : ∀ a, 0 ≤ a → a ≠ aPin i → s'.at a = s.at a := fun a ha hne => in_other hA ha hne hst
  refine ⟨⟨h1.len, by rw [h2]; exact hz, fun j hj => ?_, fun j hj => ?_⟩, h4⟩
  · by_cases hji : j = i
    · subst hji; rw [upd_at, ← ha]; exact h1
    · rw [upd_ne _ _ _ _ hji]
      have := hp j hj
      exact ⟨h1.len, this.pcs, fun hh => by rw [ho _ (by omega) (by omega)]; exact this.pin hh⟩
  · by_cases hji : j = i
    · subst hji; rw [upd_at, ← ha]; intro hb; rw [h3 hb, h2, hz]; rfl
    · rw [upd_ne _ _ _ _ hji, ho _ (by omega) (by omega)]
      exact hd j hj

theorem MR.start : MR (freshS kP) (fun _ => ⟨0, 0⟩) (fun _ => false) :=
  ⟨kP_len, by decide +kernel, fun i _ => PR.start _, fun i _ h => by cases h⟩
theorem rk_pos (s : MS) (p : PinS) : 1 ≤ rk s p := by unfold rk; split <;> (try split) <;> (try split) <;> omega


/-- Where all lies: six blocks apart, none of them the caller's. -/
structure MA (w : World) (m : MB) (eb pb db : Nat) : Prop where
  b : w.heap.size ≤ m.b
  wb : w.heap.size ≤ m.wb
  hb : w.heap.size ≤ m.hb
  e : w.heap.size ≤ eb
  p : w.heap.size ≤ pb
  d : w.heap.size ≤ db
  e1 : m.b ≠ eb
  e2 : m.wb ≠ eb
  e3 : m.hb ≠ eb
  p1 : m.b ≠ pb
  p2 : m.wb ≠ pb
  p3 : m.hb ≠ pb
  d1 : m.b ≠ db
  d2 : m.wb ≠ db
  d3 : m.hb ≠ db
  ep : eb ≠ pb
  ed : eb ≠ db
  pd : pb ≠ db

theorem MA.nd {w : World} {m : MB} {eb pb db : Nat} (a : MA w m eb pb db) : db ∉ [m.b, m.wb, m.hb, pb] := by
  have d1 := a.d1; have d2 := a.d2; have d3 := a.d3; have pd := a.pd
  simp only [List.mem_cons, List.not_mem_nil, or_false, not_or]; omega

structure MW (w wr : World) (m : MB) (eb pb db : Nat) (s : MS) (f : Nat → PinS) (d : Nat → Bool) (wh : Int) : Prop where
  mem : MemR wr m s
  ps : Blk wr pb (pk f) 52
  ds : Blk wr db (dk d) 53
  env : Blk wr eb #[.int .i64 kP.t, .int .i64 kP.s, .int .i64 kP.c, .int .i64 kP.w, .int .i64 kP.g, .int .i64 kP.p, .int .i64 kP.r, .pointer (some ⟨m.b, 0, none⟩), .int .i64 wh] 47
  only : Only [] w wr

section
variable {w wr w1 : World} {m : MB} {eb pb db : Nat} {s s1 : MS} {f f1 : Nat → PinS} {d d1 : Nat → Bool} {wh : Int}
theorem MW.drew (h : MW w wr m eb pb db s f d wh) : MW w wr.drew m eb pb db s f d wh := ⟨h.mem.drew, h.ps.drew, h.ds.drew, h.env.drew, h.only.drew⟩
theorem MW.drewN (h : MW w wr m eb pb db s f d wh) (n : Nat) : MW w (wr.drewN n) m eb pb db s f d wh :=
  ⟨h.mem.drewN n, h.ps.drewN n, h.ds.drewN n, h.env.drewN n, h.only.drewN n⟩
theorem MW.who (h : MW w wr m eb pb db s f d wh) (a : MA w m eb pb db) (v : Int) : MW w (wr.setCell ⟨eb, 8, none⟩ (.int .i64 v)) m eb pb db s f d v :=
  ⟨h.mem.other _ _ a.e1 a.e2 a.e3, h.ps.other _ _ a.ep.symm, h.ds.other _ _ a.ed.symm, h.env.set 8 _ rfl, h.only.setCell _ _ fun hh => absurd hh (by have := a.e; simp only; omega)⟩
theorem MW.done (h : MW w wr m eb pb db s f d wh) (a : MA w m eb pb db) (i : Nat) (hi : i < 4) (b : Bool) : MW w (wr.setCell ⟨db, i, none⟩ (.bool b)) m eb pb db s f (upd d i b) wh :=
  ⟨h.mem.other _ _ a.d1 a.d2 a.d3, h.ps.other _ _ a.pd, h.ds.set i _ (dk_put d b i hi), h.env.other _ _ a.ed, h.only.setCell _ _ fun hh => absurd hh (by have := a.d; simp only; omega)⟩
theorem MW.step (h : MW w wr m eb pb db s f d wh) (a : MA w m eb pb db) (i : Nat) (hi : i < 4) {p : PinS} {o : Nat} (ho : o = 2 * i) (h1 : MemR w1 m s1) (h2 : Blk w1 pb (p.put (pk f) o) 52) (h3 : Only [m.b, m.wb, m.hb, pb] wr w1) : MW w w1 m eb pb db s1 (upd f i p) d wh := by
  subst ho
  have e1 := a.e1; have e2 := a.e2; have e3 := a.e3; have d1 := a.d1; have d2 := a.d2; have d3 := a.d3; have ep := a.ep; have pd := a.pd
  have w1 := a.b; have w2 := a.wb; have w3 := a.hb; have w4 := a.p
  refine ⟨h1, h2.cast (pk_put f p i hi), h.ds.only h3 ?_, h.env.only h3 ?_, h.only.trans' h3 ?_⟩
  · simp only [List.mem_cons, List.not_mem_nil, or_false, not_or]; omega
  · simp only [List.mem_cons, List.not_mem_nil, or_false, not_or]; omega
  · intro x hx _
    simp only [List.mem_cons, List.not_mem_nil, or_false] at hx
    omega
end

set_option maxRecDepth 100000 in
set_option maxHeartbeats 3200000 in
theorem many_walk (A : Option Addr) (n c : Nat) (xs : List Int) (hw : ∀ x ∈ xs, I64 x) (w : World) (hS : Slc (Value.int .i64) w A n xs) : Calls Try.prog 8 #[.slice A n c] w fun e w' => e = .returned (.bool true) ∧ Only [] w w' := by
  have hmost := hS.most
  unfold maxLen at hmost
  go_enter Try.func8, Try.ntmps8
  go_wp2_with fail
  refine (arena5 kP rfl 0 _).mono ?_
  rintro e w1 ⟨m, rfl, hm1, hn1, ho1⟩
  obtain ⟨hl1, hl2, hl3⟩ := hm1.lts
  have hE1 := Blk.new w1 #[.int .i64 kP.t, .int .i64 kP.s, .int .i64 kP.c, .int .i64 kP.w, .int .i64 kP.g, .int .i64 kP.p, .int .i64 kP.r, .pointer (some ⟨m.b, 0, none⟩), .int .i64 0] 47
  go_wp2_with fail
  refine (awake5 _).mono ?_
  rintro e w2 ⟨rfl, ho2⟩
  have hz2 := ho2.size
  simp only [World.size_alloc] at hz2
  have hb1 := ho1.size
  have a : MA w m w1.heap.size w2.heap.size (w2.heap.size + 1) := by
    obtain ⟨h1, h2, h3⟩ := hn1
    constructor <;> omega
  have hW0 : MW w ((w2.alloc (.cells #[.int .i64 0, .int .u64 0, .int .i64 0, .int .u64 0, .int .i64 0, .int .u64 0, .int .i64 0, .int .u64 0] 52)).alloc (.cells #[.bool false, .bool false, .bool false, .bool false] 53)) m w1.heap.size w2.heap.size (w2.heap.size + 1) (freshS kP) (fun _ => ⟨0, 0⟩) (fun _ => false) 0 := by
    refine ⟨?_, ?_, ?_, ?_, ?_⟩
    · repeat (first | with_reducible assumption | with_reducible apply MemR.drew | with_reducible apply MemR.alloc | (with_reducible refine MemR.only ?_ (by with_reducible assumption) List.not_mem_nil List.not_mem_nil List.not_mem_nil) | (with_reducible refine MemR.other ?_ _ _ (by simp only; omega) (by simp only; omega) (by simp only; omega)))
    · exact (Blk.new w2 _ 52).alloc _
    · exact Blk.new' (by simp) rfl
    · repeat (first | with_reducible assumption | with_reducible apply Blk.drew | with_reducible apply Blk.alloc | (with_reducible refine Blk.only ?_ (by with_reducible assumption) (by first | exact List.not_mem_nil | with_reducible assumption)) | (with_reducible refine Blk.other ?_ _ _ (by simp only; omega)))
    · repeat (first | with_reducible exact Only.refl _ _ | with_reducible assumption | with_reducible apply Only.drew | with_reducible apply Only.drewN | with_reducible apply Only.alloc | (with_reducible refine Only.trans' ?_ (by with_reducible assumption) (fun _ h _ => h)))
  clear hE1 ho1 ho2
  go_wp2
  obtain ⟨qb, heb⟩ : ∃ qb, qb = w1.heap.size := ⟨_, rfl⟩
  obtain ⟨qp, hpb⟩ : ∃ qp, qp = w2.heap.size := ⟨_, rfl⟩
  go_loopw [7] (fun i wr => ∃ (j : Nat) (s : MS) (f : Nat → PinS) (d : Nat → Bool) (wh : Int), i = .int .i64 j ∧ j ≤ 60 ∧ MR s f d ∧ MW w wr m w1.heap.size w2.heap.size (w2.heap.size + 1) s f d wh) (fun i _ => 60 - (intOf i).toNat)
  case atStart =>
    exact ⟨0, freshS kP, fun _ => ⟨0, 0⟩, fun _ => false, 0, rfl, by omega, MR.start, hW0⟩
  case round =>
    rename_i wr
    obtain ⟨j, s, f, d, wh, rfl, hj, hR, hW⟩ := hrel
    clear hW0
    by_cases hlt : j < 60
    · by_cases hn : j < n
      · by_cases h40 : j < 40
        · have hSr := hS.only hW.only
          obtain ⟨bb, off, rfl, hbb, hcell⟩ := hSr.cells (by omega)
          have hcj := hcell j hn
          clear hcell hSr
          have hx : I64 (xs.getD j default) := by
            by_cases hjl : j < xs.length
            · have : xs.getD j default = xs[j] := by simp [hjl]
              rw [this]; exact hw _ (List.getElem_mem hjl)
            · exact absurd hn (by rw [← hS.len]; exact hjl)
          generalize xs.getD j default = x at hcj hx
          have hv : bits .and .i64 x 3 = 0 ∨ bits .and .i64 x 3 = 1 ∨ bits .and .i64 x 3 = 2 ∨ bits .and .i64 x 3 = 3 := by
            rw [iand3]; omega
          go_upto_region 11 with fail
          generalize bits .and .i64 x 3 = v at hv ⊢
          rcases hv with rfl | rfl | rfl | rfl
          · skip
            have hWi := hW.who a 0
            have hEc := hWi.env.cell
            have hEf := hWi.env.frozen
            have hDc := hWi.ds.cell
            have hDf := hWi.ds.frozen
            have hd0 := hW.env.frozen
            have hE0 := hW.env.cell
            have hat : (f 0).At (pk f) 0 := pk_at f 0 (by decide)
            cases hd : d 0
            · have hcd : (wr.setCell ⟨w1.heap.size, 8, none⟩ (.int .i64 0)).cell? ⟨w2.heap.size + 1, 0, none⟩ = some (.bool false)   := (hDc 0).trans (by rw [← hd]; rfl)
              clear hDc
              rcases hst : inStep 0 s (f 0) with ⟨b, s', p'⟩
              obtain ⟨hR', hrk⟩ := hR.step (i := 0) (by decide) hst
              have HST := Lib.hid hst
              have HRK := Lib.hid hrk
              clear hst hrk
              have hWd := hWi.drew
              have hMd := hWd.mem
              have hPd := hWd.ps
              have d1 := a.p1.symm
              have d2 := a.p2.symm
              have d3 := a.p3.symm
              have hnd : (w2.heap.size + 1) ∉ [m.b, m.wb, m.hb, w2.heap.size] := a.nd
              go_wp2
              go_region_held3 (fun w' => ∀ o, w'.cell? ⟨w1.heap.size, o, none⟩ = (#[.int .i64 kP.t, .int .i64 kP.s, .int .i64 kP.c, .int .i64 kP.w, .int .i64 kP.g, .int .i64 kP.p, .int .i64 kP.r, .pointer (some ⟨m.b, 0, none⟩), .int .i64 0] : Array Value)[o]?) (first | exact hWd.env.cell | exact hW3.env.cell | exact (hW3.done a 0 (by decide) b).env.cell)
                (first
                  | (go_at_call 55; with_reducible refine (in_step' kP 0 (f 0) w2.heap.size 0 _ 52 HST.out hMd hPd hat d1 d2 d3).mono ?_; rintro e w3 ⟨rfl, hM3, hP3, ho3⟩; have hW3 := hWd.step a 0 (by decide) (by rfl) hM3 hP3 ho3; have f3 := hW3.ds.frozen; have c3 : w3.cell? ⟨w2.heap.size + 1, 0, none⟩ = some (.bool (d 0)) := (hW3.ds.cell 0).trans (dk_get d 0 (by decide))))
              all_goals
                go_wp2
                go_roundw
                case rel => exact ⟨j + 1, s', upd f 0 p', upd d 0 b, 0, by go_num, by omega, hR', hW3.done a 0 (by decide) b⟩
                case measure => simp [intOf]; omega
            · have hcd : (wr.setCell ⟨w1.heap.size, 8, none⟩ (.int .i64 0)).cell? ⟨w2.heap.size + 1, 0, none⟩ = some (.bool true)   := (hDc 0).trans (by rw [← hd]; rfl)
              clear hDc
              go_wp2
              go_roundw
              case rel => exact ⟨j + 1, s, f, d, 0, by go_num, by omega, hR, hWi⟩
              case measure => simp [intOf]; omega
          · skip
            have hWi := hW.who a 1
            have hEc := hWi.env.cell
            have hEf := hWi.env.frozen
            have hDc := hWi.ds.cell
            have hDf := hWi.ds.frozen
            have hd0 := hW.env.frozen
            have hE0 := hW.env.cell
            have hat : (f 1).At (pk f) 2 := pk_at f 1 (by decide)
            cases hd : d 1
            · have hcd : (wr.setCell ⟨w1.heap.size, 8, none⟩ (.int .i64 1)).cell? ⟨w2.heap.size + 1, 1, none⟩ = some (.bool false)   := (hDc 1).trans (by rw [← hd]; rfl)
              clear hDc
              rcases hst : inStep 1 s (f 1) with ⟨b, s', p'⟩
              obtain ⟨hR', hrk⟩ := hR.step (i := 1) (by decide) hst
              have HST := Lib.hid hst
              have HRK := Lib.hid hrk
              clear hst hrk
              have hWd := hWi.drew
              have hMd := hWd.mem
              have hPd := hWd.ps
              have d1 := a.p1.symm
              have d2 := a.p2.symm
              have d3 := a.p3.symm
              have hnd : (w2.heap.size + 1) ∉ [m.b, m.wb, m.hb, w2.heap.size] := a.nd
              go_wp2
              go_region_held3 (fun w' => ∀ o, w'.cell? ⟨w1.heap.size, o, none⟩ = (#[.int .i64 kP.t, .int .i64 kP.s, .int .i64 kP.c, .int .i64 kP.w, .int .i64 kP.g, .int .i64 kP.p, .int .i64 kP.r, .pointer (some ⟨m.b, 0, none⟩), .int .i64 1] : Array Value)[o]?) (first | exact hWd.env.cell | exact hW3.env.cell | exact (hW3.done a 1 (by decide) b).env.cell)
                (first
                  | (go_at_call 55; with_reducible refine (in_step' kP 1 (f 1) w2.heap.size 2 _ 52 HST.out hMd hPd hat d1 d2 d3).mono ?_; rintro e w3 ⟨rfl, hM3, hP3, ho3⟩; have hW3 := hWd.step a 1 (by decide) (by rfl) hM3 hP3 ho3; have f3 := hW3.ds.frozen; have c3 : w3.cell? ⟨w2.heap.size + 1, 1, none⟩ = some (.bool (d 1)) := (hW3.ds.cell 1).trans (dk_get d 1 (by decide))))
              all_goals
                go_wp2
                go_roundw
                case rel => exact ⟨j + 1, s', upd f 1 p', upd d 1 b, 1, by go_num, by omega, hR', hW3.done a 1 (by decide) b⟩
                case measure => simp [intOf]; omega
            · have hcd : (wr.setCell ⟨w1.heap.size, 8, none⟩ (.int .i64 1)).cell? ⟨w2.heap.size + 1, 1, none⟩ = some (.bool true)   := (hDc 1).trans (by rw [← hd]; rfl)
              clear hDc
              go_wp2
              go_roundw
              case rel => exact ⟨j + 1, s, f, d, 1, by go_num, by omega, hR, hWi⟩
              case measure => simp [intOf]; omega
          · skip
            have hWi := hW.who a 2
            have hEc := hWi.env.cell
            have hEf := hWi.env.frozen
            have hDc := hWi.ds.cell
            have hDf := hWi.ds.frozen
            have hd0 := hW.env.frozen
            have hE0 := hW.env.cell
            have hat : (f 2).At (pk f) 4 := pk_at f 2 (by decide)
            cases hd : d 2
            · have hcd : (wr.setCell ⟨w1.heap.size, 8, none⟩ (.int .i64 2)).cell? ⟨w2.heap.size + 1, 2, none⟩ = some (.bool false)   := (hDc 2).trans (by rw [← hd]; rfl)
              clear hDc
              rcases hst : inStep 2 s (f 2) with ⟨b, s', p'⟩
              obtain ⟨hR', hrk⟩ := hR.step (i := 2) (by decide) hst
              have HST := Lib.hid hst
              have HRK := Lib.hid hrk
              clear hst hrk
              have hWd := hWi.drew
              have hMd := hWd.mem
              have hPd := hWd.ps
              have d1 := a.p1.symm
              have d2 := a.p2.symm
              have d3 := a.p3.symm
              have hnd : (w2.heap.size + 1) ∉ [m.b, m.wb, m.hb, w2.heap.size] := a.nd
              go_wp2
              go_region_held3 (fun w' => ∀ o, w'.cell? ⟨w1.heap.size, o, none⟩ = (#[.int .i64 kP.t, .int .i64 kP.s, .int .i64 kP.c, .int .i64 kP.w, .int .i64 kP.g, .int .i64 kP.p, .int .i64 kP.r, .pointer (some ⟨m.b, 0, none⟩), .int .i64 2] : Array Value)[o]?) (first | exact hWd.env.cell | exact hW3.env.cell | exact (hW3.done a 2 (by decide) b).env.cell)
                (first
                  | (go_at_call 55; with_reducible refine (in_step' kP 2 (f 2) w2.heap.size 4 _ 52 HST.out hMd hPd hat d1 d2 d3).mono ?_; rintro e w3 ⟨rfl, hM3, hP3, ho3⟩; have hW3 := hWd.step a 2 (by decide) (by rfl) hM3 hP3 ho3; have f3 := hW3.ds.frozen; have c3 : w3.cell? ⟨w2.heap.size + 1, 2, none⟩ = some (.bool (d 2)) := (hW3.ds.cell 2).trans (dk_get d 2 (by decide))))
              all_goals
                go_wp2
                go_roundw
                case rel => exact ⟨j + 1, s', upd f 2 p', upd d 2 b, 2, by go_num, by omega, hR', hW3.done a 2 (by decide) b⟩
                case measure => simp [intOf]; omega
            · have hcd : (wr.setCell ⟨w1.heap.size, 8, none⟩ (.int .i64 2)).cell? ⟨w2.heap.size + 1, 2, none⟩ = some (.bool true)   := (hDc 2).trans (by rw [← hd]; rfl)
              clear hDc
              go_wp2
              go_roundw
              case rel => exact ⟨j + 1, s, f, d, 2, by go_num, by omega, hR, hWi⟩
              case measure => simp [intOf]; omega
          · skip
            have hWi := hW.who a 3
            have hEc := hWi.env.cell
            have hEf := hWi.env.frozen
            have hDc := hWi.ds.cell
            have hDf := hWi.ds.frozen
            have hd0 := hW.env.frozen
            have hE0 := hW.env.cell
            have hat : (f 3).At (pk f) 6 := pk_at f 3 (by decide)
            cases hd : d 3
            · have hcd : (wr.setCell ⟨w1.heap.size, 8, none⟩ (.int .i64 3)).cell? ⟨w2.heap.size + 1, 3, none⟩ = some (.bool false)   := (hDc 3).trans (by rw [← hd]; rfl)
              clear hDc
              rcases hst : inStep 3 s (f 3) with ⟨b, s', p'⟩
              obtain ⟨hR', hrk⟩ := hR.step (i := 3) (by decide) hst
              have HST := Lib.hid hst
              have HRK := Lib.hid hrk
              clear hst hrk
              have hWd := hWi.drew
              have hMd := hWd.mem
              have hPd := hWd.ps
              have d1 := a.p1.symm
              have d2 := a.p2.symm
              have d3 := a.p3.symm
              have hnd : (w2.heap.size + 1) ∉ [m.b, m.wb, m.hb, w2.heap.size] := a.nd
              go_wp2
              go_region_held3 (fun w' => ∀ o, w'.cell? ⟨w1.heap.size, o, none⟩ = (#[.int .i64 kP.t, .int .i64 kP.s, .int .i64 kP.c, .int .i64 kP.w, .int .i64 kP.g, .int .i64 kP.p, .int .i64 kP.r, .pointer (some ⟨m.b, 0, none⟩), .int .i64 3] : Array Value)[o]?) (first | exact hWd.env.cell | exact hW3.env.cell | exact (hW3.done a 3 (by decide) b).env.cell)
                (first
                  | (go_at_call 55; with_reducible refine (in_step' kP 3 (f 3) w2.heap.size 6 _ 52 HST.out hMd hPd hat d1 d2 d3).mono ?_; rintro e w3 ⟨rfl, hM3, hP3, ho3⟩; have hW3 := hWd.step a 3 (by decide) (by rfl) hM3 hP3 ho3; have f3 := hW3.ds.frozen; have c3 : w3.cell? ⟨w2.heap.size + 1, 3, none⟩ = some (.bool (d 3)) := (hW3.ds.cell 3).trans (dk_get d 3 (by decide))))
              all_goals
                go_wp2
                go_roundw
                case rel => exact ⟨j + 1, s', upd f 3 p', upd d 3 b, 3, by go_num, by omega, hR', hW3.done a 3 (by decide) b⟩
                case measure => simp [intOf]; omega
            · have hcd : (wr.setCell ⟨w1.heap.size, 8, none⟩ (.int .i64 3)).cell? ⟨w2.heap.size + 1, 3, none⟩ = some (.bool true)   := (hDc 3).trans (by rw [← hd]; rfl)
              clear hDc
              go_wp2
              go_roundw
              case rel => exact ⟨j + 1, s, f, d, 3, by go_num, by omega, hR, hWi⟩
              case measure => simp [intOf]; omega
        · go_upto_region 11 with fail
          have hv : (j : Int) % 4 = 0 ∨ (j : Int) % 4 = 1 ∨ (j : Int) % 4 = 2 ∨ (j : Int) % 4 = 3 := by omega
          generalize (j : Int) % 4 = v at hv ⊢
          rcases hv with rfl | rfl | rfl | rfl
          · skip
            have hWi := hW.who a 0
            have hEc := hWi.env.cell
            have hEf := hWi.env.frozen
            have hDc := hWi.ds.cell
            have hDf := hWi.ds.frozen
            have hd0 := hW.env.frozen
            have hE0 := hW.env.cell
            have hat : (f 0).At (pk f) 0 := pk_at f 0 (by decide)
            cases hd : d 0
            · have hcd : (wr.setCell ⟨w1.heap.size, 8, none⟩ (.int .i64 0)).cell? ⟨w2.heap.size + 1, 0, none⟩ = some (.bool false)   := (hDc 0).trans (by rw [← hd]; rfl)
              clear hDc
              rcases hst : inStep 0 s (f 0) with ⟨b, s', p'⟩
              obtain ⟨hR', hrk⟩ := hR.step (i := 0) (by decide) hst
              have HST := Lib.hid hst
              have HRK := Lib.hid hrk
              clear hst hrk
              have hWd := hWi.drew
              have hMd := hWd.mem
              have hPd := hWd.ps
              have d1 := a.p1.symm
              have d2 := a.p2.symm
              have d3 := a.p3.symm
              have hnd : (w2.heap.size + 1) ∉ [m.b, m.wb, m.hb, w2.heap.size] := a.nd
              go_wp2
              go_region_held3 (fun w' => ∀ o, w'.cell? ⟨w1.heap.size, o, none⟩ = (#[.int .i64 kP.t, .int .i64 kP.s, .int .i64 kP.c, .int .i64 kP.w, .int .i64 kP.g, .int .i64 kP.p, .int .i64 kP.r, .pointer (some ⟨m.b, 0, none⟩), .int .i64 0] : Array Value)[o]?) (first | exact hWd.env.cell | exact hW3.env.cell | exact (hW3.done a 0 (by decide) b).env.cell)
                (first
                  | (go_at_call 55; with_reducible refine (in_step' kP 0 (f 0) w2.heap.size 0 _ 52 HST.out hMd hPd hat d1 d2 d3).mono ?_; rintro e w3 ⟨rfl, hM3, hP3, ho3⟩; have hW3 := hWd.step a 0 (by decide) (by rfl) hM3 hP3 ho3; have f3 := hW3.ds.frozen; have c3 : w3.cell? ⟨w2.heap.size + 1, 0, none⟩ = some (.bool (d 0)) := (hW3.ds.cell 0).trans (dk_get d 0 (by decide))))
              all_goals
                go_wp2
                go_roundw
                case rel => exact ⟨j + 1, s', upd f 0 p', upd d 0 b, 0, by go_num, by omega, hR', hW3.done a 0 (by decide) b⟩
                case measure => simp [intOf]; omega
            · have hcd : (wr.setCell ⟨w1.heap.size, 8, none⟩ (.int .i64 0)).cell? ⟨w2.heap.size + 1, 0, none⟩ = some (.bool true)   := (hDc 0).trans (by rw [← hd]; rfl)
              clear hDc
              go_wp2
              go_roundw
              case rel => exact ⟨j + 1, s, f, d, 0, by go_num, by omega, hR, hWi⟩
              case measure => simp [intOf]; omega
          · skip
            have hWi := hW.who a 1
            have hEc := hWi.env.cell
            have hEf := hWi.env.frozen
            have hDc := hWi.ds.cell
            have hDf := hWi.ds.frozen
            have hd0 := hW.env.frozen
            have hE0 := hW.env.cell
            have hat : (f 1).At (pk f) 2 := pk_at f 1 (by decide)
            cases hd : d 1
            · have hcd : (wr.setCell ⟨w1.heap.size, 8, none⟩ (.int .i64 1)).cell? ⟨w2.heap.size + 1, 1, none⟩ = some (.bool false)   := (hDc 1).trans (by rw [← hd]; rfl)
              clear hDc
              rcases hst : inStep 1 s (f 1) with ⟨b, s', p'⟩
              obtain ⟨hR', hrk⟩ := hR.step (i := 1) (by decide) hst
              have HST := Lib.hid hst
              have HRK := Lib.hid hrk
              clear hst hrk
              have hWd := hWi.drew
              have hMd := hWd.mem
              have hPd := hWd.ps
              have d1 := a.p1.symm
              have d2 := a.p2.symm
              have d3 := a.p3.symm
              have hnd : (w2.heap.size + 1) ∉ [m.b, m.wb, m.hb, w2.heap.size] := a.nd
              go_wp2
              go_region_held3 (fun w' => ∀ o, w'.cell? ⟨w1.heap.size, o, none⟩ = (#[.int .i64 kP.t, .int .i64 kP.s, .int .i64 kP.c, .int .i64 kP.w, .int .i64 kP.g, .int .i64 kP.p, .int .i64 kP.r, .pointer (some ⟨m.b, 0, none⟩), .int .i64 1] : Array Value)[o]?) (first | exact hWd.env.cell | exact hW3.env.cell | exact (hW3.done a 1 (by decide) b).env.cell)
                (first
                  | (go_at_call 55; with_reducible refine (in_step' kP 1 (f 1) w2.heap.size 2 _ 52 HST.out hMd hPd hat d1 d2 d3).mono ?_; rintro e w3 ⟨rfl, hM3, hP3, ho3⟩; have hW3 := hWd.step a 1 (by decide) (by rfl) hM3 hP3 ho3; have f3 := hW3.ds.frozen; have c3 : w3.cell? ⟨w2.heap.size + 1, 1, none⟩ = some (.bool (d 1)) := (hW3.ds.cell 1).trans (dk_get d 1 (by decide))))
              all_goals
                go_wp2
                go_roundw
                case rel => exact ⟨j + 1, s', upd f 1 p', upd d 1 b, 1, by go_num, by omega, hR', hW3.done a 1 (by decide) b⟩
                case measure => simp [intOf]; omega
            · have hcd : (wr.setCell ⟨w1.heap.size, 8, none⟩ (.int .i64 1)).cell? ⟨w2.heap.size + 1, 1, none⟩ = some (.bool true)   := (hDc 1).trans (by rw [← hd]; rfl)
              clear hDc
              go_wp2
              go_roundw
              case rel => exact ⟨j + 1, s, f, d, 1, by go_num, by omega, hR, hWi⟩
              case measure => simp [intOf]; omega
          · skip
            have hWi := hW.who a 2
            have hEc := hWi.env.cell
            have hEf := hWi.env.frozen
            have hDc := hWi.ds.cell
            have hDf := hWi.ds.frozen
            have hd0 := hW.env.frozen
            have hE0 := hW.env.cell
            have hat : (f 2).At (pk f) 4 := pk_at f 2 (by decide)
            cases hd : d 2
            · have hcd : (wr.setCell ⟨w1.heap.size, 8, none⟩ (.int .i64 2)).cell? ⟨w2.heap.size + 1, 2, none⟩ = some (.bool false)   := (hDc 2).trans (by rw [← hd]; rfl)
              clear hDc
              rcases hst : inStep 2 s (f 2) with ⟨b, s', p'⟩
              obtain ⟨hR', hrk⟩ := hR.step (i := 2) (by decide) hst
              have HST := Lib.hid hst
              have HRK := Lib.hid hrk
              clear hst hrk
              have hWd := hWi.drew
              have hMd := hWd.mem
              have hPd := hWd.ps
              have d1 := a.p1.symm
              have d2 := a.p2.symm
              have d3 := a.p3.symm
              have hnd : (w2.heap.size + 1) ∉ [m.b, m.wb, m.hb, w2.heap.size] := a.nd
              go_wp2
              go_region_held3 (fun w' => ∀ o, w'.cell? ⟨w1.heap.size, o, none⟩ = (#[.int .i64 kP.t, .int .i64 kP.s, .int .i64 kP.c, .int .i64 kP.w, .int .i64 kP.g, .int .i64 kP.p, .int .i64 kP.r, .pointer (some ⟨m.b, 0, none⟩), .int .i64 2] : Array Value)[o]?) (first | exact hWd.env.cell | exact hW3.env.cell | exact (hW3.done a 2 (by decide) b).env.cell)
                (first
                  | (go_at_call 55; with_reducible refine (in_step' kP 2 (f 2) w2.heap.size 4 _ 52 HST.out hMd hPd hat d1 d2 d3).mono ?_; rintro e w3 ⟨rfl, hM3, hP3, ho3⟩; have hW3 := hWd.step a 2 (by decide) (by rfl) hM3 hP3 ho3; have f3 := hW3.ds.frozen; have c3 : w3.cell? ⟨w2.heap.size + 1, 2, none⟩ = some (.bool (d 2)) := (hW3.ds.cell 2).trans (dk_get d 2 (by decide))))
              all_goals
                go_wp2
                go_roundw
                case rel => exact ⟨j + 1, s', upd f 2 p', upd d 2 b, 2, by go_num, by omega, hR', hW3.done a 2 (by decide) b⟩
                case measure => simp [intOf]; omega
            · have hcd : (wr.setCell ⟨w1.heap.size, 8, none⟩ (.int .i64 2)).cell? ⟨w2.heap.size + 1, 2, none⟩ = some (.bool true)   := (hDc 2).trans (by rw [← hd]; rfl)
              clear hDc
              go_wp2
              go_roundw
              case rel => exact ⟨j + 1, s, f, d, 2, by go_num, by omega, hR, hWi⟩
              case measure => simp [intOf]; omega
          · skip
            have hWi := hW.who a 3
            have hEc := hWi.env.cell
            have hEf := hWi.env.frozen
            have hDc := hWi.ds.cell
            have hDf := hWi.ds.frozen
            have hd0 := hW.env.frozen
            have hE0 := hW.env.cell
            have hat : (f 3).At (pk f) 6 := pk_at f 3 (by decide)
            cases hd : d 3
            · have hcd : (wr.setCell ⟨w1.heap.size, 8, none⟩ (.int .i64 3)).cell? ⟨w2.heap.size + 1, 3, none⟩ = some (.bool false)   := (hDc 3).trans (by rw [← hd]; rfl)
              clear hDc
              rcases hst : inStep 3 s (f 3) with ⟨b, s', p'⟩
              obtain ⟨hR', hrk⟩ := hR.step (i := 3) (by decide) hst
              have HST := Lib.hid hst
              have HRK := Lib.hid hrk
              clear hst hrk
              have hWd := hWi.drew
              have hMd := hWd.mem
              have hPd := hWd.ps
              have d1 := a.p1.symm
              have d2 := a.p2.symm
              have d3 := a.p3.symm
              have hnd : (w2.heap.size + 1) ∉ [m.b, m.wb, m.hb, w2.heap.size] := a.nd
              go_wp2
              go_region_held3 (fun w' => ∀ o, w'.cell? ⟨w1.heap.size, o, none⟩ = (#[.int .i64 kP.t, .int .i64 kP.s, .int .i64 kP.c, .int .i64 kP.w, .int .i64 kP.g, .int .i64 kP.p, .int .i64 kP.r, .pointer (some ⟨m.b, 0, none⟩), .int .i64 3] : Array Value)[o]?) (first | exact hWd.env.cell | exact hW3.env.cell | exact (hW3.done a 3 (by decide) b).env.cell)
                (first
                  | (go_at_call 55; with_reducible refine (in_step' kP 3 (f 3) w2.heap.size 6 _ 52 HST.out hMd hPd hat d1 d2 d3).mono ?_; rintro e w3 ⟨rfl, hM3, hP3, ho3⟩; have hW3 := hWd.step a 3 (by decide) (by rfl) hM3 hP3 ho3; have f3 := hW3.ds.frozen; have c3 : w3.cell? ⟨w2.heap.size + 1, 3, none⟩ = some (.bool (d 3)) := (hW3.ds.cell 3).trans (dk_get d 3 (by decide))))
              all_goals
                go_wp2
                go_roundw
                case rel => exact ⟨j + 1, s', upd f 3 p', upd d 3 b, 3, by go_num, by omega, hR', hW3.done a 3 (by decide) b⟩
                case measure => simp [intOf]; omega
            · have hcd : (wr.setCell ⟨w1.heap.size, 8, none⟩ (.int .i64 3)).cell? ⟨w2.heap.size + 1, 3, none⟩ = some (.bool true)   := (hDc 3).trans (by rw [← hd]; rfl)
              clear hDc
              go_wp2
              go_roundw
              case rel => exact ⟨j + 1, s, f, d, 3, by go_num, by omega, hR, hWi⟩
              case measure => simp [intOf]; omega
      · go_upto_region 11 with fail
        have hv : (j : Int) % 4 = 0 ∨ (j : Int) % 4 = 1 ∨ (j : Int) % 4 = 2 ∨ (j : Int) % 4 = 3 := by omega
        generalize (j : Int) % 4 = v at hv ⊢
        rcases hv with rfl | rfl | rfl | rfl
        · skip
          have hWi := hW.who a 0
          have hEc := hWi.env.cell
          have hEf := hWi.env.frozen
          have hDc := hWi.ds.cell
          have hDf := hWi.ds.frozen
          have hd0 := hW.env.frozen
          have hE0 := hW.env.cell
          have hat : (f 0).At (pk f) 0 := pk_at f 0 (by decide)
          cases hd : d 0
          · have hcd : (wr.setCell ⟨w1.heap.size, 8, none⟩ (.int .i64 0)).cell? ⟨w2.heap.size + 1, 0, none⟩ = some (.bool false)   := (hDc 0).trans (by rw [← hd]; rfl)
            clear hDc
            rcases hst : inStep 0 s (f 0) with ⟨b, s', p'⟩
            obtain ⟨hR', hrk⟩ := hR.step (i := 0) (by decide) hst
            have HST := Lib.hid hst
            have HRK := Lib.hid hrk
            clear hst hrk
            have hWd := hWi.drew
            have hMd := hWd.mem
            have hPd := hWd.ps
            have d1 := a.p1.symm
            have d2 := a.p2.symm
            have d3 := a.p3.symm
            have hnd : (w2.heap.size + 1) ∉ [m.b, m.wb, m.hb, w2.heap.size] := a.nd
            go_wp2
            go_region_held3 (fun w' => ∀ o, w'.cell? ⟨w1.heap.size, o, none⟩ = (#[.int .i64 kP.t, .int .i64 kP.s, .int .i64 kP.c, .int .i64 kP.w, .int .i64 kP.g, .int .i64 kP.p, .int .i64 kP.r, .pointer (some ⟨m.b, 0, none⟩), .int .i64 0] : Array Value)[o]?) (first | exact hWd.env.cell | exact hW3.env.cell | exact (hW3.done a 0 (by decide) b).env.cell)
              (first
                | (go_at_call 55; with_reducible refine (in_step' kP 0 (f 0) w2.heap.size 0 _ 52 HST.out hMd hPd hat d1 d2 d3).mono ?_; rintro e w3 ⟨rfl, hM3, hP3, ho3⟩; have hW3 := hWd.step a 0 (by decide) (by rfl) hM3 hP3 ho3; have f3 := hW3.ds.frozen; have c3 : w3.cell? ⟨w2.heap.size + 1, 0, none⟩ = some (.bool (d 0)) := (hW3.ds.cell 0).trans (dk_get d 0 (by decide))))
            all_goals
              go_wp2
              go_roundw
              case rel => exact ⟨j + 1, s', upd f 0 p', upd d 0 b, 0, by go_num, by omega, hR', hW3.done a 0 (by decide) b⟩
              case measure => simp [intOf]; omega
          · have hcd : (wr.setCell ⟨w1.heap.size, 8, none⟩ (.int .i64 0)).cell? ⟨w2.heap.size + 1, 0, none⟩ = some (.bool true)   := (hDc 0).trans (by rw [← hd]; rfl)
            clear hDc
            go_wp2
            go_roundw
            case rel => exact ⟨j + 1, s, f, d, 0, by go_num, by omega, hR, hWi⟩
            case measure => simp [intOf]; omega
        · skip
          have hWi := hW.who a 1
          have hEc := hWi.env.cell
          have hEf := hWi.env.frozen
          have hDc := hWi.ds.cell
          have hDf := hWi.ds.frozen
          have hd0 := hW.env.frozen
          have hE0 := hW.env.cell
          have hat : (f 1).At (pk f) 2 := pk_at f 1 (by decide)
          cases hd : d 1
          · have hcd : (wr.setCell ⟨w1.heap.size, 8, none⟩ (.int .i64 1)).cell? ⟨w2.heap.size + 1, 1, none⟩ = some (.bool false)   := (hDc 1).trans (by rw [← hd]; rfl)
            clear hDc
            rcases hst : inStep 1 s (f 1) with ⟨b, s', p'⟩
            obtain ⟨hR', hrk⟩ := hR.step (i := 1) (by decide) hst
            have HST := Lib.hid hst
            have HRK := Lib.hid hrk
            clear hst hrk
            have hWd := hWi.drew
            have hMd := hWd.mem
            have hPd := hWd.ps
            have d1 := a.p1.symm
            have d2 := a.p2.symm
            have d3 := a.p3.symm
            have hnd : (w2.heap.size + 1) ∉ [m.b, m.wb, m.hb, w2.heap.size] := a.nd
            go_wp2
            go_region_held3 (fun w' => ∀ o, w'.cell? ⟨w1.heap.size, o, none⟩ = (#[.int .i64 kP.t, .int .i64 kP.s, .int .i64 kP.c, .int .i64 kP.w, .int .i64 kP.g, .int .i64 kP.p, .int .i64 kP.r, .pointer (some ⟨m.b, 0, none⟩), .int .i64 1] : Array Value)[o]?) (first | exact hWd.env.cell | exact hW3.env.cell | exact (hW3.done a 1 (by decide) b).env.cell)
              (first
                | (go_at_call 55; with_reducible refine (in_step' kP 1 (f 1) w2.heap.size 2 _ 52 HST.out hMd hPd hat d1 d2 d3).mono ?_; rintro e w3 ⟨rfl, hM3, hP3, ho3⟩; have hW3 := hWd.step a 1 (by decide) (by rfl) hM3 hP3 ho3; have f3 := hW3.ds.frozen; have c3 : w3.cell? ⟨w2.heap.size + 1, 1, none⟩ = some (.bool (d 1)) := (hW3.ds.cell 1).trans (dk_get d 1 (by decide))))
            all_goals
              go_wp2
              go_roundw
              case rel => exact ⟨j + 1, s', upd f 1 p', upd d 1 b, 1, by go_num, by omega, hR', hW3.done a 1 (by decide) b⟩
              case measure => simp [intOf]; omega
          · have hcd : (wr.setCell ⟨w1.heap.size, 8, none⟩ (.int .i64 1)).cell? ⟨w2.heap.size + 1, 1, none⟩ = some (.bool true)   := (hDc 1).trans (by rw [← hd]; rfl)
            clear hDc
            go_wp2
            go_roundw
            case rel => exact ⟨j + 1, s, f, d, 1, by go_num, by omega, hR, hWi⟩
            case measure => simp [intOf]; omega
        · skip
          have hWi := hW.who a 2
          have hEc := hWi.env.cell
          have hEf := hWi.env.frozen
          have hDc := hWi.ds.cell
          have hDf := hWi.ds.frozen
          have hd0 := hW.env.frozen
          have hE0 := hW.env.cell
          have hat : (f 2).At (pk f) 4 := pk_at f 2 (by decide)
          cases hd : d 2
          · have hcd : (wr.setCell ⟨w1.heap.size, 8, none⟩ (.int .i64 2)).cell? ⟨w2.heap.size + 1, 2, none⟩ = some (.bool false)   := (hDc 2).trans (by rw [← hd]; rfl)
            clear hDc
            rcases hst : inStep 2 s (f 2) with ⟨b, s', p'⟩
            obtain ⟨hR', hrk⟩ := hR.step (i := 2) (by decide) hst
            have HST := Lib.hid hst
            have HRK := Lib.hid hrk
            clear hst hrk
            have hWd := hWi.drew
            have hMd := hWd.mem
            have hPd := hWd.ps
            have d1 := a.p1.symm
            have d2 := a.p2.symm
            have d3 := a.p3.symm
            have hnd : (w2.heap.size + 1) ∉ [m.b, m.wb, m.hb, w2.heap.size] := a.nd
            go_wp2
            go_region_held3 (fun w' => ∀ o, w'.cell? ⟨w1.heap.size, o, none⟩ = (#[.int .i64 kP.t, .int .i64 kP.s, .int .i64 kP.c, .int .i64 kP.w, .int .i64 kP.g, .int .i64 kP.p, .int .i64 kP.r, .pointer (some ⟨m.b, 0, none⟩), .int .i64 2] : Array Value)[o]?) (first | exact hWd.env.cell | exact hW3.env.cell | exact (hW3.done a 2 (by decide) b).env.cell)
              (first
                | (go_at_call 55; with_reducible refine (in_step' kP 2 (f 2) w2.heap.size 4 _ 52 HST.out hMd hPd hat d1 d2 d3).mono ?_; rintro e w3 ⟨rfl, hM3, hP3, ho3⟩; have hW3 := hWd.step a 2 (by decide) (by rfl) hM3 hP3 ho3; have f3 := hW3.ds.frozen; have c3 : w3.cell? ⟨w2.heap.size + 1, 2, none⟩ = some (.bool (d 2)) := (hW3.ds.cell 2).trans (dk_get d 2 (by decide))))
            all_goals
              go_wp2
              go_roundw
              case rel => exact ⟨j + 1, s', upd f 2 p', upd d 2 b, 2, by go_num, by omega, hR', hW3.done a 2 (by decide) b⟩
              case measure => simp [intOf]; omega
          · have hcd : (wr.setCell ⟨w1.heap.size, 8, none⟩ (.int .i64 2)).cell? ⟨w2.heap.size + 1, 2, none⟩ = some (.bool true)   := (hDc 2).trans (by rw [← hd]; rfl)
            clear hDc
            go_wp2
            go_roundw
            case rel => exact ⟨j + 1, s, f, d, 2, by go_num, by omega, hR, hWi⟩
            case measure => simp [intOf]; omega
        · skip
          have hWi := hW.who a 3
          have hEc := hWi.env.cell
          have hEf := hWi.env.frozen
          have hDc := hWi.ds.cell
          have hDf := hWi.ds.frozen
          have hd0 := hW.env.frozen
          have hE0 := hW.env.cell
          have hat : (f 3).At (pk f) 6 := pk_at f 3 (by decide)
          cases hd : d 3
          · have hcd : (wr.setCell ⟨w1.heap.size, 8, none⟩ (.int .i64 3)).cell? ⟨w2.heap.size + 1, 3, none⟩ = some (.bool false)   := (hDc 3).trans (by rw [← hd]; rfl)
            clear hDc
            rcases hst : inStep 3 s (f 3) with ⟨b, s', p'⟩
            obtain ⟨hR', hrk⟩ := hR.step (i := 3) (by decide) hst
            have HST := Lib.hid hst
            have HRK := Lib.hid hrk
            clear hst hrk
            have hWd := hWi.drew
            have hMd := hWd.mem
            have hPd := hWd.ps
            have d1 := a.p1.symm
            have d2 := a.p2.symm
            have d3 := a.p3.symm
            have hnd : (w2.heap.size + 1) ∉ [m.b, m.wb, m.hb, w2.heap.size] := a.nd
            go_wp2
            go_region_held3 (fun w' => ∀ o, w'.cell? ⟨w1.heap.size, o, none⟩ = (#[.int .i64 kP.t, .int .i64 kP.s, .int .i64 kP.c, .int .i64 kP.w, .int .i64 kP.g, .int .i64 kP.p, .int .i64 kP.r, .pointer (some ⟨m.b, 0, none⟩), .int .i64 3] : Array Value)[o]?) (first | exact hWd.env.cell | exact hW3.env.cell | exact (hW3.done a 3 (by decide) b).env.cell)
              (first
                | (go_at_call 55; with_reducible refine (in_step' kP 3 (f 3) w2.heap.size 6 _ 52 HST.out hMd hPd hat d1 d2 d3).mono ?_; rintro e w3 ⟨rfl, hM3, hP3, ho3⟩; have hW3 := hWd.step a 3 (by decide) (by rfl) hM3 hP3 ho3; have f3 := hW3.ds.frozen; have c3 : w3.cell? ⟨w2.heap.size + 1, 3, none⟩ = some (.bool (d 3)) := (hW3.ds.cell 3).trans (dk_get d 3 (by decide))))
            all_goals
              go_wp2
              go_roundw
              case rel => exact ⟨j + 1, s', upd f 3 p', upd d 3 b, 3, by go_num, by omega, hR', hW3.done a 3 (by decide) b⟩
              case measure => simp [intOf]; omega
          · have hcd : (wr.setCell ⟨w1.heap.size, 8, none⟩ (.int .i64 3)).cell? ⟨w2.heap.size + 1, 3, none⟩ = some (.bool true)   := (hDc 3).trans (by rw [← hd]; rfl)
            clear hDc
            go_wp2
            go_roundw
            case rel => exact ⟨j + 1, s, f, d, 3, by go_num, by omega, hR, hWi⟩
            case measure => simp [intOf]; omega
    · go_wp2
      go_loopw [9] (fun i wr => ∃ (j : Nat) (s : MS) (f : Nat → PinS) (d : Nat → Bool) (wh : Int), i = .int .i64 j ∧ j ≤ 4 ∧ MR s f d ∧ MW w wr m w1.heap.size w2.heap.size (w2.heap.size + 1) s f d wh) (fun i _ => 4 - (intOf i).toNat)
      case atStart =>
        exact ⟨0, s, f, d, wh, rfl, by omega, hR, hW⟩
      case round =>
        clear hR hW
        obtain ⟨j2, s, f, d, wh, rfl, hj2, hR, hW⟩ := hrel
        by_cases hlt4 : j2 < 4
        · have hv : j2 = 0 ∨ j2 = 1 ∨ j2 = 2 ∨ j2 = 3 := by omega
          rcases hv with rfl | rfl | rfl | rfl
          · skip
            have hWi := hW.who a 0
            have hd0 := hW.env.frozen
            have hE0 := hW.env.cell
            go_wp2
            go_loopw [10] (fun x wr => ∃ (k : Nat) (s : MS) (f : Nat → PinS) (d : Nat → Bool), x = .int .i64 k ∧ k ≤ 5 ∧ MR s f d ∧ MW w wr m w1.heap.size w2.heap.size (w2.heap.size + 1) s f d 0 ∧ (d 0 = false → k + rk s (f 0) ≤ 5)) (fun x _ => 5 - (intOf x).toNat)
            case atStart =>
              exact ⟨0, s, f, d, rfl, by omega, hR, hWi, fun _ => by have := rk_le s (f 0); omega⟩
            case round =>
              clear hR hWi hW hd0 hE0
              obtain ⟨k, s, f, d, rfl, hk, hR, hWi, hrk0⟩ := hrel
              have hDc := hWi.ds.cell
              have hDf := hWi.ds.frozen
              have hEc := hWi.env.cell
              have hEf := hWi.env.frozen
              have hat : (f 0).At (pk f) 0 := pk_at f 0 (by decide)
              cases hd : d 0
              · have hcd := (hDc 0).trans ((dk_get d 0 (by decide)).trans (show some (Value.bool (d 0)) = some (Value.bool false) by rw [hd]))
                clear hDc
                have hk5 : k < 5 := by
                  have := hrk0 hd
                  have := rk_pos s (f 0)
                  omega
                rcases hst : inStep 0 s (f 0) with ⟨b, s', p'⟩
                obtain ⟨hR', hrk⟩ := hR.step (i := 0) (by decide) hst
                have hrk1 : (upd d 0 b) 0 = false → k + 1 + rk s' (upd f 0 p' 0) ≤ 5 := by
                  intro hb
                  rw [upd_at] at hb ⊢
                  have := hrk hb
                  have := hrk0 hd
                  omega
                have HST := Lib.hid hst
                have HRK := Lib.hid hrk1
                clear hst hrk hrk1 hrk0
                have hWd := hWi.drew
                have hMd := hWd.mem
                have hPd := hWd.ps
                have d1 := a.p1.symm
                have d2 := a.p2.symm
                have d3 := a.p3.symm
                have hnd : w2.heap.size + 1 ∉ [m.b, m.wb, m.hb, w2.heap.size] := a.nd
                go_wp2
                go_region_held3 (fun w' => ∀ o, w'.cell? ⟨w1.heap.size, o, none⟩ = (#[.int .i64 kP.t, .int .i64 kP.s, .int .i64 kP.c, .int .i64 kP.w, .int .i64 kP.g, .int .i64 kP.p, .int .i64 kP.r, .pointer (some ⟨m.b, 0, none⟩), .int .i64 0] : Array Value)[o]?) (first | exact hWd.env.cell | exact hW3.env.cell | exact (hW3.done a 0 (by decide) b).env.cell)
                  (first
                    | (go_at_call 55; with_reducible refine (in_step' kP 0 (f 0) w2.heap.size 0 _ 52 HST.out hMd hPd hat d1 d2 d3).mono ?_; rintro e w3 ⟨rfl, hM3, hP3, ho3⟩; have hW3 := hWd.step a 0 (by decide) (by rfl) hM3 hP3 ho3; have f3 := hW3.ds.frozen; have c3 : w3.cell? ⟨w2.heap.size + 1, 0, none⟩ = some (.bool (d 0)) := (hW3.ds.cell 0).trans (dk_get d 0 (by decide))))
                all_goals
                  go_wp2
                  go_roundw
                  case rel =>
                    (repeat apply Exists.intro)
                    exact ⟨⟨k + 1, s', upd f 0 p', upd d 0 b, by go_num, by omega, hR', hW3.done a 0 (by decide) b, HRK.out⟩, rfl⟩
                  case measure => simp [intOf]; omega
              · have hcd := (hDc 0).trans ((dk_get d 0 (by decide)).trans (show some (Value.bool (d 0)) = some (Value.bool true) by rw [hd]))
                clear hDc hrk0
                have hM := hWi.mem
                have hlen := hR.len
                have hok : s.ok (aPin 0) := by
                  rw [show aPin 0 = 6 + 0 from aPin_at 0 (by decide)]
                  exact ⟨by omega, by omega⟩
                have hg : s.get (aPin 0) = 1 := by
                  rw [get_ok _ _ hok, show aPin 0 = 6 + 0 from aPin_at 0 (by decide)]
                  exact hR.dn 0 (by decide) hd
                have hv : (s.get (aPin 0) != 1) = false := by rw [hg]; rfl
                clear hok hlen hg
                by_cases hk5 : k < 5
                · go_wp2
                  go_quiet ((first
                    | (go_at_call 48; exact Calls.quiet_of_same (pin_q _ _))
                    | (go_at_call 44; exact Calls.quiet_of_same (peek_q hM _ _))))
                  go_wp2
                  go_roundw
                  case rel => exact ⟨0 + 1, s, f, d, 0, by go_num, by omega, hR, hWi.drewN _⟩
                  case measure => simp [intOf]
                · go_wp2
                  go_quiet ((first
                    | (go_at_call 48; exact Calls.quiet_of_same (pin_q _ _))
                    | (go_at_call 44; exact Calls.quiet_of_same (peek_q hM _ _))))
                  go_wp2
                  go_roundw
                  case rel => exact ⟨0 + 1, s, f, d, 0, by go_num, by omega, hR, hWi.drewN _⟩
                  case measure => simp [intOf]
          · skip
            have hWi := hW.who a 1
            have hd0 := hW.env.frozen
            have hE0 := hW.env.cell
            go_wp2
            go_loopw [10] (fun x wr => ∃ (k : Nat) (s : MS) (f : Nat → PinS) (d : Nat → Bool), x = .int .i64 k ∧ k ≤ 5 ∧ MR s f d ∧ MW w wr m w1.heap.size w2.heap.size (w2.heap.size + 1) s f d 1 ∧ (d 1 = false → k + rk s (f 1) ≤ 5)) (fun x _ => 5 - (intOf x).toNat)
            case atStart =>
              exact ⟨0, s, f, d, rfl, by omega, hR, hWi, fun _ => by have := rk_le s (f 1); omega⟩
            case round =>
              clear hR hWi hW hd0 hE0
              obtain ⟨k, s, f, d, rfl, hk, hR, hWi, hrk0⟩ := hrel
              have hDc := hWi.ds.cell
              have hDf := hWi.ds.frozen
              have hEc := hWi.env.cell
              have hEf := hWi.env.frozen
              have hat : (f 1).At (pk f) 2 := pk_at f 1 (by decide)
              cases hd : d 1
              · have hcd := (hDc 1).trans ((dk_get d 1 (by decide)).trans (show some (Value.bool (d 1)) = some (Value.bool false) by rw [hd]))
                clear hDc
                have hk5 : k < 5 := by
                  have := hrk0 hd
                  have := rk_pos s (f 1)
                  omega
                rcases hst : inStep 1 s (f 1) with ⟨b, s', p'⟩
                obtain ⟨hR', hrk⟩ := hR.step (i := 1) (by decide) hst
                have hrk1 : (upd d 1 b) 1 = false → k + 1 + rk s' (upd f 1 p' 1) ≤ 5 := by
                  intro hb
                  rw [upd_at] at hb ⊢
                  have := hrk hb
                  have := hrk0 hd
                  omega
                have HST := Lib.hid hst
                have HRK := Lib.hid hrk1
                clear hst hrk hrk1 hrk0
                have hWd := hWi.drew
                have hMd := hWd.mem
                have hPd := hWd.ps
                have d1 := a.p1.symm
                have d2 := a.p2.symm
                have d3 := a.p3.symm
                have hnd : w2.heap.size + 1 ∉ [m.b, m.wb, m.hb, w2.heap.size] := a.nd
                go_wp2
                go_region_held3 (fun w' => ∀ o, w'.cell? ⟨w1.heap.size, o, none⟩ = (#[.int .i64 kP.t, .int .i64 kP.s, .int .i64 kP.c, .int .i64 kP.w, .int .i64 kP.g, .int .i64 kP.p, .int .i64 kP.r, .pointer (some ⟨m.b, 0, none⟩), .int .i64 1] : Array Value)[o]?) (first | exact hWd.env.cell | exact hW3.env.cell | exact (hW3.done a 1 (by decide) b).env.cell)
                  (first
                    | (go_at_call 55; with_reducible refine (in_step' kP 1 (f 1) w2.heap.size 2 _ 52 HST.out hMd hPd hat d1 d2 d3).mono ?_; rintro e w3 ⟨rfl, hM3, hP3, ho3⟩; have hW3 := hWd.step a 1 (by decide) (by rfl) hM3 hP3 ho3; have f3 := hW3.ds.frozen; have c3 : w3.cell? ⟨w2.heap.size + 1, 1, none⟩ = some (.bool (d 1)) := (hW3.ds.cell 1).trans (dk_get d 1 (by decide))))
                all_goals
                  go_wp2
                  go_roundw
                  case rel =>
                    (repeat apply Exists.intro)
                    exact ⟨⟨k + 1, s', upd f 1 p', upd d 1 b, by go_num, by omega, hR', hW3.done a 1 (by decide) b, HRK.out⟩, rfl⟩
                  case measure => simp [intOf]; omega
              · have hcd := (hDc 1).trans ((dk_get d 1 (by decide)).trans (show some (Value.bool (d 1)) = some (Value.bool true) by rw [hd]))
                clear hDc hrk0
                have hM := hWi.mem
                have hlen := hR.len
                have hok : s.ok (aPin 1) := by
                  rw [show aPin 1 = 6 + 1 from aPin_at 1 (by decide)]
                  exact ⟨by omega, by omega⟩
                have hg : s.get (aPin 1) = 1 := by
                  rw [get_ok _ _ hok, show aPin 1 = 6 + 1 from aPin_at 1 (by decide)]
                  exact hR.dn 1 (by decide) hd
                have hv : (s.get (aPin 1) != 1) = false := by rw [hg]; rfl
                clear hok hlen hg
                by_cases hk5 : k < 5
                · go_wp2
                  go_quiet ((first
                    | (go_at_call 48; exact Calls.quiet_of_same (pin_q _ _))
                    | (go_at_call 44; exact Calls.quiet_of_same (peek_q hM _ _))))
                  go_wp2
                  go_roundw
                  case rel => exact ⟨1 + 1, s, f, d, 1, by go_num, by omega, hR, hWi.drewN _⟩
                  case measure => simp [intOf]
                · go_wp2
                  go_quiet ((first
                    | (go_at_call 48; exact Calls.quiet_of_same (pin_q _ _))
                    | (go_at_call 44; exact Calls.quiet_of_same (peek_q hM _ _))))
                  go_wp2
                  go_roundw
                  case rel => exact ⟨1 + 1, s, f, d, 1, by go_num, by omega, hR, hWi.drewN _⟩
                  case measure => simp [intOf]
          · skip
            have hWi := hW.who a 2
            have hd0 := hW.env.frozen
            have hE0 := hW.env.cell
            go_wp2
            go_loopw [10] (fun x wr => ∃ (k : Nat) (s : MS) (f : Nat → PinS) (d : Nat → Bool), x = .int .i64 k ∧ k ≤ 5 ∧ MR s f d ∧ MW w wr m w1.heap.size w2.heap.size (w2.heap.size + 1) s f d 2 ∧ (d 2 = false → k + rk s (f 2) ≤ 5)) (fun x _ => 5 - (intOf x).toNat)
            case atStart =>
              exact ⟨0, s, f, d, rfl, by omega, hR, hWi, fun _ => by have := rk_le s (f 2); omega⟩
            case round =>
              clear hR hWi hW hd0 hE0
              obtain ⟨k, s, f, d, rfl, hk, hR, hWi, hrk0⟩ := hrel
              have hDc := hWi.ds.cell
              have hDf := hWi.ds.frozen
              have hEc := hWi.env.cell
              have hEf := hWi.env.frozen
              have hat : (f 2).At (pk f) 4 := pk_at f 2 (by decide)
              cases hd : d 2
              · have hcd := (hDc 2).trans ((dk_get d 2 (by decide)).trans (show some (Value.bool (d 2)) = some (Value.bool false) by rw [hd]))
                clear hDc
                have hk5 : k < 5 := by
                  have := hrk0 hd
                  have := rk_pos s (f 2)
                  omega
                rcases hst : inStep 2 s (f 2) with ⟨b, s', p'⟩
                obtain ⟨hR', hrk⟩ := hR.step (i := 2) (by decide) hst
                have hrk1 : (upd d 2 b) 2 = false → k + 1 + rk s' (upd f 2 p' 2) ≤ 5 := by
                  intro hb
                  rw [upd_at] at hb ⊢
                  have := hrk hb
                  have := hrk0 hd
                  omega
                have HST := Lib.hid hst
                have HRK := Lib.hid hrk1
                clear hst hrk hrk1 hrk0
                have hWd := hWi.drew
                have hMd := hWd.mem
                have hPd := hWd.ps
                have d1 := a.p1.symm
                have d2 := a.p2.symm
                have d3 := a.p3.symm
                have hnd : w2.heap.size + 1 ∉ [m.b, m.wb, m.hb, w2.heap.size] := a.nd
                go_wp2
                go_region_held3 (fun w' => ∀ o, w'.cell? ⟨w1.heap.size, o, none⟩ = (#[.int .i64 kP.t, .int .i64 kP.s, .int .i64 kP.c, .int .i64 kP.w, .int .i64 kP.g, .int .i64 kP.p, .int .i64 kP.r, .pointer (some ⟨m.b, 0, none⟩), .int .i64 2] : Array Value)[o]?) (first | exact hWd.env.cell | exact hW3.env.cell | exact (hW3.done a 2 (by decide) b).env.cell)
                  (first
                    | (go_at_call 55; with_reducible refine (in_step' kP 2 (f 2) w2.heap.size 4 _ 52 HST.out hMd hPd hat d1 d2 d3).mono ?_; rintro e w3 ⟨rfl, hM3, hP3, ho3⟩; have hW3 := hWd.step a 2 (by decide) (by rfl) hM3 hP3 ho3; have f3 := hW3.ds.frozen; have c3 : w3.cell? ⟨w2.heap.size + 1, 2, none⟩ = some (.bool (d 2)) := (hW3.ds.cell 2).trans (dk_get d 2 (by decide))))
                all_goals
                  go_wp2
                  go_roundw
                  case rel =>
                    (repeat apply Exists.intro)
                    exact ⟨⟨k + 1, s', upd f 2 p', upd d 2 b, by go_num, by omega, hR', hW3.done a 2 (by decide) b, HRK.out⟩, rfl⟩
                  case measure => simp [intOf]; omega
              · have hcd := (hDc 2).trans ((dk_get d 2 (by decide)).trans (show some (Value.bool (d 2)) = some (Value.bool true) by rw [hd]))
                clear hDc hrk0
                have hM := hWi.mem
                have hlen := hR.len
                have hok : s.ok (aPin 2) := by
                  rw [show aPin 2 = 6 + 2 from aPin_at 2 (by decide)]
                  exact ⟨by omega, by omega⟩
                have hg : s.get (aPin 2) = 1 := by
                  rw [get_ok _ _ hok, show aPin 2 = 6 + 2 from aPin_at 2 (by decide)]
                  exact hR.dn 2 (by decide) hd
                have hv : (s.get (aPin 2) != 1) = false := by rw [hg]; rfl
                clear hok hlen hg
                by_cases hk5 : k < 5
                · go_wp2
                  go_quiet ((first
                    | (go_at_call 48; exact Calls.quiet_of_same (pin_q _ _))
                    | (go_at_call 44; exact Calls.quiet_of_same (peek_q hM _ _))))
                  go_wp2
                  go_roundw
                  case rel => exact ⟨2 + 1, s, f, d, 2, by go_num, by omega, hR, hWi.drewN _⟩
                  case measure => simp [intOf]
                · go_wp2
                  go_quiet ((first
                    | (go_at_call 48; exact Calls.quiet_of_same (pin_q _ _))
                    | (go_at_call 44; exact Calls.quiet_of_same (peek_q hM _ _))))
                  go_wp2
                  go_roundw
                  case rel => exact ⟨2 + 1, s, f, d, 2, by go_num, by omega, hR, hWi.drewN _⟩
                  case measure => simp [intOf]
          · skip
            have hWi := hW.who a 3
            have hd0 := hW.env.frozen
            have hE0 := hW.env.cell
            go_wp2
            go_loopw [10] (fun x wr => ∃ (k : Nat) (s : MS) (f : Nat → PinS) (d : Nat → Bool), x = .int .i64 k ∧ k ≤ 5 ∧ MR s f d ∧ MW w wr m w1.heap.size w2.heap.size (w2.heap.size + 1) s f d 3 ∧ (d 3 = false → k + rk s (f 3) ≤ 5)) (fun x _ => 5 - (intOf x).toNat)
            case atStart =>
              exact ⟨0, s, f, d, rfl, by omega, hR, hWi, fun _ => by have := rk_le s (f 3); omega⟩
            case round =>
              clear hR hWi hW hd0 hE0
              obtain ⟨k, s, f, d, rfl, hk, hR, hWi, hrk0⟩ := hrel
              have hDc := hWi.ds.cell
              have hDf := hWi.ds.frozen
              have hEc := hWi.env.cell
              have hEf := hWi.env.frozen
              have hat : (f 3).At (pk f) 6 := pk_at f 3 (by decide)
              cases hd : d 3
              · have hcd := (hDc 3).trans ((dk_get d 3 (by decide)).trans (show some (Value.bool (d 3)) = some (Value.bool false) by rw [hd]))
                clear hDc
                have hk5 : k < 5 := by
                  have := hrk0 hd
                  have := rk_pos s (f 3)
                  omega
                rcases hst : inStep 3 s (f 3) with ⟨b, s', p'⟩
                obtain ⟨hR', hrk⟩ := hR.step (i := 3) (by decide) hst
                have hrk1 : (upd d 3 b) 3 = false → k + 1 + rk s' (upd f 3 p' 3) ≤ 5 := by
                  intro hb
                  rw [upd_at] at hb ⊢
                  have := hrk hb
                  have := hrk0 hd
                  omega
                have HST := Lib.hid hst
                have HRK := Lib.hid hrk1
                clear hst hrk hrk1 hrk0
                have hWd := hWi.drew
                have hMd := hWd.mem
                have hPd := hWd.ps
                have d1 := a.p1.symm
                have d2 := a.p2.symm
                have d3 := a.p3.symm
                have hnd : w2.heap.size + 1 ∉ [m.b, m.wb, m.hb, w2.heap.size] := a.nd
                go_wp2
                go_region_held3 (fun w' => ∀ o, w'.cell? ⟨w1.heap.size, o, none⟩ = (#[.int .i64 kP.t, .int .i64 kP.s, .int .i64 kP.c, .int .i64 kP.w, .int .i64 kP.g, .int .i64 kP.p, .int .i64 kP.r, .pointer (some ⟨m.b, 0, none⟩), .int .i64 3] : Array Value)[o]?) (first | exact hWd.env.cell | exact hW3.env.cell | exact (hW3.done a 3 (by decide) b).env.cell)
                  (first
                    | (go_at_call 55; with_reducible refine (in_step' kP 3 (f 3) w2.heap.size 6 _ 52 HST.out hMd hPd hat d1 d2 d3).mono ?_; rintro e w3 ⟨rfl, hM3, hP3, ho3⟩; have hW3 := hWd.step a 3 (by decide) (by rfl) hM3 hP3 ho3; have f3 := hW3.ds.frozen; have c3 : w3.cell? ⟨w2.heap.size + 1, 3, none⟩ = some (.bool (d 3)) := (hW3.ds.cell 3).trans (dk_get d 3 (by decide))))
                all_goals
                  go_wp2
                  go_roundw
                  case rel =>
                    (repeat apply Exists.intro)
                    exact ⟨⟨k + 1, s', upd f 3 p', upd d 3 b, by go_num, by omega, hR', hW3.done a 3 (by decide) b, HRK.out⟩, rfl⟩
                  case measure => simp [intOf]; omega
              · have hcd := (hDc 3).trans ((dk_get d 3 (by decide)).trans (show some (Value.bool (d 3)) = some (Value.bool true) by rw [hd]))
                clear hDc hrk0
                have hM := hWi.mem
                have hlen := hR.len
                have hok : s.ok (aPin 3) := by
                  rw [show aPin 3 = 6 + 3 from aPin_at 3 (by decide)]
                  exact ⟨by omega, by omega⟩
                have hg : s.get (aPin 3) = 1 := by
                  rw [get_ok _ _ hok, show aPin 3 = 6 + 3 from aPin_at 3 (by decide)]
                  exact hR.dn 3 (by decide) hd
                have hv : (s.get (aPin 3) != 1) = false := by rw [hg]; rfl
                clear hok hlen hg
                by_cases hk5 : k < 5
                · go_wp2
                  go_quiet ((first
                    | (go_at_call 48; exact Calls.quiet_of_same (pin_q _ _))
                    | (go_at_call 44; exact Calls.quiet_of_same (peek_q hM _ _))))
                  go_wp2
                  go_roundw
                  case rel => exact ⟨3 + 1, s, f, d, 3, by go_num, by omega, hR, hWi.drewN _⟩
                  case measure => simp [intOf]
                · go_wp2
                  go_quiet ((first
                    | (go_at_call 48; exact Calls.quiet_of_same (pin_q _ _))
                    | (go_at_call 44; exact Calls.quiet_of_same (peek_q hM _ _))))
                  go_wp2
                  go_roundw
                  case rel => exact ⟨3 + 1, s, f, d, 3, by go_num, by omega, hR, hWi.drewN _⟩
                  case measure => simp [intOf]
        · go_wp2
          go_ret
          exact ⟨rfl, hW.only⟩

end Go.Proofs.Yteoimmjgnflmmaa
