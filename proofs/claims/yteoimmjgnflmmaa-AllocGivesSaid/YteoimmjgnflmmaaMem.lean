/-
  What the methods of a memory do to it, on condition that its struct and its two rows lie apart from one another.
-/
import Derived.Test.YteoimmjgnflmmaaBase
namespace Go.Proofs.Yteoimmjgnflmmaa
open Go.RowKit

/-- There is such a word. -/
abbrev MS.ok (s : MS) (a : Int) : Prop := 0 ≤ a ∧ a < (s.ws.length : Int)
def MS.at (s : MS) (a : Int) : Int := s.ws.getD a.toNat 0
def MS.by (s : MS) (who : Int) : MS := { s with who := who }
def MS.tick (s : MS) (a : Int) : MS := { s with steps := wrap64 (s.steps + 1), la := a, lw := s.who, ch := false }
def MS.put (s : MS) (a v : Int) : MS := { s with ws := s.ws.set a.toNat v, ch := decide (s.at a ≠ v) }
def MS.get (s : MS) (a : Int) : Int := if s.ok a then s.at a else 0
def MS.err (s : MS) (a : Int) : Int := if s.ok a then 0 else 2
def MS.load (s : MS) (a : Int) : MS := if s.ok a then s.tick a else s
def MS.store (s : MS) (a v : Int) : MS := if s.ok a then (s.tick a).put a v else s
def MS.can (s : MS) (a old : Int) : Bool := decide (s.ok a ∧ s.at a = old)
def MS.cas (s : MS) (a old v : Int) : MS := if s.ok a then (if s.at a = old then (s.tick a).put a v else s.tick a) else s
def MS.add (s : MS) (a d : Int) : MS := if s.ok a then (s.tick a).put a (IntKind.u64.wrap (s.at a + d)) else s

theorem u64_wrap (x : Int) : U64 (IntKind.u64.wrap x) := by rw [IntKind.wrap_u64]; unfold U64; omega

abbrev MB.l (m : MB) : List Nat := [m.b, m.wb, m.hb]

theorem MemR.at_rng {w : World} {m : MB} {s : MS} (h : MemR w m s) (a : Int) : U64 (s.at a) := by
  unfold MS.at
  by_cases ha : a.toNat < s.ws.length
  · rw [List.getD_eq_getElem?_getD, List.getElem?_eq_getElem ha]
    exact h.rng _ (List.getElem_mem ha)
  · rw [List.getD_eq_getElem?_getD, List.getElem?_eq_none (by omega)]
    exact ⟨by decide, by decide⟩
theorem MemR.get_rng {w : World} {m : MB} {s : MS} (h : MemR w m s) (a : Int) : U64 (s.get a) := by
  unfold MS.get
  split
  · exact h.at_rng a
  · exact ⟨by decide, by decide⟩
theorem MemR.cell {w : World} {m : MB} {s : MS} (h : MemR w m s) {a : Int} (ha : s.ok a) : w.cell? ⟨m.wb, a.toNat, none⟩ = some (.int .u64 (s.at a)) := by
  rw [h.words.cell, u64s_get _ _ (by omega)]; rfl

section
variable {w : World} {m : MB} {s : MS} {a v : Int}

set_option maxHeartbeats 400000 in
theorem step_yes (hm : MemR w m s) (h : s.ok a) :
    Calls Try.prog 104 #[.pointer (some ⟨m.b, 0, none⟩), .int .i64 a] w fun e w' => e = .returned (.bool true) ∧ MemR w' m (s.tick a) ∧ Only m.l w w' := by
  obtain ⟨h0, h1⟩ := h
  have hc := hm.mem.cell
  have hf := hm.mem.frozen
  have hn := hm.len
  have hb := hm.mem.lt
  go_enter Try.func104, Try.ntmps104
  go_wp2
  go_ret
  refine ⟨rfl, ⟨?_, ?_, ?_, hm.n1, hm.n2, hm.n3, hm.len, hm.rng⟩, ?_⟩
  · exact ((((hm.mem.set 2 _ rfl).set 4 _ rfl).set 5 _ rfl).set 6 _ rfl).cast rfl
  · exact (((hm.words.other _ _ hm.n1.symm).other _ _ hm.n1.symm).other _ _ hm.n1.symm).other _ _ hm.n1.symm
  · obtain ⟨hs, hl, hw⟩ := hm.whens
    exact ⟨hs, hl, (((hw.other _ _ hm.n2.symm).other _ _ hm.n2.symm).other _ _ hm.n2.symm).other _ _ hm.n2.symm⟩
  · exact ((((Only.refl _ w).setCell _ _ (by simp)).setCell _ _ (by simp)).setCell _ _ (by simp)).setCell _ _ (by simp)

set_option maxHeartbeats 400000 in
theorem step_no (hm : MemR w m s) (h : ¬ s.ok a) :
    Calls Try.prog 104 #[.pointer (some ⟨m.b, 0, none⟩), .int .i64 a] w fun e w' => e = .returned (.bool false) ∧ w = w' := by
  have hc := hm.mem.cell
  by_cases h0 : a < 0
  · go_enter Try.func104, Try.ntmps104
    go_wp2
    go_ret
    exact ⟨rfl, rfl⟩
  · have h1 : (s.ws.length : Int) ≤ a := by
      unfold MS.ok at h; omega
    clear h
    have h2 : 0 ≤ a := by omega
    go_enter Try.func104, Try.ntmps104
    go_wp2
    go_ret
    exact ⟨rfl, rfl⟩

theorem MemR.put_frame {w1 : World} (hm : MemR w m s) (hv : U64 v)
    (h1 : Blk w1 m.b #[.slice (some ⟨m.wb, 0, none⟩) s.ws.length s.ws.length, .slice (some ⟨m.hb, 0, none⟩) s.ws.length s.ws.length, .int .i64 s.steps, .int .i64 s.who, .int .i64 s.la, .int .i64 s.lw, .bool (decide (s.at a ≠ v))] 139)
    (h2 : Blk w1 m.wb (u64s (s.ws.set a.toNat v)) 37) (h3 : ∃ hs : List Int, hs.length = s.ws.length ∧ Blk w1 m.hb (i64s hs) 3) : MemR w1 m (s.put a v) :=
  ⟨by simpa [MS.put] using h1, h2, by simpa [MS.put] using h3, hm.n1, hm.n2, hm.n3, by simpa [MS.put] using hm.len, fun x hx => by
    rcases List.mem_or_eq_of_mem_set hx with hx | hx
    · exact hm.rng x hx
    · exact hx ▸ hv⟩

set_option maxHeartbeats 400000 in
theorem set_yes (hm : MemR w m s) (h : s.ok a) (hv : U64 v) :
    Calls Try.prog 105 #[.pointer (some ⟨m.b, 0, none⟩), .int .i64 a, .int .u64 v] w fun e w' => e = .returned (.tuple #[]) ∧ MemR w' m (s.put a v) ∧ Only m.l w w' := by
  have hM := hm
  have hO := h
  obtain ⟨h0, h1⟩ := h
  have hc := hm.mem.cell
  have hf := hm.mem.frozen
  have hwc := hm.cell hO
  have hwf := hm.words.frozen
  have hn := hm.len
  have hb := hm.mem.lt
  have n1 := hm.n1
  have n2 := hm.n2
  have n3 := hm.n3
  obtain ⟨hs, hl, hw⟩ := hm.whens
  have hhf := hw.frozen
  have hhc : w.cell? ⟨m.hb, a.toNat, none⟩ = some (.int .i64 (hs.getD a.toNat 0)) := by rw [hw.cell, i64s_get _ _ (by omega)]
  have HL := Lib.hid hl
  clear hl hm hO
  by_cases he : s.at a = v
  · have he1 : (s.at a == v) = true := by simpa using he
    have he2 : (s.at a != v) = false := by simpa using he
    have HE := Lib.hid he
    clear he
    go_enter Try.func105, Try.ntmps105
    go_wp2
    go_end0
    have he := HE.out
    refine ⟨rfl, hM.put_frame hv ?_ ?_ ?_, ?_⟩
    · exact ((hM.mem.set 6 _ rfl).other _ _ n1).cast (by simp [he])
    · exact (hM.words.other _ _ n1.symm).set _ _ (u64s_set _ _ _)
    · exact ⟨hs, HL.out, (hw.other _ _ n2.symm).other _ _ n3.symm⟩
    · exact ((Only.refl _ w).setCell _ _ (by simp)).setCell _ _ (by simp)
  · have he1 : (s.at a == v) = false := by simpa using he
    have he2 : (s.at a != v) = true := by simpa using he
    go_enter Try.func105, Try.ntmps105
    go_wp2
    go_region
    all_goals
      go_wp2
      go_end0
      refine ⟨rfl, hM.put_frame hv ?_ ?_ ?_, ?_⟩
      · exact ((((hM.mem.set 6 _ rfl).drew).other _ _ n2).other _ _ n1).cast (by simp [he])
      · exact (((hM.words.other _ _ n1.symm).drew).other _ _ n3).set _ _ (u64s_set _ _ _)
      · exact ⟨hs.set a.toNat s.steps, by simpa using HL.out, (((hw.other _ _ n2.symm).drew).set _ _ (i64s_set _ _ _)).other _ _ n3.symm⟩
      · exact ((((Only.refl _ w).setCell _ _ (by simp)).drew).setCell _ _ (by simp)).setCell _ _ (by simp)

set_option maxHeartbeats 400000 in
theorem by_any (hm : MemR w m s) (who : Int) :
    Calls Try.prog 67 #[.pointer (some ⟨m.b, 0, none⟩), .int .i64 who] w fun e w' => e = .returned (.tuple #[]) ∧ MemR w' m (s.by who) ∧ Only m.l w w' := by
  have hc := hm.mem.cell
  have hf := hm.mem.frozen
  go_enter Try.func67, Try.ntmps67
  go_wp2
  go_end0
  refine ⟨rfl, ⟨(hm.mem.set 3 _ rfl).cast rfl, hm.words.other _ _ hm.n1.symm, ?_, hm.n1, hm.n2, hm.n3, hm.len, hm.rng⟩, (Only.refl _ w).setCell _ _ (by simp)⟩
  obtain ⟨hs, hl, hw⟩ := hm.whens
  exact ⟨hs, hl, hw.other _ _ hm.n2.symm⟩

set_option maxHeartbeats 400000 in
theorem len_any (hm : MemR w m s) :
    Calls Try.prog 40 #[.pointer (some ⟨m.b, 0, none⟩)] w fun e w' => e = .returned (.int .i64 s.ws.length) ∧ w = w' := by
  have hc := hm.mem.cell
  go_enter Try.func40, Try.ntmps40
  go_wp2
  go_ret
  exact ⟨rfl, rfl⟩

set_option maxHeartbeats 400000 in
theorem steps_any (hm : MemR w m s) :
    Calls Try.prog 74 #[.pointer (some ⟨m.b, 0, none⟩)] w fun e w' => e = .returned (.int .i64 s.steps) ∧ w = w' := by
  have hc := hm.mem.cell
  go_enter Try.func74, Try.ntmps74
  go_wp2
  go_ret
  exact ⟨rfl, rfl⟩

set_option maxHeartbeats 400000 in
theorem peek_any (hm : MemR w m s) :
    Calls Try.prog 44 #[.pointer (some ⟨m.b, 0, none⟩), .int .i64 a] w fun e w' => e = .returned (.int .u64 (s.get a)) ∧ w = w' := by
  have hc := hm.mem.cell
  have hn := hm.len
  by_cases h : s.ok a
  · have hwc := hm.cell h
    have hg : s.get a = s.at a := by unfold MS.get; rw [if_pos h]
    have HG := Lib.hid hg
    clear hg hm
    obtain ⟨h0, h1⟩ := h
    go_enter Try.func44, Try.ntmps44
    go_wp2
    go_ret
    exact ⟨by rw [HG.out]; rfl, rfl⟩
  · have hg : s.get a = 0 := by unfold MS.get; rw [if_neg h]
    have HG := Lib.hid hg
    clear hg hm
    by_cases h0 : a < 0
    · go_enter Try.func44, Try.ntmps44
      go_wp2
      go_ret
      exact ⟨by rw [HG.out]; rfl, rfl⟩
    · have h1 : (s.ws.length : Int) ≤ a := by unfold MS.ok at h; omega
      clear h
      have h2 : 0 ≤ a := by omega
      go_enter Try.func44, Try.ntmps44
      go_wp2
      go_ret
      exact ⟨by rw [HG.out]; rfl, rfl⟩

set_option maxHeartbeats 400000 in
theorem load_any (hm : MemR w m s) :
    Calls Try.prog 68 #[.pointer (some ⟨m.b, 0, none⟩), .int .i64 a] w fun e w' => e = .returned (.tuple #[.int .u64 (s.get a), .int .i64 (s.err a)]) ∧ MemR w' m (s.load a) ∧ Only m.l w w' := by
  by_cases h : s.ok a
  · have hg : s.get a = s.at a ∧ s.err a = 0 ∧ s.load a = s.tick a := by unfold MS.get MS.err MS.load; rw [if_pos h, if_pos h, if_pos h]; exact ⟨rfl, rfl, rfl⟩
    have HG := Lib.hid hg
    clear hg
    have H := Lib.hid h
    clear h
    go_enter Try.func68, Try.ntmps68
    go_wp2_with fail
    refine (step_yes hm H.out).mono ?_
    rintro e w1 ⟨rfl, hm1, ho1⟩
    have hc := hm1.mem.cell
    have hwc := hm1.cell H.out
    have hn := hm1.len
    obtain ⟨h0, h1⟩ := H.out
    go_wp2
    go_ret2
    obtain ⟨g1, g2, g3⟩ := HG.out
    exact ⟨by rw [g1, g2]; rfl, by rw [g3]; exact hm1, ho1⟩
  · have hg : s.get a = 0 ∧ s.err a = 2 ∧ s.load a = s := by unfold MS.get MS.err MS.load; rw [if_neg h, if_neg h, if_neg h]; exact ⟨rfl, rfl, rfl⟩
    have HG := Lib.hid hg
    clear hg
    have H := Lib.hid h
    clear h
    go_enter Try.func68, Try.ntmps68
    go_wp2_with fail
    refine (step_no hm H.out).mono ?_
    rintro e w1 ⟨rfl, rfl⟩
    go_wp2
    go_ret2
    obtain ⟨g1, g2, g3⟩ := HG.out
    exact ⟨by rw [g1, g2]; rfl, by rw [g3]; exact hm, Only.refl _ _⟩

set_option maxHeartbeats 400000 in
theorem store_any (hm : MemR w m s) (hv : U64 v) :
    Calls Try.prog 59 #[.pointer (some ⟨m.b, 0, none⟩), .int .i64 a, .int .u64 v] w fun e w' => e = .returned (.int .i64 (s.err a)) ∧ MemR w' m (s.store a v) ∧ Only m.l w w' := by
  have HV := Lib.hid hv
  clear hv
  by_cases h : s.ok a
  · have hg : s.err a = 0 ∧ s.store a v = (s.tick a).put a v := by unfold MS.err MS.store; rw [if_pos h, if_pos h]; exact ⟨rfl, rfl⟩
    have HG := Lib.hid hg
    clear hg
    have H := Lib.hid h
    clear h
    go_enter Try.func59, Try.ntmps59
    go_wp2_with fail
    refine (step_yes hm H.out).mono ?_
    rintro e w1 ⟨rfl, hm1, ho1⟩
    go_wp2_with fail
    refine (set_yes hm1 H.out HV.out).mono ?_
    rintro e w2 ⟨rfl, hm2, ho2⟩
    go_wp2
    go_ret
    obtain ⟨g2, g3⟩ := HG.out
    exact ⟨by rw [g2]; rfl, by rw [g3]; exact hm2, ho1.trans' ho2 (fun _ h _ => h)⟩
  · have hg : s.err a = 2 ∧ s.store a v = s := by unfold MS.err MS.store; rw [if_neg h, if_neg h]; exact ⟨rfl, rfl⟩
    have HG := Lib.hid hg
    clear hg
    have H := Lib.hid h
    clear h
    go_enter Try.func59, Try.ntmps59
    go_wp2_with fail
    refine (step_no hm H.out).mono ?_
    rintro e w1 ⟨rfl, rfl⟩
    go_wp2
    go_ret
    obtain ⟨g2, g3⟩ := HG.out
    exact ⟨by rw [g2]; rfl, by rw [g3]; exact hm, Only.refl _ _⟩

set_option maxHeartbeats 400000 in
theorem cas_any {old : Int} (hm : MemR w m s) (hv : U64 v) :
    Calls Try.prog 71 #[.pointer (some ⟨m.b, 0, none⟩), .int .i64 a, .int .u64 old, .int .u64 v] w fun e w' => (∃ x : Int, e = .returned (.tuple #[.bool (s.can a old), .int .i64 x])) ∧ MemR w' m (s.cas a old v) ∧ Only m.l w w' := by
  have HV := Lib.hid hv
  clear hv
  by_cases h : s.ok a
  · by_cases he : s.at a = old
    · have hg : s.can a old = true ∧ s.cas a old v = (s.tick a).put a v := by unfold MS.can MS.cas; rw [if_pos h, if_pos he]; exact ⟨decide_eq_true ⟨h, he⟩, rfl⟩
      have HG := Lib.hid hg
      clear hg
      have he1 : (s.at a == old) = true := by simpa using he
      have he2 : (s.at a != old) = false := by simpa using he
      clear he
      have H := Lib.hid h
      clear h
      go_enter Try.func71, Try.ntmps71
      go_wp2_with fail
      refine (step_yes hm H.out).mono ?_
      rintro e w1 ⟨rfl, hm1, ho1⟩
      have hc := hm1.mem.cell
      have hwc : w1.cell? ⟨m.wb, a.toNat, none⟩ = some (.int .u64 (s.at a)) := hm1.cell H.out
      have hn := hm1.len
      obtain ⟨h0, h1⟩ := H.out
      have H := Lib.hid (show s.ok a from ⟨h0, h1⟩)
      go_wp2_with fail
      refine (set_yes hm1 H.out HV.out).mono ?_
      rintro e w2 ⟨rfl, hm2, ho2⟩
      go_wp2
      go_ret2
      obtain ⟨g1, g3⟩ := HG.out
      exact ⟨⟨0, by rw [g1]; rfl⟩, by rw [g3]; exact hm2, ho1.trans' ho2 (fun _ h _ => h)⟩
    · have hg : s.can a old = false ∧ s.cas a old v = s.tick a := by unfold MS.can MS.cas; rw [if_pos h, if_neg he]; exact ⟨decide_eq_false (fun x => he x.2), rfl⟩
      have HG := Lib.hid hg
      clear hg
      have he1 : (s.at a == old) = false := by simpa using he
      have he2 : (s.at a != old) = true := by simpa using he
      clear he
      have H := Lib.hid h
      clear h
      go_enter Try.func71, Try.ntmps71
      go_wp2_with fail
      refine (step_yes hm H.out).mono ?_
      rintro e w1 ⟨rfl, hm1, ho1⟩
      have hc := hm1.mem.cell
      have hwc : w1.cell? ⟨m.wb, a.toNat, none⟩ = some (.int .u64 (s.at a)) := hm1.cell H.out
      have hn := hm1.len
      obtain ⟨h0, h1⟩ := H.out
      go_wp2
      go_ret2
      obtain ⟨g1, g3⟩ := HG.out
      exact ⟨⟨0, by rw [g1]; rfl⟩, by rw [g3]; exact hm1, ho1⟩
  · have hg : s.can a old = false ∧ s.cas a old v = s := by unfold MS.can MS.cas; rw [if_neg h]; exact ⟨decide_eq_false (fun x => h x.1), rfl⟩
    have HG := Lib.hid hg
    clear hg
    have H := Lib.hid h
    clear h
    go_enter Try.func71, Try.ntmps71
    go_wp2_with fail
    refine (step_no hm H.out).mono ?_
    rintro e w1 ⟨rfl, rfl⟩
    go_wp2
    go_ret2
    obtain ⟨g1, g3⟩ := HG.out
    exact ⟨⟨2, by rw [g1]; rfl⟩, by rw [g3]; exact hm, Only.refl _ _⟩

set_option maxHeartbeats 400000 in
theorem add_any {d : Int} (hm : MemR w m s) :
    Calls Try.prog 56 #[.pointer (some ⟨m.b, 0, none⟩), .int .i64 a, .int .u64 d] w fun e w' => (∃ x y : Int, e = .returned (.tuple #[.int .u64 x, .int .i64 y])) ∧ MemR w' m (s.add a d) ∧ Only m.l w w' := by
  by_cases h : s.ok a
  · have hg : s.add a d = (s.tick a).put a (IntKind.u64.wrap (s.at a + d)) := by unfold MS.add; rw [if_pos h]
    have HG := Lib.hid hg
    clear hg
    have H := Lib.hid h
    clear h
    go_enter Try.func56, Try.ntmps56
    go_wp2_with fail
    refine (step_yes hm H.out).mono ?_
    rintro e w1 ⟨rfl, hm1, ho1⟩
    have hc := hm1.mem.cell
    have hwc : w1.cell? ⟨m.wb, a.toNat, none⟩ = some (.int .u64 (s.at a)) := hm1.cell H.out
    have hn := hm1.len
    obtain ⟨h0, h1⟩ := H.out
    have H := Lib.hid (show s.ok a from ⟨h0, h1⟩)
    go_wp2_with fail
    refine (set_yes hm1 H.out (u64_wrap _)).mono ?_
    rintro e w2 ⟨rfl, hm2, ho2⟩
    go_wp2
    go_ret2
    exact ⟨⟨s.at a, 0, rfl⟩, by rw [HG.out]; exact hm2, ho1.trans' ho2 (fun _ h _ => h)⟩
  · have hg : s.add a d = s := by unfold MS.add; rw [if_neg h]
    have HG := Lib.hid hg
    clear hg
    have H := Lib.hid h
    clear h
    go_enter Try.func56, Try.ntmps56
    go_wp2_with fail
    refine (step_no hm H.out).mono ?_
    rintro e w1 ⟨rfl, rfl⟩
    go_wp2
    go_ret2
    exact ⟨⟨0, 2, rfl⟩, by rw [HG.out]; exact hm, Only.refl _ _⟩

set_option maxHeartbeats 400000 in
theorem last_any (hm : MemR w m s) :
    Calls Try.prog 62 #[.pointer (some ⟨m.b, 0, none⟩)] w fun e w' => e = .returned (.agg #[.int .i64 s.la, .int .i64 s.lw, .bool s.ch]) ∧ Only [] w w' := by
  have hc := hm.mem.cell
  have hb := hm.mem.lt
  go_enter Try.func62, Try.ntmps62
  go_wp2
  exact bodyPost_ret (v := .agg #[.int .i64 s.la, .int .i64 s.lw, .bool s.ch]) (by simp [results, Try.results62, go_sem]) rfl ⟨rfl, (Only.refl _ _).alloc _⟩

/-! The same through an arena. -/
theorem hbox (k : Cfg) (wh : Int) : ∀ o, (w.alloc (.cells #[.int .i64 k.t, .int .i64 k.s, .int .i64 k.c, .int .i64 k.w, .int .i64 k.g, .int .i64 k.p, .int .i64 k.r, .pointer (some ⟨m.b, 0, none⟩), .int .i64 wh] 47)).cell? ⟨w.heap.size, o, none⟩ = (#[.int .i64 k.t, .int .i64 k.s, .int .i64 k.c, .int .i64 k.w, .int .i64 k.g, .int .i64 k.p, .int .i64 k.r, .pointer (some ⟨m.b, 0, none⟩), .int .i64 wh] : Array Value)[o]? := (Blk.new w #[.int .i64 k.t, .int .i64 k.s, .int .i64 k.c, .int .i64 k.w, .int .i64 k.g, .int .i64 k.p, .int .i64 k.r, .pointer (some ⟨m.b, 0, none⟩), .int .i64 wh] 47).cell

set_option maxHeartbeats 400000 in
theorem now_env (k : Cfg) (wh : Int) (hm : MemR w m s) :
    Calls Try.prog 61 #[.agg #[.int .i64 k.t, .int .i64 k.s, .int .i64 k.c, .int .i64 k.w, .int .i64 k.g, .int .i64 k.p, .int .i64 k.r, .pointer (some ⟨m.b, 0, none⟩), .int .i64 wh]] w fun e w' => e = .returned (.int .i64 s.steps) ∧ w' = w.alloc (.cells #[.int .i64 k.t, .int .i64 k.s, .int .i64 k.c, .int .i64 k.w, .int .i64 k.g, .int .i64 k.p, .int .i64 k.r, .pointer (some ⟨m.b, 0, none⟩), .int .i64 wh] 47) := by
  go_enter Try.func61, Try.ntmps61
  go_wp2_with fail
  refine (steps_any (hm.alloc _)).mono ?_
  rintro e w1 ⟨rfl, rfl⟩
  go_wp2
  go_ret
  exact ⟨rfl, rfl⟩

set_option maxHeartbeats 400000 in
theorem load_env (k : Cfg) (wh : Int) (hm : MemR w m s) :
    Calls Try.prog 69 #[.agg #[.int .i64 k.t, .int .i64 k.s, .int .i64 k.c, .int .i64 k.w, .int .i64 k.g, .int .i64 k.p, .int .i64 k.r, .pointer (some ⟨m.b, 0, none⟩), .int .i64 wh], .int .i64 a] w fun e w' => e = .returned (.int .u64 (s.get a)) ∧ MemR w' m ((s.by wh).load a) ∧ Only m.l w w' := by
  go_enter Try.func69, Try.ntmps69
  go_wp2_with fail
  refine (by_any (hm.alloc _) wh).mono ?_
  rintro e w1 ⟨rfl, hm1, ho1⟩
  have hx := ((Blk.new w #[.int .i64 k.t, .int .i64 k.s, .int .i64 k.c, .int .i64 k.w, .int .i64 k.g, .int .i64 k.p, .int .i64 k.r, .pointer (some ⟨m.b, 0, none⟩), .int .i64 wh] 47).only ho1 (hm.notin (Nat.le_refl _))).cell
  go_wp2_with fail
  refine (load_any hm1).mono ?_
  rintro e w2 ⟨rfl, hm2, ho2⟩
  go_wp2
  go_ret
  exact ⟨rfl, hm2, (((Only.refl _ w).alloc _).trans' ho1 (fun _ h _ => h)).trans' ho2 (fun _ h _ => h)⟩

set_option maxHeartbeats 400000 in
theorem store_env (k : Cfg) (wh : Int) (hm : MemR w m s) (hv : U64 v) :
    Calls Try.prog 70 #[.agg #[.int .i64 k.t, .int .i64 k.s, .int .i64 k.c, .int .i64 k.w, .int .i64 k.g, .int .i64 k.p, .int .i64 k.r, .pointer (some ⟨m.b, 0, none⟩), .int .i64 wh], .int .i64 a, .int .u64 v] w fun e w' => e = .returned (.tuple #[]) ∧ MemR w' m ((s.by wh).store a v) ∧ Only m.l w w' := by
  have HV := Lib.hid hv
  clear hv
  go_enter Try.func70, Try.ntmps70
  go_wp2_with fail
  refine (by_any (hm.alloc _) wh).mono ?_
  rintro e w1 ⟨rfl, hm1, ho1⟩
  have hx := ((Blk.new w #[.int .i64 k.t, .int .i64 k.s, .int .i64 k.c, .int .i64 k.w, .int .i64 k.g, .int .i64 k.p, .int .i64 k.r, .pointer (some ⟨m.b, 0, none⟩), .int .i64 wh] 47).only ho1 (hm.notin (Nat.le_refl _))).cell
  go_wp2_with fail
  refine (store_any hm1 HV.out).mono ?_
  rintro e w2 ⟨rfl, hm2, ho2⟩
  go_wp2
  go_end0
  exact ⟨rfl, hm2, (((Only.refl _ w).alloc _).trans' ho1 (fun _ h _ => h)).trans' ho2 (fun _ h _ => h)⟩

set_option maxHeartbeats 400000 in
theorem cas_env {old : Int} (k : Cfg) (wh : Int) (hm : MemR w m s) (hv : U64 v) :
    Calls Try.prog 72 #[.agg #[.int .i64 k.t, .int .i64 k.s, .int .i64 k.c, .int .i64 k.w, .int .i64 k.g, .int .i64 k.p, .int .i64 k.r, .pointer (some ⟨m.b, 0, none⟩), .int .i64 wh], .int .i64 a, .int .u64 old, .int .u64 v] w fun e w' => e = .returned (.bool (s.can a old)) ∧ MemR w' m ((s.by wh).cas a old v) ∧ Only m.l w w' := by
  have HV := Lib.hid hv
  clear hv
  go_enter Try.func72, Try.ntmps72
  go_wp2_with fail
  refine (by_any (hm.alloc _) wh).mono ?_
  rintro e w1 ⟨rfl, hm1, ho1⟩
  have hx := ((Blk.new w #[.int .i64 k.t, .int .i64 k.s, .int .i64 k.c, .int .i64 k.w, .int .i64 k.g, .int .i64 k.p, .int .i64 k.r, .pointer (some ⟨m.b, 0, none⟩), .int .i64 wh] 47).only ho1 (hm.notin (Nat.le_refl _))).cell
  go_wp2_with fail
  refine (cas_any hm1 HV.out).mono ?_
  rintro e w2 ⟨⟨x, rfl⟩, hm2, ho2⟩
  go_wp2
  go_ret
  exact ⟨rfl, hm2, (((Only.refl _ w).alloc _).trans' ho1 (fun _ h _ => h)).trans' ho2 (fun _ h _ => h)⟩

set_option maxHeartbeats 400000 in
theorem add_env {d : Int} (k : Cfg) (wh : Int) (hm : MemR w m s) (h0 : 0 ≤ d) (h1 : d < 18446744073709551616) :
    Calls Try.prog 73 #[.agg #[.int .i64 k.t, .int .i64 k.s, .int .i64 k.c, .int .i64 k.w, .int .i64 k.g, .int .i64 k.p, .int .i64 k.r, .pointer (some ⟨m.b, 0, none⟩), .int .i64 wh], .int .i64 a, .int .i64 d] w fun e w' => e = .returned (.tuple #[]) ∧ MemR w' m ((s.by wh).add a d) ∧ Only m.l w w' := by
  go_enter Try.func73, Try.ntmps73
  go_wp2_with fail
  refine (by_any (hm.alloc _) wh).mono ?_
  rintro e w1 ⟨rfl, hm1, ho1⟩
  have hx := ((Blk.new w #[.int .i64 k.t, .int .i64 k.s, .int .i64 k.c, .int .i64 k.w, .int .i64 k.g, .int .i64 k.p, .int .i64 k.r, .pointer (some ⟨m.b, 0, none⟩), .int .i64 wh] 47).only ho1 (hm.notin (Nat.le_refl _))).cell
  go_wp2_with fail
  refine (add_any hm1).mono ?_
  rintro e w2 ⟨⟨x, y, rfl⟩, hm2, ho2⟩
  go_wp2
  go_end0
  exact ⟨rfl, hm2, (((Only.refl _ w).alloc _).trans' ho1 (fun _ h _ => h)).trans' ho2 (fun _ h _ => h)⟩

end
end Go.Proofs.Yteoimmjgnflmmaa
