/-
  A thread that wants words of a class: its steps as one law; what they touch and leave.
-/
import Derived.Test.YteoimmjgnflmmaaPl2
import Derived.Test.YteoimmjgnflmmaaPl3
import Derived.Test.YteoimmjgnflmmaaFrA
namespace Go.Proofs.Yteoimmjgnflmmaa
open Go.RowKit Go.BigFrame

def placeStep (k : Cfg) (wh : Int) (s : MS) (p : PlS) : Bool × MS × PlS :=
  if p.pc = 0 then (false, (s.by wh).load (aOpen p.cl), if decide (s.get (aOpen p.cl) - 1 < 0) = true then { p with pc := 3, op := s.get (aOpen p.cl), i := 0 } else { p with pc := 1, op := s.get (aOpen p.cl), i := s.get (aOpen p.cl) - 1 })
  else if p.pc = 1 then (false, (s.by wh).load (aChunk k p.i), if decide (chSt (s.get (aChunk k p.i)) = 1 ∧ chCl (s.get (aChunk k p.i)) = p.cl ∧ chUs (s.get (aChunk k p.i)) + room p.cl ≤ k.w) = true then { p with pc := 2, w := s.get (aChunk k p.i) } else { p with pc := 3, w := s.get (aChunk k p.i), i := 0 })
  else if p.pc = 2 then (s.can (aChunk k p.i) p.w, (s.by wh).cas (aChunk k p.i) p.w (plGetW p), if s.can (aChunk k p.i) p.w = true then { p with pc := 0, sa := aBase k p.i + chUs p.w, sc := p.i, ok := true } else { p with pc := 0 })
  else if p.pc = 3 then (!decide (chSt (s.get (aChunk k p.i)) = 0) && decide (k.c ≤ p.i + 1), (s.by wh).load (aChunk k p.i), if decide (chSt (s.get (aChunk k p.i)) = 0) = true then { p with pc := 4, w := s.get (aChunk k p.i) } else { p with pc := 3, w := s.get (aChunk k p.i), i := p.i + 1 })
  else if p.pc = 4 then (!s.can (aChunk k p.i) p.w && decide (k.c ≤ p.i + 1), (s.by wh).cas (aChunk k p.i) p.w (plFresh p), if s.can (aChunk k p.i) p.w = true then { p with pc := 5 } else { p with pc := 3, i := p.i + 1 })
  else if p.pc = 5 then (false, (s.by wh).cas (aOpen p.cl) p.op (p.i + 1), if s.can (aOpen p.cl) p.op = true then { p with pc := 0 } else { p with pc := 6 })
  else (false, (s.by wh).cas (aChunk k p.i) (plFresh p) (putChunk 0 0 0 (chSp p.w + 2)), { p with pc := 0 })

/-- What somebody may be. -/
structure PI (n : Nat) (p : PlS) : Prop where
  cl : p.cl = 0 ∨ p.cl = 1 ∨ p.cl = 2 ∨ p.cl = 3
  pc : p.pc = 0 ∨ p.pc = 1 ∨ p.pc = 2 ∨ p.pc = 3 ∨ p.pc = 4 ∨ p.pc = 5 ∨ p.pc = 6
  i : p.pc ≠ 0 → 0 ≤ p.i ∧ p.i < (n : Int)
  w : U64 p.w
/-- What a memory is in which words are given out. -/
structure PM (k : Cfg) (n : Nat) (s : MS) : Prop where
  c : k.c = (n : Int)
  len : (s.ws.length : Int) = aLen k
  op : ∀ c, c = 0 ∨ c = 1 ∨ c = 2 ∨ c = 3 → 0 ≤ s.at (2 + c) ∧ s.at (2 + c) ≤ (n : Int)
  rng : ∀ x ∈ s.ws, U64 x

section
variable {w : World} {m : MB} {k : Cfg} {n : Nat} {s s' : MS} {p p' : PlS} {wh : Int} {b : Bool}

theorem PM.at_rng (h : PM k n s) (a : Int) : U64 (s.at a) := by
  unfold MS.at
  by_cases ha : a.toNat < s.ws.length
  · rw [List.getD_eq_getElem?_getD, List.getElem?_eq_getElem ha]
    exact h.rng _ (List.getElem_mem ha)
  · rw [List.getD_eq_getElem?_getD, List.getElem?_eq_none (by omega)]
    exact ⟨by decide, by decide⟩
theorem aOpen_ok {c : Int} (h : c = 0 ∨ c = 1 ∨ c = 2 ∨ c = 3) : aOpen c = 2 + c := by
  unfold aOpen wrap64; omega
theorem PM.len_ge (h : PM k n s) (hk : k.Ok) : 6 + k.t + 2 * k.s + 3 * n ≤ (s.ws.length : Int) := by
  rw [h.len, aLen_ok hk, h.c]
  have : 0 ≤ k.w * (n : Int) := Int.mul_nonneg (by have := hk.w0; omega) (by omega)
  omega
theorem PM.okO (h : PM k n s) (hk : k.Ok) {c : Int} (hc : c = 0 ∨ c = 1 ∨ c = 2 ∨ c = 3) : s.ok (aOpen c) := by
  have := h.len_ge hk
  have := hk.t0; have := hk.s0
  rw [aOpen_ok hc]
  unfold MS.ok; omega
theorem PM.okC (h : PM k n s) (hk : k.Ok) {i : Int} (h0 : 0 ≤ i) (h1 : i < (n : Int)) : s.ok (aChunk k i) := by
  have := h.len_ge hk
  have := hk.t0; have := hk.s0; have := hk.c1; have := h.c
  rw [aChunk_ok hk h0 (by omega)]
  unfold MS.ok; omega

theorem place_step (tb : Nat) (hk : k.Ok) (hM : PM k n s) (hI : PI n p) (hst : placeStep k wh s p = (b, s', p')) (hm : MemR w m s) (hb : Blk w tb p.cs 145) (n1 : tb ≠ m.b) (n2 : tb ≠ m.wb) (n3 : tb ≠ m.hb) :
    Calls Try.prog 85 #[.pointer (some ⟨tb, 0, none⟩), .agg #[.int .i64 k.t, .int .i64 k.s, .int .i64 k.c, .int .i64 k.w, .int .i64 k.g, .int .i64 k.p, .int .i64 k.r, .pointer (some ⟨m.b, 0, none⟩), .int .i64 wh]] w fun e w' =>
      e = .returned (.bool b) ∧ MemR w' m s' ∧ Blk w' tb p'.cs 145 ∧ Only [m.b, m.wb, m.hb, tb] w w' := by
  have hc1 := hk.c1
  have hkc := hM.c
  have hop := hM.op p.cl hI.cl
  have hgo : s.get (aOpen p.cl) ≤ 1000 := by rw [get_ok _ _ (hM.okO hk hI.cl), aOpen_ok hI.cl]; omega
  unfold placeStep at hst
  rcases hI.pc with h | h | h | h | h | h | h
  · rw [if_pos h] at hst
    simp only [Prod.mk.injEq] at hst
    obtain ⟨rfl, rfl, rfl⟩ := hst
    exact place_look _ k wh p tb hm hb h hgo rfl n1 n2 n3
  · rw [if_neg (by omega), if_pos h] at hst
    simp only [Prod.mk.injEq] at hst
    obtain ⟨rfl, rfl, rfl⟩ := hst
    exact place_see _ k wh p tb hm hb h hI.cl rfl n1 n2 n3
  · obtain ⟨hi0, hi1⟩ := hI.i (by omega)
    rw [if_neg (by omega), if_neg (by omega), if_pos h] at hst
    simp only [Prod.mk.injEq] at hst
    obtain ⟨rfl, rfl, rfl⟩ := hst
    have hbs := aBase_ok hk hi0 (by omega)
    have hmb : 0 ≤ k.w * p.i ∧ k.w * p.i ≤ 256 * 64 := ⟨Int.mul_nonneg (by have := hk.w0; omega) hi0, Int.mul_le_mul hk.w1 (by omega) hi0 (by decide)⟩
    exact place_get _ k wh p tb hm hb h hI.cl hI.w (by rw [hbs]; have := hk.t0; have := hk.s0; omega) (by rw [hbs]; have := hk.t1; have := hk.s1; omega) rfl n1 n2 n3
  · obtain ⟨hi0, hi1⟩ := hI.i (by omega)
    rw [if_neg (by omega), if_neg (by omega), if_neg (by omega), if_pos h] at hst
    simp only [Prod.mk.injEq] at hst
    obtain ⟨rfl, rfl, rfl⟩ := hst
    exact place_scan _ k wh p tb hm hb h hi0 (by omega) rfl n1 n2 n3
  · obtain ⟨hi0, hi1⟩ := hI.i (by omega)
    rw [if_neg (by omega), if_neg (by omega), if_neg (by omega), if_neg (by omega), if_pos h] at hst
    simp only [Prod.mk.injEq] at hst
    obtain ⟨rfl, rfl, rfl⟩ := hst
    exact place_take _ k wh p tb hm hb h hi0 (by omega) hI.w rfl n1 n2 n3
  · obtain ⟨hi0, hi1⟩ := hI.i (by omega)
    rw [if_neg (by omega), if_neg (by omega), if_neg (by omega), if_neg (by omega), if_neg (by omega), if_pos h] at hst
    simp only [Prod.mk.injEq] at hst
    obtain ⟨rfl, rfl, rfl⟩ := hst
    exact place_open _ k wh p tb hm hb h hi0 (by omega) rfl n1 n2 n3
  · rw [if_neg (by omega), if_neg (by omega), if_neg (by omega), if_neg (by omega), if_neg (by omega), if_neg (by omega)] at hst
    simp only [Prod.mk.injEq] at hst
    obtain ⟨rfl, rfl, rfl⟩ := hst
    exact place_leave k wh p tb hm hb h hI.w n1 n2 n3

theorem load_touch {a : Int} (h : s.ok a) : ((s.by wh).load a).steps = wrap64 (s.steps + 1) ∧ ((s.by wh).load a).la = a ∧ ((s.by wh).load a).ws = s.ws := by
  have h' : (s.by wh).ok a := h
  unfold MS.load
  rw [if_pos h']
  exact ⟨rfl, rfl, rfl⟩
theorem cas_touch {a o v : Int} (h : s.ok a) : ((s.by wh).cas a o v).steps = wrap64 (s.steps + 1) ∧ ((s.by wh).cas a o v).la = a ∧ ((s.by wh).cas a o v).ws = if s.at a = o then s.ws.set a.toNat v else s.ws := by
  have h' : (s.by wh).ok a := h
  refine ⟨?_, ?_, ?_⟩
  · unfold MS.cas; rw [if_pos h']; split <;> rfl
  · unfold MS.cas; rw [if_pos h']; split <;> rfl
  · rw [cas_ws]
    by_cases h2 : s.at a = o
    · rw [if_pos ⟨h', h2⟩, if_pos h2]; rfl
    · rw [if_neg (fun x => h2 x.2), if_neg h2]; rfl

theorem PM.same (h : PM k n s) (hw : s'.ws = s.ws) : PM k n s' :=
  ⟨h.c, by rw [hw]; exact h.len, fun c hc => by unfold MS.at; rw [hw]; exact h.op c hc, by rw [hw]; exact h.rng⟩
theorem set_rng {l : List Int} {i : Nat} {v : Int} (h : ∀ x ∈ l, U64 x) (hv : U64 v) : ∀ x ∈ l.set i v, U64 x := fun x hx => by
  rcases List.mem_or_eq_of_mem_set hx with hx | hx
  · exact h x hx
  · exact hx ▸ hv
theorem PM.setC (h : PM k n s) (hk : k.Ok) {i v : Int} (h0 : 0 ≤ i) (h1 : i < (n : Int)) (hv : U64 v) (hw : s'.ws = s.ws.set (aChunk k i).toNat v) : PM k n s' := by
  have := hk.t0; have := hk.s0; have := hk.c1; have := h.c
  have e := aChunk_ok hk h0 (by omega)
  have hC := h.okC hk h0 h1
  refine ⟨h.c, by rw [hw]; simpa using h.len, fun c hc => ?_, by rw [hw]; exact set_rng h.rng hv⟩
  have : s'.at (2 + c) = s.at (2 + c) := by
    unfold MS.at
    rw [hw, set_at _ _ _ hC (by omega), if_neg (by omega)]
  rw [this]
  exact h.op c hc
theorem PM.setO (h : PM k n s) (hk : k.Ok) {c v : Int} (hc : c = 0 ∨ c = 1 ∨ c = 2 ∨ c = 3) (h0 : 0 ≤ v) (h1 : v ≤ (n : Int)) (hv : U64 v) (hw : s'.ws = s.ws.set (aOpen c).toNat v) : PM k n s' := by
  have hO := h.okO hk hc
  have e := aOpen_ok hc
  refine ⟨h.c, by rw [hw]; simpa using h.len, fun d hd => ?_, by rw [hw]; exact set_rng h.rng hv⟩
  have : s'.at (2 + d) = if 2 + d = aOpen c then v else s.at (2 + d) := by
    unfold MS.at
    rw [hw, set_at _ _ _ hO (by omega)]
  rw [this]
  split
  · exact ⟨h0, h1⟩
  · exact h.op d hd

/-- What a step touches, and that what may be goes on to be. -/
theorem place_law (hk : k.Ok) (hM : PM k n s) (hI : PI n p) (hst : placeStep k wh s p = (b, s', p')) :
    s'.steps = wrap64 (s.steps + 1) ∧ ((s'.la = 2 + p.cl) ∨ (∃ i, 0 ≤ i ∧ i < (n : Int) ∧ s'.la = aChunk k i)) ∧
      (s'.ws = s.ws ∨ ∃ v, U64 v ∧ s'.ws = s.ws.set s'.la.toNat v) ∧ PM k n s' ∧ (b = false → PI n p') ∧ p'.cl = p.cl ∧ (p.ok = false → b = false → p'.ok = false) := by
  have hc0 := hk.c0
  have hc1 := hk.c1
  have hkc := hM.c
  have hop := hM.op p.cl hI.cl
  have hO := hM.okO hk hI.cl
  have hgo : s.get (aOpen p.cl) = s.at (2 + p.cl) := by rw [get_ok _ _ hO, aOpen_ok hI.cl]
  unfold placeStep at hst
  rcases hI.pc with h | h | h | h | h | h | h
  · rw [if_pos h] at hst
    simp only [Prod.mk.injEq] at hst
    obtain ⟨rfl, rfl, rfl⟩ := hst
    obtain ⟨t1, t2, t3⟩ := load_touch (wh := wh) hO
    refine ⟨t1, .inl (by rw [t2, aOpen_ok hI.cl]), .inl t3, hM.same t3, fun _ => ?_, by split <;> rfl, fun ho _ => by split <;> exact ho⟩
    rw [hgo]
    split
    · exact ⟨hI.cl, .inr (.inr (.inr (.inl rfl))), fun _ => ⟨by simp, by simp only; omega⟩, hI.w⟩
    · rename_i hd
      have : ¬ s.at (2 + p.cl) - 1 < 0 := by simpa using hd
      exact ⟨hI.cl, .inr (.inl rfl), fun _ => ⟨by simp only; omega, by simp only; omega⟩, hI.w⟩
  · obtain ⟨hi0, hi1⟩ := hI.i (by omega)
    have hC := hM.okC hk hi0 hi1
    rw [if_neg (by omega), if_pos h] at hst
    simp only [Prod.mk.injEq] at hst
    obtain ⟨rfl, rfl, rfl⟩ := hst
    obtain ⟨t1, t2, t3⟩ := load_touch (wh := wh) hC
    have hU : U64 (s.get (aChunk k p.i)) := by rw [get_ok _ _ hC]; exact hM.at_rng _
    refine ⟨t1, .inr ⟨p.i, hi0, hi1, t2⟩, .inl t3, hM.same t3, fun _ => ?_, by split <;> rfl, fun ho _ => by split <;> exact ho⟩
    split
    · exact ⟨hI.cl, .inr (.inr (.inl rfl)), fun _ => ⟨hi0, hi1⟩, hU⟩
    · exact ⟨hI.cl, .inr (.inr (.inr (.inl rfl))), fun _ => ⟨by simp, by simp only; omega⟩, hU⟩
  · obtain ⟨hi0, hi1⟩ := hI.i (by omega)
    have hC := hM.okC hk hi0 hi1
    rw [if_neg (by omega), if_neg (by omega), if_pos h] at hst
    simp only [Prod.mk.injEq] at hst
    obtain ⟨rfl, rfl, rfl⟩ := hst
    obtain ⟨t1, t2, t3⟩ := cas_touch (wh := wh) (o := p.w) (v := plGetW p) hC
    have hv : U64 (plGetW p) := putChunk_rng _ _ _ _
    refine ⟨t1, .inr ⟨p.i, hi0, hi1, t2⟩, ?_, ?_, fun hb => ?_, by split <;> rfl, fun ho hb => by rw [hb]; exact ho⟩
    · rw [t2, t3]; split
      · exact .inr ⟨_, hv, rfl⟩
      · exact .inl rfl
    · by_cases he : s.at (aChunk k p.i) = p.w
      · rw [if_pos he] at t3; exact hM.setC hk hi0 hi1 hv t3
      · rw [if_neg he] at t3; exact hM.same t3
    · rw [hb]
      exact ⟨hI.cl, .inl rfl, fun hh => absurd rfl hh, hI.w⟩
  · obtain ⟨hi0, hi1⟩ := hI.i (by omega)
    have hC := hM.okC hk hi0 hi1
    rw [if_neg (by omega), if_neg (by omega), if_neg (by omega), if_pos h] at hst
    simp only [Prod.mk.injEq] at hst
    obtain ⟨hb, rfl, rfl⟩ := hst
    obtain ⟨t1, t2, t3⟩ := load_touch (wh := wh) hC
    have hU : U64 (s.get (aChunk k p.i)) := by rw [get_ok _ _ hC]; exact hM.at_rng _
    refine ⟨t1, .inr ⟨p.i, hi0, hi1, t2⟩, .inl t3, hM.same t3, fun hbf => ?_, by split <;> rfl, fun ho _ => by split <;> exact ho⟩
    split
    · exact ⟨hI.cl, .inr (.inr (.inr (.inr (.inl rfl)))), fun _ => ⟨hi0, hi1⟩, hU⟩
    · rename_i hd
      rw [hbf] at hb
      have hd' : decide (chSt (s.get (aChunk k p.i)) = 0) = false := by simpa using hd
      rw [hd'] at hb
      have : ¬ k.c ≤ p.i + 1 := by simpa using hb
      exact ⟨hI.cl, .inr (.inr (.inr (.inl rfl))), fun _ => ⟨by simp only; omega, by simp only; omega⟩, hU⟩
  · obtain ⟨hi0, hi1⟩ := hI.i (by omega)
    have hC := hM.okC hk hi0 hi1
    rw [if_neg (by omega), if_neg (by omega), if_neg (by omega), if_neg (by omega), if_pos h] at hst
    simp only [Prod.mk.injEq] at hst
    obtain ⟨hb, rfl, rfl⟩ := hst
    obtain ⟨t1, t2, t3⟩ := cas_touch (wh := wh) (o := p.w) (v := plFresh p) hC
    have hv : U64 (plFresh p) := putChunk_rng _ _ _ _
    refine ⟨t1, .inr ⟨p.i, hi0, hi1, t2⟩, ?_, ?_, fun hbf => ?_, by split <;> rfl, fun ho _ => by split <;> exact ho⟩
    · rw [t2, t3]; split
      · exact .inr ⟨_, hv, rfl⟩
      · exact .inl rfl
    · by_cases he : s.at (aChunk k p.i) = p.w
      · rw [if_pos he] at t3; exact hM.setC hk hi0 hi1 hv t3
      · rw [if_neg he] at t3; exact hM.same t3
    · split
      · exact ⟨hI.cl, .inr (.inr (.inr (.inr (.inr (.inl rfl))))), fun _ => ⟨hi0, hi1⟩, hI.w⟩
      · rename_i hd
        rw [hbf] at hb
        have hd' : s.can (aChunk k p.i) p.w = false := by simpa using hd
        rw [hd'] at hb
        have : ¬ k.c ≤ p.i + 1 := by simpa using hb
        exact ⟨hI.cl, .inr (.inr (.inr (.inl rfl))), fun _ => ⟨by simp only; omega, by simp only; omega⟩, hI.w⟩
  · obtain ⟨hi0, hi1⟩ := hI.i (by omega)
    rw [if_neg (by omega), if_neg (by omega), if_neg (by omega), if_neg (by omega), if_neg (by omega), if_pos h] at hst
    simp only [Prod.mk.injEq] at hst
    obtain ⟨rfl, rfl, rfl⟩ := hst
    obtain ⟨t1, t2, t3⟩ := cas_touch (wh := wh) (o := p.op) (v := p.i + 1) hO
    have hv : U64 (p.i + 1) := ⟨by omega, by omega⟩
    refine ⟨t1, .inl (by rw [t2, aOpen_ok hI.cl]), ?_, ?_, fun _ => ?_, by split <;> rfl, fun ho _ => by split <;> exact ho⟩
    · rw [t2, t3]; split
      · exact .inr ⟨_, hv, rfl⟩
      · exact .inl rfl
    · by_cases he : s.at (aOpen p.cl) = p.op
      · rw [if_pos he] at t3; exact hM.setO hk hI.cl (by omega) (by omega) hv t3
      · rw [if_neg he] at t3; exact hM.same t3
    · split
      · exact ⟨hI.cl, .inl rfl, fun hh => absurd rfl hh, hI.w⟩
      · exact ⟨hI.cl, .inr (.inr (.inr (.inr (.inr (.inr rfl))))), fun _ => ⟨hi0, hi1⟩, hI.w⟩
  · obtain ⟨hi0, hi1⟩ := hI.i (by omega)
    have hC := hM.okC hk hi0 hi1
    rw [if_neg (by omega), if_neg (by omega), if_neg (by omega), if_neg (by omega), if_neg (by omega), if_neg (by omega)] at hst
    simp only [Prod.mk.injEq] at hst
    obtain ⟨rfl, rfl, rfl⟩ := hst
    obtain ⟨t1, t2, t3⟩ := cas_touch (wh := wh) (o := plFresh p) (v := putChunk 0 0 0 (chSp p.w + 2)) hC
    have hv : U64 (putChunk 0 0 0 (chSp p.w + 2)) := putChunk_rng _ _ _ _
    refine ⟨t1, .inr ⟨p.i, hi0, hi1, t2⟩, ?_, ?_, fun _ => ⟨hI.cl, .inl rfl, fun hh => absurd rfl hh, hI.w⟩, rfl, fun ho _ => ho⟩
    · rw [t2, t3]; split
      · exact .inr ⟨_, hv, rfl⟩
      · exact .inl rfl
    · by_cases he : s.at (aChunk k p.i) = plFresh p
      · rw [if_pos he] at t3; exact hM.setC hk hi0 hi1 hv t3
      · rw [if_neg he] at t3; exact hM.same t3
end
end Go.Proofs.Yteoimmjgnflmmaa
