/-
  Plain law of many who want words of a class at the same time: no word is given to two.
-/
import Derived.Test.YteoimmjgnflmmaaPlA
namespace Go.Proofs.Yteoimmjgnflmmaa
open Go.RowKit

/-- Chunk i's word. -/
def cw (k : Cfg) (s : MS) (i : Int) : Int := s.at (aChunk k i)
theorem fit_id {n k : Int} (h0 : 0 ≤ n) (h1 : n ≤ k) : fit n k = n := by unfold fit; rw [if_neg (by omega), if_neg (by omega)]
theorem chSt_put {a b c d : Int} (h0 : 0 ≤ a) (h1 : a ≤ 3) : chSt (putChunk a b c d) = a := by
  unfold chSt putChunk
  rw [fit_id h0 h1]
  omega
theorem chCl_put {a b c d : Int} (h0 : 0 ≤ b) (h1 : b ≤ 63) : chCl (putChunk a b c d) = b := by
  have := fit_bd a 3 (by decide)
  unfold chCl putChunk
  rw [fit_id h0 h1]
  omega
theorem chUs_put {a b c d : Int} (h0 : 0 ≤ c) (h1 : c ≤ 1048575) : chUs (putChunk a b c d) = c := by
  have := fit_bd a 3 (by decide)
  have := fit_bd b 63 (by decide)
  unfold chUs putChunk
  rw [fit_id h0 h1]
  omega

/-- Of each chunk: if it is free nothing of it is given out; never more than it has. -/
def PJ (k : Cfg) (n : Nat) (s : MS) : Prop := ∀ i, 0 ≤ i → i < (n : Int) → (chSt (cw k s i) = 0 → chUs (cw k s i) = 0) ∧ chUs (cw k s i) ≤ k.w
/-- What somebody saw who goes on by it. -/
structure PT (k : Cfg) (p : PlS) : Prop where
  ok : p.ok = false
  get : p.pc = 2 → chSt p.w = 1 ∧ chCl p.w = p.cl ∧ chUs p.w + room p.cl ≤ k.w
  take : p.pc = 4 → chSt p.w = 0

section
variable {k : Cfg} {n : Nat} {s s' : MS} {p p' : PlS} {wh : Int} {b : Bool}
theorem cw_setC (hk : k.Ok) (hM : PM k n s) {i v : Int} (h0 : 0 ≤ i) (h1 : i < (n : Int)) (hw : s'.ws = s.ws.set (aChunk k i).toNat v) : ∀ j, 0 ≤ j → j < (n : Int) → cw k s' j = if j = i then v else cw k s j := fun j j0 j1 => by
  have := hk.c1; have := hM.c
  have hC := hM.okC hk h0 h1
  have hJ := hM.okC hk j0 j1
  have e1 := aChunk_ok hk h0 (by omega)
  have e2 := aChunk_ok hk j0 (by omega)
  unfold cw MS.at
  rw [hw, set_at _ _ _ hC hJ.1]
  by_cases hji : j = i
  · rw [if_pos hji, if_pos (by rw [hji])]
  · rw [if_neg hji, if_neg (by omega)]
theorem cw_setO (hk : k.Ok) (hM : PM k n s) {c v : Int} (hc : c = 0 ∨ c = 1 ∨ c = 2 ∨ c = 3) (hw : s'.ws = s.ws.set (aOpen c).toNat v) : ∀ j, 0 ≤ j → j < (n : Int) → cw k s' j = cw k s j := fun j j0 j1 => by
  have := hk.c1; have := hM.c; have := hk.t0; have := hk.s0
  have hO := hM.okO hk hc
  have hJ := hM.okC hk j0 j1
  have e1 := aOpen_ok hc
  have e2 := aChunk_ok hk j0 (by omega)
  unfold cw MS.at
  rw [hw, set_at _ _ _ hO hJ.1, if_neg (by omega)]
theorem cw_same (hw : s'.ws = s.ws) (j : Int) : cw k s' j = cw k s j := by unfold cw MS.at; rw [hw]

/-- Nothing is taken back. -/
def PUp (k : Cfg) (n : Nat) (s s' : MS) : Prop := ∀ i, 0 ≤ i → i < (n : Int) → chUs (cw k s i) ≤ chUs (cw k s' i)
theorem keep0 (hJ : PJ k n s) (h : ∀ j, 0 ≤ j → j < (n : Int) → cw k s' j = cw k s j) : PJ k n s' ∧ PUp k n s s' :=
  ⟨fun j j0 j1 => by rw [h j j0 j1]; exact hJ j j0 j1, fun j j0 j1 => by rw [h j j0 j1]; exact Int.le_refl _⟩
theorem keepC (hJ : PJ k n s) {i v : Int} (h : ∀ j, 0 ≤ j → j < (n : Int) → cw k s' j = if j = i then v else cw k s j) (h1 : chSt v = 0 → chUs v = 0) (h2 : chUs v ≤ k.w) (h3 : chUs (cw k s i) ≤ chUs v) : PJ k n s' ∧ PUp k n s s' := by
  refine ⟨fun j j0 j1 => ?_, fun j j0 j1 => ?_⟩
  · rw [h j j0 j1]
    split
    · exact ⟨h1, h2⟩
    · exact hJ j j0 j1
  · rw [h j j0 j1]
    split
    · rename_i hji; rw [hji]; exact h3
    · exact Int.le_refl _
/-- What a step that is done by words comes to. -/
def Got (k : Cfg) (n : Nat) (s s' : MS) (p p' : PlS) : Prop :=
  ∃ i, 0 ≤ i ∧ i < (n : Int) ∧ p'.sc = i ∧ p'.sa = aBase k i + chUs (cw k s i) ∧ chSt (cw k s' i) = 1 ∧ chCl (cw k s' i) = p.cl ∧ chUs (cw k s' i) = chUs (cw k s i) + room p.cl ∧ chUs (cw k s' i) ≤ k.w

theorem place_share (hk : k.Ok) (hM : PM k n s) (hI : PI n p) (hJ : PJ k n s) (hT : PT k p) (hst : placeStep k wh s p = (b, s', p')) :
    PJ k n s' ∧ PUp k n s s' ∧ (b = false → PT k p') ∧ (b = true → p'.ok = true → Got k n s s' p p') := by
  have hO := hM.okO hk hI.cl
  have hrm := room_rng hI.cl
  have hkw := hk.w1
  unfold placeStep at hst
  rcases hI.pc with h | h | h | h | h | h | h
  · rw [if_pos h] at hst
    simp only [Prod.mk.injEq] at hst
    obtain ⟨rfl, rfl, rfl⟩ := hst
    obtain ⟨_, _, t3⟩ := load_touch (wh := wh) hO
    obtain ⟨k1, k2⟩ := keep0 hJ fun j _ _ => cw_same (k := k) t3 j
    refine ⟨k1, k2, fun _ => ?_, fun hb => by cases hb⟩
    split
    · exact ⟨hT.ok, fun h => by simp at h, fun h => by simp at h⟩
    · exact ⟨hT.ok, fun h => by simp at h, fun h => by simp at h⟩
  · obtain ⟨hi0, hi1⟩ := hI.i (by omega)
    have hC := hM.okC hk hi0 hi1
    rw [if_neg (by omega), if_pos h] at hst
    simp only [Prod.mk.injEq] at hst
    obtain ⟨rfl, rfl, rfl⟩ := hst
    obtain ⟨_, _, t3⟩ := load_touch (wh := wh) hC
    obtain ⟨k1, k2⟩ := keep0 hJ fun j _ _ => cw_same (k := k) t3 j
    refine ⟨k1, k2, fun _ => ?_, fun hb => by cases hb⟩
    split
    · rename_i hd
      exact ⟨hT.ok, fun _ => of_decide_eq_true hd, fun h => by simp at h⟩
    · exact ⟨hT.ok, fun h => by simp at h, fun h => by simp at h⟩
  · obtain ⟨hi0, hi1⟩ := hI.i (by omega)
    have hC := hM.okC hk hi0 hi1
    obtain ⟨g1, g2, g3⟩ := hT.get h
    have hr := ch_rng p.w
    rw [if_neg (by omega), if_neg (by omega), if_pos h] at hst
    simp only [Prod.mk.injEq] at hst
    obtain ⟨hb, rfl, hp⟩ := hst
    obtain ⟨_, _, t3⟩ := cas_touch (wh := wh) (o := p.w) (v := plGetW p) hC
    have e1 : chSt (plGetW p) = 1 := by unfold plGetW; rw [chSt_put (by omega) (by omega)]; exact g1
    have e2 : chCl (plGetW p) = p.cl := by unfold plGetW; rw [chCl_put (by omega) (by omega)]; exact g2
    have e3 : chUs (plGetW p) = chUs p.w + room p.cl := by unfold plGetW; rw [chUs_put (by omega) (by omega)]
    by_cases he : s.at (aChunk k p.i) = p.w
    · have hcan : s.can (aChunk k p.i) p.w = true := by unfold MS.can; exact decide_eq_true ⟨hC, he⟩
      have hcw : cw k s p.i = p.w := he
      rw [if_pos he] at t3
      have hcs := cw_setC hk hM hi0 hi1 t3
      obtain ⟨k1, k2⟩ := keepC hJ hcs (by omega) (by omega) (by rw [hcw]; omega)
      have hci := hcs p.i hi0 hi1
      rw [if_pos rfl] at hci
      rw [hcan, if_pos rfl] at hp
      refine ⟨k1, k2, fun hbf => (by rw [← hb, hcan] at hbf; cases hbf), fun _ _ => ⟨p.i, hi0, hi1, by rw [← hp], by rw [← hp, hcw], by rw [hci]; exact e1, by rw [hci]; exact e2, by rw [hci, hcw]; exact e3, by rw [hci]; omega⟩⟩
    · have hcan : s.can (aChunk k p.i) p.w = false := by unfold MS.can; exact decide_eq_false (fun x => he x.2)
      rw [if_neg he] at t3
      obtain ⟨k1, k2⟩ := keep0 hJ fun j _ _ => cw_same (k := k) t3 j
      rw [hcan, if_neg (by simp)] at hp
      refine ⟨k1, k2, fun _ => by rw [← hp]; exact ⟨hT.ok, fun h => by simp at h, fun h => by simp at h⟩, fun hbt => by rw [← hb, hcan] at hbt; cases hbt⟩
  · obtain ⟨hi0, hi1⟩ := hI.i (by omega)
    have hC := hM.okC hk hi0 hi1
    rw [if_neg (by omega), if_neg (by omega), if_neg (by omega), if_pos h] at hst
    simp only [Prod.mk.injEq] at hst
    obtain ⟨hb, rfl, rfl⟩ := hst
    obtain ⟨_, _, t3⟩ := load_touch (wh := wh) hC
    obtain ⟨k1, k2⟩ := keep0 hJ fun j _ _ => cw_same (k := k) t3 j
    refine ⟨k1, k2, fun _ => ?_, fun _ ho => ?_⟩
    · split
      · rename_i hd
        exact ⟨hT.ok, fun h => by simp at h, fun _ => of_decide_eq_true hd⟩
      · exact ⟨hT.ok, fun h => by simp at h, fun h => by simp at h⟩
    · exfalso
      have hk0 := hT.ok
      split at ho <;> (rw [hk0] at ho; cases ho)
  · obtain ⟨hi0, hi1⟩ := hI.i (by omega)
    have hC := hM.okC hk hi0 hi1
    have g := hT.take h
    rw [if_neg (by omega), if_neg (by omega), if_neg (by omega), if_neg (by omega), if_pos h] at hst
    simp only [Prod.mk.injEq] at hst
    obtain ⟨hb, rfl, rfl⟩ := hst
    obtain ⟨_, _, t3⟩ := cas_touch (wh := wh) (o := p.w) (v := plFresh p) hC
    have e1 : chSt (plFresh p) = 1 := by unfold plFresh; rw [chSt_put (by decide) (by decide)]
    have e3 : chUs (plFresh p) = 0 := by unfold plFresh; rw [chUs_put (by decide) (by decide)]
    have hkk : PJ k n ((s.by wh).cas (aChunk k p.i) p.w (plFresh p)) ∧ PUp k n s ((s.by wh).cas (aChunk k p.i) p.w (plFresh p)) := by
      by_cases he : s.at (aChunk k p.i) = p.w
      · have hcw : cw k s p.i = p.w := he
        have hz := (hJ p.i hi0 hi1).1 (by rw [hcw]; exact g)
        rw [if_pos he] at t3
        exact keepC hJ (cw_setC hk hM hi0 hi1 t3) (by omega) (by have := hk.w0; omega) (by omega)
      · rw [if_neg he] at t3
        exact keep0 hJ fun j _ _ => cw_same (k := k) t3 j
    refine ⟨hkk.1, hkk.2, fun _ => ?_, fun _ ho => ?_⟩
    · split
      · exact ⟨hT.ok, fun h => by simp at h, fun h => by simp at h⟩
      · exact ⟨hT.ok, fun h => by simp at h, fun h => by simp at h⟩
    · exfalso
      have hk0 := hT.ok
      split at ho <;> (rw [hk0] at ho; cases ho)
  · obtain ⟨hi0, hi1⟩ := hI.i (by omega)
    rw [if_neg (by omega), if_neg (by omega), if_neg (by omega), if_neg (by omega), if_neg (by omega), if_pos h] at hst
    simp only [Prod.mk.injEq] at hst
    obtain ⟨rfl, rfl, rfl⟩ := hst
    obtain ⟨_, _, t3⟩ := cas_touch (wh := wh) (o := p.op) (v := p.i + 1) hO
    have hkk : PJ k n ((s.by wh).cas (aOpen p.cl) p.op (p.i + 1)) ∧ PUp k n s ((s.by wh).cas (aOpen p.cl) p.op (p.i + 1)) := by
      by_cases he : s.at (aOpen p.cl) = p.op
      · rw [if_pos he] at t3
        exact keep0 hJ (cw_setO hk hM hI.cl t3)
      · rw [if_neg he] at t3
        exact keep0 hJ fun j _ _ => cw_same (k := k) t3 j
    refine ⟨hkk.1, hkk.2, fun _ => ?_, fun hb => by cases hb⟩
    split
    · exact ⟨hT.ok, fun h => by simp at h, fun h => by simp at h⟩
    · exact ⟨hT.ok, fun h => by simp at h, fun h => by simp at h⟩
  · obtain ⟨hi0, hi1⟩ := hI.i (by omega)
    have hC := hM.okC hk hi0 hi1
    rw [if_neg (by omega), if_neg (by omega), if_neg (by omega), if_neg (by omega), if_neg (by omega), if_neg (by omega)] at hst
    simp only [Prod.mk.injEq] at hst
    obtain ⟨rfl, rfl, rfl⟩ := hst
    obtain ⟨_, _, t3⟩ := cas_touch (wh := wh) (o := plFresh p) (v := putChunk 0 0 0 (chSp p.w + 2)) hC
    have e3 : chUs (plFresh p) = 0 := by unfold plFresh; rw [chUs_put (by decide) (by decide)]
    have e4 : chUs (putChunk 0 0 0 (chSp p.w + 2)) = 0 := by rw [chUs_put (by decide) (by decide)]
    have hkk : PJ k n ((s.by wh).cas (aChunk k p.i) (plFresh p) (putChunk 0 0 0 (chSp p.w + 2))) ∧ PUp k n s ((s.by wh).cas (aChunk k p.i) (plFresh p) (putChunk 0 0 0 (chSp p.w + 2))) := by
      by_cases he : s.at (aChunk k p.i) = plFresh p
      · have hcw : cw k s p.i = plFresh p := he
        rw [if_pos he] at t3
        exact keepC hJ (cw_setC hk hM hi0 hi1 t3) (fun _ => e4) (by have := hk.w0; omega) (by rw [hcw]; omega)
      · rw [if_neg he] at t3
        exact keep0 hJ fun j _ _ => cw_same (k := k) t3 j
    exact ⟨hkk.1, hkk.2, fun _ => ⟨hT.ok, fun h => by simp at h, fun h => by simp at h⟩, fun hb => by cases hb⟩
end

end Go.Proofs.Yteoimmjgnflmmaa
