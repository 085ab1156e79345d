/-
  PlaceShares, walked: in the world.
-/
import Derived.Test.YteoimmjgnflmmaaPsG
import Derived.Test.YteoimmjgnflmmaaSlF
namespace Go.Proofs.Yteoimmjgnflmmaa
open Go.RowKit Go.BigFrame

/-- Three who want words, or nobody. -/
structure Wt where
  on : Bool
  p : PlS
  b : Nat
def Wt.ptr (x : Wt) : Value := if x.on = true then .pointer (some ⟨x.b, 0, none⟩) else .pointer none
def who3 (f : Nat → Wt) : Array Value := #[(f 0).ptr, (f 1).ptr, (f 2).ptr]
def cls3 (d : Nat → Int) : Array Value := #[.int .i64 (d 0), .int .i64 (d 1), .int .i64 (d 2)]
def updW (f : Nat → Wt) (i : Nat) (x : Wt) : Nat → Wt := fun j => if j = i then x else f j
theorem updW_at (f : Nat → Wt) (i : Nat) (x : Wt) : updW f i x i = x := by simp [updW]
theorem updW_ne (f : Nat → Wt) (i j : Nat) (x : Wt) (h : j ≠ i) : updW f i x j = f j := by simp [updW, h]
def updD (d : Nat → Int) (i : Nat) (x : Int) : Nat → Int := fun j => if j = i then x else d j
theorem who3_get (f : Nat → Wt) : ∀ i, i < 3 → (who3 f)[i]? = some (f i).ptr
  | 0, _ => rfl
  | 1, _ => rfl
  | 2, _ => rfl
theorem who3_set (f : Nat → Wt) (x : Wt) {v : Value} (hv : v = x.ptr) : ∀ i, i < 3 → (who3 f).setIfInBounds i v = who3 (updW f i x)
  | 0, _ => by subst hv; rfl
  | 1, _ => by subst hv; rfl
  | 2, _ => by subst hv; rfl
theorem cls3_get (d : Nat → Int) : ∀ i, i < 3 → (cls3 d)[i]? = some (.int .i64 (d i))
  | 0, _ => rfl
  | 1, _ => rfl
  | 2, _ => rfl
theorem cls3_set (d : Nat → Int) (x : Int) : ∀ i, i < 3 → (cls3 d).setIfInBounds i (.int .i64 x) = cls3 (updD d i x)
  | 0, _ => rfl
  | 1, _ => rfl
  | 2, _ => rfl

/-- Where these lie. -/
structure PA (w : World) (m : MB) (eb wb cb gb : Nat) : Prop where
  b : w.heap.size ≤ m.b
  wb' : w.heap.size ≤ m.wb
  hb : w.heap.size ≤ m.hb
  e : w.heap.size ≤ eb
  o : w.heap.size ≤ wb
  c : w.heap.size ≤ cb
  g : w.heap.size ≤ gb
  e1 : eb ∉ m.l
  o1 : wb ∉ m.l
  c1 : cb ∉ m.l
  g1 : gb ∉ m.l
  eo : eb ≠ wb
  ec : eb ≠ cb
  eg : eb ≠ gb
  oc : wb ≠ cb
  og : wb ≠ gb
  cg : cb ≠ gb
/-- The world on the way. -/
structure PWd (w wr : World) (m : MB) (k : Cfg) (wh : Int) (eb wb cb gb : Nat) (s : MS) (f : Nat → Wt) (d : Nat → Int) (gl : List Bool) : Prop where
  ew : EW w wr m k wh eb s
  who : Blk wr wb (who3 f) 111
  cls : Blk wr cb (cls3 d) 121
  got : Blk wr gb (bools gl) 4
  ths : ∀ i, i < 3 → (f i).on = true → Blk wr (f i).b (f i).p.cs 145
  nb : ∀ i, i < 3 → (f i).on = true → w.heap.size ≤ (f i).b ∧ (f i).b ∉ [m.b, m.wb, m.hb, eb, wb, cb, gb]
  dd : ∀ i j, i < 3 → j < 3 → i ≠ j → (f i).on = true → (f j).on = true → (f i).b ≠ (f j).b
section
variable {w wr w1 : World} {m : MB} {k : Cfg} {wh : Int} {eb wb cb gb : Nat} {s s' : MS} {f : Nat → Wt} {d : Nat → Int} {gl : List Bool} {i : Nat}
theorem PWd.only0 (h : PWd w wr m k wh eb wb cb gb s f d gl) (ho : Only [] wr w1) : PWd w w1 m k wh eb wb cb gb s f d gl :=
  ⟨⟨h.ew.mem.only ho (by simp) (by simp) (by simp), h.ew.env.only ho (by simp), h.ew.only.trans' ho (fun _ h _ => h)⟩, h.who.only ho (by simp), h.cls.only ho (by simp), h.got.only ho (by simp), fun i hi ho' => (h.ths i hi ho').only ho (by simp), h.nb, h.dd⟩
theorem PWd.drew (h : PWd w wr m k wh eb wb cb gb s f d gl) : PWd w wr.drew m k wh eb wb cb gb s f d gl := h.only0 (Only.refl [] wr).drew
/-- A step of one of them. -/
theorem PWd.step (h : PWd w wr m k wh eb wb cb gb s f d gl) (a : PA w m eb wb cb gb) (hi : i < 3) (hon : (f i).on = true) {p' : PlS} (h1 : MemR w1 m s') (h2 : Blk w1 (f i).b p'.cs 145) (h3 : Only [m.b, m.wb, m.hb, (f i).b] wr w1) :
    PWd w w1 m k wh eb wb cb gb s' (updW f i ⟨true, p', (f i).b⟩) d gl := by
  obtain ⟨n0, n1⟩ := h.nb i hi hon
  have e1 := a.e1; have o1 := a.o1; have c1 := a.c1; have g1 := a.g1
  have := a.b; have := a.wb'; have := a.hb
  simp only [List.mem_cons, List.not_mem_nil, or_false, not_or] at n1 e1 o1 c1 g1
  have hptr : who3 (updW f i ⟨true, p', (f i).b⟩) = who3 f := by
    have hp : (Wt.mk true p' (f i).b).ptr = (f i).ptr := by unfold Wt.ptr; rw [hon]
    have : i = 0 ∨ i = 1 ∨ i = 2 := by omega
    unfold who3
    rcases this with rfl | rfl | rfl
    · rw [updW_at, updW_ne _ _ _ _ (by decide), updW_ne _ _ _ _ (by decide), hp]
    · rw [updW_at, updW_ne _ _ _ _ (by decide), updW_ne _ _ _ _ (by decide), hp]
    · rw [updW_at, updW_ne _ _ _ _ (by decide), updW_ne _ _ _ _ (by decide), hp]
  have hbj : ∀ j, (updW f i ⟨true, p', (f i).b⟩ j).b = (f j).b := fun j => by
    unfold updW
    split
    · rename_i hj; rw [hj]
    · rfl
  have honj : ∀ j, (updW f i ⟨true, p', (f i).b⟩ j).on = (f j).on := fun j => by
    unfold updW
    split
    · rename_i hj; rw [hj, hon]
    · rfl
  refine ⟨⟨h1, h.ew.env.only h3 ?_, h.ew.only.trans' h3 ?_⟩, ?_, h.cls.only h3 ?_, h.got.only h3 ?_, fun j hj ho => ?_, fun j hj ho => ?_, fun p q hp hq hpq ho ho2 => ?_⟩
  · simp only [List.mem_cons, List.not_mem_nil, or_false, not_or]; exact ⟨e1.1, e1.2.1, e1.2.2, fun hh => n1.2.2.2.1 hh.symm⟩
  · intro x hx hlt
    simp only [List.mem_cons, List.not_mem_nil, or_false] at hx
    clear n1 e1 o1 c1 g1
    omega
  · rw [hptr]
    refine h.who.only h3 ?_
    simp only [List.mem_cons, List.not_mem_nil, or_false, not_or]; exact ⟨o1.1, o1.2.1, o1.2.2, fun hh => n1.2.2.2.2.1 hh.symm⟩
  · simp only [List.mem_cons, List.not_mem_nil, or_false, not_or]; exact ⟨c1.1, c1.2.1, c1.2.2, fun hh => n1.2.2.2.2.2.1 hh.symm⟩
  · simp only [List.mem_cons, List.not_mem_nil, or_false, not_or]; exact ⟨g1.1, g1.2.1, g1.2.2, fun hh => n1.2.2.2.2.2.2 hh.symm⟩
  · by_cases hji : j = i
    · subst hji; rw [updW_at]; exact h2
    · rw [honj] at ho
      rw [updW_ne _ _ _ _ hji]
      refine (h.ths j hj ho).only h3 ?_
      have hd := h.dd j i hj hi hji ho hon
      have hn := (h.nb j hj ho).2
      simp only [List.mem_cons, List.not_mem_nil, or_false, not_or] at hn ⊢
      exact ⟨hn.1, hn.2.1, hn.2.2.1, hd⟩
  · rw [honj] at ho; rw [hbj]; exact h.nb j hj ho
  · rw [honj] at ho ho2; rw [hbj, hbj]; exact h.dd p q hp hq hpq ho ho2
theorem PWd.alloc (h : PWd w wr m k wh eb wb cb gb s f d gl) (o : Obj) : PWd w (wr.alloc o) m k wh eb wb cb gb s f d gl := h.only0 ((Only.refl [] wr).alloc o)
/-- A place that is done. -/
theorem PWd.off (h : PWd w wr m k wh eb wb cb gb s f d gl) (a : PA w m eb wb cb gb) (hi : i < 3) :
    PWd w (wr.setCell ⟨wb, i, none⟩ (.pointer none)) m k wh eb wb cb gb s (updW f i ⟨false, (f i).p, (f i).b⟩) d gl := by
  have o1 := a.o1
  simp only [List.mem_cons, List.not_mem_nil, or_false, not_or] at o1
  have ho : Only [wb] wr (wr.setCell ⟨wb, i, none⟩ (.pointer none)) := (Only.refl [wb] wr).setCell _ _ (by simp)
  have honj : ∀ j, j ≠ i → (updW f i ⟨false, (f i).p, (f i).b⟩ j) = f j := fun j hj => updW_ne _ _ _ _ hj
  have honi : (updW f i ⟨false, (f i).p, (f i).b⟩ i).on = false := by rw [updW_at]
  have hne : ∀ j, (updW f i ⟨false, (f i).p, (f i).b⟩ j).on = true → j ≠ i := fun j hj hji => by
    rw [hji, honi] at hj; cases hj
  refine ⟨⟨h.ew.mem.only ho ?_ ?_ ?_, h.ew.env.only ho ?_, h.ew.only.trans' ho ?_⟩, h.who.set i _ (who3_set f ⟨false, (f i).p, (f i).b⟩ rfl i hi), h.cls.only ho ?_, h.got.only ho ?_, fun j hj hj2 => ?_, fun j hj hj2 => ?_, fun p q hp hq hpq h1 h2 => ?_⟩
  · simp only [List.mem_cons, List.not_mem_nil, or_false]; exact fun hh => o1.1 hh.symm
  · simp only [List.mem_cons, List.not_mem_nil, or_false]; exact fun hh => o1.2.1 hh.symm
  · simp only [List.mem_cons, List.not_mem_nil, or_false]; exact fun hh => o1.2.2 hh.symm
  · simp only [List.mem_cons, List.not_mem_nil, or_false]; exact a.eo
  · intro x hx hlt
    simp only [List.mem_cons, List.not_mem_nil, or_false] at hx
    have := a.o
    clear o1
    omega
  · simp only [List.mem_cons, List.not_mem_nil, or_false]; exact a.oc.symm
  · simp only [List.mem_cons, List.not_mem_nil, or_false]; exact a.og.symm
  · have hn := hne j hj2
    rw [honj j hn] at hj2 ⊢
    have hb := (h.nb j hj hj2).2
    simp only [List.mem_cons, List.not_mem_nil, or_false, not_or] at hb
    exact (h.ths j hj hj2).only ho (by simp only [List.mem_cons, List.not_mem_nil, or_false]; exact hb.2.2.2.2.1)
  · have hn := hne j hj2
    rw [honj j hn] at hj2 ⊢
    exact h.nb j hj hj2
  · have hn1 := hne p h1
    have hn2 := hne q h2
    rw [honj p hn1] at h1 ⊢
    rw [honj q hn2] at h2 ⊢
    exact h.dd p q hp hq hpq h1 h2
/-- A word that is given out is noted. -/
theorem PWd.note (h : PWd w wr m k wh eb wb cb gb s f d gl) (a : PA w m eb wb cb gb) (x : Nat) (v : Bool) :
    PWd w (wr.setCell ⟨gb, x, none⟩ (.bool v)) m k wh eb wb cb gb s f d (gl.set x v) := by
  have o1 := a.g1
  simp only [List.mem_cons, List.not_mem_nil, or_false, not_or] at o1
  have ho : Only [gb] wr (wr.setCell ⟨gb, x, none⟩ (.bool v)) := (Only.refl [gb] wr).setCell _ _ (by simp)
  refine ⟨⟨h.ew.mem.only ho ?_ ?_ ?_, h.ew.env.only ho ?_, h.ew.only.trans' ho ?_⟩, h.who.only ho ?_, h.cls.only ho ?_, h.got.set x _ (bools_set _ _ _), fun j hj hj2 => ?_, h.nb, h.dd⟩
  · simp only [List.mem_cons, List.not_mem_nil, or_false]; exact fun hh => o1.1 hh.symm
  · simp only [List.mem_cons, List.not_mem_nil, or_false]; exact fun hh => o1.2.1 hh.symm
  · simp only [List.mem_cons, List.not_mem_nil, or_false]; exact fun hh => o1.2.2 hh.symm
  · simp only [List.mem_cons, List.not_mem_nil, or_false]; exact a.eg
  · intro y hy hlt
    simp only [List.mem_cons, List.not_mem_nil, or_false] at hy
    have := a.g
    clear o1
    omega
  · simp only [List.mem_cons, List.not_mem_nil, or_false]; exact a.og
  · simp only [List.mem_cons, List.not_mem_nil, or_false]; exact a.cg
  · have hb := (h.nb j hj hj2).2
    simp only [List.mem_cons, List.not_mem_nil, or_false, not_or] at hb
    exact (h.ths j hj hj2).only ho (by simp only [List.mem_cons, List.not_mem_nil, or_false]; exact hb.2.2.2.2.2.2)
/-- A class is laid. -/
theorem PWd.setD (h : PWd w wr m k wh eb wb cb gb s f d gl) (a : PA w m eb wb cb gb) (hi : i < 3) (v : Int) :
    PWd w (wr.setCell ⟨cb, i, none⟩ (.int .i64 v)) m k wh eb wb cb gb s f (updD d i v) gl := by
  have o1 := a.c1
  simp only [List.mem_cons, List.not_mem_nil, or_false, not_or] at o1
  have ho : Only [cb] wr (wr.setCell ⟨cb, i, none⟩ (.int .i64 v)) := (Only.refl [cb] wr).setCell _ _ (by simp)
  refine ⟨⟨h.ew.mem.only ho ?_ ?_ ?_, h.ew.env.only ho ?_, h.ew.only.trans' ho ?_⟩, h.who.only ho ?_, h.cls.set i _ (cls3_set d v i hi), h.got.only ho ?_, fun j hj hj2 => ?_, h.nb, h.dd⟩
  · simp only [List.mem_cons, List.not_mem_nil, or_false]; exact fun hh => o1.1 hh.symm
  · simp only [List.mem_cons, List.not_mem_nil, or_false]; exact fun hh => o1.2.1 hh.symm
  · simp only [List.mem_cons, List.not_mem_nil, or_false]; exact fun hh => o1.2.2 hh.symm
  · simp only [List.mem_cons, List.not_mem_nil, or_false]; exact a.ec
  · intro y hy hlt
    simp only [List.mem_cons, List.not_mem_nil, or_false] at hy
    have := a.c
    clear o1
    omega
  · simp only [List.mem_cons, List.not_mem_nil, or_false]; exact a.oc
  · simp only [List.mem_cons, List.not_mem_nil, or_false]; exact a.cg.symm
  · have hb := (h.nb j hj hj2).2
    simp only [List.mem_cons, List.not_mem_nil, or_false, not_or] at hb
    exact (h.ths j hj hj2).only ho (by simp only [List.mem_cons, List.not_mem_nil, or_false]; exact hb.2.2.2.2.2.1)
/-- One more who wants words. -/
theorem PWd.make (h : PWd w wr m k wh eb wb cb gb s f d gl) (a : PA w m eb wb cb gb) (hi : i < 3) (p : PlS) {b : Nat} (hb : b = wr.heap.size) :
    PWd w ((wr.alloc (.cells p.cs 145)).setCell ⟨wb, i, none⟩ (.pointer (some ⟨b, 0, none⟩))) m k wh eb wb cb gb s (updW f i ⟨true, p, b⟩) d gl := by
  subst hb
  have o1 := a.o1
  simp only [List.mem_cons, List.not_mem_nil, or_false, not_or] at o1
  have h' := h.alloc (.cells p.cs 145)
  have hn := Blk.new wr p.cs 145
  have l0 := h.who.lt
  have l1 := h.cls.lt
  have l2 := h.got.lt
  have l3 := h.ew.env.lt
  obtain ⟨l4, l5, l6⟩ := h.ew.mem.lts
  have hsz := h.ew.only.size
  obtain ⟨wn, hwn⟩ : ∃ wn, wr.alloc (.cells p.cs 145) = wn := ⟨_, rfl⟩
  rw [hwn] at h' hn ⊢
  clear hwn
  have hbl : ∀ j, j < 3 → (f j).on = true → (f j).b < wr.heap.size := fun j hj hj2 => (h.ths j hj hj2).lt
  have ho : Only [wb] wn (wn.setCell ⟨wb, i, none⟩ (.pointer (some ⟨wr.heap.size, 0, none⟩))) := (Only.refl [wb] wn).setCell _ _ (by simp)
  refine ⟨⟨h'.ew.mem.only ho ?_ ?_ ?_, h'.ew.env.only ho ?_, h'.ew.only.trans' ho ?_⟩, h'.who.set i _ (who3_set f ⟨true, p, wr.heap.size⟩ rfl i hi), h'.cls.only ho ?_, h'.got.only ho ?_, fun j hj hj2 => ?_, fun j hj hj2 => ?_, fun x y hx hy hxy h1 h2 => ?_⟩
  · simp only [List.mem_cons, List.not_mem_nil, or_false]; exact fun hh => o1.1 hh.symm
  · simp only [List.mem_cons, List.not_mem_nil, or_false]; exact fun hh => o1.2.1 hh.symm
  · simp only [List.mem_cons, List.not_mem_nil, or_false]; exact fun hh => o1.2.2 hh.symm
  · simp only [List.mem_cons, List.not_mem_nil, or_false]; exact a.eo
  · intro x hx hlt
    simp only [List.mem_cons, List.not_mem_nil, or_false] at hx
    have := a.o
    clear o1
    omega
  · simp only [List.mem_cons, List.not_mem_nil, or_false]; exact a.oc.symm
  · simp only [List.mem_cons, List.not_mem_nil, or_false]; exact a.og.symm
  · by_cases hji : j = i
    · subst hji
      rw [updW_at]
      exact hn.only ho (by simp only [List.mem_cons, List.not_mem_nil, or_false]; omega)
    · rw [updW_ne _ _ _ _ hji] at hj2 ⊢
      have hb := (h.nb j hj hj2).2
      simp only [List.mem_cons, List.not_mem_nil, or_false, not_or] at hb
      exact (h'.ths j hj hj2).only ho (by simp only [List.mem_cons, List.not_mem_nil, or_false]; exact hb.2.2.2.2.1)
  · by_cases hji : j = i
    · subst hji
      rw [updW_at]
      simp only [List.mem_cons, List.not_mem_nil, or_false, not_or]
      clear o1
      omega
    · rw [updW_ne _ _ _ _ hji] at hj2 ⊢
      exact h.nb j hj hj2
  · by_cases hxi : x = i
    · subst hxi
      rw [updW_ne _ _ _ _ (Ne.symm hxy)] at h2 ⊢
      rw [updW_at]
      have := hbl y hy h2
      simp only; omega
    · rw [updW_ne _ _ _ _ hxi] at h1 ⊢
      by_cases hyi : y = i
      · subst hyi
        rw [updW_at]
        have := hbl x hx h1
        simp only; omega
      · rw [updW_ne _ _ _ _ hyi] at h2 ⊢
        exact h.dd x y hx hy hxy h1 h2
end

end Go.Proofs.Yteoimmjgnflmmaa
