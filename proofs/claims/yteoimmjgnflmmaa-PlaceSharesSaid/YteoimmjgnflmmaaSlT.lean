/-
  Three that take and give, in the world.
-/
import Derived.Test.YteoimmjgnflmmaaSlA
import Derived.Test.YteoimmjgnflmmaaCpy
namespace Go.Proofs.Yteoimmjgnflmmaa
open Go.RowKit Go.BigFrame

/-- Somebody, and where. -/
structure Th where
  ts : TS
  b : Nat
def Th.tp (x : Th) : Value := match x.ts with | .take _ => .pointer (some ⟨x.b, 0, none⟩) | .give _ => .pointer none
def Th.gp (x : Th) : Value := match x.ts with | .take _ => .pointer none | .give _ => .pointer (some ⟨x.b, 0, none⟩)
def Th.hv (x : Th) : Int := match x.ts with | .take _ => -1 | .give p => p.slot
def Th.Ok (wr : World) (x : Th) : Prop := match x.ts with | .take p => Blk wr x.b p.cs 72 | .give p => Blk wr x.b p.cs 142
def cells3 (f : Nat → Th) : Array Value := #[(f 0).tp, (f 0).gp, .int .i64 (f 0).hv, (f 1).tp, (f 1).gp, .int .i64 (f 1).hv, (f 2).tp, (f 2).gp, .int .i64 (f 2).hv]

/-- Where these lie. -/
structure SA (w : World) (m : MB) (eb ab : Nat) : Prop where
  b : w.heap.size ≤ m.b
  wb : w.heap.size ≤ m.wb
  hb : w.heap.size ≤ m.hb
  e : w.heap.size ≤ eb
  a : w.heap.size ≤ ab
  e1 : eb ∉ m.l
  a1 : ab ∉ m.l
  ea : eb ≠ ab
structure SW (w wr : World) (m : MB) (k : Cfg) (wh : Int) (eb ab : Nat) (s : MS) (f : Nat → Th) : Prop where
  ew : EW w wr m k wh eb s
  ths : ∀ i, i < 3 → (f i).Ok wr
  nb : ∀ i, i < 3 → w.heap.size ≤ (f i).b ∧ (f i).b ∉ m.l ∧ (f i).b ≠ eb ∧ (f i).b ≠ ab
  dd : ∀ i j, i < 3 → j < 3 → i ≠ j → (f i).b ≠ (f j).b


def updF (f : Nat → Th) (i : Nat) (x : Th) : Nat → Th := fun j => if j = i then x else f j
theorem updF_at (f : Nat → Th) (i : Nat) (x : Th) : updF f i x i = x := by simp [updF]
theorem updF_ne (f : Nat → Th) (i j : Nat) (x : Th) (h : j ≠ i) : updF f i x j = f j := by simp [updF, h]
theorem updF_updF (f : Nat → Th) (i : Nat) (x y : Th) : updF (updF f i x) i y = updF f i y := by
  funext j
  unfold updF
  split <;> rfl
theorem updF_ts (f : Nat → Th) (i : Nat) (x : Th) : (fun j => (updF f i x j).ts) = updT (fun j => (f j).ts) i x.ts := by
  funext j
  unfold updF updT
  split <;> rfl
theorem cells3_get (f : Nat → Th) : ∀ i, i < 3 → (cells3 f)[i * 3]? = some (f i).tp ∧ (cells3 f)[i * 3 + 1]? = some (f i).gp ∧ (cells3 f)[i * 3 + 2]? = some (.int .i64 (f i).hv)
  | 0, _ => ⟨rfl, rfl, rfl⟩
  | 1, _ => ⟨rfl, rfl, rfl⟩
  | 2, _ => ⟨rfl, rfl, rfl⟩
theorem cells3_set (f : Nat → Th) (x : Th) {a b c : Value} (ha : a = x.tp) (hb : b = x.gp) (hc : c = .int .i64 x.hv) : ∀ i, i < 3 → (((cells3 f).setIfInBounds (i * 3) a).setIfInBounds (i * 3 + 1) b).setIfInBounds (i * 3 + 2) c = cells3 (updF f i x)
  | 0, _ => by subst ha hb hc; rfl
  | 1, _ => by subst ha hb hc; rfl
  | 2, _ => by subst ha hb hc; rfl

theorem Th.Ok.lt {wr : World} {x : Th} (h : x.Ok wr) : x.b < wr.heap.size := by
  obtain ⟨ts, b⟩ := x
  cases ts with
  | take p => exact Blk.lt h
  | give p => exact Blk.lt h
theorem Th.Ok.only {wr w1 : World} {x : Th} {l : List Nat} (h : x.Ok wr) (ho : Only l wr w1) (hb : x.b ∉ l) : x.Ok w1 := by
  obtain ⟨ts, b⟩ := x
  cases ts with
  | take p => exact Blk.only h ho hb
  | give p => exact Blk.only h ho hb

section
variable {w wr w1 : World} {m : MB} {k : Cfg} {wh : Int} {eb ab : Nat} {s s' : MS} {f : Nat → Th} {i : Nat} {x : Th}
/-- Only what is none of theirs is written. -/
theorem SW.keep {l : List Nat} (h : SW w wr m k wh eb ab s f) (ho : Only l wr w1) (h1 : ∀ x, x ∈ l → x ∉ m.l ∧ x ≠ eb ∧ (∀ i, i < 3 → x ≠ (f i).b) ∧ w.heap.size ≤ x) : SW w w1 m k wh eb ab s f := by
  have e : ∀ y, y ∈ m.l → y ∉ l := fun y hy hyl => (h1 y hyl).1 hy
  refine ⟨⟨h.ew.mem.only ho (e _ (by simp)) (e _ (by simp)) (e _ (by simp)), h.ew.env.only ho (fun hh => (h1 _ hh).2.1 rfl), h.ew.only.trans' ho (fun y hy hlt => ?_)⟩, fun i hi => (h.ths i hi).only ho (fun hh => (h1 _ hh).2.2.1 i hi rfl), h.nb, h.dd⟩
  have := (h1 y hy).2.2.2
  omega
theorem SW.alloc (h : SW w wr m k wh eb ab s f) (o : Obj) : SW w (wr.alloc o) m k wh eb ab s f :=
  h.keep ((Only.refl [] wr).alloc o) (fun x hx => by cases hx)
theorem SW.setA (h : SW w wr m k wh eb ab s f) (a : SA w m eb ab) (o : Nat) (v : Value) : SW w (wr.setCell ⟨ab, o, none⟩ v) m k wh eb ab s f :=
  h.keep ((Only.refl [ab] wr).setCell ⟨ab, o, none⟩ v (by simp)) (fun x hx => by
    simp only [List.mem_cons, List.not_mem_nil, or_false] at hx
    subst hx
    exact ⟨a.a1, a.ea.symm, fun i hi hh => (h.nb i hi).2.2.2 hh.symm, a.a⟩)
/-- A block that is new is another one's. -/
theorem SW.setX (h : SW w wr m k wh eb ab s f) (xb : Nat) (h1 : xb ∉ m.l) (h2 : xb ≠ eb) (h3 : ∀ i, i < 3 → xb ≠ (f i).b) (h4 : w.heap.size ≤ xb) (o : Nat) (v : Value) : SW w (wr.setCell ⟨xb, o, none⟩ v) m k wh eb ab s f :=
  h.keep ((Only.refl [xb] wr).setCell ⟨xb, o, none⟩ v (by simp)) (fun x hx => by
    simp only [List.mem_cons, List.not_mem_nil, or_false] at hx
    subst hx
    exact ⟨h1, h2, h3, h4⟩)
theorem SW.step (h : SW w wr m k wh eb ab s f) (a : SA w m eb ab) (hi : i < 3) {b : Nat} (hb : (f i).b = b) (h1 : MemR w1 m s') {ts' : TS} (h2 : (Th.mk ts' b).Ok w1) (h3 : Only [m.b, m.wb, m.hb, b] wr w1) : SW w w1 m k wh eb ab s' (updF f i ⟨ts', b⟩) := by
  subst hb
  obtain ⟨n1, n2, n3, n4⟩ := h.nb i hi
  have e1 := a.e1; have := a.b; have := a.wb; have := a.hb
  have hbj : ∀ j, (updF f i ⟨ts', (f i).b⟩ j).b = (f j).b := fun j => by
    unfold updF
    split
    · rename_i hj; rw [hj]
    · rfl
  simp only [List.mem_cons, List.not_mem_nil, or_false, not_or] at e1
  refine ⟨⟨h1, h.ew.env.only h3 ?_, h.ew.only.trans' h3 ?_⟩, fun j hj => ?_, fun j hj => by rw [hbj]; exact h.nb j hj, fun p q hp hq hpq => by rw [hbj, hbj]; exact h.dd p q hp hq hpq⟩
  · simp only [List.mem_cons, List.not_mem_nil, or_false, not_or]; omega
  · intro x hx hlt
    simp only [List.mem_cons, List.not_mem_nil, or_false] at hx
    omega
  · by_cases hji : j = i
    · subst hji
      rw [updF_at]
      exact h2
    · rw [updF_ne _ _ _ _ hji]
      refine (h.ths j hj).only h3 ?_
      have hd := h.dd j i hj hi hji
      have hn := (h.nb j hj).2.1
      simp only [List.mem_cons, List.not_mem_nil, or_false, not_or] at hn ⊢
      omega
theorem SW.fresh (h : SW w wr m k wh eb ab s f) (hi : i < 3) (hab : ab < wr.heap.size) (o : Obj) {ts' : TS} {b : Nat} (hb : b = wr.heap.size) (h2 : (Th.mk ts' b).Ok (wr.alloc o)) : SW w (wr.alloc o) m k wh eb ab s (updF f i ⟨ts', b⟩) := by
  have hlt := h.ew.env.lt
  obtain ⟨l1, l2, l3⟩ := h.ew.mem.lts
  have hsz := h.ew.only.size
  have h' := h.alloc o
  refine ⟨h'.ew, fun j hj => ?_, fun j hj => ?_, fun p q hp hq hpq => ?_⟩
  · by_cases hji : j = i
    · subst hji; rw [updF_at]; exact h2
    · rw [updF_ne _ _ _ _ hji]; exact h'.ths j hj
  · by_cases hji : j = i
    · subst hji
      rw [updF_at]
      simp only [List.mem_cons, List.not_mem_nil, or_false, not_or]
      omega
    · rw [updF_ne _ _ _ _ hji]; exact h.nb j hj
  · have b1 := (h.ths p hp).lt
    have b2 := (h.ths q hq).lt
    by_cases hpi : p = i
    · subst hpi
      rw [updF_at, updF_ne _ _ _ _ (Ne.symm hpq)]
      simp only; omega
    · rw [updF_ne _ _ _ _ hpi]
      by_cases hqi : q = i
      · subst hqi; rw [updF_at]; simp only; omega
      · rw [updF_ne _ _ _ _ hqi]; exact h.dd p q hp hq hpq
end

end Go.Proofs.Yteoimmjgnflmmaa
