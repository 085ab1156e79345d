/-
  Plain law of the words that were given out: none is given to two.
-/
import Derived.Test.YteoimmjgnflmmaaPsL
namespace Go.Proofs.Yteoimmjgnflmmaa
open Go.RowKit

def kR (n : Int) : Cfg := ⟨4, 1, n, 20, 100, 600, 3⟩
theorem kR_ok {n : Int} (n0 : 1 ≤ n) (n1 : n ≤ 64) : (kR n).Ok := by
  unfold kR
  constructor <;> simp only <;> omega
theorem kR_base {n i : Int} (n0 : 1 ≤ n) (n1 : n ≤ 64) (h0 : 0 ≤ i) (h1 : i ≤ 65536) : aBase (kR n) i = 12 + 3 * n + 20 * i := by
  rw [aBase_ok (kR_ok n0 n1) h0 h1]
  show 6 + 4 + 2 * 1 + 3 * n + 20 * i = _
  omega

theorem kR_of {n i x : Int} (n0 : 1 ≤ n) (n1 : n ≤ 64) (h0 : 0 ≤ i) (h1 : i < n) (x0 : 12 + 3 * n + 20 * i ≤ x) (x1 : x < 12 + 3 * n + 20 * i + 20) : aOf (kR n) x = i := by
  have b0 : aBase (kR n) 0 = 12 + 3 * n + 20 * 0 := kR_base n0 n1 (by decide) (by decide)
  have bl : aLen (kR n) = 12 + 3 * n + 20 * n := kR_base n0 n1 (by show 0 ≤ n; omega) (by show n ≤ 65536; omega)
  unfold aOf
  rw [b0, bl, show (kR n).w = 20 from rfl, if_neg (by omega)]
  omega

/-- What was given out lies in what the chunks' words say. -/
def GotOk (k : Cfg) (n : Nat) (s : MS) (gl : List Bool) : Prop :=
  ∀ x : Nat, gl.getD x false = true → ∃ i, 0 ≤ i ∧ i < (n : Int) ∧ aBase k i ≤ x ∧ (x : Int) < aBase k i + chUs (cw k s i)

section
variable {n : Nat} {s s' : MS} {p p' : PlS} {gl : List Bool}
theorem GotOk.up {k : Cfg} (h : GotOk k n s gl) (hu : PUp k n s s') : GotOk k n s' gl := fun x hx => by
  obtain ⟨i, h0, h1, h2, h3⟩ := h x hx
  exact ⟨i, h0, h1, h2, Int.lt_of_lt_of_le h3 (Int.add_le_add_left (hu i h0 h1) _)⟩
theorem GotOk.new (hn0 : 1 ≤ n) (hn1 : n ≤ 64) (h : GotOk (kR n) n s gl) (hJ : PJ (kR n) n s) (hg : Got (kR n) n s s' p p') {x : Nat} (h0 : p'.sa ≤ x) (h1 : (x : Int) < p'.sa + room p.cl) : gl.getD x false = false := by
  obtain ⟨i, i0, i1, i2, i3, _, _, i6, i7⟩ := hg
  cases hx : gl.getD x false
  · rfl
  · obtain ⟨j, j0, j1, j2, j3⟩ := h x hx
    have hj := (hJ j j0 j1).2
    have b1 := kR_base (n := n) (by omega) (by omega) i0 (by omega)
    have b2 := kR_base (n := n) (by omega) (by omega) j0 (by omega)
    have r1 := (ch_rng (cw (kR n) s i)).2.2.2.2.1
    have r2 := (ch_rng (cw (kR n) s j)).2.2.2.2.1
    rw [show (kR n).w = 20 from rfl] at hj i7
    rw [b1] at i3
    rw [b2] at j2 j3
    rw [i6] at i7
    rw [i3] at h0 h1
    clear b1 b2 i3 i6 hJ h hx
    by_cases hij : i = j
    · subst hij
      generalize chUs (cw (kR n) s i) = U at *
      generalize room p.cl = r at *
      omega
    · generalize chUs (cw (kR n) s i) = U at *
      generalize chUs (cw (kR n) s j) = V at *
      generalize room p.cl = r at *
      omega
theorem GotOk.set (h : GotOk (kR n) n s' gl) (hg : Got (kR n) n s s' p p') {x : Nat} (h0 : p'.sa ≤ x) (h1 : (x : Int) < p'.sa + room p.cl) : GotOk (kR n) n s' (gl.set x true) := fun y hy => by
  by_cases hxy : y = x
  · subst hxy
    obtain ⟨i, i0, i1, i2, i3, _, _, i6, i7⟩ := hg
    have r1 := (ch_rng (cw (kR n) s i)).2.2.2.2.1
    refine ⟨i, i0, i1, ?_, ?_⟩
    · rw [i3] at h0
      clear i6 i7 h1 h i2 i3 hy
      generalize aBase (kR n) i = A at *
      generalize chUs (cw (kR n) s i) = U at *
      omega
    · rw [i6]
      rw [i3] at h1
      clear i6 i7 h0 h i2 i3 hy
      generalize aBase (kR n) i = A at *
      generalize chUs (cw (kR n) s i) = U at *
      generalize room p.cl = r at *
      omega
  · refine h y ?_
    simpa [List.getD, List.getElem?_set_ne (Ne.symm hxy)] using hy
end

end Go.Proofs.Yteoimmjgnflmmaa
