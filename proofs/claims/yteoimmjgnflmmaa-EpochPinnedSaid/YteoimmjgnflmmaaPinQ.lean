/-
  A thread that pins the epoch, in a memory of any length.
-/
import Derived.Test.YteoimmjgnflmmaaPinL
namespace Go.Proofs.Yteoimmjgnflmmaa
open Go.RowKit

structure PQ (n : Nat) (a : Int) (s : MS) (p : PinS) : Prop where
  len : s.ws.length = n
  pcs : p.pc = 0 ∨ p.pc = 1 ∨ p.pc = 2
  pin : p.pc = 2 → s.at a = IntKind.u64.wrap (p.ep + 1)

theorem PQ.step {n : Nat} {wh : Int} {s s' : MS} {p p' : PinS} {b : Bool} (h : PQ n (aPin wh) s p) (ha0 : 1 ≤ aPin wh) (ha1 : aPin wh < n) (hn0 : 0 < n) (hst : inStep wh s p = (b, s', p')) :
    PQ n (aPin wh) s' p' ∧ s'.at 0 = s.at 0 ∧ (b = true → s'.at (aPin wh) = IntKind.u64.wrap (s'.at 0 + 1)) ∧ (b = false → rk s' p' + 1 ≤ rk s p) := by
  obtain ⟨hl, hp, hq⟩ := h
  have h0 : s.ok 0 := ⟨by omega, by omega⟩
  have hA : (s.by wh).ok (aPin wh) := ⟨by omega, by show aPin wh < (s.ws.length : Int); omega⟩
  have hg := get_ok s 0 h0
  unfold inStep at hst
  rw [hg] at hst
  by_cases c0 : p.pc = 0
  · rw [if_pos c0] at hst
    simp only [Prod.mk.injEq] at hst
    obtain ⟨rfl, rfl, rfl⟩ := hst
    refine ⟨⟨by rw [load_ws]; exact hl, .inr (.inl rfl), (fun h => by simp at h)⟩, by rw [load_at]; rfl, (fun h => by cases h), fun _ => ?_⟩
    unfold rk
    rw [load_at, by_at]
    simp [c0]
  · rw [if_neg c0] at hst
    by_cases c1 : p.pc = 1
    · rw [if_pos c1] at hst
      simp only [Prod.mk.injEq] at hst
      obtain ⟨rfl, rfl, rfl⟩ := hst
      have e0 : ((s.by wh).store (aPin wh) (IntKind.u64.wrap (p.ep + 1))).at 0 = s.at 0 := by
        rw [store_at _ _ _ _ hA (by omega), if_neg (by omega)]; rfl
      refine ⟨⟨by rw [store_len]; exact hl, .inr (.inr rfl), fun _ => by rw [store_at _ _ _ _ hA (by omega), if_pos rfl]⟩, e0, (fun h => by cases h), fun _ => ?_⟩
      unfold rk
      rw [e0]
      simp only [c1]
      by_cases hc : p.ep = s.at 0
      · simp [hc]
      · simp [hc]
    · rw [if_neg c1] at hst
      have c2 : p.pc = 2 := by omega
      by_cases he : s.at 0 = p.ep
      · rw [if_pos he] at hst
        simp only [Prod.mk.injEq] at hst
        obtain ⟨rfl, rfl, rfl⟩ := hst
        refine ⟨⟨by rw [load_ws]; exact hl, hp, fun _ => by rw [load_at]; exact hq c2⟩, by rw [load_at]; rfl, fun _ => ?_, (fun h => by cases h)⟩
        rw [load_at, load_at, by_at, by_at, he]
        exact hq c2
      · rw [if_neg he] at hst
        simp only [Prod.mk.injEq] at hst
        obtain ⟨rfl, rfl, rfl⟩ := hst
        refine ⟨⟨by rw [load_ws]; exact hl, .inr (.inl rfl), (fun h => by simp at h)⟩, by rw [load_at]; rfl, (fun h => by cases h), fun _ => ?_⟩
        unfold rk
        rw [load_at, by_at]
        simp [c2, Ne.symm he]

/-- A step leaves all words but its own pin. -/
theorem in_keep {wh : Int} {s s' : MS} {p p' : PinS} {b : Bool} {a : Int} (hA : s.ok (aPin wh)) (ha : 0 ≤ a) (hne : a ≠ aPin wh) (hst : inStep wh s p = (b, s', p')) : s'.at a = s.at a := by
  unfold inStep at hst
  have hA' : (s.by wh).ok (aPin wh) := hA
  split at hst
  · simp only [Prod.mk.injEq] at hst
    obtain ⟨rfl, rfl, rfl⟩ := hst
    rw [load_at]; rfl
  · split at hst
    · simp only [Prod.mk.injEq] at hst
      obtain ⟨rfl, rfl, rfl⟩ := hst
      rw [store_at _ _ _ _ hA' ha, if_neg hne]; rfl
    · split at hst
      · simp only [Prod.mk.injEq] at hst
        obtain ⟨rfl, rfl, rfl⟩ := hst
        rw [load_at]; rfl
      · simp only [Prod.mk.injEq] at hst
        obtain ⟨rfl, rfl, rfl⟩ := hst
        rw [load_at]; rfl

theorem rk_ge (s : MS) (p : PinS) : 1 ≤ rk s p := by unfold rk; split <;> (try split) <;> (try split) <;> omega

end Go.Proofs.Yteoimmjgnflmmaa
