/-
  A thread that pins the epoch, in plain numbers: how far it is, and what its pin is when it is done.
-/
import Derived.Test.YteoimmjgnflmmaaPinA
namespace Go.Proofs.Yteoimmjgnflmmaa
open Go.RowKit

structure PR (a : Int) (s : MS) (p : PinS) : Prop where
  len : s.ws.length = 32
  pcs : p.pc = 0 ∨ p.pc = 1 ∨ p.pc = 2
  pin : p.pc = 2 → s.at a = IntKind.u64.wrap (p.ep + 1)

/-- Steps that are left, at most, if the epoch stays. -/
def rk (s : MS) (p : PinS) : Nat := if p.pc = 0 then 3 else if p.pc = 1 then (if p.ep = s.at 0 then 2 else 4) else (if p.ep = s.at 0 then 1 else 3)
theorem rk_le (s : MS) (p : PinS) : rk s p ≤ 4 := by unfold rk; split <;> (try split) <;> (try split) <;> omega

theorem PR.step {wh : Int} {s s' : MS} {p p' : PinS} {b : Bool} (h : PR (aPin wh) s p) (ha0 : 1 ≤ aPin wh) (ha1 : aPin wh < 32) (hst : inStep wh s p = (b, s', p')) :
    PR (aPin wh) s' p' ∧ s'.at 0 = s.at 0 ∧ (b = true → s'.at (aPin wh) = IntKind.u64.wrap (s'.at 0 + 1)) ∧ (b = false → rk s' p' + 1 ≤ rk s p) := by
  obtain ⟨hl, hp, hq⟩ := h
  have h0 : s.ok 0 := ⟨by omega, by omega⟩
  have hA : (s.by wh).ok (aPin wh) := ⟨by omega, by show aPin wh < (s.ws.length : Int); omega⟩
  have hg := get_ok s 0 h0
  unfold inStep at hst
  rw [hg] at hst
  by_cases c0 : p.pc = 0
  · rw [if_pos c0] at hst
    simp only [Prod.mk.injEq] at hst
    obtain ⟨rfl, rfl, rfl⟩ := hst
    refine ⟨⟨by rw [load_ws]; exact hl, .inr (.inl rfl), (fun h => by simp at h)⟩, by rw [load_at]; rfl, (fun h => by cases h), fun _ => ?_⟩
    unfold rk
    rw [load_at, by_at]
    simp [c0]
  · rw [if_neg c0] at hst
    by_cases c1 : p.pc = 1
    · rw [if_pos c1] at hst
      simp only [Prod.mk.injEq] at hst
      obtain ⟨rfl, rfl, rfl⟩ := hst
      have e0 : ((s.by wh).store (aPin wh) (IntKind.u64.wrap (p.ep + 1))).at 0 = s.at 0 := by
        rw [store_at _ _ _ _ hA (by omega), if_neg (by omega)]; rfl
      refine ⟨⟨by rw [store_len]; exact hl, .inr (.inr rfl), fun _ => by rw [store_at _ _ _ _ hA (by omega), if_pos rfl]⟩, e0, (fun h => by cases h), fun _ => ?_⟩
      unfold rk
      rw [e0]
      simp only [c1]
      by_cases hc : p.ep = s.at 0
      · simp [hc]
      · simp [hc]
    · rw [if_neg c1] at hst
      have c2 : p.pc = 2 := by omega
      by_cases he : s.at 0 = p.ep
      · rw [if_pos he] at hst
        simp only [Prod.mk.injEq] at hst
        obtain ⟨rfl, rfl, rfl⟩ := hst
        refine ⟨⟨by rw [load_ws]; exact hl, hp, fun _ => by rw [load_at]; exact hq c2⟩, by rw [load_at]; rfl, fun _ => ?_, (fun h => by cases h)⟩
        rw [load_at, load_at, by_at, by_at, he]
        exact hq c2
      · rw [if_neg he] at hst
        simp only [Prod.mk.injEq] at hst
        obtain ⟨rfl, rfl, rfl⟩ := hst
        refine ⟨⟨by rw [load_ws]; exact hl, .inr (.inl rfl), (fun h => by simp at h)⟩, by rw [load_at]; rfl, (fun h => by cases h), fun _ => ?_⟩
        unfold rk
        rw [load_at, by_at]
        simp [c2, Ne.symm he]

theorem PR.add {a : Int} {s : MS} {p : PinS} (h : PR a s p) (ha : 1 ≤ a) (d : Int) : PR a (s.add 0 d) p := by
  have h0 : s.ok 0 := ⟨by omega, by have := h.len; omega⟩
  refine ⟨by rw [add_len]; exact h.len, h.pcs, fun hp => ?_⟩
  rw [add_at _ _ _ _ h0 (by omega), if_neg (by omega)]
  exact h.pin hp

theorem PR.start (a : Int) : PR a (freshS kP) ⟨0, 0⟩ := ⟨kP_len, .inl rfl, (fun h => by simp at h)⟩

end Go.Proofs.Yteoimmjgnflmmaa
