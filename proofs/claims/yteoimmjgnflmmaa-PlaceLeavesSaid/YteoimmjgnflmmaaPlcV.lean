/-
  Three that want words of one class: whoever is picked, all have them by step 300; what the chunks are then.
-/
import Derived.Test.YteoimmjgnflmmaaPlcS
import Derived.Test.YteoimmjgnflmmaaPlcT0
import Derived.Test.YteoimmjgnflmmaaPlcT1
import Derived.Test.YteoimmjgnflmmaaPlcT2
import Derived.Test.YteoimmjgnflmmaaPlcT3
namespace Go.Proofs.Yteoimmjgnflmmaa
open Go.RowKit

/-- What is so behind step j. -/
structure VSt (cl r F0 j : Nat) (s : MS) (f : Nat → PlS) (d : Nat → Bool) (g : Nat) (S : PS4) (T : Nat → PT4) (cnt : Nat → Nat) : Prop where
  good : Good cl r g S (T 0) (T 1) (T 2)
  okS : okS S = true
  okT : ∀ i, i < 3 → okT (T i) = true
  rs : RS cl s S
  done : ∀ i, i < 3 → d i = decide ((T i).pc = 7)
  rt : ∀ i, i < 3 → (T i).pc ≠ 7 → RT cl r (f i) (T i)
  sum : g + (cnt 0 + cnt 1 + cnt 2) = F0
  cnt : ∀ i, i < 3 → (T i).pc ≠ 7 → (j + 2 - i) / 3 ≤ cnt i + 34
def VOk (cl r F0 j : Nat) (s : MS) (f : Nat → PlS) (d : Nat → Bool) : Prop := ∃ g S T cnt, VSt cl r F0 j s f d g S T cnt
def updP {α : Type} (f : Nat → α) (i : Nat) (x : α) : Nat → α := fun j => if j = i then x else f j
theorem updP_at {α : Type} (f : Nat → α) (i : Nat) (x : α) : updP f i x i = x := by simp [updP]
theorem updP_ne {α : Type} (f : Nat → α) (i j : Nat) (x : α) (h : j ≠ i) : updP f i x j = f j := by simp [updP, h]

section
variable {cl r F0 j κ : Nat} {s s' : MS} {f : Nat → PlS} {d : Nat → Bool} {p' : PlS} {b : Bool}
theorem cnt_other {i : Nat} (hi : i < 3) (hik : i ≠ κ) (hp : j < 100 ∨ κ = j % 3) {c : Nat} (h : (j + 2 - i) / 3 ≤ c + 34) : (j + 1 + 2 - i) / 3 ≤ c + 34 := by
  have : i = 0 ∨ i = 1 ∨ i = 2 := by omega
  rcases hp with hp | hp
  · omega
  · subst hp
    rcases this with rfl | rfl | rfl <;> omega
theorem cnt_self {i : Nat} {c : Nat} (h : (j + 2 - i) / 3 ≤ c + 34) : (j + 1 + 2 - i) / 3 ≤ c + 1 + 34 := by omega

theorem VOk.skip (h : VOk cl r F0 j s f d) (hκ : κ < 3) (hd : d κ = true) (hp : j < 100 ∨ κ = j % 3) : VOk cl r F0 (j + 1) s f d := by
  obtain ⟨g, S, T, cnt, h⟩ := h
  refine ⟨g, S, T, cnt, ⟨h.good, h.okS, h.okT, h.rs, h.done, h.rt, h.sum, fun i hi h7 => ?_⟩⟩
  have hik : i ≠ κ := fun hh => by
    subst hh
    have := h.done i hi
    rw [hd] at this
    exact h7 (of_decide_eq_true this.symm)
  exact cnt_other hi hik hp (h.cnt i hi h7)

theorem VOk.inv (h : VOk cl r F0 j s f d) (hκ : κ < 3) (hd : d κ = false) : PM (kR 6) 6 s ∧ PI 6 (f κ) := by
  obtain ⟨g, S, T, cnt, h⟩ := h
  have := h.done κ hκ
  rw [hd] at this
  exact ⟨h.rs.pm, (h.rt κ hκ (of_decide_eq_false this.symm)).pi⟩

theorem VOk.step (h : VOk cl r F0 j s f d) (hc : cl < 4) (hr : room (cl : Int) = (r : Int)) (hκ : κ < 3) (hd : d κ = false) (hp : j < 100 ∨ κ = j % 3) (hst : placeStep (kR 6) 0 s (f κ) = (b, s', p')) : VOk cl r F0 (j + 1) s' (updP f κ p') (updP d κ b) := by
  obtain ⟨g, S, T, cnt, h⟩ := h
  have h7 : (T κ).pc ≠ 7 := by
    have := h.done κ hκ
    rw [hd] at this
    exact of_decide_eq_false this.symm
  cases g with
  | zero => exact h.good.elim
  | succ g =>
    have key : okS (stp cl r S (T κ)).1 = true ∧ okT (stp cl r S (T κ)).2 = true ∧ Good cl r g (stp cl r S (T κ)).1 (updP T κ (stp cl r S (T κ)).2 0) (updP T κ (stp cl r S (T κ)).2 1) (updP T κ (stp cl r S (T κ)).2 2) := by
      obtain ⟨_, g0, g1, g2⟩ := h.good
      have : κ = 0 ∨ κ = 1 ∨ κ = 2 := by omega
      rcases this with rfl | rfl | rfl
      · exact g0 h7
      · exact g1 h7
      · exact g2 h7
    obtain ⟨q1, q2, q3⟩ := key
    obtain ⟨t1, t2⟩ := sim_step hc hr h.rs (h.rt κ hκ h7) (h.okT κ hκ) h7 hst q1 q2
    refine ⟨g, (stp cl r S (T κ)).1, updP T κ (stp cl r S (T κ)).2, updP cnt κ (cnt κ + 1), ⟨q3, q1, fun i hi => ?_, t1, fun i hi => ?_, fun i hi => ?_, ?_, fun i hi => ?_⟩⟩
    · by_cases hik : i = κ
      · subst hik; rw [updP_at]; exact q2
      · rw [updP_ne _ _ _ _ hik]; exact h.okT i hi
    · by_cases hik : i = κ
      · subst hik
        rw [updP_at, updP_at]
        rcases t2 with ⟨hb, hpc⟩ | ⟨hb, hpc, _⟩
        · rw [hb, hpc]; rfl
        · rw [hb]; exact (decide_eq_false hpc).symm
      · rw [updP_ne _ _ _ _ hik, updP_ne _ _ _ _ hik]; exact h.done i hi
    · by_cases hik : i = κ
      · subst hik
        rw [updP_at, updP_at]
        rcases t2 with ⟨_, hpc⟩ | ⟨_, _, hR⟩
        · exact fun hh => absurd hpc hh
        · exact fun _ => hR
      · rw [updP_ne _ _ _ _ hik, updP_ne _ _ _ _ hik]; exact h.rt i hi
    · have hs := h.sum
      have : κ = 0 ∨ κ = 1 ∨ κ = 2 := by omega
      rcases this with rfl | rfl | rfl <;> simp only [updP] <;> simp <;> omega
    · by_cases hik : i = κ
      · subst hik
        rw [updP_at, updP_at]
        exact fun _ => cnt_self (h.cnt i hi h7)
      · rw [updP_ne _ _ _ _ hik, updP_ne _ _ _ _ hik]
        exact fun hh => cnt_other hi hik hp (h.cnt i hi hh)

theorem VOk.out (h : VOk cl r F0 300 s f d) (hF : F0 ≤ 61) : (∀ i, i < 3 → d i = true) ∧ ∃ S, fin4 cl r S = true ∧ okS S = true ∧ RS cl s S := by
  obtain ⟨g, S, T, cnt, h⟩ := h
  have h7 : ∀ i, i < 3 → (T i).pc = 7 := fun i hi => by
    by_cases hh : (T i).pc = 7
    · exact hh
    · have h1 := h.cnt i hi hh
      have h2 := h.sum
      have : i = 0 ∨ i = 1 ∨ i = 2 := by omega
      rcases this with rfl | rfl | rfl <;> omega
  refine ⟨fun i hi => by rw [h.done i hi, h7 i hi]; rfl, S, ?_, h.okS, h.rs⟩
  cases g with
  | zero => exact h.good.elim
  | succ g => exact h.good.1 ⟨h7 0 (by decide), h7 1 (by decide), h7 2 (by decide)⟩
end

theorem fresh_PM6 (hr : ∀ x ∈ (freshS (kR 6)).ws, U64 x) : PM (kR 6) 6 (freshS (kR 6)) := fresh_PM kR6_ok (by decide) rfl hr
theorem vok_start {cl : Nat} (hc : cl < 4) (hr : ∀ x ∈ (freshS (kR 6)).ws, U64 x) : ∃ r F0 : Nat, room (cl : Int) = (r : Int) ∧ F0 ≤ 61 ∧ VOk cl r F0 0 (freshS (kR 6)) (fun _ => pl0 cl) (fun _ => false) := by
  have hS : RS cl (freshS (kR 6)) s4 := ⟨fresh_PM6 hr, by rw [fresh_open kR6_ok (by decide) (by omega) (by omega)]; rfl, fresh_cw kR6_ok (by decide) (by decide) (by decide), fresh_cw kR6_ok (by decide) (by decide) (by decide), fresh_cw kR6_ok (by decide) (by decide) (by decide), fun i h0 h1 => fresh_cw kR6_ok (by decide) (by omega) h1⟩
  have mk : ∀ r F0 : Nat, Good cl r F0 s4 t4 t4 t4 → VOk cl r F0 0 (freshS (kR 6)) (fun _ => pl0 cl) (fun _ => false) := fun r F0 hg =>
    ⟨F0, s4, fun _ => t4, fun _ => 0, ⟨hg, by decide, fun _ _ => by decide, hS, fun _ _ => by decide, fun _ _ _ => ⟨rfl, rfl, pl0_PI (by omega), rfl, fun hh => by simp [t4] at hh, fun hh => by simp [t4] at hh, fun hh => by simp [t4] at hh, fun hh => by simp [t4] at hh⟩, rfl, fun i hi _ => by omega⟩⟩
  have : cl = 0 ∨ cl = 1 ∨ cl = 2 ∨ cl = 3 := by omega
  rcases this with rfl | rfl | rfl | rfl
  · exact ⟨3, 39, by decide, by decide, mk _ _ plc0⟩
  · exact ⟨5, 39, by decide, by decide, mk _ _ plc1⟩
  · exact ⟨9, 45, by decide, by decide, mk _ _ plc2⟩
  · exact ⟨17, 61, by decide, by decide, mk _ _ plc3⟩

/-- What the chunks are at the end. -/
structure VFin (cl r : Nat) (s : MS) (op : Nat) : Prop where
  pm : PM (kR 6) 6 s
  o0 : 1 ≤ op
  o1 : op ≤ 3
  get : s.get (aOpen (cl : Int)) = (op : Int)
  one : ∀ i : Nat, i < 6 → (i + 1 = op → chSt (cw (kR 6) s i) = 1 ∧ chCl (cw (kR 6) s i) = (cl : Int)) ∧ (i + 1 ≠ op → chSt (cw (kR 6) s i) = 1 → 20 < chUs (cw (kR 6) s i) + (r : Int))
  sum : chUs (cw (kR 6) s 0) + chUs (cw (kR 6) s 1) + chUs (cw (kR 6) s 2) = 3 * (r : Int)
  rest : ∀ i : Nat, 3 ≤ i → i < 6 → chUs (cw (kR 6) s i) = 0

theorem fch_out {cl r op i w : Nat} (h : fch cl r op i w = true) : (i + 1 = op → chSt (w : Int) = 1 ∧ chCl (w : Int) = (cl : Int)) ∧ (i + 1 ≠ op → chSt (w : Int) = 1 → 20 < chUs (w : Int) + (r : Int)) := by
  rw [nst_eq, nus_eq, ncl_eq]
  unfold fch at h
  split at h
  · rename_i hh
    have := of_decide_eq_true h
    exact ⟨fun _ => by omega, fun hn => absurd hh.symm hn⟩
  · rename_i hh
    refine ⟨fun hn => absurd hn.symm hh, fun _ h1 => ?_⟩
    rw [if_pos (by omega)] at h
    have := of_decide_eq_true h
    omega
theorem vfin {cl r : Nat} {s : MS} {S : PS4} (hc : cl < 4) (hf : fin4 cl r S = true) (ho : okS S = true) (hS : RS cl s S) : VFin cl r s S.op := by
  have hc' : (cl : Int) = 0 ∨ (cl : Int) = 1 ∨ (cl : Int) = 2 ∨ (cl : Int) = 3 := by omega
  obtain ⟨o1, _, _, _⟩ := okS_out ho
  unfold fin4 at hf
  simp only [Bool.and_eq_true, decide_eq_true_eq] at hf
  obtain ⟨f0, f1, f2, f3, f4⟩ := hf
  refine ⟨hS.pm, f0, o1, ?_, fun i hi => ?_, ?_, fun i h0 h1 => ?_⟩
  · rw [get_ok _ _ (hS.pm.okO kR6_ok hc'), aOpen_ok hc']; exact hS.op
  · have : i = 0 ∨ i = 1 ∨ i = 2 ∨ 3 ≤ i := by omega
    rcases this with rfl | rfl | rfl | h3
    · have := fch_out f1; rw [← hS.a] at this; exact this
    · have := fch_out f2; rw [← hS.b] at this; exact this
    · have := fch_out f3; rw [← hS.c] at this; exact this
    · rw [hS.z i (by omega) (by omega)]
      exact ⟨fun hh => by omega, fun _ hh => by simp [chSt] at hh⟩
  · rw [hS.a, hS.b, hS.c, nus_eq, nus_eq, nus_eq]
    omega
  · rw [hS.z i (by omega) (by omega)]; rfl

end Go.Proofs.Yteoimmjgnflmmaa
