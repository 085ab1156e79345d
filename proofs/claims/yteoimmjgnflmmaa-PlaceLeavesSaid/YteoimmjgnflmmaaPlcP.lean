/-
  What such a table shows.
-/
import Derived.Test.YteoimmjgnflmmaaPlcM
namespace Go.Proofs.Yteoimmjgnflmmaa

/-- Whoever is picked, at most f steps are left, and what is so at the end. -/
def Good (cl r : Nat) : Nat → PS4 → PT4 → PT4 → PT4 → Prop
  | 0, _, _, _, _ => False
  | f + 1, S, x, y, z =>
    (x.pc = 7 ∧ y.pc = 7 ∧ z.pc = 7 → fin4 cl r S = true) ∧
    (x.pc ≠ 7 → okS (stp cl r S x).1 = true ∧ okT (stp cl r S x).2 = true ∧ Good cl r f (stp cl r S x).1 (stp cl r S x).2 y z) ∧
    (y.pc ≠ 7 → okS (stp cl r S y).1 = true ∧ okT (stp cl r S y).2 = true ∧ Good cl r f (stp cl r S y).1 x (stp cl r S y).2 z) ∧
    (z.pc ≠ 7 → okS (stp cl r S z).1 = true ∧ okT (stp cl r S z).2 = true ∧ Good cl r f (stp cl r S z).1 x y (stp cl r S z).2)

section
variable {cl r : Nat}
theorem Good.swap : ∀ (f : Nat) (S : PS4) (x y z : PT4), Good cl r f S x y z → Good cl r f S y x z
  | 0, _, _, _, _, h => h.elim
  | f + 1, _, _, _, _, ⟨h0, h1, h2, h3⟩ => ⟨fun h => h0 ⟨h.2.1, h.1, h.2.2⟩,
      fun h => ⟨(h2 h).1, (h2 h).2.1, Good.swap f _ _ _ _ (h2 h).2.2⟩,
      fun h => ⟨(h1 h).1, (h1 h).2.1, Good.swap f _ _ _ _ (h1 h).2.2⟩,
      fun h => ⟨(h3 h).1, (h3 h).2.1, Good.swap f _ _ _ _ (h3 h).2.2⟩⟩
theorem Good.rot : ∀ (f : Nat) (S : PS4) (x y z : PT4), Good cl r f S x y z → Good cl r f S x z y
  | 0, _, _, _, _, h => h.elim
  | f + 1, _, _, _, _, ⟨h0, h1, h2, h3⟩ => ⟨fun h => h0 ⟨h.1, h.2.2, h.2.1⟩,
      fun h => ⟨(h1 h).1, (h1 h).2.1, Good.rot f _ _ _ _ (h1 h).2.2⟩,
      fun h => ⟨(h3 h).1, (h3 h).2.1, Good.rot f _ _ _ _ (h3 h).2.2⟩,
      fun h => ⟨(h2 h).1, (h2 h).2.1, Good.rot f _ _ _ _ (h2 h).2.2⟩⟩

theorem frc_eq {α : Type} (n : Nat) (k : Nat → α) : frc n k = k n := by cases n <;> rfl
theorem okT_out {t : PT4} (h : okT t = true) : t.pc ≤ 7 ∧ t.o ≤ 3 ∧ t.i ≤ 2 ∧ t.w ≤ 4294967295 := by simpa [okT] using h
theorem okS_out {S : PS4} (h : okS S = true) : S.op ≤ 3 ∧ S.a ≤ 4294967295 ∧ S.b ≤ 4294967295 ∧ S.c ≤ 4294967295 := by simpa [okS] using h
theorem pkT_lt {t : PT4} (h : okT t = true) : pkT t < 1099511627776 := by
  have := okT_out h
  unfold pkT; omega
theorem unT_pk {t : PT4} (h : okT t = true) : unT (pkT t) = t := by
  have := okT_out h
  obtain ⟨a, b, c, d⟩ := t
  simp only at this
  simp only [unT, pkT, PT4.mk.injEq]
  omega
theorem pkT_mod {t : PT4} (h : okT t = true) : pkT t % 8 = t.pc := by
  have := okT_out h
  unfold pkT; omega
theorem unS_pk {S : PS4} (h : okS S = true) : unS (pkS S) = S := by
  have := okS_out h
  obtain ⟨a, b, c, d⟩ := S
  simp only at this
  simp only [unS, pkS, PS4.mk.injEq]
  omega
theorem sx_pk {S x y z : Nat} (h : x < 1099511627776) : sx4 (pk4 S x y z) = x := by unfold sx4 pk4; omega
theorem sy_pk {S x y z : Nat} (h : x < 1099511627776) (h2 : y < 1099511627776) : sy4 (pk4 S x y z) = y := by unfold sy4 pk4; omega
theorem sz_pk {S x y z : Nat} (h : x < 1099511627776) (h2 : y < 1099511627776) (h3 : z < 1099511627776) : sz4 (pk4 S x y z) = z := by unfold sz4 pk4; omega
theorem ss_pk {S x y z : Nat} (h : x < 1099511627776) (h2 : y < 1099511627776) (h3 : z < 1099511627776) : ss4 (pk4 S x y z) = S := by unfold ss4 pk4; omega

theorem look_mono {r1 r2 k : Nat} (h : r1 ≤ r2) : ∀ t : Tr, look r1 k t = true → look r2 k t = true
  | .lf, hh => by simp [look] at hh
  | .nd l k' r' m, hh => by
    unfold look at hh ⊢
    split
    · rename_i hk
      rw [if_pos hk] at hh
      simp only [decide_eq_true_eq] at hh ⊢
      omega
    · rename_i hk
      rw [if_neg hk] at hh
      split
      · rename_i hk2
        rw [if_pos hk2] at hh
        exact look_mono h l hh
      · rename_i hk2
        rw [if_neg hk2] at hh
        exact look_mono h m hh
theorem look_one {t : Tr} {rk k : Nat} : ∀ T : Tr, look rk k T = true → allT cl r t T = true → ∃ r', r' < rk ∧ one cl r t k r' = true
  | .lf, hh, _ => by simp [look] at hh
  | .nd l k' r' m, hh, ha => by
    unfold look at hh
    unfold allT at ha
    simp only [Bool.and_eq_true] at ha
    split at hh
    · rename_i hk
      subst hk
      exact ⟨r', by simpa using hh, ha.1⟩
    · split at hh
      · exact look_one l hh ha.2.1
      · exact look_one m hh ha.2.2

theorem nx_out {t : Tr} {rk : Nat} {S : PS4} {x y z : PT4} (hx : okT x = true) (hpc : x.pc ≠ 7) (h : nx cl r t rk S (pkT x) (pkT y) (pkT z) = true) :
    okS (stp cl r S x).1 = true ∧ okT (stp cl r S x).2 = true ∧ look rk (srt (pkS (stp cl r S x).1) (pkT (stp cl r S x).2) (pkT y) (pkT z)) t = true := by
  unfold nx at h
  rw [pkT_mod hx, if_neg hpc, unT_pk hx] at h
  simpa [frc_eq] using h

theorem good_of {t : Tr} (ha : allT cl r t t = true) : ∀ (rk : Nat) (S : PS4) (x y z : PT4), okS S = true → okT x = true → okT y = true → okT z = true → look rk (srt (pkS S) (pkT x) (pkT y) (pkT z)) t = true → Good cl r rk S x y z
  | 0, S, x, y, z, _, _, _, _, h => by
    obtain ⟨r', h1, _⟩ := look_one t h ha
    omega
  | rk + 1, S, x, y, z, hS, hx, hy, hz, h => by
    have key : ∀ x y z : PT4, okT x = true → okT y = true → okT z = true → look (rk + 1) (pk4 (pkS S) (pkT x) (pkT y) (pkT z)) t = true → Good cl r (rk + 1) S x y z := fun x y z hx hy hz h => by
      obtain ⟨r', h1, h2⟩ := look_one t h ha
      have lx := pkT_lt hx
      have ly := pkT_lt hy
      have lz := pkT_lt hz
      unfold one at h2
      simp only [frc_eq, sx_pk lx, sy_pk lx ly, sz_pk lx ly lz, ss_pk lx ly lz, unS_pk hS, pkT_mod hx, pkT_mod hy, pkT_mod hz] at h2
      have hle : r' ≤ rk := by omega
      refine ⟨fun hd => by rw [if_pos hd] at h2; exact h2, fun hd => ?_, fun hd => ?_, fun hd => ?_⟩
      · rw [if_neg (fun hh => hd hh.1)] at h2
        simp only [Bool.and_eq_true] at h2
        obtain ⟨q1, q2, q3⟩ := nx_out hx hd h2.1
        exact ⟨q1, q2, good_of ha rk _ _ _ _ q1 q2 hy hz (look_mono hle t q3)⟩
      · rw [if_neg (fun hh => hd hh.2.1)] at h2
        simp only [Bool.and_eq_true] at h2
        obtain ⟨q1, q2, q3⟩ := nx_out hy hd h2.2.1
        exact ⟨q1, q2, Good.swap _ _ _ _ _ (good_of ha rk _ _ _ _ q1 q2 hx hz (look_mono hle t q3))⟩
      · rw [if_neg (fun hh => hd hh.2.2)] at h2
        simp only [Bool.and_eq_true] at h2
        obtain ⟨q1, q2, q3⟩ := nx_out hz hd h2.2.2
        exact ⟨q1, q2, Good.rot _ _ _ _ _ (Good.swap _ _ _ _ _ (good_of ha rk _ _ _ _ q1 q2 hx hy (look_mono hle t q3)))⟩
    unfold srt at h
    split at h
    · split at h
      · exact key x y z hx hy hz h
      · split at h
        · exact Good.rot _ _ _ _ _ (key x z y hx hz hy h)
        · exact Good.rot _ _ _ _ _ (Good.swap _ _ _ _ _ (key z x y hz hx hy h))
    · split at h
      · exact Good.swap _ _ _ _ _ (key y x z hy hx hz h)
      · split at h
        · exact Good.swap _ _ _ _ _ (Good.rot _ _ _ _ _ (key y z x hy hz hx h))
        · exact Good.swap _ _ _ _ _ (Good.rot _ _ _ _ _ (Good.swap _ _ _ _ _ (key z y x hz hy hx h)))
end

def t4 : PT4 := ⟨0, 0, 0, 0⟩
def s4 : PS4 := ⟨0, 0, 0, 0⟩

end Go.Proofs.Yteoimmjgnflmmaa
