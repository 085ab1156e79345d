/-
  Three that want words of one class: what they do in an arena is what the plain numbers do.
-/
import Derived.Test.YteoimmjgnflmmaaPlcP
import Derived.Test.YteoimmjgnflmmaaPsG
import Derived.Test.YteoimmjgnflmmaaFrC
namespace Go.Proofs.Yteoimmjgnflmmaa
open Go.RowKit

structure RS (cl : Nat) (s : MS) (S : PS4) : Prop where
  pm : PM (kR 6) 6 s
  op : s.at (2 + (cl : Int)) = (S.op : Int)
  a : cw (kR 6) s 0 = (S.a : Int)
  b : cw (kR 6) s 1 = (S.b : Int)
  c : cw (kR 6) s 2 = (S.c : Int)
  z : ∀ i, 3 ≤ i → i < 6 → cw (kR 6) s i = 0
structure RT (cl r : Nat) (p : PlS) (t : PT4) : Prop where
  cl : p.cl = (cl : Int)
  ok : p.ok = false
  pi : PI 6 p
  pc : p.pc = (t.pc : Int)
  o : t.pc = 1 ∨ t.pc = 3 ∨ t.pc = 4 ∨ t.pc = 5 → p.op = (t.o : Int)
  i : t.pc ≠ 0 → p.i = (t.i : Int)
  w : t.pc = 2 ∨ t.pc = 4 ∨ t.pc = 5 ∨ t.pc = 6 → p.w = (t.w : Int)
  f : t.pc = 2 → nus t.w + r ≤ 20

section
variable {cl r : Nat} {s s' : MS} {S : PS4} {p p' : PlS} {t : PT4} {b : Bool}
theorem kR6_ok : (kR 6).Ok := kR_ok (by decide) (by decide)
theorem nst_eq (w : Nat) : chSt (w : Int) = (nst w : Int) := by unfold chSt nst; omega
theorem nus_eq (w : Nat) : chUs (w : Int) = (nus w : Int) := by unfold chUs nus; omega
theorem ncl_eq (w : Nat) : chCl (w : Int) = ((w / 4 % 64 : Nat) : Int) := by unfold chCl; omega
theorem nsp_eq {w : Nat} (h : w ≤ 4294967295) : chSp (w : Int) = (nsp w : Int) := by unfold chSp nsp; omega
theorem fresh_eq {p : PlS} (hc : cl < 4) (hp : p.cl = (cl : Int)) {w : Nat} (hw : p.w = (w : Int)) (h : w ≤ 4294967295) : plFresh p = (nfr cl w : Int) := by
  have h1 : nsp w ≤ 15 := by unfold nsp; omega
  unfold plFresh
  rw [hp, hw, nsp_eq h]
  unfold putChunk nfr
  rw [fit_id (by omega) (by omega), fit_id (by omega) (by omega), fit_id (by omega) (by omega), fit_id (by omega) (by omega)]
  omega
theorem getW_eq {p : PlS} (hr : room p.cl = (r : Int)) {w : Nat} (hw : p.w = (w : Int)) (h : w ≤ 4294967295) (hf : nus w + r ≤ 20) : plGetW p = ((w + r * 256 : Nat) : Int) := by
  unfold plGetW
  rw [hr, hw, nst_eq, nus_eq, nsp_eq h]
  have e : chCl (w : Int) = ((w / 4 % 64 : Nat) : Int) := by unfold chCl; omega
  rw [e]
  unfold putChunk
  rw [fit_id (by omega) (by unfold nst; omega), fit_id (by omega) (by omega), fit_id (by omega) (by omega), fit_id (by omega) (by unfold nsp; omega)]
  unfold nst nus nsp at *
  omega
theorem leave_eq {w : Nat} (h : w ≤ 4294967295) : putChunk 0 0 0 (chSp (w : Int) + 2) = (((nsp w + 2) * 268435456 : Nat) : Int) := by
  have h1 : nsp w ≤ 15 := by unfold nsp; omega
  rw [nsp_eq h]
  unfold putChunk
  rw [show fit 0 3 = 0 from by decide, show fit 0 63 = 0 from by decide, show fit 0 1048575 = 0 from by decide, fit_id (by omega) (by omega)]
  omega

theorem RS.chk (h : RS cl s S) {i : Nat} (hi : i ≤ 2) : cw (kR 6) s (i : Int) = (nchk S i : Int) := by
  have : i = 0 ∨ i = 1 ∨ i = 2 := by omega
  rcases this with rfl | rfl | rfl
  · exact h.a
  · exact h.b
  · exact h.c
theorem RS.same (h : RS cl s S) (hw : s'.ws = s.ws) : RS cl s' S := by
  have e : ∀ a, s'.at a = s.at a := fun a => by unfold MS.at; rw [hw]
  exact ⟨h.pm.same hw, by rw [e]; exact h.op, by unfold cw; rw [e]; exact h.a, by unfold cw; rw [e]; exact h.b, by unfold cw; rw [e]; exact h.c, fun i h0 h1 => by unfold cw; rw [e]; exact h.z i h0 h1⟩
theorem RS.setC (h : RS cl s S) (hc : cl < 4) {i v : Nat} (hi : i ≤ 2) (hv : v ≤ 4294967295) (hw : s'.ws = s.ws.set (aChunk (kR 6) (i : Int)).toNat (v : Int)) : RS cl s' (nset S i v) := by
  have hcw := cw_setC kR6_ok h.pm (i := (i : Int)) (by omega) (by omega) hw
  have hM := h.pm.setC kR6_ok (i := (i : Int)) (by omega) (by omega) (v := (v : Int)) ⟨by omega, by omega⟩ hw
  have hC := h.pm.okC kR6_ok (i := (i : Int)) (by omega) (by omega)
  have e := aChunk_ok kR6_ok (i := (i : Int)) (by omega) (by omega)
  have hop : s'.at (2 + (cl : Int)) = s.at (2 + (cl : Int)) := by
    unfold MS.at
    rw [hw, set_at _ _ _ hC (by omega), if_neg (by rw [e]; show ¬ 2 + (cl : Int) = 6 + 4 + 2 * 1 + 3 * (i : Int); omega)]
  have c0 := hcw 0 (by decide) (by decide)
  have c1 := hcw 1 (by decide) (by decide)
  have c2 := hcw 2 (by decide) (by decide)
  have hz : ∀ j, 3 ≤ j → j < 6 → cw (kR 6) s' j = 0 := fun j j0 j1 => by rw [hcw j (by omega) (by omega), if_neg (by omega)]; exact h.z j j0 j1
  have : i = 0 ∨ i = 1 ∨ i = 2 := by omega
  rcases this with rfl | rfl | rfl
  · exact ⟨hM, by rw [hop]; exact h.op, by rw [c0]; rfl, by rw [c1]; exact h.b, by rw [c2]; exact h.c, hz⟩
  · exact ⟨hM, by rw [hop]; exact h.op, by rw [c0]; exact h.a, by rw [c1]; rfl, by rw [c2]; exact h.c, hz⟩
  · exact ⟨hM, by rw [hop]; exact h.op, by rw [c0]; exact h.a, by rw [c1]; exact h.b, by rw [c2]; rfl, hz⟩
theorem RS.setO (h : RS cl s S) (hc : cl < 4) {v : Nat} (hv : v ≤ 6) (hw : s'.ws = s.ws.set (aOpen (cl : Int)).toNat (v : Int)) : RS cl s' ⟨v, S.a, S.b, S.c⟩ := by
  have hc' : (cl : Int) = 0 ∨ (cl : Int) = 1 ∨ (cl : Int) = 2 ∨ (cl : Int) = 3 := by omega
  have hcw := cw_setO kR6_ok h.pm hc' hw
  have hM := h.pm.setO kR6_ok hc' (v := (v : Int)) (by omega) (by omega) ⟨by omega, by omega⟩ hw
  have hO := h.pm.okO kR6_ok hc'
  have e := aOpen_ok hc'
  refine ⟨hM, ?_, by rw [hcw 0 (by decide) (by decide)]; exact h.a, by rw [hcw 1 (by decide) (by decide)]; exact h.b, by rw [hcw 2 (by decide) (by decide)]; exact h.c, fun j j0 j1 => by rw [hcw j (by omega) (by omega)]; exact h.z j j0 j1⟩
  unfold MS.at
  rw [hw, set_at _ _ _ hO (by omega), if_pos (by rw [e])]

theorem sim_step (hc : cl < 4) (hr : room (cl : Int) = (r : Int)) (hS : RS cl s S) (hT : RT cl r p t) (okt : okT t = true) (h7 : t.pc ≠ 7) (hst : placeStep (kR 6) 0 s p = (b, s', p')) (q1 : okS (stp cl r S t).1 = true) (q2 : okT (stp cl r S t).2 = true) :
    RS cl s' (stp cl r S t).1 ∧ ((b = true ∧ (stp cl r S t).2.pc = 7) ∨ (b = false ∧ (stp cl r S t).2.pc ≠ 7 ∧ RT cl r p' (stp cl r S t).2)) := by
  have hc' : (cl : Int) = 0 ∨ (cl : Int) = 1 ∨ (cl : Int) = 2 ∨ (cl : Int) = 3 := by omega
  obtain ⟨ht0, ht1, ht2, ht3⟩ := okT_out okt
  have hI := hT.pi
  have hpc := hT.pc
  have hlaw := place_law kR6_ok hS.pm hI hst
  obtain ⟨_, _, _, _, hI', hcl', hok'⟩ := hlaw
  have hO := hS.pm.okO kR6_ok hc'
  have hgo : s.get (aOpen p.cl) = (S.op : Int) := by rw [hT.cl, get_ok _ _ hO, aOpen_ok hc']; exact hS.op
  have hgc : t.pc ≠ 0 → s.ok (aChunk (kR 6) p.i) ∧ s.get (aChunk (kR 6) p.i) = (nchk S t.i : Int) ∧ s.at (aChunk (kR 6) p.i) = (nchk S t.i : Int) := fun h => by
    have hC := hS.pm.okC kR6_ok (i := (t.i : Int)) (by omega) (by omega)
    rw [hT.i h]
    refine ⟨hC, ?_, ?_⟩
    · rw [get_ok _ _ hC]; exact hS.chk ht2
    · exact hS.chk ht2
  have mk : ∀ t' : PT4, b = false → p'.pc = (t'.pc : Int) → (t'.pc = 1 ∨ t'.pc = 3 ∨ t'.pc = 4 ∨ t'.pc = 5 → p'.op = (t'.o : Int)) → (t'.pc ≠ 0 → p'.i = (t'.i : Int)) → (t'.pc = 2 ∨ t'.pc = 4 ∨ t'.pc = 5 ∨ t'.pc = 6 → p'.w = (t'.w : Int)) → (t'.pc = 2 → nus t'.w + r ≤ 20) → RT cl r p' t' := fun t' hb h1 h2 h3 h4 h5 =>
    ⟨hcl'.trans hT.cl, hok' hT.ok hb, hI' hb, h1, h2, h3, h4, h5⟩
  have hpcs : t.pc = 0 ∨ t.pc = 1 ∨ t.pc = 2 ∨ t.pc = 3 ∨ t.pc = 4 ∨ t.pc = 5 ∨ t.pc = 6 := by omega
  unfold placeStep at hst
  unfold stp at q1 q2 ⊢
  rcases hpcs with h | h | h | h | h | h | h
  · rw [if_pos (by omega), hgo] at hst
    simp only [Prod.mk.injEq] at hst
    obtain ⟨hb, hs, hp⟩ := hst
    obtain ⟨_, _, t3⟩ := load_touch (wh := 0) (a := aOpen p.cl) (s := s) (by rw [hT.cl]; exact hO)
    rw [hs] at t3
    have hS' := hS.same t3
    simp only [if_pos h]
    by_cases h0 : S.op = 0
    · rw [if_pos h0]
      rw [if_pos (decide_eq_true (by omega))] at hp
      exact ⟨hS', .inr ⟨hb.symm, by simp, mk _ hb.symm (by rw [← hp]; rfl) (fun _ => by rw [← hp]; simp only; omega) (fun _ => by rw [← hp]; rfl) (fun hh => by simp at hh) (fun hh => by simp at hh)⟩⟩
    · rw [if_neg h0]
      rw [if_neg (by simp; omega)] at hp
      exact ⟨hS', .inr ⟨hb.symm, by simp, mk _ hb.symm (by rw [← hp]; rfl) (fun _ => by rw [← hp]) (fun _ => by rw [← hp]; simp only; omega) (fun hh => by simp at hh) (fun hh => by simp at hh)⟩⟩
  · obtain ⟨hC, hg, _⟩ := hgc (by omega)
    rw [if_neg (by omega), if_pos (by omega), hg, hT.cl, hr, nst_eq, nus_eq, ncl_eq] at hst
    simp only [Prod.mk.injEq] at hst
    obtain ⟨hb, hs, hp⟩ := hst
    obtain ⟨_, _, t3⟩ := load_touch (wh := 0) hC
    rw [hs] at t3
    have hS' := hS.same t3
    rw [if_neg (by omega), if_pos h] at q1 q2 ⊢
    by_cases h0 : nst (nchk S t.i) = 1 ∧ nchk S t.i / 4 % 64 = cl ∧ nus (nchk S t.i) + r ≤ 20
    · rw [if_pos h0] at q1 q2 ⊢
      rw [if_pos (decide_eq_true ⟨by omega, by omega, by show (nus (nchk S t.i) : Int) + (r : Int) ≤ 20; omega⟩)] at hp
      exact ⟨hS', .inr ⟨hb.symm, by simp, mk _ hb.symm (by rw [← hp]; rfl) (fun hh => by simp at hh) (fun _ => by rw [← hp]; exact hT.i (by omega)) (fun _ => by rw [← hp]) (fun _ => h0.2.2)⟩⟩
    · rw [if_neg h0] at q1 q2 ⊢
      rw [if_neg (by
        intro hh
        have := of_decide_eq_true hh
        exact h0 ⟨by omega, by omega, by have := this.2.2; change (nus (nchk S t.i) : Int) + (r : Int) ≤ 20 at this; omega⟩)] at hp
      exact ⟨hS', .inr ⟨hb.symm, by simp, mk _ hb.symm (by rw [← hp]; rfl) (fun _ => by rw [← hp]; exact hT.o (by omega)) (fun _ => by rw [← hp]; rfl) (fun hh => by simp at hh) (fun hh => by simp at hh)⟩⟩
  · obtain ⟨hC, _, ha⟩ := hgc (by omega)
    have hw := hT.w (by omega)
    rw [if_neg (by omega), if_neg (by omega), if_pos (by omega)] at hst
    simp only [Prod.mk.injEq] at hst
    obtain ⟨hb, hs, hp⟩ := hst
    obtain ⟨_, _, t3⟩ := cas_touch (wh := 0) (o := p.w) (v := plGetW p) hC
    rw [hs, ha, hw] at t3
    rw [if_neg (by omega), if_neg (by omega), if_pos h] at q1 q2 ⊢
    by_cases h0 : nchk S t.i = t.w
    · rw [if_pos h0] at q1 q2 ⊢
      have hcan : s.can (aChunk (kR 6) p.i) p.w = true := by unfold MS.can; exact decide_eq_true ⟨hC, by rw [ha, hw, h0]⟩
      rw [if_pos (by rw [h0]), getW_eq (by rw [hT.cl]; exact hr) hw ht3 (hT.f h), hT.i (by omega)] at t3
      obtain ⟨v0, v1, v2, v3⟩ := okS_out q1
      have hv : t.w + r * 256 ≤ 4294967295 := by
        have : t.i = 0 ∨ t.i = 1 ∨ t.i = 2 := by omega
        rcases this with hi | hi | hi <;> rw [hi] at v1 v2 v3
        · exact v1
        · exact v2
        · exact v3
      exact ⟨hS.setC hc ht2 hv t3, .inl ⟨by rw [← hb, hcan], rfl⟩⟩
    · rw [if_neg h0] at q1 q2 ⊢
      have hcan : s.can (aChunk (kR 6) p.i) p.w = false := by unfold MS.can; exact decide_eq_false (fun x => h0 (by have := x.2; rw [ha, hw] at this; omega))
      rw [if_neg (by omega)] at t3
      rw [hcan, if_neg (by simp)] at hp
      have hbf : b = false := by rw [← hb, hcan]
      exact ⟨hS.same t3, .inr ⟨hbf, by simp, mk _ hbf (by rw [← hp]; rfl) (fun hh => by simp at hh) (fun hh => by simp at hh) (fun hh => by simp at hh) (fun hh => by simp at hh)⟩⟩
  · obtain ⟨hC, hg, ha⟩ := hgc (by omega)
    rw [if_neg (by omega), if_neg (by omega), if_neg (by omega), if_pos (by omega), hg, nst_eq] at hst
    simp only [Prod.mk.injEq] at hst
    obtain ⟨hb, hs, hp⟩ := hst
    obtain ⟨_, _, t3⟩ := load_touch (wh := 0) hC
    rw [hs] at t3
    have hS' := hS.same t3
    rw [if_neg (by omega), if_neg (by omega), if_neg (by omega), if_pos h] at q1 q2 ⊢
    by_cases h0 : nst (nchk S t.i) = 0
    · rw [if_pos h0] at q1 q2 ⊢
      have hd : decide ((nst (nchk S t.i) : Int) = 0) = true := decide_eq_true (by omega)
      rw [hd] at hb hp
      rw [if_pos rfl] at hp
      have hbf : b = false := by rw [← hb]; rfl
      exact ⟨hS', .inr ⟨hbf, by simp, mk _ hbf (by rw [← hp]; rfl) (fun _ => by rw [← hp]; exact hT.o (by omega)) (fun _ => by rw [← hp]; exact hT.i (by omega)) (fun _ => by rw [← hp]) (fun hh => by simp at hh)⟩⟩
    · rw [if_neg h0] at q1 q2 ⊢
      obtain ⟨_, _, hi2, _⟩ := okT_out q2
      simp only at hi2
      have hd : decide ((nst (nchk S t.i) : Int) = 0) = false := decide_eq_false (by omega)
      rw [hd] at hb hp
      rw [if_neg (by simp)] at hp
      have hbf : b = false := by
        rw [← hb, hT.i (by omega)]
        have : decide ((kR 6).c ≤ (t.i : Int) + 1) = false := decide_eq_false (by show ¬ (6 : Int) ≤ _; omega)
        rw [this]; rfl
      exact ⟨hS', .inr ⟨hbf, by simp, mk _ hbf (by rw [← hp]; rfl) (fun _ => by rw [← hp]; exact hT.o (by omega)) (fun _ => by rw [← hp]; simp only; rw [hT.i (by omega)]; omega) (fun hh => by simp at hh) (fun hh => by simp at hh)⟩⟩
  · obtain ⟨hC, _, ha⟩ := hgc (by omega)
    have hw := hT.w (by omega)
    rw [if_neg (by omega), if_neg (by omega), if_neg (by omega), if_neg (by omega), if_pos (by omega)] at hst
    simp only [Prod.mk.injEq] at hst
    obtain ⟨hb, hs, hp⟩ := hst
    obtain ⟨_, _, t3⟩ := cas_touch (wh := 0) (o := p.w) (v := plFresh p) hC
    rw [hs, ha, hw] at t3
    rw [if_neg (by omega), if_neg (by omega), if_neg (by omega), if_neg (by omega), if_pos h] at q1 q2 ⊢
    by_cases h0 : nchk S t.i = t.w
    · rw [if_pos h0] at q1 q2 ⊢
      have hcan : s.can (aChunk (kR 6) p.i) p.w = true := by unfold MS.can; exact decide_eq_true ⟨hC, by rw [ha, hw, h0]⟩
      rw [if_pos (by rw [h0]), fresh_eq hc hT.cl hw ht3, hT.i (by omega)] at t3
      obtain ⟨v0, v1, v2, v3⟩ := okS_out q1
      have hv : nfr cl t.w ≤ 4294967295 := by
        have : t.i = 0 ∨ t.i = 1 ∨ t.i = 2 := by omega
        rcases this with hi | hi | hi <;> rw [hi] at v1 v2 v3
        · exact v1
        · exact v2
        · exact v3
      rw [hcan] at hb hp
      rw [if_pos rfl] at hp
      have hbf : b = false := by rw [← hb]; rfl
      exact ⟨hS.setC hc ht2 hv t3, .inr ⟨hbf, by simp, mk _ hbf (by rw [← hp]; rfl) (fun _ => by rw [← hp]; exact hT.o (by omega)) (fun _ => by rw [← hp]; exact hT.i (by omega)) (fun _ => by rw [← hp]; exact hw) (fun hh => by simp at hh)⟩⟩
    · rw [if_neg h0] at q1 q2 ⊢
      obtain ⟨_, _, hi2, _⟩ := okT_out q2
      simp only at hi2
      have hcan : s.can (aChunk (kR 6) p.i) p.w = false := by unfold MS.can; exact decide_eq_false (fun x => h0 (by have := x.2; rw [ha, hw] at this; omega))
      rw [if_neg (by omega)] at t3
      rw [hcan] at hb hp
      rw [if_neg (by simp)] at hp
      have hbf : b = false := by
        rw [← hb, hT.i (by omega)]
        have : decide ((kR 6).c ≤ (t.i : Int) + 1) = false := decide_eq_false (by show ¬ (6 : Int) ≤ _; omega)
        rw [this]; rfl
      exact ⟨hS.same t3, .inr ⟨hbf, by simp, mk _ hbf (by rw [← hp]; rfl) (fun _ => by rw [← hp]; exact hT.o (by omega)) (fun _ => by rw [← hp]; simp only; rw [hT.i (by omega)]; omega) (fun hh => by simp at hh) (fun hh => by simp at hh)⟩⟩
  · have ho := hT.o (by omega)
    have hi := hT.i (by omega)
    have hat : s.at (aOpen p.cl) = (S.op : Int) := by rw [hT.cl, aOpen_ok hc']; exact hS.op
    have hO' : s.ok (aOpen p.cl) := by rw [hT.cl]; exact hO
    rw [if_neg (by omega), if_neg (by omega), if_neg (by omega), if_neg (by omega), if_neg (by omega), if_pos (by omega)] at hst
    simp only [Prod.mk.injEq] at hst
    obtain ⟨hb, hs, hp⟩ := hst
    obtain ⟨_, _, t3⟩ := cas_touch (wh := 0) (o := p.op) (v := p.i + 1) hO'
    rw [hs, hat, ho, hi, hT.cl, show (t.i : Int) + 1 = ((t.i + 1 : Nat) : Int) from by omega] at t3
    rw [if_neg (by omega), if_neg (by omega), if_neg (by omega), if_neg (by omega), if_neg (by omega), if_pos h] at q1 q2 ⊢
    by_cases h0 : S.op = t.o
    · rw [if_pos h0] at q1 q2 ⊢
      have hcan : s.can (aOpen p.cl) p.op = true := by unfold MS.can; exact decide_eq_true ⟨hO', by rw [hat, ho, h0]⟩
      rw [if_pos (by rw [h0])] at t3
      rw [hcan, if_pos rfl] at hp
      exact ⟨hS.setO hc (by omega) t3, .inr ⟨hb.symm, by simp, mk _ hb.symm (by rw [← hp]; rfl) (fun hh => by simp at hh) (fun hh => by simp at hh) (fun hh => by simp at hh) (fun hh => by simp at hh)⟩⟩
    · rw [if_neg h0] at q1 q2 ⊢
      have hcan : s.can (aOpen p.cl) p.op = false := by unfold MS.can; exact decide_eq_false (fun x => h0 (by have := x.2; rw [hat, ho] at this; omega))
      rw [if_neg (by omega)] at t3
      rw [hcan, if_neg (by simp)] at hp
      exact ⟨hS.same t3, .inr ⟨hb.symm, by simp, mk _ hb.symm (by rw [← hp]; rfl) (fun hh => by simp at hh) (fun _ => by rw [← hp]; exact hi) (fun _ => by rw [← hp]; exact hT.w (by omega)) (fun hh => by simp at hh)⟩⟩
  · obtain ⟨hC, _, ha⟩ := hgc (by omega)
    have hw := hT.w (by omega)
    rw [if_neg (by omega), if_neg (by omega), if_neg (by omega), if_neg (by omega), if_neg (by omega), if_neg (by omega)] at hst
    simp only [Prod.mk.injEq] at hst
    obtain ⟨hb, hs, hp⟩ := hst
    obtain ⟨_, _, t3⟩ := cas_touch (wh := 0) (o := plFresh p) (v := putChunk 0 0 0 (chSp p.w + 2)) hC
    rw [hs, ha, fresh_eq hc hT.cl hw ht3, hw, leave_eq ht3, hT.i (by omega)] at t3
    rw [if_neg (by omega), if_neg (by omega), if_neg (by omega), if_neg (by omega), if_neg (by omega), if_neg (by omega)] at q1 q2 ⊢
    have hfin : RT cl r p' ⟨0, 0, 0, 0⟩ := mk _ hb.symm (by rw [← hp]; rfl) (fun hh => by simp at hh) (fun hh => by simp at hh) (fun hh => by simp at hh) (fun hh => by simp at hh)
    by_cases h0 : nchk S t.i = nfr cl t.w
    · rw [if_pos h0] at q1 q2 ⊢
      rw [if_pos (by rw [h0])] at t3
      obtain ⟨v0, v1, v2, v3⟩ := okS_out q1
      have hv : (nsp t.w + 2) * 268435456 ≤ 4294967295 := by
        have : t.i = 0 ∨ t.i = 1 ∨ t.i = 2 := by omega
        rcases this with hi | hi | hi <;> rw [hi] at v1 v2 v3
        · exact v1
        · exact v2
        · exact v3
      exact ⟨hS.setC hc ht2 hv t3, .inr ⟨hb.symm, by simp, hfin⟩⟩
    · rw [if_neg h0] at q1 q2 ⊢
      rw [if_neg (by omega)] at t3
      exact ⟨hS.same t3, .inr ⟨hb.symm, by simp, hfin⟩⟩
end

end Go.Proofs.Yteoimmjgnflmmaa
