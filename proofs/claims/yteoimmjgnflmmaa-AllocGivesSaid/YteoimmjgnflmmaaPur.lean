/-
  Plain laws of a memory's words: what is read behind a load, a store, an exchange, an addition.
-/
import Derived.Test.YteoimmjgnflmmaaNew
namespace Go.Proofs.Yteoimmjgnflmmaa
open Go.RowKit

section
variable (s : MS) (a b v d wh old : Int)
theorem by_at : (s.by wh).at b = s.at b := rfl
theorem by_ws : (s.by wh).ws = s.ws := rfl
theorem load_ws : (s.load a).ws = s.ws := by unfold MS.load; split <;> rfl
theorem load_at : (s.load a).at b = s.at b := by unfold MS.at; rw [load_ws]
theorem store_ws : (s.store a v).ws = if s.ok a then s.ws.set a.toNat v else s.ws := by
  unfold MS.store
  split <;> rfl
theorem store_len : (s.store a v).ws.length = s.ws.length := by
  rw [store_ws]; split <;> simp
theorem set_at {l : List Int} (ha : 0 ≤ a ∧ a < (l.length : Int)) (hb : 0 ≤ b) : (l.set a.toNat v).getD b.toNat 0 = if b = a then v else l.getD b.toNat 0 := by
  obtain ⟨h0, h1⟩ := ha
  by_cases h : b = a
  · subst h
    rw [if_pos rfl]
    simp [List.getD, show b.toNat < l.length by omega]
  · rw [if_neg h]
    have : b.toNat ≠ a.toNat := by omega
    simp [List.getD, List.getElem?_set_ne (Ne.symm this)]
theorem store_at (ha : s.ok a) (hb : 0 ≤ b) : (s.store a v).at b = if b = a then v else s.at b := by
  unfold MS.at
  rw [store_ws, if_pos ha, set_at _ _ _ ha hb]
theorem add_ws : (s.add a d).ws = if s.ok a then s.ws.set a.toNat (IntKind.u64.wrap (s.at a + d)) else s.ws := by
  unfold MS.add
  split <;> rfl
theorem add_len : (s.add a d).ws.length = s.ws.length := by
  rw [add_ws]; split <;> simp
theorem add_at (ha : s.ok a) (hb : 0 ≤ b) : (s.add a d).at b = if b = a then IntKind.u64.wrap (s.at a + d) else s.at b := by
  show (s.add a d).ws.getD b.toNat 0 = _
  rw [add_ws, if_pos ha, set_at _ _ _ ha hb]
  rfl
theorem cas_ws : (s.cas a old v).ws = if s.ok a ∧ s.at a = old then s.ws.set a.toNat v else s.ws := by
  unfold MS.cas
  by_cases h : s.ok a
  · by_cases h2 : s.at a = old
    · rw [if_pos h, if_pos h2, if_pos ⟨h, h2⟩]; rfl
    · rw [if_pos h, if_neg h2, if_neg (fun x => h2 x.2)]; rfl
  · rw [if_neg h, if_neg (fun x => h x.1)]
theorem cas_len : (s.cas a old v).ws.length = s.ws.length := by
  rw [cas_ws]; split <;> simp
theorem cas_at (ha : s.ok a) (hb : 0 ≤ b) : (s.cas a old v).at b = if b = a ∧ s.at a = old then v else s.at b := by
  show (s.cas a old v).ws.getD b.toNat 0 = _
  rw [cas_ws]
  by_cases h2 : s.at a = old
  · rw [if_pos ⟨ha, h2⟩, set_at _ _ _ ha hb]
    by_cases h : b = a
    · rw [if_pos h, if_pos ⟨h, h2⟩]
    · rw [if_neg h, if_neg (fun x => h x.1)]; rfl
  · rw [if_neg (fun x => h2 x.2), if_neg (fun x => h2 x.2)]; rfl
theorem get_ok (ha : s.ok a) : s.get a = s.at a := by unfold MS.get; rw [if_pos ha]
end

theorem MemR.lts {w : World} {m : MB} {s : MS} (h : MemR w m s) : m.b < w.heap.size ∧ m.wb < w.heap.size ∧ m.hb < w.heap.size :=
  let ⟨_, _, hw⟩ := h.whens; ⟨h.mem.lt, h.words.lt, hw.lt⟩
theorem MemR.drewN {w : World} {m : MB} {s : MS} (h : MemR w m s) (n : Nat) : MemR (w.drewN n) m s := ⟨h.mem, h.words, h.whens, h.n1, h.n2, h.n3, h.len, h.rng⟩
theorem peek_q {w : World} {m : MB} {s : MS} (h : MemR w m s) (a : Int) (n : Nat) : Calls Try.prog 44 #[.pointer (some ⟨m.b, 0, none⟩), .int .i64 a] (w.drewN n) fun e w' => e = .returned (.int .u64 (s.get a)) ∧ w' = w.drewN n :=
  (peek_any (h.drewN n)).mono fun _ _ ⟨x, y⟩ => ⟨x, y.symm⟩
theorem pin_q (i : Int) (w : World) : Calls Try.prog 48 #[.int .i64 i] w fun e w' => e = .returned (.int .i64 (aPin i)) ∧ w' = w := (pin_any w i).mono fun _ _ ⟨x, y⟩ => ⟨x, y.symm⟩
theorem open_q (i : Int) (w : World) : Calls Try.prog 47 #[.int .i64 i] w fun e w' => e = .returned (.int .i64 (aOpen i)) ∧ w' = w := (open_any w i).mono fun _ _ ⟨x, y⟩ => ⟨x, y.symm⟩
theorem epoch_q (w : World) : Calls Try.prog 45 #[] w fun e w' => e = .returned (.int .i64 0) ∧ w' = w := (epoch_any w).mono fun _ _ ⟨x, y⟩ => ⟨x, y.symm⟩
theorem topa_q (w : World) : Calls Try.prog 46 #[] w fun e w' => e = .returned (.int .i64 1) ∧ w' = w := (topa_any w).mono fun _ _ ⟨x, y⟩ => ⟨x, y.symm⟩

end Go.Proofs.Yteoimmjgnflmmaa
