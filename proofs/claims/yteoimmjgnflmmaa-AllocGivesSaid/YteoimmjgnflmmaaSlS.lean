/-
  Plain law of three that take slots and give them back, step by step, whoever is picked.
-/
import Derived.Test.YteoimmjgnflmmaaSlL
namespace Go.Proofs.Yteoimmjgnflmmaa
open Go.RowKit

/-- Somebody who takes, or who gives. -/
inductive TS where
  | take (p : TakeS)
  | give (p : GiveS)
def TS.own : TS → Option Int
  | .take _ => none
  | .give p => some p.slot

/-- A first slot's word that was seen. -/
def stale (t : Int) (s : MS) : Prop := topN t < topN (s.at 1) ∨ t = s.at 1

def TOk (k : Cfg) (n : Nat) (s : MS) (l : List Int) : TS → Prop
  | .take p => p.ok = false ∧ (p.pc = 0 ∨ ((p.pc = 1 ∨ p.pc = 2) ∧ U64 p.top ∧ p.slot = topS p.top ∧ 0 ≤ p.slot ∧ stale p.top s ∧ (p.pc = 2 → -1 ≤ p.next ∧ p.next < 131072 ∧ (s.at 1 = p.top → p.next = lk k s p.slot))))
  | .give p => 0 ≤ p.slot ∧ p.slot < (n : Int) ∧ p.slot ∉ l ∧ U64 p.top ∧ (p.pc = 0 ∨ ((p.pc = 1 ∨ p.pc = 2) ∧ topS p.top ≤ 65535 ∧ stale p.top s ∧ (p.pc = 2 → lk k s p.slot = topS p.top)))

section
variable {k : Cfg} {n : Nat} {s s' : MS} {l l' : List Int} {t : TS} {g i c v : Int}

theorem lk_same (hk : k.Ok) (ha : ∀ a, 0 ≤ a → a ≠ 1 → s'.at a = s.at a) (h0 : 0 ≤ g) (h1 : g < 131072) : lk k s' g = lk k s g := by
  have := hk.t0
  have e := aLink_ok hk h0 (by omega)
  unfold lk
  rw [ha _ (by omega) (by omega)]
theorem lk_other (hk : k.Ok) (ha : ∀ a, 0 ≤ a → a ≠ aLink k i → s'.at a = s.at a) (hi0 : 0 ≤ i) (hi1 : i < 131072) (h0 : 0 ≤ g) (h1 : g < 131072) (hne : g ≠ i) : lk k s' g = lk k s g := by
  have := hk.t0
  have e := aLink_ok hk h0 (by omega)
  have e' := aLink_ok hk hi0 (by omega)
  unfold lk
  rw [ha _ (by omega) (by omega)]

theorem TOk.same (h : TOk k n s l t) (hk : k.Ok) (hn : n ≤ 65536) (ha : ∀ a, 0 ≤ a → s'.at a = s.at a) : TOk k n s' l t := by
  have h1 : s'.at 1 = s.at 1 := ha 1 (by decide)
  cases t with
  | take p =>
    obtain ⟨ho, hp⟩ := h
    refine ⟨ho, hp.imp id ?_⟩
    rintro ⟨h2, h3, h4, h5, h6, h7⟩
    refine ⟨h2, h3, h4, h5, by unfold stale; rw [h1]; exact h6, fun hh => ?_⟩
    have h8 := topS_rng (x := p.top)
    rw [lk_same hk (fun a ha0 _ => ha a ha0) h5 (by omega), h1]
    exact h7 hh
  | give p =>
    obtain ⟨h2, h3, h4, h5, h6⟩ := h
    refine ⟨h2, h3, h4, h5, h6.imp id ?_⟩
    rintro ⟨h7, hm, h8, h9⟩
    exact ⟨h7, hm, by unfold stale; rw [h1]; exact h8, fun hh => by rw [lk_same hk (fun a ha0 _ => ha a ha0) h2 (by omega)]; exact h9 hh⟩

/-- The first slot's word becomes a later one. -/
theorem TOk.top (h : TOk k n s l t) (hk : k.Ok) (hn : n ≤ 65536) (ha : ∀ a, 0 ≤ a → a ≠ 1 → s'.at a = s.at a) (hlt : topN (s.at 1) < topN (s'.at 1)) (hl : ∀ g, t.own = some g → g ∉ l → g ∉ l') : TOk k n s' l' t := by
  have hst : ∀ x, stale x s → topN x < topN (s'.at 1) := fun x hx => by
    rcases hx with h | h
    · omega
    · rw [h]; exact hlt
  cases t with
  | take p =>
    obtain ⟨ho, hp⟩ := h
    refine ⟨ho, hp.imp id ?_⟩
    rintro ⟨h2, h3, h4, h5, h6, h7⟩
    refine ⟨h2, h3, h4, h5, .inl (hst _ h6), fun hh => ⟨(h7 hh).1, (h7 hh).2.1, fun he => ?_⟩⟩
    have := hst _ h6
    rw [he] at this
    omega
  | give p =>
    obtain ⟨h2, h3, h4, h5, h6⟩ := h
    refine ⟨h2, h3, hl _ rfl h4, h5, h6.imp id ?_⟩
    rintro ⟨h7, hm, h8, h9⟩
    exact ⟨h7, hm, .inl (hst _ h8), fun hh => by rw [lk_same hk ha h2 (by omega)]; exact h9 hh⟩

/-- Another one's link is laid. -/
theorem TOk.link (h : TOk k n s l t) (hk : k.Ok) (hn : n ≤ 65536) (hf : Fr k n s l) (hi0 : 0 ≤ i) (hi1 : i < (n : Int)) (hil : i ∉ l) (ha : ∀ a, 0 ≤ a → a ≠ aLink k i → s'.at a = s.at a) (ho : t.own ≠ some i) : TOk k n s' l t := by
  have e := aLink_ok hk hi0 (by omega)
  have := hk.t0
  have h1 : s'.at 1 = s.at 1 := ha 1 (by decide) (by omega)
  cases t with
  | take p =>
    obtain ⟨ho, hp⟩ := h
    refine ⟨ho, hp.imp id ?_⟩
    rintro ⟨h2, h3, h4, h5, h6, h7⟩
    refine ⟨h2, h3, h4, h5, by unfold stale; rw [h1]; exact h6, fun hh => ?_⟩
    obtain ⟨h8, h9, h10⟩ := h7 hh
    refine ⟨h8, h9, fun he => ?_⟩
    rw [h1] at he
    have h11 := topS_rng (x := p.top)
    rw [h10 he]
    refine (lk_other hk ha hi0 (by omega) h5 (by omega) (fun hx => ?_)).symm
    cases l with
    | nil => have := hf.nil; rw [he] at this; omega
    | cons j l =>
      have := hf.head
      rw [he] at this
      exact hil (by rw [← hx, h4, this]; exact List.mem_cons_self ..)
  | give p =>
    obtain ⟨h2, h3, h4, h5, h6⟩ := h
    refine ⟨h2, h3, h4, h5, h6.imp id ?_⟩
    rintro ⟨h7, hm, h8, h9⟩
    refine ⟨h7, hm, by unfold stale; rw [h1]; exact h8, fun hh => ?_⟩
    rw [lk_other hk ha hi0 (by omega) h2 (by omega) (fun hx => ho (by rw [← hx]; rfl))]
    exact h9 hh

/-- What somebody's step comes to who takes. -/
theorem take_law {p p' : TakeS} {wh : Int} {b : Bool} (hf : Fr k n s l) (hk : k.Ok) (hn : n ≤ 65536) (h : TOk k n s l (.take p)) (hr : U64 (s.at 1)) (hc : topN (s.at 1) < 68719476735) (hst : takeStep k wh s p = (b, s', p')) :
    s'.ws.length = s.ws.length ∧
    ((b = false ∧ (∀ a, 0 ≤ a → s'.at a = s.at a) ∧ TOk k n s' l (.take p')) ∨
     (b = true ∧ p'.ok = false ∧ (∀ a, 0 ≤ a → s'.at a = s.at a)) ∨
     (b = true ∧ p'.ok = true ∧ (∀ a, 0 ≤ a → a ≠ 1 → s'.at a = s.at a) ∧ topN (s'.at 1) = topN (s.at 1) + 1 ∧ ∃ l', l = p'.slot :: l' ∧ Fr k n s' l')) := by
  have h1 := hf.ok1 hk
  have hg := get_ok s 1 h1
  obtain ⟨ho, hp⟩ := h
  unfold takeStep at hst
  by_cases c0 : p.pc = 0
  · rw [if_pos c0, hg] at hst
    simp only [Prod.mk.injEq] at hst
    obtain ⟨rfl, rfl, rfl⟩ := hst
    have hat : ∀ a, 0 ≤ a → ((s.by wh).load 1).at a = s.at a := fun a _ => by rw [load_at, by_at]
    refine ⟨by rw [load_ws]; rfl, ?_⟩
    by_cases hlt : topS (s.at 1) < 0
    · exact .inr (.inl ⟨decide_eq_true hlt, ho, hat⟩)
    · refine .inl ⟨decide_eq_false hlt, hat, ho, .inr ⟨.inl rfl, hr, rfl, by simp only; omega, ?_, (fun hh => by simp at hh)⟩⟩
      exact .inr (by rw [hat 1 (by decide)])
  · rw [if_neg c0] at hst
    rcases hp with hp | ⟨hpc, h2, h3, h4, h5, h6⟩
    · exact absurd hp c0
    by_cases c1 : p.pc = 1
    · rw [if_pos c1] at hst
      simp only [Prod.mk.injEq] at hst
      obtain ⟨rfl, rfl, rfl⟩ := hst
      have hat : ∀ a, 0 ≤ a → ((s.by wh).load (aLink k p.slot)).at a = s.at a := fun a _ => by rw [load_at, by_at]
      refine ⟨by rw [load_ws]; rfl, .inl ⟨ho, hat, ho, .inr ⟨.inr rfl, h2, h3, h4, ?_, fun _ => ⟨topS_rng.1, topS_rng.2, fun he => ?_⟩⟩⟩⟩
      · unfold stale; rw [hat 1 (by decide)]; exact h5
      · rw [hat 1 (by decide)] at he
        replace he : s.at 1 = p.top := he
        simp only
        have h11 := topS_rng (x := p.top)
        rw [lk_same hk (fun a ha0 _ => hat a ha0) h4 (by omega)]
        unfold lk
        have hin : 0 ≤ p.slot ∧ p.slot < (n : Int) := by
          cases l with
          | nil => have := hf.nil; rw [he] at this; omega
          | cons j l =>
            have e1 := hf.head
            have e2 := hf.head_rg
            rw [he] at e1
            omega
        rw [get_ok _ _ (hf.okL hk hn hin.1 hin.2)]
    · rw [if_neg c1] at hst
      simp only [Prod.mk.injEq] at hst
      obtain ⟨hb, hs', hp'⟩ := hst
      have hpc2 : p.pc = 2 := by omega
      obtain ⟨h7, h8, h9⟩ := h6 hpc2
      have hl : s'.ws.length = s.ws.length := by rw [← hs', cas_len]; rfl
      have h1' : (s.by wh).ok 1 := h1
      refine ⟨hl, ?_⟩
      by_cases he : s.at 1 = p.top
      · have hcan : s.can 1 p.top = true := by unfold MS.can; exact decide_eq_true ⟨h1, he⟩
        have hat : ∀ a, 0 ≤ a → s'.at a = if a = 1 then putTop (lk k s p.slot) (topN (s.at 1) + 1) else s.at a := fun a ha => by
          rw [← hs', cas_at _ _ _ _ _ h1' ha, ← h9 he, he]
          by_cases ha1 : a = 1
          · rw [if_pos ⟨ha1, he⟩, if_pos ha1]
          · rw [if_neg (fun x => ha1 x.1), if_neg ha1]; rfl
        cases l with
        | nil => have := hf.nil; rw [he] at this; omega
        | cons j l =>
          have e1 := hf.head
          have hj : p.slot = j := by rw [h3, ← he, e1]
          have hr2 := hf.next_rg hn
          have hat' := hat
          rw [hj] at hat'
          refine .inr (.inr ⟨by rw [← hb, hcan], by rw [← hp', hcan], fun a ha hne => by rw [hat a ha, if_neg hne], ?_, l, by rw [← hp', hj], hf.pop hk hn hl hat'⟩)
          rw [hat' 1 (by decide), if_pos rfl, topN_put hr2.1 hr2.2 (by have := topN_rng (x := s.at 1); omega) (by omega)]
      · have hcan : s.can 1 p.top = false := by unfold MS.can; exact decide_eq_false (fun x => he x.2)
        have hat : ∀ a, 0 ≤ a → s'.at a = s.at a := fun a ha => by
          rw [← hs', cas_at _ _ _ _ _ h1' ha, if_neg (fun x => he x.2)]; rfl
        refine .inl ⟨by rw [← hb, hcan], hat, ?_⟩
        rw [← hp']
        exact ⟨hcan, .inl rfl⟩

/-- What somebody's step comes to who gives. -/
theorem give_law {p p' : GiveS} {wh : Int} {b : Bool} (hf : Fr k n s l) (hk : k.Ok) (hn : n ≤ 65536) (h : TOk k n s l (.give p)) (hr : U64 (s.at 1)) (hc : topN (s.at 1) < 68719476735) (hst : giveStep k wh s p = (b, s', p')) :
    s'.ws.length = s.ws.length ∧ p'.slot = p.slot ∧
    ((b = false ∧ (∀ a, 0 ≤ a → a ≠ aLink k p.slot → s'.at a = s.at a) ∧ TOk k n s' l (.give p') ∧ Fr k n s' l) ∨
     (b = true ∧ (∀ a, 0 ≤ a → a ≠ 1 → s'.at a = s.at a) ∧ topN (s'.at 1) = topN (s.at 1) + 1 ∧ Fr k n s' (p.slot :: l))) := by
  have h1 := hf.ok1 hk
  have hg := get_ok s 1 h1
  obtain ⟨h2, h3, h4, h5, h6⟩ := h
  have hL0 : s.ok (aLink k p.slot) := hf.okL hk hn h2 h3
  have hL : (s.by wh).ok (aLink k p.slot) := hL0
  have e := aLink_ok hk h2 (by omega)
  have ht0 := hk.t0
  unfold giveStep at hst
  by_cases c0 : p.pc = 0
  · rw [if_pos c0, hg] at hst
    simp only [Prod.mk.injEq] at hst
    obtain ⟨rfl, rfl, rfl⟩ := hst
    have hat : ∀ a, 0 ≤ a → ((s.by wh).load 1).at a = s.at a := fun a _ => by rw [load_at, by_at]
    have hl : ((s.by wh).load 1).ws.length = s.ws.length := by rw [load_ws]; rfl
    refine ⟨hl, rfl, .inl ⟨rfl, fun a ha _ => hat a ha, ⟨h2, h3, h4, hr, .inr ⟨.inl rfl, (hf.first_rg hn).2, .inr (by rw [hat 1 (by decide)]), fun hh => by simp at hh⟩⟩, hf.keep hl hat hk hn⟩⟩
  · rw [if_neg c0] at hst
    rcases h6 with h6 | ⟨hpc, hm, h6, h7⟩
    · exact absurd h6 c0
    by_cases c1 : p.pc = 1
    · rw [if_pos c1] at hst
      simp only [Prod.mk.injEq] at hst
      obtain ⟨rfl, hs', rfl⟩ := hst
      have hat : ∀ a, 0 ≤ a → s'.at a = if a = aLink k p.slot then putTop (topS p.top) 0 else s.at a := fun a ha => by
        rw [← hs', store_at _ _ _ _ hL ha, by_at]
      have hl : s'.ws.length = s.ws.length := by rw [← hs', store_len]; rfl
      have h1e : s'.at 1 = s.at 1 := by rw [hat 1 (by decide), if_neg (by omega)]
      refine ⟨hl, rfl, .inl ⟨rfl, fun a ha hne => by rw [hat a ha, if_neg hne], ⟨h2, h3, h4, h5, .inr ⟨.inr rfl, hm, by unfold stale; rw [h1e]; exact h6, fun _ => ?_⟩⟩, hf.link hk hn h4 h2 h3 hl hat⟩⟩
      simp only
      unfold lk
      rw [hat _ hL.1, if_pos rfl]
      exact topS_put topS_rng.1 hm
    · rw [if_neg c1] at hst
      simp only [Prod.mk.injEq] at hst
      obtain ⟨hb, hs', hp'⟩ := hst
      have hpc2 : p.pc = 2 := by omega
      have hlk := h7 hpc2
      have hl : s'.ws.length = s.ws.length := by rw [← hs', cas_len]; rfl
      have h1' : (s.by wh).ok 1 := h1
      refine ⟨hl, by rw [← hp'], ?_⟩
      by_cases he : s.at 1 = p.top
      · have hcan : s.can 1 p.top = true := by unfold MS.can; exact decide_eq_true ⟨h1, he⟩
        have hat : ∀ a, 0 ≤ a → s'.at a = if a = 1 then putTop p.slot (topN (s.at 1) + 1) else s.at a := fun a ha => by
          rw [← hs', cas_at _ _ _ _ _ h1' ha, he]
          by_cases ha1 : a = 1
          · rw [if_pos ⟨ha1, he⟩, if_pos ha1]
          · rw [if_neg (fun x => ha1 x.1), if_neg ha1]; rfl
        refine .inr ⟨by rw [← hb, hcan], fun a ha hne => by rw [hat a ha, if_neg hne], ?_, hf.push hk hn h4 h2 h3 (by rw [hlk, he]) hl hat⟩
        rw [hat 1 (by decide), if_pos rfl, topN_put (by omega) (by omega) (by have := topN_rng (x := s.at 1); omega) (by omega)]
      · have hcan : s.can 1 p.top = false := by unfold MS.can; exact decide_eq_false (fun x => he x.2)
        have hat : ∀ a, 0 ≤ a → s'.at a = s.at a := fun a ha => by
          rw [← hs', cas_at _ _ _ _ _ h1' ha, if_neg (fun x => he x.2)]; rfl
        refine .inl ⟨by rw [← hb, hcan], fun a ha _ => hat a ha, ?_, hf.keep hl hat hk hn⟩
        rw [← hp']
        exact ⟨h2, h3, h4, h5, .inl rfl⟩
end

/-- Three, apart from one another. -/
structure Sys (k : Cfg) (n : Nat) (s : MS) (l : List Int) (f : Nat → TS) : Prop where
  fr : Fr k n s l
  ok : ∀ i, i < 3 → TOk k n s l (f i)
  ds : ∀ i j, i < 3 → j < 3 → i ≠ j → ∀ g, (f i).own = some g → (f j).own ≠ some g
  ct : l.length + ((f 0).own.isSome.toNat + (f 1).own.isSome.toNat + (f 2).own.isSome.toNat) = n

def updT (f : Nat → TS) (i : Nat) (x : TS) : Nat → TS := fun j => if j = i then x else f j
theorem updT_at (f : Nat → TS) (i : Nat) (x : TS) : updT f i x i = x := by simp [updT]
theorem updT_ne (f : Nat → TS) (i j : Nat) (x : TS) (h : j ≠ i) : updT f i x j = f j := by simp [updT, h]

section
variable {k : Cfg} {n : Nat} {s s' : MS} {l l' : List Int} {f : Nat → TS} {i : Nat} {x : TS}

theorem ct_upd {a b : Nat} (hi : i < 3) (h : a + ((f 0).own.isSome.toNat + (f 1).own.isSome.toNat + (f 2).own.isSome.toNat) = n) (hb : b + x.own.isSome.toNat = a + (f i).own.isSome.toNat) :
    b + ((updT f i x 0).own.isSome.toNat + (updT f i x 1).own.isSome.toNat + (updT f i x 2).own.isSome.toNat) = n := by
  have : i = 0 ∨ i = 1 ∨ i = 2 := by omega
  rcases this with rfl | rfl | rfl
  · rw [updT_at, updT_ne _ _ _ _ (by decide), updT_ne _ _ _ _ (by decide)]; omega
  · rw [updT_at, updT_ne _ _ _ _ (by decide), updT_ne _ _ _ _ (by decide)]; omega
  · rw [updT_at, updT_ne _ _ _ _ (by decide), updT_ne _ _ _ _ (by decide)]; omega

theorem ds_upd (hi : i < 3) (h : ∀ i j, i < 3 → j < 3 → i ≠ j → ∀ g, (f i).own = some g → (f j).own ≠ some g) (hx : ∀ g, x.own = some g → ∀ j, j < 3 → j ≠ i → (f j).own ≠ some g) :
    ∀ a b, a < 3 → b < 3 → a ≠ b → ∀ g, (updT f i x a).own = some g → (updT f i x b).own ≠ some g := by
  intro a b ha hb hab g hg
  by_cases h1 : a = i
  · subst h1
    rw [updT_at] at hg
    rw [updT_ne _ _ _ _ (Ne.symm hab)]
    exact hx g hg b hb (Ne.symm hab)
  · rw [updT_ne _ _ _ _ h1] at hg
    by_cases h2 : b = i
    · subst h2
      rw [updT_at]
      exact fun hh => hx g hh a ha h1 hg
    · rw [updT_ne _ _ _ _ h2]
      exact h a b ha hb hab g hg

theorem Sys.takes {p p' : TakeS} {wh : Int} {b : Bool} (h : Sys k n s l f) (hk : k.Ok) (hn : n ≤ 65536) (hi : i < 3) (hfi : f i = .take p) (hr : U64 (s.at 1)) (hc : topN (s.at 1) < 68719476735) (hst : takeStep k wh s p = (b, s', p')) :
    topN (s'.at 1) ≤ topN (s.at 1) + 1 ∧
    ((b = false ∧ Sys k n s' l (updT f i (.take p'))) ∨
     (b = true ∧ p'.ok = false ∧ ∀ q : TakeS, q.pc = 0 → q.ok = false → Sys k n s' l (updT f i (.take q))) ∨
     (b = true ∧ p'.ok = true ∧ 0 ≤ p'.slot ∧ p'.slot < (n : Int) ∧ ∃ l', ∀ q : GiveS, q.pc = 0 → q.top = 0 → q.slot = p'.slot → Sys k n s' l' (updT f i (.give q)))) := by
  obtain ⟨hf, hok, hds, hct⟩ := h
  have hi' := hok i hi
  rw [hfi] at hi'
  obtain ⟨hl, hcs⟩ := take_law hf hk hn hi' hr hc hst
  have hfo : (f i).own.isSome.toNat = 0 := by rw [hfi]; rfl
  rcases hcs with ⟨hb, ha, ht⟩ | ⟨hb, hpo, ha⟩ | ⟨hb, hpo, ha, htn, l', rfl, hf'⟩
  · refine ⟨by rw [ha 1 (by decide)]; omega, .inl ⟨hb, hf.keep hl ha hk hn, fun j hj => ?_, ds_upd hi hds (fun g hg => by cases hg), ct_upd hi hct (by rw [hfo]; rfl)⟩⟩
    by_cases hji : j = i
    · subst hji; rw [updT_at]; exact ht
    · rw [updT_ne _ _ _ _ hji]; exact (hok j hj).same hk hn ha
  · refine ⟨by rw [ha 1 (by decide)]; omega, .inr (.inl ⟨hb, hpo, fun q hq hqo => ⟨hf.keep hl ha hk hn, fun j hj => ?_, ds_upd hi hds (fun g hg => by cases hg), ct_upd hi hct (by rw [hfo]; rfl)⟩⟩)⟩
    by_cases hji : j = i
    · subst hji; rw [updT_at]; exact ⟨hqo, .inl hq⟩
    · rw [updT_ne _ _ _ _ hji]; exact (hok j hj).same hk hn ha
  · have hh := hf.head_rg
    refine ⟨by omega, .inr (.inr ⟨hb, hpo, hh.1, hh.2, l', fun q hq hqt hqs => ⟨hf', fun j hj => ?_, ds_upd hi hds ?_, ct_upd hi hct ?_⟩⟩)⟩
    · by_cases hji : j = i
      · subst hji
        rw [updT_at]
        refine ⟨by rw [hqs]; exact hh.1, by rw [hqs]; exact hh.2, by rw [hqs]; exact (List.nodup_cons.1 hf.nd).1, by rw [hqt]; exact ⟨by decide, by decide⟩, .inl hq⟩
      · rw [updT_ne _ _ _ _ hji]
        exact (hok j hj).top hk hn ha (by omega) (fun g _ hg hh => hg (List.mem_cons_of_mem _ hh))
    · intro g hg j hj hji hjg
      have hg' : p'.slot = g := by rw [← hqs]; exact Option.some.inj hg
      have := hok j hj
      generalize hfj : f j = y at this hjg
      cases y with
      | take p => cases hjg
      | give r =>
        have hr' : r.slot = g := Option.some.inj hjg
        exact this.2.2.1 (by rw [hr', ← hg']; exact List.mem_cons_self ..)
    · rw [hfo]; simp [TS.own]

theorem Sys.gives {p p' : GiveS} {wh : Int} {b : Bool} (h : Sys k n s l f) (hk : k.Ok) (hn : n ≤ 65536) (hi : i < 3) (hfi : f i = .give p) (hr : U64 (s.at 1)) (hc : topN (s.at 1) < 68719476735) (hst : giveStep k wh s p = (b, s', p')) :
    topN (s'.at 1) ≤ topN (s.at 1) + 1 ∧ p'.slot = p.slot ∧
    ((b = false ∧ Sys k n s' l (updT f i (.give p'))) ∨
     (b = true ∧ ∀ q : TakeS, q.pc = 0 → q.ok = false → Sys k n s' (p.slot :: l) (updT f i (.take q)))) := by
  obtain ⟨hf, hok, hds, hct⟩ := h
  have hi' := hok i hi
  rw [hfi] at hi'
  have h0 := hi'.1
  have h1 := hi'.2.1
  have hnl := hi'.2.2.1
  have e := aLink_ok hk h0 (by omega)
  have ht0 := hk.t0
  obtain ⟨hl, hps, hcs⟩ := give_law hf hk hn hi' hr hc hst
  have hfo : (f i).own.isSome.toNat = 1 := by rw [hfi]; rfl
  have hoth : ∀ j, j < 3 → j ≠ i → (f j).own ≠ some p.slot := fun j hj hji => hds i j hi hj (Ne.symm hji) p.slot (by rw [hfi]; rfl)
  rcases hcs with ⟨hb, ha, ht, hf'⟩ | ⟨hb, ha, htn, hf'⟩
  · refine ⟨by rw [ha 1 (by decide) (by omega)]; omega, hps, .inl ⟨hb, hf', fun j hj => ?_, ds_upd hi hds (fun g hg j hj hji => ?_), ct_upd hi hct (by rw [hfo]; rfl)⟩⟩
    · by_cases hji : j = i
      · subst hji; rw [updT_at]; exact ht
      · rw [updT_ne _ _ _ _ hji]; exact (hok j hj).link hk hn hf h0 h1 hnl ha (hoth j hj hji)
    · have hg' : p'.slot = g := Option.some.inj hg
      rw [← hg', hps]
      exact hoth j hj hji
  · refine ⟨by omega, hps, .inr ⟨hb, fun q hq hqo => ⟨hf', fun j hj => ?_, ds_upd hi hds (fun g hg => by cases hg), ct_upd hi hct ?_⟩⟩⟩
    · by_cases hji : j = i
      · subst hji; rw [updT_at]; exact ⟨hqo, .inl hq⟩
      · rw [updT_ne _ _ _ _ hji]
        refine (hok j hj).top hk hn ha (by omega) (fun g hg hgl hh => ?_)
        rcases List.mem_cons.1 hh with rfl | hh
        · exact hoth j hj hji hg
        · exact hgl hh
    · rw [hfo]; simp [TS.own]
end

end Go.Proofs.Yteoimmjgnflmmaa
