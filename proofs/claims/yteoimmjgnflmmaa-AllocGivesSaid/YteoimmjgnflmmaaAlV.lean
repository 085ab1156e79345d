/-
  Plain law of who makes an object: what may be, behind each of its own steps.
-/
import Derived.Test.YteoimmjgnflmmaaAlE
import Derived.Test.YteoimmjgnflmmaaFrC
namespace Go.Proofs.Yteoimmjgnflmmaa
open Go.RowKit

/-- As one who takes a slot, has it, or gives it back. -/
def AlX.ts (a : AlX) : TS := if a.x.pc = 0 then .take a.x.t else if a.x.pc = 7 then .give a.g else .give ⟨0, a.x.at_, 0⟩

/-- What an arena is in which objects are made: n chunks, N slots, l of these free. -/
structure ASh (k : Cfg) (n N : Nat) (T : Int) (s : MS) (l : List Int) : Prop where
  pm : PM k n s
  pj : PJ k n s
  ns : k.s = (N : Int)
  fr : Fr k N s l
  tn : topN (s.at 1) ≤ T
/-- What somebody may be who makes one. -/
structure ATh (k : Cfg) (n N : Nat) (s : MS) (l : List Int) (a : AlX) : Prop where
  pc : a.x.pc = 0 ∨ a.x.pc = 1 ∨ a.x.pc = 2 ∨ a.x.pc = 3 ∨ a.x.pc = 4 ∨ a.x.pc = 5 ∨ a.x.pc = 6 ∨ a.x.pc = 7
  ts : TOk k N s l a.ts
  cl : a.x.pc ≠ 0 → 0 ≤ cls a.x.sz
  pi : a.x.pc = 2 → PI n a.p ∧ PT k a.p ∧ a.p.cl = cls a.x.sz
  sp : a.x.pc = 3 ∨ a.x.pc = 4 ∨ a.x.pc = 5 ∨ a.x.pc = 6 → 0 ≤ a.x.sc ∧ a.x.sc < (n : Int) ∧ aBase k a.x.sc ≤ a.x.sa ∧ a.x.sa + room (cls a.x.sz) ≤ aBase k a.x.sc + chUs (cw k s a.x.sc) ∧ chSt (cw k s a.x.sc) = 1 ∧ chCl (cw k s a.x.sc) = cls a.x.sz

section
variable {k : Cfg} {n N : Nat} {T : Int} {s s' : MS} {l l' : List Int} {a a' : AlX} {t : TS} {wh v x : Int} {b : Bool}
theorem set_at' (hw : s'.ws = s.ws.set x.toNat v) (hx : s.ok x) : ∀ y, 0 ≤ y → s'.at y = if y = x then v else s.at y := fun y hy => by
  unfold MS.at
  rw [hw, set_at _ _ _ hx hy]
theorem TOk.away (h : TOk k N s l t) (hf : Fr k N s l) (h1 : s'.at 1 = s.at 1) (hl : ∀ i, 0 ≤ i → i < (N : Int) → s'.at (aLink k i) = s.at (aLink k i)) : TOk k N s' l t := by
  cases t with
  | take p =>
    obtain ⟨ho, hp⟩ := h
    refine ⟨ho, hp.imp id ?_⟩
    rintro ⟨h2, h3, h4, h5, h6, h7⟩
    refine ⟨h2, h3, h4, h5, by unfold stale; rw [h1]; exact h6, fun hh => ?_⟩
    obtain ⟨h8, h9, h10⟩ := h7 hh
    refine ⟨h8, h9, fun he => ?_⟩
    rw [h1] at he
    rw [h10 he]
    have hin : p.slot < (N : Int) := by
      cases l with
      | nil => have := hf.nil; rw [he] at this; omega
      | cons j l =>
        have e1 := hf.head
        have e2 := hf.head_rg
        rw [he] at e1
        omega
    unfold lk
    rw [hl _ h5 hin]
  | give p =>
    obtain ⟨h2, h3, h4, h5, h6⟩ := h
    refine ⟨h2, h3, h4, h5, h6.imp id ?_⟩
    rintro ⟨h7, hm, h8, h9⟩
    refine ⟨h7, hm, by unfold stale; rw [h1]; exact h8, fun hh => ?_⟩
    unfold lk
    rw [hl _ h2 h3]
    exact h9 hh
theorem Fr.away (h : Fr k N s l) (h1 : s'.at 1 = s.at 1) (hl : ∀ i, 0 ≤ i → i < (N : Int) → s'.at (aLink k i) = s.at (aLink k i)) (hlen : s'.ws.length = s.ws.length) : Fr k N s' l :=
  ⟨by rw [hlen]; exact h.len, by
    rw [h1]
    refine h.ch.congr (fun i hi => ?_)
    have := h.rg i hi
    unfold lk
    rw [hl i this.1 this.2], h.nd, h.rg⟩
theorem PM.setX (h : PM k n s) (hx : s.ok x) (h25 : x < 2 ∨ 5 < x) (hv : U64 v) (hw : s'.ws = s.ws.set x.toNat v) : PM k n s' := by
  refine ⟨h.c, by rw [hw]; simpa using h.len, fun c hc => ?_, by rw [hw]; exact set_rng h.rng hv⟩
  rw [set_at' hw hx _ (by omega), if_neg (by omega)]
  exact h.op c hc

/-- A word is written that is none of the first free slot's, links, open chunks' places or chunks' words. -/
structure Far (k : Cfg) (n N : Nat) (x : Int) : Prop where
  lo : 5 < x
  lk : ∀ i, 0 ≤ i → i < (N : Int) → x ≠ aLink k i
  ch : ∀ i, 0 ≤ i → i < (n : Int) → x ≠ aChunk k i
theorem ASh.far (h : ASh k n N T s l) (hk : k.Ok) (hN : N ≤ 60000) (hx : s.ok x) (hF : Far k n N x) (hv : U64 v) (hw : s'.ws = s.ws.set x.toNat v) : ASh k n N T s' l ∧ (∀ t, TOk k N s l t → TOk k N s' l t) ∧ ∀ i, 0 ≤ i → i < (n : Int) → cw k s' i = cw k s i := by
  have ha := set_at' hw hx
  have h1 : s'.at 1 = s.at 1 := by rw [ha 1 (by decide), if_neg (by have := hF.lo; omega)]
  have hl : ∀ i, 0 ≤ i → i < (N : Int) → s'.at (aLink k i) = s.at (aLink k i) := fun i i0 i1 => by
    have := hk.t0
    rw [ha _ (by rw [aLink_ok hk i0 (by omega)]; omega), if_neg (Ne.symm (hF.lk i i0 i1))]
  have hc : ∀ i, 0 ≤ i → i < (n : Int) → cw k s' i = cw k s i := fun i i0 i1 => by
    have := hk.t0; have := hk.s0; have := hk.c1; have := h.pm.c
    unfold cw
    rw [ha _ (by rw [aChunk_ok hk i0 (by omega)]; omega), if_neg (Ne.symm (hF.ch i i0 i1))]
  refine ⟨⟨h.pm.setX hx (.inr hF.lo) hv hw, fun i i0 i1 => by rw [hc i i0 i1]; exact h.pj i i0 i1, h.ns, h.fr.away h1 hl (by rw [hw]; simp), by rw [h1]; exact h.tn⟩, fun t ht => ht.away h.fr h1 hl, hc⟩
theorem ASh.same (h : ASh k n N T s l) (hw : s'.ws = s.ws) : ASh k n N T s' l ∧ (∀ t, TOk k N s l t → TOk k N s' l t) ∧ ∀ i, cw k s' i = cw k s i := by
  have ha : ∀ a, s'.at a = s.at a := fun a => by unfold MS.at; rw [hw]
  refine ⟨⟨h.pm.same hw, fun i i0 i1 => by rw [cw_same hw]; exact h.pj i i0 i1, h.ns, h.fr.away (ha 1) (fun i _ _ => ha _) (by rw [hw]), by rw [ha]; exact h.tn⟩, fun t ht => ht.away h.fr (ha 1) (fun i _ _ => ha _), fun i => cw_same hw i⟩
theorem ASh.mono (h : ASh k n N T s l) : ASh k n N (T + 1) s l := ⟨h.pm, h.pj, h.ns, h.fr, by have := h.tn; omega⟩

/-- What a step writes of who takes. -/
theorem take_ws {p p' : TakeS} (h : TOk k N s l (.take p)) (hst : takeStep k wh s p = (b, s', p')) : s'.ws = s.ws ∨ ∃ v, U64 v ∧ s'.ws = s.ws.set (1 : Int).toNat v := by
  unfold takeStep at hst
  split at hst
  · simp only [Prod.mk.injEq] at hst
    obtain ⟨_, rfl, _⟩ := hst
    exact .inl (load_ws _ _)
  · split at hst
    · simp only [Prod.mk.injEq] at hst
      obtain ⟨_, rfl, _⟩ := hst
      exact .inl (load_ws _ _)
    · rename_i h0 h1
      simp only [Prod.mk.injEq] at hst
      obtain ⟨_, rfl, _⟩ := hst
      rcases h.2 with h2 | ⟨h2, _, _, _, _, h3⟩
      · exact absurd h2 h0
      · have := h3 (by omega)
        rw [cas_ws]
        split
        · exact .inr ⟨_, putTop_rng this.1, rfl⟩
        · exact .inl rfl
theorem give_ws {p p' : GiveS} (h : TOk k N s l (.give p)) (hst : giveStep k wh s p = (b, s', p')) : s'.ws = s.ws ∨ (∃ v, U64 v ∧ s'.ws = s.ws.set (1 : Int).toNat v) ∨ ∃ v, U64 v ∧ s.ok (aLink k p.slot) ∧ s'.ws = s.ws.set (aLink k p.slot).toNat v := by
  unfold giveStep at hst
  split at hst
  · simp only [Prod.mk.injEq] at hst
    obtain ⟨_, rfl, _⟩ := hst
    exact .inl (load_ws _ _)
  · split at hst
    · simp only [Prod.mk.injEq] at hst
      obtain ⟨_, rfl, _⟩ := hst
      rw [store_ws]
      split
      · rename_i hok
        exact .inr (.inr ⟨_, putTop_rng topS_rng.1, hok, rfl⟩)
      · exact .inl rfl
    · simp only [Prod.mk.injEq] at hst
      obtain ⟨_, rfl, _⟩ := hst
      rw [cas_ws]
      split
      · exact .inr (.inl ⟨_, putTop_rng (by have := h.1; omega), rfl⟩)
      · exact .inl rfl
/-- Neither the first free slot's word nor a link is a chunk's word. -/
theorem ASh.low (h : ASh k n N T s l) (hk : k.Ok) (hN : N ≤ 60000) (hfr : Fr k N s' l') (htn : topN (s'.at 1) ≤ T + 1) (hx : s.ok x) (hv : U64 v) (hw : s'.ws = s.ws.set x.toNat v) (hlo : x = 1 ∨ ∃ i, 0 ≤ i ∧ i < (N : Int) ∧ x = aLink k i) : ASh k n N (T + 1) s' l' ∧ ∀ i, 0 ≤ i → i < (n : Int) → cw k s' i = cw k s i := by
  have ht := hk.t0; have hs := hk.s0; have hc1 := hk.c1; have hkc := h.pm.c; have hns := h.ns
  have hx5 : x < 2 ∨ 5 < x := by
    rcases hlo with rfl | ⟨i, i0, i1, rfl⟩
    · exact .inl (by decide)
    · exact .inr (by rw [aLink_ok hk i0 (by omega)]; omega)
  have hc : ∀ i, 0 ≤ i → i < (n : Int) → cw k s' i = cw k s i := fun i i0 i1 => by
    unfold cw
    have e := aChunk_ok hk i0 (by omega)
    rw [set_at' hw hx _ (by rw [e]; omega), if_neg ?_]
    rcases hlo with rfl | ⟨j, j0, j1, rfl⟩
    · omega
    · rw [e, aLink_ok hk j0 (by omega)]; omega
  exact ⟨⟨h.pm.setX hx hx5 hv hw, fun i i0 i1 => by rw [hc i i0 i1]; exact h.pj i i0 i1, h.ns, hfr, htn⟩, hc⟩

/-- Where an object's words lie is far. -/
theorem sa_far {c r : Int} (hk : k.Ok) (hS : ASh k n N T s l) (hN : N ≤ 60000) (c0 : 0 ≤ c) (c1 : c < (n : Int)) (p1 : aBase k c ≤ x) (p2 : x + r ≤ aBase k c + chUs (cw k s c)) (hr : 1 ≤ r) : s.ok x ∧ Far k n N x := by
  have ht := hk.t0; have hs0 := hk.s0; have hc1 := hk.c1; have hkc := hS.pm.c; have hns := hS.ns; have hw0 := hk.w0
  have hu := (hS.pj c c0 c1).2
  have hb := aBase_ok hk c0 (by omega)
  have hl := hS.pm.len
  rw [aLen_ok hk] at hl
  have h1 : 0 ≤ k.w * c := Int.mul_nonneg (by omega) c0
  have h2 : k.w * (c + 1) ≤ k.w * k.c := Int.mul_le_mul_of_nonneg_left (by omega) (by omega)
  rw [Int.mul_add, Int.mul_one] at h2
  rw [hb] at p1 p2
  have hx : 6 + k.t + 2 * k.s + 3 * k.c ≤ x := by omega
  refine ⟨⟨by omega, by omega⟩, ⟨by omega, fun j j0 j1 => by rw [aLink_ok hk j0 (by omega)]; omega, fun j j0 j1 => by rw [aChunk_ok hk j0 (by omega)]; omega⟩⟩
theorem u64_zero : U64 0 := ⟨by decide, by decide⟩
theorem cls_rng (z : Int) : cls z = 0 ∨ cls z = 1 ∨ cls z = 2 ∨ cls z = 3 ∨ cls z = -1 := by
  have := cls_cases z
  omega

/-- What a step of who wants words leaves of slots. -/
theorem place_low {p p' : PlS} (hk : k.Ok) (hN : N ≤ 60000) (hS : ASh k n N T s l) (hI : PI n p) (hT : PT k p) (hst : placeStep k wh s p = (b, s', p')) : ASh k n N T s' l ∧ ∀ t, TOk k N s l t → TOk k N s' l t := by
  have ht := hk.t0; have hs0 := hk.s0; have hc1 := hk.c1; have hkc := hS.pm.c; have hns := hS.ns
  have hcl := hI.cl
  obtain ⟨_, t2, t3, hM', _, _, _⟩ := place_law hk hS.pm hI hst
  obtain ⟨hJ', _, _, _⟩ := place_share hk hS.pm hI hS.pj hT hst
  have hla : s.ok s'.la ∧ 1 < s'.la ∧ ∀ i, 0 ≤ i → i < (N : Int) → s'.la ≠ aLink k i := by
    rcases t2 with h | ⟨i, i0, i1, h⟩
    · have := hS.pm.okO hk hI.cl
      rw [aOpen_ok hI.cl] at this
      rw [h]
      exact ⟨this, by omega, fun j j0 j1 => by rw [aLink_ok hk j0 (by omega)]; omega⟩
    · have e := aChunk_ok hk i0 (by omega)
      rw [h]
      exact ⟨hS.pm.okC hk i0 i1, by rw [e]; omega, fun j j0 j1 => by rw [e, aLink_ok hk j0 (by omega)]; omega⟩
  obtain ⟨la0, la1, la2⟩ := hla
  have key : s'.at 1 = s.at 1 ∧ (∀ i, 0 ≤ i → i < (N : Int) → s'.at (aLink k i) = s.at (aLink k i)) ∧ s'.ws.length = s.ws.length := by
    rcases t3 with hw | ⟨v, _, hw⟩
    · exact ⟨by unfold MS.at; rw [hw], fun i _ _ => by unfold MS.at; rw [hw], by rw [hw]⟩
    · have ha := set_at' hw la0
      exact ⟨by rw [ha 1 (by decide), if_neg (by omega)], fun i i0 i1 => by rw [ha _ (by rw [aLink_ok hk i0 (by omega)]; omega), if_neg (Ne.symm (la2 i i0 i1))], by rw [hw]; simp⟩
  obtain ⟨h1, hl, hlen⟩ := key
  exact ⟨⟨hM', hJ', hS.ns, hS.fr.away h1 hl hlen, by rw [h1]; exact hS.tn⟩, fun t htt => htt.away hS.fr h1 hl⟩
/-- Its own step. -/
theorem alloc_own (hk : k.Ok) (hN : N ≤ 60000) (hS : ASh k n N T s l) (hT : T < 68719476735) (hA : ATh k n N s l a) (hst : allocStep k wh s a = (b, s', a')) :
    ∃ l', ASh k n N (T + 1) s' l' ∧ (b = false → ATh k n N s' l' a') := by
  have ht := hk.t0; have hs0 := hk.s0; have hc1 := hk.c1; have hkc := hS.pm.c; have hns := hS.ns
  have htn := hS.tn
  have hU1 := hS.pm.at_rng 1
  have h1ok := hS.fr.ok1 hk
  have hcs := cls_rng a.x.sz
  unfold allocStep at hst
  rcases hA.pc with h | h | h | h | h | h | h | h
  · have hts : a.ts = .take a.x.t := by unfold AlX.ts; rw [if_pos h]
    have hto := hA.ts
    rw [hts] at hto
    rw [if_pos h] at hst
    by_cases hc : cls a.x.sz < 0
    · rw [if_pos hc] at hst
      simp only [Prod.mk.injEq] at hst
      obtain ⟨rfl, rfl, rfl⟩ := hst
      exact ⟨l, hS.mono, fun hb => by cases hb⟩
    · rw [if_neg hc] at hst
      have hc0 : 0 ≤ cls a.x.sz := by omega
      rcases htk : takeStep k wh s a.x.t with ⟨bt, s1, t1⟩
      rw [htk] at hst
      obtain ⟨hlen, hlaw⟩ := take_law hS.fr hk (by omega) hto hU1 (by omega) htk
      have hws := take_ws hto htk
      have mk : ∀ l2, Fr k N s1 l2 → topN (s1.at 1) ≤ T + 1 → ASh k n N (T + 1) s1 l2 ∧ ∀ i, 0 ≤ i → i < (n : Int) → cw k s1 i = cw k s i := fun l2 hf2 ht2 => by
        rcases hws with hw | ⟨v, hv, hw⟩
        · obtain ⟨q1, _, q3⟩ := hS.same hw
          exact ⟨⟨q1.pm, q1.pj, q1.ns, hf2, ht2⟩, fun i _ _ => q3 i⟩
        · exact hS.low hk hN hf2 ht2 h1ok hv hw (.inl rfl)
      rcases hlaw with ⟨rfl, hsame, hto'⟩ | ⟨rfl, hok, hsame⟩ | ⟨rfl, hok, hsame, htp, l2, hl2, hf2⟩
      · simp only [Prod.mk.injEq] at hst
        obtain ⟨rfl, rfl, rfl⟩ := hst
        have hf' := hS.fr.keep hlen hsame hk (by omega)
        obtain ⟨q1, q2⟩ := mk l hf' (by rw [hsame 1 (by decide)]; omega)
        refine ⟨l, q1, fun _ => ⟨.inl h, ?_, fun hh => absurd h hh, fun hh => absurd hh (by simp only; omega), fun hh => absurd hh (by simp only; omega)⟩⟩
        have : AlX.ts { a with x := { a.x with t := t1 } } = .take t1 := by unfold AlX.ts; rw [if_pos h]
        rw [this]; exact hto'
      · simp only at hst
        rw [if_neg (by simp [hok])] at hst
        simp only [Prod.mk.injEq] at hst
        obtain ⟨rfl, rfl, rfl⟩ := hst
        have hf' := hS.fr.keep hlen hsame hk (by omega)
        exact ⟨l, (mk l hf' (by rw [hsame 1 (by decide)]; omega)).1, fun hb => by cases hb⟩
      · simp only at hst
        rw [if_pos hok] at hst
        simp only [Prod.mk.injEq] at hst
        obtain ⟨rfl, rfl, rfl⟩ := hst
        obtain ⟨q1, q2⟩ := mk l2 hf2 (by rw [htp]; omega)
        have hfr := hS.fr
        rw [hl2] at hfr
        have hrg := hfr.head_rg
        refine ⟨l2, q1, fun _ => ⟨.inr (.inl rfl), ?_, fun _ => hc0, fun hh => absurd hh (by simp), fun hh => absurd hh (by simp)⟩⟩
        have : AlX.ts { a with x := { a.x with t := t1, at_ := t1.slot, pc := 1 } } = .give ⟨0, t1.slot, 0⟩ := by unfold AlX.ts; rw [if_neg (by simp), if_neg (by simp)]
        rw [this]
        exact ⟨hrg.1, hrg.2, (List.nodup_cons.1 hfr.nd).1, u64_zero, .inl rfl⟩
  · have hts : a.ts = .give ⟨0, a.x.at_, 0⟩ := by unfold AlX.ts; rw [if_neg (by omega), if_neg (by omega)]
    have hto := hA.ts
    rw [hts] at hto
    rw [if_neg (by omega), if_pos h] at hst
    simp only [Prod.mk.injEq] at hst
    obtain ⟨rfl, rfl, rfl⟩ := hst
    obtain ⟨q1, q2, q3⟩ := hS.same (s' := (s.by wh).load (aSlot k a.x.at_)) (load_ws _ _)
    have hc0 := hA.cl (by omega)
    refine ⟨l, q1.mono, fun _ => ⟨.inr (.inr (.inl rfl)), ?_, fun _ => hc0, fun _ => ⟨pl0_PI (by omega), ⟨rfl, fun hh => absurd hh (by simp [pl0]), fun hh => absurd hh (by simp [pl0])⟩, rfl⟩, fun hh => absurd hh (by simp)⟩⟩
    have : AlX.ts { a with x := { a.x with gn := slGn (s.get (aSlot k a.x.at_)), pc := 2 }, p := pl0 (cls a.x.sz) } = .give ⟨0, a.x.at_, 0⟩ := by unfold AlX.ts; rw [if_neg (by simp), if_neg (by simp)]
    rw [this]; exact q2 _ hto
  · have hts : a.ts = .give ⟨0, a.x.at_, 0⟩ := by unfold AlX.ts; rw [if_neg (by omega), if_neg (by omega)]
    have hto := hA.ts
    rw [hts] at hto
    have hc0 := hA.cl (by omega)
    obtain ⟨hI, hPT, hpc⟩ := hA.pi h
    rw [if_neg (by omega), if_neg (by omega), if_pos h] at hst
    rcases htk : placeStep k wh s a.p with ⟨bt, s1, p1⟩
    rw [htk] at hst
    obtain ⟨q1, q2⟩ := place_low hk hN hS hI hPT htk
    obtain ⟨_, _, _, hM', hI', hcl', _⟩ := place_law hk hS.pm hI htk
    obtain ⟨hJ', _, hT', hG⟩ := place_share hk hS.pm hI hS.pj hPT htk
    cases bt
    · simp only [Prod.mk.injEq] at hst
      obtain ⟨rfl, rfl, rfl⟩ := hst
      refine ⟨l, q1.mono, fun _ => ⟨.inr (.inr (.inl h)), ?_, fun _ => hc0, fun _ => ⟨hI' rfl, hT' rfl, hcl'.trans hpc⟩, fun hh => absurd hh (by simp only; omega)⟩⟩
      have : AlX.ts { a with p := p1 } = .give ⟨0, a.x.at_, 0⟩ := by unfold AlX.ts; rw [if_neg (by simp only; omega), if_neg (by simp only; omega)]
      rw [this]; exact q2 _ hto
    · simp only at hst
      by_cases hok : p1.ok = true
      · rw [if_pos hok] at hst
        simp only [Prod.mk.injEq] at hst
        obtain ⟨rfl, rfl, rfl⟩ := hst
        obtain ⟨i, i0, i1, g1, g2, g3, g4, g5, g6⟩ := hG rfl hok
        refine ⟨l, q1.mono, fun _ => ⟨.inr (.inr (.inr (.inl rfl))), ?_, fun _ => hc0, fun hh => absurd hh (by simp), fun _ => ?_⟩⟩
        · have : AlX.ts { a with x := { a.x with sa := p1.sa, sc := p1.sc, pc := 3 }, p := p1 } = .give ⟨0, a.x.at_, 0⟩ := by unfold AlX.ts; rw [if_neg (by simp), if_neg (by simp)]
          rw [this]; exact q2 _ hto
        · have hu := (ch_rng (cw k s i)).2.2.2.2.1
          simp only
          rw [g1, g2]
          exact ⟨i0, i1, by omega, by rw [g5, hpc]; omega, g3, by rw [g4, hpc]⟩
      · rw [if_neg hok] at hst
        simp only [Prod.mk.injEq] at hst
        obtain ⟨rfl, rfl, rfl⟩ := hst
        refine ⟨l, q1.mono, fun _ => ⟨by right; right; right; right; right; right; right; rfl, ?_, fun _ => hc0, fun hh => absurd hh (by simp), fun hh => absurd hh (by simp)⟩⟩
        have : AlX.ts { a with x := { a.x with sa := 0, sc := 0, pc := 7, er := 6, hd := 0, va := 0, st := s1.steps }, p := p1, g := ⟨0, a.x.at_, 0⟩ } = .give ⟨0, a.x.at_, 0⟩ := by unfold AlX.ts; rw [if_neg (by simp), if_pos (by simp)]
        rw [this]; exact q2 _ hto
  · have hts : a.ts = .give ⟨0, a.x.at_, 0⟩ := by unfold AlX.ts; rw [if_neg (by omega), if_neg (by omega)]
    have hto := hA.ts
    rw [hts] at hto
    have hc0 := hA.cl (by omega)
    obtain ⟨i0, i1, p1, p2, p3, p4⟩ := hA.sp (by omega)
    rw [if_neg (by omega), if_neg (by omega), if_neg (by omega), if_pos h] at hst
    simp only [Prod.mk.injEq] at hst
    obtain ⟨rfl, rfl, rfl⟩ := hst
    have e := aChunk_ok hk i0 (by omega)
    have hx : wrap64 (aChunk k a.x.sc + 1) = 6 + k.t + 2 * k.s + 3 * a.x.sc + 1 := by rw [e]; have := hk.t1; have := hk.s1; unfold wrap64; omega
    have hlen := hS.pm.len_ge hk
    have hok : s.ok (wrap64 (aChunk k a.x.sc + 1)) := ⟨by rw [hx]; omega, by rw [hx]; omega⟩
    have hF : Far k n N (wrap64 (aChunk k a.x.sc + 1)) := ⟨by rw [hx]; omega, fun j j0 j1 => by rw [hx, aLink_ok hk j0 (by omega)]; omega, fun j j0 j1 => by rw [hx, aChunk_ok hk j0 (by omega)]; omega⟩
    have hws : ((s.by wh).add (wrap64 (aChunk k a.x.sc + 1)) (room (cls a.x.sz))).ws = s.ws.set (wrap64 (aChunk k a.x.sc + 1)).toNat (IntKind.u64.wrap (s.at (wrap64 (aChunk k a.x.sc + 1)) + room (cls a.x.sz))) := by
      rw [add_ws, if_pos (show (s.by wh).ok _ from hok)]; rfl
    obtain ⟨q1, q2, q3⟩ := hS.far hk hN hok hF (u64_wrap _) hws
    refine ⟨l, q1.mono, fun _ => ⟨by right; right; right; right; left; rfl, ?_, fun _ => hc0, fun hh => absurd hh (by simp), fun _ => ?_⟩⟩
    · have : AlX.ts { a with x := { a.x with pc := 4 } } = .give ⟨0, a.x.at_, 0⟩ := by unfold AlX.ts; rw [if_neg (by simp), if_neg (by simp)]
      rw [this]; exact q2 _ hto
    · simp only
      rw [q3 _ i0 i1]
      exact ⟨i0, i1, p1, p2, p3, p4⟩
  · have hts : a.ts = .give ⟨0, a.x.at_, 0⟩ := by unfold AlX.ts; rw [if_neg (by omega), if_neg (by omega)]
    have hto := hA.ts
    rw [hts] at hto
    have hc0 := hA.cl (by omega)
    obtain ⟨i0, i1, p1, p2, p3, p4⟩ := hA.sp (by omega)
    have hrm := room_rng (c := cls a.x.sz) (by omega)
    obtain ⟨hok, hF⟩ := sa_far hk hS hN i0 i1 p1 p2 (by omega)
    rw [if_neg (by omega), if_neg (by omega), if_neg (by omega), if_neg (by omega), if_pos h] at hst
    simp only [Prod.mk.injEq] at hst
    obtain ⟨rfl, rfl, rfl⟩ := hst
    have hws : ((s.by wh).store a.x.sa (putHead 1 a.x.sz a.x.at_ a.x.gn a.x.own)).ws = s.ws.set a.x.sa.toNat (putHead 1 a.x.sz a.x.at_ a.x.gn a.x.own) := by
      rw [store_ws, if_pos (show (s.by wh).ok _ from hok)]; rfl
    obtain ⟨q1, q2, q3⟩ := hS.far hk hN hok hF (putHead_rng _ _ _ _ _) hws
    refine ⟨l, q1.mono, fun _ => ⟨by right; right; right; right; right; left; rfl, ?_, fun _ => hc0, fun hh => absurd hh (by simp), fun _ => ?_⟩⟩
    · have : AlX.ts { a with x := { a.x with pc := 5 } } = .give ⟨0, a.x.at_, 0⟩ := by unfold AlX.ts; rw [if_neg (by simp), if_neg (by simp)]
      rw [this]; exact q2 _ hto
    · simp only
      rw [q3 _ i0 i1]
      exact ⟨i0, i1, p1, p2, p3, p4⟩
  · have hts : a.ts = .give ⟨0, a.x.at_, 0⟩ := by unfold AlX.ts; rw [if_neg (by omega), if_neg (by omega)]
    have hto := hA.ts
    rw [hts] at hto
    have hc0 := hA.cl (by omega)
    obtain ⟨i0, i1, p1, p2, p3, p4⟩ := hA.sp (by omega)
    obtain ⟨a0, a1, _⟩ := hto
    simp only at a0 a1
    have hto := hA.ts
    rw [hts] at hto
    rw [if_neg (by omega), if_neg (by omega), if_neg (by omega), if_neg (by omega), if_neg (by omega), if_pos h] at hst
    simp only [Prod.mk.injEq] at hst
    obtain ⟨rfl, rfl, rfl⟩ := hst
    have e := aSlot_ok hk a0 (by omega)
    have hlen := hS.pm.len_ge hk
    have hok : s.ok (aSlot k a.x.at_) := ⟨by rw [e]; omega, by rw [e]; omega⟩
    have hF : Far k n N (aSlot k a.x.at_) := ⟨by rw [e]; omega, fun j j0 j1 => by rw [e, aLink_ok hk j0 (by omega)]; omega, fun j j0 j1 => by rw [e, aChunk_ok hk j0 (by omega)]; omega⟩
    have hws : ((s.by wh).store (aSlot k a.x.at_) (putSlot 1 a.x.sa a.x.gn 0)).ws = s.ws.set (aSlot k a.x.at_).toNat (putSlot 1 a.x.sa a.x.gn 0) := by
      rw [store_ws, if_pos (show (s.by wh).ok _ from hok)]; rfl
    obtain ⟨q1, q2, q3⟩ := hS.far hk hN hok hF (putSlot_rng _ _ _ _) hws
    refine ⟨l, q1.mono, fun _ => ⟨by right; right; right; right; right; right; left; rfl, ?_, fun _ => hc0, fun hh => absurd hh (by simp), fun _ => ?_⟩⟩
    · have : AlX.ts { a with x := { a.x with pc := 6, er := 0, hd := putHandle a.x.at_ a.x.gn, va := 0, st := ((s.by wh).store (aSlot k a.x.at_) (putSlot 1 a.x.sa a.x.gn 0)).steps } } = .give ⟨0, a.x.at_, 0⟩ := by unfold AlX.ts; rw [if_neg (by simp), if_neg (by simp)]
      rw [this]; exact q2 _ hto
    · simp only
      rw [q3 _ i0 i1]
      exact ⟨i0, i1, p1, p2, p3, p4⟩
  · obtain ⟨i0, i1, p1, p2, p3, p4⟩ := hA.sp (by omega)
    have hrm := room_rng (c := cls a.x.sz) (by have := hA.cl (by omega); omega)
    obtain ⟨hok, hF⟩ := sa_far hk hS hN i0 i1 p1 p2 (by omega)
    rw [if_neg (by omega), if_neg (by omega), if_neg (by omega), if_neg (by omega), if_neg (by omega), if_neg (by omega), if_pos h] at hst
    simp only [Prod.mk.injEq] at hst
    obtain ⟨rfl, rfl, rfl⟩ := hst
    have hws : ((s.by wh).store a.x.sa (putHead 2 a.x.sz a.x.at_ a.x.gn a.x.own)).ws = s.ws.set a.x.sa.toNat (putHead 2 a.x.sz a.x.at_ a.x.gn a.x.own) := by
      rw [store_ws, if_pos (show (s.by wh).ok _ from hok)]; rfl
    obtain ⟨q1, _, _⟩ := hS.far hk hN hok hF (putHead_rng _ _ _ _ _) hws
    exact ⟨l, q1.mono, fun hb => by cases hb⟩
  · have hts : a.ts = .give a.g := by unfold AlX.ts; rw [if_neg (by omega), if_pos h]
    have hto := hA.ts
    rw [hts] at hto
    have hc0 := hA.cl (by omega)
    rw [if_neg (by omega), if_neg (by omega), if_neg (by omega), if_neg (by omega), if_neg (by omega), if_neg (by omega), if_neg (by omega)] at hst
    rcases htk : giveStep k wh s a.g with ⟨bt, s1, g1⟩
    rw [htk] at hst
    simp only [Prod.mk.injEq] at hst
    obtain ⟨rfl, rfl, rfl⟩ := hst
    obtain ⟨hlen, hsl, hlaw⟩ := give_law hS.fr hk (by omega) hto hU1 (by omega) htk
    have hws := give_ws hto htk
    have g0 := hto.1
    have g1' := hto.2.1
    have mk : ∀ l2, Fr k N s1 l2 → topN (s1.at 1) ≤ T + 1 → ASh k n N (T + 1) s1 l2 := fun l2 hf2 ht2 => by
      rcases hws with hw | ⟨v, hv, hw⟩ | ⟨v, hv, hok, hw⟩
      · obtain ⟨q1, _, q3⟩ := hS.same hw
        exact ⟨q1.pm, q1.pj, q1.ns, hf2, ht2⟩
      · exact (hS.low hk hN hf2 ht2 h1ok hv hw (.inl rfl)).1
      · exact (hS.low hk hN hf2 ht2 hok hv hw (.inr ⟨_, g0, g1', rfl⟩)).1
    rcases hlaw with ⟨rfl, hsame, hto', hf2⟩ | ⟨rfl, hsame, htp, hf2⟩
    · refine ⟨l, mk l hf2 (by rw [hsame 1 (by decide) (by rw [aLink_ok hk g0 (by omega)]; omega)]; omega), fun _ => ⟨by right; right; right; right; right; right; right; exact h, ?_, fun _ => hc0, fun hh => absurd hh (by simp only; omega), fun hh => absurd hh (by simp only; omega)⟩⟩
      have : AlX.ts { a with g := g1 } = .give g1 := by unfold AlX.ts; rw [if_neg (by simp only; omega), if_pos h]
      rw [this]; exact hto'
    · exact ⟨_, mk _ hf2 (by rw [htp]; omega), fun hb => by cases hb⟩

/-- By this its step is known. -/
theorem ATh.ali (hA : ATh k n N s l a) (hS : ASh k n N T s l) {B : AlB} (hN : N ≤ 60000) (hP : AlP B a) : AlI k n s B a := by
  refine ⟨hA.pc, fun h => ?_, hA.cl, fun h => ⟨hP.1 h, hS.pm, (hA.pi h).1⟩, fun h => ?_⟩
  · have hto := hA.ts
    unfold AlX.ts at hto
    rw [if_pos h] at hto
    rcases hto.2 with h2 | ⟨h2, h3, _, _, _, h4⟩
    · exact .inl h2
    · rcases h2 with h2 | h2
      · exact .inr (.inl h2)
      · exact .inr (.inr ⟨h2, h3, (h4 h2).1, (h4 h2).2.1⟩)
  · have hto := hA.ts
    unfold AlX.ts at hto
    rw [if_neg (by omega), if_pos h] at hto
    obtain ⟨h2, h3, _, h5, h6⟩ := hto
    exact ⟨hP.2 h, by rcases h6 with h6 | ⟨h6, _⟩ <;> omega, h5, h2, by omega⟩
/-- Who begins. -/
def al0 (z : Int) (o : Bool) : AlX := ⟨⟨z, o, 0, ⟨0, 0, 0, 0, false⟩, 0, 0, .pointer none, 0, 0, .pointer none, 0, 0, 0, 0⟩, pl0 0, ⟨0, 0, 0⟩⟩
theorem al0_ATh (z : Int) (o : Bool) : ATh k n N s l (al0 z o) :=
  ⟨.inl rfl, ⟨rfl, .inl rfl⟩, fun h => absurd rfl h, fun h => absurd h (by simp [al0]), fun h => absurd h (by simp [al0])⟩
end
theorem fresh_ASh {k : Cfg} (hk : k.Ok) (h60 : k.s ≤ 60000) {n N : Nat} (hn : k.c = n) (hN : k.s = N) (hr : ∀ x ∈ (freshS k).ws, U64 x) : ASh k n N 0 (freshS k) (rangeI 0 N) :=
  ⟨fresh_PM hk h60 hn hr, fresh_PJ hk h60 hn, hN, fresh_fr hk h60 hN, by rw [fresh_top hk h60]; decide⟩
end Go.Proofs.Yteoimmjgnflmmaa
