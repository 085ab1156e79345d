/-
  EpochSteps, walked.
-/
import Derived.Test.YteoimmjgnflmmaaEp
import Derived.Test.YteoimmjgnflmmaaLawSs
import Derived.Test.YteoimmjgnflmmaaSet
namespace Go.Proofs.Yteoimmjgnflmmaa
open Go.RowKit Go.BigFrame

theorem ubits_u64 (n k : Int) : U64 (bits .and .u64 n k) := u64_wrap _
theorem field66c : ∀ (la lw : Int) (ch : Bool) (w : World), (Instr.field 66 (.agg #[.int .i64 la, .int .i64 lw, .bool ch]) 2).run Try.prog w = .ok (.bool ch) w := fun _ _ _ _ => by kernel_rfl

def AI (p : AdvS) : Prop := (p.pc = 0 ∧ p.i = 0) ∨ (p.pc = 1 ∧ 0 ≤ p.i ∧ p.i < 4) ∨ p.pc = 2
theorem load_all {s : MS} {wh a : Int} (h : s.ok a) : ((s.by wh).load a).steps = IntKind.i64.wrap (s.steps + 1) ∧ ((s.by wh).load a).ch = false ∧ ((s.by wh).load a).la = a ∧ ((s.by wh).load a).ws = s.ws := by
  have h' : (s.by wh).ok a := h
  unfold MS.load
  rw [if_pos h', IntWalk.i64_left]
  exact ⟨rfl, rfl, rfl, rfl⟩
theorem store_all {s : MS} {wh a v : Int} (h : s.ok a) : ((s.by wh).store a v).steps = IntKind.i64.wrap (s.steps + 1) ∧ ((s.by wh).store a v).la = a ∧ ((s.by wh).store a v).ws = s.ws.set a.toNat v := by
  have h' : (s.by wh).ok a := h
  unfold MS.store
  rw [if_pos h', IntWalk.i64_left]
  exact ⟨rfl, rfl, rfl⟩

section
variable {w : World} {m : MB} {s : MS}
/-- A step of the one that lets the epoch go on: what it touches. -/
def AdvPost (m : MB) (s : MS) (tb : Nat) (w : World) (e : Ending) (w' : World) : Prop :=
  ∃ (b : Bool) (s2 : MS) (p2 : AdvS), e = .returned (.bool b) ∧ MemR w' m s2 ∧ Blk w' tb p2.cs 116 ∧ Only [m.b, m.wb, m.hb, tb] w w' ∧ (b = false → AI p2) ∧ s2.steps = IntKind.i64.wrap (s.steps + 1) ∧ (s2.ch = false ∨ s2.la = 0) ∧ s2.ws.length = s.ws.length ∧ ∀ a, 0 < a → s2.at a = s.at a
theorem adv_touch (k : Cfg) (wh : Int) (p : AdvS) (tb : Nat) (hk : k.t = 4) (hl : 10 ≤ s.ws.length) (hm : MemR w m s) (hb : Blk w tb p.cs 116) (hp : AI p) (n1 : tb ≠ m.b) (n2 : tb ≠ m.wb) (n3 : tb ≠ m.hb) :
    Calls Try.prog 86 #[.pointer (some ⟨tb, 0, none⟩), .agg #[.int .i64 k.t, .int .i64 k.s, .int .i64 k.c, .int .i64 k.w, .int .i64 k.g, .int .i64 k.p, .int .i64 k.r, .pointer (some ⟨m.b, 0, none⟩), .int .i64 wh]] w (AdvPost m s tb w) := by
  have h0 : s.ok 0 := ⟨by decide, by omega⟩
  rcases hp with ⟨hp, hi⟩ | ⟨hp, hi0, hi1⟩ | hp
  · obtain ⟨t1, t2, t3, t4⟩ := load_all (wh := wh) h0
    refine (adv_step0 k wh p tb hm hb hp n1 n2 n3).mono ?_
    rintro e w' ⟨rfl, x1, x2, x3⟩
    exact ⟨_, _, _, rfl, x1, x2, x3, fun _ => .inr (.inl ⟨rfl, by show 0 ≤ p.i; omega, by show p.i < 4; omega⟩), t1, .inl t2, by rw [t4], fun a _ => by unfold MS.at; rw [t4]⟩
  · have ha : aPin p.i = 6 + p.i := aPin_small hi0 (by omega)
    have hok : s.ok (aPin p.i) := ⟨by omega, by omega⟩
    obtain ⟨t1, t2, t3, t4⟩ := load_all (wh := wh) hok
    have fin : ∀ (b : Bool) (p2 : AdvS), (b = false → AI p2) → ∀ e w', (e = .returned (.bool b) ∧ MemR w' m ((s.by wh).load (aPin p.i)) ∧ Blk w' tb p2.cs 116 ∧ Only [m.b, m.wb, m.hb, tb] w w') → AdvPost m s tb w e w' := by
      rintro b p2 hp2 e w' ⟨rfl, x1, x2, x3⟩
      exact ⟨b, _, p2, rfl, x1, x2, x3, hp2, t1, .inl t2, by rw [t4], fun a _ => by unfold MS.at; rw [t4]⟩
    cases h : (s.get (aPin p.i) != 0)
    · by_cases hlt : p.i + 1 < k.t
      · exact (adv_next0 k wh p tb hm hb hp h hi0 (by omega) hlt n1 n2 n3).mono (fin _ _ fun _ => .inr (.inl ⟨rfl, by show 0 ≤ p.i + 1; omega, by show p.i + 1 < 4; omega⟩))
      · exact (adv_last0 k wh p tb hm hb hp h hi0 (by omega) (by omega) n1 n2 n3).mono (fin _ _ fun _ => .inr (.inr rfl))
    · cases h1 : (s.get (aPin p.i) != IntKind.u64.wrap (p.ep + 1))
      · by_cases hlt : p.i + 1 < k.t
        · exact (adv_next1 k wh p tb hm hb hp h h1 hi0 (by omega) hlt n1 n2 n3).mono (fin _ _ fun _ => .inr (.inl ⟨rfl, by show 0 ≤ p.i + 1; omega, by show p.i + 1 < 4; omega⟩))
        · exact (adv_last1 k wh p tb hm hb hp h h1 hi0 (by omega) (by omega) n1 n2 n3).mono (fin _ _ fun _ => .inr (.inr rfl))
      · exact (adv_refuse k wh p tb hm hb hp h h1 n1 n2 n3).mono (fin _ _ fun h => by cases h)
  · have h0' : (s.by wh).ok 0 := h0
    refine (adv_cas k wh p tb hm hb hp n1 n2 n3).mono ?_
    rintro e w' ⟨rfl, x1, x2, x3⟩
    refine ⟨true, _, _, rfl, x1, x2, x3, (fun h => by cases h), ?_, .inr ?_, by rw [cas_len]; rfl, fun a ha => ?_⟩
    · unfold MS.cas; rw [if_pos h0', IntWalk.i64_left]; split <;> rfl
    · unfold MS.cas; rw [if_pos h0']; split <;> rfl
    · rw [cas_at _ _ _ _ _ h0' (by omega), if_neg (fun x => by omega)]; rfl

theorem pin_keep {s : MS} {j : Nat} (hl : s.ws.length = 78) (h14 : s.at 14 = 0) (h4 : j < 4) (P : Int) : (s.store (aPin j) P).ws.length = 78 ∧ (s.store (aPin j) P).at 14 = 0 := by
  have hpa : aPin j = 6 + (j : Int) := aPin_small (by omega) (by omega)
  rw [hpa]
  have hok : s.ok (6 + (j : Int)) := ⟨by omega, by omega⟩
  exact ⟨by rw [store_len]; exact hl, by rw [store_at _ _ _ _ hok (by decide), if_neg (by omega)]; exact h14⟩
def kE : Cfg := ⟨4, 1, 2, 30, 100, 600, 3⟩
theorem kE_ok : kE.Ok := by constructor <;> decide
theorem kE_len : (freshS kE).ws.length = 78 := by decide +kernel
theorem kE_14 : (freshS kE).at 14 = 0 := by decide +kernel

/-- How far the one is that lets chunk 0 settle, behind j steps. -/
def SI (W : Int) (u : Nat) (j : Nat) (p : SetS) : Prop :=
  p.ch = 0 ∧ p.fr = false ∧ U64 p.w ∧ ((p.pc = 0 ∧ p.i = 0 ∧ j = 0) ∨ (p.pc = 1 ∧ p.w = W ∧ p.i = 0 ∧ j = 1) ∨ (p.pc = 2 ∧ p.w = W ∧ p.sn = 0 ∧ p.i = 0 ∧ j = 2) ∨ (∃ q : Nat, p.pc = 3 ∧ p.w = W ∧ p.i = q ∧ q < u ∧ j = 3 + q) ∨ (p.pc = 4 ∧ p.w = W ∧ j = 3 + u) ∨ (p.pc = 5 ∧ p.w = W ∧ j = 4 + u))
/-- The memory on the way. -/
structure SM (W : Int) (s : MS) : Prop where
  len : s.ws.length = 78
  ch : s.at 12 = W
  sn : s.at 14 = 0
  ep : s.at 0 = 9
theorem sm_get {W : Int} {s : MS} (h : SM W s) : s.get (aChunk kE 0) = W := by
  rw [show aChunk kE 0 = 12 from by decide +kernel, get_ok _ _ ⟨by decide, by rw [h.len]; decide⟩]
  exact h.ch
theorem si_lt {W : Int} {u j : Nat} {p : SetS} (hu : u ≤ 20) (h : SI W u j p) : j < 60 := by
  rcases h.2.2.2 with ⟨_, _, h⟩ | ⟨_, _, _, h⟩ | ⟨_, _, _, _, h⟩ | ⟨q, _, _, _, h1, h⟩ | ⟨_, _, h⟩ | ⟨_, _, h⟩ <;> omega
theorem sm_start {s : MS} {a : Nat} {W : Int} (hl : s.ws.length = 78) (h14 : s.at 14 = 0) (ha : a < 16) (hW : putChunk 3 0 (1 + (a : Int)) 0 = W) :
    chSt W = 3 ∧ chUs W = 1 + (a : Int) ∧ U64 W ∧ SM W ((s.store (aChunk kE 0) W).store 0 9) := by
  have hv : W = 3 + (1 + (a : Int)) * 256 := by
    rw [← hW]
    unfold putChunk fit
    rw [if_neg (by decide), if_neg (by decide), if_neg (by decide), if_neg (by decide), if_neg (by omega), if_neg (by omega), if_neg (by decide), if_neg (by decide)]
    omega
  rw [show aChunk kE 0 = 12 from by decide +kernel]
  have h12 : s.ok 12 := ⟨by decide, by omega⟩
  have h0 : (s.store 12 W).ok 0 := ⟨by decide, by rw [store_len]; omega⟩
  refine ⟨by rw [hv]; unfold chSt; omega, by rw [hv]; unfold chUs; omega, by rw [hv]; unfold U64; omega, ?_⟩
  refine ⟨by rw [store_len, store_len]; exact hl, ?_, ?_, ?_⟩
  · rw [store_at _ _ _ _ h0 (by decide), if_neg (by decide), store_at _ _ _ _ h12 (by decide), if_pos rfl]
  · rw [store_at _ _ _ _ h0 (by decide), if_neg (by decide), store_at _ _ _ _ h12 (by decide), if_neg (by decide)]; exact h14
  · rw [store_at _ _ _ _ h0 (by decide), if_pos rfl]
theorem wrap_small {a : Nat} (ha : a < 16) : IntKind.i64.wrap (1 + (a : Int)) = 1 + (a : Int) := by rw [IntWalk.i64_left]; unfold wrap64; omega
def SetPost (W : Int) (u j : Nat) (m : MB) (s : MS) (tb : Nat) (w : World) (e : Ending) (w' : World) : Prop :=
  ∃ (b : Bool) (s2 : MS) (p2 : SetS), e = .returned (.bool b) ∧ MemR w' m s2 ∧ Blk w' tb p2.cs 148 ∧ Only [m.b, m.wb, m.hb, tb] w w' ∧ (b = false → SI W u (j + 1) p2 ∧ SM W s2) ∧ (b = true → p2.fr = true) ∧ s2.steps = IntKind.i64.wrap (s.steps + 1) ∧ 0 ≤ s2.la ∧ s2.la < 1000
theorem set_touch (wh : Int) (W : Int) (u j : Nat) (hu : u ≤ 16) (hu0 : 1 ≤ u) (hW : chSt W = 3) (hWu : chUs W = u) (hWU : U64 W) (p : SetS) (tb : Nat) (hM : SM W s) (hm : MemR w m s) (hb : Blk w tb p.cs 148) (hp : SI W u j p) (n1 : tb ≠ m.b) (n2 : tb ≠ m.wb) (n3 : tb ≠ m.hb) :
    Calls Try.prog 89 #[.pointer (some ⟨tb, 0, none⟩), .agg #[.int .i64 kE.t, .int .i64 kE.s, .int .i64 kE.c, .int .i64 kE.w, .int .i64 kE.g, .int .i64 kE.p, .int .i64 kE.r, .pointer (some ⟨m.b, 0, none⟩), .int .i64 wh]] w (SetPost W u j m s tb w) := by
  have hch : aChunk kE 0 = 12 := by decide +kernel
  have hbs : aBase kE 0 = 18 := by decide +kernel
  obtain ⟨ml, mc, ms, me⟩ := hM
  obtain ⟨hc, hf, hU, hp⟩ := hp
  have ok : ∀ a : Int, 0 ≤ a → a < 78 → s.ok a := fun a h0 h1 => ⟨h0, by omega⟩
  have keepL : ∀ a, s.ok a → SM W ((s.by wh).load a) := fun a h => by
    obtain ⟨_, _, _, t4⟩ := load_all (wh := wh) h
    exact ⟨by rw [t4]; exact ml, by unfold MS.at; rw [t4]; exact mc, by unfold MS.at; rw [t4]; exact ms, by unfold MS.at; rw [t4]; exact me⟩
  have keepS : ∀ a v, s.ok a → a ≠ 12 → a ≠ 14 → a ≠ 0 → SM W ((s.by wh).store a v) := fun a v h x1 x2 x3 => by
    have h' : (s.by wh).ok a := h
    refine ⟨by rw [store_len]; exact ml, ?_, ?_, ?_⟩
    · rw [store_at _ _ _ _ h' (by decide), if_neg (by omega)]; exact mc
    · rw [store_at _ _ _ _ h' (by decide), if_neg (by omega)]; exact ms
    · rw [store_at _ _ _ _ h' (by decide), if_neg (by omega)]; exact me
  rcases hp with ⟨h, hi, hj⟩ | ⟨h, hw, hi, hj⟩ | ⟨h, hw, hsn, hi, hj⟩ | ⟨q, h, hw, hi, hq, hj⟩ | ⟨h, hw, hj⟩ | ⟨h, hw, hj⟩
  · have h12 := ok 12 (by decide) (by decide)
    obtain ⟨t1, t2, t3, t4⟩ := load_all (wh := wh) h12
    have hg : s.get 12 = W := by rw [get_ok _ _ h12]; exact mc
    have hS := settle0 kE wh p tb hm hb hU h n1 n2 n3
    rw [hc, hch, hg] at hS
    refine hS.mono ?_
    rintro e w' ⟨rfl, x1, x2, x3⟩
    have hd : decide (chSt W ≠ 3) = false := by simp [hW]
    exact ⟨_, _, _, by rw [hd], x1, x2, x3, fun _ => ⟨⟨rfl, hf, hWU, .inr (.inl ⟨rfl, rfl, hi, by omega⟩)⟩, keepL 12 h12⟩, (fun h => by cases h), t1, by rw [t3]; decide, by rw [t3]; decide⟩
  · have h14 := ok 14 (by decide) (by decide)
    obtain ⟨t1, t2, t3, t4⟩ := load_all (wh := wh) h14
    have hg : s.get 14 = 0 := by rw [get_ok _ _ h14]; exact ms
    have hS := settle1 kE wh p tb hm hb hU h n1 n2 n3
    rw [hc, hch, show wrap64 (12 + 2) = 14 from by decide +kernel, hg] at hS
    refine hS.mono ?_
    rintro e w' ⟨rfl, x1, x2, x3⟩
    exact ⟨_, _, _, rfl, x1, x2, x3, fun _ => ⟨⟨rfl, hf, hU, .inr (.inr (.inl ⟨rfl, hw, rfl, hi, by omega⟩))⟩, keepL 14 h14⟩, (fun h => by cases h), t1, by rw [t3]; decide, by rw [t3]; decide⟩
  · have h0 := ok 0 (by decide) (by decide)
    obtain ⟨t1, t2, t3, t4⟩ := load_all (wh := wh) h0
    have hg : s.get 0 = 9 := by rw [get_ok _ _ h0]; exact me
    have hS := settle2 kE wh p tb hm hb hU h n1 n2 n3
    rw [hg, hsn] at hS
    refine hS.mono ?_
    rintro e w' ⟨rfl, x1, x2, x3⟩
    have hd : decide ((9 : Int) < IntKind.u64.wrap (0 + 2)) = false := by decide
    exact ⟨_, _, _, by rw [hd], x1, x2, x3, fun _ => ⟨⟨hc, hf, hU, .inr (.inr (.inr (.inl ⟨0, rfl, hw, hi, by omega, by omega⟩)))⟩, keepL 0 h0⟩, (fun h => by cases h), t1, by rw [t3]; decide, by rw [t3]; decide⟩
  · have ha : wrap64 (18 + p.i) = 18 + q := by rw [hi]; unfold wrap64; omega
    have hok := ok (18 + q) (by omega) (by omega)
    obtain ⟨t1, t3, t4⟩ := store_all (wh := wh) (v := 0) hok
    have hS := settle3 (decide (chUs p.w ≤ p.i + 1)) kE wh p tb hm hb hU h (by omega) (by omega) rfl n1 n2 n3
    rw [hc, hbs, ha] at hS
    refine hS.mono ?_
    rintro e w' ⟨rfl, x1, x2, x3⟩
    refine ⟨_, _, _, rfl, x1, x2, x3, fun _ => ⟨?_, keepS _ _ hok (by omega) (by omega) (by omega)⟩, (fun h => by cases h), t1, by rw [t3]; omega, by rw [t3]; omega⟩
    by_cases hle : chUs p.w ≤ p.i + 1
    · rw [if_pos (decide_eq_true hle)]
      rw [hw, hWu, hi] at hle
      exact ⟨rfl, hf, hU, .inr (.inr (.inr (.inr (.inl ⟨rfl, hw, by omega⟩))))⟩
    · rw [if_neg (by simpa using hle)]
      rw [hw, hWu, hi] at hle
      exact ⟨rfl, hf, hU, .inr (.inr (.inr (.inl ⟨q + 1, h, hw, by show p.i + 1 = _; omega, by omega, by omega⟩)))⟩
  · have hok := ok 13 (by decide) (by decide)
    obtain ⟨t1, t3, t4⟩ := store_all (wh := wh) (v := 0) hok
    have hS := settle4 kE wh p tb hm hb hU h n1 n2 n3
    rw [hc, hch, show wrap64 (12 + 1) = 13 from by decide +kernel] at hS
    refine hS.mono ?_
    rintro e w' ⟨rfl, x1, x2, x3⟩
    exact ⟨_, _, _, rfl, x1, x2, x3, fun _ => ⟨⟨rfl, hf, hU, .inr (.inr (.inr (.inr (.inr ⟨rfl, hw, by omega⟩))))⟩, keepS _ _ hok (by decide) (by decide) (by decide)⟩, (fun h => by cases h), t1, by rw [t3]; decide, by rw [t3]; decide⟩
  · have hok := ok 12 (by decide) (by decide)
    obtain ⟨t1, t3, t4⟩ := store_all (wh := wh) (v := putChunk 0 0 0 (chSp p.w + 1)) hok
    have hS := settle5 kE wh p tb hm hb hU h n1 n2 n3
    rw [hc, hch] at hS
    refine hS.mono ?_
    rintro e w' ⟨rfl, x1, x2, x3⟩
    exact ⟨_, _, _, rfl, x1, x2, x3, (fun h => by cases h), fun _ => rfl, t1, by rw [t3]; decide, by rw [t3]; decide⟩
end

set_option maxRecDepth 100000 in
set_option maxHeartbeats 12800000 in
theorem esteps_walk (used : Int) (_hs : I64 used) (A : Option Addr) (n c : Nat) (xs : List Int) (_hx : ∀ x ∈ xs, U64 x) (w : World) (hS : Slc (Value.int .u64) w A n xs) : Calls Try.prog 22 #[.int .i64 used, .slice A n c] w fun e w' => e = .returned (.bool true) ∧ Only [] w w' := by
  obtain ⟨a, ha, hus⟩ := iand15n used
  have hmost := hS.most
  unfold maxLen at hmost
  have hfd := field66
  have hfc := field66c
  have hf7 := field107
  go_enter Try.func22, Try.ntmps22
  go_wp2_with fail
  refine (arena_yes kE kE_ok rfl rfl rfl _).mono ?_
  rintro e w1 ⟨m, rfl, hm1, hn1, ho1⟩
  obtain ⟨hl1, hl2, hl3⟩ := hm1.lts
  obtain ⟨hn1, hn2, hn3⟩ := hn1
  have hz := ho1.size
  have hnx : w1.heap.size ∉ m.l := hm1.notin (Nat.le_refl _)
  have hlm : ∀ x, x ∈ m.l → x < w.heap.size → x ∈ ([] : List Nat) := fun x hx hlt => by
    simp only [List.mem_cons, List.not_mem_nil, or_false] at hx; omega
  have hW : EW w (w1.alloc (.cells #[.int .i64 kE.t, .int .i64 kE.s, .int .i64 kE.c, .int .i64 kE.w, .int .i64 kE.g, .int .i64 kE.p, .int .i64 kE.r, .pointer (some ⟨m.b, 0, none⟩), .int .i64 0] 47)) m kE 0 w1.heap.size (freshS kE) := ⟨hm1.alloc _, Blk.new _ _ _, ho1.alloc _⟩
  clear hm1 ho1
  go_wp2_with fail
  refine (awake13 _).mono ?_
  rintro e w2 ⟨rfl, ho2⟩
  have hWb : EW w w2 m kE 0 w1.heap.size (freshS kE) := ⟨hW.mem.only ho2 (by simp) (by simp) (by simp), hW.env.only ho2 (by simp), hW.only.trans' ho2 (fun _ h _ => h)⟩
  clear hW ho2
  go_wp2
  go_loopw [7] (fun i wr => ∃ (j : Nat) (s : MS), i = .int .i64 j ∧ j ≤ 4 ∧ j ≤ n ∧ s.ws.length = 78 ∧ s.at 14 = 0 ∧ EW w wr m kE 0 w1.heap.size s) (fun i _ => 4 - (intOf i).toNat)
  case atStart => exact ⟨0, freshS kE, rfl, by omega, by omega, kE_len, kE_14, hWb⟩
  case round =>
    clear hWb
    obtain ⟨j, s, rfl, hj, hjn, hl, h14, hW⟩ := hrel
    by_cases hlt : j < n
    · by_cases h4 : j < 4
      · obtain ⟨bb, off, rfl, hbb, hcw⟩ := hS.cells (by omega)
        have hcs : ∀ w', Only [] w w' → w'.cell? ⟨bb, off + j, none⟩ = some (.int .u64 (xs.getD j default)) := fun w' ho => (World.cell?_of_block (ho.block bb hbb (by simp))).trans (hcw j hlt)
        obtain ⟨z, hz4⟩ : ∃ z, xs.getD j default = z := ⟨_, rfl⟩
        rw [hz4] at hcs
        clear hz4 hcw
        have hkeep := pin_keep hl h14 h4
        have hpu := ubits_u64 z 1
        have hWd := hW.drew
        have hEd := hWd.env.cell
        have hcd := hcs _ hWd.only
        have hEc := hW.env.cell
        have hcj := hcs _ hW.only
        have HL := Lib.hid (hkeep (bits .and .u64 z 1)).1
        have H14 := Lib.hid (hkeep (bits .and .u64 z 1)).2
        clear hl h14 hkeep
        go_wp2
        first
          | go_region_held3 (fun w' => (∀ o, w'.cell? ⟨w1.heap.size, o, none⟩ = (#[.int .i64 kE.t, .int .i64 kE.s, .int .i64 kE.c, .int .i64 kE.w, .int .i64 kE.g, .int .i64 kE.p, .int .i64 kE.r, .pointer (some ⟨m.b, 0, none⟩), .int .i64 0] : Array Value)[o]?) ∧ w'.cell? ⟨bb, off + j, none⟩ = some (.int .u64 z)) (first | exact ⟨hEd, hcd⟩ | exact ⟨hE3, hc3⟩)
              (first
                | (go_at_call 48; refine (pin_any _ _).mono ?_; rintro e w' ⟨rfl, rfl⟩)
                | (go_at_call 59; with_reducible refine (store_any hWd.mem hpu).mono ?_; rintro e w3 ⟨rfl, hm3, ho3⟩; have hW3 := hWd.step hnx hlm hm3 ho3; have hE3 := hW3.env.cell; have hc3 := hcs _ hW3.only))
          | fail "region"
        all_goals
          go_wp2
          go_roundw
          case rel => exact ⟨j + 1, _, by go_num, by omega, by omega, HL.out, H14.out, hW3⟩
          case measure => simp [intOf]; omega
      · skip
        have hWd := hW.drew
        have hEd0 := hW.env
        have HL := Lib.hid hl
        have H14 := Lib.hid h14
        clear hl h14
        have hEc := hW.env.cell
        obtain ⟨ab, hab⟩ : ∃ ab, wr.heap.size = ab := ⟨_, rfl⟩
        have hz3 := hW.only.size
        have he3 := hW.env.lt
        obtain ⟨k1, k2, k3⟩ := hW.mem.lts
        have hA : EA w m w1.heap.size ab := ⟨hn1, hn2, hn3, by omega, hnx, by omega, by omega, by omega, by omega⟩
        have hO : EO w (wr.alloc (.cells #[.int .i64 0, .int .u64 0, .int .i64 0, .bool false] 116)) m kE 0 w1.heap.size s ab (⟨0, 0, 0, false⟩ : AdvS).cs 116 := EO.mk (hW.alloc (.cells (⟨0, 0, 0, false⟩ : AdvS).cs 116)) (hab ▸ Blk.new wr (⟨0, 0, 0, false⟩ : AdvS).cs 116)
        have n1 := hA.t1
        have n2 := hA.t2
        have n3 := hA.t3
        clear hW hEc k1 k2 k3 he3 hz3 hWd hEd0
        go_wp2
        go_loopw [9] (fun x wr => ∃ (q : Nat) (s : MS) (p : AdvS), x = .int .i64 q ∧ q ≤ 20 ∧ s.ws.length = 78 ∧ s.at 14 = 0 ∧ AI p ∧ EO w wr m kE 0 w1.heap.size s ab p.cs 116) (fun x _ => 20 - (intOf x).toNat)
        case atStart => exact ⟨0, s, ⟨0, 0, 0, false⟩, rfl, by omega, HL.out, H14.out, .inl ⟨rfl, rfl⟩, hO⟩
        case round =>
          clear hO
          obtain ⟨q, s, p, rfl, hq, hl, h14, hp, hO⟩ := hrel
          by_cases hq20 : q < 20
          · have hEc := hO.ew.env.cell
            have HO := Lib.hid hO
            have HL := Lib.hid hl
            have H14 := Lib.hid h14
            have HP := Lib.hid hp
            clear hO hl h14 hp
            go_wp2_with fail
            refine (now_env kE 0 HO.out.ew.mem).mono ?_
            rintro e wa ⟨rfl, rfl⟩
            have HOa := Lib.hid (HO.out.alloc (.cells #[.int .i64 kE.t, .int .i64 kE.s, .int .i64 kE.c, .int .i64 kE.w, .int .i64 kE.g, .int .i64 kE.p, .int .i64 kE.r, .pointer (some ⟨m.b, 0, none⟩), .int .i64 0] 47))
            clear hEc HO
            have hEc := HOa.out.ew.env.cell
            go_wp2_with fail
            refine (adv_touch kE 0 p ab rfl (by rw [HL.out]; decide) HOa.out.ew.mem HOa.out.ob HP.out n1 n2 n3).mono ?_
            rintro e wb ⟨b, s2, p2, rfl, h1, h2, h3, hai, hts, hch, hlen2, hat2⟩
            have HOb := Lib.hid (HOa.out.step hA h1 h2 h3)
            have HL2 := Lib.hid (hlen2.trans HL.out)
            have H142 := Lib.hid ((hat2 14 (by decide)).trans H14.out)
            have HAI := Lib.hid hai
            clear hEc h1 h2 h3 HOa hlen2 hat2 hai
            have hEc := HOb.out.ew.env.cell
            have hch2 : s2.ch = false ∨ (s2.ch = true ∧ s2.la = 0) := by
              cases hc : s2.ch
              · exact .inl rfl
              · exact .inr ⟨rfl, hch.elim (fun h => by rw [hc] at h; cases h) id⟩
            clear hch
            cases b
            · rcases hch2 with hcf | ⟨hcf, hlf⟩
              · skip
                go_wp2_with (first | (go_at_call 61; refine (now_env kE 0 HOb.out.ew.mem).mono ?_; rintro e w' ⟨rfl, rfl⟩; have hEc9 := (HOb.out.alloc (.cells #[.int .i64 kE.t, .int .i64 kE.s, .int .i64 kE.c, .int .i64 kE.w, .int .i64 kE.g, .int .i64 kE.p, .int .i64 kE.r, .pointer (some ⟨m.b, 0, none⟩), .int .i64 0] 47)).ew.env.cell) | (go_at_call 62; refine (last_any HOx.out.ew.mem).mono ?_; rintro e wy ⟨rfl, hoy⟩; have HOy := Lib.hid (HOx.out.only0 hoy)) | (go_at_call 62; refine (last_any (HOb.out.alloc (.cells #[.int .i64 kE.t, .int .i64 kE.s, .int .i64 kE.c, .int .i64 kE.w, .int .i64 kE.g, .int .i64 kE.p, .int .i64 kE.r, .pointer (some ⟨m.b, 0, none⟩), .int .i64 0] 47)).ew.mem).mono ?_; rintro e wx ⟨rfl, hox⟩; have HOx := Lib.hid ((HOb.out.alloc (.cells #[.int .i64 kE.t, .int .i64 kE.s, .int .i64 kE.c, .int .i64 kE.w, .int .i64 kE.g, .int .i64 kE.p, .int .i64 kE.r, .pointer (some ⟨m.b, 0, none⟩), .int .i64 0] 47)).only0 hox); have hEcx := HOx.out.ew.env.cell) | (go_at_call 45; refine (epoch_any _).mono ?_; rintro e w' ⟨rfl, rfl⟩))
                have HOc := Lib.hid (by first | exact HOy.out | exact HOx.out)
                go_roundw
                case rel => exact ⟨q + 1, s2, p2, by go_num, by omega, HL2.out, H142.out, HAI.out (by first | rfl | trivial), HOc.out⟩
                case measure => simp [intOf]; omega
              · skip
                go_wp2_with (first | (go_at_call 61; refine (now_env kE 0 HOb.out.ew.mem).mono ?_; rintro e w' ⟨rfl, rfl⟩; have hEc9 := (HOb.out.alloc (.cells #[.int .i64 kE.t, .int .i64 kE.s, .int .i64 kE.c, .int .i64 kE.w, .int .i64 kE.g, .int .i64 kE.p, .int .i64 kE.r, .pointer (some ⟨m.b, 0, none⟩), .int .i64 0] 47)).ew.env.cell) | (go_at_call 62; refine (last_any HOx.out.ew.mem).mono ?_; rintro e wy ⟨rfl, hoy⟩; have HOy := Lib.hid (HOx.out.only0 hoy)) | (go_at_call 62; refine (last_any (HOb.out.alloc (.cells #[.int .i64 kE.t, .int .i64 kE.s, .int .i64 kE.c, .int .i64 kE.w, .int .i64 kE.g, .int .i64 kE.p, .int .i64 kE.r, .pointer (some ⟨m.b, 0, none⟩), .int .i64 0] 47)).ew.mem).mono ?_; rintro e wx ⟨rfl, hox⟩; have HOx := Lib.hid ((HOb.out.alloc (.cells #[.int .i64 kE.t, .int .i64 kE.s, .int .i64 kE.c, .int .i64 kE.w, .int .i64 kE.g, .int .i64 kE.p, .int .i64 kE.r, .pointer (some ⟨m.b, 0, none⟩), .int .i64 0] 47)).only0 hox); have hEcx := HOx.out.ew.env.cell) | (go_at_call 45; refine (epoch_any _).mono ?_; rintro e w' ⟨rfl, rfl⟩))
                have HOc := Lib.hid (by first | exact HOy.out | exact HOx.out)
                go_roundw
                case rel => exact ⟨q + 1, s2, p2, by go_num, by omega, HL2.out, H142.out, HAI.out (by first | rfl | trivial), HOc.out⟩
                case measure => simp [intOf]; omega
            · rcases hch2 with hcf | ⟨hcf, hlf⟩
              · skip
                go_wp2_with (first | (go_at_call 61; refine (now_env kE 0 HOb.out.ew.mem).mono ?_; rintro e w' ⟨rfl, rfl⟩; have hEc9 := (HOb.out.alloc (.cells #[.int .i64 kE.t, .int .i64 kE.s, .int .i64 kE.c, .int .i64 kE.w, .int .i64 kE.g, .int .i64 kE.p, .int .i64 kE.r, .pointer (some ⟨m.b, 0, none⟩), .int .i64 0] 47)).ew.env.cell) | (go_at_call 62; refine (last_any HOx.out.ew.mem).mono ?_; rintro e wy ⟨rfl, hoy⟩; have HOy := Lib.hid (HOx.out.only0 hoy)) | (go_at_call 62; refine (last_any (HOb.out.alloc (.cells #[.int .i64 kE.t, .int .i64 kE.s, .int .i64 kE.c, .int .i64 kE.w, .int .i64 kE.g, .int .i64 kE.p, .int .i64 kE.r, .pointer (some ⟨m.b, 0, none⟩), .int .i64 0] 47)).ew.mem).mono ?_; rintro e wx ⟨rfl, hox⟩; have HOx := Lib.hid ((HOb.out.alloc (.cells #[.int .i64 kE.t, .int .i64 kE.s, .int .i64 kE.c, .int .i64 kE.w, .int .i64 kE.g, .int .i64 kE.p, .int .i64 kE.r, .pointer (some ⟨m.b, 0, none⟩), .int .i64 0] 47)).only0 hox); have hEcx := HOx.out.ew.env.cell) | (go_at_call 45; refine (epoch_any _).mono ?_; rintro e w' ⟨rfl, rfl⟩))
                have HOc := Lib.hid (by first | exact HOy.out | exact HOx.out)
                have hO := HOc.out
                have hl := HL2.out
                have h14 := H142.out
                clear hcf hts HOc HL2 H142 HAI HOb HL H14 HP
                have hM0 := hO.ew.mem
                have hE0 := hO.ew.env
                have hO0 := hO.ew.only
                have hEc := hE0.cell
                obtain ⟨W, hWq⟩ : ∃ W, putChunk 3 0 (1 + (a : Int)) 0 = W := ⟨_, rfl⟩
                obtain ⟨hW3, hWu, hWU, hSM⟩ := sm_start (s := s2) hl h14 ha hWq
                have HSM := Lib.hid hSM
                have HWU := Lib.hid hWU
                have HWu := Lib.hid hWu
                have HW3 := Lib.hid hW3
                clear hl h14 hO hSM hWU hWu hW3
                go_wp2
                first
                  | go_region_held3 (fun w' => ∀ o, w'.cell? ⟨w1.heap.size, o, none⟩ = (#[.int .i64 kE.t, .int .i64 kE.s, .int .i64 kE.c, .int .i64 kE.w, .int .i64 kE.g, .int .i64 kE.p, .int .i64 kE.r, .pointer (some ⟨m.b, 0, none⟩), .int .i64 0] : Array Value)[o]?) ((refine Blk.cell (T := 47) ?_; repeat (first | with_reducible assumption | with_reducible apply Blk.drew | with_reducible apply Blk.alloc | (with_reducible refine Blk.only ?_ (by with_reducible assumption) (by first | exact List.not_mem_nil | with_reducible assumption)) | (with_reducible refine Blk.other ?_ _ _ (by simp only; omega)))))
                      (first
                        | (go_at_call 50; with_reducible refine (chunka_any _ kE _).mono ?_; rintro e w' ⟨rfl, rfl⟩)
                        | (go_at_call 87; with_reducible refine (putchunk_any _ _ _ _ _).mono ?_; rintro e w5 ⟨rfl, ho5⟩)
                        | (go_at_call 59; with_reducible refine (store_any (m := m) (s := s2) (by repeat (first | with_reducible assumption | with_reducible apply MemR.drew | with_reducible apply MemR.alloc | (with_reducible refine MemR.only ?_ (by with_reducible assumption) List.not_mem_nil List.not_mem_nil List.not_mem_nil) | (with_reducible refine MemR.other ?_ _ _ (by simp only; omega) (by simp only; omega) (by simp only; omega)))) (putChunk_rng _ _ _ _)).mono ?_; rintro e w6 ⟨rfl, hM6, ho6⟩; have hE6 : Blk w6 w1.heap.size #[.int .i64 kE.t, .int .i64 kE.s, .int .i64 kE.c, .int .i64 kE.w, .int .i64 kE.g, .int .i64 kE.p, .int .i64 kE.r, .pointer (some ⟨m.b, 0, none⟩), .int .i64 0] 47 := (by refine Blk.only ?_ ho6 hnx; (repeat (first | with_reducible assumption | with_reducible apply Blk.drew | with_reducible apply Blk.alloc | (with_reducible refine Blk.only ?_ (by with_reducible assumption) (by first | exact List.not_mem_nil | with_reducible assumption)) | (with_reducible refine Blk.other ?_ _ _ (by simp only; omega))))); have hO6 : Only [] w w6 := (by refine Only.trans' (Only.trans' ?_ ho5 (fun _ h _ => h)) ho6 hlm; repeat (first | with_reducible exact hO0 | with_reducible apply Only.drew | with_reducible apply Only.alloc))))
                  | fail "region 17"
                all_goals
                  have hwr : IntKind.i64.wrap (1 + (a : Int)) = 1 + (a : Int) := wrap_small ha
                  rw [hwr, hWq] at hM6
                  clear hus hWq hwr
                  have hW6 : EW w w6 m kE 0 w1.heap.size _ := ⟨hM6, hE6, hO6⟩
                  have hW6d := hW6.drew
                  have hE6d := hW6d.env.cell
                  have hE6c := hW6.env.cell
                  have hz9 : U64 9 := ⟨by decide, by decide⟩
                  clear hM0 hE0 hO0 hEc hM6 hE6 hO6 ho6
                  go_wp2
                  first
                    | go_region_held3 (fun w' => ∀ o, w'.cell? ⟨w1.heap.size, o, none⟩ = (#[.int .i64 kE.t, .int .i64 kE.s, .int .i64 kE.c, .int .i64 kE.w, .int .i64 kE.g, .int .i64 kE.p, .int .i64 kE.r, .pointer (some ⟨m.b, 0, none⟩), .int .i64 0] : Array Value)[o]?) (first | exact hE6d | exact hE7c)
                        (first
                          | (go_at_call 45; refine (epoch_any _).mono ?_; rintro e w' ⟨rfl, rfl⟩)
                          | (go_at_call 59; with_reducible refine (store_any hW6d.mem hz9).mono ?_; rintro e w7 ⟨rfl, hm7, ho7⟩; have hW7 := hW6d.step hnx hlm hm7 ho7; have hE7c := hW7.env.cell))
                    | fail "region 18"
                  all_goals
                    obtain ⟨tb, htb⟩ : ∃ tb, w7.heap.size = tb := ⟨_, rfl⟩
                    have hz7 := hW7.only.size
                    have he7 := hW7.env.lt
                    obtain ⟨x1, x2, x3⟩ := hW7.mem.lts
                    have hA2 : EA w m w1.heap.size tb := ⟨hn1, hn2, hn3, by omega, hnx, by omega, by omega, by omega, by omega⟩
                    have hO7 : EO w (w7.alloc (.cells (⟨0, 0, 0, 0, 0, false⟩ : SetS).cs 148)) m kE 0 w1.heap.size _ tb (⟨0, 0, 0, 0, 0, false⟩ : SetS).cs 148 := EO.mk (hW7.alloc (.cells (⟨0, 0, 0, 0, 0, false⟩ : SetS).cs 148)) (htb ▸ Blk.new w7 (⟨0, 0, 0, 0, 0, false⟩ : SetS).cs 148)
                    have o1 := hA2.t1
                    have o2 := hA2.t2
                    have o3 := hA2.t3
                    clear hW6 hW6d hE6d hE6c hW7 hE7c hm7 ho7 x1 x2 x3 he7 hz7
                    go_wp2_with (first | (go_at_call 88; refine (setnew_any _ _).mono ?_; rintro e w' ⟨rfl, rfl⟩))
                    go_loopw [13] (fun x wr => ∃ (y : Nat) (s : MS) (p : SetS), x = .int .i64 y ∧ y ≤ 60 ∧ SM W s ∧ SI W (1 + a) y p ∧ EO w wr m kE 0 w1.heap.size s tb p.cs 148) (fun x _ => 60 - (intOf x).toNat)
                    case atStart => exact ⟨0, _, ⟨0, 0, 0, 0, 0, false⟩, rfl, by omega, HSM.out, ⟨rfl, rfl, ⟨(by decide : (0 : Int) ≤ 0), (by decide : (0 : Int) < 18446744073709551616)⟩, .inl ⟨rfl, rfl, rfl⟩⟩, hO7⟩
                    case round =>
                      clear hO7
                      obtain ⟨y, s, p, rfl, hy, hSM, hSI, hO⟩ := hrel
                      have hy60 : y < 60 := si_lt (by omega) hSI
                      have hpk : ∀ w', MemR w' m s → Calls Try.prog 44 #[.pointer (some ⟨m.b, 0, none⟩), .int .i64 (aChunk kE 0)] w' fun e w2 => e = .returned (.int .u64 W) ∧ w' = w2 := fun w' h => by
                        have := peek_any (a := aChunk kE 0) h
                        rw [sm_get hSM] at this
                        exact this
                      have hOd := hO.drew
                      have HSM := Lib.hid hSM
                      have HSI := Lib.hid hSI
                      have hw3 := HW3.out
                      clear hSM hSI hO
                      go_wp2
                      refine qc_enter (fun w' => EO w w' m kE 0 w1.heap.size s tb p.cs 148) (by kernel_rfl) (by kernel_rfl) ?_ ?_
                      focus (exact hOd)
                      repeat (first
                        | go_big_quiet_skip
                        | (go_big_quiet_want
                           apply Exists.intro
                           refine ⟨fun wq hq => ?_, ?_⟩
                           focus
                             (have hc2 := hq.ew.env.cell)
                             unfold Oper.quietAt
                             go_simp
                             (first
                               | done
                               | with_reducible exact rfl
                               | with_reducible exact ⟨rfl, rfl⟩
                               | (first | (go_at_call 61; refine (now_env kE 0 hq.ew.mem).mono ?_; rintro e w' ⟨rfl, rfl⟩; exact ⟨rfl, hq.alloc _⟩) | (go_at_call 50; with_reducible refine (chunka_any _ kE _).mono ?_; rintro e w' ⟨rfl, rfl⟩; exact ⟨rfl, hq.alloc _⟩) | (go_at_call 44; with_reducible refine (hpk _ hq.ew.mem).mono ?_; rintro e w' ⟨rfl, rfl⟩; exact ⟨rfl, hq⟩) | (go_at_call 83; refine (chunk_word W _ HWU.out).mono ?_; rintro e w' ⟨rfl, ho⟩; exact ⟨rfl, hq.only0 ho⟩)))
                           (try simp only [Act.put, List.setIfInBounds_toArray, List.set_cons_zero, List.set_cons_succ])
                           go_big_quiet_on))
                      refine wpQuiet_nil ?_
                      intro wq hq
                      have HQ := Lib.hid hq
                      clear hq hOd hpk
                      have hEc := HQ.out.ew.env.cell
                      go_wp2_with fail
                      refine (set_touch 0 W (1 + a) y (by omega) (by omega) HW3.out (by rw [HWu.out]; omega) HWU.out p tb HSM.out HQ.out.ew.mem HQ.out.ob HSI.out o1 o2 o3).mono ?_
                      rintro e wb ⟨b, s2, p2, rfl, h1, h2, h3, hnext, hdone, hts, hla0, hla1⟩
                      have HTS := Lib.hid hts
                      clear hts hw3
                      have hOb := HQ.out.step hA2 h1 h2 h3
                      have HNX := Lib.hid hnext
                      have HDN := Lib.hid hdone
                      have HLA := Lib.hid (show -9223372036854775808 ≤ s2.la ∧ s2.la < 9223372036854775808 from ⟨by omega, by omega⟩)
                      have hOd := hOb.drew
                      clear hEc h1 h2 h3 hnext hdone hla0 hla1 HQ hOb
                      have hkof := kE_ok
                      have HKO := Lib.hid hkof
                      clear hkof
                      cases hof : (aOf kE s2.la == 0)
                      · skip
                        have hts := HTS.out
                        have hEc := hOd.ew.env.cell
                        go_wp2
                        refine qc_enter (fun w' => EO w w' m kE 0 w1.heap.size s2 tb p2.cs 148) (by kernel_rfl) (by kernel_rfl) ?_ ?_
                        focus (exact hOd)
                        repeat (first
                          | go_big_quiet_skip
                          | (go_big_quiet_want
                             apply Exists.intro
                             refine ⟨fun wq hq => ?_, ?_⟩
                             focus
                               (have hc2 := hq.ew.env.cell)
                               unfold Oper.quietAt
                               go_simp
                               (first
                                 | done
                                 | with_reducible exact rfl
                                 | with_reducible exact ⟨rfl, rfl⟩
                                 | (first | (go_at_call 61; refine (now_env kE 0 hq.ew.mem).mono ?_; rintro e w' ⟨rfl, rfl⟩; exact ⟨rfl, hq.alloc _⟩) | (go_at_call 62; refine (last_any hq.ew.mem).mono ?_; rintro e w' ⟨rfl, ho⟩; exact ⟨rfl, hq.only0 ho⟩) | (go_at_call 52; refine (of_any kE HKO.out _ _ HLA.out.1 HLA.out.2).mono ?_; rintro e w' ⟨rfl, ho⟩; exact ⟨rfl, hq.only0 ho⟩)))
                             (try simp only [Act.put, List.setIfInBounds_toArray, List.set_cons_zero, List.set_cons_succ])
                             go_big_quiet_on))
                        refine wpQuiet_nil ?_
                        intro wq hq
                        have HQ := Lib.hid hq
                        clear hq hOd hEc
                        clear hts HTS
                        cases b
                        · go_wp2
                          go_roundw
                          case rel => exact ⟨y + 1, s2, p2, by go_num, by omega, (HNX.out (by first | rfl | trivial)).2, (HNX.out (by first | rfl | trivial)).1, HQ.out⟩
                          case measure => simp [intOf]; omega
                        · have hfr : ∀ w', Blk w' tb p2.cs 148 → Calls Try.prog 90 #[.pointer (some ⟨tb, 0, none⟩)] w' fun e w2 => e = .returned (.bool true) ∧ w' = w2 := fun w' h => by
                            have := freed_any p2 tb h
                            rw [HDN.out (by first | rfl | trivial)] at this
                            exact this
                          go_wp2_with (first | (go_at_call 90; with_reducible refine (hfr _ HQ.out.ob).mono ?_; rintro e w' ⟨rfl, rfl⟩) | (go_at_call 90; with_reducible refine (freed_nil _).mono ?_; rintro e w' ⟨rfl, rfl⟩) | (go_at_call 91; with_reducible refine (went_nil _).mono ?_; rintro e w' ⟨rfl, rfl⟩))
                          go_ret
                          exact ⟨rfl, HQ.out.ew.only⟩
                      · skip
                        have hts := HTS.out
                        have hEc := hOd.ew.env.cell
                        go_wp2
                        refine qc_enter (fun w' => EO w w' m kE 0 w1.heap.size s2 tb p2.cs 148) (by kernel_rfl) (by kernel_rfl) ?_ ?_
                        focus (exact hOd)
                        repeat (first
                          | go_big_quiet_skip
                          | (go_big_quiet_want
                             apply Exists.intro
                             refine ⟨fun wq hq => ?_, ?_⟩
                             focus
                               (have hc2 := hq.ew.env.cell)
                               unfold Oper.quietAt
                               go_simp
                               (first
                                 | done
                                 | with_reducible exact rfl
                                 | with_reducible exact ⟨rfl, rfl⟩
                                 | (first | (go_at_call 61; refine (now_env kE 0 hq.ew.mem).mono ?_; rintro e w' ⟨rfl, rfl⟩; exact ⟨rfl, hq.alloc _⟩) | (go_at_call 62; refine (last_any hq.ew.mem).mono ?_; rintro e w' ⟨rfl, ho⟩; exact ⟨rfl, hq.only0 ho⟩) | (go_at_call 52; refine (of_any kE HKO.out _ _ HLA.out.1 HLA.out.2).mono ?_; rintro e w' ⟨rfl, ho⟩; exact ⟨rfl, hq.only0 ho⟩)))
                             (try simp only [Act.put, List.setIfInBounds_toArray, List.set_cons_zero, List.set_cons_succ])
                             go_big_quiet_on))
                        refine wpQuiet_nil ?_
                        intro wq hq
                        have HQ := Lib.hid hq
                        clear hq hOd hEc
                        clear hts HTS
                        cases b
                        · go_wp2
                          go_roundw
                          case rel => exact ⟨y + 1, s2, p2, by go_num, by omega, (HNX.out (by first | rfl | trivial)).2, (HNX.out (by first | rfl | trivial)).1, HQ.out⟩
                          case measure => simp [intOf]; omega
                        · have hfr : ∀ w', Blk w' tb p2.cs 148 → Calls Try.prog 90 #[.pointer (some ⟨tb, 0, none⟩)] w' fun e w2 => e = .returned (.bool true) ∧ w' = w2 := fun w' h => by
                            have := freed_any p2 tb h
                            rw [HDN.out (by first | rfl | trivial)] at this
                            exact this
                          go_wp2_with (first | (go_at_call 90; with_reducible refine (hfr _ HQ.out.ob).mono ?_; rintro e w' ⟨rfl, rfl⟩) | (go_at_call 90; with_reducible refine (freed_nil _).mono ?_; rintro e w' ⟨rfl, rfl⟩) | (go_at_call 91; with_reducible refine (went_nil _).mono ?_; rintro e w' ⟨rfl, rfl⟩))
                          go_ret
                          exact ⟨rfl, HQ.out.ew.only⟩
              · skip
                go_wp2_with (first | (go_at_call 61; refine (now_env kE 0 HOb.out.ew.mem).mono ?_; rintro e w' ⟨rfl, rfl⟩; have hEc9 := (HOb.out.alloc (.cells #[.int .i64 kE.t, .int .i64 kE.s, .int .i64 kE.c, .int .i64 kE.w, .int .i64 kE.g, .int .i64 kE.p, .int .i64 kE.r, .pointer (some ⟨m.b, 0, none⟩), .int .i64 0] 47)).ew.env.cell) | (go_at_call 62; refine (last_any HOx.out.ew.mem).mono ?_; rintro e wy ⟨rfl, hoy⟩; have HOy := Lib.hid (HOx.out.only0 hoy)) | (go_at_call 62; refine (last_any (HOb.out.alloc (.cells #[.int .i64 kE.t, .int .i64 kE.s, .int .i64 kE.c, .int .i64 kE.w, .int .i64 kE.g, .int .i64 kE.p, .int .i64 kE.r, .pointer (some ⟨m.b, 0, none⟩), .int .i64 0] 47)).ew.mem).mono ?_; rintro e wx ⟨rfl, hox⟩; have HOx := Lib.hid ((HOb.out.alloc (.cells #[.int .i64 kE.t, .int .i64 kE.s, .int .i64 kE.c, .int .i64 kE.w, .int .i64 kE.g, .int .i64 kE.p, .int .i64 kE.r, .pointer (some ⟨m.b, 0, none⟩), .int .i64 0] 47)).only0 hox); have hEcx := HOx.out.ew.env.cell) | (go_at_call 45; refine (epoch_any _).mono ?_; rintro e w' ⟨rfl, rfl⟩))
                have HOc := Lib.hid (by first | exact HOy.out | exact HOx.out)
                have hO := HOc.out
                have hl := HL2.out
                have h14 := H142.out
                clear hcf hlf hts HOc HL2 H142 HAI HOb HL H14 HP
                have hM0 := hO.ew.mem
                have hE0 := hO.ew.env
                have hO0 := hO.ew.only
                have hEc := hE0.cell
                obtain ⟨W, hWq⟩ : ∃ W, putChunk 3 0 (1 + (a : Int)) 0 = W := ⟨_, rfl⟩
                obtain ⟨hW3, hWu, hWU, hSM⟩ := sm_start (s := s2) hl h14 ha hWq
                have HSM := Lib.hid hSM
                have HWU := Lib.hid hWU
                have HWu := Lib.hid hWu
                have HW3 := Lib.hid hW3
                clear hl h14 hO hSM hWU hWu hW3
                go_wp2
                first
                  | go_region_held3 (fun w' => ∀ o, w'.cell? ⟨w1.heap.size, o, none⟩ = (#[.int .i64 kE.t, .int .i64 kE.s, .int .i64 kE.c, .int .i64 kE.w, .int .i64 kE.g, .int .i64 kE.p, .int .i64 kE.r, .pointer (some ⟨m.b, 0, none⟩), .int .i64 0] : Array Value)[o]?) ((refine Blk.cell (T := 47) ?_; repeat (first | with_reducible assumption | with_reducible apply Blk.drew | with_reducible apply Blk.alloc | (with_reducible refine Blk.only ?_ (by with_reducible assumption) (by first | exact List.not_mem_nil | with_reducible assumption)) | (with_reducible refine Blk.other ?_ _ _ (by simp only; omega)))))
                      (first
                        | (go_at_call 50; with_reducible refine (chunka_any _ kE _).mono ?_; rintro e w' ⟨rfl, rfl⟩)
                        | (go_at_call 87; with_reducible refine (putchunk_any _ _ _ _ _).mono ?_; rintro e w5 ⟨rfl, ho5⟩)
                        | (go_at_call 59; with_reducible refine (store_any (m := m) (s := s2) (by repeat (first | with_reducible assumption | with_reducible apply MemR.drew | with_reducible apply MemR.alloc | (with_reducible refine MemR.only ?_ (by with_reducible assumption) List.not_mem_nil List.not_mem_nil List.not_mem_nil) | (with_reducible refine MemR.other ?_ _ _ (by simp only; omega) (by simp only; omega) (by simp only; omega)))) (putChunk_rng _ _ _ _)).mono ?_; rintro e w6 ⟨rfl, hM6, ho6⟩; have hE6 : Blk w6 w1.heap.size #[.int .i64 kE.t, .int .i64 kE.s, .int .i64 kE.c, .int .i64 kE.w, .int .i64 kE.g, .int .i64 kE.p, .int .i64 kE.r, .pointer (some ⟨m.b, 0, none⟩), .int .i64 0] 47 := (by refine Blk.only ?_ ho6 hnx; (repeat (first | with_reducible assumption | with_reducible apply Blk.drew | with_reducible apply Blk.alloc | (with_reducible refine Blk.only ?_ (by with_reducible assumption) (by first | exact List.not_mem_nil | with_reducible assumption)) | (with_reducible refine Blk.other ?_ _ _ (by simp only; omega))))); have hO6 : Only [] w w6 := (by refine Only.trans' (Only.trans' ?_ ho5 (fun _ h _ => h)) ho6 hlm; repeat (first | with_reducible exact hO0 | with_reducible apply Only.drew | with_reducible apply Only.alloc))))
                  | fail "region 17"
                all_goals
                  have hwr : IntKind.i64.wrap (1 + (a : Int)) = 1 + (a : Int) := wrap_small ha
                  rw [hwr, hWq] at hM6
                  clear hus hWq hwr
                  have hW6 : EW w w6 m kE 0 w1.heap.size _ := ⟨hM6, hE6, hO6⟩
                  have hW6d := hW6.drew
                  have hE6d := hW6d.env.cell
                  have hE6c := hW6.env.cell
                  have hz9 : U64 9 := ⟨by decide, by decide⟩
                  clear hM0 hE0 hO0 hEc hM6 hE6 hO6 ho6
                  go_wp2
                  first
                    | go_region_held3 (fun w' => ∀ o, w'.cell? ⟨w1.heap.size, o, none⟩ = (#[.int .i64 kE.t, .int .i64 kE.s, .int .i64 kE.c, .int .i64 kE.w, .int .i64 kE.g, .int .i64 kE.p, .int .i64 kE.r, .pointer (some ⟨m.b, 0, none⟩), .int .i64 0] : Array Value)[o]?) (first | exact hE6d | exact hE7c)
                        (first
                          | (go_at_call 45; refine (epoch_any _).mono ?_; rintro e w' ⟨rfl, rfl⟩)
                          | (go_at_call 59; with_reducible refine (store_any hW6d.mem hz9).mono ?_; rintro e w7 ⟨rfl, hm7, ho7⟩; have hW7 := hW6d.step hnx hlm hm7 ho7; have hE7c := hW7.env.cell))
                    | fail "region 18"
                  all_goals
                    obtain ⟨tb, htb⟩ : ∃ tb, w7.heap.size = tb := ⟨_, rfl⟩
                    have hz7 := hW7.only.size
                    have he7 := hW7.env.lt
                    obtain ⟨x1, x2, x3⟩ := hW7.mem.lts
                    have hA2 : EA w m w1.heap.size tb := ⟨hn1, hn2, hn3, by omega, hnx, by omega, by omega, by omega, by omega⟩
                    have hO7 : EO w (w7.alloc (.cells (⟨0, 0, 0, 0, 0, false⟩ : SetS).cs 148)) m kE 0 w1.heap.size _ tb (⟨0, 0, 0, 0, 0, false⟩ : SetS).cs 148 := EO.mk (hW7.alloc (.cells (⟨0, 0, 0, 0, 0, false⟩ : SetS).cs 148)) (htb ▸ Blk.new w7 (⟨0, 0, 0, 0, 0, false⟩ : SetS).cs 148)
                    have o1 := hA2.t1
                    have o2 := hA2.t2
                    have o3 := hA2.t3
                    clear hW6 hW6d hE6d hE6c hW7 hE7c hm7 ho7 x1 x2 x3 he7 hz7
                    go_wp2_with (first | (go_at_call 88; refine (setnew_any _ _).mono ?_; rintro e w' ⟨rfl, rfl⟩))
                    go_loopw [13] (fun x wr => ∃ (y : Nat) (s : MS) (p : SetS), x = .int .i64 y ∧ y ≤ 60 ∧ SM W s ∧ SI W (1 + a) y p ∧ EO w wr m kE 0 w1.heap.size s tb p.cs 148) (fun x _ => 60 - (intOf x).toNat)
                    case atStart => exact ⟨0, _, ⟨0, 0, 0, 0, 0, false⟩, rfl, by omega, HSM.out, ⟨rfl, rfl, ⟨(by decide : (0 : Int) ≤ 0), (by decide : (0 : Int) < 18446744073709551616)⟩, .inl ⟨rfl, rfl, rfl⟩⟩, hO7⟩
                    case round =>
                      clear hO7
                      obtain ⟨y, s, p, rfl, hy, hSM, hSI, hO⟩ := hrel
                      have hy60 : y < 60 := si_lt (by omega) hSI
                      have hpk : ∀ w', MemR w' m s → Calls Try.prog 44 #[.pointer (some ⟨m.b, 0, none⟩), .int .i64 (aChunk kE 0)] w' fun e w2 => e = .returned (.int .u64 W) ∧ w' = w2 := fun w' h => by
                        have := peek_any (a := aChunk kE 0) h
                        rw [sm_get hSM] at this
                        exact this
                      have hOd := hO.drew
                      have HSM := Lib.hid hSM
                      have HSI := Lib.hid hSI
                      have hw3 := HW3.out
                      clear hSM hSI hO
                      go_wp2
                      refine qc_enter (fun w' => EO w w' m kE 0 w1.heap.size s tb p.cs 148) (by kernel_rfl) (by kernel_rfl) ?_ ?_
                      focus (exact hOd)
                      repeat (first
                        | go_big_quiet_skip
                        | (go_big_quiet_want
                           apply Exists.intro
                           refine ⟨fun wq hq => ?_, ?_⟩
                           focus
                             (have hc2 := hq.ew.env.cell)
                             unfold Oper.quietAt
                             go_simp
                             (first
                               | done
                               | with_reducible exact rfl
                               | with_reducible exact ⟨rfl, rfl⟩
                               | (first | (go_at_call 61; refine (now_env kE 0 hq.ew.mem).mono ?_; rintro e w' ⟨rfl, rfl⟩; exact ⟨rfl, hq.alloc _⟩) | (go_at_call 50; with_reducible refine (chunka_any _ kE _).mono ?_; rintro e w' ⟨rfl, rfl⟩; exact ⟨rfl, hq.alloc _⟩) | (go_at_call 44; with_reducible refine (hpk _ hq.ew.mem).mono ?_; rintro e w' ⟨rfl, rfl⟩; exact ⟨rfl, hq⟩) | (go_at_call 83; refine (chunk_word W _ HWU.out).mono ?_; rintro e w' ⟨rfl, ho⟩; exact ⟨rfl, hq.only0 ho⟩)))
                           (try simp only [Act.put, List.setIfInBounds_toArray, List.set_cons_zero, List.set_cons_succ])
                           go_big_quiet_on))
                      refine wpQuiet_nil ?_
                      intro wq hq
                      have HQ := Lib.hid hq
                      clear hq hOd hpk
                      have hEc := HQ.out.ew.env.cell
                      go_wp2_with fail
                      refine (set_touch 0 W (1 + a) y (by omega) (by omega) HW3.out (by rw [HWu.out]; omega) HWU.out p tb HSM.out HQ.out.ew.mem HQ.out.ob HSI.out o1 o2 o3).mono ?_
                      rintro e wb ⟨b, s2, p2, rfl, h1, h2, h3, hnext, hdone, hts, hla0, hla1⟩
                      have HTS := Lib.hid hts
                      clear hts hw3
                      have hOb := HQ.out.step hA2 h1 h2 h3
                      have HNX := Lib.hid hnext
                      have HDN := Lib.hid hdone
                      have HLA := Lib.hid (show -9223372036854775808 ≤ s2.la ∧ s2.la < 9223372036854775808 from ⟨by omega, by omega⟩)
                      have hOd := hOb.drew
                      clear hEc h1 h2 h3 hnext hdone hla0 hla1 HQ hOb
                      have hkof := kE_ok
                      have HKO := Lib.hid hkof
                      clear hkof
                      cases hof : (aOf kE s2.la == 0)
                      · skip
                        have hts := HTS.out
                        have hEc := hOd.ew.env.cell
                        go_wp2
                        refine qc_enter (fun w' => EO w w' m kE 0 w1.heap.size s2 tb p2.cs 148) (by kernel_rfl) (by kernel_rfl) ?_ ?_
                        focus (exact hOd)
                        repeat (first
                          | go_big_quiet_skip
                          | (go_big_quiet_want
                             apply Exists.intro
                             refine ⟨fun wq hq => ?_, ?_⟩
                             focus
                               (have hc2 := hq.ew.env.cell)
                               unfold Oper.quietAt
                               go_simp
                               (first
                                 | done
                                 | with_reducible exact rfl
                                 | with_reducible exact ⟨rfl, rfl⟩
                                 | (first | (go_at_call 61; refine (now_env kE 0 hq.ew.mem).mono ?_; rintro e w' ⟨rfl, rfl⟩; exact ⟨rfl, hq.alloc _⟩) | (go_at_call 62; refine (last_any hq.ew.mem).mono ?_; rintro e w' ⟨rfl, ho⟩; exact ⟨rfl, hq.only0 ho⟩) | (go_at_call 52; refine (of_any kE HKO.out _ _ HLA.out.1 HLA.out.2).mono ?_; rintro e w' ⟨rfl, ho⟩; exact ⟨rfl, hq.only0 ho⟩)))
                             (try simp only [Act.put, List.setIfInBounds_toArray, List.set_cons_zero, List.set_cons_succ])
                             go_big_quiet_on))
                        refine wpQuiet_nil ?_
                        intro wq hq
                        have HQ := Lib.hid hq
                        clear hq hOd hEc
                        clear hts HTS
                        cases b
                        · go_wp2
                          go_roundw
                          case rel => exact ⟨y + 1, s2, p2, by go_num, by omega, (HNX.out (by first | rfl | trivial)).2, (HNX.out (by first | rfl | trivial)).1, HQ.out⟩
                          case measure => simp [intOf]; omega
                        · have hfr : ∀ w', Blk w' tb p2.cs 148 → Calls Try.prog 90 #[.pointer (some ⟨tb, 0, none⟩)] w' fun e w2 => e = .returned (.bool true) ∧ w' = w2 := fun w' h => by
                            have := freed_any p2 tb h
                            rw [HDN.out (by first | rfl | trivial)] at this
                            exact this
                          go_wp2_with (first | (go_at_call 90; with_reducible refine (hfr _ HQ.out.ob).mono ?_; rintro e w' ⟨rfl, rfl⟩) | (go_at_call 90; with_reducible refine (freed_nil _).mono ?_; rintro e w' ⟨rfl, rfl⟩) | (go_at_call 91; with_reducible refine (went_nil _).mono ?_; rintro e w' ⟨rfl, rfl⟩))
                          go_ret
                          exact ⟨rfl, HQ.out.ew.only⟩
                      · skip
                        have hts := HTS.out
                        have hEc := hOd.ew.env.cell
                        go_wp2
                        refine qc_enter (fun w' => EO w w' m kE 0 w1.heap.size s2 tb p2.cs 148) (by kernel_rfl) (by kernel_rfl) ?_ ?_
                        focus (exact hOd)
                        repeat (first
                          | go_big_quiet_skip
                          | (go_big_quiet_want
                             apply Exists.intro
                             refine ⟨fun wq hq => ?_, ?_⟩
                             focus
                               (have hc2 := hq.ew.env.cell)
                               unfold Oper.quietAt
                               go_simp
                               (first
                                 | done
                                 | with_reducible exact rfl
                                 | with_reducible exact ⟨rfl, rfl⟩
                                 | (first | (go_at_call 61; refine (now_env kE 0 hq.ew.mem).mono ?_; rintro e w' ⟨rfl, rfl⟩; exact ⟨rfl, hq.alloc _⟩) | (go_at_call 62; refine (last_any hq.ew.mem).mono ?_; rintro e w' ⟨rfl, ho⟩; exact ⟨rfl, hq.only0 ho⟩) | (go_at_call 52; refine (of_any kE HKO.out _ _ HLA.out.1 HLA.out.2).mono ?_; rintro e w' ⟨rfl, ho⟩; exact ⟨rfl, hq.only0 ho⟩)))
                             (try simp only [Act.put, List.setIfInBounds_toArray, List.set_cons_zero, List.set_cons_succ])
                             go_big_quiet_on))
                        refine wpQuiet_nil ?_
                        intro wq hq
                        have HQ := Lib.hid hq
                        clear hq hOd hEc
                        clear hts HTS
                        cases b
                        · go_wp2
                          go_roundw
                          case rel => exact ⟨y + 1, s2, p2, by go_num, by omega, (HNX.out (by first | rfl | trivial)).2, (HNX.out (by first | rfl | trivial)).1, HQ.out⟩
                          case measure => simp [intOf]; omega
                        · have hfr : ∀ w', Blk w' tb p2.cs 148 → Calls Try.prog 90 #[.pointer (some ⟨tb, 0, none⟩)] w' fun e w2 => e = .returned (.bool true) ∧ w' = w2 := fun w' h => by
                            have := freed_any p2 tb h
                            rw [HDN.out (by first | rfl | trivial)] at this
                            exact this
                          go_wp2_with (first | (go_at_call 90; with_reducible refine (hfr _ HQ.out.ob).mono ?_; rintro e w' ⟨rfl, rfl⟩) | (go_at_call 90; with_reducible refine (freed_nil _).mono ?_; rintro e w' ⟨rfl, rfl⟩) | (go_at_call 91; with_reducible refine (went_nil _).mono ?_; rintro e w' ⟨rfl, rfl⟩))
                          go_ret
                          exact ⟨rfl, HQ.out.ew.only⟩
          · skip
            clear hp
            have hM0 := hO.ew.mem
            have hE0 := hO.ew.env
            have hO0 := hO.ew.only
            have hEc := hE0.cell
            obtain ⟨W, hWq⟩ : ∃ W, putChunk 3 0 (1 + (a : Int)) 0 = W := ⟨_, rfl⟩
            obtain ⟨hW3, hWu, hWU, hSM⟩ := sm_start (s := s) hl h14 ha hWq
            have HSM := Lib.hid hSM
            have HWU := Lib.hid hWU
            have HWu := Lib.hid hWu
            have HW3 := Lib.hid hW3
            clear hl h14 hO hSM hWU hWu hW3
            go_wp2
            first
              | go_region_held3 (fun w' => ∀ o, w'.cell? ⟨w1.heap.size, o, none⟩ = (#[.int .i64 kE.t, .int .i64 kE.s, .int .i64 kE.c, .int .i64 kE.w, .int .i64 kE.g, .int .i64 kE.p, .int .i64 kE.r, .pointer (some ⟨m.b, 0, none⟩), .int .i64 0] : Array Value)[o]?) ((refine Blk.cell (T := 47) ?_; repeat (first | with_reducible assumption | with_reducible apply Blk.drew | with_reducible apply Blk.alloc | (with_reducible refine Blk.only ?_ (by with_reducible assumption) (by first | exact List.not_mem_nil | with_reducible assumption)) | (with_reducible refine Blk.other ?_ _ _ (by simp only; omega)))))
                  (first
                    | (go_at_call 50; with_reducible refine (chunka_any _ kE _).mono ?_; rintro e w' ⟨rfl, rfl⟩)
                    | (go_at_call 87; with_reducible refine (putchunk_any _ _ _ _ _).mono ?_; rintro e w5 ⟨rfl, ho5⟩)
                    | (go_at_call 59; with_reducible refine (store_any (m := m) (s := s) (by repeat (first | with_reducible assumption | with_reducible apply MemR.drew | with_reducible apply MemR.alloc | (with_reducible refine MemR.only ?_ (by with_reducible assumption) List.not_mem_nil List.not_mem_nil List.not_mem_nil) | (with_reducible refine MemR.other ?_ _ _ (by simp only; omega) (by simp only; omega) (by simp only; omega)))) (putChunk_rng _ _ _ _)).mono ?_; rintro e w6 ⟨rfl, hM6, ho6⟩; have hE6 : Blk w6 w1.heap.size #[.int .i64 kE.t, .int .i64 kE.s, .int .i64 kE.c, .int .i64 kE.w, .int .i64 kE.g, .int .i64 kE.p, .int .i64 kE.r, .pointer (some ⟨m.b, 0, none⟩), .int .i64 0] 47 := (by refine Blk.only ?_ ho6 hnx; (repeat (first | with_reducible assumption | with_reducible apply Blk.drew | with_reducible apply Blk.alloc | (with_reducible refine Blk.only ?_ (by with_reducible assumption) (by first | exact List.not_mem_nil | with_reducible assumption)) | (with_reducible refine Blk.other ?_ _ _ (by simp only; omega))))); have hO6 : Only [] w w6 := (by refine Only.trans' (Only.trans' ?_ ho5 (fun _ h _ => h)) ho6 hlm; repeat (first | with_reducible exact hO0 | with_reducible apply Only.drew | with_reducible apply Only.alloc))))
              | fail "region 17"
            all_goals
              have hwr : IntKind.i64.wrap (1 + (a : Int)) = 1 + (a : Int) := wrap_small ha
              rw [hwr, hWq] at hM6
              clear hus hWq hwr
              have hW6 : EW w w6 m kE 0 w1.heap.size _ := ⟨hM6, hE6, hO6⟩
              have hW6d := hW6.drew
              have hE6d := hW6d.env.cell
              have hE6c := hW6.env.cell
              have hz9 : U64 9 := ⟨by decide, by decide⟩
              clear hM0 hE0 hO0 hEc hM6 hE6 hO6 ho6
              go_wp2
              first
                | go_region_held3 (fun w' => ∀ o, w'.cell? ⟨w1.heap.size, o, none⟩ = (#[.int .i64 kE.t, .int .i64 kE.s, .int .i64 kE.c, .int .i64 kE.w, .int .i64 kE.g, .int .i64 kE.p, .int .i64 kE.r, .pointer (some ⟨m.b, 0, none⟩), .int .i64 0] : Array Value)[o]?) (first | exact hE6d | exact hE7c)
                    (first
                      | (go_at_call 45; refine (epoch_any _).mono ?_; rintro e w' ⟨rfl, rfl⟩)
                      | (go_at_call 59; with_reducible refine (store_any hW6d.mem hz9).mono ?_; rintro e w7 ⟨rfl, hm7, ho7⟩; have hW7 := hW6d.step hnx hlm hm7 ho7; have hE7c := hW7.env.cell))
                | fail "region 18"
              all_goals
                obtain ⟨tb, htb⟩ : ∃ tb, w7.heap.size = tb := ⟨_, rfl⟩
                have hz7 := hW7.only.size
                have he7 := hW7.env.lt
                obtain ⟨x1, x2, x3⟩ := hW7.mem.lts
                have hA2 : EA w m w1.heap.size tb := ⟨hn1, hn2, hn3, by omega, hnx, by omega, by omega, by omega, by omega⟩
                have hO7 : EO w (w7.alloc (.cells (⟨0, 0, 0, 0, 0, false⟩ : SetS).cs 148)) m kE 0 w1.heap.size _ tb (⟨0, 0, 0, 0, 0, false⟩ : SetS).cs 148 := EO.mk (hW7.alloc (.cells (⟨0, 0, 0, 0, 0, false⟩ : SetS).cs 148)) (htb ▸ Blk.new w7 (⟨0, 0, 0, 0, 0, false⟩ : SetS).cs 148)
                have o1 := hA2.t1
                have o2 := hA2.t2
                have o3 := hA2.t3
                clear hW6 hW6d hE6d hE6c hW7 hE7c hm7 ho7 x1 x2 x3 he7 hz7
                go_wp2_with (first | (go_at_call 88; refine (setnew_any _ _).mono ?_; rintro e w' ⟨rfl, rfl⟩))
                go_loopw [13] (fun x wr => ∃ (y : Nat) (s : MS) (p : SetS), x = .int .i64 y ∧ y ≤ 60 ∧ SM W s ∧ SI W (1 + a) y p ∧ EO w wr m kE 0 w1.heap.size s tb p.cs 148) (fun x _ => 60 - (intOf x).toNat)
                case atStart => exact ⟨0, _, ⟨0, 0, 0, 0, 0, false⟩, rfl, by omega, HSM.out, ⟨rfl, rfl, ⟨(by decide : (0 : Int) ≤ 0), (by decide : (0 : Int) < 18446744073709551616)⟩, .inl ⟨rfl, rfl, rfl⟩⟩, hO7⟩
                case round =>
                  clear hO7
                  obtain ⟨y, s, p, rfl, hy, hSM, hSI, hO⟩ := hrel
                  have hy60 : y < 60 := si_lt (by omega) hSI
                  have hpk : ∀ w', MemR w' m s → Calls Try.prog 44 #[.pointer (some ⟨m.b, 0, none⟩), .int .i64 (aChunk kE 0)] w' fun e w2 => e = .returned (.int .u64 W) ∧ w' = w2 := fun w' h => by
                    have := peek_any (a := aChunk kE 0) h
                    rw [sm_get hSM] at this
                    exact this
                  have hOd := hO.drew
                  have HSM := Lib.hid hSM
                  have HSI := Lib.hid hSI
                  have hw3 := HW3.out
                  clear hSM hSI hO
                  go_wp2
                  refine qc_enter (fun w' => EO w w' m kE 0 w1.heap.size s tb p.cs 148) (by kernel_rfl) (by kernel_rfl) ?_ ?_
                  focus (exact hOd)
                  repeat (first
                    | go_big_quiet_skip
                    | (go_big_quiet_want
                       apply Exists.intro
                       refine ⟨fun wq hq => ?_, ?_⟩
                       focus
                         (have hc2 := hq.ew.env.cell)
                         unfold Oper.quietAt
                         go_simp
                         (first
                           | done
                           | with_reducible exact rfl
                           | with_reducible exact ⟨rfl, rfl⟩
                           | (first | (go_at_call 61; refine (now_env kE 0 hq.ew.mem).mono ?_; rintro e w' ⟨rfl, rfl⟩; exact ⟨rfl, hq.alloc _⟩) | (go_at_call 50; with_reducible refine (chunka_any _ kE _).mono ?_; rintro e w' ⟨rfl, rfl⟩; exact ⟨rfl, hq.alloc _⟩) | (go_at_call 44; with_reducible refine (hpk _ hq.ew.mem).mono ?_; rintro e w' ⟨rfl, rfl⟩; exact ⟨rfl, hq⟩) | (go_at_call 83; refine (chunk_word W _ HWU.out).mono ?_; rintro e w' ⟨rfl, ho⟩; exact ⟨rfl, hq.only0 ho⟩)))
                       (try simp only [Act.put, List.setIfInBounds_toArray, List.set_cons_zero, List.set_cons_succ])
                       go_big_quiet_on))
                  refine wpQuiet_nil ?_
                  intro wq hq
                  have HQ := Lib.hid hq
                  clear hq hOd hpk
                  have hEc := HQ.out.ew.env.cell
                  go_wp2_with fail
                  refine (set_touch 0 W (1 + a) y (by omega) (by omega) HW3.out (by rw [HWu.out]; omega) HWU.out p tb HSM.out HQ.out.ew.mem HQ.out.ob HSI.out o1 o2 o3).mono ?_
                  rintro e wb ⟨b, s2, p2, rfl, h1, h2, h3, hnext, hdone, hts, hla0, hla1⟩
                  have HTS := Lib.hid hts
                  clear hts hw3
                  have hOb := HQ.out.step hA2 h1 h2 h3
                  have HNX := Lib.hid hnext
                  have HDN := Lib.hid hdone
                  have HLA := Lib.hid (show -9223372036854775808 ≤ s2.la ∧ s2.la < 9223372036854775808 from ⟨by omega, by omega⟩)
                  have hOd := hOb.drew
                  clear hEc h1 h2 h3 hnext hdone hla0 hla1 HQ hOb
                  have hkof := kE_ok
                  have HKO := Lib.hid hkof
                  clear hkof
                  cases hof : (aOf kE s2.la == 0)
                  · skip
                    have hts := HTS.out
                    have hEc := hOd.ew.env.cell
                    go_wp2
                    refine qc_enter (fun w' => EO w w' m kE 0 w1.heap.size s2 tb p2.cs 148) (by kernel_rfl) (by kernel_rfl) ?_ ?_
                    focus (exact hOd)
                    repeat (first
                      | go_big_quiet_skip
                      | (go_big_quiet_want
                         apply Exists.intro
                         refine ⟨fun wq hq => ?_, ?_⟩
                         focus
                           (have hc2 := hq.ew.env.cell)
                           unfold Oper.quietAt
                           go_simp
                           (first
                             | done
                             | with_reducible exact rfl
                             | with_reducible exact ⟨rfl, rfl⟩
                             | (first | (go_at_call 61; refine (now_env kE 0 hq.ew.mem).mono ?_; rintro e w' ⟨rfl, rfl⟩; exact ⟨rfl, hq.alloc _⟩) | (go_at_call 62; refine (last_any hq.ew.mem).mono ?_; rintro e w' ⟨rfl, ho⟩; exact ⟨rfl, hq.only0 ho⟩) | (go_at_call 52; refine (of_any kE HKO.out _ _ HLA.out.1 HLA.out.2).mono ?_; rintro e w' ⟨rfl, ho⟩; exact ⟨rfl, hq.only0 ho⟩)))
                         (try simp only [Act.put, List.setIfInBounds_toArray, List.set_cons_zero, List.set_cons_succ])
                         go_big_quiet_on))
                    refine wpQuiet_nil ?_
                    intro wq hq
                    have HQ := Lib.hid hq
                    clear hq hOd hEc
                    clear hts HTS
                    cases b
                    · go_wp2
                      go_roundw
                      case rel => exact ⟨y + 1, s2, p2, by go_num, by omega, (HNX.out (by first | rfl | trivial)).2, (HNX.out (by first | rfl | trivial)).1, HQ.out⟩
                      case measure => simp [intOf]; omega
                    · have hfr : ∀ w', Blk w' tb p2.cs 148 → Calls Try.prog 90 #[.pointer (some ⟨tb, 0, none⟩)] w' fun e w2 => e = .returned (.bool true) ∧ w' = w2 := fun w' h => by
                        have := freed_any p2 tb h
                        rw [HDN.out (by first | rfl | trivial)] at this
                        exact this
                      go_wp2_with (first | (go_at_call 90; with_reducible refine (hfr _ HQ.out.ob).mono ?_; rintro e w' ⟨rfl, rfl⟩) | (go_at_call 90; with_reducible refine (freed_nil _).mono ?_; rintro e w' ⟨rfl, rfl⟩) | (go_at_call 91; with_reducible refine (went_nil _).mono ?_; rintro e w' ⟨rfl, rfl⟩))
                      go_ret
                      exact ⟨rfl, HQ.out.ew.only⟩
                  · skip
                    have hts := HTS.out
                    have hEc := hOd.ew.env.cell
                    go_wp2
                    refine qc_enter (fun w' => EO w w' m kE 0 w1.heap.size s2 tb p2.cs 148) (by kernel_rfl) (by kernel_rfl) ?_ ?_
                    focus (exact hOd)
                    repeat (first
                      | go_big_quiet_skip
                      | (go_big_quiet_want
                         apply Exists.intro
                         refine ⟨fun wq hq => ?_, ?_⟩
                         focus
                           (have hc2 := hq.ew.env.cell)
                           unfold Oper.quietAt
                           go_simp
                           (first
                             | done
                             | with_reducible exact rfl
                             | with_reducible exact ⟨rfl, rfl⟩
                             | (first | (go_at_call 61; refine (now_env kE 0 hq.ew.mem).mono ?_; rintro e w' ⟨rfl, rfl⟩; exact ⟨rfl, hq.alloc _⟩) | (go_at_call 62; refine (last_any hq.ew.mem).mono ?_; rintro e w' ⟨rfl, ho⟩; exact ⟨rfl, hq.only0 ho⟩) | (go_at_call 52; refine (of_any kE HKO.out _ _ HLA.out.1 HLA.out.2).mono ?_; rintro e w' ⟨rfl, ho⟩; exact ⟨rfl, hq.only0 ho⟩)))
                         (try simp only [Act.put, List.setIfInBounds_toArray, List.set_cons_zero, List.set_cons_succ])
                         go_big_quiet_on))
                    refine wpQuiet_nil ?_
                    intro wq hq
                    have HQ := Lib.hid hq
                    clear hq hOd hEc
                    clear hts HTS
                    cases b
                    · go_wp2
                      go_roundw
                      case rel => exact ⟨y + 1, s2, p2, by go_num, by omega, (HNX.out (by first | rfl | trivial)).2, (HNX.out (by first | rfl | trivial)).1, HQ.out⟩
                      case measure => simp [intOf]; omega
                    · have hfr : ∀ w', Blk w' tb p2.cs 148 → Calls Try.prog 90 #[.pointer (some ⟨tb, 0, none⟩)] w' fun e w2 => e = .returned (.bool true) ∧ w' = w2 := fun w' h => by
                        have := freed_any p2 tb h
                        rw [HDN.out (by first | rfl | trivial)] at this
                        exact this
                      go_wp2_with (first | (go_at_call 90; with_reducible refine (hfr _ HQ.out.ob).mono ?_; rintro e w' ⟨rfl, rfl⟩) | (go_at_call 90; with_reducible refine (freed_nil _).mono ?_; rintro e w' ⟨rfl, rfl⟩) | (go_at_call 91; with_reducible refine (went_nil _).mono ?_; rintro e w' ⟨rfl, rfl⟩))
                      go_ret
                      exact ⟨rfl, HQ.out.ew.only⟩
    · skip
      have hWd := hW.drew
      have hEd0 := hW.env
      have HL := Lib.hid hl
      have H14 := Lib.hid h14
      clear hl h14
      have hEc := hW.env.cell
      obtain ⟨ab, hab⟩ : ∃ ab, wr.heap.size = ab := ⟨_, rfl⟩
      have hz3 := hW.only.size
      have he3 := hW.env.lt
      obtain ⟨k1, k2, k3⟩ := hW.mem.lts
      have hA : EA w m w1.heap.size ab := ⟨hn1, hn2, hn3, by omega, hnx, by omega, by omega, by omega, by omega⟩
      have hO : EO w (wr.alloc (.cells #[.int .i64 0, .int .u64 0, .int .i64 0, .bool false] 116)) m kE 0 w1.heap.size s ab (⟨0, 0, 0, false⟩ : AdvS).cs 116 := EO.mk (hW.alloc (.cells (⟨0, 0, 0, false⟩ : AdvS).cs 116)) (hab ▸ Blk.new wr (⟨0, 0, 0, false⟩ : AdvS).cs 116)
      have n1 := hA.t1
      have n2 := hA.t2
      have n3 := hA.t3
      clear hW hEc k1 k2 k3 he3 hz3 hWd hEd0
      go_wp2
      go_loopw [9] (fun x wr => ∃ (q : Nat) (s : MS) (p : AdvS), x = .int .i64 q ∧ q ≤ 20 ∧ s.ws.length = 78 ∧ s.at 14 = 0 ∧ AI p ∧ EO w wr m kE 0 w1.heap.size s ab p.cs 116) (fun x _ => 20 - (intOf x).toNat)
      case atStart => exact ⟨0, s, ⟨0, 0, 0, false⟩, rfl, by omega, HL.out, H14.out, .inl ⟨rfl, rfl⟩, hO⟩
      case round =>
        clear hO
        obtain ⟨q, s, p, rfl, hq, hl, h14, hp, hO⟩ := hrel
        by_cases hq20 : q < 20
        · have hEc := hO.ew.env.cell
          have HO := Lib.hid hO
          have HL := Lib.hid hl
          have H14 := Lib.hid h14
          have HP := Lib.hid hp
          clear hO hl h14 hp
          go_wp2_with fail
          refine (now_env kE 0 HO.out.ew.mem).mono ?_
          rintro e wa ⟨rfl, rfl⟩
          have HOa := Lib.hid (HO.out.alloc (.cells #[.int .i64 kE.t, .int .i64 kE.s, .int .i64 kE.c, .int .i64 kE.w, .int .i64 kE.g, .int .i64 kE.p, .int .i64 kE.r, .pointer (some ⟨m.b, 0, none⟩), .int .i64 0] 47))
          clear hEc HO
          have hEc := HOa.out.ew.env.cell
          go_wp2_with fail
          refine (adv_touch kE 0 p ab rfl (by rw [HL.out]; decide) HOa.out.ew.mem HOa.out.ob HP.out n1 n2 n3).mono ?_
          rintro e wb ⟨b, s2, p2, rfl, h1, h2, h3, hai, hts, hch, hlen2, hat2⟩
          have HOb := Lib.hid (HOa.out.step hA h1 h2 h3)
          have HL2 := Lib.hid (hlen2.trans HL.out)
          have H142 := Lib.hid ((hat2 14 (by decide)).trans H14.out)
          have HAI := Lib.hid hai
          clear hEc h1 h2 h3 HOa hlen2 hat2 hai
          have hEc := HOb.out.ew.env.cell
          have hch2 : s2.ch = false ∨ (s2.ch = true ∧ s2.la = 0) := by
            cases hc : s2.ch
            · exact .inl rfl
            · exact .inr ⟨rfl, hch.elim (fun h => by rw [hc] at h; cases h) id⟩
          clear hch
          cases b
          · rcases hch2 with hcf | ⟨hcf, hlf⟩
            · skip
              go_wp2_with (first | (go_at_call 61; refine (now_env kE 0 HOb.out.ew.mem).mono ?_; rintro e w' ⟨rfl, rfl⟩; have hEc9 := (HOb.out.alloc (.cells #[.int .i64 kE.t, .int .i64 kE.s, .int .i64 kE.c, .int .i64 kE.w, .int .i64 kE.g, .int .i64 kE.p, .int .i64 kE.r, .pointer (some ⟨m.b, 0, none⟩), .int .i64 0] 47)).ew.env.cell) | (go_at_call 62; refine (last_any HOx.out.ew.mem).mono ?_; rintro e wy ⟨rfl, hoy⟩; have HOy := Lib.hid (HOx.out.only0 hoy)) | (go_at_call 62; refine (last_any (HOb.out.alloc (.cells #[.int .i64 kE.t, .int .i64 kE.s, .int .i64 kE.c, .int .i64 kE.w, .int .i64 kE.g, .int .i64 kE.p, .int .i64 kE.r, .pointer (some ⟨m.b, 0, none⟩), .int .i64 0] 47)).ew.mem).mono ?_; rintro e wx ⟨rfl, hox⟩; have HOx := Lib.hid ((HOb.out.alloc (.cells #[.int .i64 kE.t, .int .i64 kE.s, .int .i64 kE.c, .int .i64 kE.w, .int .i64 kE.g, .int .i64 kE.p, .int .i64 kE.r, .pointer (some ⟨m.b, 0, none⟩), .int .i64 0] 47)).only0 hox); have hEcx := HOx.out.ew.env.cell) | (go_at_call 45; refine (epoch_any _).mono ?_; rintro e w' ⟨rfl, rfl⟩))
              have HOc := Lib.hid (by first | exact HOy.out | exact HOx.out)
              go_roundw
              case rel => exact ⟨q + 1, s2, p2, by go_num, by omega, HL2.out, H142.out, HAI.out (by first | rfl | trivial), HOc.out⟩
              case measure => simp [intOf]; omega
            · skip
              go_wp2_with (first | (go_at_call 61; refine (now_env kE 0 HOb.out.ew.mem).mono ?_; rintro e w' ⟨rfl, rfl⟩; have hEc9 := (HOb.out.alloc (.cells #[.int .i64 kE.t, .int .i64 kE.s, .int .i64 kE.c, .int .i64 kE.w, .int .i64 kE.g, .int .i64 kE.p, .int .i64 kE.r, .pointer (some ⟨m.b, 0, none⟩), .int .i64 0] 47)).ew.env.cell) | (go_at_call 62; refine (last_any HOx.out.ew.mem).mono ?_; rintro e wy ⟨rfl, hoy⟩; have HOy := Lib.hid (HOx.out.only0 hoy)) | (go_at_call 62; refine (last_any (HOb.out.alloc (.cells #[.int .i64 kE.t, .int .i64 kE.s, .int .i64 kE.c, .int .i64 kE.w, .int .i64 kE.g, .int .i64 kE.p, .int .i64 kE.r, .pointer (some ⟨m.b, 0, none⟩), .int .i64 0] 47)).ew.mem).mono ?_; rintro e wx ⟨rfl, hox⟩; have HOx := Lib.hid ((HOb.out.alloc (.cells #[.int .i64 kE.t, .int .i64 kE.s, .int .i64 kE.c, .int .i64 kE.w, .int .i64 kE.g, .int .i64 kE.p, .int .i64 kE.r, .pointer (some ⟨m.b, 0, none⟩), .int .i64 0] 47)).only0 hox); have hEcx := HOx.out.ew.env.cell) | (go_at_call 45; refine (epoch_any _).mono ?_; rintro e w' ⟨rfl, rfl⟩))
              have HOc := Lib.hid (by first | exact HOy.out | exact HOx.out)
              go_roundw
              case rel => exact ⟨q + 1, s2, p2, by go_num, by omega, HL2.out, H142.out, HAI.out (by first | rfl | trivial), HOc.out⟩
              case measure => simp [intOf]; omega
          · rcases hch2 with hcf | ⟨hcf, hlf⟩
            · skip
              go_wp2_with (first | (go_at_call 61; refine (now_env kE 0 HOb.out.ew.mem).mono ?_; rintro e w' ⟨rfl, rfl⟩; have hEc9 := (HOb.out.alloc (.cells #[.int .i64 kE.t, .int .i64 kE.s, .int .i64 kE.c, .int .i64 kE.w, .int .i64 kE.g, .int .i64 kE.p, .int .i64 kE.r, .pointer (some ⟨m.b, 0, none⟩), .int .i64 0] 47)).ew.env.cell) | (go_at_call 62; refine (last_any HOx.out.ew.mem).mono ?_; rintro e wy ⟨rfl, hoy⟩; have HOy := Lib.hid (HOx.out.only0 hoy)) | (go_at_call 62; refine (last_any (HOb.out.alloc (.cells #[.int .i64 kE.t, .int .i64 kE.s, .int .i64 kE.c, .int .i64 kE.w, .int .i64 kE.g, .int .i64 kE.p, .int .i64 kE.r, .pointer (some ⟨m.b, 0, none⟩), .int .i64 0] 47)).ew.mem).mono ?_; rintro e wx ⟨rfl, hox⟩; have HOx := Lib.hid ((HOb.out.alloc (.cells #[.int .i64 kE.t, .int .i64 kE.s, .int .i64 kE.c, .int .i64 kE.w, .int .i64 kE.g, .int .i64 kE.p, .int .i64 kE.r, .pointer (some ⟨m.b, 0, none⟩), .int .i64 0] 47)).only0 hox); have hEcx := HOx.out.ew.env.cell) | (go_at_call 45; refine (epoch_any _).mono ?_; rintro e w' ⟨rfl, rfl⟩))
              have HOc := Lib.hid (by first | exact HOy.out | exact HOx.out)
              have hO := HOc.out
              have hl := HL2.out
              have h14 := H142.out
              clear hcf hts HOc HL2 H142 HAI HOb HL H14 HP
              have hM0 := hO.ew.mem
              have hE0 := hO.ew.env
              have hO0 := hO.ew.only
              have hEc := hE0.cell
              obtain ⟨W, hWq⟩ : ∃ W, putChunk 3 0 (1 + (a : Int)) 0 = W := ⟨_, rfl⟩
              obtain ⟨hW3, hWu, hWU, hSM⟩ := sm_start (s := s2) hl h14 ha hWq
              have HSM := Lib.hid hSM
              have HWU := Lib.hid hWU
              have HWu := Lib.hid hWu
              have HW3 := Lib.hid hW3
              clear hl h14 hO hSM hWU hWu hW3
              go_wp2
              first
                | go_region_held3 (fun w' => ∀ o, w'.cell? ⟨w1.heap.size, o, none⟩ = (#[.int .i64 kE.t, .int .i64 kE.s, .int .i64 kE.c, .int .i64 kE.w, .int .i64 kE.g, .int .i64 kE.p, .int .i64 kE.r, .pointer (some ⟨m.b, 0, none⟩), .int .i64 0] : Array Value)[o]?) ((refine Blk.cell (T := 47) ?_; repeat (first | with_reducible assumption | with_reducible apply Blk.drew | with_reducible apply Blk.alloc | (with_reducible refine Blk.only ?_ (by with_reducible assumption) (by first | exact List.not_mem_nil | with_reducible assumption)) | (with_reducible refine Blk.other ?_ _ _ (by simp only; omega)))))
                    (first
                      | (go_at_call 50; with_reducible refine (chunka_any _ kE _).mono ?_; rintro e w' ⟨rfl, rfl⟩)
                      | (go_at_call 87; with_reducible refine (putchunk_any _ _ _ _ _).mono ?_; rintro e w5 ⟨rfl, ho5⟩)
                      | (go_at_call 59; with_reducible refine (store_any (m := m) (s := s2) (by repeat (first | with_reducible assumption | with_reducible apply MemR.drew | with_reducible apply MemR.alloc | (with_reducible refine MemR.only ?_ (by with_reducible assumption) List.not_mem_nil List.not_mem_nil List.not_mem_nil) | (with_reducible refine MemR.other ?_ _ _ (by simp only; omega) (by simp only; omega) (by simp only; omega)))) (putChunk_rng _ _ _ _)).mono ?_; rintro e w6 ⟨rfl, hM6, ho6⟩; have hE6 : Blk w6 w1.heap.size #[.int .i64 kE.t, .int .i64 kE.s, .int .i64 kE.c, .int .i64 kE.w, .int .i64 kE.g, .int .i64 kE.p, .int .i64 kE.r, .pointer (some ⟨m.b, 0, none⟩), .int .i64 0] 47 := (by refine Blk.only ?_ ho6 hnx; (repeat (first | with_reducible assumption | with_reducible apply Blk.drew | with_reducible apply Blk.alloc | (with_reducible refine Blk.only ?_ (by with_reducible assumption) (by first | exact List.not_mem_nil | with_reducible assumption)) | (with_reducible refine Blk.other ?_ _ _ (by simp only; omega))))); have hO6 : Only [] w w6 := (by refine Only.trans' (Only.trans' ?_ ho5 (fun _ h _ => h)) ho6 hlm; repeat (first | with_reducible exact hO0 | with_reducible apply Only.drew | with_reducible apply Only.alloc))))
                | fail "region 17"
              all_goals
                have hwr : IntKind.i64.wrap (1 + (a : Int)) = 1 + (a : Int) := wrap_small ha
                rw [hwr, hWq] at hM6
                clear hus hWq hwr
                have hW6 : EW w w6 m kE 0 w1.heap.size _ := ⟨hM6, hE6, hO6⟩
                have hW6d := hW6.drew
                have hE6d := hW6d.env.cell
                have hE6c := hW6.env.cell
                have hz9 : U64 9 := ⟨by decide, by decide⟩
                clear hM0 hE0 hO0 hEc hM6 hE6 hO6 ho6
                go_wp2
                first
                  | go_region_held3 (fun w' => ∀ o, w'.cell? ⟨w1.heap.size, o, none⟩ = (#[.int .i64 kE.t, .int .i64 kE.s, .int .i64 kE.c, .int .i64 kE.w, .int .i64 kE.g, .int .i64 kE.p, .int .i64 kE.r, .pointer (some ⟨m.b, 0, none⟩), .int .i64 0] : Array Value)[o]?) (first | exact hE6d | exact hE7c)
                      (first
                        | (go_at_call 45; refine (epoch_any _).mono ?_; rintro e w' ⟨rfl, rfl⟩)
                        | (go_at_call 59; with_reducible refine (store_any hW6d.mem hz9).mono ?_; rintro e w7 ⟨rfl, hm7, ho7⟩; have hW7 := hW6d.step hnx hlm hm7 ho7; have hE7c := hW7.env.cell))
                  | fail "region 18"
                all_goals
                  obtain ⟨tb, htb⟩ : ∃ tb, w7.heap.size = tb := ⟨_, rfl⟩
                  have hz7 := hW7.only.size
                  have he7 := hW7.env.lt
                  obtain ⟨x1, x2, x3⟩ := hW7.mem.lts
                  have hA2 : EA w m w1.heap.size tb := ⟨hn1, hn2, hn3, by omega, hnx, by omega, by omega, by omega, by omega⟩
                  have hO7 : EO w (w7.alloc (.cells (⟨0, 0, 0, 0, 0, false⟩ : SetS).cs 148)) m kE 0 w1.heap.size _ tb (⟨0, 0, 0, 0, 0, false⟩ : SetS).cs 148 := EO.mk (hW7.alloc (.cells (⟨0, 0, 0, 0, 0, false⟩ : SetS).cs 148)) (htb ▸ Blk.new w7 (⟨0, 0, 0, 0, 0, false⟩ : SetS).cs 148)
                  have o1 := hA2.t1
                  have o2 := hA2.t2
                  have o3 := hA2.t3
                  clear hW6 hW6d hE6d hE6c hW7 hE7c hm7 ho7 x1 x2 x3 he7 hz7
                  go_wp2_with (first | (go_at_call 88; refine (setnew_any _ _).mono ?_; rintro e w' ⟨rfl, rfl⟩))
                  go_loopw [13] (fun x wr => ∃ (y : Nat) (s : MS) (p : SetS), x = .int .i64 y ∧ y ≤ 60 ∧ SM W s ∧ SI W (1 + a) y p ∧ EO w wr m kE 0 w1.heap.size s tb p.cs 148) (fun x _ => 60 - (intOf x).toNat)
                  case atStart => exact ⟨0, _, ⟨0, 0, 0, 0, 0, false⟩, rfl, by omega, HSM.out, ⟨rfl, rfl, ⟨(by decide : (0 : Int) ≤ 0), (by decide : (0 : Int) < 18446744073709551616)⟩, .inl ⟨rfl, rfl, rfl⟩⟩, hO7⟩
                  case round =>
                    clear hO7
                    obtain ⟨y, s, p, rfl, hy, hSM, hSI, hO⟩ := hrel
                    have hy60 : y < 60 := si_lt (by omega) hSI
                    have hpk : ∀ w', MemR w' m s → Calls Try.prog 44 #[.pointer (some ⟨m.b, 0, none⟩), .int .i64 (aChunk kE 0)] w' fun e w2 => e = .returned (.int .u64 W) ∧ w' = w2 := fun w' h => by
                      have := peek_any (a := aChunk kE 0) h
                      rw [sm_get hSM] at this
                      exact this
                    have hOd := hO.drew
                    have HSM := Lib.hid hSM
                    have HSI := Lib.hid hSI
                    have hw3 := HW3.out
                    clear hSM hSI hO
                    go_wp2
                    refine qc_enter (fun w' => EO w w' m kE 0 w1.heap.size s tb p.cs 148) (by kernel_rfl) (by kernel_rfl) ?_ ?_
                    focus (exact hOd)
                    repeat (first
                      | go_big_quiet_skip
                      | (go_big_quiet_want
                         apply Exists.intro
                         refine ⟨fun wq hq => ?_, ?_⟩
                         focus
                           (have hc2 := hq.ew.env.cell)
                           unfold Oper.quietAt
                           go_simp
                           (first
                             | done
                             | with_reducible exact rfl
                             | with_reducible exact ⟨rfl, rfl⟩
                             | (first | (go_at_call 61; refine (now_env kE 0 hq.ew.mem).mono ?_; rintro e w' ⟨rfl, rfl⟩; exact ⟨rfl, hq.alloc _⟩) | (go_at_call 50; with_reducible refine (chunka_any _ kE _).mono ?_; rintro e w' ⟨rfl, rfl⟩; exact ⟨rfl, hq.alloc _⟩) | (go_at_call 44; with_reducible refine (hpk _ hq.ew.mem).mono ?_; rintro e w' ⟨rfl, rfl⟩; exact ⟨rfl, hq⟩) | (go_at_call 83; refine (chunk_word W _ HWU.out).mono ?_; rintro e w' ⟨rfl, ho⟩; exact ⟨rfl, hq.only0 ho⟩)))
                         (try simp only [Act.put, List.setIfInBounds_toArray, List.set_cons_zero, List.set_cons_succ])
                         go_big_quiet_on))
                    refine wpQuiet_nil ?_
                    intro wq hq
                    have HQ := Lib.hid hq
                    clear hq hOd hpk
                    have hEc := HQ.out.ew.env.cell
                    go_wp2_with fail
                    refine (set_touch 0 W (1 + a) y (by omega) (by omega) HW3.out (by rw [HWu.out]; omega) HWU.out p tb HSM.out HQ.out.ew.mem HQ.out.ob HSI.out o1 o2 o3).mono ?_
                    rintro e wb ⟨b, s2, p2, rfl, h1, h2, h3, hnext, hdone, hts, hla0, hla1⟩
                    have HTS := Lib.hid hts
                    clear hts hw3
                    have hOb := HQ.out.step hA2 h1 h2 h3
                    have HNX := Lib.hid hnext
                    have HDN := Lib.hid hdone
                    have HLA := Lib.hid (show -9223372036854775808 ≤ s2.la ∧ s2.la < 9223372036854775808 from ⟨by omega, by omega⟩)
                    have hOd := hOb.drew
                    clear hEc h1 h2 h3 hnext hdone hla0 hla1 HQ hOb
                    have hkof := kE_ok
                    have HKO := Lib.hid hkof
                    clear hkof
                    cases hof : (aOf kE s2.la == 0)
                    · skip
                      have hts := HTS.out
                      have hEc := hOd.ew.env.cell
                      go_wp2
                      refine qc_enter (fun w' => EO w w' m kE 0 w1.heap.size s2 tb p2.cs 148) (by kernel_rfl) (by kernel_rfl) ?_ ?_
                      focus (exact hOd)
                      repeat (first
                        | go_big_quiet_skip
                        | (go_big_quiet_want
                           apply Exists.intro
                           refine ⟨fun wq hq => ?_, ?_⟩
                           focus
                             (have hc2 := hq.ew.env.cell)
                             unfold Oper.quietAt
                             go_simp
                             (first
                               | done
                               | with_reducible exact rfl
                               | with_reducible exact ⟨rfl, rfl⟩
                               | (first | (go_at_call 61; refine (now_env kE 0 hq.ew.mem).mono ?_; rintro e w' ⟨rfl, rfl⟩; exact ⟨rfl, hq.alloc _⟩) | (go_at_call 62; refine (last_any hq.ew.mem).mono ?_; rintro e w' ⟨rfl, ho⟩; exact ⟨rfl, hq.only0 ho⟩) | (go_at_call 52; refine (of_any kE HKO.out _ _ HLA.out.1 HLA.out.2).mono ?_; rintro e w' ⟨rfl, ho⟩; exact ⟨rfl, hq.only0 ho⟩)))
                           (try simp only [Act.put, List.setIfInBounds_toArray, List.set_cons_zero, List.set_cons_succ])
                           go_big_quiet_on))
                      refine wpQuiet_nil ?_
                      intro wq hq
                      have HQ := Lib.hid hq
                      clear hq hOd hEc
                      clear hts HTS
                      cases b
                      · go_wp2
                        go_roundw
                        case rel => exact ⟨y + 1, s2, p2, by go_num, by omega, (HNX.out (by first | rfl | trivial)).2, (HNX.out (by first | rfl | trivial)).1, HQ.out⟩
                        case measure => simp [intOf]; omega
                      · have hfr : ∀ w', Blk w' tb p2.cs 148 → Calls Try.prog 90 #[.pointer (some ⟨tb, 0, none⟩)] w' fun e w2 => e = .returned (.bool true) ∧ w' = w2 := fun w' h => by
                          have := freed_any p2 tb h
                          rw [HDN.out (by first | rfl | trivial)] at this
                          exact this
                        go_wp2_with (first | (go_at_call 90; with_reducible refine (hfr _ HQ.out.ob).mono ?_; rintro e w' ⟨rfl, rfl⟩) | (go_at_call 90; with_reducible refine (freed_nil _).mono ?_; rintro e w' ⟨rfl, rfl⟩) | (go_at_call 91; with_reducible refine (went_nil _).mono ?_; rintro e w' ⟨rfl, rfl⟩))
                        go_ret
                        exact ⟨rfl, HQ.out.ew.only⟩
                    · skip
                      have hts := HTS.out
                      have hEc := hOd.ew.env.cell
                      go_wp2
                      refine qc_enter (fun w' => EO w w' m kE 0 w1.heap.size s2 tb p2.cs 148) (by kernel_rfl) (by kernel_rfl) ?_ ?_
                      focus (exact hOd)
                      repeat (first
                        | go_big_quiet_skip
                        | (go_big_quiet_want
                           apply Exists.intro
                           refine ⟨fun wq hq => ?_, ?_⟩
                           focus
                             (have hc2 := hq.ew.env.cell)
                             unfold Oper.quietAt
                             go_simp
                             (first
                               | done
                               | with_reducible exact rfl
                               | with_reducible exact ⟨rfl, rfl⟩
                               | (first | (go_at_call 61; refine (now_env kE 0 hq.ew.mem).mono ?_; rintro e w' ⟨rfl, rfl⟩; exact ⟨rfl, hq.alloc _⟩) | (go_at_call 62; refine (last_any hq.ew.mem).mono ?_; rintro e w' ⟨rfl, ho⟩; exact ⟨rfl, hq.only0 ho⟩) | (go_at_call 52; refine (of_any kE HKO.out _ _ HLA.out.1 HLA.out.2).mono ?_; rintro e w' ⟨rfl, ho⟩; exact ⟨rfl, hq.only0 ho⟩)))
                           (try simp only [Act.put, List.setIfInBounds_toArray, List.set_cons_zero, List.set_cons_succ])
                           go_big_quiet_on))
                      refine wpQuiet_nil ?_
                      intro wq hq
                      have HQ := Lib.hid hq
                      clear hq hOd hEc
                      clear hts HTS
                      cases b
                      · go_wp2
                        go_roundw
                        case rel => exact ⟨y + 1, s2, p2, by go_num, by omega, (HNX.out (by first | rfl | trivial)).2, (HNX.out (by first | rfl | trivial)).1, HQ.out⟩
                        case measure => simp [intOf]; omega
                      · have hfr : ∀ w', Blk w' tb p2.cs 148 → Calls Try.prog 90 #[.pointer (some ⟨tb, 0, none⟩)] w' fun e w2 => e = .returned (.bool true) ∧ w' = w2 := fun w' h => by
                          have := freed_any p2 tb h
                          rw [HDN.out (by first | rfl | trivial)] at this
                          exact this
                        go_wp2_with (first | (go_at_call 90; with_reducible refine (hfr _ HQ.out.ob).mono ?_; rintro e w' ⟨rfl, rfl⟩) | (go_at_call 90; with_reducible refine (freed_nil _).mono ?_; rintro e w' ⟨rfl, rfl⟩) | (go_at_call 91; with_reducible refine (went_nil _).mono ?_; rintro e w' ⟨rfl, rfl⟩))
                        go_ret
                        exact ⟨rfl, HQ.out.ew.only⟩
            · skip
              go_wp2_with (first | (go_at_call 61; refine (now_env kE 0 HOb.out.ew.mem).mono ?_; rintro e w' ⟨rfl, rfl⟩; have hEc9 := (HOb.out.alloc (.cells #[.int .i64 kE.t, .int .i64 kE.s, .int .i64 kE.c, .int .i64 kE.w, .int .i64 kE.g, .int .i64 kE.p, .int .i64 kE.r, .pointer (some ⟨m.b, 0, none⟩), .int .i64 0] 47)).ew.env.cell) | (go_at_call 62; refine (last_any HOx.out.ew.mem).mono ?_; rintro e wy ⟨rfl, hoy⟩; have HOy := Lib.hid (HOx.out.only0 hoy)) | (go_at_call 62; refine (last_any (HOb.out.alloc (.cells #[.int .i64 kE.t, .int .i64 kE.s, .int .i64 kE.c, .int .i64 kE.w, .int .i64 kE.g, .int .i64 kE.p, .int .i64 kE.r, .pointer (some ⟨m.b, 0, none⟩), .int .i64 0] 47)).ew.mem).mono ?_; rintro e wx ⟨rfl, hox⟩; have HOx := Lib.hid ((HOb.out.alloc (.cells #[.int .i64 kE.t, .int .i64 kE.s, .int .i64 kE.c, .int .i64 kE.w, .int .i64 kE.g, .int .i64 kE.p, .int .i64 kE.r, .pointer (some ⟨m.b, 0, none⟩), .int .i64 0] 47)).only0 hox); have hEcx := HOx.out.ew.env.cell) | (go_at_call 45; refine (epoch_any _).mono ?_; rintro e w' ⟨rfl, rfl⟩))
              have HOc := Lib.hid (by first | exact HOy.out | exact HOx.out)
              have hO := HOc.out
              have hl := HL2.out
              have h14 := H142.out
              clear hcf hlf hts HOc HL2 H142 HAI HOb HL H14 HP
              have hM0 := hO.ew.mem
              have hE0 := hO.ew.env
              have hO0 := hO.ew.only
              have hEc := hE0.cell
              obtain ⟨W, hWq⟩ : ∃ W, putChunk 3 0 (1 + (a : Int)) 0 = W := ⟨_, rfl⟩
              obtain ⟨hW3, hWu, hWU, hSM⟩ := sm_start (s := s2) hl h14 ha hWq
              have HSM := Lib.hid hSM
              have HWU := Lib.hid hWU
              have HWu := Lib.hid hWu
              have HW3 := Lib.hid hW3
              clear hl h14 hO hSM hWU hWu hW3
              go_wp2
              first
                | go_region_held3 (fun w' => ∀ o, w'.cell? ⟨w1.heap.size, o, none⟩ = (#[.int .i64 kE.t, .int .i64 kE.s, .int .i64 kE.c, .int .i64 kE.w, .int .i64 kE.g, .int .i64 kE.p, .int .i64 kE.r, .pointer (some ⟨m.b, 0, none⟩), .int .i64 0] : Array Value)[o]?) ((refine Blk.cell (T := 47) ?_; repeat (first | with_reducible assumption | with_reducible apply Blk.drew | with_reducible apply Blk.alloc | (with_reducible refine Blk.only ?_ (by with_reducible assumption) (by first | exact List.not_mem_nil | with_reducible assumption)) | (with_reducible refine Blk.other ?_ _ _ (by simp only; omega)))))
                    (first
                      | (go_at_call 50; with_reducible refine (chunka_any _ kE _).mono ?_; rintro e w' ⟨rfl, rfl⟩)
                      | (go_at_call 87; with_reducible refine (putchunk_any _ _ _ _ _).mono ?_; rintro e w5 ⟨rfl, ho5⟩)
                      | (go_at_call 59; with_reducible refine (store_any (m := m) (s := s2) (by repeat (first | with_reducible assumption | with_reducible apply MemR.drew | with_reducible apply MemR.alloc | (with_reducible refine MemR.only ?_ (by with_reducible assumption) List.not_mem_nil List.not_mem_nil List.not_mem_nil) | (with_reducible refine MemR.other ?_ _ _ (by simp only; omega) (by simp only; omega) (by simp only; omega)))) (putChunk_rng _ _ _ _)).mono ?_; rintro e w6 ⟨rfl, hM6, ho6⟩; have hE6 : Blk w6 w1.heap.size #[.int .i64 kE.t, .int .i64 kE.s, .int .i64 kE.c, .int .i64 kE.w, .int .i64 kE.g, .int .i64 kE.p, .int .i64 kE.r, .pointer (some ⟨m.b, 0, none⟩), .int .i64 0] 47 := (by refine Blk.only ?_ ho6 hnx; (repeat (first | with_reducible assumption | with_reducible apply Blk.drew | with_reducible apply Blk.alloc | (with_reducible refine Blk.only ?_ (by with_reducible assumption) (by first | exact List.not_mem_nil | with_reducible assumption)) | (with_reducible refine Blk.other ?_ _ _ (by simp only; omega))))); have hO6 : Only [] w w6 := (by refine Only.trans' (Only.trans' ?_ ho5 (fun _ h _ => h)) ho6 hlm; repeat (first | with_reducible exact hO0 | with_reducible apply Only.drew | with_reducible apply Only.alloc))))
                | fail "region 17"
              all_goals
                have hwr : IntKind.i64.wrap (1 + (a : Int)) = 1 + (a : Int) := wrap_small ha
                rw [hwr, hWq] at hM6
                clear hus hWq hwr
                have hW6 : EW w w6 m kE 0 w1.heap.size _ := ⟨hM6, hE6, hO6⟩
                have hW6d := hW6.drew
                have hE6d := hW6d.env.cell
                have hE6c := hW6.env.cell
                have hz9 : U64 9 := ⟨by decide, by decide⟩
                clear hM0 hE0 hO0 hEc hM6 hE6 hO6 ho6
                go_wp2
                first
                  | go_region_held3 (fun w' => ∀ o, w'.cell? ⟨w1.heap.size, o, none⟩ = (#[.int .i64 kE.t, .int .i64 kE.s, .int .i64 kE.c, .int .i64 kE.w, .int .i64 kE.g, .int .i64 kE.p, .int .i64 kE.r, .pointer (some ⟨m.b, 0, none⟩), .int .i64 0] : Array Value)[o]?) (first | exact hE6d | exact hE7c)
                      (first
                        | (go_at_call 45; refine (epoch_any _).mono ?_; rintro e w' ⟨rfl, rfl⟩)
                        | (go_at_call 59; with_reducible refine (store_any hW6d.mem hz9).mono ?_; rintro e w7 ⟨rfl, hm7, ho7⟩; have hW7 := hW6d.step hnx hlm hm7 ho7; have hE7c := hW7.env.cell))
                  | fail "region 18"
                all_goals
                  obtain ⟨tb, htb⟩ : ∃ tb, w7.heap.size = tb := ⟨_, rfl⟩
                  have hz7 := hW7.only.size
                  have he7 := hW7.env.lt
                  obtain ⟨x1, x2, x3⟩ := hW7.mem.lts
                  have hA2 : EA w m w1.heap.size tb := ⟨hn1, hn2, hn3, by omega, hnx, by omega, by omega, by omega, by omega⟩
                  have hO7 : EO w (w7.alloc (.cells (⟨0, 0, 0, 0, 0, false⟩ : SetS).cs 148)) m kE 0 w1.heap.size _ tb (⟨0, 0, 0, 0, 0, false⟩ : SetS).cs 148 := EO.mk (hW7.alloc (.cells (⟨0, 0, 0, 0, 0, false⟩ : SetS).cs 148)) (htb ▸ Blk.new w7 (⟨0, 0, 0, 0, 0, false⟩ : SetS).cs 148)
                  have o1 := hA2.t1
                  have o2 := hA2.t2
                  have o3 := hA2.t3
                  clear hW6 hW6d hE6d hE6c hW7 hE7c hm7 ho7 x1 x2 x3 he7 hz7
                  go_wp2_with (first | (go_at_call 88; refine (setnew_any _ _).mono ?_; rintro e w' ⟨rfl, rfl⟩))
                  go_loopw [13] (fun x wr => ∃ (y : Nat) (s : MS) (p : SetS), x = .int .i64 y ∧ y ≤ 60 ∧ SM W s ∧ SI W (1 + a) y p ∧ EO w wr m kE 0 w1.heap.size s tb p.cs 148) (fun x _ => 60 - (intOf x).toNat)
                  case atStart => exact ⟨0, _, ⟨0, 0, 0, 0, 0, false⟩, rfl, by omega, HSM.out, ⟨rfl, rfl, ⟨(by decide : (0 : Int) ≤ 0), (by decide : (0 : Int) < 18446744073709551616)⟩, .inl ⟨rfl, rfl, rfl⟩⟩, hO7⟩
                  case round =>
                    clear hO7
                    obtain ⟨y, s, p, rfl, hy, hSM, hSI, hO⟩ := hrel
                    have hy60 : y < 60 := si_lt (by omega) hSI
                    have hpk : ∀ w', MemR w' m s → Calls Try.prog 44 #[.pointer (some ⟨m.b, 0, none⟩), .int .i64 (aChunk kE 0)] w' fun e w2 => e = .returned (.int .u64 W) ∧ w' = w2 := fun w' h => by
                      have := peek_any (a := aChunk kE 0) h
                      rw [sm_get hSM] at this
                      exact this
                    have hOd := hO.drew
                    have HSM := Lib.hid hSM
                    have HSI := Lib.hid hSI
                    have hw3 := HW3.out
                    clear hSM hSI hO
                    go_wp2
                    refine qc_enter (fun w' => EO w w' m kE 0 w1.heap.size s tb p.cs 148) (by kernel_rfl) (by kernel_rfl) ?_ ?_
                    focus (exact hOd)
                    repeat (first
                      | go_big_quiet_skip
                      | (go_big_quiet_want
                         apply Exists.intro
                         refine ⟨fun wq hq => ?_, ?_⟩
                         focus
                           (have hc2 := hq.ew.env.cell)
                           unfold Oper.quietAt
                           go_simp
                           (first
                             | done
                             | with_reducible exact rfl
                             | with_reducible exact ⟨rfl, rfl⟩
                             | (first | (go_at_call 61; refine (now_env kE 0 hq.ew.mem).mono ?_; rintro e w' ⟨rfl, rfl⟩; exact ⟨rfl, hq.alloc _⟩) | (go_at_call 50; with_reducible refine (chunka_any _ kE _).mono ?_; rintro e w' ⟨rfl, rfl⟩; exact ⟨rfl, hq.alloc _⟩) | (go_at_call 44; with_reducible refine (hpk _ hq.ew.mem).mono ?_; rintro e w' ⟨rfl, rfl⟩; exact ⟨rfl, hq⟩) | (go_at_call 83; refine (chunk_word W _ HWU.out).mono ?_; rintro e w' ⟨rfl, ho⟩; exact ⟨rfl, hq.only0 ho⟩)))
                         (try simp only [Act.put, List.setIfInBounds_toArray, List.set_cons_zero, List.set_cons_succ])
                         go_big_quiet_on))
                    refine wpQuiet_nil ?_
                    intro wq hq
                    have HQ := Lib.hid hq
                    clear hq hOd hpk
                    have hEc := HQ.out.ew.env.cell
                    go_wp2_with fail
                    refine (set_touch 0 W (1 + a) y (by omega) (by omega) HW3.out (by rw [HWu.out]; omega) HWU.out p tb HSM.out HQ.out.ew.mem HQ.out.ob HSI.out o1 o2 o3).mono ?_
                    rintro e wb ⟨b, s2, p2, rfl, h1, h2, h3, hnext, hdone, hts, hla0, hla1⟩
                    have HTS := Lib.hid hts
                    clear hts hw3
                    have hOb := HQ.out.step hA2 h1 h2 h3
                    have HNX := Lib.hid hnext
                    have HDN := Lib.hid hdone
                    have HLA := Lib.hid (show -9223372036854775808 ≤ s2.la ∧ s2.la < 9223372036854775808 from ⟨by omega, by omega⟩)
                    have hOd := hOb.drew
                    clear hEc h1 h2 h3 hnext hdone hla0 hla1 HQ hOb
                    have hkof := kE_ok
                    have HKO := Lib.hid hkof
                    clear hkof
                    cases hof : (aOf kE s2.la == 0)
                    · skip
                      have hts := HTS.out
                      have hEc := hOd.ew.env.cell
                      go_wp2
                      refine qc_enter (fun w' => EO w w' m kE 0 w1.heap.size s2 tb p2.cs 148) (by kernel_rfl) (by kernel_rfl) ?_ ?_
                      focus (exact hOd)
                      repeat (first
                        | go_big_quiet_skip
                        | (go_big_quiet_want
                           apply Exists.intro
                           refine ⟨fun wq hq => ?_, ?_⟩
                           focus
                             (have hc2 := hq.ew.env.cell)
                             unfold Oper.quietAt
                             go_simp
                             (first
                               | done
                               | with_reducible exact rfl
                               | with_reducible exact ⟨rfl, rfl⟩
                               | (first | (go_at_call 61; refine (now_env kE 0 hq.ew.mem).mono ?_; rintro e w' ⟨rfl, rfl⟩; exact ⟨rfl, hq.alloc _⟩) | (go_at_call 62; refine (last_any hq.ew.mem).mono ?_; rintro e w' ⟨rfl, ho⟩; exact ⟨rfl, hq.only0 ho⟩) | (go_at_call 52; refine (of_any kE HKO.out _ _ HLA.out.1 HLA.out.2).mono ?_; rintro e w' ⟨rfl, ho⟩; exact ⟨rfl, hq.only0 ho⟩)))
                           (try simp only [Act.put, List.setIfInBounds_toArray, List.set_cons_zero, List.set_cons_succ])
                           go_big_quiet_on))
                      refine wpQuiet_nil ?_
                      intro wq hq
                      have HQ := Lib.hid hq
                      clear hq hOd hEc
                      clear hts HTS
                      cases b
                      · go_wp2
                        go_roundw
                        case rel => exact ⟨y + 1, s2, p2, by go_num, by omega, (HNX.out (by first | rfl | trivial)).2, (HNX.out (by first | rfl | trivial)).1, HQ.out⟩
                        case measure => simp [intOf]; omega
                      · have hfr : ∀ w', Blk w' tb p2.cs 148 → Calls Try.prog 90 #[.pointer (some ⟨tb, 0, none⟩)] w' fun e w2 => e = .returned (.bool true) ∧ w' = w2 := fun w' h => by
                          have := freed_any p2 tb h
                          rw [HDN.out (by first | rfl | trivial)] at this
                          exact this
                        go_wp2_with (first | (go_at_call 90; with_reducible refine (hfr _ HQ.out.ob).mono ?_; rintro e w' ⟨rfl, rfl⟩) | (go_at_call 90; with_reducible refine (freed_nil _).mono ?_; rintro e w' ⟨rfl, rfl⟩) | (go_at_call 91; with_reducible refine (went_nil _).mono ?_; rintro e w' ⟨rfl, rfl⟩))
                        go_ret
                        exact ⟨rfl, HQ.out.ew.only⟩
                    · skip
                      have hts := HTS.out
                      have hEc := hOd.ew.env.cell
                      go_wp2
                      refine qc_enter (fun w' => EO w w' m kE 0 w1.heap.size s2 tb p2.cs 148) (by kernel_rfl) (by kernel_rfl) ?_ ?_
                      focus (exact hOd)
                      repeat (first
                        | go_big_quiet_skip
                        | (go_big_quiet_want
                           apply Exists.intro
                           refine ⟨fun wq hq => ?_, ?_⟩
                           focus
                             (have hc2 := hq.ew.env.cell)
                             unfold Oper.quietAt
                             go_simp
                             (first
                               | done
                               | with_reducible exact rfl
                               | with_reducible exact ⟨rfl, rfl⟩
                               | (first | (go_at_call 61; refine (now_env kE 0 hq.ew.mem).mono ?_; rintro e w' ⟨rfl, rfl⟩; exact ⟨rfl, hq.alloc _⟩) | (go_at_call 62; refine (last_any hq.ew.mem).mono ?_; rintro e w' ⟨rfl, ho⟩; exact ⟨rfl, hq.only0 ho⟩) | (go_at_call 52; refine (of_any kE HKO.out _ _ HLA.out.1 HLA.out.2).mono ?_; rintro e w' ⟨rfl, ho⟩; exact ⟨rfl, hq.only0 ho⟩)))
                           (try simp only [Act.put, List.setIfInBounds_toArray, List.set_cons_zero, List.set_cons_succ])
                           go_big_quiet_on))
                      refine wpQuiet_nil ?_
                      intro wq hq
                      have HQ := Lib.hid hq
                      clear hq hOd hEc
                      clear hts HTS
                      cases b
                      · go_wp2
                        go_roundw
                        case rel => exact ⟨y + 1, s2, p2, by go_num, by omega, (HNX.out (by first | rfl | trivial)).2, (HNX.out (by first | rfl | trivial)).1, HQ.out⟩
                        case measure => simp [intOf]; omega
                      · have hfr : ∀ w', Blk w' tb p2.cs 148 → Calls Try.prog 90 #[.pointer (some ⟨tb, 0, none⟩)] w' fun e w2 => e = .returned (.bool true) ∧ w' = w2 := fun w' h => by
                          have := freed_any p2 tb h
                          rw [HDN.out (by first | rfl | trivial)] at this
                          exact this
                        go_wp2_with (first | (go_at_call 90; with_reducible refine (hfr _ HQ.out.ob).mono ?_; rintro e w' ⟨rfl, rfl⟩) | (go_at_call 90; with_reducible refine (freed_nil _).mono ?_; rintro e w' ⟨rfl, rfl⟩) | (go_at_call 91; with_reducible refine (went_nil _).mono ?_; rintro e w' ⟨rfl, rfl⟩))
                        go_ret
                        exact ⟨rfl, HQ.out.ew.only⟩
        · skip
          clear hp
          have hM0 := hO.ew.mem
          have hE0 := hO.ew.env
          have hO0 := hO.ew.only
          have hEc := hE0.cell
          obtain ⟨W, hWq⟩ : ∃ W, putChunk 3 0 (1 + (a : Int)) 0 = W := ⟨_, rfl⟩
          obtain ⟨hW3, hWu, hWU, hSM⟩ := sm_start (s := s) hl h14 ha hWq
          have HSM := Lib.hid hSM
          have HWU := Lib.hid hWU
          have HWu := Lib.hid hWu
          have HW3 := Lib.hid hW3
          clear hl h14 hO hSM hWU hWu hW3
          go_wp2
          first
            | go_region_held3 (fun w' => ∀ o, w'.cell? ⟨w1.heap.size, o, none⟩ = (#[.int .i64 kE.t, .int .i64 kE.s, .int .i64 kE.c, .int .i64 kE.w, .int .i64 kE.g, .int .i64 kE.p, .int .i64 kE.r, .pointer (some ⟨m.b, 0, none⟩), .int .i64 0] : Array Value)[o]?) ((refine Blk.cell (T := 47) ?_; repeat (first | with_reducible assumption | with_reducible apply Blk.drew | with_reducible apply Blk.alloc | (with_reducible refine Blk.only ?_ (by with_reducible assumption) (by first | exact List.not_mem_nil | with_reducible assumption)) | (with_reducible refine Blk.other ?_ _ _ (by simp only; omega)))))
                (first
                  | (go_at_call 50; with_reducible refine (chunka_any _ kE _).mono ?_; rintro e w' ⟨rfl, rfl⟩)
                  | (go_at_call 87; with_reducible refine (putchunk_any _ _ _ _ _).mono ?_; rintro e w5 ⟨rfl, ho5⟩)
                  | (go_at_call 59; with_reducible refine (store_any (m := m) (s := s) (by repeat (first | with_reducible assumption | with_reducible apply MemR.drew | with_reducible apply MemR.alloc | (with_reducible refine MemR.only ?_ (by with_reducible assumption) List.not_mem_nil List.not_mem_nil List.not_mem_nil) | (with_reducible refine MemR.other ?_ _ _ (by simp only; omega) (by simp only; omega) (by simp only; omega)))) (putChunk_rng _ _ _ _)).mono ?_; rintro e w6 ⟨rfl, hM6, ho6⟩; have hE6 : Blk w6 w1.heap.size #[.int .i64 kE.t, .int .i64 kE.s, .int .i64 kE.c, .int .i64 kE.w, .int .i64 kE.g, .int .i64 kE.p, .int .i64 kE.r, .pointer (some ⟨m.b, 0, none⟩), .int .i64 0] 47 := (by refine Blk.only ?_ ho6 hnx; (repeat (first | with_reducible assumption | with_reducible apply Blk.drew | with_reducible apply Blk.alloc | (with_reducible refine Blk.only ?_ (by with_reducible assumption) (by first | exact List.not_mem_nil | with_reducible assumption)) | (with_reducible refine Blk.other ?_ _ _ (by simp only; omega))))); have hO6 : Only [] w w6 := (by refine Only.trans' (Only.trans' ?_ ho5 (fun _ h _ => h)) ho6 hlm; repeat (first | with_reducible exact hO0 | with_reducible apply Only.drew | with_reducible apply Only.alloc))))
            | fail "region 17"
          all_goals
            have hwr : IntKind.i64.wrap (1 + (a : Int)) = 1 + (a : Int) := wrap_small ha
            rw [hwr, hWq] at hM6
            clear hus hWq hwr
            have hW6 : EW w w6 m kE 0 w1.heap.size _ := ⟨hM6, hE6, hO6⟩
            have hW6d := hW6.drew
            have hE6d := hW6d.env.cell
            have hE6c := hW6.env.cell
            have hz9 : U64 9 := ⟨by decide, by decide⟩
            clear hM0 hE0 hO0 hEc hM6 hE6 hO6 ho6
            go_wp2
            first
              | go_region_held3 (fun w' => ∀ o, w'.cell? ⟨w1.heap.size, o, none⟩ = (#[.int .i64 kE.t, .int .i64 kE.s, .int .i64 kE.c, .int .i64 kE.w, .int .i64 kE.g, .int .i64 kE.p, .int .i64 kE.r, .pointer (some ⟨m.b, 0, none⟩), .int .i64 0] : Array Value)[o]?) (first | exact hE6d | exact hE7c)
                  (first
                    | (go_at_call 45; refine (epoch_any _).mono ?_; rintro e w' ⟨rfl, rfl⟩)
                    | (go_at_call 59; with_reducible refine (store_any hW6d.mem hz9).mono ?_; rintro e w7 ⟨rfl, hm7, ho7⟩; have hW7 := hW6d.step hnx hlm hm7 ho7; have hE7c := hW7.env.cell))
              | fail "region 18"
            all_goals
              obtain ⟨tb, htb⟩ : ∃ tb, w7.heap.size = tb := ⟨_, rfl⟩
              have hz7 := hW7.only.size
              have he7 := hW7.env.lt
              obtain ⟨x1, x2, x3⟩ := hW7.mem.lts
              have hA2 : EA w m w1.heap.size tb := ⟨hn1, hn2, hn3, by omega, hnx, by omega, by omega, by omega, by omega⟩
              have hO7 : EO w (w7.alloc (.cells (⟨0, 0, 0, 0, 0, false⟩ : SetS).cs 148)) m kE 0 w1.heap.size _ tb (⟨0, 0, 0, 0, 0, false⟩ : SetS).cs 148 := EO.mk (hW7.alloc (.cells (⟨0, 0, 0, 0, 0, false⟩ : SetS).cs 148)) (htb ▸ Blk.new w7 (⟨0, 0, 0, 0, 0, false⟩ : SetS).cs 148)
              have o1 := hA2.t1
              have o2 := hA2.t2
              have o3 := hA2.t3
              clear hW6 hW6d hE6d hE6c hW7 hE7c hm7 ho7 x1 x2 x3 he7 hz7
              go_wp2_with (first | (go_at_call 88; refine (setnew_any _ _).mono ?_; rintro e w' ⟨rfl, rfl⟩))
              go_loopw [13] (fun x wr => ∃ (y : Nat) (s : MS) (p : SetS), x = .int .i64 y ∧ y ≤ 60 ∧ SM W s ∧ SI W (1 + a) y p ∧ EO w wr m kE 0 w1.heap.size s tb p.cs 148) (fun x _ => 60 - (intOf x).toNat)
              case atStart => exact ⟨0, _, ⟨0, 0, 0, 0, 0, false⟩, rfl, by omega, HSM.out, ⟨rfl, rfl, ⟨(by decide : (0 : Int) ≤ 0), (by decide : (0 : Int) < 18446744073709551616)⟩, .inl ⟨rfl, rfl, rfl⟩⟩, hO7⟩
              case round =>
                clear hO7
                obtain ⟨y, s, p, rfl, hy, hSM, hSI, hO⟩ := hrel
                have hy60 : y < 60 := si_lt (by omega) hSI
                have hpk : ∀ w', MemR w' m s → Calls Try.prog 44 #[.pointer (some ⟨m.b, 0, none⟩), .int .i64 (aChunk kE 0)] w' fun e w2 => e = .returned (.int .u64 W) ∧ w' = w2 := fun w' h => by
                  have := peek_any (a := aChunk kE 0) h
                  rw [sm_get hSM] at this
                  exact this
                have hOd := hO.drew
                have HSM := Lib.hid hSM
                have HSI := Lib.hid hSI
                have hw3 := HW3.out
                clear hSM hSI hO
                go_wp2
                refine qc_enter (fun w' => EO w w' m kE 0 w1.heap.size s tb p.cs 148) (by kernel_rfl) (by kernel_rfl) ?_ ?_
                focus (exact hOd)
                repeat (first
                  | go_big_quiet_skip
                  | (go_big_quiet_want
                     apply Exists.intro
                     refine ⟨fun wq hq => ?_, ?_⟩
                     focus
                       (have hc2 := hq.ew.env.cell)
                       unfold Oper.quietAt
                       go_simp
                       (first
                         | done
                         | with_reducible exact rfl
                         | with_reducible exact ⟨rfl, rfl⟩
                         | (first | (go_at_call 61; refine (now_env kE 0 hq.ew.mem).mono ?_; rintro e w' ⟨rfl, rfl⟩; exact ⟨rfl, hq.alloc _⟩) | (go_at_call 50; with_reducible refine (chunka_any _ kE _).mono ?_; rintro e w' ⟨rfl, rfl⟩; exact ⟨rfl, hq.alloc _⟩) | (go_at_call 44; with_reducible refine (hpk _ hq.ew.mem).mono ?_; rintro e w' ⟨rfl, rfl⟩; exact ⟨rfl, hq⟩) | (go_at_call 83; refine (chunk_word W _ HWU.out).mono ?_; rintro e w' ⟨rfl, ho⟩; exact ⟨rfl, hq.only0 ho⟩)))
                     (try simp only [Act.put, List.setIfInBounds_toArray, List.set_cons_zero, List.set_cons_succ])
                     go_big_quiet_on))
                refine wpQuiet_nil ?_
                intro wq hq
                have HQ := Lib.hid hq
                clear hq hOd hpk
                have hEc := HQ.out.ew.env.cell
                go_wp2_with fail
                refine (set_touch 0 W (1 + a) y (by omega) (by omega) HW3.out (by rw [HWu.out]; omega) HWU.out p tb HSM.out HQ.out.ew.mem HQ.out.ob HSI.out o1 o2 o3).mono ?_
                rintro e wb ⟨b, s2, p2, rfl, h1, h2, h3, hnext, hdone, hts, hla0, hla1⟩
                have HTS := Lib.hid hts
                clear hts hw3
                have hOb := HQ.out.step hA2 h1 h2 h3
                have HNX := Lib.hid hnext
                have HDN := Lib.hid hdone
                have HLA := Lib.hid (show -9223372036854775808 ≤ s2.la ∧ s2.la < 9223372036854775808 from ⟨by omega, by omega⟩)
                have hOd := hOb.drew
                clear hEc h1 h2 h3 hnext hdone hla0 hla1 HQ hOb
                have hkof := kE_ok
                have HKO := Lib.hid hkof
                clear hkof
                cases hof : (aOf kE s2.la == 0)
                · skip
                  have hts := HTS.out
                  have hEc := hOd.ew.env.cell
                  go_wp2
                  refine qc_enter (fun w' => EO w w' m kE 0 w1.heap.size s2 tb p2.cs 148) (by kernel_rfl) (by kernel_rfl) ?_ ?_
                  focus (exact hOd)
                  repeat (first
                    | go_big_quiet_skip
                    | (go_big_quiet_want
                       apply Exists.intro
                       refine ⟨fun wq hq => ?_, ?_⟩
                       focus
                         (have hc2 := hq.ew.env.cell)
                         unfold Oper.quietAt
                         go_simp
                         (first
                           | done
                           | with_reducible exact rfl
                           | with_reducible exact ⟨rfl, rfl⟩
                           | (first | (go_at_call 61; refine (now_env kE 0 hq.ew.mem).mono ?_; rintro e w' ⟨rfl, rfl⟩; exact ⟨rfl, hq.alloc _⟩) | (go_at_call 62; refine (last_any hq.ew.mem).mono ?_; rintro e w' ⟨rfl, ho⟩; exact ⟨rfl, hq.only0 ho⟩) | (go_at_call 52; refine (of_any kE HKO.out _ _ HLA.out.1 HLA.out.2).mono ?_; rintro e w' ⟨rfl, ho⟩; exact ⟨rfl, hq.only0 ho⟩)))
                       (try simp only [Act.put, List.setIfInBounds_toArray, List.set_cons_zero, List.set_cons_succ])
                       go_big_quiet_on))
                  refine wpQuiet_nil ?_
                  intro wq hq
                  have HQ := Lib.hid hq
                  clear hq hOd hEc
                  clear hts HTS
                  cases b
                  · go_wp2
                    go_roundw
                    case rel => exact ⟨y + 1, s2, p2, by go_num, by omega, (HNX.out (by first | rfl | trivial)).2, (HNX.out (by first | rfl | trivial)).1, HQ.out⟩
                    case measure => simp [intOf]; omega
                  · have hfr : ∀ w', Blk w' tb p2.cs 148 → Calls Try.prog 90 #[.pointer (some ⟨tb, 0, none⟩)] w' fun e w2 => e = .returned (.bool true) ∧ w' = w2 := fun w' h => by
                      have := freed_any p2 tb h
                      rw [HDN.out (by first | rfl | trivial)] at this
                      exact this
                    go_wp2_with (first | (go_at_call 90; with_reducible refine (hfr _ HQ.out.ob).mono ?_; rintro e w' ⟨rfl, rfl⟩) | (go_at_call 90; with_reducible refine (freed_nil _).mono ?_; rintro e w' ⟨rfl, rfl⟩) | (go_at_call 91; with_reducible refine (went_nil _).mono ?_; rintro e w' ⟨rfl, rfl⟩))
                    go_ret
                    exact ⟨rfl, HQ.out.ew.only⟩
                · skip
                  have hts := HTS.out
                  have hEc := hOd.ew.env.cell
                  go_wp2
                  refine qc_enter (fun w' => EO w w' m kE 0 w1.heap.size s2 tb p2.cs 148) (by kernel_rfl) (by kernel_rfl) ?_ ?_
                  focus (exact hOd)
                  repeat (first
                    | go_big_quiet_skip
                    | (go_big_quiet_want
                       apply Exists.intro
                       refine ⟨fun wq hq => ?_, ?_⟩
                       focus
                         (have hc2 := hq.ew.env.cell)
                         unfold Oper.quietAt
                         go_simp
                         (first
                           | done
                           | with_reducible exact rfl
                           | with_reducible exact ⟨rfl, rfl⟩
                           | (first | (go_at_call 61; refine (now_env kE 0 hq.ew.mem).mono ?_; rintro e w' ⟨rfl, rfl⟩; exact ⟨rfl, hq.alloc _⟩) | (go_at_call 62; refine (last_any hq.ew.mem).mono ?_; rintro e w' ⟨rfl, ho⟩; exact ⟨rfl, hq.only0 ho⟩) | (go_at_call 52; refine (of_any kE HKO.out _ _ HLA.out.1 HLA.out.2).mono ?_; rintro e w' ⟨rfl, ho⟩; exact ⟨rfl, hq.only0 ho⟩)))
                       (try simp only [Act.put, List.setIfInBounds_toArray, List.set_cons_zero, List.set_cons_succ])
                       go_big_quiet_on))
                  refine wpQuiet_nil ?_
                  intro wq hq
                  have HQ := Lib.hid hq
                  clear hq hOd hEc
                  clear hts HTS
                  cases b
                  · go_wp2
                    go_roundw
                    case rel => exact ⟨y + 1, s2, p2, by go_num, by omega, (HNX.out (by first | rfl | trivial)).2, (HNX.out (by first | rfl | trivial)).1, HQ.out⟩
                    case measure => simp [intOf]; omega
                  · have hfr : ∀ w', Blk w' tb p2.cs 148 → Calls Try.prog 90 #[.pointer (some ⟨tb, 0, none⟩)] w' fun e w2 => e = .returned (.bool true) ∧ w' = w2 := fun w' h => by
                      have := freed_any p2 tb h
                      rw [HDN.out (by first | rfl | trivial)] at this
                      exact this
                    go_wp2_with (first | (go_at_call 90; with_reducible refine (hfr _ HQ.out.ob).mono ?_; rintro e w' ⟨rfl, rfl⟩) | (go_at_call 90; with_reducible refine (freed_nil _).mono ?_; rintro e w' ⟨rfl, rfl⟩) | (go_at_call 91; with_reducible refine (went_nil _).mono ?_; rintro e w' ⟨rfl, rfl⟩))
                    go_ret
                    exact ⟨rfl, HQ.out.ew.only⟩

end Go.Proofs.Yteoimmjgnflmmaa
