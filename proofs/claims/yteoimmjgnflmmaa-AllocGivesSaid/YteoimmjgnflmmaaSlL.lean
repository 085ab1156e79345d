/-
  Plain law of the slots' free list: the first free slot and the links, in plain numbers.
-/
import Derived.Test.YteoimmjgnflmmaaPur
namespace Go.Proofs.Yteoimmjgnflmmaa
open Go.RowKit

structure TakeS where
  pc : Int
  top : Int
  next : Int
  slot : Int
  ok : Bool
def TakeS.cs (p : TakeS) : Array Value := #[.int .i64 p.pc, .int .u64 p.top, .int .i64 p.next, .int .i64 p.slot, .bool p.ok]
structure GiveS where
  pc : Int
  slot : Int
  top : Int
def GiveS.cs (p : GiveS) : Array Value := #[.int .i64 p.pc, .int .i64 p.slot, .int .u64 p.top]

def aLink (k : Cfg) (i : Int) : Int := wrap64 (aSlot k i + 1)
def takeStep (k : Cfg) (wh : Int) (s : MS) (p : TakeS) : Bool × MS × TakeS :=
  if p.pc = 0 then (decide (topS (s.get 1) < 0), (s.by wh).load 1, ⟨1, s.get 1, p.next, topS (s.get 1), p.ok⟩)
  else if p.pc = 1 then (p.ok, (s.by wh).load (aLink k p.slot), ⟨2, p.top, topS (s.get (aLink k p.slot)), p.slot, p.ok⟩)
  else (s.can 1 p.top, (s.by wh).cas 1 p.top (putTop p.next (topN p.top + 1)), ⟨0, p.top, p.next, p.slot, s.can 1 p.top⟩)
def giveStep (k : Cfg) (wh : Int) (s : MS) (p : GiveS) : Bool × MS × GiveS :=
  if p.pc = 0 then (false, (s.by wh).load 1, ⟨1, p.slot, s.get 1⟩)
  else if p.pc = 1 then (false, (s.by wh).store (aLink k p.slot) (putTop (topS p.top) 0), ⟨2, p.slot, p.top⟩)
  else (s.can 1 p.top, (s.by wh).cas 1 p.top (putTop p.slot (topN p.top + 1)), ⟨0, p.slot, p.top⟩)

theorem topS_rng {x : Int} : -1 ≤ topS x ∧ topS x < 131072 := by unfold topS; omega
theorem topN_rng {x : Int} : 0 ≤ topN x ∧ topN x ≤ 68719476735 := by unfold topN; omega
theorem topS_put {x c : Int} (h0 : -1 ≤ x) (h1 : x ≤ 65535) : topS (putTop x c) = x := by
  have := fit_bd c 68719476735 (by decide)
  unfold topS putTop
  rw [if_neg (by omega)]
  omega
theorem topN_put {x c : Int} (h0 : -1 ≤ x) (h1 : x ≤ 65535) (h2 : 0 ≤ c) (h3 : c ≤ 68719476735) : topN (putTop x c) = c := by
  have hf : fit c 68719476735 = c := by unfold fit; rw [if_neg (by omega), if_neg (by omega)]
  unfold topN putTop
  rw [if_neg (by omega), hf]
  omega
theorem aLink_ok {k : Cfg} (h : k.Ok) {i : Int} (h0 : 0 ≤ i) (h1 : i ≤ 131072) : aLink k i = 7 + k.t + 2 * i := by
  have := h.t0
  have := h.t1
  unfold aLink
  rw [aSlot_ok h h0 h1]
  unfold wrap64; omega

def Chain (f : Int → Int) : Int → List Int → Prop
  | x, [] => x = -1
  | x, i :: l => x = i ∧ Chain f (f i) l
theorem Chain.congr {f g : Int → Int} : ∀ {l : List Int} {x : Int}, Chain f x l → (∀ i ∈ l, g i = f i) → Chain g x l
  | [], _, h, _ => h
  | i :: _, _, h, hg => ⟨h.1, by
      rw [hg i (List.mem_cons_self ..)]
      exact Chain.congr h.2 (fun j hj => hg j (List.mem_cons_of_mem _ hj))⟩

/-- Where slot i's link goes. -/
def lk (k : Cfg) (s : MS) (i : Int) : Int := topS (s.at (aLink k i))

/-- The free slots are l, the first one first. -/
structure Fr (k : Cfg) (n : Nat) (s : MS) (l : List Int) : Prop where
  len : 6 + k.t + 2 * n ≤ (s.ws.length : Int)
  ch : Chain (lk k s) (topS (s.at 1)) l
  nd : l.Nodup
  rg : ∀ i ∈ l, 0 ≤ i ∧ i < (n : Int)

section
variable {k : Cfg} {n : Nat} {s s' : MS} {l : List Int} {g i c v : Int}

theorem Fr.ok1 (hk : k.Ok) (h : Fr k n s l) : s.ok 1 := ⟨by decide, by have := h.len; have := hk.t0; omega⟩
theorem Fr.okL (hk : k.Ok) (hn : n ≤ 65536) (h : Fr k n s l) (h0 : 0 ≤ g) (h1 : g < (n : Int)) : s.ok (aLink k g) := by
  have := h.len
  have := hk.t0
  unfold MS.ok
  rw [aLink_ok hk h0 (by omega)]
  omega
theorem Fr.nil (h : Fr k n s []) : topS (s.at 1) = -1 := h.ch
theorem Fr.head (h : Fr k n s (i :: l)) : topS (s.at 1) = i := h.ch.1
theorem Fr.head_rg (h : Fr k n s (i :: l)) : 0 ≤ i ∧ i < (n : Int) := h.rg i (List.mem_cons_self ..)
theorem Fr.next_rg (hn : n ≤ 65536) (h : Fr k n s (i :: l)) : -1 ≤ lk k s i ∧ lk k s i ≤ 65535 := by
  have hc := h.ch.2
  cases l with
  | nil =>
    have : lk k s i = -1 := hc
    omega
  | cons j l =>
    have h1 : lk k s i = j := hc.1
    have := h.rg j (by simp)
    omega
theorem Fr.first_rg (hn : n ≤ 65536) (h : Fr k n s l) : -1 ≤ topS (s.at 1) ∧ topS (s.at 1) ≤ 65535 := by
  cases l with
  | nil => rw [h.nil]; omega
  | cons j l =>
    have h1 := h.head
    have := h.head_rg
    omega
theorem Fr.keep (h : Fr k n s l) (hl : s'.ws.length = s.ws.length) (ha : ∀ a, 0 ≤ a → s'.at a = s.at a) (hk : k.Ok) (hn : n ≤ 65536) : Fr k n s' l :=
  ⟨by rw [hl]; exact h.len, by
    rw [ha 1 (by decide)]
    refine h.ch.congr (fun i hi => ?_)
    have := h.rg i hi
    have := hk.t0
    unfold lk
    rw [ha _ (by rw [aLink_ok hk (by omega) (by omega)]; omega)], h.nd, h.rg⟩
theorem Fr.pop (h : Fr k n s (i :: l)) (hk : k.Ok) (hn : n ≤ 65536) (hl : s'.ws.length = s.ws.length) (ha : ∀ a, 0 ≤ a → s'.at a = if a = 1 then putTop (lk k s i) c else s.at a) : Fr k n s' l := by
  have hr := h.next_rg hn
  refine ⟨by rw [hl]; exact h.len, ?_, (List.nodup_cons.1 h.nd).2, fun j hj => h.rg j (List.mem_cons_of_mem _ hj)⟩
  rw [ha 1 (by decide), if_pos rfl, topS_put hr.1 hr.2]
  refine h.ch.2.congr (fun j hj => ?_)
  have hj' := h.rg j (List.mem_cons_of_mem _ hj)
  have := hk.t0
  have e := aLink_ok hk hj'.1 (by omega)
  unfold lk
  rw [ha _ (by rw [e]; omega), if_neg (by rw [e]; omega)]
theorem Fr.link (h : Fr k n s l) (hk : k.Ok) (hn : n ≤ 65536) (hg : g ∉ l) (h0 : 0 ≤ g) (h1 : g < (n : Int)) (hl : s'.ws.length = s.ws.length) (ha : ∀ a, 0 ≤ a → s'.at a = if a = aLink k g then v else s.at a) : Fr k n s' l := by
  have eg := aLink_ok hk h0 (by omega)
  have := hk.t0
  refine ⟨by rw [hl]; exact h.len, ?_, h.nd, h.rg⟩
  rw [ha 1 (by decide), if_neg (by rw [eg]; omega)]
  refine h.ch.congr (fun j hj => ?_)
  have hj' := h.rg j hj
  have e := aLink_ok hk hj'.1 (by omega)
  have hne : j ≠ g := fun x => hg (x ▸ hj)
  unfold lk
  rw [ha _ (by rw [e]; omega), if_neg (by rw [e, eg]; omega)]
theorem Fr.push (h : Fr k n s l) (hk : k.Ok) (hn : n ≤ 65536) (hg : g ∉ l) (h0 : 0 ≤ g) (h1 : g < (n : Int)) (hlk : lk k s g = topS (s.at 1)) (hl : s'.ws.length = s.ws.length) (ha : ∀ a, 0 ≤ a → s'.at a = if a = 1 then putTop g c else s.at a) : Fr k n s' (g :: l) := by
  have hlk' : ∀ j, 0 ≤ j → j < (n : Int) → lk k s' j = lk k s j := fun j hj0 hj1 => by
    have := hk.t0
    have e := aLink_ok hk hj0 (by omega)
    unfold lk
    rw [ha _ (by rw [e]; omega), if_neg (by rw [e]; omega)]
  refine ⟨by rw [hl]; exact h.len, ⟨?_, ?_⟩, List.nodup_cons.2 ⟨hg, h.nd⟩, fun j hj => ?_⟩
  · rw [ha 1 (by decide), if_pos rfl, topS_put (by omega) (by omega)]
  · rw [hlk' g h0 h1, hlk]
    exact h.ch.congr (fun j hj => hlk' j (h.rg j hj).1 (h.rg j hj).2)
  · rcases List.mem_cons.1 hj with rfl | hj
    · exact ⟨h0, h1⟩
    · exact h.rg j hj
end

end Go.Proofs.Yteoimmjgnflmmaa
