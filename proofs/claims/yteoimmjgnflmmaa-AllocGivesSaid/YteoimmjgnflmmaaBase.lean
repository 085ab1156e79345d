/-
  What a call leaves of the world: the words that all walks of this seat use. Nothing of the program's is said here.
-/
import Derived.Test.YteoimmjgnflmmaaRows
import Derived.WalkKit
import Derived.WalkSpells
import Derived.Deep.Draws
import Derived.Deep.QuietTactic
import Derived.BigQuiet
import Derived.Deep.RegionHeld3
import Derived.Deep.DeepCutAuto
import Derived.Lib.Hide
namespace Go.Proofs.Yteoimmjgnflmmaa
open Go.RowKit

/-- Of the blocks that were there, only those of l may read otherwise; the streams are as they were. -/
structure Only (l : List Nat) (w w' : World) : Prop where
  os : w'.os = w.os
  tape : w'.tape = w.tape
  output : w'.output = w.output
  size : w.heap.size ≤ w'.heap.size
  block : ∀ k, k < w.heap.size → k ∉ l → w'.heap[k]? = w.heap[k]?

theorem Only.refl (l : List Nat) (w : World) : Only l w w := ⟨rfl, rfl, rfl, Nat.le_refl _, fun _ _ _ => rfl⟩

theorem Only.trans' {l l1 : List Nat} {w w1 w2 : World} (h : Only l w w1) (k : Only l1 w1 w2) (hl : ∀ x, x ∈ l1 → x < w.heap.size → x ∈ l) : Only l w w2 :=
  ⟨k.os.trans h.os, k.tape.trans h.tape, k.output.trans h.output, Nat.le_trans h.size k.size, fun i hi hn =>
    (k.block i (Nat.lt_of_lt_of_le hi h.size) (fun hx => hn (hl i hx hi))).trans (h.block i hi hn)⟩

theorem Only.mono {l l1 : List Nat} {w w1 : World} (k : Only l1 w w1) (hl : ∀ x, x ∈ l1 → x < w.heap.size → x ∈ l) : Only l w w1 :=
  (Only.refl l w).trans' k hl

theorem Only.drew {l : List Nat} {w w1 : World} (h : Only l w w1) : Only l w w1.drew := ⟨h.os, h.tape, h.output, h.size, h.block⟩
theorem Only.drewN {l : List Nat} {w w1 : World} (h : Only l w w1) (n : Nat) : Only l w (w1.drewN n) := ⟨h.os, h.tape, h.output, h.size, h.block⟩
theorem Only.alloc {l : List Nat} {w w1 : World} (h : Only l w w1) (o : Obj) : Only l w (w1.alloc o) :=
  ⟨h.os, h.tape, h.output, by have := h.size; simp; omega, fun k hk hn => by
    rw [Below.heap_alloc _ _ _ (Nat.lt_of_lt_of_le hk h.size)]; exact h.block k hk hn⟩
theorem Only.setCell {l : List Nat} {w w1 : World} (h : Only l w w1) (a : Addr) (v : Value) (ha : a.block < w.heap.size → a.block ∈ l) : Only l w (w1.setCell a v) :=
  ⟨h.os, h.tape, h.output, by have := h.size; simp; omega, fun k hk hn => by
    rw [Below.heap_setCell _ _ _ _ (fun e => hn (by subst e; exact ha hk))]; exact h.block k hk hn⟩

/-- Block b is these cells. -/
def Blk (w : World) (b : Nat) (cs : Array Value) (T : TypeId) : Prop := w.heap[b]? = some (.cells cs T (0, 0))

section
variable {w w1 : World} {b : Nat} {cs cs' : Array Value} {T : TypeId}
theorem Blk.lt (h : Blk w b cs T) : b < w.heap.size := (Array.getElem?_eq_some_iff.1 h).1
theorem Blk.cell (h : Blk w b cs T) : ∀ o, w.cell? ⟨b, o, none⟩ = cs[o]? := fun o => by
  have h' : w.heap[b]? = some (.cells cs T (0, 0)) := h
  simp [World.cell?, h']
theorem Blk.frozen (h : Blk w b cs T) : ∀ o, w.frozen? ⟨b, o, none⟩ = false := fun o => by
  have h' : w.heap[b]? = some (.cells cs T (0, 0)) := h
  simp [World.frozen?, h']
theorem Blk.only {l : List Nat} (h : Blk w b cs T) (ho : Only l w w1) (hb : b ∉ l) : Blk w1 b cs T := (ho.block b h.lt hb).trans h
theorem Blk.drew (h : Blk w b cs T) : Blk w.drew b cs T := h
theorem Blk.drewN (h : Blk w b cs T) (n : Nat) : Blk (w.drewN n) b cs T := h
theorem Blk.alloc (h : Blk w b cs T) (o : Obj) : Blk (w.alloc o) b cs T := (Below.heap_alloc _ _ _ h.lt).trans h
theorem Blk.new (w : World) (cs : Array Value) (T : TypeId) : Blk (w.alloc (.cells cs T)) w.heap.size cs T := by
  show (w.heap.push _)[w.heap.size]? = _
  simp
theorem Blk.new' {w : World} {cs cs' : Array Value} {T b : Nat} (h : b = w.heap.size) (e : cs = cs') : Blk (w.alloc (.cells cs T)) b cs' T := by
  subst h; subst e; exact Blk.new w cs T
theorem Blk.set (h : Blk w b cs T) (o : Nat) (v : Value) (e : cs.setIfInBounds o v = cs') : Blk (w.setCell ⟨b, o, none⟩ v) b cs' T := by
  subst e
  have h' : w.heap[b]? = some (.cells cs T (0, 0)) := h
  show (w.setCell ⟨b, o, none⟩ v).heap[b]? = _
  simp [World.setCell, Array.getElem?_modify, h']
theorem Blk.other (h : Blk w b cs T) (a : Addr) (v : Value) (hb : b ≠ a.block) : Blk (w.setCell a v) b cs T := (Below.heap_setCell _ _ _ _ hb).trans h
theorem Blk.cast (h : Blk w b cs T) (e : cs = cs') : Blk w b cs' T := e ▸ h
end

/-- Where a memory lies: its struct, its words, its steps. -/
structure MB where
  b : Nat
  wb : Nat
  hb : Nat

/-- What a memory is: its words, its steps, who does what follows, and the last touch. -/
structure MS where
  ws : List Int
  steps : Int
  who : Int
  la : Int
  lw : Int
  ch : Bool

/-- A word of 64 bits. -/
def U64 (x : Int) : Prop := 0 ≤ x ∧ x < 18446744073709551616

def u64s (l : List Int) : Array Value := (l.map (Value.int .u64)).toArray
def i64s (l : List Int) : Array Value := (l.map (Value.int .i64)).toArray

structure MemR (w : World) (m : MB) (s : MS) : Prop where
  mem : Blk w m.b #[.slice (some ⟨m.wb, 0, none⟩) s.ws.length s.ws.length, .slice (some ⟨m.hb, 0, none⟩) s.ws.length s.ws.length, .int .i64 s.steps, .int .i64 s.who, .int .i64 s.la, .int .i64 s.lw, .bool s.ch] 139
  words : Blk w m.wb (u64s s.ws) 37
  whens : ∃ hs : List Int, hs.length = s.ws.length ∧ Blk w m.hb (i64s hs) 3
  n1 : m.b ≠ m.wb
  n2 : m.b ≠ m.hb
  n3 : m.wb ≠ m.hb
  len : s.ws.length ≤ 1048576
  rng : ∀ x ∈ s.ws, U64 x

theorem u64s_get (l : List Int) (i : Nat) (h : i < l.length) : (u64s l)[i]? = some (.int .u64 (l.getD i 0)) := by
  simp [u64s, List.getD, h]
theorem i64s_get (l : List Int) (i : Nat) (h : i < l.length) : (i64s l)[i]? = some (.int .i64 (l.getD i 0)) := by
  simp [i64s, List.getD, h]
theorem u64s_set (l : List Int) (i : Nat) (v : Int) : (u64s l).setIfInBounds i (.int .u64 v) = u64s (l.set i v) := by
  apply Array.ext'
  simp [u64s, List.map_set]
theorem i64s_set (l : List Int) (i : Nat) (v : Int) : (i64s l).setIfInBounds i (.int .i64 v) = i64s (l.set i v) := by
  apply Array.ext'
  simp [i64s, List.map_set]

section
variable {w w1 : World} {m : MB} {s : MS}
theorem MemR.only {l : List Nat} (h : MemR w m s) (ho : Only l w w1) (h1 : m.b ∉ l) (h2 : m.wb ∉ l) (h3 : m.hb ∉ l) : MemR w1 m s :=
  ⟨h.mem.only ho h1, h.words.only ho h2, let ⟨hs, hl, hb⟩ := h.whens; ⟨hs, hl, hb.only ho h3⟩, h.n1, h.n2, h.n3, h.len, h.rng⟩
theorem MemR.drew (h : MemR w m s) : MemR w.drew m s := ⟨h.mem, h.words, h.whens, h.n1, h.n2, h.n3, h.len, h.rng⟩
theorem MemR.alloc (h : MemR w m s) (o : Obj) : MemR (w.alloc o) m s := h.only ((Only.refl [] w).alloc o) (by simp) (by simp) (by simp)
theorem MemR.other (h : MemR w m s) (a : Addr) (v : Value) (h1 : m.b ≠ a.block) (h2 : m.wb ≠ a.block) (h3 : m.hb ≠ a.block) : MemR (w.setCell a v) m s :=
  h.only ((Only.refl [a.block] w).setCell a v (by simp)) (by simpa using h1) (by simpa using h2) (by simpa using h3)
end

/-- A block that is made from now on is none of the memory's. -/
theorem MemR.notin {w : World} {m : MB} {s : MS} (h : MemR w m s) {x : Nat} (hx : w.heap.size ≤ x) : x ∉ [m.b, m.wb, m.hb] := by
  obtain ⟨hs, _, hw⟩ := h.whens
  have h1 := h.mem.lt
  have h2 := h.words.lt
  have h3 := hw.lt
  simp only [List.mem_cons, List.not_mem_nil, or_false, not_or]
  omega

/-- A slice that came in: n elements, read through A. -/
structure Slc {α : Type} [Inhabited α] (enc : α → Value) (w : World) (A : Option Addr) (n : Nat) (xs : List α) : Prop where
  len : xs.length = n
  most : n ≤ maxLen
  cells : 0 < n → ∃ b off, A = some ⟨b, off, none⟩ ∧ b < w.heap.size ∧ ∀ j, j < n → w.cell? ⟨b, off + j, none⟩ = some (enc (xs.getD j default))
theorem Slc.only {α : Type} [Inhabited α] {enc : α → Value} {w w1 : World} {A : Option Addr} {n : Nat} {xs : List α} (h : Slc enc w A n xs) (ho : Only [] w w1) : Slc enc w1 A n xs :=
  ⟨h.len, h.most, fun h0 => by
    obtain ⟨b, off, e, hb, hc⟩ := h.cells h0
    refine ⟨b, off, e, Nat.lt_of_lt_of_le hb ho.size, fun j hj => ?_⟩
    rw [← hc j hj]
    exact World.cell?_of_block (w := w) (ho.block b hb (by simp))⟩

/-- What an arena may be: threads, slots, chunks, words, lives, sparse, tries. -/
structure Cfg where
  t : Int
  s : Int
  c : Int
  w : Int
  g : Int
  p : Int
  r : Int

/-- An int of 64 bits. -/
def I64 (x : Int) : Prop := -9223372036854775808 ≤ x ∧ x < 9223372036854775808
structure Cfg.I (k : Cfg) : Prop where
  t : I64 k.t
  s : I64 k.s
  c : I64 k.c
  w : I64 k.w
  g : I64 k.g
  p : I64 k.p
  r : I64 k.r

end Go.Proofs.Yteoimmjgnflmmaa
