/-
  Three that want words of one class, in plain numbers: a table of all that they may come to, with how many steps are left at most.
-/
import Derived.Test.YteoimmjgnflmmaaBase
namespace Go.Proofs.Yteoimmjgnflmmaa

/-- One that wants words: what is to be done next (7: it has them), what it saw as open, its chunk, that one's word. -/
structure PT4 where
  pc : Nat
  o : Nat
  i : Nat
  w : Nat
/-- The open chunk's number (0: none), and the first three chunks' words. -/
structure PS4 where
  op : Nat
  a : Nat
  b : Nat
  c : Nat
def nchk (S : PS4) (i : Nat) : Nat := if i = 0 then S.a else if i = 1 then S.b else S.c
def nset (S : PS4) (i v : Nat) : PS4 := if i = 0 then ⟨S.op, v, S.b, S.c⟩ else if i = 1 then ⟨S.op, S.a, v, S.c⟩ else ⟨S.op, S.a, S.b, v⟩
def nst (w : Nat) : Nat := w % 4
def nus (w : Nat) : Nat := w / 256 % 1048576
def nsp (w : Nat) : Nat := w / 268435456
def nfr (cl w : Nat) : Nat := 1 + cl * 4 + (nsp w + 1) * 268435456
def stp (cl r : Nat) (S : PS4) (t : PT4) : PS4 × PT4 :=
  if t.pc = 0 then (if S.op = 0 then (S, ⟨3, 0, 0, 0⟩) else (S, ⟨1, S.op, S.op - 1, 0⟩))
  else if t.pc = 1 then (if nst (nchk S t.i) = 1 ∧ nchk S t.i / 4 % 64 = cl ∧ nus (nchk S t.i) + r ≤ 20 then (S, ⟨2, 0, t.i, nchk S t.i⟩) else (S, ⟨3, t.o, 0, 0⟩))
  else if t.pc = 2 then (if nchk S t.i = t.w then (nset S t.i (t.w + r * 256), ⟨7, 0, 0, 0⟩) else (S, ⟨0, 0, 0, 0⟩))
  else if t.pc = 3 then (if nst (nchk S t.i) = 0 then (S, ⟨4, t.o, t.i, nchk S t.i⟩) else (S, ⟨3, t.o, t.i + 1, 0⟩))
  else if t.pc = 4 then (if nchk S t.i = t.w then (nset S t.i (nfr cl t.w), ⟨5, t.o, t.i, t.w⟩) else (S, ⟨3, t.o, t.i + 1, 0⟩))
  else if t.pc = 5 then (if S.op = t.o then (⟨t.i + 1, S.a, S.b, S.c⟩, ⟨0, 0, 0, 0⟩) else (S, ⟨6, 0, t.i, t.w⟩))
  else (if nchk S t.i = nfr cl t.w then (nset S t.i ((nsp t.w + 2) * 268435456), ⟨0, 0, 0, 0⟩) else (S, ⟨0, 0, 0, 0⟩))

def pkT (t : PT4) : Nat := t.pc + 8 * (t.o + 4 * (t.i + 4 * t.w))
def unT (x : Nat) : PT4 := ⟨x % 8, x / 8 % 4, x / 32 % 4, x / 128⟩
def pkS (S : PS4) : Nat := S.op + 4 * (S.a + 4294967296 * (S.b + 4294967296 * S.c))
def unS (x : Nat) : PS4 := ⟨x % 4, x / 4 % 4294967296, x / 17179869184 % 4294967296, x / 73786976294838206464⟩
def pk4 (S x y z : Nat) : Nat := x + 1099511627776 * (y + 1099511627776 * (z + 1099511627776 * S))
def sx4 (P : Nat) : Nat := P % 1099511627776
def sy4 (P : Nat) : Nat := P / 1099511627776 % 1099511627776
def sz4 (P : Nat) : Nat := P / 1208925819614629174706176 % 1099511627776
def ss4 (P : Nat) : Nat := P / 1329227995784915872903807060280344576
def frc {α : Type} (n : Nat) (k : Nat → α) : α := Nat.rec (motive := fun _ => α) (k 0) (fun m _ => k (Nat.succ m)) n
/-- Three codes, the least first. -/
def srt (S x y z : Nat) : Nat :=
  if x ≤ y then (if y ≤ z then pk4 S x y z else if x ≤ z then pk4 S x z y else pk4 S z x y)
  else (if x ≤ z then pk4 S y x z else if y ≤ z then pk4 S y z x else pk4 S z y x)
def okT (t : PT4) : Bool := decide (t.pc ≤ 7) && (decide (t.o ≤ 3) && (decide (t.i ≤ 2) && decide (t.w ≤ 4294967295)))
def okS (S : PS4) : Bool := decide (S.op ≤ 3) && (decide (S.a ≤ 4294967295) && (decide (S.b ≤ 4294967295) && decide (S.c ≤ 4294967295)))
/-- A chunk that is not the open one is full, or free. -/
def fch (cl r op i w : Nat) : Bool := if op = i + 1 then decide (nst w = 1 ∧ w / 4 % 64 = cl) else (if nst w = 1 then decide (21 ≤ nus w + r) else true)
def fin4 (cl r : Nat) (S : PS4) : Bool := decide (1 ≤ S.op) && (fch cl r S.op 0 S.a && (fch cl r S.op 1 S.b && (fch cl r S.op 2 S.c && decide (nus S.a + (nus S.b + nus S.c) = 3 * r))))

inductive Tr where
  | lf
  | nd (l : Tr) (k r : Nat) (m : Tr)
/-- Is it there, with a lesser rank? -/
def look (r k : Nat) : Tr → Bool
  | .lf => false
  | .nd l k' r' m => if k = k' then decide (r' < r) else if k ≤ k' then look r k l else look r k m
def nx (cl r : Nat) (t : Tr) (rk : Nat) (S : PS4) (x y z : Nat) : Bool :=
  if x % 8 = 7 then true else okS (stp cl r S (unT x)).1 && (okT (stp cl r S (unT x)).2 && (frc (pkT (stp cl r S (unT x)).2) fun x' => frc (srt (pkS (stp cl r S (unT x)).1) x' y z) fun P => look rk P t))
def one (cl r : Nat) (t : Tr) (P rk : Nat) : Bool :=
  frc (sx4 P) fun x => frc (sy4 P) fun y => frc (sz4 P) fun z => frc (ss4 P) fun s =>
    if x % 8 = 7 ∧ y % 8 = 7 ∧ z % 8 = 7 then fin4 cl r (unS s) else nx cl r t rk (unS s) x y z && (nx cl r t rk (unS s) y x z && nx cl r t rk (unS s) z x y)
def allT (cl r : Nat) (t : Tr) : Tr → Bool
  | .lf => true
  | .nd l k rk m => one cl r t k rk && (allT cl r t l && allT cl r t m)

end Go.Proofs.Yteoimmjgnflmmaa
