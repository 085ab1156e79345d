/-
  Somebody who makes an object: a step of it as one law.
-/
import Derived.Test.YteoimmjgnflmmaaAlD
namespace Go.Proofs.Yteoimmjgnflmmaa
open Go.RowKit Go.BigFrame

/-- Somebody who makes an object, with who wants words for it and who gives its slot back. -/
structure AlX where
  x : AlS
  p : PlS
  g : GiveS

def allocStep (k : Cfg) (wh : Int) (s : MS) (a : AlX) : Bool × MS × AlX :=
  if a.x.pc = 0 then
    (if cls a.x.sz < 0 then (true, s, { a with x := { a.x with er := 5, hd := 0, va := 0, st := s.steps } })
    else match takeStep k wh s a.x.t with
      | (false, s', t') => (false, s', { a with x := { a.x with t := t' } })
      | (true, s', t') => if t'.ok = true then (false, s', { a with x := { a.x with t := t', at_ := t'.slot, pc := 1 } })
        else (true, s', { a with x := { a.x with t := t', at_ := 0, pc := 1, er := 7, hd := 0, va := 0, st := s'.steps } }))
  else if a.x.pc = 1 then (false, (s.by wh).load (aSlot k a.x.at_), { a with x := { a.x with gn := slGn (s.get (aSlot k a.x.at_)), pc := 2 }, p := pl0 (cls a.x.sz) })
  else if a.x.pc = 2 then
    (match placeStep k wh s a.p with
      | (false, s', p') => (false, s', { a with p := p' })
      | (true, s', p') => if p'.ok = true then (false, s', { a with x := { a.x with sa := p'.sa, sc := p'.sc, pc := 3 }, p := p' })
        else (false, s', { a with x := { a.x with sa := 0, sc := 0, pc := 7, er := 6, hd := 0, va := 0, st := s'.steps }, p := p', g := ⟨0, a.x.at_, 0⟩ }))
  else if a.x.pc = 3 then (false, (s.by wh).add (wrap64 (aChunk k a.x.sc + 1)) (room (cls a.x.sz)), { a with x := { a.x with pc := 4 } })
  else if a.x.pc = 4 then (false, (s.by wh).store a.x.sa (putHead 1 a.x.sz a.x.at_ a.x.gn a.x.own), { a with x := { a.x with pc := 5 } })
  else if a.x.pc = 5 then (false, (s.by wh).store (aSlot k a.x.at_) (putSlot 1 a.x.sa a.x.gn 0), { a with x := { a.x with pc := 6, er := 0, hd := putHandle a.x.at_ a.x.gn, va := 0, st := ((s.by wh).store (aSlot k a.x.at_) (putSlot 1 a.x.sa a.x.gn 0)).steps } })
  else if a.x.pc = 6 then (true, (s.by wh).store a.x.sa (putHead 2 a.x.sz a.x.at_ a.x.gn a.x.own), a)
  else match giveStep k wh s a.g with
    | (b, s', g') => (b, s', { a with g := g' })

/-- Where it lies: its block, and whose words it wants and who gives back, where there are any. -/
structure AlB where
  b : Nat
  pb : Option Nat
  gb : Option Nat
def ptrO : Option Nat → Value
  | none => .pointer none
  | some b => .pointer (some ⟨b, 0, none⟩)
def AlB.all (a : AlB) : List Nat := a.b :: (a.pb.toList ++ a.gb.toList)
/-- It lies there. -/
structure AlR (wr : World) (m : MB) (B : AlB) (a : AlX) : Prop where
  blk : Blk wr B.b ({ a.x with pv := ptrO B.pb, gv := ptrO B.gb } : AlS).cs 150
  p : ∀ b, B.pb = some b → Blk wr b a.p.cs 145
  g : ∀ b, B.gb = some b → Blk wr b a.g.cs 142
  nm : ∀ x, x ∈ B.all → x ∉ m.l
  nd : B.all.Nodup
/-- What must be so that a step is known. -/
structure AlI (k : Cfg) (n : Nat) (s : MS) (B : AlB) (a : AlX) : Prop where
  pc : a.x.pc = 0 ∨ a.x.pc = 1 ∨ a.x.pc = 2 ∨ a.x.pc = 3 ∨ a.x.pc = 4 ∨ a.x.pc = 5 ∨ a.x.pc = 6 ∨ a.x.pc = 7
  t : a.x.pc = 0 → a.x.t.pc = 0 ∨ a.x.t.pc = 1 ∨ (a.x.t.pc = 2 ∧ U64 a.x.t.top ∧ -1 ≤ a.x.t.next ∧ a.x.t.next < 131072)
  cl : a.x.pc ≠ 0 → 0 ≤ cls a.x.sz
  p : a.x.pc = 2 → (∃ b, B.pb = some b) ∧ PM k n s ∧ PI n a.p
  g : a.x.pc = 7 → (∃ b, B.gb = some b) ∧ (a.g.pc = 0 ∨ a.g.pc = 1 ∨ a.g.pc = 2) ∧ U64 a.g.top ∧ 0 ≤ a.g.slot ∧ a.g.slot < 131072

section
variable {w : World} {m : MB} {k : Cfg} {n : Nat} {s s' : MS} {B : AlB} {a a' : AlX} {wh : Int} {b : Bool}
theorem AlB.mem_p {x : Nat} (h : B.pb = some x) : x ∈ B.all := by unfold AlB.all; rw [h]; simp
theorem AlB.mem_g {x : Nat} (h : B.gb = some x) : x ∈ B.all := by unfold AlB.all; rw [h]; simp
theorem AlR.b_ne (h : AlR w m B a) : B.b ≠ m.b ∧ B.b ≠ m.wb ∧ B.b ≠ m.hb := by
  have := h.nm B.b (by unfold AlB.all; simp)
  simp only [List.mem_cons, List.not_mem_nil, or_false, not_or] at this
  exact this
theorem AlR.p_ne (h : AlR w m B a) {x : Nat} (hx : B.pb = some x) : x ≠ m.b ∧ x ≠ m.wb ∧ x ≠ m.hb ∧ x ≠ B.b := by
  have h1 := h.nm x (AlB.mem_p hx)
  have h2 := h.nd
  simp only [List.mem_cons, List.not_mem_nil, or_false, not_or] at h1
  unfold AlB.all at h2
  rw [hx] at h2
  have := (List.nodup_cons.1 h2).1
  exact ⟨h1.1, h1.2.1, h1.2.2, fun hh => this (by rw [← hh]; simp)⟩
theorem AlR.g_ne (h : AlR w m B a) {x : Nat} (hx : B.gb = some x) : x ≠ m.b ∧ x ≠ m.wb ∧ x ≠ m.hb ∧ x ≠ B.b := by
  have h1 := h.nm x (AlB.mem_g hx)
  have h2 := h.nd
  simp only [List.mem_cons, List.not_mem_nil, or_false, not_or] at h1
  unfold AlB.all at h2
  rw [hx] at h2
  have := (List.nodup_cons.1 h2).1
  exact ⟨h1.1, h1.2.1, h1.2.2, fun hh => this (by rw [← hh]; simp)⟩
theorem AlR.pg_ne (h : AlR w m B a) {x y : Nat} (hx : B.pb = some x) (hy : B.gb = some y) : x ≠ y := by
  have h2 := h.nd
  unfold AlB.all at h2
  rw [hx, hy] at h2
  have := (List.nodup_cons.1 (List.nodup_cons.1 h2).2).1
  intro hh
  exact this (by rw [hh]; simp)

/-- Where it lies behind a step. -/
def AlB.on (B B' : AlB) (w : World) : Prop := B'.b = B.b ∧ (B'.pb = B.pb ∨ ∃ x, B'.pb = some x ∧ w.heap.size ≤ x) ∧ (B'.gb = B.gb ∨ ∃ x, B'.gb = some x ∧ w.heap.size ≤ x)
/-- Who wants words, or gives back, is there. -/
def AlP (B : AlB) (a : AlX) : Prop := (a.x.pc = 2 → ∃ b, B.pb = some b) ∧ (a.x.pc = 7 → ∃ b, B.gb = some b)
def StepPost (w : World) (m : MB) (B : AlB) (b : Bool) (s' : MS) (a' : AlX) (e : Ending) (w' : World) : Prop :=
  e = .returned (.bool b) ∧ MemR w' m s' ∧ (∃ B', AlR w' m B' a' ∧ B.on B' w ∧ AlP B' a') ∧ Only (m.l ++ B.all) w w'

theorem AlR.keep {w' : World} (h : AlR w m B a) (hb : Blk w' B.b ({ a'.x with pv := ptrO B.pb, gv := ptrO B.gb } : AlS).cs 150) (hp : a'.p = a.p) (hg : a'.g = a.g) (ho : Only [m.b, m.wb, m.hb, B.b] w w') : AlR w' m B a' :=
  ⟨hb, fun x hx => by
    rw [hp]
    obtain ⟨h1, h2, h3, h4⟩ := h.p_ne hx
    exact (h.p x hx).only ho (by simp only [List.mem_cons, List.not_mem_nil, or_false, not_or]; exact ⟨h1, h2, h3, h4⟩), fun x hx => by
    rw [hg]
    obtain ⟨h1, h2, h3, h4⟩ := h.g_ne hx
    exact (h.g x hx).only ho (by simp only [List.mem_cons, List.not_mem_nil, or_false, not_or]; exact ⟨h1, h2, h3, h4⟩), h.nm, h.nd⟩
theorem only_all {w' : World} (ho : Only [m.b, m.wb, m.hb, B.b] w w') : Only (m.l ++ B.all) w w' :=
  ho.mono (fun x hx _ => by
    simp only [List.mem_cons, List.not_mem_nil, or_false] at hx
    unfold AlB.all
    simp only [List.mem_append, List.mem_cons, List.not_mem_nil, or_false]
    omega)
theorem AlB.on_self (B : AlB) (w : World) : B.on B w := ⟨rfl, .inl rfl, .inl rfl⟩
theorem post_keep {e : Ending} {w' : World} (hR : AlR w m B a) (he : e = .returned (.bool b)) (hm : MemR w' m s') (hb : Blk w' B.b ({ a'.x with pv := ptrO B.pb, gv := ptrO B.gb } : AlS).cs 150) (hp : a'.p = a.p) (hg : a'.g = a.g) (ho : Only [m.b, m.wb, m.hb, B.b] w w') (hP : AlP B a') : StepPost w m B b s' a' e w' :=
  ⟨he, hm, ⟨B, hR.keep hb hp hg ho, B.on_self w, hP⟩, only_all ho⟩
theorem alp_no {B : AlB} {a : AlX} (h2 : a.x.pc ≠ 2) (h7 : a.x.pc ≠ 7) : AlP B a := ⟨fun h => absurd h h2, fun h => absurd h h7⟩

theorem alloc_step (hk : k.Ok) (hI : AlI k n s B a) (hst : allocStep k wh s a = (b, s', a')) (hm : MemR w m s) (hR : AlR w m B a) :
    Calls Try.prog 97 #[.pointer (some ⟨B.b, 0, none⟩), .agg #[.int .i64 k.t, .int .i64 k.s, .int .i64 k.c, .int .i64 k.w, .int .i64 k.g, .int .i64 k.p, .int .i64 k.r, .pointer (some ⟨m.b, 0, none⟩), .int .i64 wh]] w (StepPost w m B b s' a') := by
  obtain ⟨n1, n2, n3⟩ := hR.b_ne
  unfold allocStep at hst
  rcases hI.pc with h | h | h | h | h | h | h | h
  · rw [if_pos h] at hst
    by_cases hc : cls a.x.sz < 0
    · rw [if_pos hc] at hst
      simp only [Prod.mk.injEq] at hst
      obtain ⟨rfl, rfl, rfl⟩ := hst
      exact (astep0_size k wh _ B.b hm hR.blk h hc n1 n2 n3).mono fun e w' ⟨q1, q2, q3, q4⟩ => post_keep hR q1 q2 q3 rfl rfl q4 (alp_no (by first | omega | (simp only; omega)) (by first | omega | (simp only; omega)))
    · rw [if_neg hc] at hst
      have hc0 : 0 ≤ cls a.x.sz := by omega
      rcases ht : takeStep k wh s a.x.t with ⟨bt, s1, t1⟩
      rw [ht] at hst
      cases bt
      · simp only [Prod.mk.injEq] at hst
        obtain ⟨rfl, rfl, rfl⟩ := hst
        exact (astep0_go k wh _ B.b hm hR.blk h hc0 ht (hI.t h) n1 n2 n3).mono fun e w' ⟨q1, q2, q3, q4⟩ => post_keep hR q1 q2 q3 rfl rfl q4 (alp_no (by first | omega | (simp only; omega)) (by first | omega | (simp only; omega)))
      · simp only at hst
        by_cases hok : t1.ok = true
        · rw [if_pos hok] at hst
          simp only [Prod.mk.injEq] at hst
          obtain ⟨rfl, rfl, rfl⟩ := hst
          exact (astep0_got k wh _ B.b hm hR.blk h hc0 ht hok (hI.t h) n1 n2 n3).mono fun e w' ⟨q1, q2, q3, q4⟩ => post_keep hR q1 q2 q3 rfl rfl q4 (alp_no (by first | omega | (simp only; omega)) (by first | omega | (simp only; omega)))
        · rw [if_neg hok] at hst
          simp only [Prod.mk.injEq] at hst
          obtain ⟨rfl, rfl, rfl⟩ := hst
          exact (astep0_none k wh _ B.b hm hR.blk h hc0 ht (by simpa using hok) (hI.t h) n1 n2 n3).mono fun e w' ⟨q1, q2, q3, q4⟩ => post_keep hR q1 q2 q3 rfl rfl q4 (alp_no (by first | omega | (simp only; omega)) (by first | omega | (simp only; omega)))
  · rw [if_neg (by omega), if_pos h] at hst
    simp only [Prod.mk.injEq] at hst
    obtain ⟨rfl, rfl, rfl⟩ := hst
    refine (astep1 k wh _ B.b hm hR.blk h n1 n2 n3).mono fun e w' ⟨q1, q2, ⟨pb, q5, q6, q3, q7⟩, q4⟩ => ⟨q1, q2, ⟨⟨B.b, some pb, B.gb⟩, ⟨q3, fun x hx => ?_, fun x hx => ?_, fun x hx => ?_, ?_⟩, ⟨rfl, .inr ⟨pb, rfl, q5⟩, .inl rfl⟩, fun _ => ⟨pb, rfl⟩, fun hh => by simp at hh⟩, only_all q4⟩
    · cases hx; exact q7
    · obtain ⟨h1, h2, h3, h4⟩ := hR.g_ne hx
      exact (hR.g x hx).only q4 (by simp only [List.mem_cons, List.not_mem_nil, or_false, not_or]; exact ⟨h1, h2, h3, h4⟩)
    · unfold AlB.all at hx
      simp only [Option.toList, List.mem_cons, List.mem_append, List.not_mem_nil, or_false] at hx
      rcases hx with rfl | rfl | hx
      · simp only [List.mem_cons, List.not_mem_nil, or_false, not_or]; exact ⟨n1, n2, n3⟩
      · simp only [List.mem_cons, List.not_mem_nil, or_false, not_or] at q6 ⊢; exact ⟨q6.1, q6.2.1, q6.2.2.1⟩
      · refine hR.nm x ?_
        unfold AlB.all
        simp only [List.mem_cons, List.mem_append]
        exact .inr (.inr hx)
    · have hbl := hR.blk.lt
      unfold AlB.all
      cases hgb : B.gb with
      | none => simp; omega
      | some y =>
        have hyl := (hR.g y hgb).lt
        have hyb := (hR.g_ne hgb).2.2.2
        simp
        omega
  · obtain ⟨⟨pb, hpb⟩, hM, hPI⟩ := hI.p h
    obtain ⟨p1, p2, p3, p4⟩ := hR.p_ne hpb
    have hpv : ptrO B.pb = .pointer (some ⟨pb, 0, none⟩) := by rw [hpb]; rfl
    rw [if_neg (by omega), if_neg (by omega), if_pos h] at hst
    have hgk : ∀ {w' : World}, Only [m.b, m.wb, m.hb, B.b, pb] w w' → ∀ y, B.gb = some y → Blk w' y a.g.cs 142 := fun ho y hy => by
      obtain ⟨h1, h2, h3, h4⟩ := hR.g_ne hy
      exact (hR.g y hy).only ho (by simp only [List.mem_cons, List.not_mem_nil, or_false, not_or]; exact ⟨h1, h2, h3, h4, fun hh => hR.pg_ne hpb hy hh.symm⟩)
    have hoa : ∀ {w' : World}, Only [m.b, m.wb, m.hb, B.b, pb] w w' → Only (m.l ++ B.all) w w' := fun ho => ho.mono (fun x hx _ => by
      unfold AlB.all
      rw [hpb]
      simp only [List.mem_cons, List.not_mem_nil, or_false] at hx
      simp only [Option.toList, List.mem_append, List.mem_cons, List.not_mem_nil, or_false]
      omega)
    rcases ht : placeStep k wh s a.p with ⟨bt, s1, p1'⟩
    rw [ht] at hst
    cases bt
    · simp only [Prod.mk.injEq] at hst
      obtain ⟨rfl, rfl, rfl⟩ := hst
      exact (astep2_go pb k wh _ B.b hm hR.blk h hpv (hR.p pb hpb) hk hM hPI ht n1 n2 n3 p1 p2 p3 p4).mono fun e w' ⟨q1, q2, q3, q5, q4⟩ => ⟨q1, q2, ⟨B, ⟨q3, fun x hx => by rw [hpb] at hx; cases hx; exact q5, hgk q4, hR.nm, hR.nd⟩, B.on_self w, fun _ => ⟨pb, hpb⟩, fun hh => absurd hh (by simp only; omega)⟩, hoa q4⟩
    · simp only at hst
      by_cases hok : p1'.ok = true
      · rw [if_pos hok] at hst
        simp only [Prod.mk.injEq] at hst
        obtain ⟨rfl, rfl, rfl⟩ := hst
        exact (astep2_got pb k wh _ B.b hm hR.blk h hpv (hR.p pb hpb) hk hM hPI ht hok n1 n2 n3 p1 p2 p3 p4).mono fun e w' ⟨q1, q2, q3, q5, q4⟩ => ⟨q1, q2, ⟨B, ⟨q3, fun x hx => by rw [hpb] at hx; cases hx; exact q5, hgk q4, hR.nm, hR.nd⟩, B.on_self w, alp_no (by simp) (by simp)⟩, hoa q4⟩
      · rw [if_neg hok] at hst
        simp only [Prod.mk.injEq] at hst
        obtain ⟨rfl, rfl, rfl⟩ := hst
        refine (astep2_none pb k wh _ B.b hm hR.blk h hpv (hR.p pb hpb) hk hM hPI ht (by simpa using hok) n1 n2 n3 p1 p2 p3 p4).mono fun e w' ⟨q1, q2, ⟨gb, q6, q7, q3, q8⟩, q5, q4⟩ => ⟨q1, q2, ⟨⟨B.b, B.pb, some gb⟩, ⟨q3, fun x hx => by rw [hpb] at hx; cases hx; exact q5, fun x hx => by cases hx; exact q8, fun x hx => ?_, ?_⟩, ⟨rfl, .inl rfl, .inr ⟨gb, rfl, q6⟩⟩, fun hh => by simp at hh, fun _ => ⟨gb, rfl⟩⟩, hoa q4⟩
        · unfold AlB.all at hx
          rw [hpb] at hx
          simp only [Option.toList, List.mem_cons, List.mem_append, List.not_mem_nil, or_false] at hx
          simp only [List.mem_cons, List.not_mem_nil, or_false, not_or] at q7 ⊢
          rcases hx with rfl | rfl | rfl
          · exact ⟨n1, n2, n3⟩
          · exact ⟨p1, p2, p3⟩
          · exact ⟨q7.1, q7.2.1, q7.2.2.1⟩
        · unfold AlB.all
          simp only [List.mem_cons, List.not_mem_nil, or_false, not_or] at q7
          rw [hpb]
          simp
          omega
  · rw [if_neg (by omega), if_neg (by omega), if_neg (by omega), if_pos h] at hst
    simp only [Prod.mk.injEq] at hst
    obtain ⟨rfl, rfl, rfl⟩ := hst
    exact (astep3 k wh _ B.b hm hR.blk h (hI.cl (by omega)) n1 n2 n3).mono fun e w' ⟨q1, q2, q3, q4⟩ => post_keep hR q1 q2 q3 rfl rfl q4 (alp_no (by first | omega | (simp only; omega)) (by first | omega | (simp only; omega)))
  · rw [if_neg (by omega), if_neg (by omega), if_neg (by omega), if_neg (by omega), if_pos h] at hst
    simp only [Prod.mk.injEq] at hst
    obtain ⟨rfl, rfl, rfl⟩ := hst
    exact (astep4 k wh _ B.b hm hR.blk h n1 n2 n3).mono fun e w' ⟨q1, q2, q3, q4⟩ => post_keep hR q1 q2 q3 rfl rfl q4 (alp_no (by first | omega | (simp only; omega)) (by first | omega | (simp only; omega)))
  · rw [if_neg (by omega), if_neg (by omega), if_neg (by omega), if_neg (by omega), if_neg (by omega), if_pos h] at hst
    simp only [Prod.mk.injEq] at hst
    obtain ⟨rfl, rfl, rfl⟩ := hst
    exact (astep5 k wh _ B.b hm hR.blk h n1 n2 n3).mono fun e w' ⟨q1, q2, q3, q4⟩ => post_keep hR q1 q2 q3 rfl rfl q4 (alp_no (by first | omega | (simp only; omega)) (by first | omega | (simp only; omega)))
  · rw [if_neg (by omega), if_neg (by omega), if_neg (by omega), if_neg (by omega), if_neg (by omega), if_neg (by omega), if_pos h] at hst
    simp only [Prod.mk.injEq] at hst
    obtain ⟨rfl, rfl, rfl⟩ := hst
    exact (astep6 k wh _ B.b hm hR.blk h n1 n2 n3).mono fun e w' ⟨q1, q2, q3, q4⟩ => post_keep hR q1 q2 q3 rfl rfl q4 (alp_no (by first | omega | (simp only; omega)) (by first | omega | (simp only; omega)))
  · obtain ⟨⟨gb, hgb⟩, g1, g2, g3, g4⟩ := hI.g h
    obtain ⟨p1, p2, p3, p4⟩ := hR.g_ne hgb
    have hgv : ptrO B.gb = .pointer (some ⟨gb, 0, none⟩) := by rw [hgb]; rfl
    rw [if_neg (by omega), if_neg (by omega), if_neg (by omega), if_neg (by omega), if_neg (by omega), if_neg (by omega), if_neg (by omega)] at hst
    rcases ht : giveStep k wh s a.g with ⟨bt, s1, g1'⟩
    rw [ht] at hst
    simp only [Prod.mk.injEq] at hst
    obtain ⟨rfl, rfl, rfl⟩ := hst
    exact (astep7 gb k wh _ B.b hm hR.blk h hgv (hR.g gb hgb) ht g1 g2 g3 g4 n1 n2 n3 p1 p2 p3 p4).mono fun e w' ⟨q1, q2, q3, q5, q4⟩ => ⟨q1, q2, ⟨B, ⟨q3, fun x hx => by
      obtain ⟨h1, h2, h3, h4⟩ := hR.p_ne hx
      exact (hR.p x hx).only q4 (by simp only [List.mem_cons, List.not_mem_nil, or_false, not_or]; exact ⟨h1, h2, h3, h4, hR.pg_ne hx hgb⟩), fun x hx => by rw [hgb] at hx; cases hx; exact q5, hR.nm, hR.nd⟩, B.on_self w, fun hh => absurd hh (by simp only; omega), fun _ => ⟨gb, hgb⟩⟩, q4.mono (fun x hx _ => by
      unfold AlB.all
      rw [hgb]
      simp only [List.mem_cons, List.not_mem_nil, or_false] at hx
      simp only [Option.toList, List.mem_append, List.mem_cons, List.not_mem_nil, or_false]
      omega)⟩
end
end Go.Proofs.Yteoimmjgnflmmaa
