/-
  PlaceShares, walked.
-/
import Derived.Test.YteoimmjgnflmmaaLawPh
import Derived.Test.YteoimmjgnflmmaaTm
import Derived.Test.YteoimmjgnflmmaaFrC
namespace Go.Proofs.Yteoimmjgnflmmaa
open Go.RowKit Go.BigFrame

theorem kR_len {n : Int} (n0 : 1 ≤ n) (n1 : n ≤ 64) : aLen (kR n) = 12 + 23 * n := by
  have : aLen (kR n) = 12 + 3 * n + 20 * n := kR_base n0 n1 (by show 0 ≤ n; omega) (by show n ≤ 65536; omega)
  omega
/-- What a step that is done by words comes to, in numbers. -/
structure GNum (a : Nat) (s2 : MS) (p p2 : PlS) (i bs us : Int) (sN RN : Nat) : Prop where
  i0 : 0 ≤ i
  i1 : i < 1 + (a : Int)
  sc : p2.sc = i
  sa : p2.sa = sN
  rm : room p.cl = RN
  r0 : 3 ≤ RN
  r1 : RN ≤ 17
  st : chSt (cw (kR (1 + (a : Int))) s2 i) = 1
  cl : chCl (cw (kR (1 + (a : Int))) s2 i) = p.cl
  usE : chUs (cw (kR (1 + (a : Int))) s2 i) = us
  u0 : 0 ≤ us
  u1 : us ≤ 20
  len : sN + RN ≤ 35 + 23 * a
  o1 : aOf (kR (1 + (a : Int))) sN = i
  o2 : aOf (kR (1 + (a : Int))) ((sN : Int) + RN - 1) = i
  bsE : aBase (kR (1 + (a : Int))) i = bs
  b0 : 0 ≤ bs
  b1 : bs ≤ 1000
  le : (sN : Int) + RN - bs ≤ us
theorem gn_wraps {sN RN : Nat} {bs us : Int} (g1 : (sN : Int) + RN ≤ 1000) (g3 : 0 ≤ bs) (g4 : bs ≤ 1000) (g5 : (sN : Int) + RN - bs ≤ us) :
    IntKind.i64.wrap ((sN : Int) + RN) = (sN : Int) + RN ∧ IntKind.i64.wrap ((sN : Int) + RN - 1) = (sN : Int) + RN - 1 ∧ IntKind.i64.wrap ((sN : Int) + RN - bs) = (sN : Int) + RN - bs ∧ decide (us < (sN : Int) + RN - bs) = false := by
  refine ⟨?_, ?_, ?_, decide_eq_false (by omega)⟩
  · rw [IntWalk.i64_left]; unfold wrap64; omega
  · rw [IntWalk.i64_left]; unfold wrap64; omega
  · rw [IntWalk.i64_left]; unfold wrap64; omega
theorem got_num {a : Nat} (ha : a < 8) {s s2 : MS} {p p2 : PlS} (hG : Got (kR (1 + (a : Int))) (1 + a) s s2 p p2) (hc : p.cl = 0 ∨ p.cl = 1 ∨ p.cl = 2 ∨ p.cl = 3) : ∃ i bs us sN RN, GNum a s2 p p2 i bs us sN RN := by
  obtain ⟨i, hi0, hi1, hsc, hsa, hst1, hcl1, hus1, hus2⟩ := hG
  have hrm := room_rng hc
  have hchr := (ch_rng (cw (kR (1 + (a : Int))) s i)).2.2.2.2.1
  have hbs := kR_base (n := 1 + (a : Int)) (by omega) (by omega) hi0 (by omega)
  rw [show (kR (1 + (a : Int))).w = 20 from rfl, hus1] at hus2
  rw [hbs] at hsa
  have key : ∀ r u : Int, room p.cl = r → chUs (cw (kR (1 + (a : Int))) s i) = u → ∃ i bs us sN RN, GNum a s2 p p2 i bs us sN RN := fun r u hr hu => by
    rw [hr, hu] at hus1 hus2
    rw [hr] at hrm
    rw [hu] at hsa hchr
    refine ⟨i, 12 + 3 * (1 + (a : Int)) + 20 * i, u + r, (12 + 3 * (1 + (a : Int)) + 20 * i + u).toNat, r.toNat, ⟨hi0, by omega, hsc, ?_, ?_, by omega, by omega, hst1, hcl1, hus1, by omega, by omega, by omega, ?_, ?_, hbs, by omega, by omega, by omega⟩⟩
    · rw [hsa]; omega
    · rw [hr]; omega
    · exact kR_of (n := 1 + (a : Int)) (by omega) (by omega) hi0 (by omega) (by omega) (by omega)
    · exact kR_of (n := 1 + (a : Int)) (by omega) (by omega) hi0 (by omega) (by omega) (by omega)
  exact key _ _ rfl rfl
theorem got_free {a : Nat} (ha : a < 8) {s s2 : MS} {p p2 : PlS} {gl : List Bool} {i bs us : Int} {sN RN : Nat} (h : GotOk (kR (1 + (a : Int))) (1 + a) s gl) (hJ : PJ (kR (1 + (a : Int))) (1 + a) s) (hg : Got (kR (1 + (a : Int))) (1 + a) s s2 p p2) (hN : GNum a s2 p p2 i bs us sN RN) : ∀ x : Nat, sN ≤ x → x < sN + RN → gl.getD x false = false := fun x h0 h1 => by
  have e : (1 + (a : Int)) = ((1 + a : Nat) : Int) := by omega
  have h2 := hN.sa
  have h3 := hN.rm
  rw [e] at h hJ hg
  refine GotOk.new (by omega) (by omega) h hJ hg (x := x) ?_ ?_
  · rw [h2]; omega
  · rw [h2, h3]; omega
theorem got_note {a : Nat} {s s2 : MS} {p p2 : PlS} {gl : List Bool} {i bs us : Int} {sN RN : Nat} (h : GotOk (kR (1 + (a : Int))) (1 + a) s2 gl) (hg : Got (kR (1 + (a : Int))) (1 + a) s s2 p p2) (hN : GNum a s2 p p2 i bs us sN RN) {x : Nat} (h0 : sN ≤ x) (h1 : x < sN + RN) : GotOk (kR (1 + (a : Int))) (1 + a) s2 (gl.set x true) := by
  have e : (1 + (a : Int)) = ((1 + a : Nat) : Int) := by omega
  have h2 := hN.sa
  have h3 := hN.rm
  rw [e] at h hg ⊢
  refine GotOk.set h hg (x := x) ?_ ?_
  · rw [h2]; omega
  · rw [h2, h3]; omega
/-- What is so on the way. -/
structure PSt (k : Cfg) (N L : Nat) (s : MS) (f : Nat → Wt) (d : Nat → Int) (gl : List Bool) : Prop where
  pm : PM k N s
  pj : PJ k N s
  got : GotOk k N s gl
  len : gl.length = L
  th : ∀ i, i < 3 → (f i).on = true → PI N (f i).p ∧ PT k (f i).p ∧ (f i).p.cl = d i

theorem ne_past {x y : Nat} (h : y < x) : x ≠ y ∧ x + 1 ≠ y := ⟨by omega, by omega⟩
theorem Only.cells0 {w w1 : World} (h : Only [] w w1) : (∀ b o, b < w.heap.size → w1.cell? ⟨b, o, none⟩ = w.cell? ⟨b, o, none⟩) ∧ (∀ b o, b < w.heap.size → w1.frozen? ⟨b, o, none⟩ = w.frozen? ⟨b, o, none⟩) :=
  ⟨fun b o hb => World.cell?_of_block (w := w) (h.block b hb (by simp)), fun b o hb => by
    have := h.block b hb (by simp)
    simp only [World.frozen?, this]⟩
theorem PWd.step' {w wr w1 : World} {m : MB} {k : Cfg} {wh : Int} {eb wb cb gb : Nat} {s s' : MS} {f : Nat → Wt} {d : Nat → Int} {gl : List Bool} {i tb : Nat} (h : PWd w wr m k wh eb wb cb gb s f d gl) (a : PA w m eb wb cb gb) (hi : i < 3) (hon : (f i).on = true) (htb : (f i).b = tb) {p' : PlS} (h1 : MemR w1 m s') (h2 : Blk w1 tb p'.cs 145) (h3 : Only [m.b, m.wb, m.hb, tb] wr w1) :
    PWd w w1 m k wh eb wb cb gb s' (updW f i ⟨true, p', tb⟩) d gl := by
  subst htb
  exact h.step a hi hon h1 h2 h3
theorem PWd.make' {w wr : World} {m : MB} {k : Cfg} {wh : Int} {eb wb cb gb : Nat} {s : MS} {f : Nat → Wt} {d : Nat → Int} {gl : List Bool} {i : Nat} (h : PWd w wr m k wh eb wb cb gb s f d gl) (a : PA w m eb wb cb gb) (hi : i < 3) (p : PlS) {b : Nat} (hb : b = wr.heap.size) :
    PWd w ((wr.setCell ⟨wb, i, none⟩ (.pointer (some ⟨b, 0, none⟩))).alloc (.cells p.cs 145)) m k wh eb wb cb gb s (updW f i ⟨true, p, b⟩) d gl := by
  have := h.make a hi p hb
  rw [World.setCell_alloc_past _ _ _ _ h.who.lt] at this
  exact this
theorem PSt.make {k : Cfg} {N L : Nat} {s : MS} {f : Nat → Wt} {d : Nat → Int} {gl : List Bool} {κ : Nat} (h : PSt k N L s f d gl) {c : Int} (hc : c = 0 ∨ c = 1 ∨ c = 2 ∨ c = 3) (b : Nat) : PSt k N L s (updW f κ ⟨true, pl0 c, b⟩) (updD d κ c) gl :=
  ⟨h.pm, h.pj, h.got, h.len, fun i hi ho => by
    by_cases hik : i = κ
    · subst hik
      rw [updW_at]
      exact ⟨pl0_PI hc, ⟨rfl, fun hh => (by simp [pl0] at hh), fun hh => (by simp [pl0] at hh)⟩, by simp [updD, pl0]⟩
    · rw [updW_ne _ _ _ _ hik] at ho ⊢
      have := h.th i hi ho
      simpa [updD, hik] using this⟩
theorem PWd.at {w wr : World} {m : MB} {k : Cfg} {wh : Int} {eb wb cb gb : Nat} {s : MS} {f : Nat → Wt} {d : Nat → Int} {gl : List Bool} {i tb : Nat} (h : PWd w wr m k wh eb wb cb gb s f d gl) (hi : i < 3) (hon : (f i).on = true) (htb : (f i).b = tb) :
    wr.cell? ⟨wb, i, none⟩ = some (.pointer (some ⟨tb, 0, none⟩)) := by
  rw [h.who.cell i, who3_get f i hi]
  unfold Wt.ptr
  rw [if_pos hon, htb]
/-- Boxes of the call's own, apart from what the others are. -/
structure PBx (w wr : World) (m : MB) (k : Cfg) (eb wb cb gb : Nat) (s : MS) (f : Nat → Wt) (d : Nat → Int) (gl : List Bool) (sb : Nat) (sa sc : Int) : Prop where
  pw : PWd w wr m k 0 eb wb cb gb s f d gl
  sp : Blk wr sb #[.int .i64 sa, .int .i64 sc] 103
  sg : sb ≠ gb
theorem PBx.only0 {w wr w1 : World} {m : MB} {k : Cfg} {eb wb cb gb : Nat} {s : MS} {f : Nat → Wt} {d : Nat → Int} {gl : List Bool} {sb : Nat} {sa sc : Int} (h : PBx w wr m k eb wb cb gb s f d gl sb sa sc) (ho : Only [] wr w1) : PBx w w1 m k eb wb cb gb s f d gl sb sa sc :=
  ⟨h.pw.only0 ho, h.sp.only ho (by simp), h.sg⟩
theorem PBx.drew {w wr : World} {m : MB} {k : Cfg} {eb wb cb gb : Nat} {s : MS} {f : Nat → Wt} {d : Nat → Int} {gl : List Bool} {sb : Nat} {sa sc : Int} (h : PBx w wr m k eb wb cb gb s f d gl sb sa sc) : PBx w wr.drew m k eb wb cb gb s f d gl sb sa sc := h.only0 (Only.refl [] wr).drew
theorem PBx.alloc {w wr : World} {m : MB} {k : Cfg} {eb wb cb gb : Nat} {s : MS} {f : Nat → Wt} {d : Nat → Int} {gl : List Bool} {sb : Nat} {sa sc : Int} (h : PBx w wr m k eb wb cb gb s f d gl sb sa sc) (o : Obj) : PBx w (wr.alloc o) m k eb wb cb gb s f d gl sb sa sc := h.only0 ((Only.refl [] wr).alloc o)

set_option maxRecDepth 100000 in
set_option maxHeartbeats 12800000 in
theorem pshares_walk (chunks : Int) (_hs : I64 chunks) (A : Option Addr) (n c : Nat) (xs : List Int) (_hx : ∀ x ∈ xs, I64 x) (A2 : Option Addr) (n2 c2 : Nat) (ys : List Int) (_hy : ∀ x ∈ ys, I64 x) (w : World) (hS : Slc (Value.int .i64) w A n xs) (hT : Slc (Value.int .i64) w A2 n2 ys) : Calls Try.prog 24 #[.int .i64 chunks, .slice A n c, .slice A2 n2 c2] w fun e w' => e = .returned (.bool true) ∧ Only [] w w' := by
  obtain ⟨a, ha, hsl⟩ := iand7n chunks
  have hmost := hS.most
  have hmost2 := hT.most
  unfold maxLen at hmost hmost2
  have hk : (kR (1 + (a : Int))).Ok := kR_ok (by omega) (by omega)
  have h60 : (kR (1 + (a : Int))).s ≤ 60000 := by show (1 : Int) ≤ 60000; decide
  have HK := Lib.hid hk
  have H60 := Lib.hid h60
  clear hk h60
  go_enter Try.func24, Try.ntmps24
  go_wp2_with fail
  refine (arena_yes (kR (1 + (a : Int))) HK.out rfl rfl rfl _).mono ?_
  rintro e w1 ⟨m, rfl, hm1, hn1, ho1⟩
  obtain ⟨hl1, hl2, hl3⟩ := hm1.lts
  obtain ⟨hn1, hn2, hn3⟩ := hn1
  have hz := ho1.size
  have hnx : w1.heap.size ∉ m.l := hm1.notin (Nat.le_refl _)
  have hP := Lib.hid (fresh_PM HK.out H60.out (n := 1 + a) (by show 1 + (a : Int) = _; omega) hm1.rng)
  have hJ := Lib.hid (fresh_PJ HK.out H60.out (n := 1 + a) (by show 1 + (a : Int) = _; omega))
  have hW : EW w (w1.alloc (.cells #[.int .i64 (kR (1 + (a : Int))).t, .int .i64 (kR (1 + (a : Int))).s, .int .i64 (kR (1 + (a : Int))).c, .int .i64 (kR (1 + (a : Int))).w, .int .i64 (kR (1 + (a : Int))).g, .int .i64 (kR (1 + (a : Int))).p, .int .i64 (kR (1 + (a : Int))).r, .pointer (some ⟨m.b, 0, none⟩), .int .i64 0] 47)) m (kR (1 + (a : Int))) 0 w1.heap.size (freshS (kR (1 + (a : Int)))) := ⟨hm1.alloc _, Blk.new _ _ _, ho1.alloc _⟩
  clear hm1 ho1
  go_wp2_with fail
  refine (awake7 _).mono ?_
  rintro e w2 ⟨rfl, ho2⟩
  have hz2 := ho2.size
  simp only [World.size_alloc] at hz2
  have hWb : EW w w2 m (kR (1 + (a : Int))) 0 w1.heap.size (freshS (kR (1 + (a : Int)))) := ⟨hW.mem.only ho2 (by simp) (by simp) (by simp), hW.env.only ho2 (by simp), hW.only.trans' ho2 (fun _ h _ => h)⟩
  clear hW ho2
  go_wp2
  have hlen := kR_len (n := 1 + (a : Int)) (by omega) (by omega)
  obtain ⟨L, hLa⟩ : ∃ L : Nat, L = 35 + 23 * a := ⟨_, rfl⟩
  have hL : aLen (kR (1 + (a : Int))) = (L : Int) := by rw [hlen]; omega
  have hLb : L ≤ 1048576 := by omega
  have HLA := Lib.hid hLa
  clear hlen hLa
  have q56 := run_make56 L hLb
  have hlc : ∀ w', Calls Try.prog 41 #[.agg #[.int .i64 (kR (1 + (a : Int))).t, .int .i64 (kR (1 + (a : Int))).s, .int .i64 (kR (1 + (a : Int))).c, .int .i64 (kR (1 + (a : Int))).w, .int .i64 (kR (1 + (a : Int))).g, .int .i64 (kR (1 + (a : Int))).p, .int .i64 (kR (1 + (a : Int))).r]] w' fun e w2 => e = .returned (.int .i64 L) ∧ w2 = (w'.alloc (.cells #[.int .i64 (kR (1 + (a : Int))).t, .int .i64 (kR (1 + (a : Int))).s, .int .i64 (kR (1 + (a : Int))).c, .int .i64 (kR (1 + (a : Int))).w, .int .i64 (kR (1 + (a : Int))).g, .int .i64 (kR (1 + (a : Int))).p, .int .i64 (kR (1 + (a : Int))).r] 23)).alloc (.cells #[.int .i64 (kR (1 + (a : Int))).t, .int .i64 (kR (1 + (a : Int))).s, .int .i64 (kR (1 + (a : Int))).c, .int .i64 (kR (1 + (a : Int))).w, .int .i64 (kR (1 + (a : Int))).g, .int .i64 (kR (1 + (a : Int))).p, .int .i64 (kR (1 + (a : Int))).r] 23) := fun w' => by
    have := lena_any w' (kR (1 + (a : Int)))
    rw [hL] at this
    exact this
  have HL := Lib.hid hL
  clear hL
  have hW1 := ((hWb.alloc (.cells #[.pointer none, .pointer none, .pointer none] 111)).alloc (.cells #[.int .i64 0, .int .i64 0, .int .i64 0] 121)).drew
  have hE0 := hWb.env
  go_region_held3 (fun w' => ∀ o, w'.cell? ⟨w1.heap.size, o, none⟩ = (#[.int .i64 (kR (1 + (a : Int))).t, .int .i64 (kR (1 + (a : Int))).s, .int .i64 (kR (1 + (a : Int))).c, .int .i64 (kR (1 + (a : Int))).w, .int .i64 (kR (1 + (a : Int))).g, .int .i64 (kR (1 + (a : Int))).p, .int .i64 (kR (1 + (a : Int))).r, .pointer (some ⟨m.b, 0, none⟩), .int .i64 0] : Array Value)[o]?) ((refine Blk.cell (T := 47) ?_; repeat (first | with_reducible assumption | with_reducible apply Blk.drew | with_reducible apply Blk.alloc | (with_reducible refine Blk.only ?_ (by with_reducible assumption) (by first | exact List.not_mem_nil | with_reducible assumption)) | (with_reducible refine Blk.other ?_ _ _ (by simp only; omega)))))
    (first | (go_at_call 41; with_reducible refine (hlc _).mono ?_; rintro e w' ⟨rfl, rfl⟩))
  clear hW1
  have hA : PA w m w1.heap.size w2.heap.size (w2.heap.size + 1) (w2.heap.size + 1 + 1 + 1 + 1) := ⟨hn1, hn2, hn3, hz, by omega, by omega, by omega, hnx, by simp only [List.mem_cons, List.not_mem_nil, or_false, not_or]; omega, by simp only [List.mem_cons, List.not_mem_nil, or_false, not_or]; omega, by simp only [List.mem_cons, List.not_mem_nil, or_false, not_or]; omega, by omega, by omega, by omega, by omega, by omega, by omega⟩
  have hW : PWd w ((((((w2.alloc (Obj.cells #[.pointer none, .pointer none, .pointer none] 111)).alloc (Obj.cells #[.int .i64 0, .int .i64 0, .int .i64 0] 121)).alloc (Obj.cells #[.int .i64 (kR (1 + (a : Int))).t, .int .i64 (kR (1 + (a : Int))).s, .int .i64 (kR (1 + (a : Int))).c, .int .i64 (kR (1 + (a : Int))).w, .int .i64 (kR (1 + (a : Int))).g, .int .i64 (kR (1 + (a : Int))).p, .int .i64 (kR (1 + (a : Int))).r] 23)).alloc (Obj.cells #[.int .i64 (kR (1 + (a : Int))).t, .int .i64 (kR (1 + (a : Int))).s, .int .i64 (kR (1 + (a : Int))).c, .int .i64 (kR (1 + (a : Int))).w, .int .i64 (kR (1 + (a : Int))).g, .int .i64 (kR (1 + (a : Int))).p, .int .i64 (kR (1 + (a : Int))).r] 23)).alloc (Obj.cells (bools (List.replicate L false)) 4)).drew) m (kR (1 + (a : Int))) 0 w1.heap.size w2.heap.size (w2.heap.size + 1) (w2.heap.size + 1 + 1 + 1 + 1) (freshS (kR (1 + (a : Int)))) (fun _ => ⟨false, pl0 0, 0⟩) (fun _ => 0) (List.replicate L false) :=
    ⟨(((((hWb.alloc _).alloc _).alloc _).alloc _).alloc _).drew, (((((Blk.new w2 _ 111).alloc _).alloc _).alloc _).alloc _).drew, ((((Blk.new' (by simp) rfl : Blk _ _ _ 121).alloc _).alloc _).alloc _).drew, (Blk.new' (by simp) rfl : Blk _ _ _ 4).drew, (fun _ _ hh => by cases hh), (fun _ _ hh => by cases hh), (fun _ _ _ _ _ hh => by cases hh)⟩
  have hX : PSt (kR (1 + (a : Int))) (1 + a) L (freshS (kR (1 + (a : Int)))) (fun _ => ⟨false, pl0 0, 0⟩) (fun _ => 0) (List.replicate L false) :=
    ⟨hP.out, hJ.out, fun x hx => (by rw [List.getD_eq_getElem?_getD, List.getElem?_replicate] at hx; split at hx <;> cases hx), by simp, (fun _ _ hh => by cases hh)⟩
  clear hWb hE0 q56 hlc
  go_wp2
  go_loopw [14, 12] (fun i t wr => ∃ (j u : Nat) (s : MS) (f : Nat → Wt) (d : Nat → Int) (gl : List Bool), i = .int .i64 j ∧ t = .int .i64 u ∧ j ≤ 400 ∧ u ≤ n ∧ PWd w wr m (kR (1 + (a : Int))) 0 w1.heap.size w2.heap.size (w2.heap.size + 1) (w2.heap.size + 1 + 1 + 1 + 1) s f d gl ∧ PSt (kR (1 + (a : Int))) (1 + a) L s f d gl) (fun i _ _ => 400 - (intOf i).toNat)
  case atStart => exact ⟨0, 0, _, _, _, _, rfl, rfl, by omega, by omega, hW, hX⟩
  case round =>
    clear hW hX
    obtain ⟨j, u, s, f, d, gl, rfl, rfl, hj, hu, hW, hX⟩ := hrel
    have hEc := hW.ew.env.cell
    by_cases hjn : j < n2
    · by_cases h400 : j < 400
      · obtain ⟨bb, off, rfl, hbb, _⟩ := hT.cells (by omega)
        obtain ⟨bb', off', hadr, _, hcell⟩ := (hT.only hW.ew.only).cells (by omega)
        cases hadr
        have hcj := hcell j hjn
        clear hcell
        obtain ⟨z, hz4⟩ : ∃ z, ys.getD j default = z := ⟨_, rfl⟩
        rw [hz4] at hcj
        obtain ⟨r, κ, hκ, hr1, hr2, hr, hk3⟩ := tmod3p z
        have hκ0 : (0 : Int) ≤ (κ : Int) := by omega
        have hκ3 : (κ : Int) < 3 := by omega
        clear hz4
        have hwc : wr.cell? ⟨w2.heap.size, κ, none⟩ = some (f κ).ptr := (hW.who.cell κ).trans (who3_get f κ hκ)
        obtain ⟨qp, hqp⟩ : ∃ qp, (f κ).ptr = .pointer qp := by unfold Wt.ptr; split <;> exact ⟨_, rfl⟩
        rw [hqp] at hwc
        have HQP := Lib.hid hqp
        clear hqp
        go_upto_if 61 with fail
        go_cut [12] (fun s12 wx => ∃ (v : Nat) (f : Nat → Wt) (d : Nat → Int), s12 = .int .i64 v ∧ v ≤ n ∧ (f κ).on = true ∧ PWd w wx m (kR (1 + (a : Int))) 0 w1.heap.size w2.heap.size (w2.heap.size + 1) (w2.heap.size + 1 + 1 + 1 + 1) s f d gl ∧ PSt (kR (1 + (a : Int))) (1 + a) L s f d gl)
        case first =>
          rcases hon : (f κ).on
          · have hpw : (f κ).ptr = .pointer none := by unfold Wt.ptr; rw [hon]; rfl
            have hqq := HQP.out
            rw [hpw] at hqq
            cases hqq
            clear hpw
            have hfw := hW.who.frozen
            have hfc := hW.cls.frozen
            have hcc : wr.cell? ⟨(w2.heap.size + 1), κ, none⟩ = some (.int .i64 (d κ)) := (hW.cls.cell κ).trans (cls3_get d κ hκ)
            have hlw := hW.who.lt
            have hlc := hW.cls.lt
            by_cases hun : u < n
            · obtain ⟨bb2, off2, rfl, hbb2, _⟩ := hS.cells (by omega)
              obtain ⟨bb2', off2', hadr2, _, hcell2⟩ := (hS.only hW.ew.only).cells (by omega)
              cases hadr2
              have hcu := hcell2 u hun
              clear hcell2
              obtain ⟨zc, hzc⟩ : ∃ zc, xs.getD u default = zc := ⟨_, rfl⟩
              rw [hzc] at hcu
              clear hzc
              obtain ⟨d', hd', hzd⟩ := iand3n zc
              have HON := Lib.hid hon
              clear hon
              have hcu2 : ∀ v, (wr.setCell ⟨(w2.heap.size + 1), κ, none⟩ v).cell? ⟨bb2, off2 + u, none⟩ = some (.int .i64 zc) := fun v => by
                rw [World.cell?_setCell_other]
                · exact hcu
                · intro hh
                  have := congrArg Addr.block hh
                  simp only at this
                  omega
              go_wp2_with (first | (go_at_call 84; refine (plnew_any _ _).mono ?_; rintro e w' ⟨rfl, rfl⟩))
              go_meet
              exact ⟨u + 1, _, _, by go_num, hun, by rw [updW_at], (hW.setD hA hκ (d' : Int)).make' hA hκ ⟨(d' : Int), 0, 0, 0, 0, 0, 0, false⟩ (b := wr.heap.size) (by simp), hX.make (κ := κ) (c := (d' : Int)) (by omega) wr.heap.size⟩
            · go_wp2
              go_roundw
              case rel => exact ⟨j + 1, u, s, f, d, gl, by go_num, by go_num, by omega, by omega, hW, hX⟩
              case measure => simp [intOf]; omega
          · have hpw : (f κ).ptr = .pointer (some ⟨(f κ).b, 0, none⟩) := by unfold Wt.ptr; rw [if_pos hon]
            have hqq := HQP.out
            rw [hpw] at hqq
            cases hqq
            clear hpw
            go_wp2
            go_meet
            exact ⟨u, f, d, rfl, hu, hon, hW, hX⟩
        case rest =>
          clear hEc hcj hwc hW hX
          obtain ⟨u, f, d, rfl, hUU, hon, hW, hX⟩ := hcut
          obtain ⟨hI, hPT, hcl⟩ := hX.th κ hκ hon
          obtain ⟨nb1, nb2⟩ := hW.nb κ hκ hon
          have hbl := hW.ths κ hκ hon
          obtain ⟨p, hp0⟩ : ∃ p, (f κ).p = p := ⟨_, rfl⟩
          obtain ⟨tb, htb⟩ : ∃ tb, (f κ).b = tb := ⟨_, rfl⟩
          rw [hp0] at hI hPT hcl hbl
          rw [htb] at nb1 nb2 hbl
          rcases hst : placeStep (kR (1 + (a : Int))) 0 s p with ⟨b, s2, p2⟩
          obtain ⟨_, _, _, hM2, hI2, hcl2, _⟩ := place_law HK.out hX.pm hI hst
          obtain ⟨hJ2, hU2, hT2, hG2⟩ := place_share HK.out hX.pm hI hX.pj hPT hst
          have hGO := hX.got.up hU2
          have n1 : tb ≠ m.b := fun hh => nb2 (by simp [hh])
          have n2' : tb ≠ m.wb := fun hh => nb2 (by simp [hh])
          have n3 : tb ≠ m.hb := fun hh => nb2 (by simp [hh])
          have HON := Lib.hid hon
          have HI := Lib.hid hI
          have HST := Lib.hid hst
          have HP0 := Lib.hid hp0
          have HTB := Lib.hid htb
          have HCL := Lib.hid hcl
          have HM2 := Lib.hid hM2
          have HI2 := Lib.hid hI2
          have HCL2 := Lib.hid hcl2
          have HJ2 := Lib.hid hJ2
          have HT2 := Lib.hid hT2
          have HG2 := Lib.hid hG2
          have HGO := Lib.hid hGO
          have HX := Lib.hid hX
          have NB := Lib.hid nb2
          have hWd := hW.drew
          have hEd := hWd.ew.env.cell
          have hBd := hbl.drew
          have hcd := hWd.at hκ hon htb
          clear hon hI hst hp0 htb hcl hM2 hI2 hcl2 hJ2 hU2 hT2 hG2 hGO hX nb2 hbl hPT hW
          go_wp2
          first
            | go_region_held3 (fun w' => (∀ o, w'.cell? ⟨w1.heap.size, o, none⟩ = (#[.int .i64 (kR (1 + (a : Int))).t, .int .i64 (kR (1 + (a : Int))).s, .int .i64 (kR (1 + (a : Int))).c, .int .i64 (kR (1 + (a : Int))).w, .int .i64 (kR (1 + (a : Int))).g, .int .i64 (kR (1 + (a : Int))).p, .int .i64 (kR (1 + (a : Int))).r, .pointer (some ⟨m.b, 0, none⟩), .int .i64 0] : Array Value)[o]?) ∧ w'.cell? ⟨w2.heap.size, κ, none⟩ = some (.pointer (some ⟨tb, 0, none⟩))) (first | exact ⟨hEd, hcd⟩ | exact ⟨hE3, hc3⟩)
                (first
                  | (go_at_call 85; with_reducible refine (place_step tb HK.out HX.out.pm HI.out HST.out hWd.ew.mem hBd n1 n2' n3).mono ?_; rintro e w3 ⟨rfl, h31, hB3, h33⟩; have hW3 := hWd.step' hA hκ HON.out HTB.out h31 hB3 h33; have hE3 := hW3.ew.env.cell; have hc3 := hW3.at hκ (by rw [updW_at]) (by rw [updW_at])))
            | fail "region 16"
          all_goals
            obtain ⟨f3, hf3⟩ : ∃ f3, updW f κ ⟨true, p2, tb⟩ = f3 := ⟨_, rfl⟩
            rw [hf3] at hW3
            have hf3κ : f3 κ = ⟨true, p2, tb⟩ := by rw [← hf3, updW_at]
            have hf3n : ∀ i, i ≠ κ → f3 i = f i := fun i hi => by rw [← hf3, updW_ne _ _ _ _ hi]
            have hl3 : tb < w3.heap.size := hB3.lt
            have hk3 := hW3.who.lt
            have HF3 := Lib.hid hf3κ
            have HFN := Lib.hid hf3n
            clear hf3 hf3κ hf3n h31 h33 hWd hEd hBd hcd
            cases b
            · go_wp2
              go_roundw
              case rel =>
                refine ⟨j + 1, u, s2, f3, d, gl, by go_num, by go_num, by omega, by omega, hW3, ⟨HM2.out, HJ2.out, HGO.out, HX.out.len, fun i hi ho => ?_⟩⟩
                by_cases hik : i = κ
                · subst hik
                  rw [HF3.out]
                  exact ⟨HI2.out rfl, HT2.out rfl, HCL2.out.trans HCL.out⟩
                · rw [HFN.out i hik] at ho ⊢
                  exact HX.out.th i hi ho
              case measure => simp [intOf]; omega
            · have hsp := spot_any p2 tb hB3
              have hoff := hW3
              rcases hok : p2.ok
              · have hres : PlS.res p2 = .agg #[.int .i64 0, .int .i64 0] := by unfold PlS.res; rw [hok]; rfl
                rw [hok, hres] at hsp
                clear hok hres
                go_wp2_with fail
                refine hsp.mono ?_
                rintro e w4 ⟨rfl, ho4⟩
                have hW4 := hW3.only0 ho4
                have hw4 := hW4.who.lt
                have hf4 := hW4.who.frozen
                have hc4 := hW4.at hκ (show (f3 κ).on = true by rw [HF3.out]) (show (f3 κ).b = tb by rw [HF3.out])
                clear hc3 hE3
                go_wp2
                go_roundw
                case rel =>
                  refine ⟨j + 1, u, s2, _, d, gl, by go_num, by go_num, by omega, by omega, (hW4.off hA hκ).alloc _, ⟨HM2.out, HJ2.out, HGO.out, HX.out.len, fun i hi ho => ?_⟩⟩
                  by_cases hik : i = κ
                  · subst hik
                    rw [updW_at] at ho
                    cases ho
                  · rw [updW_ne _ _ _ _ hik, HFN.out i hik] at ho ⊢
                    exact HX.out.th i hi ho
                case measure => simp [intOf]; omega
              · have hG := HG2.out rfl hok
                have HGG := Lib.hid hG
                obtain ⟨i, bs, us, sN, RN, hN⟩ := got_num ha hG HI.out.cl
                have hres : PlS.res p2 = .agg #[.int .i64 sN, .int .i64 i] := by unfold PlS.res; rw [if_pos hok, if_pos hok, hN.sc, hN.sa]
                rw [hok, hres] at hsp
                have hi0 := hN.i0
                have hi1 := hN.i1
                have HN := Lib.hid hN
                clear hN hok hres hG
                go_wp2_with fail
                refine hsp.mono ?_
                rintro e w4 ⟨rfl, ho4⟩
                have hW4 := hW3.only0 ho4
                have hw4 := hW4.who.lt
                have hf4 := hW4.who.frozen
                have hc4 := hW4.at hκ (show (f3 κ).on = true by rw [HF3.out]) (show (f3 κ).b = tb by rw [HF3.out])
                clear hc3 hE3
                go_wp2
                have hW5 := (hW4.off hA hκ).alloc (.cells #[.int .i64 sN, .int .i64 i] 103)
                obtain ⟨f4, hf4⟩ : ∃ f4, updW f3 κ ⟨false, (f3 κ).p, (f3 κ).b⟩ = f4 := ⟨_, rfl⟩
                rw [hf4] at hW5
                have hf4n : (f4 κ).on = false ∧ ∀ i, i ≠ κ → f4 i = f3 i := ⟨by rw [← hf4, updW_at], fun i hi => by rw [← hf4, updW_ne _ _ _ _ hi]⟩
                have HF4 := Lib.hid hf4n
                clear hf4 hf4n
                have hgl4 := hW4.got.lt
                have hSB : Blk ((w4.setCell ⟨w2.heap.size, κ, none⟩ (.pointer none)).alloc (.cells #[.int .i64 sN, .int .i64 i] 103)) w4.heap.size #[.int .i64 sN, .int .i64 i] 103 := Blk.new' (by simp) rfl
                have hP5 : PBx w ((w4.setCell ⟨w2.heap.size, κ, none⟩ (.pointer none)).alloc (.cells #[.int .i64 sN, .int .i64 i] 103)) m (kR (1 + (a : Int))) w1.heap.size w2.heap.size (w2.heap.size + 1) (w2.heap.size + 1 + 1 + 1 + 1) s2 f4 d gl w4.heap.size sN i := ⟨hW5, hSB, by omega⟩
                clear hW5 hSB hc4 hf4 hW4 hW3
                obtain ⟨w5, hw5⟩ : ∃ w5, (w4.setCell ⟨w2.heap.size, κ, none⟩ (.pointer none)).alloc (.cells #[.int .i64 sN, .int .i64 i] 103) = w5 := ⟨_, rfl⟩
                rw [hw5] at hP5 ⊢
                obtain ⟨sb, hsb⟩ : ∃ sb, w4.heap.size = sb := ⟨_, rfl⟩
                rw [hsb] at hP5 ⊢
                clear hw5
                obtain ⟨v, hv⟩ : ∃ v, cw (kR (1 + (a : Int))) s2 i = v := ⟨_, rfl⟩
                have hget : s2.get (aChunk (kR (1 + (a : Int))) i) = v := by rw [get_ok _ _ (HM2.out.okC HK.out hi0 (by omega)), ← hv]; rfl
                have hvU : U64 v := by rw [← hv]; exact HM2.out.at_rng _
                have hpk : ∀ w', MemR w' m s2 → Calls Try.prog 44 #[.pointer (some ⟨m.b, 0, none⟩), .int .i64 (aChunk (kR (1 + (a : Int))) i)] w' fun e w2 => e = .returned (.int .u64 v) ∧ w' = w2 := fun w' h => by
                  have := peek_any (a := aChunk (kR (1 + (a : Int))) i) h
                  rw [hget] at this
                  exact this
                have hcw : ∀ w', Calls Try.prog 83 #[.int .u64 v] w' fun e w2 => e = .returned (.agg #[.int .i64 1, .int .i64 (d κ), .int .i64 us, .int .i64 (chSp v)]) ∧ Only [] w' w2 := fun w' => by
                  have := chunk_word v w' hvU
                  rw [← hv, HN.out.st, HN.out.cl, HN.out.usE, HCL.out, hv] at this
                  exact this
                clear hget hv hvU
                have hM0 := hP5.pw.ew.mem
                have hE0 := hP5.pw.ew.env
                have hS0 := hP5.sp
                have hP0 := hP5.pw
                have hsl5 := hS0.lt
                have hgl5 := hP0.got.lt
                go_cut [18] (fun s18 wx => ∃ kb, s18 = .pointer (some ⟨kb, 0, none⟩) ∧ PBx w wx m (kR (1 + (a : Int))) w1.heap.size w2.heap.size (w2.heap.size + 1) (w2.heap.size + 1 + 1 + 1 + 1) s2 f4 d gl sb sN i ∧ Blk wx kb #[.int .i64 1, .int .i64 (d κ), .int .i64 us, .int .i64 (chSp v)] 107 ∧ kb ≠ (w2.heap.size + 1 + 1 + 1 + 1))
                case first =>
                  go_region_held3 (fun w' => (∀ o, w'.cell? ⟨w1.heap.size, o, none⟩ = (#[.int .i64 (kR (1 + (a : Int))).t, .int .i64 (kR (1 + (a : Int))).s, .int .i64 (kR (1 + (a : Int))).c, .int .i64 (kR (1 + (a : Int))).w, .int .i64 (kR (1 + (a : Int))).g, .int .i64 (kR (1 + (a : Int))).p, .int .i64 (kR (1 + (a : Int))).r, .pointer (some ⟨m.b, 0, none⟩), .int .i64 0] : Array Value)[o]?) ∧ (∀ o, w'.cell? ⟨sb, o, none⟩ = (#[.int .i64 sN, .int .i64 i] : Array Value)[o]?)) ((refine ⟨?_, ?_⟩; (focus (refine Blk.cell (T := 47) ?_; repeat (first | with_reducible assumption | with_reducible apply Blk.drew | with_reducible apply Blk.alloc | (with_reducible refine Blk.only ?_ (by with_reducible assumption) (by first | exact List.not_mem_nil | with_reducible assumption)) | (with_reducible refine Blk.other ?_ _ _ (by simp only; omega))))); (focus (refine Blk.cell (T := 103) ?_; repeat (first | with_reducible assumption | with_reducible apply Blk.drew | with_reducible apply Blk.alloc | (with_reducible refine Blk.only ?_ (by with_reducible assumption) (by first | exact List.not_mem_nil | with_reducible assumption)) | (with_reducible refine Blk.other ?_ _ _ (by simp only; omega)))))))
                    (first
                      | (go_at_call 50; with_reducible refine (chunka_any _ (kR (1 + (a : Int))) _).mono ?_; rintro e w' ⟨rfl, rfl⟩)
                      | (go_at_call 44; with_reducible refine (hpk _ (by repeat (first | with_reducible assumption | with_reducible apply MemR.drew | with_reducible apply MemR.alloc | (with_reducible refine MemR.only ?_ (by with_reducible assumption) List.not_mem_nil List.not_mem_nil List.not_mem_nil) | (with_reducible refine MemR.other ?_ _ _ (by simp only; omega) (by simp only; omega) (by simp only; omega))))).mono ?_; rintro e w' ⟨rfl, rfl⟩)
                      | (go_at_call 83; with_reducible refine (hcw _).mono ?_; rintro e w' ⟨rfl, ho83⟩; obtain ⟨q831, q832⟩ := ho83.cells0; have hz83 := ho83.size; simp only [World.size_alloc, World.size_drew] at hz83))
                  all_goals
                    go_wp2_with fail
                    go_meet
                    refine ⟨_, rfl, hP5.only0 ?_, ?_, (by first | with_reducible exact (ne_past hgl5).1 | with_reducible exact (ne_past hgl5).2 | with_reducible exact (ne_past (Nat.lt_of_lt_of_le hgl5 (Nat.le_of_succ_le hz83))).1 | with_reducible exact (ne_past (Nat.lt_of_lt_of_le hgl5 (Nat.le_of_succ_le (Nat.le_of_succ_le hz83)))).1)⟩
                    · repeat (first | with_reducible exact Only.refl _ _ | (with_reducible refine Only.setCell ?_ _ _ (fun hh => absurd hh (by simp only; first | exact Nat.lt_irrefl _ | exact Nat.not_lt.2 (Nat.le_add_right _ _)))) | with_reducible apply Only.alloc | with_reducible apply Only.drew | (with_reducible refine Only.trans' ?_ ho83 (fun _ h _ => h)))
                    · first
                        | with_reducible exact Blk.new' rfl rfl
                        | (refine (((((show Blk w' _ #[.int .i64 0, .int .i64 0, .int .i64 0, .int .i64 0] 107 from Blk.only ?_ ho83 (by simp)).set 0 _ rfl).set 1 _ rfl).set 2 _ rfl).set 3 _ rfl); (repeat (first | with_reducible exact Blk.new' (by simp) rfl | with_reducible apply Blk.drew | with_reducible apply Blk.alloc)))
                case rest =>
                  obtain ⟨kb, rfl, hP6, hKB, hkg⟩ := hcut
                  clear hP5 hpk hcw hM0 hE0 hS0 hP0 hsl5 hgl5
                  have hcl6 : wc.cell? ⟨(w2.heap.size + 1), κ, none⟩ = some (.int .i64 (d κ)) := (hP6.pw.cls.cell κ).trans (cls3_get d κ hκ)
                  have hrr : ∀ w', Calls Try.prog 37 #[.int .i64 (d κ)] w' fun e w2 => e = .returned (.int .i64 RN) ∧ Only [] w' w2 := fun w' => by
                    have := refroom_any p.cl w' HI.out.cl
                    rw [HN.out.rm, HCL.out] at this
                    exact this
                  go_wp2_with fail
                  refine (hrr _).mono ?_
                  rintro e w7 ⟨rfl, ho7⟩
                  have hP7 := hP6.only0 ho7
                  have hKB7 := hKB.only ho7 (by simp)
                  clear hP6 hKB hcl6 hrr ho7
                  have hPd := hP7.drew
                  have hKd := hKB7.drew
                  have hof1 : ∀ w', Calls Try.prog 52 #[.agg #[.int .i64 (kR (1 + (a : Int))).t, .int .i64 (kR (1 + (a : Int))).s, .int .i64 (kR (1 + (a : Int))).c, .int .i64 (kR (1 + (a : Int))).w, .int .i64 (kR (1 + (a : Int))).g, .int .i64 (kR (1 + (a : Int))).p, .int .i64 (kR (1 + (a : Int))).r], .int .i64 sN] w' fun e w2 => e = .returned (.int .i64 i) ∧ Only [] w' w2 := fun w' => by
                    have := of_any (kR (1 + (a : Int))) HK.out (sN : Int) w' (by have := HN.out.len; omega) (by have := HN.out.len; omega)
                    rw [HN.out.o1] at this
                    exact this
                  have hof2 : ∀ w', Calls Try.prog 52 #[.agg #[.int .i64 (kR (1 + (a : Int))).t, .int .i64 (kR (1 + (a : Int))).s, .int .i64 (kR (1 + (a : Int))).c, .int .i64 (kR (1 + (a : Int))).w, .int .i64 (kR (1 + (a : Int))).g, .int .i64 (kR (1 + (a : Int))).p, .int .i64 (kR (1 + (a : Int))).r], .int .i64 ((sN : Int) + RN - 1)] w' fun e w2 => e = .returned (.int .i64 i) ∧ Only [] w' w2 := fun w' => by
                    have := of_any (kR (1 + (a : Int))) HK.out ((sN : Int) + RN - 1) w' (by have := HN.out.len; have := HN.out.r0; omega) (by have := HN.out.len; have := HN.out.r0; omega)
                    rw [HN.out.o2] at this
                    exact this
                  have hbs : ∀ w', Calls Try.prog 51 #[.agg #[.int .i64 (kR (1 + (a : Int))).t, .int .i64 (kR (1 + (a : Int))).s, .int .i64 (kR (1 + (a : Int))).c, .int .i64 (kR (1 + (a : Int))).w, .int .i64 (kR (1 + (a : Int))).g, .int .i64 (kR (1 + (a : Int))).p, .int .i64 (kR (1 + (a : Int))).r], .int .i64 i] w' fun e w2 => e = .returned (.int .i64 bs) ∧ w2 = w'.alloc (.cells #[.int .i64 (kR (1 + (a : Int))).t, .int .i64 (kR (1 + (a : Int))).s, .int .i64 (kR (1 + (a : Int))).c, .int .i64 (kR (1 + (a : Int))).w, .int .i64 (kR (1 + (a : Int))).g, .int .i64 (kR (1 + (a : Int))).p, .int .i64 (kR (1 + (a : Int))).r] 23) := fun w' => by
                    have := base_any w' (kR (1 + (a : Int))) i
                    rw [HN.out.bsE] at this
                    exact this
                  have g1 : (sN : Int) + RN ≤ 1000 := by have := HN.out.len; omega
                  have g2 : (3 : Int) ≤ RN := by have := HN.out.r0; omega
                  have g3 : 0 ≤ bs := HN.out.b0
                  have g4 : bs ≤ 1000 := HN.out.b1
                  have g5 : (sN : Int) + RN - bs ≤ us := HN.out.le
                  have g6 : us ≤ 20 := HN.out.u1
                  obtain ⟨e1, e2, e3, e4⟩ := gn_wraps g1 g3 g4 g5
                  go_wp2
                  refine qc_enter (fun w' => PBx w w' m (kR (1 + (a : Int))) w1.heap.size w2.heap.size (w2.heap.size + 1) (w2.heap.size + 1 + 1 + 1 + 1) s2 f4 d gl sb sN i ∧ Blk w' kb #[.int .i64 1, .int .i64 (d κ), .int .i64 us, .int .i64 (chSp v)] 107) (by kernel_rfl) (by kernel_rfl) ?_ ?_
                  focus (exact ⟨hPd, hKd⟩)
                  repeat (first
                    | go_big_quiet_skip
                    | (go_big_quiet_want
                       apply Exists.intro
                       refine ⟨fun wq hq => ?_, ?_⟩
                       focus
                         (obtain ⟨hq1, hq2⟩ := hq; have hc1 := hq1.pw.ew.env.cell; have hc2 := hq1.sp.cell; have hc3 := hq2.cell; have hc4 : wq.cell? ⟨(w2.heap.size + 1), κ, none⟩ = some (.int .i64 (d κ)) := (hq1.pw.cls.cell κ).trans (cls3_get d κ hκ))
                         unfold Oper.quietAt
                         go_simp
                         (first
                           | done
                           | with_reducible exact rfl
                           | with_reducible exact ⟨rfl, rfl⟩
                           | (first | (go_at_call 52; with_reducible refine (hof1 _).mono ?_; rintro e w' ⟨rfl, ho⟩; exact ⟨rfl, hq1.only0 ho, hq2.only ho (by simp)⟩) | (go_at_call 52; with_reducible refine (hof2 _).mono ?_; rintro e w' ⟨rfl, ho⟩; exact ⟨rfl, hq1.only0 ho, hq2.only ho (by simp)⟩) | (go_at_call 51; with_reducible refine (hbs _).mono ?_; rintro e w' ⟨rfl, rfl⟩; exact ⟨rfl, hq1.alloc _, hq2.alloc _⟩)))
                       (try simp only [Act.put, List.setIfInBounds_toArray, List.set_cons_zero, List.set_cons_succ])
                       go_big_quiet_on))
                  refine wpQuiet_nil ?_
                  intro wq hq
                  obtain ⟨hq1, hq2⟩ := hq
                  clear hPd hKd hof1 hof2 hbs e1 e2 e3 e4 g3 g4 g5 g6 hP7 hKB7 hq2
                  have hnew := got_free ha HX.out.got HX.out.pj HGG.out HN.out
                  have HNW := Lib.hid hnew
                  clear hnew
                  go_wp2
                  go_loopw [20] (fun x wr => ∃ (q : Nat) (gl' : List Bool), x = .int .i64 q ∧ q ≤ RN ∧ PBx w wr m (kR (1 + (a : Int))) w1.heap.size w2.heap.size (w2.heap.size + 1) (w2.heap.size + 1 + 1 + 1 + 1) s2 f4 d gl' sb sN i ∧ GotOk (kR (1 + (a : Int))) (1 + a) s2 gl' ∧ gl'.length = L ∧ ∀ y : Nat, sN + q ≤ y → y < sN + RN → gl'.getD y false = false) (fun x _ => RN - (intOf x).toNat)
                  case atStart => exact ⟨0, gl, rfl, by omega, hq1, HGO.out, HX.out.len, fun y h0 h1 => HNW.out y (by omega) h1⟩
                  case round =>
                    clear hq1
                    obtain ⟨q, gl', rfl, hq, hP, hGl, hlen, hfree⟩ := hrel
                    have HGl := Lib.hid hGl
                    have HFR := Lib.hid hfree
                    have HLEN := Lib.hid hlen
                    clear hGl hfree hlen
                    have hSc := hP.sp.cell
                    have hgf := hP.pw.got.frozen
                    have hgc : q < RN → wr.cell? ⟨(w2.heap.size + 1 + 1 + 1 + 1), sN + q, none⟩ = some (.bool false) := fun h => by
                      rw [hP.pw.got.cell, bools_get _ _ (by rw [HLEN.out]; have := HN.out.len; have := HLA.out; omega), HFR.out _ (by omega) (by omega)]
                    have hsL : q < RN → (sN : Int) + q < L := fun h => by have := HN.out.len; have := HLA.out; omega
                    by_cases hqr : q < RN
                    · replace hgc := hgc hqr
                      replace hsL := hsL hqr
                      have ht : ((sN : Int) + q).toNat = sN + q := by omega
                      go_wp2
                      go_roundw
                      case rel => exact ⟨q + 1, gl'.set (sN + q) true, by go_num, by omega, ⟨hP.pw.note hA _ _, hP.sp.other _ _ hP.sg, hP.sg⟩, got_note HGl.out HGG.out HN.out (x := sN + q) (by omega) (by omega), by simpa using HLEN.out, fun y h0 h1 => by
                        have := HFR.out y (by omega) h1
                        simpa [List.getD, List.getElem?_set_ne (show sN + q ≠ y by omega)] using this⟩
                      case measure => simp [intOf]; omega
                    · go_wp2
                      go_roundw
                      case rel =>
                        refine ⟨j + 1, u, s2, f4, d, gl', by go_num, by go_num, by omega, by omega, hP.pw, ⟨HM2.out, HJ2.out, HGl.out, HLEN.out, fun i' hi ho => ?_⟩⟩
                        by_cases hik : i' = κ
                        · subst hik
                          rw [HF4.out.1] at ho
                          cases ho
                        · rw [HF4.out.2 i' hik, HFN.out i' hik] at ho ⊢
                          exact HX.out.th i' hi ho
                      case measure => simp [intOf]; omega
      · skip
        go_wp2
        go_ret
        exact ⟨rfl, hW.ew.only⟩
    · skip
      go_wp2
      go_ret
      exact ⟨rfl, hW.ew.only⟩

end Go.Proofs.Yteoimmjgnflmmaa
