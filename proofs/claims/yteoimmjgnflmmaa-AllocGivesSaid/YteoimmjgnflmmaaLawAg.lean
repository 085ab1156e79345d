/-
  AllocGives, walked.
-/
import Derived.Test.YteoimmjgnflmmaaLawAt
namespace Go.Proofs.Yteoimmjgnflmmaa
open Go.RowKit Go.BigFrame

def kG (n : Int) : Cfg := ⟨1, n, 1, 17, 100, 600, 3⟩
theorem kG_ok {n : Int} (n0 : 1 ≤ n) (n1 : n ≤ 60000) : (kG n).Ok := by
  unfold kG
  constructor <;> simp only <;> omega
def gMake (n : Int) (s : MS) (z : Int) : MS × Int := ((allocRun (kG n) 0 400 s (al0 z false)).1, (allocRun (kG n) 0 400 s (al0 z false)).2.x.er)
/-- So many small ones may be made from here. -/
def gTail (n : Int) : Nat → MS → Bool
  | 0, _ => true
  | j + 1, s => (gMake n s 1).2 == 0 && gTail n j (gMake n s 1).1
/-- .. and that also behind each great one that there is no room for. -/
def gAll (n : Int) (m : Nat) : Nat → MS → Bool
  | 0, s => gTail n m s
  | t + 1, s => gTail n m s && ((gMake n s 16).2 == (if n = 1 then 7 else 6) && gAll n m t (gMake n s 16).1)
set_option maxRecDepth 100000 in
theorem g_facts : ∀ a, a < 8 → ((gMake (1 + ((a : Nat) : Int)) (freshS (kG (1 + (a : Int)))) 2).2 == 0 && gAll (1 + (a : Int)) (min a 4) 15 (gMake (1 + (a : Int)) (freshS (kG (1 + (a : Int)))) 2).1) = true := by decide +kernel
theorem gAll_tail {n : Int} {m t : Nat} {s : MS} (h : gAll n m t s = true) : gTail n m s = true := by
  cases t with
  | zero => exact h
  | succ t => unfold gAll at h; simp only [Bool.and_eq_true] at h; exact h.1
theorem field125 : ∀ (a b c d : Int) (w : World), (Instr.field 125 (.agg #[.int .i64 a, .int .u64 b, .int .i64 c, .int .i64 d]) 0).run Try.prog w = .ok (.int .i64 a) w := fun _ _ _ _ _ => by kernel_rfl
/-- A Make, in a law's own world. -/
theorem g_make {w wr : World} {m : MB} {n : Int} {N eb : Nat} {T : Int} {s : MS} {l : List Int} (z : Int) (hn0 : 1 ≤ n) (hn : n ≤ 60000) (hS : ASh (kG n) 1 N T s l) (hT : T ≤ 1000000) (hW : EW w wr m (kG n) 0 eb s) (he : eb ∉ m.l) (hlm : ∀ x, x ∈ m.l → x < w.heap.size → x ∈ ([] : List Nat)) {r : Int} (hr : (gMake n s z).2 = r) :
    Calls Try.prog 94 #[.agg #[.int .i64 (kG n).t, .int .i64 (kG n).s, .int .i64 (kG n).c, .int .i64 (kG n).w, .int .i64 (kG n).g, .int .i64 (kG n).p, .int .i64 (kG n).r, .pointer (some ⟨m.b, 0, none⟩), .int .i64 0], .int .i64 z, .bool false] wr fun e w' =>
      (∃ h v t : Int, e = .returned (.agg #[.int .i64 r, .int .u64 h, .int .i64 v, .int .i64 t])) ∧ EW w w' m (kG n) 0 eb (gMake n s z).1 ∧ ∃ l', ASh (kG n) 1 N (T + 400) (gMake n s z).1 l' := by
  have hk := kG_ok hn0 hn
  have hN : N ≤ 60000 := by have := hS.ns; have e : (kG n).s = n := rfl; omega
  have hA := allocRun_ASh (wh := 0) hk hN 400 T s l (al0 z false) (by omega) hS (al0_ATh z false)
  refine (make_alone (wh := 0) (sF := (gMake n s z).1) (aF := (allocRun (kG n) 0 400 s (al0 z false)).2) z false hk hN hS hT rfl hW.mem).mono fun e w' ⟨q1, q2, q3⟩ => ?_
  refine ⟨⟨(allocRun (kG n) 0 400 s (al0 z false)).2.x.hd, (allocRun (kG n) 0 400 s (al0 z false)).2.x.va, (allocRun (kG n) 0 400 s (al0 z false)).2.x.st, ?_⟩, hW.step he hlm q2 q3, hA⟩
  rw [q1, ← hr]
  rfl

set_option maxRecDepth 100000 in
set_option maxHeartbeats 6400000 in
theorem agives_walk (slots : Int) (_hs : I64 slots) (times : Int) (_ht : I64 times) (w : World) : Calls Try.prog 26 #[.int .i64 slots, .int .i64 times] w fun e w' => e = .returned (.bool true) ∧ Only [] w w' := by
  obtain ⟨a, ha, hsl⟩ := iand7n slots
  obtain ⟨t, ht, htl⟩ := iand15n times
  have hk : (kG (1 + (a : Int))).Ok := kG_ok (by omega) (by omega)
  have h60 : (kG (1 + (a : Int))).s ≤ 60000 := by show 1 + (a : Int) ≤ 60000; omega
  have hfd := field125
  have hg := g_facts a ha
  simp only [Bool.and_eq_true, beq_iff_eq] at hg
  obtain ⟨hg1, hg2⟩ := hg
  have HK := Lib.hid hk
  have H60 := Lib.hid h60
  have HG1 := Lib.hid hg1
  have HG2 := Lib.hid hg2
  clear hk h60 hg1 hg2
  go_enter Try.func26, Try.ntmps26
  go_wp2_with fail
  refine (arena_yes (kG (1 + (a : Int))) HK.out rfl rfl rfl _).mono ?_
  rintro e w1 ⟨m, rfl, hm1, hn1, ho1⟩
  obtain ⟨hl1, hl2, hl3⟩ := hm1.lts
  obtain ⟨hn1, hn2, hn3⟩ := hn1
  have hz := ho1.size
  have hnx : w1.heap.size ∉ m.l := hm1.notin (Nat.le_refl _)
  have hlm : ∀ x, x ∈ m.l → x < w.heap.size → x ∈ ([] : List Nat) := fun x hx hlt => by
    simp only [List.mem_cons, List.not_mem_nil, or_false] at hx; omega
  have hS := fresh_ASh HK.out H60.out (n := 1) (N := 1 + a) rfl (by show 1 + (a : Int) = _; omega) hm1.rng
  have HS := Lib.hid hS
  have hW : EW w (w1.alloc (.cells #[.int .i64 (kG (1 + (a : Int))).t, .int .i64 (kG (1 + (a : Int))).s, .int .i64 (kG (1 + (a : Int))).c, .int .i64 (kG (1 + (a : Int))).w, .int .i64 (kG (1 + (a : Int))).g, .int .i64 (kG (1 + (a : Int))).p, .int .i64 (kG (1 + (a : Int))).r, .pointer (some ⟨m.b, 0, none⟩), .int .i64 0] 47)) m (kG (1 + (a : Int))) 0 w1.heap.size (freshS (kG (1 + (a : Int)))) := ⟨hm1.alloc _, Blk.new _ _ _, ho1.alloc _⟩
  clear hm1 ho1 hS
  go_wp2_with fail
  refine (awake8 _).mono ?_
  rintro e w2 ⟨rfl, ho2⟩
  have hWb : EW w w2 m (kG (1 + (a : Int))) 0 w1.heap.size (freshS (kG (1 + (a : Int)))) := ⟨hW.mem.only ho2 (by simp) (by simp) (by simp), hW.env.only ho2 (by simp), hW.only.trans' ho2 (fun _ h _ => h)⟩
  clear hW ho2
  have hEc := hWb.env.cell
  go_wp2_with fail
  refine (g_make (n := 1 + (a : Int)) 2 (by omega) (by omega) HS.out (by decide) hWb hnx hlm HG1.out).mono ?_
  rintro e w3 ⟨⟨h3, v3, t3, rfl⟩, hW3, l3, hS3⟩
  obtain ⟨s3, hs3⟩ : ∃ s3, (gMake (1 + (a : Int)) (freshS (kG (1 + (a : Int)))) 2).1 = s3 := ⟨_, rfl⟩
  have hg2 := HG2.out
  rw [hs3] at hW3 hS3 hg2
  have HS3 := Lib.hid hS3
  have HG3 := Lib.hid hg2
  clear hEc hWb hs3 hS3 hg2
  go_wp2
  go_loopw [8] (fun i wr => ∃ (j : Nat) (s : MS) (l : List Int), i = .int .i64 j ∧ j ≤ t ∧ EW w wr m (kG (1 + (a : Int))) 0 w1.heap.size s ∧ ASh (kG (1 + (a : Int))) 1 (1 + a) (400 + 400 * (j : Int)) s l ∧ gAll (1 + (a : Int)) (min a 4) (15 - j) s = true) (fun i _ => 15 - (intOf i).toNat)
  case atStart => exact ⟨0, s3, l3, rfl, by omega, hW3, by simpa using HS3.out, HG3.out⟩
  case round =>
    clear hW3
    obtain ⟨j, s, l, rfl, hj, hW, hS, hg⟩ := hrel
    have hEc := hW.env.cell
    by_cases hjt : j < t
    · have hf : 15 - j = (15 - (j + 1)) + 1 := by omega
      rw [hf] at hg
      unfold gAll at hg
      simp only [Bool.and_eq_true, beq_iff_eq] at hg
      obtain ⟨_, hg1, hg2⟩ := hg
      have HG1 := Lib.hid hg1
      have HG2 := Lib.hid hg2
      have HS := Lib.hid hS
      clear hg1 hg2 hS hf
      by_cases ha0 : a = 0
      · have hr : (gMake (1 + (a : Int)) s 16).2 = 7 := by rw [HG1.out, if_pos (by omega)]
        have k1 : decide ((1 : Int) < 1 + (a : Int)) = false := decide_eq_false (by omega)
        have k2 : ((1 : Int) + (a : Int) == 1) = true := beq_iff_eq.2 (by omega)
        have HR := Lib.hid hr
        clear hr ha0
        go_wp2_with fail
        refine (g_make (n := 1 + (a : Int)) 16 (by omega) (by omega) HS.out (by omega) hW hnx hlm HR.out).mono ?_
        rintro e w4 ⟨⟨h4, v4, t4, rfl⟩, hW4, l4, hS4⟩
        have HS4 := Lib.hid hS4
        clear hS4 hW hEc
        go_wp2
        go_roundw
        case rel => exact ⟨j + 1, _, l4, by go_num, by omega, hW4.alloc _, by have := HS4.out; rw [show (400 : Int) + 400 * ((j + 1 : Nat) : Int) = 400 + 400 * (j : Int) + 400 from by omega]; exact this, HG2.out⟩
        case measure => simp [intOf]; omega
      · have hr : (gMake (1 + (a : Int)) s 16).2 = 6 := by rw [HG1.out, if_neg (by omega)]
        have k1 : decide ((1 : Int) < 1 + (a : Int)) = true := decide_eq_true (by omega)
        have k2 : ((1 : Int) + (a : Int) == 1) = false := beq_eq_false_iff_ne.2 (by omega)
        have HR := Lib.hid hr
        clear hr ha0
        go_wp2_with fail
        refine (g_make (n := 1 + (a : Int)) 16 (by omega) (by omega) HS.out (by omega) hW hnx hlm HR.out).mono ?_
        rintro e w4 ⟨⟨h4, v4, t4, rfl⟩, hW4, l4, hS4⟩
        have HS4 := Lib.hid hS4
        clear hS4 hW hEc
        go_wp2
        go_roundw
        case rel => exact ⟨j + 1, _, l4, by go_num, by omega, hW4.alloc _, by have := HS4.out; rw [show (400 : Int) + 400 * ((j + 1 : Nat) : Int) = 400 + 400 * (j : Int) + 400 from by omega]; exact this, HG2.out⟩
        case measure => simp [intOf]; omega
    · have hgt := gAll_tail hg
      have HGT := Lib.hid hgt
      have HS := Lib.hid hS
      clear hg hgt hS
      go_wp2
      go_loopw [10] (fun i wr => ∃ (q : Nat) (s : MS) (l : List Int), i = .int .i64 q ∧ 1 ≤ q ∧ q ≤ min a 4 + 1 ∧ EW w wr m (kG (1 + (a : Int))) 0 w1.heap.size s ∧ ASh (kG (1 + (a : Int))) 1 (1 + a) (400 + 400 * (j : Int) + 400 * (q : Int)) s l ∧ gTail (1 + (a : Int)) (min a 4 + 1 - q) s = true) (fun i _ => 6 - (intOf i).toNat)
      case atStart => exact ⟨1, s, l, rfl, by omega, by omega, hW, ⟨HS.out.pm, HS.out.pj, HS.out.ns, HS.out.fr, by have := HS.out.tn; omega⟩, HGT.out⟩
      case round =>
        clear hW hEc
        obtain ⟨q, s2, l2, rfl, hq1, hq2, hW, hS2, hg⟩ := hrel
        have hEc := hW.env.cell
        by_cases hqa : q < min a 4 + 1
        · have hf : min a 4 + 1 - q = (min a 4 + 1 - (q + 1)) + 1 := by omega
          rw [hf] at hg
          unfold gTail at hg
          simp only [Bool.and_eq_true, beq_iff_eq] at hg
          obtain ⟨hg1, hg2⟩ := hg
          have HG1 := Lib.hid hg1
          have HG2 := Lib.hid hg2
          have HS2 := Lib.hid hS2
          have c1 : (q : Int) < 1 + (a : Int) := by omega
          have c2 : (q : Int) < 5 := by omega
          clear hg1 hg2 hS2 hf
          go_wp2_with fail
          refine (g_make (n := 1 + (a : Int)) 1 (by omega) (by omega) HS2.out (by omega) hW hnx hlm HG1.out).mono ?_
          rintro e w4 ⟨⟨h4, v4, t4, rfl⟩, hW4, l4, hS4⟩
          have HS4 := Lib.hid hS4
          clear hS4 hW hEc
          go_wp2
          go_roundw
          case rel => exact ⟨q + 1, _, l4, by go_num, by omega, by omega, hW4, by have := HS4.out; rw [show (400 : Int) + 400 * (j : Int) + 400 * ((q + 1 : Nat) : Int) = 400 + 400 * (j : Int) + 400 * (q : Int) + 400 from by omega]; exact this, HG2.out⟩
          case measure => simp [intOf]; omega
        · by_cases c1 : (q : Int) < 1 + (a : Int)
          · have c2 : ¬ (q : Int) < 5 := by omega
            go_wp2_with (first | (go_at_call 95; refine (adone_nil _).mono ?_; rintro e w5 ⟨rfl, ho5⟩))
            go_ret
            exact ⟨rfl, hW.only.trans' ho5 (fun _ h _ => h)⟩
          · go_wp2_with (first | (go_at_call 95; refine (adone_nil _).mono ?_; rintro e w5 ⟨rfl, ho5⟩))
            go_ret
            exact ⟨rfl, hW.only.trans' ho5 (fun _ h _ => h)⟩

end Go.Proofs.Yteoimmjgnflmmaa
