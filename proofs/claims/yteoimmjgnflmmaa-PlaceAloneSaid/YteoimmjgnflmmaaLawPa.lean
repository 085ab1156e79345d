/-
  PlaceAlone, walked.
-/
import Derived.Test.YteoimmjgnflmmaaAl
import Derived.Test.YteoimmjgnflmmaaCpy
namespace Go.Proofs.Yteoimmjgnflmmaa
open Go.RowKit Go.BigFrame

def kA (n w : Int) : Cfg := ⟨1, 1, n, w, 100, 600, 3⟩
theorem kA_ok {n w : Int} (n0 : 1 ≤ n) (n1 : n ≤ 64) (w0 : 17 ≤ w) (w1 : w ≤ 256) : (kA n w).Ok := by
  unfold kA
  constructor <;> simp only <;> omega

def ints4 (o : Nat → Int) : Array Value := #[.int .i64 (o 0), .int .i64 (o 1), .int .i64 (o 2), .int .i64 (o 3)]
theorem ints4_get (o : Nat → Int) : ∀ i, i < 4 → (ints4 o)[i]? = some (.int .i64 (o i))
  | 0, _ => rfl
  | 1, _ => rfl
  | 2, _ => rfl
  | 3, _ => rfl
theorem ints4_set (o : Nat → Int) (x : Int) : ∀ i, i < 4 → (ints4 o).setIfInBounds i (.int .i64 x) = ints4 (upI o i x)
  | 0, _ => rfl
  | 1, _ => rfl
  | 2, _ => rfl
  | 3, _ => rfl
def ulist (u : Nat → Int) (n : Nat) : List Int := (List.range n).map u
theorem ulist_len (u : Nat → Int) (n : Nat) : (ulist u n).length = n := by simp [ulist]
theorem ulist_get (u : Nat → Int) {n i : Nat} (h : i < n) : (i64s (ulist u n))[i]? = some (.int .i64 (u i)) := by
  rw [i64s_get _ _ (by rw [ulist_len]; exact h)]
  simp [ulist, List.getD, h]
theorem ulist_set (u : Nat → Int) (x : Int) {n i : Nat} : (i64s (ulist u n)).setIfInBounds i (.int .i64 x) = i64s (ulist (upI u i x) n) := by
  rw [i64s_set]
  congr 1
  apply List.ext_getElem
  · simp [ulist]
  · intro j h1 h2
    simp only [ulist, List.length_map, List.length_range] at h2
    rw [List.getElem_set]
    simp only [ulist, List.getElem_map, List.getElem_range, upI]
    by_cases h : i = j
    · subst h; simp
    · rw [if_neg h, if_neg (Ne.symm h)]
theorem ulist_zero (n : Nat) : List.replicate n (0 : Int) = ulist (fun _ => 0) n := by
  apply List.ext_getElem
  · simp [ulist]
  · intro j h1 h2; simp [ulist]

/-- The world on the way. -/
structure AW (w wr : World) (m : MB) (k : Cfg) (eb ob ub n : Nat) (s : MS) (o u : Nat → Int) : Prop where
  ew : EW w wr m k 0 eb s
  op : Blk wr ob (ints4 o) 101
  us : Blk wr ub (i64s (ulist u n)) 3
/-- Where these lie. -/
structure AA (w : World) (m : MB) (eb ob ub : Nat) : Prop where
  o : w.heap.size ≤ ob
  u : w.heap.size ≤ ub
  o1 : ob ∉ m.l
  u1 : ub ∉ m.l
  eo : eb ≠ ob
  eu : eb ≠ ub
  ou : ob ≠ ub
section
variable {w wr w1 : World} {m : MB} {k : Cfg} {eb ob ub n : Nat} {s s' : MS} {o u : Nat → Int}
theorem AW.only0 (h : AW w wr m k eb ob ub n s o u) (ho : Only [] wr w1) : AW w w1 m k eb ob ub n s o u :=
  ⟨⟨h.ew.mem.only ho (by simp) (by simp) (by simp), h.ew.env.only ho (by simp), h.ew.only.trans' ho (fun _ h _ => h)⟩, h.op.only ho (by simp), h.us.only ho (by simp)⟩
theorem AW.drew (h : AW w wr m k eb ob ub n s o u) : AW w wr.drew m k eb ob ub n s o u := h.only0 (Only.refl [] wr).drew
theorem AW.alloc (h : AW w wr m k eb ob ub n s o u) (x : Obj) : AW w (wr.alloc x) m k eb ob ub n s o u := h.only0 ((Only.refl [] wr).alloc x)
theorem AW.mem (h : AW w wr m k eb ob ub n s o u) (a : AA w m eb ob ub) (e1 : eb ∉ m.l) (a2 : ∀ x, x ∈ m.l → x < w.heap.size → x ∈ ([] : List Nat)) (h1 : MemR w1 m s') (h3 : Only m.l wr w1) : AW w w1 m k eb ob ub n s' o u :=
  ⟨h.ew.step e1 a2 h1 h3, h.op.only h3 a.o1, h.us.only h3 a.u1⟩
theorem AW.setO (h : AW w wr m k eb ob ub n s o u) (a : AA w m eb ob ub) {i : Nat} (hi : i < 4) (x : Int) : AW w (wr.setCell ⟨ob, i, none⟩ (.int .i64 x)) m k eb ob ub n s (upI o i x) u :=
  ⟨h.ew.other _ _ a.o1 a.eo a.o, h.op.set i _ (ints4_set o x i hi), h.us.other _ _ a.ou.symm⟩
theorem AW.setU (h : AW w wr m k eb ob ub n s o u) (a : AA w m eb ob ub) (i : Nat) (x : Int) : AW w (wr.setCell ⟨ub, i, none⟩ (.int .i64 x)) m k eb ob ub n s o (upI u i x) :=
  ⟨h.ew.other _ _ a.u1 a.eu a.u, h.op.other _ _ a.ou, h.us.set i _ (ulist_set u x)⟩
end

/-- What somebody alone comes to. -/
inductive ARes (k : Cfg) (n : Nat) (o u : Nat → Int) (nx c : Nat) (rm : Int) (s' : MS) (p' : PlS) : Prop where
  | here (i : Nat) (hi : i < nx) (ho : o c = (i : Int)) (hf : u i + rm ≤ k.w) (h : ASt k n s' o (upI u i (u i + rm)) nx) (ok : p'.ok = true) (sc : p'.sc = (i : Int)) (sa : p'.sa = aBase k i + u i)
  | none (hn : nx = n) (hno : ∀ i : Nat, o c = (i : Int) → k.w < u i + rm) (h : ASt k n s' o u nx) (ok : p'.ok = false)
  | next (hn : nx < n) (hno : ∀ i : Nat, o c = (i : Int) → k.w < u i + rm) (h : ASt k n s' (upI o c nx) (upI u nx (u nx + rm)) (nx + 1)) (ok : p'.ok = true) (sc : p'.sc = (nx : Int)) (sa : p'.sa = aBase k nx + u nx)
theorem ares {k : Cfg} {n : Nat} {s sF : MS} {pF : PlS} {o u : Nat → Int} {nx c : Nat} (hk : k.Ok) (h : ASt k n s o u nx) (hc : c < 4) (hn8 : n ≤ 64) (hrun : placeRun k 0 300 s (pl0 (c : Int)) = (sF, pF)) : ARes k n o u nx c (room (c : Int)) sF pF := by
  have key : Ends k 0 300 s (pl0 (c : Int)) (ARes k n o u nx c (room (c : Int))) := by
    refine ast_run hk h hc hn8 (fun i hi ho hf s' p' a1 a2 a3 a4 => .here i hi ho hf a1 a2 a3 a4) (fun hn hno s' p' a1 a2 => .none hn hno a1 a2) (fun hn hno s' p' a1 a2 a3 a4 => ?_)
    have h0 := (h.free nx (Nat.le_refl _) hn).2
    exact .next hn hno (by rw [h0, Int.zero_add]; exact a1) a2 a3 (by rw [h0, Int.add_zero]; exact a4)
  unfold Ends at key
  rw [hrun] at key
  exact key

/-- Whether another chunk is wanted. -/
structure AB (k : Cfg) (n : Nat) (o u : Nat → Int) (nx c : Nat) (rm : Int) (s' : MS) (p' : PlS) (B : Bool) : Prop where
  no : B = false → ∃ i : Nat, i < nx ∧ o c = (i : Int) ∧ u i + rm ≤ k.w ∧ ASt k n s' o (upI u i (u i + rm)) nx ∧ p'.ok = true ∧ p'.sc = (i : Int) ∧ p'.sa = aBase k i + u i
  yes : B = true → (∀ i : Nat, o c = (i : Int) → k.w < u i + rm) ∧ ((nx = n ∧ ASt k n s' o u nx ∧ p'.ok = false) ∨ (nx < n ∧ ASt k n s' (upI o c nx) (upI u nx (u nx + rm)) (nx + 1) ∧ p'.ok = true ∧ p'.sc = (nx : Int) ∧ p'.sa = aBase k nx + u nx))
theorem ARes.ab {k : Cfg} {n : Nat} {o u : Nat → Int} {nx c : Nat} {rm : Int} {s' : MS} {p' : PlS} (h : ARes k n o u nx c rm s' p') : ∃ B, AB k n o u nx c rm s' p' B := by
  cases h with
  | here i hi ho hf h ok sc sa => exact ⟨false, ⟨fun _ => ⟨i, hi, ho, hf, h, ok, sc, sa⟩, (fun hh => by cases hh)⟩⟩
  | none hn hno h ok => exact ⟨true, ⟨(fun hh => by cases hh), fun _ => ⟨hno, .inl ⟨hn, h, ok⟩⟩⟩⟩
  | next hn hno h ok sc sa => exact ⟨true, ⟨(fun hh => by cases hh), fun _ => ⟨hno, .inr ⟨hn, h, ok, sc, sa⟩⟩⟩⟩
theorem ASt.u_rng {k : Cfg} {n : Nat} {s : MS} {o u : Nat → Int} {nx : Nat} (h : ASt k n s o u nx) {i : Nat} (hi : i < n) (hk : k.Ok) : 0 ≤ u i ∧ u i ≤ k.w := by
  by_cases h1 : i < nx
  · obtain ⟨_, h2, h3⟩ := h.used i h1
    have := (ch_rng (cw k s i)).2.2.2.2.1
    exact ⟨by omega, h3⟩
  · have := (h.free i (by omega) hi).2
    have := hk.w0
    exact ⟨by omega, by omega⟩
theorem PlS.res_mk (p : PlS) : ∃ x y : Int, p.res = .agg #[.int .i64 x, .int .i64 y] ∧ (p.ok = true → x = p.sa ∧ y = p.sc) := by
  unfold PlS.res
  exact ⟨_, _, rfl, fun h => by rw [if_pos h, if_pos h]; exact ⟨rfl, rfl⟩⟩
theorem Only.cells2 {w w1 : World} (h : Only [] w w1) : (∀ b o, b < w.heap.size → w1.cell? ⟨b, o, none⟩ = w.cell? ⟨b, o, none⟩) ∧ (∀ b o, b < w.heap.size → w1.frozen? ⟨b, o, none⟩ = w.frozen? ⟨b, o, none⟩) :=
  ⟨fun b o hb => World.cell?_of_block (w := w) (h.block b hb (by simp)), fun b o hb => by
    have := h.block b hb (by simp)
    simp only [World.frozen?, this]⟩
theorem al_base {n w i : Int} (n0 : 1 ≤ n) (n1 : n ≤ 64) (i0 : 0 ≤ i) (i1 : i ≤ 64) (w0 : 17 ≤ w := by omega) (w1 : w ≤ 256 := by omega) : 0 ≤ 6 + (kA n w).t + 2 * (kA n w).s + 3 * (kA n w).c + (kA n w).w * i ∧ 6 + (kA n w).t + 2 * (kA n w).s + 3 * (kA n w).c + (kA n w).w * i ≤ 100000 := by
  have h1 : 0 ≤ w * i := Int.mul_nonneg (by omega) i0
  have h2 : w * i ≤ 256 * 64 := Int.mul_le_mul w1 i1 i0 (by decide)
  show 0 ≤ 6 + 1 + 2 * 1 + 3 * n + w * i ∧ 6 + 1 + 2 * 1 + 3 * n + w * i ≤ 100000
  omega
theorem al_wraps {x y z : Int} (h0 : 0 ≤ x) (h1 : x ≤ 100000) (h2 : 0 ≤ y) (h3 : y ≤ 100000) (h4 : 0 ≤ z) (h5 : z ≤ 100000) : IntKind.i64.wrap (x + y) = x + y ∧ IntKind.i64.wrap (z + x) = z + x := by
  refine ⟨?_, ?_⟩ <;> (rw [IntWalk.i64_left]; unfold wrap64; omega)

set_option maxRecDepth 100000 in
set_option maxHeartbeats 12800000 in
theorem palone_walk (chunks : Int) (_hs : I64 chunks) (words : Int) (_hw : I64 words) (A : Option Addr) (n c : Nat) (xs : List Int) (_hx : ∀ x ∈ xs, I64 x) (w : World) (hS : Slc (Value.int .i64) w A n xs) : Calls Try.prog 20 #[.int .i64 chunks, .int .i64 words, .slice A n c] w fun e w' => e = .returned (.bool true) ∧ Only [] w w' := by
  obtain ⟨a, ha, hsl⟩ := iand7n chunks
  obtain ⟨b, hb, hsl2⟩ := iand31n words
  have hmost := hS.most
  unfold maxLen at hmost
  have hk : (kA (1 + (a : Int)) (17 + (b : Int))).Ok := kA_ok (by omega) (by omega) (by omega) (by omega)
  have h60 : (kA (1 + (a : Int)) (17 + (b : Int))).s ≤ 60000 := by show (1 : Int) ≤ 60000; decide
  have HK := Lib.hid hk
  have H60 := Lib.hid h60
  clear hk h60
  obtain ⟨N, hN⟩ : ∃ N, N = 1 + a := ⟨_, rfl⟩
  have hN1 : (1 : Int) + a = (N : Int) := by omega
  have HN := Lib.hid hN
  have HN1 := Lib.hid hN1
  have q45 := run_make45 N (by omega)
  rw [← hN1] at q45
  clear hN hN1
  go_enter Try.func20, Try.ntmps20
  go_wp2_with fail
  refine (arena_yes (kA (1 + (a : Int)) (17 + (b : Int))) HK.out rfl rfl rfl _).mono ?_
  rintro e w1 ⟨m, rfl, hm1, hn1, ho1⟩
  obtain ⟨hl1, hl2, hl3⟩ := hm1.lts
  obtain ⟨hn1, hn2, hn3⟩ := hn1
  have hz := ho1.size
  have hnx : w1.heap.size ∉ m.l := hm1.notin (Nat.le_refl _)
  have hlm : ∀ x, x ∈ m.l → x < w.heap.size → x ∈ ([] : List Nat) := fun x hx hlt => by
    simp only [List.mem_cons, List.not_mem_nil, or_false] at hx; omega
  have hA0 := Lib.hid (fresh_ASt HK.out H60.out (n := N) HN1.out hm1.rng)
  have hW : EW w (w1.alloc (.cells #[.int .i64 (kA (1 + (a : Int)) (17 + (b : Int))).t, .int .i64 (kA (1 + (a : Int)) (17 + (b : Int))).s, .int .i64 (kA (1 + (a : Int)) (17 + (b : Int))).c, .int .i64 (kA (1 + (a : Int)) (17 + (b : Int))).w, .int .i64 (kA (1 + (a : Int)) (17 + (b : Int))).g, .int .i64 (kA (1 + (a : Int)) (17 + (b : Int))).p, .int .i64 (kA (1 + (a : Int)) (17 + (b : Int))).r, .pointer (some ⟨m.b, 0, none⟩), .int .i64 0] 47)) m (kA (1 + (a : Int)) (17 + (b : Int))) 0 w1.heap.size (freshS (kA (1 + (a : Int)) (17 + (b : Int)))) := ⟨hm1.alloc _, Blk.new _ _ _, ho1.alloc _⟩
  clear hm1 ho1
  go_wp2_with fail
  refine (awake7 _).mono ?_
  rintro e w2 ⟨rfl, ho2⟩
  have hz2 := ho2.size
  simp only [World.size_alloc] at hz2
  have hWb : EW w w2 m (kA (1 + (a : Int)) (17 + (b : Int))) 0 w1.heap.size (freshS (kA (1 + (a : Int)) (17 + (b : Int)))) := ⟨hW.mem.only ho2 (by simp) (by simp) (by simp), hW.env.only ho2 (by simp), hW.only.trans' ho2 (fun _ h _ => h)⟩
  clear hW ho2
  go_upto_region 5 with fail
  go_cut [11, 12, 13] (fun s11 s12 s13 wx => ∃ ob ub : Nat, s11 = .pointer (some ⟨ob, 0, none⟩) ∧ s12 = .slice (some ⟨ub, 0, none⟩) N N ∧ s13 = .int .i64 0 ∧ AA w m w1.heap.size ob ub ∧ AW w wx m (kA (1 + (a : Int)) (17 + (b : Int))) w1.heap.size ob ub N (freshS (kA (1 + (a : Int)) (17 + (b : Int)))) (fun _ => -1) (fun _ => 0))
  case first =>
    go_region
    all_goals
      go_wp2_with fail
      go_meet
      refine ⟨_, _, rfl, rfl, rfl, ⟨by omega, by omega, ?_, ?_, by omega, by omega, by omega⟩, ⟨?_, ?_, ?_⟩⟩
      · simp only [List.mem_cons, List.not_mem_nil, or_false, not_or]; omega
      · simp only [List.mem_cons, List.not_mem_nil, or_false, not_or]; omega
      · exact ((hWb.alloc _).alloc _).drew
      · first
          | exact (Blk.new' (by simp) rfl : Blk _ _ (ints4 (fun _ => -1)) 101).drew
          | exact ((Blk.new' rfl rfl : Blk _ _ (ints4 (fun _ => -1)) 101).alloc _).drew
      · rw [← ulist_zero]
        first
          | exact (Blk.new' (by simp) rfl : Blk _ _ (i64s (List.replicate N 0)) 3).drew
          | exact ((Blk.new' rfl rfl : Blk _ _ (i64s (List.replicate N 0)) 3).alloc _).drew
  case rest =>
    obtain ⟨ob, ub, rfl, rfl, rfl, hA, hW⟩ := hcut
    clear hWb q45
    go_wp2
    go_loopw [14, 13] (fun i x wr => ∃ (j nx : Nat) (s : MS) (o u : Nat → Int), i = .int .i64 j ∧ x = .int .i64 nx ∧ j ≤ 60 ∧ AW w wr m (kA (1 + (a : Int)) (17 + (b : Int))) w1.heap.size ob ub N s o u ∧ ASt (kA (1 + (a : Int)) (17 + (b : Int))) N s o u nx) (fun i _ _ => 60 - (intOf i).toNat)
    case atStart => exact ⟨0, 0, _, _, _, rfl, rfl, by omega, hW, hA0.out⟩
    case round =>
      clear hW
      obtain ⟨j, nx, s, o, u, rfl, rfl, hj, hW, hSt⟩ := hrel
      have hEc := hW.ew.env.cell
      by_cases hjn : j < n
      · by_cases h60 : j < 60
        · obtain ⟨bb, off, rfl, hbb, _⟩ := hS.cells (by omega)
          obtain ⟨bb', off', hadr, _, hcell⟩ := (hS.only hW.ew.only).cells (by omega)
          cases hadr
          have hcj := hcell j hjn
          clear hcell
          obtain ⟨z, hz4⟩ : ∃ z, xs.getD j default = z := ⟨_, rfl⟩
          rw [hz4] at hcj
          clear hz4
          obtain ⟨d, hd, hzd⟩ := iand3n z
          obtain ⟨RN, hRN⟩ : ∃ RN : Nat, room (d : Int) = RN := ⟨(room (d : Int)).toNat, by have := room_rng (c := (d : Int)) (by omega); omega⟩
          have hrr : ∀ w', Calls Try.prog 37 #[.int .i64 (d : Int)] w' fun e w2 => e = .returned (.int .i64 RN) ∧ Only [] w' w2 := fun w' => by
            have := refroom_any (d : Int) w' (by omega)
            rw [hRN] at this
            exact this
          have hrb := room_rng (c := (d : Int)) (by omega)
          rw [hRN] at hrb
          obtain ⟨hrb0, hrb1⟩ := hrb
          rcases hrun : placeRun (kA (1 + (a : Int)) (17 + (b : Int))) 0 300 s (pl0 d) with ⟨sF, pF⟩
          have hres := ares HK.out hSt hd (by have := HN.out; omega) hrun
          rw [hRN] at hres
          have HR := Lib.hid hrun
          have HS := Lib.hid hSt
          have HRN := Lib.hid hRN
          clear hrun hSt hRN
          go_wp2_with fail
          refine (hrr _).mono ?_
          rintro e w3 ⟨rfl, ho3⟩
          have hW3 := hW.only0 ho3
          have hE3 := hW3.ew.env.cell
          clear hW hEc hcj ho3
          go_wp2_with fail
          refine (get_alone (d : Int) HK.out HS.out.pm (by omega) HR.out hW3.ew.mem).mono ?_
          rintro e w4 ⟨rfl, hm4, hP4, ho4⟩
          have hW4 := hW3.mem hA hnx hlm hm4 ho4
          clear hW3 hE3 hm4 ho4 hrr
          obtain ⟨B, hB⟩ := hres.ab
          obtain ⟨sx, sy, hsr, hsxy⟩ := PlS.res_mk pF
          obtain ⟨pk, hpk⟩ : ∃ pk, pF.ok = pk := ⟨_, rfl⟩
          rw [hsr, hpk]
          have HB := Lib.hid hB
          have HXY := Lib.hid hsxy
          have HPK := Lib.hid hpk
          clear hres hB hsxy hpk hsr
          have hoc : w4.cell? ⟨ob, d, none⟩ = some (.int .i64 (o d)) := (hW4.op.cell d).trans (ints4_get o d hd)
          have hof := hW4.op.frozen
          have hlo := hW4.op.lt
          have hlu := hW4.us.lt
          have hd0 : (0 : Int) ≤ (d : Int) := by omega
          have hd4 : (d : Int) < 4 := by omega
          obtain ⟨oc, hod⟩ : ∃ oc, o d = oc := ⟨_, rfl⟩
          rw [hod] at hoc
          have HOD := Lib.hid hod
          clear hod
          go_upto_region 12 with fail
          go_cut [80] (fun s80 wx => s80 = .bool B ∧ wx = w4.alloc (.cells #[.int .i64 sx, .int .i64 sy] 103))
          case first =>
            have hoo := HS.out.o d hd
            rw [HOD.out] at hoo
            by_cases hneg : oc < 0
            · cases B with
              | false =>
                obtain ⟨i, _, h2, _⟩ := HB.out.no rfl
                rw [HOD.out] at h2
                omega
              | true =>
                clear hoo
                go_wp2_with fail
                go_meet
                exact ⟨rfl, rfl⟩
            · obtain ⟨i, hi⟩ : ∃ i : Nat, oc = (i : Int) := ⟨oc.toNat, by omega⟩
              have hin : i < nx := by rcases hoo with h | ⟨_, h, _⟩ <;> omega
              clear hoo
              subst hi
              have hle := HS.out.le
              have hiN : (i : Int) < N := by omega
              obtain ⟨u0, u1⟩ := HS.out.u_rng (i := i) (by omega) HK.out
              have huc : w4.cell? ⟨ub, i, none⟩ = some (.int .i64 (u i)) := (hW4.us.cell i).trans (ulist_get u (by omega))
              obtain ⟨uc, hue⟩ : ∃ uc, u i = uc := ⟨_, rfl⟩
              rw [hue] at u0 u1 huc
              replace u1 : uc ≤ 17 + (b : Int) := u1
              have HUE := Lib.hid hue
              clear hue
              cases B with
              | false =>
                obtain ⟨i', _, h2, h3, _⟩ := HB.out.no rfl
                rw [HOD.out] at h2
                obtain rfl : i = i' := by omega
                rw [HUE.out] at h3
                replace h3 : uc + (RN : Int) ≤ 17 + (b : Int) := h3
                have hdc : decide (17 + (b : Int) < uc + (RN : Int)) = false := decide_eq_false (by omega)
                clear h2
                go_wp2_with fail
                go_meet
                exact ⟨rfl, rfl⟩
              | true =>
                have h3 := (HB.out.yes rfl).1 i HOD.out
                rw [HUE.out] at h3
                replace h3 : 17 + (b : Int) < uc + (RN : Int) := h3
                go_wp2_with fail
                go_meet
                exact ⟨rfl, rfl⟩
          case rest =>
            obtain ⟨rfl, rfl⟩ := hcut
            obtain ⟨sb, hsb⟩ : ∃ sb, w4.heap.size = sb := ⟨_, rfl⟩
            have hSB0 : ∀ v : Value, Blk (w4.alloc (.cells #[.int .i64 sx, .int .i64 sy] 103)) sb #[.int .i64 sx, .int .i64 sy] 103 := fun _ => Blk.new' hsb.symm rfl
            have hSB1 : ∀ v : Value, Blk ((w4.setCell ⟨ob, d, none⟩ v).alloc (.cells #[.int .i64 sx, .int .i64 sy] 103)) sb #[.int .i64 sx, .int .i64 sy] 103 := fun v => Blk.new' (by rw [← hsb]; simp) rfl
            rw [hsb]
            have hlo2 : ob < sb := by rw [← hsb]; exact hlo
            have HSB := Lib.hid hsb
            clear hsb
            have hoc2 : (w4.alloc (.cells #[.int .i64 sx, .int .i64 sy] 103)).cell? ⟨ob, d, none⟩ = some (.int .i64 oc) := ((hW4.alloc _).op.cell d).trans ((ints4_get o d hd).trans (by rw [HOD.out]))
            have hof2 := (hW4.alloc (.cells #[.int .i64 sx, .int .i64 sy] 103)).op.frozen
            have hnN : (nx : Int) < 1 + (a : Int) ∨ 1 + (a : Int) ≤ (nx : Int) := by omega
            go_upto_if 80 with fail
            go_cut [13, 18] (fun s13 s18 wx => ∃ (nx1 ci : Nat) (o1 : Nat → Int), s13 = .int .i64 nx1 ∧ s18 = .bool true ∧ o1 d = (ci : Int) ∧ ci < nx1 ∧ ASt (kA (1 + (a : Int)) (17 + (b : Int))) N sF o1 (upI u ci (u ci + RN)) nx1 ∧ sx = aBase (kA (1 + (a : Int)) (17 + (b : Int))) ci + u ci ∧ sy = (ci : Int) ∧ AW w wx m (kA (1 + (a : Int)) (17 + (b : Int))) w1.heap.size ob ub N sF o1 u ∧ Blk wx sb #[.int .i64 sx, .int .i64 sy] 103)
            case first =>
              cases B with
              | false =>
                obtain ⟨i, h1, h2, h3, h4, h5, h6, h7⟩ := HB.out.no rfl
                have hpt : pk = true := by rw [← HPK.out]; exact h5
                subst hpt
                obtain ⟨x1, x2⟩ := HXY.out h5
                go_wp2_with fail
                go_meet
                exact ⟨nx, i, o, rfl, rfl, h2, h1, h4, x1.trans h7, x2.trans h6, hW4.alloc _, hSB0 default⟩
              | true =>
                obtain ⟨h1, h2 | h2⟩ := HB.out.yes rfl
                · obtain ⟨h3, h4, h5⟩ := h2
                  have hpt : pk = false := by rw [← HPK.out]; exact h5
                  subst hpt
                  have hge : 1 + (a : Int) ≤ (nx : Int) := by have := HN1.out; omega
                  have H4 := Lib.hid h4
                  clear h1 h3 h4 h5 hnN
                  go_wp2
                  go_roundw
                  case rel => exact ⟨j + 1, nx, sF, o, u, by go_num, rfl, by omega, hW4.alloc _, H4.out⟩
                  case measure => simp [intOf]; omega
                · obtain ⟨h3, h4, h5, h6, h7⟩ := h2
                  have hpt : pk = true := by rw [← HPK.out]; exact h5
                  subst hpt
                  obtain ⟨x1, x2⟩ := HXY.out h5
                  have hge : (nx : Int) < 1 + (a : Int) := by have := HN1.out; omega
                  have HX1 := Lib.hid (x1.trans h7)
                  have HX2 := Lib.hid (x2.trans h6)
                  have H4 := Lib.hid h4
                  clear h1 h3 h4 h5 h6 h7 x1 x2 hnN
                  go_wp2_with fail
                  go_meet
                  exact ⟨nx + 1, nx, upI o d nx, by go_num, rfl, upI_at _ _ _, by omega, H4.out, HX1.out, HX2.out, (hW4.setO hA hd nx).alloc _, hSB1 _⟩
            case rest =>
              obtain ⟨nx1, ci, o1, rfl, rfl, hoc1, hcin, hSt1, hsx, hsy, hW5, hSB⟩ := hcut
              clear hSB0 hSB1 hnN hW4 hoc hof hlo hlu hoc2 hof2 hlo2
              have hle1 := hSt1.le
              have hciN : (ci : Int) < N := by omega
              obtain ⟨u0, u1⟩ := HS.out.u_rng (i := ci) (by omega) HK.out
              obtain ⟨hs1, hs2, hs3⟩ := hSt1.used ci hcin
              rw [upI_at] at hs2 hs3
              have hcc : chCl (cw (kA (1 + (a : Int)) (17 + (b : Int))) sF ci) = (d : Int) := by
                rcases hSt1.o d hd with h | ⟨_, _, h⟩
                · omega
                · rw [hoc1] at h; exact h
              obtain ⟨uc, hue⟩ : ∃ uc, u ci = uc := ⟨_, rfl⟩
              rw [hue] at u0 u1 hs2 hs3 hsx hSt1
              replace u1 : uc ≤ 17 + (b : Int) := u1
              obtain ⟨bs, hbs⟩ : ∃ bs, aBase (kA (1 + (a : Int)) (17 + (b : Int))) ci = bs := ⟨_, rfl⟩
              have hbr := aBase_ok HK.out (i := (ci : Int)) (by omega) (by have := HN.out; omega)
              have hbr2 : 0 ≤ bs ∧ bs ≤ 100000 := by
                rw [← hbs, hbr]
                exact al_base (by omega) (by omega) (by omega) (by have := HN.out; omega)
              rw [hbs] at hsx
              subst hsx hsy
              have hbc : ∀ w', Calls Try.prog 51 #[.agg #[.int .i64 (kA (1 + (a : Int)) (17 + (b : Int))).t, .int .i64 (kA (1 + (a : Int)) (17 + (b : Int))).s, .int .i64 (kA (1 + (a : Int)) (17 + (b : Int))).c, .int .i64 (kA (1 + (a : Int)) (17 + (b : Int))).w, .int .i64 (kA (1 + (a : Int)) (17 + (b : Int))).g, .int .i64 (kA (1 + (a : Int)) (17 + (b : Int))).p, .int .i64 (kA (1 + (a : Int)) (17 + (b : Int))).r], .int .i64 (ci : Int)] w' fun e w2 => e = .returned (.int .i64 bs) ∧ w2 = w'.alloc (.cells #[.int .i64 (kA (1 + (a : Int)) (17 + (b : Int))).t, .int .i64 (kA (1 + (a : Int)) (17 + (b : Int))).s, .int .i64 (kA (1 + (a : Int)) (17 + (b : Int))).c, .int .i64 (kA (1 + (a : Int)) (17 + (b : Int))).w, .int .i64 (kA (1 + (a : Int)) (17 + (b : Int))).g, .int .i64 (kA (1 + (a : Int)) (17 + (b : Int))).p, .int .i64 (kA (1 + (a : Int)) (17 + (b : Int))).r] 23) := fun w' => by
                have := base_any w' (kA (1 + (a : Int)) (17 + (b : Int))) (ci : Int)
                rw [hbs] at this
                exact this
              obtain ⟨v, hv⟩ : ∃ v, cw (kA (1 + (a : Int)) (17 + (b : Int))) sF ci = v := ⟨_, rfl⟩
              have hC := hSt1.pm.okC HK.out (i := (ci : Int)) (by omega) (by omega)
              have hget : sF.get (aChunk (kA (1 + (a : Int)) (17 + (b : Int))) ci) = v := by rw [get_ok _ _ hC, ← hv]; rfl
              have hvU : U64 v := by rw [← hv]; exact hSt1.pm.at_rng _
              rw [hv] at hs1 hs2 hcc
              have hpk : ∀ w', MemR w' m sF → Calls Try.prog 44 #[.pointer (some ⟨m.b, 0, none⟩), .int .i64 (aChunk (kA (1 + (a : Int)) (17 + (b : Int))) ci)] w' fun e w2 => e = .returned (.int .u64 v) ∧ w' = w2 := fun w' h => by
                have := peek_any (a := aChunk (kA (1 + (a : Int)) (17 + (b : Int))) ci) h
                rw [hget] at this
                exact this
              have hcw : ∀ w', Calls Try.prog 83 #[.int .u64 v] w' fun e w2 => e = .returned (.agg #[.int .i64 1, .int .i64 (d : Int), .int .i64 (uc + RN), .int .i64 (chSp v)]) ∧ Only [] w' w2 := fun w' => by
                have := chunk_word v w' hvU
                rw [hs1, hs2, hcc] at this
                exact this
              have HST := Lib.hid hSt1
              have HUE := Lib.hid hue
              clear hv hget hvU hs1 hs2 hs3 hcc hSt1 hbs hbr hue hC
              obtain ⟨e1, _⟩ := al_wraps (x := bs) (y := uc) (z := 0) hbr2.1 hbr2.2 u0 (by omega) (by omega) (by omega)
              obtain ⟨hbr0, hbr1⟩ := hbr2
              have hoc5 : wc.cell? ⟨ob, d, none⟩ = some (.int .i64 (ci : Int)) := by rw [hW5.op.cell d, ints4_get o1 d hd, hoc1]
              have HO1 := Lib.hid hoc1
              clear hoc1
              go_upto_region 19 with fail
              have hWd := hW5.drew
              have hSd := hSB.drew
              clear hW5 hSB hoc5
              refine qc_enter (fun w' => AW w w' m (kA (1 + (a : Int)) (17 + (b : Int))) w1.heap.size ob ub N sF o1 u ∧ Blk w' sb #[.int .i64 (bs + uc), .int .i64 (ci : Int)] 103) (by kernel_rfl) (by kernel_rfl) ?_ ?_
              focus (exact ⟨hWd, hSd⟩)
              repeat (first
                | go_big_quiet_skip
                | (go_big_quiet_want
                   apply Exists.intro
                   refine ⟨fun wq hq => ?_, ?_⟩
                   focus
                     (obtain ⟨hq1, hq2⟩ := hq; have hc1 := hq1.ew.env.cell; have hc2 := hq2.cell; have hc3 : wq.cell? ⟨ub, ci, none⟩ = some (.int .i64 uc) := ((hq1.us.cell ci).trans (ulist_get u (by omega))).trans (by rw [HUE.out]))
                     unfold Oper.quietAt
                     go_simp
                     (first
                       | done
                       | with_reducible exact rfl
                       | with_reducible exact ⟨rfl, rfl⟩
                       | ((go_at_call 51; with_reducible refine (hbc _).mono ?_; rintro e w' ⟨rfl, rfl⟩; exact ⟨rfl, hq1.alloc _, hq2.alloc _⟩)))
                   (try simp only [Act.put, List.setIfInBounds_toArray, List.set_cons_zero, List.set_cons_succ])
                   go_big_quiet_on))
              refine wpQuiet_nil ?_
              intro wq hq
              obtain ⟨hq1, hq2⟩ := hq
              clear hWd hSd hbc e1
              have hc3 : wq.cell? ⟨ub, ci, none⟩ = some (.int .i64 uc) := ((hq1.us.cell ci).trans (ulist_get u (by omega))).trans (by rw [HUE.out])
              have huf := hq1.us.frozen
              go_upto_region 22 with fail
              have hW6 := hq1.setU hA ci (uc + RN)
              obtain ⟨w6, hw6⟩ : ∃ w6, wq.setCell ⟨ub, ci, none⟩ (.int .i64 (uc + RN)) = w6 := ⟨_, rfl⟩
              rw [hw6] at hW6 ⊢
              clear hw6
              have hM0 := hW6.ew.mem
              have hE0 := hW6.ew.env
              have hEl := hE0.lt
              clear hc3 huf hq1 hq2
              go_cut [20] (fun s20 wx => ∃ kb, s20 = .pointer (some ⟨kb, 0, none⟩) ∧ AW w wx m (kA (1 + (a : Int)) (17 + (b : Int))) w1.heap.size ob ub N sF o1 (upI u ci (uc + RN)) ∧ Blk wx kb #[.int .i64 1, .int .i64 (d : Int), .int .i64 (uc + RN), .int .i64 (chSp v)] 107)
              case first =>
                go_region_held3 (fun w' => ∀ o, w'.cell? ⟨w1.heap.size, o, none⟩ = (#[.int .i64 (kA (1 + (a : Int)) (17 + (b : Int))).t, .int .i64 (kA (1 + (a : Int)) (17 + (b : Int))).s, .int .i64 (kA (1 + (a : Int)) (17 + (b : Int))).c, .int .i64 (kA (1 + (a : Int)) (17 + (b : Int))).w, .int .i64 (kA (1 + (a : Int)) (17 + (b : Int))).g, .int .i64 (kA (1 + (a : Int)) (17 + (b : Int))).p, .int .i64 (kA (1 + (a : Int)) (17 + (b : Int))).r, .pointer (some ⟨m.b, 0, none⟩), .int .i64 0] : Array Value)[o]?) ((refine Blk.cell (T := 47) ?_; repeat (first | with_reducible assumption | with_reducible apply Blk.drew | with_reducible apply Blk.alloc | (with_reducible refine Blk.only ?_ (by with_reducible assumption) (by first | exact List.not_mem_nil | with_reducible assumption)) | (with_reducible refine Blk.other ?_ _ _ (by simp only; omega)))))
                  (first
                    | (go_at_call 50; with_reducible refine (chunka_any _ (kA (1 + (a : Int)) (17 + (b : Int))) _).mono ?_; rintro e w' ⟨rfl, rfl⟩)
                    | (go_at_call 44; with_reducible refine (hpk _ (by repeat (first | with_reducible assumption | with_reducible apply MemR.drew | with_reducible apply MemR.alloc | (with_reducible refine MemR.only ?_ (by with_reducible assumption) List.not_mem_nil List.not_mem_nil List.not_mem_nil) | (with_reducible refine MemR.other ?_ _ _ (by simp only; omega) (by simp only; omega) (by simp only; omega))))).mono ?_; rintro e w' ⟨rfl, rfl⟩)
                    | (go_at_call 83; with_reducible refine (hcw _).mono ?_; rintro e w' ⟨rfl, ho83⟩; obtain ⟨q831, q832⟩ := ho83.cells2; have hz83 := ho83.size; simp only [World.size_alloc, World.size_drew] at hz83))
                all_goals
                  go_wp2_with fail
                  go_meet
                  refine ⟨_, rfl, hW6.only0 ?_, ?_⟩
                  · repeat (first | with_reducible exact Only.refl _ _ | (with_reducible refine Only.setCell ?_ _ _ (fun hh => absurd hh (by simp only; first | exact Nat.lt_irrefl _ | exact Nat.not_lt.2 (Nat.le_add_right _ _)))) | with_reducible apply Only.alloc | with_reducible apply Only.drew | (with_reducible refine Only.trans' ?_ ho83 (fun _ h _ => h)))
                  · first
                      | with_reducible exact Blk.new' rfl rfl
                      | (refine (((((show Blk w' _ #[.int .i64 0, .int .i64 0, .int .i64 0, .int .i64 0] 107 from Blk.only ?_ ho83 (by simp)).set 0 _ rfl).set 1 _ rfl).set 2 _ rfl).set 3 _ rfl); (repeat (first | with_reducible exact Blk.new' (by simp) rfl | with_reducible apply Blk.drew | with_reducible apply Blk.alloc)))
              case rest =>
                obtain ⟨kb, rfl, hW7, hKB⟩ := hcut
                clear hM0 hE0 hEl hW6 hpk hcw
                have hWd := hW7.drew
                have hKd := hKB.drew
                clear hW7 hKB
                go_wp2
                refine qc_enter (fun w' => AW w w' m (kA (1 + (a : Int)) (17 + (b : Int))) w1.heap.size ob ub N sF o1 (upI u ci (uc + RN)) ∧ Blk w' kb #[.int .i64 1, .int .i64 (d : Int), .int .i64 (uc + RN), .int .i64 (chSp v)] 107) (by kernel_rfl) (by kernel_rfl) ?_ ?_
                focus (exact ⟨hWd, hKd⟩)
                repeat (first
                  | go_big_quiet_skip
                  | (go_big_quiet_want
                     apply Exists.intro
                     refine ⟨fun wq hq => ?_, ?_⟩
                     focus
                       (obtain ⟨hq1, hq2⟩ := hq; have hc2 := hq2.cell; have hc3 : wq.cell? ⟨ub, ci, none⟩ = some (.int .i64 (uc + RN)) := ((hq1.us.cell ci).trans (ulist_get _ (by omega))).trans (by rw [upI_at]))
                       unfold Oper.quietAt
                       go_simp
                       (first
                         | done
                         | with_reducible exact rfl
                         | with_reducible exact ⟨rfl, rfl⟩
                         | (fail))
                     (try simp only [Act.put, List.setIfInBounds_toArray, List.set_cons_zero, List.set_cons_succ])
                     go_big_quiet_on))
                refine wpQuiet_nil ?_
                intro wq hq
                obtain ⟨hq1, hq2⟩ := hq
                go_wp2
                go_roundw
                case rel => exact ⟨j + 1, nx1, sF, o1, _, by go_num, rfl, by omega, hq1, HST.out⟩
                case measure => simp [intOf]; omega
        · skip
          go_wp2
          go_ret
          exact ⟨rfl, hW.ew.only⟩
      · skip
        go_wp2
        go_ret
        exact ⟨rfl, hW.ew.only⟩

end Go.Proofs.Yteoimmjgnflmmaa
