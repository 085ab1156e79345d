/-
  PlaceLeaves, walked.
-/
import Derived.Test.YteoimmjgnflmmaaPlcV
import Derived.Test.YteoimmjgnflmmaaTm
import Derived.Test.YteoimmjgnflmmaaSlA
import Derived.Test.YteoimmjgnflmmaaCpy
namespace Go.Proofs.Yteoimmjgnflmmaa
open Go.RowKit Go.BigFrame

def pt3 (b : Nat → Nat) : Array Value := #[.pointer (some ⟨b 0, 0, none⟩), .pointer (some ⟨b 1, 0, none⟩), .pointer (some ⟨b 2, 0, none⟩)]
def bo3 (d : Nat → Bool) : Array Value := #[.bool (d 0), .bool (d 1), .bool (d 2)]
theorem pt3_get (b : Nat → Nat) : ∀ i, i < 3 → (pt3 b)[i]? = some (.pointer (some ⟨b i, 0, none⟩))
  | 0, _ => rfl
  | 1, _ => rfl
  | 2, _ => rfl
theorem bo3_get (d : Nat → Bool) : ∀ i, i < 3 → (bo3 d)[i]? = some (.bool (d i))
  | 0, _ => rfl
  | 1, _ => rfl
  | 2, _ => rfl
theorem bo3_set (d : Nat → Bool) (x : Bool) : ∀ i, i < 3 → (bo3 d).setIfInBounds i (.bool x) = bo3 (updP d i x)
  | 0, _ => rfl
  | 1, _ => rfl
  | 2, _ => rfl

/-- How many words the first q chunks have given out. -/
def usum (s : MS) : Nat → Int
  | 0 => 0
  | q + 1 => usum s q + chUs (cw (kR 6) s q)
theorem usum_rng (s : MS) : ∀ q, 0 ≤ usum s q ∧ usum s q ≤ 1048576 * (q : Int)
  | 0 => ⟨Int.le_refl _, Int.le_refl _⟩
  | q + 1 => by
    have := usum_rng s q
    have := (ch_rng (cw (kR 6) s q)).2.2.2.2
    unfold usum
    omega
theorem usum_six {cl r op : Nat} {s : MS} (h : VFin cl r s op) : usum s 6 = 3 * (r : Int) := by
  have h3 := h.rest 3 (by decide) (by decide)
  have h4 := h.rest 4 (by decide) (by decide)
  have h5 := h.rest 5 (by decide) (by decide)
  have hs := h.sum
  have e : usum s 6 = 0 + chUs (cw (kR 6) s 0) + chUs (cw (kR 6) s 1) + chUs (cw (kR 6) s 2) + chUs (cw (kR 6) s (3 : Nat)) + chUs (cw (kR 6) s (4 : Nat)) + chUs (cw (kR 6) s (5 : Nat)) := rfl
  rw [e, h3, h4, h5]
  omega
theorem small_wraps {x y : Int} (hx : 0 ≤ x) (hx1 : x ≤ 100) (hy : 0 ≤ y) (hy1 : y ≤ 100000000) : IntKind.i64.wrap x = x ∧ IntKind.i64.wrap (x - 1) = x - 1 ∧ IntKind.i64.wrap (y + x) = y + x ∧ IntKind.i64.wrap (3 * x) = 3 * x := by
  refine ⟨?_, ?_, ?_, ?_⟩ <;> (rw [IntWalk.i64_left]; unfold wrap64; omega)

theorem Only.cells1 {w w1 : World} (h : Only [] w w1) : (∀ b o, b < w.heap.size → w1.cell? ⟨b, o, none⟩ = w.cell? ⟨b, o, none⟩) ∧ (∀ b o, b < w.heap.size → w1.frozen? ⟨b, o, none⟩ = w.frozen? ⟨b, o, none⟩) :=
  ⟨fun b o hb => World.cell?_of_block (w := w) (h.block b hb (by simp)), fun b o hb => by
    have := h.block b hb (by simp)
    simp only [World.frozen?, this]⟩
/-- Where these lie. -/
structure VA (w : World) (m : MB) (eb wb db : Nat) : Prop where
  b : w.heap.size ≤ m.b
  wb' : w.heap.size ≤ m.wb
  hb : w.heap.size ≤ m.hb
  d : w.heap.size ≤ db
  e1 : eb ∉ m.l
  o1 : wb ∉ m.l
  d1 : db ∉ m.l
  ed : eb ≠ db
  od : wb ≠ db
/-- The world on the way. -/
structure VW (w wr : World) (m : MB) (k : Cfg) (eb wb db : Nat) (s : MS) (f : Nat → PlS) (b : Nat → Nat) (d : Nat → Bool) : Prop where
  ew : EW w wr m k 0 eb s
  who : Blk wr wb (pt3 b) 111
  dn : Blk wr db (bo3 d) 112
  ths : ∀ i, i < 3 → Blk wr (b i) (f i).cs 145
  nb : ∀ i, i < 3 → w.heap.size ≤ b i ∧ b i ∉ m.l ∧ b i ≠ eb ∧ b i ≠ wb ∧ b i ≠ db
  dd : ∀ i j, i < 3 → j < 3 → i ≠ j → b i ≠ b j
section
variable {w wr w1 : World} {m : MB} {k : Cfg} {eb wb db : Nat} {s s' : MS} {f : Nat → PlS} {b : Nat → Nat} {d : Nat → Bool} {i : Nat}
theorem VW.only0 (h : VW w wr m k eb wb db s f b d) (ho : Only [] wr w1) : VW w w1 m k eb wb db s f b d :=
  ⟨⟨h.ew.mem.only ho (by simp) (by simp) (by simp), h.ew.env.only ho (by simp), h.ew.only.trans' ho (fun _ h _ => h)⟩, h.who.only ho (by simp), h.dn.only ho (by simp), fun i hi => (h.ths i hi).only ho (by simp), h.nb, h.dd⟩
theorem VW.drew (h : VW w wr m k eb wb db s f b d) : VW w wr.drew m k eb wb db s f b d := h.only0 (Only.refl [] wr).drew
theorem VW.alloc (h : VW w wr m k eb wb db s f b d) (o : Obj) : VW w (wr.alloc o) m k eb wb db s f b d := h.only0 ((Only.refl [] wr).alloc o)
theorem VW.at (h : VW w wr m k eb wb db s f b d) (hi : i < 3) : wr.cell? ⟨wb, i, none⟩ = some (.pointer (some ⟨b i, 0, none⟩)) := by
  rw [h.who.cell i, pt3_get b i hi]
theorem VW.done (h : VW w wr m k eb wb db s f b d) (hi : i < 3) : wr.cell? ⟨db, i, none⟩ = some (.bool (d i)) := by
  rw [h.dn.cell i, bo3_get d i hi]
theorem VW.step (h : VW w wr m k eb wb db s f b d) (a : VA w m eb wb db) (hi : i < 3) {tb : Nat} (htb : b i = tb) {p' : PlS} (h1 : MemR w1 m s') (h2 : Blk w1 tb p'.cs 145) (h3 : Only [m.b, m.wb, m.hb, tb] wr w1) :
    VW w w1 m k eb wb db s' (updP f i p') b d := by
  subst htb
  obtain ⟨n0, n1, n2, n3, n4⟩ := h.nb i hi
  have e1 := a.e1; have o1 := a.o1; have d1 := a.d1
  have := a.b; have := a.wb'; have := a.hb
  simp only [List.mem_cons, List.not_mem_nil, or_false, not_or] at n1 e1 o1 d1
  refine ⟨⟨h1, h.ew.env.only h3 ?_, h.ew.only.trans' h3 ?_⟩, h.who.only h3 ?_, h.dn.only h3 ?_, fun j hj => ?_, h.nb, h.dd⟩
  · simp only [List.mem_cons, List.not_mem_nil, or_false, not_or]; omega
  · intro x hx hlt
    simp only [List.mem_cons, List.not_mem_nil, or_false] at hx
    omega
  · simp only [List.mem_cons, List.not_mem_nil, or_false, not_or]; omega
  · simp only [List.mem_cons, List.not_mem_nil, or_false, not_or]; omega
  · by_cases hji : j = i
    · subst hji; rw [updP_at]; exact h2
    · rw [updP_ne _ _ _ _ hji]
      refine (h.ths j hj).only h3 ?_
      have hd := h.dd j i hj hi hji
      have hn := (h.nb j hj).2.1
      simp only [List.mem_cons, List.not_mem_nil, or_false, not_or] at hn ⊢
      omega
theorem VW.setD (h : VW w wr m k eb wb db s f b d) (a : VA w m eb wb db) (hi : i < 3) (x : Bool) : VW w (wr.setCell ⟨db, i, none⟩ (.bool x)) m k eb wb db s f b (updP d i x) := by
  have d1 := a.d1
  have := a.d
  simp only [List.mem_cons, List.not_mem_nil, or_false, not_or] at d1
  have ho : Only [db] wr (wr.setCell ⟨db, i, none⟩ (.bool x)) := (Only.refl [db] wr).setCell _ _ (by simp)
  refine ⟨⟨h.ew.mem.only ho ?_ ?_ ?_, h.ew.env.only ho ?_, h.ew.only.trans' ho ?_⟩, h.who.only ho ?_, h.dn.set i _ (bo3_set d x i hi), fun j hj => (h.ths j hj).only ho ?_, h.nb, h.dd⟩
  · simp only [List.mem_cons, List.not_mem_nil, or_false]; omega
  · simp only [List.mem_cons, List.not_mem_nil, or_false]; omega
  · simp only [List.mem_cons, List.not_mem_nil, or_false]; omega
  · simp only [List.mem_cons, List.not_mem_nil, or_false]; exact a.ed
  · intro y hy hlt
    simp only [List.mem_cons, List.not_mem_nil, or_false] at hy
    omega
  · simp only [List.mem_cons, List.not_mem_nil, or_false]; exact a.od
  · simp only [List.mem_cons, List.not_mem_nil, or_false]; exact (h.nb j hj).2.2.2.2
end

set_option maxRecDepth 100000 in
set_option maxHeartbeats 12800000 in
theorem pleaves_walk (class_ : Int) (_hs : I64 class_) (A : Option Addr) (n c : Nat) (xs : List Int) (_hx : ∀ x ∈ xs, I64 x) (w : World) (hS : Slc (Value.int .i64) w A n xs) : Calls Try.prog 21 #[.int .i64 class_, .slice A n c] w fun e w' => e = .returned (.bool true) ∧ Only [] w w' := by
  obtain ⟨a, ha, hsl⟩ := iand3n class_
  have hmost := hS.most
  unfold maxLen at hmost
  go_enter Try.func21, Try.ntmps21
  go_wp2_with fail
  refine (arena_yes (kR 6) kR6_ok rfl rfl rfl _).mono ?_
  rintro e w1 ⟨m, rfl, hm1, hn1, ho1⟩
  obtain ⟨hl1, hl2, hl3⟩ := hm1.lts
  obtain ⟨hn1, hn2, hn3⟩ := hn1
  have hz := ho1.size
  have hnx : w1.heap.size ∉ m.l := hm1.notin (Nat.le_refl _)
  obtain ⟨r, F0, hr, hF, hst0⟩ := vok_start ha hm1.rng
  have HR := Lib.hid hr
  have HF := Lib.hid hF
  have HST0 := Lib.hid hst0
  have hW : EW w (w1.alloc (.cells #[.int .i64 (kR 6).t, .int .i64 (kR 6).s, .int .i64 (kR 6).c, .int .i64 (kR 6).w, .int .i64 (kR 6).g, .int .i64 (kR 6).p, .int .i64 (kR 6).r, .pointer (some ⟨m.b, 0, none⟩), .int .i64 0] 47)) m (kR 6) 0 w1.heap.size (freshS (kR 6)) := ⟨hm1.alloc _, Blk.new _ _ _, ho1.alloc _⟩
  clear hm1 ho1 hr hF hst0
  go_wp2_with fail
  refine (awake7 _).mono ?_
  rintro e w2 ⟨rfl, ho2⟩
  have hz2 := ho2.size
  simp only [World.size_alloc] at hz2
  have hWb : EW w w2 m (kR 6) 0 w1.heap.size (freshS (kR 6)) := ⟨hW.mem.only ho2 (by simp) (by simp) (by simp), hW.env.only ho2 (by simp), hW.only.trans' ho2 (fun _ h _ => h)⟩
  clear hW ho2
  go_wp2
  refine wp_loop_rounds 4 ?_
  rw [rounds_succ]
  go_wp2_with (first | (go_at_call 84; refine (plnew_any _ _).mono ?_; rintro e w' ⟨rfl, rfl⟩))
  rw [rounds_succ]
  go_wp2_with (first | (go_at_call 84; refine (plnew_any _ _).mono ?_; rintro e w' ⟨rfl, rfl⟩))
  rw [rounds_succ]
  go_wp2_with (first | (go_at_call 84; refine (plnew_any _ _).mono ?_; rintro e w' ⟨rfl, rfl⟩))
  rw [rounds_succ]
  go_wp2
  have hA : VA w m w1.heap.size w2.heap.size (w2.heap.size + 1) := ⟨hn1, hn2, hn3, by omega, hnx, by simp only [List.mem_cons, List.not_mem_nil, or_false, not_or]; omega, by simp only [List.mem_cons, List.not_mem_nil, or_false, not_or]; omega, by omega, by omega⟩
  go_loopw [11] (fun i wr => ∃ (j : Nat) (s : MS) (f : Nat → PlS) (d : Nat → Bool), i = .int .i64 j ∧ j ≤ 300 ∧ VW w wr m (kR 6) w1.heap.size w2.heap.size (w2.heap.size + 1) s f (fun i => w2.heap.size + 1 + 1 + i) d ∧ VOk a r F0 j s f d) (fun i _ => 300 - (intOf i).toNat)
  case atStart =>
    refine ⟨0, _, _, _, rfl, by omega, ⟨((((hWb.alloc _).alloc _).alloc _).alloc _).alloc _, ((((Blk.new' rfl rfl : Blk _ _ (pt3 (fun i => w2.heap.size + 1 + 1 + i)) 111).alloc _).alloc _).alloc _).alloc _, (((Blk.new' (by simp) rfl : Blk _ _ (bo3 (fun _ => false)) 112).alloc _).alloc _).alloc _, fun i hi => ?_, fun i hi => ?_, fun i j hi hj hij => by show w2.heap.size + 1 + 1 + i ≠ w2.heap.size + 1 + 1 + j; omega⟩, HST0.out⟩
    · have : i = 0 ∨ i = 1 ∨ i = 2 := by omega
      rcases this with rfl | rfl | rfl
      · exact ((Blk.new' (by simp) rfl : Blk _ _ (pl0 a).cs 145).alloc _).alloc _
      · exact (Blk.new' (by simp) rfl : Blk _ _ (pl0 a).cs 145).alloc _
      · exact Blk.new' (show w2.heap.size + 1 + 1 + 2 = _ by simp only [World.size_alloc]) rfl
    · show w.heap.size ≤ w2.heap.size + 1 + 1 + i ∧ w2.heap.size + 1 + 1 + i ∉ [m.b, m.wb, m.hb] ∧ w2.heap.size + 1 + 1 + i ≠ w1.heap.size ∧ w2.heap.size + 1 + 1 + i ≠ w2.heap.size ∧ w2.heap.size + 1 + 1 + i ≠ w2.heap.size + 1
      simp only [List.mem_cons, List.not_mem_nil, or_false, not_or]; omega
  case round =>
    clear hWb
    obtain ⟨j, s, f, d, rfl, hj, hW, hV⟩ := hrel
    have hEc := hW.ew.env.cell
    by_cases hj3 : j < 300
    · by_cases hAB : j < n ∧ j < 100
      · obtain ⟨hjn, h100⟩ := hAB
        obtain ⟨bb, off, rfl, hbb, _⟩ := hS.cells (by omega)
        obtain ⟨bb', off', hadr, _, hcell⟩ := (hS.only hW.ew.only).cells (by omega)
        cases hadr
        have hcj := hcell j hjn
        clear hcell
        obtain ⟨z, hz4⟩ : ∃ z, xs.getD j default = z := ⟨_, rfl⟩
        rw [hz4] at hcj
        obtain ⟨r1, κ, hκ, hr1, hr2, hr, hk3⟩ := tmod3p z
        clear hz4
        have hp : j < 100 ∨ κ = j % 3 := .inl h100
        have hκ0 : (0 : Int) ≤ (κ : Int) := by omega
        have hκ3 : (κ : Int) < 3 := by omega
        have hdc := hW.done hκ
        have hwc := hW.at hκ
        rcases hd : d κ
        · rw [hd] at hdc
          obtain ⟨hM, hI⟩ := hV.inv hκ hd
          rcases hst : placeStep (kR 6) 0 s (f κ) with ⟨b, s2, p2⟩
          have hV2 := hV.step ha HR.out hκ hd hp hst
          obtain ⟨p, hpe⟩ : ∃ p, f κ = p := ⟨_, rfl⟩
          have hbl := hW.ths κ hκ
          rw [hpe] at hI hst hbl
          obtain ⟨nb0, nb1, nb2, nb3, nb4⟩ := hW.nb κ hκ
          obtain ⟨tb, htb⟩ : ∃ tb, w2.heap.size + 1 + 1 + κ = tb := ⟨_, rfl⟩
          simp only [htb] at hbl nb0 nb1 nb2 nb3 nb4 hwc
          simp only [List.mem_cons, List.not_mem_nil, or_false, not_or] at nb1
          obtain ⟨n1, n2', n3⟩ := nb1
          have HTB := Lib.hid htb
          have HM := Lib.hid hM
          have HI := Lib.hid hI
          have HST := Lib.hid hst
          have HV2 := Lib.hid hV2
          have HPE := Lib.hid hpe
          have HV := Lib.hid hV
          have HD := Lib.hid hd
          clear htb hM hI hst hV2 hpe hV hd
          go_wp2
          have hWd := hW.drew
          have hEd := hWd.ew.env.cell
          have hBd := hbl.drew
          have hcd := hWd.at hκ
          simp only [HTB.out] at hcd
          have hdd := hWd.done hκ
          have hdf := hWd.dn.frozen
          have hdl := hWd.dn.lt
          rw [HD.out] at hdd
          clear hEc hwc hW hbl hdc
          first
            | go_region_held3 (fun w' => (∀ o, w'.cell? ⟨w1.heap.size, o, none⟩ = (#[.int .i64 (kR 6).t, .int .i64 (kR 6).s, .int .i64 (kR 6).c, .int .i64 (kR 6).w, .int .i64 (kR 6).g, .int .i64 (kR 6).p, .int .i64 (kR 6).r, .pointer (some ⟨m.b, 0, none⟩), .int .i64 0] : Array Value)[o]?) ∧ w'.cell? ⟨w2.heap.size, κ, none⟩ = some (.pointer (some ⟨tb, 0, none⟩))) (first | exact ⟨hEd, hcd⟩ | exact ⟨hE3, hc3⟩ | exact ⟨hE4, hc4⟩)
                (first
                  | (go_at_call 85; with_reducible refine (place_step tb kR6_ok HM.out HI.out HST.out hWd.ew.mem hBd n1 n2' n3).mono ?_; rintro e w3 ⟨rfl, h31, hB3, h33⟩; have hW3 := hWd.step hA hκ HTB.out h31 hB3 h33; have hE3 := hW3.ew.env.cell; have hc3 := hW3.at hκ; simp only [HTB.out] at hc3; have hdc3 := hW3.done hκ; rw [HD.out] at hdc3; have hdf3 := hW3.dn.frozen; have hdl3 := hW3.dn.lt; have hW4 := hW3.setD hA hκ b; have hE4 := hW4.ew.env.cell; have hc4 := hW4.at hκ; simp only [HTB.out] at hc4))
            | fail "region 17"
          all_goals
            go_wp2
            go_roundw
            case rel => exact ⟨j + 1, s2, _, _, by go_num, by omega, hW4, HV2.out⟩
            case measure => simp [intOf]; omega
        · rw [hd] at hdc
          have HV2 := Lib.hid (hV.skip hκ hd hp)
          clear hd hV
          go_wp2
          go_roundw
          case rel => exact ⟨j + 1, s, f, d, by go_num, by omega, hW, HV2.out⟩
          case measure => simp [intOf]; omega
      · by_cases hjn : j < n
        · have h100 : ¬ j < 100 := fun h => hAB ⟨hjn, h⟩
          obtain ⟨κ, hκ, hκj, hk3⟩ := tmod3q j
          have hp : j < 100 ∨ κ = j % 3 := .inr hκj
          clear hκj hAB
          have hκ0 : (0 : Int) ≤ (κ : Int) := by omega
          have hκ3 : (κ : Int) < 3 := by omega
          have hdc := hW.done hκ
          have hwc := hW.at hκ
          rcases hd : d κ
          · rw [hd] at hdc
            obtain ⟨hM, hI⟩ := hV.inv hκ hd
            rcases hst : placeStep (kR 6) 0 s (f κ) with ⟨b, s2, p2⟩
            have hV2 := hV.step ha HR.out hκ hd hp hst
            obtain ⟨p, hpe⟩ : ∃ p, f κ = p := ⟨_, rfl⟩
            have hbl := hW.ths κ hκ
            rw [hpe] at hI hst hbl
            obtain ⟨nb0, nb1, nb2, nb3, nb4⟩ := hW.nb κ hκ
            obtain ⟨tb, htb⟩ : ∃ tb, w2.heap.size + 1 + 1 + κ = tb := ⟨_, rfl⟩
            simp only [htb] at hbl nb0 nb1 nb2 nb3 nb4 hwc
            simp only [List.mem_cons, List.not_mem_nil, or_false, not_or] at nb1
            obtain ⟨n1, n2', n3⟩ := nb1
            have HTB := Lib.hid htb
            have HM := Lib.hid hM
            have HI := Lib.hid hI
            have HST := Lib.hid hst
            have HV2 := Lib.hid hV2
            have HPE := Lib.hid hpe
            have HV := Lib.hid hV
            have HD := Lib.hid hd
            clear htb hM hI hst hV2 hpe hV hd
            go_wp2
            have hWd := hW.drew
            have hEd := hWd.ew.env.cell
            have hBd := hbl.drew
            have hcd := hWd.at hκ
            simp only [HTB.out] at hcd
            have hdd := hWd.done hκ
            have hdf := hWd.dn.frozen
            have hdl := hWd.dn.lt
            rw [HD.out] at hdd
            clear hEc hwc hW hbl hdc
            first
              | go_region_held3 (fun w' => (∀ o, w'.cell? ⟨w1.heap.size, o, none⟩ = (#[.int .i64 (kR 6).t, .int .i64 (kR 6).s, .int .i64 (kR 6).c, .int .i64 (kR 6).w, .int .i64 (kR 6).g, .int .i64 (kR 6).p, .int .i64 (kR 6).r, .pointer (some ⟨m.b, 0, none⟩), .int .i64 0] : Array Value)[o]?) ∧ w'.cell? ⟨w2.heap.size, κ, none⟩ = some (.pointer (some ⟨tb, 0, none⟩))) (first | exact ⟨hEd, hcd⟩ | exact ⟨hE3, hc3⟩ | exact ⟨hE4, hc4⟩)
                  (first
                    | (go_at_call 85; with_reducible refine (place_step tb kR6_ok HM.out HI.out HST.out hWd.ew.mem hBd n1 n2' n3).mono ?_; rintro e w3 ⟨rfl, h31, hB3, h33⟩; have hW3 := hWd.step hA hκ HTB.out h31 hB3 h33; have hE3 := hW3.ew.env.cell; have hc3 := hW3.at hκ; simp only [HTB.out] at hc3; have hdc3 := hW3.done hκ; rw [HD.out] at hdc3; have hdf3 := hW3.dn.frozen; have hdl3 := hW3.dn.lt; have hW4 := hW3.setD hA hκ b; have hE4 := hW4.ew.env.cell; have hc4 := hW4.at hκ; simp only [HTB.out] at hc4))
              | fail "region 17"
            all_goals
              go_wp2
              go_roundw
              case rel => exact ⟨j + 1, s2, _, _, by go_num, by omega, hW4, HV2.out⟩
              case measure => simp [intOf]; omega
          · rw [hd] at hdc
            have HV2 := Lib.hid (hV.skip hκ hd hp)
            clear hd hV
            go_wp2
            go_roundw
            case rel => exact ⟨j + 1, s, f, d, by go_num, by omega, hW, HV2.out⟩
            case measure => simp [intOf]; omega
        · obtain ⟨κ, hκ, hκj, hk3⟩ := tmod3q j
          have hp : j < 100 ∨ κ = j % 3 := .inr hκj
          clear hκj hAB
          have hκ0 : (0 : Int) ≤ (κ : Int) := by omega
          have hκ3 : (κ : Int) < 3 := by omega
          have hdc := hW.done hκ
          have hwc := hW.at hκ
          rcases hd : d κ
          · rw [hd] at hdc
            obtain ⟨hM, hI⟩ := hV.inv hκ hd
            rcases hst : placeStep (kR 6) 0 s (f κ) with ⟨b, s2, p2⟩
            have hV2 := hV.step ha HR.out hκ hd hp hst
            obtain ⟨p, hpe⟩ : ∃ p, f κ = p := ⟨_, rfl⟩
            have hbl := hW.ths κ hκ
            rw [hpe] at hI hst hbl
            obtain ⟨nb0, nb1, nb2, nb3, nb4⟩ := hW.nb κ hκ
            obtain ⟨tb, htb⟩ : ∃ tb, w2.heap.size + 1 + 1 + κ = tb := ⟨_, rfl⟩
            simp only [htb] at hbl nb0 nb1 nb2 nb3 nb4 hwc
            simp only [List.mem_cons, List.not_mem_nil, or_false, not_or] at nb1
            obtain ⟨n1, n2', n3⟩ := nb1
            have HTB := Lib.hid htb
            have HM := Lib.hid hM
            have HI := Lib.hid hI
            have HST := Lib.hid hst
            have HV2 := Lib.hid hV2
            have HPE := Lib.hid hpe
            have HV := Lib.hid hV
            have HD := Lib.hid hd
            clear htb hM hI hst hV2 hpe hV hd
            go_wp2
            have hWd := hW.drew
            have hEd := hWd.ew.env.cell
            have hBd := hbl.drew
            have hcd := hWd.at hκ
            simp only [HTB.out] at hcd
            have hdd := hWd.done hκ
            have hdf := hWd.dn.frozen
            have hdl := hWd.dn.lt
            rw [HD.out] at hdd
            clear hEc hwc hW hbl hdc
            first
              | go_region_held3 (fun w' => (∀ o, w'.cell? ⟨w1.heap.size, o, none⟩ = (#[.int .i64 (kR 6).t, .int .i64 (kR 6).s, .int .i64 (kR 6).c, .int .i64 (kR 6).w, .int .i64 (kR 6).g, .int .i64 (kR 6).p, .int .i64 (kR 6).r, .pointer (some ⟨m.b, 0, none⟩), .int .i64 0] : Array Value)[o]?) ∧ w'.cell? ⟨w2.heap.size, κ, none⟩ = some (.pointer (some ⟨tb, 0, none⟩))) (first | exact ⟨hEd, hcd⟩ | exact ⟨hE3, hc3⟩ | exact ⟨hE4, hc4⟩)
                  (first
                    | (go_at_call 85; with_reducible refine (place_step tb kR6_ok HM.out HI.out HST.out hWd.ew.mem hBd n1 n2' n3).mono ?_; rintro e w3 ⟨rfl, h31, hB3, h33⟩; have hW3 := hWd.step hA hκ HTB.out h31 hB3 h33; have hE3 := hW3.ew.env.cell; have hc3 := hW3.at hκ; simp only [HTB.out] at hc3; have hdc3 := hW3.done hκ; rw [HD.out] at hdc3; have hdf3 := hW3.dn.frozen; have hdl3 := hW3.dn.lt; have hW4 := hW3.setD hA hκ b; have hE4 := hW4.ew.env.cell; have hc4 := hW4.at hκ; simp only [HTB.out] at hc4))
              | fail "region 17"
            all_goals
              go_wp2
              go_roundw
              case rel => exact ⟨j + 1, s2, _, _, by go_num, by omega, hW4, HV2.out⟩
              case measure => simp [intOf]; omega
          · rw [hd] at hdc
            have HV2 := Lib.hid (hV.skip hκ hd hp)
            clear hd hV
            go_wp2
            go_roundw
            case rel => exact ⟨j + 1, s, f, d, by go_num, by omega, hW, HV2.out⟩
            case measure => simp [intOf]; omega
    · have hj300 : j = 300 := by omega
      rw [hj300] at hV
      obtain ⟨hd, S, hf, ho, hRS⟩ := hV.out HF.out
      have hvf := vfin ha hf ho hRS
      have hd0 := hW.done (show 0 < 3 by decide)
      have hd1 := hW.done (show 1 < 3 by decide)
      have hd2 := hW.done (show 2 < 3 by decide)
      rw [hd 0 (by decide)] at hd0
      rw [hd 1 (by decide)] at hd1
      rw [hd 2 (by decide)] at hd2
      clear hj300 hV hd hf ho hRS
      obtain ⟨op, hop⟩ : ∃ op, S.op = op := ⟨_, rfl⟩
      rw [hop] at hvf
      clear hop
      have hop0 := hvf.o0
      have hop1 := hvf.o1
      have hpk : ∀ w', MemR w' m s → Calls Try.prog 44 #[.pointer (some ⟨m.b, 0, none⟩), .int .i64 (aOpen (a : Int))] w' fun e w2 => e = .returned (.int .u64 (op : Int)) ∧ w' = w2 := fun w' h => by
        have := peek_any (a := aOpen (a : Int)) h
        rw [hvf.get] at this
        exact this
      have hroom : ∀ w', Calls Try.prog 37 #[.int .i64 (a : Int)] w' fun e w2 => e = .returned (.int .i64 (r : Int)) ∧ Only [] w' w2 := fun w' => by
        have := refroom_any (a : Int) w' (by omega)
        rw [HR.out] at this
        exact this
      have hrb : (r : Int) ≤ 17 := by
        have := HR.out
        have := (room_rng (c := (a : Int)) (by omega)).2
        omega
      have HRB := Lib.hid hrb
      clear hrb
      obtain ⟨e1, e2, _, _⟩ := small_wraps (x := (op : Int)) (y := 0) (by omega) (by omega) (by omega) (by omega)
      have HVF := Lib.hid hvf
      clear hvf
      go_wp2
      have hWd := hW.drew
      clear hW hEc hd0 hd1 hd2
      refine qc_enter (fun w' => VW w w' m (kR 6) w1.heap.size w2.heap.size (w2.heap.size + 1) s f (fun i => w2.heap.size + 1 + 1 + i) d) (by kernel_rfl) (by kernel_rfl) ?_ ?_
      focus (exact hWd)
      repeat (first
        | go_big_quiet_skip
        | (go_big_quiet_want
           apply Exists.intro
           refine ⟨fun wq hq => ?_, ?_⟩
           focus
             (have hc1 := hq.ew.env.cell)
             unfold Oper.quietAt
             go_simp
             (first
               | done
               | with_reducible exact rfl
               | with_reducible exact ⟨rfl, rfl⟩
               | (first | (go_at_call 47; refine (open_any _ _).mono ?_; rintro e w' ⟨rfl, rfl⟩; exact ⟨rfl, hq⟩) | (go_at_call 44; with_reducible refine (hpk _ hq.ew.mem).mono ?_; rintro e w' ⟨rfl, rfl⟩; exact ⟨rfl, hq⟩)))
           (try simp only [Act.put, List.setIfInBounds_toArray, List.set_cons_zero, List.set_cons_succ])
           go_big_quiet_on))
      refine wpQuiet_nil ?_
      intro wq hq
      clear hWd hpk e1 e2
      go_wp2
      go_loopw [15, 14] (fun x t wr => ∃ (q : Nat), x = .int .i64 q ∧ t = .int .i64 (usum s q) ∧ q ≤ 6 ∧ VW w wr m (kR 6) w1.heap.size w2.heap.size (w2.heap.size + 1) s f (fun i => w2.heap.size + 1 + 1 + i) d) (fun x _ _ => 6 - (intOf x).toNat)
      case atStart => exact ⟨0, rfl, rfl, by omega, hq⟩
      case round =>
        clear hq
        obtain ⟨q, rfl, rfl, hq6, hW⟩ := hrel
        have hEc := hW.ew.env.cell
        obtain ⟨u0, u1⟩ := usum_rng s q
        by_cases hqlt : q < 6
        · obtain ⟨v, hv⟩ : ∃ v, cw (kR 6) s q = v := ⟨_, rfl⟩
          have hC := HVF.out.pm.okC kR6_ok (i := (q : Int)) (by omega) (by omega)
          have hget : s.get (aChunk (kR 6) q) = v := by rw [get_ok _ _ hC, ← hv]; rfl
          have hvU : U64 v := by rw [← hv]; exact HVF.out.pm.at_rng _
          have hone := HVF.out.one q hqlt
          have husc : usum s (q + 1) = usum s q + chUs v := by rw [← hv]; rfl
          rw [hv] at hone
          have hpk : ∀ w', MemR w' m s → Calls Try.prog 44 #[.pointer (some ⟨m.b, 0, none⟩), .int .i64 (aChunk (kR 6) q)] w' fun e w2 => e = .returned (.int .u64 v) ∧ w' = w2 := fun w' h => by
            have := peek_any (a := aChunk (kR 6) q) h
            rw [hget] at this
            exact this
          have hcw := fun w' => chunk_word v w' hvU
          have hrg := ch_rng v
          obtain ⟨hg0, hg1, hg2, hg3, hg4, hg5, _, _⟩ := hrg
          have HUS := Lib.hid husc
          have HON := Lib.hid hone
          clear hv hget hvU husc hone
          obtain ⟨st, hst⟩ : ∃ st, chSt v = st := ⟨_, rfl⟩
          obtain ⟨cl, hcl⟩ : ∃ cl, chCl v = cl := ⟨_, rfl⟩
          obtain ⟨us, hus⟩ : ∃ us, chUs v = us := ⟨_, rfl⟩
          obtain ⟨sp, hsp⟩ : ∃ sp, chSp v = sp := ⟨_, rfl⟩
          simp only [hst, hcl, hus, hsp] at hcw hg0 hg1 hg2 hg3 hg4 hg5
          have HON2 := HON.out
          have HUS2 := HUS.out
          rw [hst, hcl, hus] at HON2
          rw [hus] at HUS2
          have HON := Lib.hid HON2
          have HUS := Lib.hid HUS2
          clear hst hcl hus hsp HON2 HUS2
          have hM0 := hW.ew.mem
          have hE0 := hW.ew.env
          have hEl := hE0.lt
          go_upto_region 24 with fail
          go_cut [16] (fun s16 wx => ∃ kb, s16 = .pointer (some ⟨kb, 0, none⟩) ∧ VW w wx m (kR 6) w1.heap.size w2.heap.size (w2.heap.size + 1) s f (fun i => w2.heap.size + 1 + 1 + i) d ∧ Blk wx kb #[.int .i64 st, .int .i64 cl, .int .i64 us, .int .i64 sp] 107)
          case first =>
            go_region_held3 (fun w' => ∀ o, w'.cell? ⟨w1.heap.size, o, none⟩ = (#[.int .i64 (kR 6).t, .int .i64 (kR 6).s, .int .i64 (kR 6).c, .int .i64 (kR 6).w, .int .i64 (kR 6).g, .int .i64 (kR 6).p, .int .i64 (kR 6).r, .pointer (some ⟨m.b, 0, none⟩), .int .i64 0] : Array Value)[o]?) ((refine Blk.cell (T := 47) ?_; repeat (first | with_reducible assumption | with_reducible apply Blk.drew | with_reducible apply Blk.alloc | (with_reducible refine Blk.only ?_ (by with_reducible assumption) (by first | exact List.not_mem_nil | with_reducible assumption)) | (with_reducible refine Blk.other ?_ _ _ (by simp only; omega)))))
              (first
                | (go_at_call 50; with_reducible refine (chunka_any _ (kR 6) _).mono ?_; rintro e w' ⟨rfl, rfl⟩)
                | (go_at_call 44; with_reducible refine (hpk _ (by repeat (first | with_reducible assumption | with_reducible apply MemR.drew | with_reducible apply MemR.alloc | (with_reducible refine MemR.only ?_ (by with_reducible assumption) List.not_mem_nil List.not_mem_nil List.not_mem_nil) | (with_reducible refine MemR.other ?_ _ _ (by simp only; omega) (by simp only; omega) (by simp only; omega))))).mono ?_; rintro e w' ⟨rfl, rfl⟩)
                | (go_at_call 83; with_reducible refine (hcw _).mono ?_; rintro e w' ⟨rfl, ho83⟩; obtain ⟨q831, q832⟩ := ho83.cells1; have hz83 := ho83.size; simp only [World.size_alloc, World.size_drew] at hz83))
            all_goals
              go_wp2_with fail
              go_meet
              refine ⟨_, rfl, hW.only0 ?_, ?_⟩
              · repeat (first | with_reducible exact Only.refl _ _ | (with_reducible refine Only.setCell ?_ _ _ (fun hh => absurd hh (by simp only; omega))) | with_reducible apply Only.alloc | with_reducible apply Only.drew | (with_reducible refine Only.trans' ?_ ho83 (fun _ h _ => h)))
              · first
                  | with_reducible exact Blk.new' rfl rfl
                  | (refine (((((show Blk w' _ #[.int .i64 0, .int .i64 0, .int .i64 0, .int .i64 0] 107 from Blk.only ?_ ho83 (by simp)).set 0 _ rfl).set 1 _ rfl).set 2 _ rfl).set 3 _ rfl); (repeat (first | with_reducible exact Blk.new' (by simp) rfl | with_reducible apply Blk.drew | with_reducible apply Blk.alloc)))
          case rest =>
            obtain ⟨kb, rfl, hW6, hKB⟩ := hcut
            clear hM0 hE0 hEl hW hpk hcw
            have hKc := hKB.cell
            have hr2 := HRB.out
            by_cases hqo : q + 1 = op
            · obtain ⟨h1, h2⟩ := HON.out.1 hqo
              have k1 : ((q : Int) == (op : Int) - 1) = true := beq_iff_eq.2 (by omega)
              have k2 : ((q : Int) != (op : Int) - 1) = false := bne_eq_false_iff_eq.2 (by omega)
              have k3 : (st != 1) = false := bne_eq_false_iff_eq.2 h1
              have k4 : (cl != (a : Int)) = false := bne_eq_false_iff_eq.2 h2
              clear h1 h2
              go_wp2
              have hWd := hW6.drew
              have hKd := hKB.drew
              clear hW6 hKB hKc
              go_wp2
              refine qc_enter (fun w' => VW w w' m (kR 6) w1.heap.size w2.heap.size (w2.heap.size + 1) s f (fun i => w2.heap.size + 1 + 1 + i) d ∧ Blk w' kb #[.int .i64 st, .int .i64 cl, .int .i64 us, .int .i64 sp] 107) (by kernel_rfl) (by kernel_rfl) ?_ ?_
              focus (exact ⟨hWd, hKd⟩)
              repeat (first
                | go_big_quiet_skip
                | (go_big_quiet_want
                   apply Exists.intro
                   refine ⟨fun wq hq => ?_, ?_⟩
                   focus
                     (obtain ⟨hq1, hq2⟩ := hq; have hc1 := hq2.cell)
                     unfold Oper.quietAt
                     go_simp
                     (first
                       | done
                       | with_reducible exact rfl
                       | with_reducible exact ⟨rfl, rfl⟩
                       | ((go_at_call 37; with_reducible refine (hroom _).mono ?_; rintro e w' ⟨rfl, ho⟩; exact ⟨rfl, hq1.only0 ho, hq2.only ho (by simp)⟩)))
                   (try simp only [Act.put, List.setIfInBounds_toArray, List.set_cons_zero, List.set_cons_succ])
                   go_big_quiet_on))
              refine wpQuiet_nil ?_
              intro wq hq
              obtain ⟨hq1, hq2⟩ := hq
              go_wp2
              go_roundw
              case rel => exact ⟨q + 1, by go_num, by rw [HUS.out], by omega, hq1⟩
              case measure => simp [intOf]; omega
            · have k1 : ((q : Int) == (op : Int) - 1) = false := beq_eq_false_iff_ne.2 (by omega)
              have k2 : ((q : Int) != (op : Int) - 1) = true := bne_iff_ne.2 (by omega)
              by_cases hs1 : st = 1
              · have h20 := HON.out.2 hqo hs1
                have k3 : (st == 1) = true := beq_iff_eq.2 hs1
                have k4 : IntKind.i64.wrap (us + (r : Int)) = us + r := (small_wraps (x := (r : Int)) (y := us) (by omega) (by omega) (by omega) (by omega)).2.2.1
                have k5 : decide (us + (r : Int) ≤ 20) = false := decide_eq_false (by omega)
                clear hs1 h20
                go_wp2
                have hWd := hW6.drew
                have hKd := hKB.drew
                clear hW6 hKB hKc
                go_wp2
                refine qc_enter (fun w' => VW w w' m (kR 6) w1.heap.size w2.heap.size (w2.heap.size + 1) s f (fun i => w2.heap.size + 1 + 1 + i) d ∧ Blk w' kb #[.int .i64 st, .int .i64 cl, .int .i64 us, .int .i64 sp] 107) (by kernel_rfl) (by kernel_rfl) ?_ ?_
                focus (exact ⟨hWd, hKd⟩)
                repeat (first
                  | go_big_quiet_skip
                  | (go_big_quiet_want
                     apply Exists.intro
                     refine ⟨fun wq hq => ?_, ?_⟩
                     focus
                       (obtain ⟨hq1, hq2⟩ := hq; have hc1 := hq2.cell)
                       unfold Oper.quietAt
                       go_simp
                       (first
                         | done
                         | with_reducible exact rfl
                         | with_reducible exact ⟨rfl, rfl⟩
                         | ((go_at_call 37; with_reducible refine (hroom _).mono ?_; rintro e w' ⟨rfl, ho⟩; exact ⟨rfl, hq1.only0 ho, hq2.only ho (by simp)⟩)))
                     (try simp only [Act.put, List.setIfInBounds_toArray, List.set_cons_zero, List.set_cons_succ])
                     go_big_quiet_on))
                refine wpQuiet_nil ?_
                intro wq hq
                obtain ⟨hq1, hq2⟩ := hq
                go_wp2
                go_roundw
                case rel => exact ⟨q + 1, by go_num, by rw [HUS.out], by omega, hq1⟩
                case measure => simp [intOf]; omega
              · have k3 : (st == 1) = false := beq_eq_false_iff_ne.2 hs1
                clear hs1
                go_wp2
                have hWd := hW6.drew
                have hKd := hKB.drew
                clear hW6 hKB hKc
                go_wp2
                refine qc_enter (fun w' => VW w w' m (kR 6) w1.heap.size w2.heap.size (w2.heap.size + 1) s f (fun i => w2.heap.size + 1 + 1 + i) d ∧ Blk w' kb #[.int .i64 st, .int .i64 cl, .int .i64 us, .int .i64 sp] 107) (by kernel_rfl) (by kernel_rfl) ?_ ?_
                focus (exact ⟨hWd, hKd⟩)
                repeat (first
                  | go_big_quiet_skip
                  | (go_big_quiet_want
                     apply Exists.intro
                     refine ⟨fun wq hq => ?_, ?_⟩
                     focus
                       (obtain ⟨hq1, hq2⟩ := hq; have hc1 := hq2.cell)
                       unfold Oper.quietAt
                       go_simp
                       (first
                         | done
                         | with_reducible exact rfl
                         | with_reducible exact ⟨rfl, rfl⟩
                         | ((go_at_call 37; with_reducible refine (hroom _).mono ?_; rintro e w' ⟨rfl, ho⟩; exact ⟨rfl, hq1.only0 ho, hq2.only ho (by simp)⟩)))
                     (try simp only [Act.put, List.setIfInBounds_toArray, List.set_cons_zero, List.set_cons_succ])
                     go_big_quiet_on))
                refine wpQuiet_nil ?_
                intro wq hq
                obtain ⟨hq1, hq2⟩ := hq
                go_wp2
                go_roundw
                case rel => exact ⟨q + 1, by go_num, by rw [HUS.out], by omega, hq1⟩
                case measure => simp [intOf]; omega
        · have hq6' : q = 6 := by omega
          have h6 : usum s q = 3 * (r : Int) := by rw [hq6']; exact usum_six HVF.out
          have he : (usum s q == 3 * (r : Int)) = true := beq_iff_eq.2 h6
          have hr2 := HRB.out
          have k4 : IntKind.i64.wrap (3 * (r : Int)) = 3 * r := (small_wraps (x := (r : Int)) (y := 0) (by omega) (by omega) (by omega) (by omega)).2.2.2
          clear h6 hq6'
          go_wp2_with (first | (go_at_call 37; with_reducible refine (hroom _).mono ?_; rintro e w' ⟨rfl, ho⟩))
          go_ret
          exact ⟨rfl, hW.ew.only.trans' ho (fun _ h _ => h)⟩

end Go.Proofs.Yteoimmjgnflmmaa
