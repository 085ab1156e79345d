/-
  EpochGoes, walked.
-/
import Derived.Test.YteoimmjgnflmmaaEp
namespace Go.Proofs.Yteoimmjgnflmmaa
open Go.RowKit Go.BigFrame

def kE8 : Cfg := ⟨8, 1, 1, 20, 100, 600, 3⟩
theorem kE8_ok : kE8.Ok := by constructor <;> decide
theorem kE8_len : (freshS kE8).ws.length = 39 := by decide +kernel
theorem kE8_zero : ∀ i, i < 8 → (freshS kE8).ws.getD (6 + i) 0 = 0 := by decide +kernel

structure EG (s : MS) (v : Int) (j : Nat) (b : Bool) : Prop where
  len : s.ws.length = 39
  v0 : s.ws.getD 0 0 = v
  zero : ∀ i, j ≤ i → i < 8 → s.ws.getD (6 + i) 0 = 0
  iff : b = true ↔ AllOk s.ws j

theorem getD_set (l : List Int) (i j : Nat) (v : Int) (h : i < l.length) : (l.set i v).getD j 0 = if j = i then v else l.getD j 0 := by
  by_cases hj : j = i
  · subst hj; simp [List.getD, h]
  · simp [List.getD, Ne.symm hj, hj]

theorem EG.start {s : MS} (h : s.ws = (freshS kE8).ws) (v : Int) : EG (s.store 0 v) v 0 true := by
  have hok : s.ok 0 := ⟨by decide, by rw [h, kE8_len]; decide⟩
  have hw : (s.store 0 v).ws = (freshS kE8).ws.set 0 v := by rw [store_ws, if_pos hok, h]; rfl
  refine ⟨by rw [hw]; simp [kE8_len], ?_, fun i _ h8 => ?_, ⟨fun _ i hi => absurd hi (by omega), fun _ => rfl⟩⟩
  · rw [hw, getD_set _ _ _ _ (by rw [kE8_len]; decide)]; simp
  · rw [hw, getD_set _ _ _ _ (by rw [kE8_len]; decide), if_neg (by omega)]; exact kE8_zero i h8

theorem EG.step {s : MS} {v : Int} {j : Nat} {b : Bool} (h : EG s v j b) (hj : j < 8) (P : Int) (b' : Bool) (hb : b' = true ↔ b = true ∧ (P = 0 ∨ P = IntKind.u64.wrap (v + 1))) : EG (s.store (aPin j) P) v (j + 1) b' := by
  obtain ⟨hl, hv, hz, hi⟩ := h
  have ha : aPin j = 6 + (j : Int) := aPin_small (by omega) (by omega)
  have hok : s.ok (aPin j) := ⟨by omega, by omega⟩
  have hw : (s.store (aPin j) P).ws = s.ws.set (6 + j) P := by
    rw [store_ws, if_pos hok, ha]
    congr 1
  have hg : ∀ i, (s.store (aPin j) P).ws.getD i 0 = if i = 6 + j then P else s.ws.getD i 0 := fun i => by
    rw [hw, getD_set _ _ _ _ (by omega)]
  refine ⟨by rw [hw]; simp [hl], by rw [hg, if_neg (by omega)]; exact hv, fun i h1 h2 => by rw [hg, if_neg (by omega)]; exact hz i (by omega) h2, ?_⟩
  rw [hb, hi]
  constructor
  · rintro ⟨h1, h2⟩ i hlt
    unfold okPin
    rw [hg, hg, if_neg (show ¬ 0 = 6 + j by omega), hv]
    by_cases he : i = j
    · subst he; rw [if_pos rfl]; exact h2
    · rw [if_neg (by omega)]
      have := h1 i (by omega)
      unfold okPin at this
      rw [hv] at this
      exact this
  · intro h1
    have h2 : ∀ i, i < j + 1 → (if 6 + i = 6 + j then P else s.ws.getD (6 + i) 0) = 0 ∨ (if 6 + i = 6 + j then P else s.ws.getD (6 + i) 0) = IntKind.u64.wrap (v + 1) := fun i hlt => by
      have := h1 i hlt
      unfold okPin at this
      rw [hg, hg, if_neg (show ¬ 0 = 6 + j by omega), hv] at this
      exact this
    constructor
    · intro i hlt
      have := h2 i (by omega)
      rw [if_neg (by omega)] at this
      unfold okPin
      rw [hv]
      exact this
    · have := h2 j (by omega)
      rw [if_pos rfl] at this
      exact this

theorem EG.all {s : MS} {v : Int} {j : Nat} {b : Bool} (h : EG s v j b) (hj : j ≤ 8) : b = true ↔ AllOk s.ws 8 := by
  rw [h.iff]
  constructor
  · intro h1 i hi
    rcases Nat.lt_or_ge i j with h2 | h2
    · exact h1 i h2
    · exact .inl (h.zero i h2 hi)
  · intro h1 i hi
    exact h1 i (by omega)

set_option maxRecDepth 100000 in
set_option maxHeartbeats 3200000 in
theorem goes_walk (now : Int) (hnow : U64 now) (A : Option Addr) (n c : Nat) (xs : List Int) (hw : ∀ x ∈ xs, U64 x) (w : World) (hS : Slc (Value.int .u64) w A n xs) : Calls Try.prog 10 #[.int .u64 now, .slice A n c] w fun e w' => e = .returned (.bool true) ∧ Only [] w w' := by
  have hmost := hS.most
  unfold maxLen at hmost
  have hvu := uand_u64 now hnow
  go_enter Try.func10, Try.ntmps10
  go_wp2_with fail
  refine (arena_yes kE8 kE8_ok rfl rfl rfl _).mono ?_
  rintro e w1 ⟨m, rfl, hm1, hn1, ho1⟩
  obtain ⟨hl1, hl2, hl3⟩ := hm1.lts
  obtain ⟨hn1, hn2, hn3⟩ := hn1
  have hE1 := Blk.new w1 #[.int .i64 kE8.t, .int .i64 kE8.s, .int .i64 kE8.c, .int .i64 kE8.w, .int .i64 kE8.g, .int .i64 kE8.p, .int .i64 kE8.r, .pointer (some ⟨m.b, 0, none⟩), .int .i64 0] 47
  go_wp2_with fail
  refine (awake13 _).mono ?_
  rintro e w2 ⟨rfl, ho2⟩
  have hz := ho1.size
  have hz2 := ho2.size
  simp only [World.size_alloc] at hz2
  have hE2 : Blk w2 w1.heap.size #[.int .i64 kE8.t, .int .i64 kE8.s, .int .i64 kE8.c, .int .i64 kE8.w, .int .i64 kE8.g, .int .i64 kE8.p, .int .i64 kE8.r, .pointer (some ⟨m.b, 0, none⟩), .int .i64 0] 47 := hE1.only ho2 (by simp)
  have hM2 : MemR w2 m (freshS kE8) := (hm1.alloc _).only ho2 (by simp) (by simp) (by simp)
  have hO2 : Only [] w w2 := (ho1.alloc _).trans' ho2 (fun _ h _ => h)
  have hnx : w1.heap.size ∉ m.l := hm1.notin (Nat.le_refl _)
  have hEd := hE2.drew
  have hMd := hM2.drew
  have hlm : ∀ x, x ∈ m.l → x < w.heap.size → x ∈ ([] : List Nat) := fun x hx hlt => by
    simp only [List.mem_cons, List.not_mem_nil, or_false] at hx; omega
  clear hE1 hm1 ho1 ho2
  generalize hv : bits .and .u64 now 65535 = v at hvu
  go_wp2
  go_region_held3 (fun w' => ∀ o, w'.cell? ⟨w1.heap.size, o, none⟩ = (#[.int .i64 kE8.t, .int .i64 kE8.s, .int .i64 kE8.c, .int .i64 kE8.w, .int .i64 kE8.g, .int .i64 kE8.p, .int .i64 kE8.r, .pointer (some ⟨m.b, 0, none⟩), .int .i64 0] : Array Value)[o]?) (first | exact hEd.cell | exact hE3.cell)
    (first
      | (go_at_call 45; refine (epoch_any _).mono ?_; rintro e w' ⟨rfl, rfl⟩)
      | (go_at_call 59; with_reducible refine (store_any hMd hvu).mono ?_; rintro e w3 ⟨rfl, hM3, ho3⟩; have hE3 := hEd.only ho3 hnx; have hO3 := hO2.drew.trans' ho3 (fun x hx hlt => hlm x hx hlt)))
  all_goals
    have hG3 := EG.start (s := freshS kE8) rfl v
    clear hEd hMd hM2 hE2 hO2 ho3
    go_wp2
    go_loopw [8, 9] (fun x i wr => ∃ (j : Nat) (s : MS) (b : Bool), i = .int .i64 j ∧ x = .bool b ∧ j ≤ 8 ∧ j ≤ n ∧ EG s v j b ∧ MemR wr m s ∧ Blk wr w1.heap.size #[.int .i64 kE8.t, .int .i64 kE8.s, .int .i64 kE8.c, .int .i64 kE8.w, .int .i64 kE8.g, .int .i64 kE8.p, .int .i64 kE8.r, .pointer (some ⟨m.b, 0, none⟩), .int .i64 0] 47 ∧ Only [] w wr) (fun _ i _ => 8 - (intOf i).toNat)
    case atStart => exact ⟨0, _, true, rfl, rfl, by omega, by omega, hG3, hM3, hE3, hO3⟩
    case round =>
      clear hG3 hM3 hE3 hO3
      obtain ⟨j, s, b, rfl, rfl, hj, hjn, hG, hM, hE, hO⟩ := hrel
      have hEc := hE.cell
      by_cases hn : j < n
      · by_cases h8 : j < 8
        · have hSr := hS.only hO
          obtain ⟨bb, off, rfl, hbb, hcell⟩ := hSr.cells (by omega)
          have hcj := hcell j hn
          clear hcell hSr
          have hx : U64 (xs.getD j default) := by
            by_cases hjl : j < xs.length
            · have : xs.getD j default = xs[j] := by simp [hjl]
              rw [this]; exact hw _ (List.getElem_mem hjl)
            · exact absurd hn (by rw [← hS.len]; exact hjl)
          generalize xs.getD j default = x at hcj hx
          have hpu := uand_u64 x hx
          generalize hP : bits .and .u64 x 65535 = P at hpu
          have hEd := hE.drew
          have hMd := hM.drew
          go_wp2
          go_region_held3 (fun w' => ∀ o, w'.cell? ⟨w1.heap.size, o, none⟩ = (#[.int .i64 kE8.t, .int .i64 kE8.s, .int .i64 kE8.c, .int .i64 kE8.w, .int .i64 kE8.g, .int .i64 kE8.p, .int .i64 kE8.r, .pointer (some ⟨m.b, 0, none⟩), .int .i64 0] : Array Value)[o]?) (first | exact hEd.cell | exact hE3.cell)
            (first
              | (go_at_call 48; refine (pin_any _ _).mono ?_; rintro e w' ⟨rfl, rfl⟩)
              | (go_at_call 59; with_reducible refine (store_any hMd hpu).mono ?_; rintro e w3 ⟨rfl, hM3, ho3⟩; have hE3 := hEd.only ho3 hnx; have hO3 := hO.drew.trans' ho3 (fun x hx hlt => hlm x hx hlt)))
          all_goals
            have hG2 := fun b' hb => hG.step h8 P b' hb
            cases b
            · have hG2 := hG2 false (by simp)
              go_wp2
              go_roundw
              case rel => exact ⟨j + 1, _, false, by go_num, rfl, by omega, by omega, hG2, hM3, hE3, hO3⟩
              case measure => simp [intOf]; omega
            · by_cases h0 : P = 0
              · have hG2 := hG2 true (by simp [h0])
                go_wp2
                go_roundw
                case rel => exact ⟨j + 1, _, true, by go_num, rfl, by omega, by omega, hG2, hM3, hE3, hO3⟩
                case measure => simp [intOf]; omega
              · by_cases h1 : P = IntKind.u64.wrap (v + 1)
                · have hG2 := hG2 true (by simp [h1])
                  go_wp2
                  go_roundw
                  case rel => exact ⟨j + 1, _, true, by go_num, rfl, by omega, by omega, hG2, hM3, hE3, hO3⟩
                  case measure => simp [intOf]; omega
                · have hG2 := hG2 false (by simp [h0, h1])
                  go_wp2
                  go_roundw
                  case rel => exact ⟨j + 1, _, false, by go_num, by simp [h0, h1], by omega, by omega, hG2, hM3, hE3, hO3⟩
                  case measure => simp [intOf]; omega
        · skip
          go_wp2_with fail
          refine (advance_any kE8 0 8 b hM rfl (by decide) (by decide) (by rw [hG.len]; decide) (hG.all hj)).mono ?_
          rintro e w4 ⟨rfl, ⟨s4, hM4, hws4⟩, ho4⟩
          have hE4 := hE.only ho4 hnx
          have hEc4 := hE4.cell
          have hO4 := hO.trans' ho4 hlm
          clear hE hM hO hEc
          cases b
          · have hv4 : s4.get 0 = v := by
              rw [get_ok _ _ ⟨by decide, by rw [hws4]; simp [hG.len]⟩]
              unfold MS.at
              rw [hws4]
              simpa using hG.v0
            go_wp2
            go_quiet ((first
              | (go_at_call 45; exact Calls.quiet_of_same (epoch_q _))
              | (go_at_call 44; exact Calls.quiet_of_same (peek_q hM4 _ _))))
            go_wp2
            go_ret
            exact ⟨by simp [hv4], hO4.drewN _⟩
          · have hv4 : s4.get 0 = IntKind.u64.wrap (v + 1) := by
              rw [get_ok _ _ ⟨by decide, by rw [hws4]; simp [hG.len]⟩]
              unfold MS.at
              rw [hws4]
              have := getD_set s.ws 0 0 (IntKind.u64.wrap (s.ws.getD 0 0 + 1)) (by rw [hG.len]; decide)
              rw [if_pos rfl, hG.v0] at this
              rw [hG.v0]
              exact this
            go_wp2
            go_quiet ((first
              | (go_at_call 45; exact Calls.quiet_of_same (epoch_q _))
              | (go_at_call 44; exact Calls.quiet_of_same (peek_q hM4 _ _))))
            go_wp2
            go_ret
            exact ⟨by simp [hv4], hO4.drewN _⟩
      · skip
        go_wp2_with fail
        refine (advance_any kE8 0 8 b hM rfl (by decide) (by decide) (by rw [hG.len]; decide) (hG.all hj)).mono ?_
        rintro e w4 ⟨rfl, ⟨s4, hM4, hws4⟩, ho4⟩
        have hE4 := hE.only ho4 hnx
        have hEc4 := hE4.cell
        have hO4 := hO.trans' ho4 hlm
        clear hE hM hO hEc
        cases b
        · have hv4 : s4.get 0 = v := by
            rw [get_ok _ _ ⟨by decide, by rw [hws4]; simp [hG.len]⟩]
            unfold MS.at
            rw [hws4]
            simpa using hG.v0
          go_wp2
          go_quiet ((first
            | (go_at_call 45; exact Calls.quiet_of_same (epoch_q _))
            | (go_at_call 44; exact Calls.quiet_of_same (peek_q hM4 _ _))))
          go_wp2
          go_ret
          exact ⟨by simp [hv4], hO4.drewN _⟩
        · have hv4 : s4.get 0 = IntKind.u64.wrap (v + 1) := by
            rw [get_ok _ _ ⟨by decide, by rw [hws4]; simp [hG.len]⟩]
            unfold MS.at
            rw [hws4]
            have := getD_set s.ws 0 0 (IntKind.u64.wrap (s.ws.getD 0 0 + 1)) (by rw [hG.len]; decide)
            rw [if_pos rfl, hG.v0] at this
            rw [hG.v0]
            exact this
          go_wp2
          go_quiet ((first
            | (go_at_call 45; exact Calls.quiet_of_same (epoch_q _))
            | (go_at_call 44; exact Calls.quiet_of_same (peek_q hM4 _ _))))
          go_wp2
          go_ret
          exact ⟨by simp [hv4], hO4.drewN _⟩

end Go.Proofs.Yteoimmjgnflmmaa
