/-
  What a thread does, step by step, that wants words of a class: the rest.
-/
import Derived.Test.YteoimmjgnflmmaaPl
namespace Go.Proofs.Yteoimmjgnflmmaa
open Go.RowKit Go.BigFrame

section
variable {w : World} {m : MB} {s : MS}

def plGetW (p : PlS) : Int := putChunk (chSt p.w) (chCl p.w) (chUs p.w + room p.cl) (chSp p.w)

set_option maxRecDepth 100000 in
set_option maxHeartbeats 3200000 in
theorem plget_any (b : Bool) (k : Cfg) (wh : Int) (p : PlS) (tb : Nat) (hm : MemR w m s) (hb : Blk w tb p.cs 145) (hcl : p.cl = 0 ∨ p.cl = 1 ∨ p.cl = 2 ∨ p.cl = 3) (hU : U64 p.w) (hb0 : 0 ≤ aBase k p.i) (hb1 : aBase k p.i ≤ 1000000) (hcan : s.can (aChunk k p.i) p.w = b) (n1 : tb ≠ m.b) (n2 : tb ≠ m.wb) (n3 : tb ≠ m.hb) :
    Calls Try.prog 106 #[.pointer (some ⟨tb, 0, none⟩), .agg #[.int .i64 k.t, .int .i64 k.s, .int .i64 k.c, .int .i64 k.w, .int .i64 k.g, .int .i64 k.p, .int .i64 k.r, .pointer (some ⟨m.b, 0, none⟩), .int .i64 wh]] w fun e w' =>
      e = .returned (.bool b) ∧ MemR w' m ((s.by wh).cas (aChunk k p.i) p.w (plGetW p)) ∧ Blk w' tb (if b = true then { p with pc := 0, sa := aBase k p.i + chUs p.w, sc := p.i, ok := true } else { p with pc := 0 } : PlS).cs 145 ∧ Only [m.b, m.wb, m.hb, tb] w w' := by
  have hrm := room_rng hcl
  have hcl5 : p.cl = 0 ∨ p.cl = 1 ∨ p.cl = 2 ∨ p.cl = 3 ∨ p.cl = -1 := by omega
  clear hcl
  obtain ⟨cl, pc, op, ai, wd, sa, sc, ok⟩ := p
  obtain ⟨hrm0, hrm1⟩ := hrm
  simp only at hrm0 hrm1 hb0 hb1 hcan
  have hr := ch_rng wd
  obtain ⟨hr1, hr2, hr3, hr4, hr5, hr6, hr7, hr8⟩ := hr
  replace hb : Blk w tb #[.int .i64 cl, .int .i64 pc, .int .u64 op, .int .i64 ai, .int .u64 wd, .int .i64 sa, .int .i64 sc, .bool ok] 145 := hb
  have ht := hb.lt
  have hnt : tb ∉ [m.b, m.wb, m.hb] := by simp only [List.mem_cons, List.not_mem_nil, or_false, not_or]; exact ⟨n1, n2, n3⟩
  have hc0 := hb.cell
  have hf0 := hb.frozen
  obtain ⟨l1, l2, l3⟩ := hm.lts
  go_enter Try.func106, Try.ntmps106
  go_wp2_with fail
  refine (chunk_word wd _ hU).mono ?_
  rintro e w2 ⟨rfl, ho2⟩
  have hX2 := (Blk.new w #[.int .i64 k.t, .int .i64 k.s, .int .i64 k.c, .int .i64 k.w, .int .i64 k.g, .int .i64 k.p, .int .i64 k.r, .pointer (some ⟨m.b, 0, none⟩), .int .i64 wh] 47).only ho2 (by simp)
  have hB2 := (hb.alloc (.cells #[.int .i64 k.t, .int .i64 k.s, .int .i64 k.c, .int .i64 k.w, .int .i64 k.g, .int .i64 k.p, .int .i64 k.r, .pointer (some ⟨m.b, 0, none⟩), .int .i64 wh] 47)).only ho2 (by simp)
  have hM2 := (hm.alloc (.cells #[.int .i64 k.t, .int .i64 k.s, .int .i64 k.c, .int .i64 k.w, .int .i64 k.g, .int .i64 k.p, .int .i64 k.r, .pointer (some ⟨m.b, 0, none⟩), .int .i64 wh] 47)).only ho2 (by simp) (by simp) (by simp)
  have hO2 : Only [m.b, m.wb, m.hb, tb] w w2 := ((Only.refl _ w).alloc _).trans' ho2 (fun _ h _ => (List.not_mem_nil h).elim)
  have hz2 := ho2.size
  simp only [World.size_alloc] at hz2
  have hc2 := hB2.cell
  have hf2 := hB2.frozen
  have ht2 : tb < w2.heap.size := hB2.lt
  have hw2 : w.heap.size < w2.heap.size := hX2.lt
  have hx2 := hX2.cell
  have huw : IntKind.i64.wrap (chUs wd + room cl) = chUs wd + room cl := by rw [IntWalk.i64_left]; unfold wrap64; omega
  clear ho2 hc0 hf0
  go_wp2
  go_region_with ((go_at_call 36; refine (room_any _ _ hcl5).mono ?_; rintro e w' ⟨rfl, rfl⟩))
  all_goals
    go_wp2
    have hB3 : Blk ((w2.setCell ⟨tb, 1, none⟩ (.int .i64 0)).alloc (.cells #[.int .i64 (chSt wd), .int .i64 (chCl wd), .int .i64 (chUs wd + room cl), .int .i64 (chSp wd)] 107)) tb #[.int .i64 cl, .int .i64 0, .int .u64 op, .int .i64 ai, .int .u64 wd, .int .i64 sa, .int .i64 sc, .bool ok] 145 := (hB2.set 1 _ rfl).alloc _
    have hX3 : Blk ((w2.setCell ⟨tb, 1, none⟩ (.int .i64 0)).alloc (.cells #[.int .i64 (chSt wd), .int .i64 (chCl wd), .int .i64 (chUs wd + room cl), .int .i64 (chSp wd)] 107)) w.heap.size #[.int .i64 k.t, .int .i64 k.s, .int .i64 k.c, .int .i64 k.w, .int .i64 k.g, .int .i64 k.p, .int .i64 k.r, .pointer (some ⟨m.b, 0, none⟩), .int .i64 wh] 47 := (hX2.other _ _ (by simp only; omega)).alloc _
    have hM3 : MemR ((w2.setCell ⟨tb, 1, none⟩ (.int .i64 0)).alloc (.cells #[.int .i64 (chSt wd), .int .i64 (chCl wd), .int .i64 (chUs wd + room cl), .int .i64 (chSp wd)] 107)) m s := (hM2.other _ _ n1.symm n2.symm n3.symm).alloc _
    have hC3 : Blk ((w2.setCell ⟨tb, 1, none⟩ (.int .i64 0)).alloc (.cells #[.int .i64 (chSt wd), .int .i64 (chCl wd), .int .i64 (chUs wd + room cl), .int .i64 (chSp wd)] 107)) w2.heap.size #[.int .i64 (chSt wd), .int .i64 (chCl wd), .int .i64 (chUs wd + room cl), .int .i64 (chSp wd)] 107 := Blk.new' (by simp) rfl
    have hO3 : Only [m.b, m.wb, m.hb, tb] w ((w2.setCell ⟨tb, 1, none⟩ (.int .i64 0)).alloc (.cells #[.int .i64 (chSt wd), .int .i64 (chCl wd), .int .i64 (chUs wd + room cl), .int .i64 (chSp wd)] 107)) := (hO2.setCell _ _ (by simp)).alloc _
    have hnx : w.heap.size ∉ [m.b, m.wb, m.hb] := by simp only [List.mem_cons, List.not_mem_nil, or_false, not_or]; omega
    have hcn : w2.heap.size ∉ [m.b, m.wb, m.hb] := by simp only [List.mem_cons, List.not_mem_nil, or_false, not_or]; omega
    have hsub : ∀ x, x ∈ m.l → x < w.heap.size → x ∈ [m.b, m.wb, m.hb, tb] := by intro x hx _; simp only [List.mem_cons, List.not_mem_nil, or_false] at hx ⊢; omega
    have hsub0 : ∀ x, x ∈ ([] : List Nat) → x < w.heap.size → x ∈ [m.b, m.wb, m.hb, tb] := by intro x hx; cases hx
    clear hB2 hM2 hX2 hc2 hf2 hx2 hb hm hO2
    go_region_held3 (fun w' => (∀ o, w'.cell? ⟨w.heap.size, o, none⟩ = (#[.int .i64 k.t, .int .i64 k.s, .int .i64 k.c, .int .i64 k.w, .int .i64 k.g, .int .i64 k.p, .int .i64 k.r, .pointer (some ⟨m.b, 0, none⟩), .int .i64 wh] : Array Value)[o]?) ∧ (∀ o, w'.cell? ⟨tb, o, none⟩ = (#[.int .i64 cl, .int .i64 0, .int .u64 op, .int .i64 ai, .int .u64 wd, .int .i64 sa, .int .i64 sc, .bool ok] : Array Value)[o]?) ∧ (∀ o, w'.cell? ⟨w2.heap.size, o, none⟩ = (#[.int .i64 (chSt wd), .int .i64 (chCl wd), .int .i64 (chUs wd + room cl), .int .i64 (chSp wd)] : Array Value)[o]?)) ((refine ⟨?_, ?_, ?_⟩; (focus (refine Blk.cell (T := 47) ?_; repeat (first | with_reducible assumption | with_reducible apply Blk.drew | with_reducible apply Blk.alloc | (with_reducible refine Blk.only ?_ (by with_reducible assumption) (by first | exact List.not_mem_nil | with_reducible assumption)) | (with_reducible refine Blk.other ?_ _ _ (by simp only; omega))))); (focus (refine Blk.cell (T := 145) ?_; repeat (first | with_reducible assumption | with_reducible apply Blk.drew | with_reducible apply Blk.alloc | (with_reducible refine Blk.only ?_ (by with_reducible assumption) (by first | exact List.not_mem_nil | with_reducible assumption)) | (with_reducible refine Blk.other ?_ _ _ (by simp only; omega))))); (focus (refine Blk.cell (T := 107) ?_; repeat (first | with_reducible assumption | with_reducible apply Blk.drew | with_reducible apply Blk.alloc | (with_reducible refine Blk.only ?_ (by with_reducible assumption) (by first | exact List.not_mem_nil | with_reducible assumption)) | (with_reducible refine Blk.other ?_ _ _ (by simp only; omega)))))))
      (first
        | (go_at_call 50; with_reducible refine (chunka_any _ k _).mono ?_; rintro e w' ⟨rfl, rfl⟩)
        | (go_at_call 87; with_reducible refine (putchunk_any _ _ _ _ _).mono ?_; rintro e w5 ⟨rfl, ho5⟩)
        | (go_at_call 72; with_reducible refine (cas_env (m := m) (s := s) k wh (by repeat (first | with_reducible assumption | with_reducible apply MemR.drew | with_reducible apply MemR.alloc | (with_reducible refine MemR.only ?_ (by with_reducible assumption) List.not_mem_nil List.not_mem_nil List.not_mem_nil) | (with_reducible refine MemR.other ?_ _ _ (by simp only; omega) (by simp only; omega) (by simp only; omega)))) (putChunk_rng _ _ _ _)).mono ?_; rintro e w6 ⟨rfl, hM6, ho6⟩; have hX6 : Blk w6 w.heap.size #[.int .i64 k.t, .int .i64 k.s, .int .i64 k.c, .int .i64 k.w, .int .i64 k.g, .int .i64 k.p, .int .i64 k.r, .pointer (some ⟨m.b, 0, none⟩), .int .i64 wh] 47 := (by refine Blk.only ?_ ho6 hnx; (repeat (first | with_reducible assumption | with_reducible apply Blk.drew | with_reducible apply Blk.alloc | (with_reducible refine Blk.only ?_ (by with_reducible assumption) (by first | exact List.not_mem_nil | with_reducible assumption)) | (with_reducible refine Blk.other ?_ _ _ (by simp only; omega))))); have hB6 : Blk w6 tb #[.int .i64 cl, .int .i64 0, .int .u64 op, .int .i64 ai, .int .u64 wd, .int .i64 sa, .int .i64 sc, .bool ok] 145 := (by refine Blk.only ?_ ho6 hnt; (repeat (first | with_reducible assumption | with_reducible apply Blk.drew | with_reducible apply Blk.alloc | (with_reducible refine Blk.only ?_ (by with_reducible assumption) (by first | exact List.not_mem_nil | with_reducible assumption)) | (with_reducible refine Blk.other ?_ _ _ (by simp only; omega))))); have hC6 : Blk w6 w2.heap.size #[.int .i64 (chSt wd), .int .i64 (chCl wd), .int .i64 (chUs wd + room cl), .int .i64 (chSp wd)] 107 := (by refine Blk.only ?_ ho6 hcn; (repeat (first | with_reducible assumption | with_reducible apply Blk.drew | with_reducible apply Blk.alloc | (with_reducible refine Blk.only ?_ (by with_reducible assumption) (by first | exact List.not_mem_nil | with_reducible assumption)) | (with_reducible refine Blk.other ?_ _ _ (by simp only; omega))))); have hO6 : Only [m.b, m.wb, m.hb, tb] w w6 := (by refine Only.trans' (Only.trans' ?_ ho5 hsub0) ho6 hsub; repeat (first | with_reducible exact hO3 | with_reducible apply Only.drew | with_reducible apply Only.alloc))))
    all_goals
      have hc6 := hB6.cell
      have hf6 := hB6.frozen
      have ht6 := hB6.lt
      have hxc6 := hX6.cell
      clear hB3 hX3 hM3 hC3 hO3
      cases b
      · go_wp2
        go_ret
        exact ⟨rfl, hM6, hB6, hO6⟩
      · have h3 : ∀ w', Blk w' tb #[.int .i64 cl, .int .i64 0, .int .u64 op, .int .i64 ai, .int .u64 wd, .int .i64 sa, .int .i64 sc, .bool ok] 145 → w'.cell? ⟨tb, 3, none⟩ = some (.int .i64 ai) := fun w' h => h.cell 3
        have h3a : ∀ w' u v, Blk w' tb #[.int .i64 cl, .int .i64 0, .int .u64 op, .int .i64 ai, .int .u64 wd, .int .i64 sa, .int .i64 sc, .bool ok] 145 → (((w'.setCell ⟨tb, 5, none⟩ u).setCell ⟨tb, 6, none⟩ v).alloc (.cells #[.int .i64 k.t, .int .i64 k.s, .int .i64 k.c, .int .i64 k.w, .int .i64 k.g, .int .i64 k.p, .int .i64 k.r] 23)).drew.cell? ⟨tb, 3, none⟩ = some (.int .i64 ai) := fun w' u v h => ((((h.set 5 u rfl).set 6 v rfl).alloc _).drew).cell 3
        have h3b : ∀ w' u v x, Blk w' tb #[.int .i64 cl, .int .i64 0, .int .u64 op, .int .i64 ai, .int .u64 wd, .int .i64 sa, .int .i64 sc, .bool ok] 145 → ((((w'.setCell ⟨tb, 5, none⟩ u).setCell ⟨tb, 6, none⟩ v).setCell ⟨tb, 7, none⟩ x).alloc (.cells #[.int .i64 k.t, .int .i64 k.s, .int .i64 k.c, .int .i64 k.w, .int .i64 k.g, .int .i64 k.p, .int .i64 k.r] 23)).drew.cell? ⟨tb, 3, none⟩ = some (.int .i64 ai) := fun w' u v x h => (((((h.set 5 u rfl).set 6 v rfl).set 7 x rfl).alloc _).drew).cell 3
        have hbs : IntKind.i64.wrap (aBase k ai + chUs wd) = aBase k ai + chUs wd := by rw [IntWalk.i64_left]; unfold wrap64; omega
        have hxt : w.heap.size < w6.heap.size := hX6.lt
        go_wp2
        go_region_held3 (fun w' => (∀ o, w'.cell? ⟨w.heap.size, o, none⟩ = (#[.int .i64 k.t, .int .i64 k.s, .int .i64 k.c, .int .i64 k.w, .int .i64 k.g, .int .i64 k.p, .int .i64 k.r, .pointer (some ⟨m.b, 0, none⟩), .int .i64 wh] : Array Value)[o]?) ∧ w'.cell? ⟨tb, 3, none⟩ = some (.int .i64 ai)) ((refine ⟨?_, ?_⟩; (focus (refine Blk.cell (T := 47) ?_; repeat (first | with_reducible assumption | with_reducible apply Blk.drew | with_reducible apply Blk.alloc | (with_reducible refine Blk.only ?_ (by with_reducible assumption) (by first | exact List.not_mem_nil | with_reducible assumption)) | (with_reducible refine Blk.other ?_ _ _ (by simp only; omega))))); (focus (first | (with_reducible refine h3 _ ?_; (repeat (first | with_reducible assumption | with_reducible apply Blk.drew | with_reducible apply Blk.alloc | (with_reducible refine Blk.only ?_ (by with_reducible assumption) (by first | exact List.not_mem_nil | with_reducible assumption)) | (with_reducible refine Blk.other ?_ _ _ (by simp only; omega)))); done) | (with_reducible refine h3a _ _ _ ?_; (repeat (first | with_reducible assumption | with_reducible apply Blk.drew | with_reducible apply Blk.alloc | (with_reducible refine Blk.only ?_ (by with_reducible assumption) (by first | exact List.not_mem_nil | with_reducible assumption)) | (with_reducible refine Blk.other ?_ _ _ (by simp only; omega)))); done) | (with_reducible refine h3b _ _ _ _ ?_; (repeat (first | with_reducible assumption | with_reducible apply Blk.drew | with_reducible apply Blk.alloc | (with_reducible refine Blk.only ?_ (by with_reducible assumption) (by first | exact List.not_mem_nil | with_reducible assumption)) | (with_reducible refine Blk.other ?_ _ _ (by simp only; omega)))); done)))))
          (first
            | (go_at_call 51; with_reducible refine (base_any _ k _).mono ?_; rintro e w' ⟨rfl, rfl⟩))
        all_goals
          go_wp2
          go_ret
          exact ⟨rfl, ((((hM6.other _ _ n1.symm n2.symm n3.symm).other _ _ n1.symm n2.symm n3.symm).other _ _ n1.symm n2.symm n3.symm).alloc _).drew, ((((hB6.set 5 _ rfl).set 6 _ rfl).set 7 _ rfl).alloc _).drew, ((((hO6.setCell _ _ (by simp)).setCell _ _ (by simp)).setCell _ _ (by simp)).alloc _).drew⟩

set_option maxRecDepth 100000 in
set_option maxHeartbeats 1600000 in
theorem place_get (b : Bool) (k : Cfg) (wh : Int) (p : PlS) (tb : Nat) (hm : MemR w m s) (hb : Blk w tb p.cs 145) (hpc : p.pc = 2) (hcl : p.cl = 0 ∨ p.cl = 1 ∨ p.cl = 2 ∨ p.cl = 3) (hU : U64 p.w) (hb0 : 0 ≤ aBase k p.i) (hb1 : aBase k p.i ≤ 1000000) (hcan : s.can (aChunk k p.i) p.w = b) (n1 : tb ≠ m.b) (n2 : tb ≠ m.wb) (n3 : tb ≠ m.hb) :
    Calls Try.prog 85 #[.pointer (some ⟨tb, 0, none⟩), .agg #[.int .i64 k.t, .int .i64 k.s, .int .i64 k.c, .int .i64 k.w, .int .i64 k.g, .int .i64 k.p, .int .i64 k.r, .pointer (some ⟨m.b, 0, none⟩), .int .i64 wh]] w fun e w' =>
      e = .returned (.bool b) ∧ MemR w' m ((s.by wh).cas (aChunk k p.i) p.w (plGetW p)) ∧ Blk w' tb (if b = true then { p with pc := 0, sa := aBase k p.i + chUs p.w, sc := p.i, ok := true } else { p with pc := 0 } : PlS).cs 145 ∧ Only [m.b, m.wb, m.hb, tb] w w' := by
  have hc0 : w.cell? ⟨tb, 1, none⟩ = some (.int .i64 2) := by
    have := hb.cell 1
    rw [this, ← hpc]
    rfl
  have ht := hb.lt
  have hG := plget_any b k wh p tb (hm.alloc (.cells #[.int .i64 k.t, .int .i64 k.s, .int .i64 k.c, .int .i64 k.w, .int .i64 k.g, .int .i64 k.p, .int .i64 k.r, .pointer (some ⟨m.b, 0, none⟩), .int .i64 wh] 47)) (hb.alloc _) hcl hU hb0 hb1 hcan n1 n2 n3
  clear hb0 hb1 hcan hpc
  go_enter Try.func85, Try.ntmps85
  go_wp2_with fail
  refine hG.mono ?_
  rintro e w2 ⟨rfl, h1, h2, h3⟩
  cases b
  all_goals
    go_wp2
    go_ret
    exact ⟨rfl, h1, h2, ((Only.refl _ w).alloc _).trans' h3 (fun _ h _ => h)⟩

end
end Go.Proofs.Yteoimmjgnflmmaa
