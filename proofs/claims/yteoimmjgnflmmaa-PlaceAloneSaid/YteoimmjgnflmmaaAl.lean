/-
  Plain law of words wanted alone: one behind the other, chunk by chunk.
-/
import Derived.Test.YteoimmjgnflmmaaFrC
namespace Go.Proofs.Yteoimmjgnflmmaa
open Go.RowKit

/-- What is so of the way on from here, f steps at most. -/
def Ends (k : Cfg) (wh : Int) (f : Nat) (s : MS) (p : PlS) (Q : MS → PlS → Prop) : Prop := Q (placeRun k wh f s p).1 (placeRun k wh f s p).2

section
variable {k : Cfg} {n : Nat} {wh : Int} {f : Nat} {s s' : MS} {p p' : PlS} {Q : MS → PlS → Prop} {v c : Int}
theorem Ends.on (h : placeStep k wh s p = (false, s', p')) (hq : Ends k wh f s' p' Q) : Ends k wh (f + 1) s p Q := by
  unfold Ends; rw [placeRun_on h]; exact hq
theorem Ends.stop (h : placeStep k wh s p = (true, s', p')) (hq : Q s' p') : Ends k wh (f + 1) s p Q := by
  unfold Ends; rw [placeRun_stop h]; exact hq

theorem al_look (hk : k.Ok) (hM : PM k n s) (hc : p.cl = 0 ∨ p.cl = 1 ∨ p.cl = 2 ∨ p.cl = 3) (hpc : p.pc = 0) (hv : s.at (2 + p.cl) = v) :
    ∃ s', placeStep k wh s p = (false, s', if v - 1 < 0 then { p with pc := 3, op := v, i := 0 } else { p with pc := 1, op := v, i := v - 1 }) ∧ s'.ws = s.ws := by
  have hO := hM.okO hk hc
  have hg : s.get (aOpen p.cl) = v := by rw [get_ok _ _ hO, aOpen_ok hc]; exact hv
  refine ⟨_, ?_, (load_touch (wh := wh) hO).2.2⟩
  unfold placeStep
  rw [if_pos hpc, hg]
  by_cases h : v - 1 < 0
  · rw [if_pos (decide_eq_true h), if_pos h]
  · rw [if_neg (by simpa using h), if_neg h]
theorem al_see (hk : k.Ok) (hM : PM k n s) (h0 : 0 ≤ p.i) (h1 : p.i < (n : Int)) (hpc : p.pc = 1) (hv : cw k s p.i = v) :
    ∃ s', placeStep k wh s p = (false, s', if chSt v = 1 ∧ chCl v = p.cl ∧ chUs v + room p.cl ≤ k.w then { p with pc := 2, w := v } else { p with pc := 3, w := v, i := 0 }) ∧ s'.ws = s.ws := by
  have hC := hM.okC hk h0 h1
  have hg : s.get (aChunk k p.i) = v := by rw [get_ok _ _ hC]; exact hv
  refine ⟨_, ?_, (load_touch (wh := wh) hC).2.2⟩
  unfold placeStep
  rw [if_neg (by omega), if_pos hpc, hg]
  by_cases h : chSt v = 1 ∧ chCl v = p.cl ∧ chUs v + room p.cl ≤ k.w
  · rw [if_pos (decide_eq_true h), if_pos h]
  · rw [if_neg (by rw [decide_eq_false h]; simp), if_neg h]
theorem al_get (hk : k.Ok) (hM : PM k n s) (h0 : 0 ≤ p.i) (h1 : p.i < (n : Int)) (hpc : p.pc = 2) (hv : cw k s p.i = p.w) :
    ∃ s', placeStep k wh s p = (true, s', { p with pc := 0, sa := aBase k p.i + chUs p.w, sc := p.i, ok := true }) ∧ s'.ws = s.ws.set (aChunk k p.i).toNat (plGetW p) := by
  have hC := hM.okC hk h0 h1
  have hcan : s.can (aChunk k p.i) p.w = true := by unfold MS.can; exact decide_eq_true ⟨hC, hv⟩
  refine ⟨(s.by wh).cas (aChunk k p.i) p.w (plGetW p), ?_, ?_⟩
  · unfold placeStep
    rw [if_neg (by omega), if_neg (by omega), if_pos hpc, hcan, if_pos rfl]
  · rw [(cas_touch (wh := wh) hC).2.2, if_pos (show s.at (aChunk k p.i) = p.w from hv)]
theorem al_scan_on (hk : k.Ok) (hM : PM k n s) (h0 : 0 ≤ p.i) (h1 : p.i < (n : Int)) (hpc : p.pc = 3) (hv : cw k s p.i = v) (hst : chSt v ≠ 0) :
    ∃ s', placeStep k wh s p = (decide (k.c ≤ p.i + 1), s', { p with pc := 3, w := v, i := p.i + 1 }) ∧ s'.ws = s.ws := by
  have hC := hM.okC hk h0 h1
  have hg : s.get (aChunk k p.i) = v := by rw [get_ok _ _ hC]; exact hv
  refine ⟨_, ?_, (load_touch (wh := wh) hC).2.2⟩
  unfold placeStep
  rw [if_neg (by omega), if_neg (by omega), if_neg (by omega), if_pos hpc, hg, decide_eq_false hst]
  rfl
theorem al_scan_hit (hk : k.Ok) (hM : PM k n s) (h0 : 0 ≤ p.i) (h1 : p.i < (n : Int)) (hpc : p.pc = 3) (hv : cw k s p.i = v) (hst : chSt v = 0) :
    ∃ s', placeStep k wh s p = (false, s', { p with pc := 4, w := v }) ∧ s'.ws = s.ws := by
  have hC := hM.okC hk h0 h1
  have hg : s.get (aChunk k p.i) = v := by rw [get_ok _ _ hC]; exact hv
  refine ⟨_, ?_, (load_touch (wh := wh) hC).2.2⟩
  unfold placeStep
  rw [if_neg (by omega), if_neg (by omega), if_neg (by omega), if_pos hpc, hg, decide_eq_true hst]
  rfl
theorem al_take (hk : k.Ok) (hM : PM k n s) (h0 : 0 ≤ p.i) (h1 : p.i < (n : Int)) (hpc : p.pc = 4) (hv : cw k s p.i = p.w) :
    ∃ s', placeStep k wh s p = (false, s', { p with pc := 5 }) ∧ s'.ws = s.ws.set (aChunk k p.i).toNat (plFresh p) := by
  have hC := hM.okC hk h0 h1
  have hcan : s.can (aChunk k p.i) p.w = true := by unfold MS.can; exact decide_eq_true ⟨hC, hv⟩
  refine ⟨(s.by wh).cas (aChunk k p.i) p.w (plFresh p), ?_, ?_⟩
  · unfold placeStep
    rw [if_neg (by omega), if_neg (by omega), if_neg (by omega), if_neg (by omega), if_pos hpc, hcan]
    rfl
  · rw [(cas_touch (wh := wh) hC).2.2, if_pos (show s.at (aChunk k p.i) = p.w from hv)]
theorem al_open (hk : k.Ok) (hM : PM k n s) (hc : p.cl = 0 ∨ p.cl = 1 ∨ p.cl = 2 ∨ p.cl = 3) (hpc : p.pc = 5) (hv : s.at (2 + p.cl) = p.op) :
    ∃ s', placeStep k wh s p = (false, s', { p with pc := 0 }) ∧ s'.ws = s.ws.set (aOpen p.cl).toNat (p.i + 1) := by
  have hO := hM.okO hk hc
  have hv' : s.at (aOpen p.cl) = p.op := by rw [aOpen_ok hc]; exact hv
  have hcan : s.can (aOpen p.cl) p.op = true := by unfold MS.can; exact decide_eq_true ⟨hO, hv'⟩
  refine ⟨(s.by wh).cas (aOpen p.cl) p.op (p.i + 1), ?_, ?_⟩
  · unfold placeStep
    rw [if_neg (by omega), if_neg (by omega), if_neg (by omega), if_neg (by omega), if_neg (by omega), if_pos hpc, hcan, if_pos rfl]
  · rw [(cas_touch (wh := wh) hO).2.2, if_pos hv']

/-- Chunks that are not free are passed. -/
theorem al_scan (hk : k.Ok) {nx : Nat} (hnx : nx ≤ n) : ∀ (d i : Nat) (s : MS) (p : PlS), PM k n s → p.pc = 3 → p.i = (i : Int) → i + d = nx → i < n → (∀ j : Nat, i ≤ j → j < nx → chSt (cw k s j) ≠ 0) →
    (nx < n → ∀ s' p', s'.ws = s.ws → p'.pc = 3 → p'.i = (nx : Int) → p'.cl = p.cl → p'.op = p.op → p'.ok = p.ok → Ends k wh f s' p' Q) →
    (nx = n → ∀ s' p', s'.ws = s.ws → p'.ok = p.ok → Q s' p') → Ends k wh (f + d) s p Q
  | 0, i, s, p, hM, hpc, hi, hid, hin, _, h1, _ => h1 (by omega) s p rfl hpc (by rw [hi]; omega) rfl rfl rfl
  | d + 1, i, s, p, hM, hpc, hi, hid, hin, hne, h1, h2 => by
    obtain ⟨s', hst, hws⟩ := al_scan_on (wh := wh) hk hM (by omega) (by omega) hpc rfl (by rw [hi]; exact hne i (Nat.le_refl _) (by omega))
    have hcw : ∀ j, cw k s' j = cw k s j := fun j => cw_same hws j
    show Ends k wh (f + d + 1) s p Q
    by_cases hl : k.c ≤ p.i + 1
    · rw [decide_eq_true hl] at hst
      have := hM.c
      exact .stop hst (h2 (by omega) s' _ hws rfl)
    · rw [decide_eq_false hl] at hst
      have := hM.c
      refine .on hst (al_scan hk hnx d (i + 1) s' _ (hM.same hws) rfl (by simp only [hi]; omega) (by omega) (by omega) (fun j j0 j1 => by rw [hcw]; exact hne j (by omega) j1) (fun hlt s'' p'' w1 w2 w3 w4 w5 w6 => h1 hlt s'' p'' (w1.trans hws) w2 w3 w4 w5 w6) (fun he s'' p'' w1 w2 => h2 he s'' p'' (w1.trans hws) w2))

/-- What the arena is: each class' open chunk, what each chunk has given out, and how many chunks are in use. -/
structure ASt (k : Cfg) (n : Nat) (s : MS) (o : Nat → Int) (u : Nat → Int) (nx : Nat) : Prop where
  pm : PM k n s
  le : nx ≤ n
  op : ∀ c : Nat, c < 4 → s.at (2 + (c : Int)) = o c + 1
  o : ∀ c : Nat, c < 4 → o c = -1 ∨ (0 ≤ o c ∧ o c < (nx : Int) ∧ chCl (cw k s (o c)) = (c : Int))
  used : ∀ i : Nat, i < nx → chSt (cw k s i) = 1 ∧ chUs (cw k s i) = u i ∧ u i ≤ k.w
  free : ∀ i : Nat, nx ≤ i → i < n → chSt (cw k s i) = 0 ∧ u i = 0
def upI (u : Nat → Int) (i : Nat) (x : Int) : Nat → Int := fun j => if j = i then x else u j
theorem upI_at (u : Nat → Int) (i : Nat) (x : Int) : upI u i x i = x := by simp [upI]
theorem upI_ne (u : Nat → Int) (i j : Nat) (x : Int) (h : j ≠ i) : upI u i x j = u j := by simp [upI, h]

theorem at_setC (hk : k.Ok) (hM : PM k n s) {i v : Int} (h0 : 0 ≤ i) (h1 : i < (n : Int)) (hw : s'.ws = s.ws.set (aChunk k i).toNat v) {c : Int} (hc0 : 0 ≤ c) (hc1 : c < 4) : s'.at (2 + c) = s.at (2 + c) := by
  have := hk.t0; have := hk.s0; have := hk.c1; have := hM.c
  have hC := hM.okC hk h0 h1
  have e := aChunk_ok hk h0 (by omega)
  unfold MS.at
  rw [hw, set_at _ _ _ hC (by omega), if_neg (by omega)]
theorem at_setO (hk : k.Ok) (hM : PM k n s) {d v : Int} (hd : d = 0 ∨ d = 1 ∨ d = 2 ∨ d = 3) (hw : s'.ws = s.ws.set (aOpen d).toNat v) {c : Int} (hc0 : 0 ≤ c) : s'.at (2 + c) = if c = d then v else s.at (2 + c) := by
  have hO := hM.okO hk hd
  have e := aOpen_ok hd
  unfold MS.at
  rw [hw, set_at _ _ _ hO (by omega)]
  by_cases h : c = d
  · rw [if_pos h, if_pos (by omega)]
  · rw [if_neg h, if_neg (by omega)]
theorem getW_parts {p : PlS} (h : chUs p.w + room p.cl ≤ 1048575) (h0 : 0 ≤ room p.cl) : chSt (plGetW p) = chSt p.w ∧ chCl (plGetW p) = chCl p.w ∧ chUs (plGetW p) = chUs p.w + room p.cl := by
  obtain ⟨r0, r1, r2, r3, r4, r5, _, _⟩ := ch_rng p.w
  unfold plGetW
  exact ⟨chSt_put (by omega) (by omega), chCl_put (by omega) (by omega), chUs_put (by omega) (by omega)⟩

/-- Words of an open chunk. -/
theorem ast_get (hk : k.Ok) {o u : Nat → Int} {nx : Nat} (h : ASt k n s o u nx) {c i : Nat} (hc : c < 4) (hi : i < nx) (hoi : o c = (i : Int)) (hfit : u i + room (c : Int) ≤ k.w)
    (hpc : p.pc = 0) (hcl : p.cl = (c : Int))
    (hQ : ∀ s' p', ASt k n s' o (upI u i (u i + room (c : Int))) nx → p'.ok = true → p'.sc = (i : Int) → p'.sa = aBase k i + u i → Q s' p') : Ends k wh (f + 1 + 1 + 1) s p Q := by
  have hc4 : p.cl = 0 ∨ p.cl = 1 ∨ p.cl = 2 ∨ p.cl = 3 := by omega
  have hrm := room_rng hc4
  rw [hcl] at hrm
  have hle := h.le
  obtain ⟨u0, u1, u2⟩ := h.used i hi
  have hw1 := hk.w1
  have hcc : chCl (cw k s i) = (c : Int) := by
    rcases h.o c hc with h1 | ⟨_, _, h1⟩
    · omega
    · rw [hoi] at h1; exact h1
  obtain ⟨s1, q1, w1⟩ := al_look (wh := wh) hk h.pm hc4 hpc (v := o c + 1) (by rw [hcl]; exact h.op c hc)
  rw [if_neg (by omega)] at q1
  refine .on q1 ?_
  have hM1 := h.pm.same w1
  obtain ⟨s2, q2, w2⟩ := al_see (wh := wh) (p := { p with pc := 1, op := o c + 1, i := o c + 1 - 1 }) hk hM1 (by simp only; omega) (by simp only; omega) rfl (v := cw k s i) (by rw [cw_same w1]; simp only; rw [hoi, show (i : Int) + 1 - 1 = i from by omega])
  rw [if_pos ⟨u0, by simp only; rw [hcc, hcl], by simp only; rw [u1, hcl]; exact hfit⟩] at q2
  refine .on q2 ?_
  have hM2 := hM1.same w2
  obtain ⟨s3, q3, w3⟩ := al_get (wh := wh) (p := { p with pc := 2, op := o c + 1, i := o c + 1 - 1, w := cw k s i }) hk hM2 (by simp only; omega) (by simp only; omega) rfl (by rw [cw_same w2, cw_same w1]; simp only; rw [hoi, show (i : Int) + 1 - 1 = i from by omega])
  refine .stop q3 (hQ _ _ ?_ rfl ?_ ?_)
  · simp only [show o c + 1 - 1 = (i : Int) from by omega] at w3
    obtain ⟨g1, g2, g3⟩ := getW_parts (p := { p with pc := 2, op := o c + 1, i := (i : Int), w := cw k s i }) (by simp only; rw [u1, hcl]; omega) (by simp only; rw [hcl]; omega)
    simp only at g1 g2 g3
    have hcw : ∀ j : Int, 0 ≤ j → j < (n : Int) → cw k s3 j = if j = (i : Int) then plGetW { p with pc := 2, op := o c + 1, i := (i : Int), w := cw k s i } else cw k s j := fun j j0 j1 => by
      rw [cw_setC hk hM2 (by omega) (by omega) w3 j j0 j1, cw_same w2, cw_same w1]
    have hat : ∀ d : Int, 0 ≤ d → d < 4 → s3.at (2 + d) = s.at (2 + d) := fun d d0 d1 => by
      rw [at_setC hk hM2 (by omega) (by omega) w3 d0 d1]; unfold MS.at; rw [w2, w1]
    refine ⟨hM2.setC hk (by omega) (by omega) (putChunk_rng _ _ _ _) w3, h.le, fun d hd => by rw [hat _ (by omega) (by omega)]; exact h.op d hd, fun d hd => ?_, fun j hj => ?_, fun j hj hjn => ?_⟩
    · rcases h.o d hd with h1 | ⟨h1, h2, h3⟩
      · exact .inl h1
      · refine .inr ⟨h1, h2, ?_⟩
        rw [hcw _ h1 (by omega)]
        split
        · rename_i hoi2
          rw [g2, ← hoi2]; exact h3
        · exact h3
    · rw [hcw _ (by omega) (by omega)]
      by_cases hji : j = i
      · subst hji
        rw [if_pos rfl, upI_at, g1, g3, u0, u1, hcl]
        exact ⟨rfl, rfl, hfit⟩
      · rw [if_neg (by omega), upI_ne _ _ _ _ hji]; exact h.used j hj
    · rw [hcw _ (by omega) (by omega), if_neg (by omega), upI_ne _ _ _ _ (by omega)]; exact h.free j hj hjn
  · simp only; omega
  · simp only [show o c + 1 - 1 = (i : Int) from by omega]; rw [u1]

/-- The next chunk is opened. -/
theorem ast_next (hk : k.Ok) {o u : Nat → Int} {nx : Nat} (h : ASt k n s o u nx) {c : Nat} (hc : c < 4) (hlt : nx < n)
    (hpc : p.pc = 3) (hi : p.i = (nx : Int)) (hcl : p.cl = (c : Int)) (hop : p.op = o c + 1)
    (hQ : ∀ s' p', ASt k n s' (upI o c nx) (upI u nx (room (c : Int))) (nx + 1) → p'.ok = true → p'.sc = (nx : Int) → p'.sa = aBase k nx → Q s' p') : Ends k wh (f + 1 + 1 + 1 + 1 + 1 + 1) s p Q := by
  have hc4 : p.cl = 0 ∨ p.cl = 1 ∨ p.cl = 2 ∨ p.cl = 3 := by omega
  have hrm := room_rng hc4
  rw [hcl] at hrm
  have hw0 := hk.w0
  have hc1 := hk.c1
  have hkc := h.pm.c
  obtain ⟨f0, f1⟩ := h.free nx (Nat.le_refl _) hlt
  obtain ⟨s1, q1, w1⟩ := al_scan_hit (wh := wh) hk h.pm (by omega) (by omega) hpc rfl (by rw [hi]; exact f0)
  refine .on q1 ?_
  have hM1 := h.pm.same w1
  obtain ⟨s2, q2, w2⟩ := al_take (wh := wh) (p := { p with pc := 4, w := cw k s p.i }) hk hM1 (by simp only; omega) (by simp only; omega) rfl (by rw [cw_same w1])
  refine .on q2 ?_
  obtain ⟨fw, hfw⟩ : ∃ fw, plFresh { p with pc := 4, w := cw k s p.i } = fw := ⟨_, rfl⟩
  have e1 : chSt fw = 1 := by rw [← hfw]; unfold plFresh; exact chSt_put (by decide) (by decide)
  have e2 : chCl fw = (c : Int) := by rw [← hfw]; unfold plFresh; rw [chCl_put (by simp only; omega) (by simp only; omega)]; exact hcl
  have e3 : chUs fw = 0 := by rw [← hfw]; unfold plFresh; exact chUs_put (by decide) (by decide)
  have e4 : U64 fw := by rw [← hfw]; exact putChunk_rng _ _ _ _
  replace w2 : s2.ws = s1.ws.set (aChunk k (nx : Int)).toNat fw := by rw [← hi, ← hfw]; exact w2
  have hM2 := hM1.setC hk (by omega) (by omega) e4 w2
  have hcw2 : ∀ j : Int, 0 ≤ j → j < (n : Int) → cw k s2 j = if j = (nx : Int) then fw else cw k s j := fun j j0 j1 => by
    rw [cw_setC hk hM1 (by omega) (by omega) w2 j j0 j1, cw_same w1]
  have hat2 : ∀ d : Int, 0 ≤ d → d < 4 → s2.at (2 + d) = s.at (2 + d) := fun d d0 d1 => by
    rw [at_setC hk hM1 (by omega) (by omega) w2 d0 d1]; unfold MS.at; rw [w1]
  obtain ⟨s3, q3, w3⟩ := al_open (wh := wh) (p := { p with pc := 5, w := cw k s p.i }) hk hM2 hc4 rfl (by simp only; rw [hcl, hat2 _ (by omega) (by omega), hop]; exact h.op c hc)
  refine .on q3 ?_
  simp only [hi] at w3
  have hM3 := hM2.setO hk hc4 (by omega) (by omega) ⟨by omega, by omega⟩ w3
  have hcw3 : ∀ j : Int, 0 ≤ j → j < (n : Int) → cw k s3 j = if j = (nx : Int) then fw else cw k s j := fun j j0 j1 => by
    rw [cw_setO hk hM2 hc4 w3 j j0 j1]; exact hcw2 j j0 j1
  have hat3 : ∀ d : Int, 0 ≤ d → d < 4 → s3.at (2 + d) = if d = (c : Int) then (nx : Int) + 1 else s.at (2 + d) := fun d d0 d1 => by
    rw [at_setO hk hM2 hc4 w3 d0]
    simp only [hcl]
    split
    · rfl
    · exact hat2 d d0 d1
  -- the arena as it stands there, its new chunk open and empty
  have h3 : ASt k n s3 (upI o c nx) u (nx + 1) := by
    refine ⟨hM3, hlt, fun d hd => ?_, fun d hd => ?_, fun j hj => ?_, fun j hj hjn => ?_⟩
    · rw [hat3 _ (by omega) (by omega)]
      by_cases hdc : d = c
      · subst hdc; rw [if_pos rfl, upI_at]
      · rw [if_neg (by omega), upI_ne _ _ _ _ hdc]; exact h.op d hd
    · by_cases hdc : d = c
      · subst hdc
        rw [upI_at]
        exact .inr ⟨by omega, by omega, by rw [hcw3 _ (by omega) (by omega), if_pos rfl]; exact e2⟩
      · rw [upI_ne _ _ _ _ hdc]
        rcases h.o d hd with h1 | ⟨h1, h2, h4⟩
        · exact .inl h1
        · exact .inr ⟨h1, by omega, by rw [hcw3 _ h1 (by omega), if_neg (by omega)]; exact h4⟩
    · rw [hcw3 _ (by omega) (by omega)]
      by_cases hjn : j = nx
      · subst hjn; rw [if_pos rfl, f1]; exact ⟨e1, e3, by omega⟩
      · rw [if_neg (by omega)]; exact h.used j (by omega)
    · rw [hcw3 _ (by omega) (by omega), if_neg (by omega)]; exact h.free j (by omega) hjn
  refine ast_get hk h3 (i := nx) hc (by omega) (upI_at _ _ _) (by rw [f1]; omega) rfl hcl (fun s' p' a1 a2 a3 a4 => ?_)
  rw [f1] at a1 a4
  rw [Int.zero_add] at a1
  exact hQ s' p' a1 a2 a3 (by rw [a4]; omega)

/-- What somebody alone gets. -/
theorem ast_run (hk : k.Ok) {o u : Nat → Int} {nx : Nat} (h : ASt k n s o u nx) {c : Nat} (hc : c < 4) (hn8 : n ≤ 64)
    (hA : ∀ i : Nat, i < nx → o c = (i : Int) → u i + room (c : Int) ≤ k.w → ∀ s' p', ASt k n s' o (upI u i (u i + room (c : Int))) nx → p'.ok = true → p'.sc = (i : Int) → p'.sa = aBase k i + u i → Q s' p')
    (hB : nx = n → (∀ i : Nat, o c = (i : Int) → k.w < u i + room (c : Int)) → ∀ s' p', ASt k n s' o u nx → p'.ok = false → Q s' p')
    (hC : nx < n → (∀ i : Nat, o c = (i : Int) → k.w < u i + room (c : Int)) → ∀ s' p', ASt k n s' (upI o c nx) (upI u nx (room (c : Int))) (nx + 1) → p'.ok = true → p'.sc = (nx : Int) → p'.sa = aBase k nx → Q s' p') :
    Ends k wh 300 s (pl0 (c : Int)) Q := by
  have hc4 : (pl0 (c : Int)).cl = 0 ∨ (pl0 (c : Int)).cl = 1 ∨ (pl0 (c : Int)).cl = 2 ∨ (pl0 (c : Int)).cl = 3 := by show (c : Int) = 0 ∨ (c : Int) = 1 ∨ (c : Int) = 2 ∨ (c : Int) = 3; omega
  have hle := h.le
  have same : ∀ s', s'.ws = s.ws → ASt k n s' o u nx := fun s' hw => by
    have hcw : ∀ j, cw k s' j = cw k s j := fun j => cw_same hw j
    have hat : ∀ a, s'.at a = s.at a := fun a => by unfold MS.at; rw [hw]
    exact ⟨h.pm.same hw, h.le, fun d hd => by rw [hat]; exact h.op d hd, fun d hd => by rw [hcw]; exact h.o d hd, fun j hj => by rw [hcw]; exact h.used j hj, fun j hj hjn => by rw [hcw]; exact h.free j hj hjn⟩
  -- from the scan on
  have scan : ∀ (f : Nat) (s1 : MS) (p1 : PlS), 6 + nx ≤ f → s1.ws = s.ws → p1.pc = 3 → p1.i = 0 → p1.cl = (c : Int) → p1.op = o c + 1 → p1.ok = false → (∀ i : Nat, o c = (i : Int) → k.w < u i + room (c : Int)) → Ends k wh f s1 p1 Q := fun f s1 p1 hf w1 a1 a2 a3 a4 a5 hno => by
    have h1 := same s1 w1
    obtain ⟨g, rfl⟩ : ∃ g, f = (g + 6) + nx := ⟨f - 6 - nx, by omega⟩
    have hn0 : 0 < n := by have := hk.c0; have := h.pm.c; omega
    refine al_scan hk (nx := nx) hle nx 0 s1 p1 h1.pm a1 a2 (by omega) hn0 (fun j _ hj => by rw [(h1.used j hj).1]; decide) (fun hlt s2 p2 w2 b1 b2 b3 b4 _ => ?_) (fun he s2 p2 w2 b1 => ?_)
    · exact ast_next (f := g) hk (same s2 (w2.trans w1)) hc hlt b1 b2 (b3.trans a3) (b4.trans a4) (hC hlt hno)
    · exact hB he hno s2 p2 (same s2 (w2.trans w1)) (b1.trans a5)
  rcases h.o c hc with ho | ⟨o0, o1, _⟩
  · -- there is none open
    obtain ⟨s1, q1, w1⟩ := al_look (wh := wh) hk h.pm hc4 rfl (v := o c + 1) (h.op c hc)
    rw [if_pos (by omega)] at q1
    exact .on q1 (scan 299 s1 _ (by omega) w1 rfl rfl rfl rfl rfl (fun i hi => by omega))
  · obtain ⟨i, hi⟩ : ∃ i : Nat, o c = (i : Int) := ⟨(o c).toNat, by omega⟩
    have hin : i < nx := by omega
    by_cases hfit : u i + room (c : Int) ≤ k.w
    · exact ast_get (f := 297) hk h hc hin hi hfit rfl rfl (hA i hin hi hfit)
    · obtain ⟨s1, q1, w1⟩ := al_look (wh := wh) hk h.pm hc4 rfl (v := o c + 1) (h.op c hc)
      rw [if_neg (by omega)] at q1
      refine .on q1 ?_
      obtain ⟨s2, q2, w2⟩ := al_see (wh := wh) (p := { pl0 (c : Int) with pc := 1, op := o c + 1, i := o c + 1 - 1 }) hk (h.pm.same w1) (by simp only; omega) (by simp only; omega) rfl (v := cw k s i) (by rw [cw_same w1]; simp only; rw [hi, show (i : Int) + 1 - 1 = i from by omega])
      have hus := (h.used i hin).2.1
      rw [if_neg (fun hh => hfit (by have := hh.2.2; rw [hus] at this; exact this))] at q2
      refine .on q2 (scan 298 s2 _ (by omega) (w2.trans w1) rfl rfl rfl rfl rfl (fun j hj => ?_))
      have : j = i := by omega
      subst this
      omega
end

theorem fresh_ASt {k : Cfg} (hk : k.Ok) (h60 : k.s ≤ 60000) {n : Nat} (hn : k.c = n) (hr : ∀ x ∈ (freshS k).ws, U64 x) : ASt k n (freshS k) (fun _ => -1) (fun _ => 0) 0 :=
  ⟨fresh_PM hk h60 hn hr, Nat.zero_le _, fun c hc => by rw [fresh_open hk h60 (by omega) (by omega)]; rfl, fun _ _ => .inl rfl, fun i hi => by omega, fun i _ hi => by rw [fresh_cw hk h60 (by omega) (by omega)]; exact ⟨rfl, rfl⟩⟩

end Go.Proofs.Yteoimmjgnflmmaa
