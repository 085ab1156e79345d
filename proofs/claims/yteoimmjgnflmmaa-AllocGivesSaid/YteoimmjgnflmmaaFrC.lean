/-
  A fresh arena's chunks: noughts.
-/
import Derived.Test.YteoimmjgnflmmaaPsL
namespace Go.Proofs.Yteoimmjgnflmmaa
open Go.RowKit

theorem fresh_cw {k : Cfg} (hk : k.Ok) (h60 : k.s ≤ 60000) {i : Int} (h0 : 0 ≤ i) (h1 : i < k.c) : cw k (freshS k) i = 0 := by
  have := hk.t0; have := hk.s0; have := hk.c1
  have e := aChunk_ok hk h0 (by omega)
  unfold cw
  rw [fresh_at hk h60 _ (by omega), e]
  unfold wantF
  rw [if_neg (by omega), if_neg (by omega)]
  unfold wantI
  rw [if_neg (by omega)]
theorem fresh_open {k : Cfg} (hk : k.Ok) (h60 : k.s ≤ 60000) {c : Int} (h0 : 0 ≤ c) (h1 : c < 4) : (freshS k).at (2 + c) = 0 := by
  have := hk.t0; have := hk.s0
  rw [fresh_at hk h60 _ (by omega)]
  unfold wantF
  rw [if_neg (by omega), if_neg (by omega)]
  unfold wantI
  rw [if_neg (by omega)]
theorem fresh_PJ {k : Cfg} (hk : k.Ok) (h60 : k.s ≤ 60000) {n : Nat} (hn : k.c = n) : PJ k n (freshS k) := fun i h0 h1 => by
  have := hk.w0
  rw [fresh_cw hk h60 h0 (by omega)]
  unfold chSt chUs
  omega

end Go.Proofs.Yteoimmjgnflmmaa
