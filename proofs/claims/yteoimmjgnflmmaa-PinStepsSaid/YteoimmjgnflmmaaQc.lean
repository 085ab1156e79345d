/-
  A region that draws its order, walked once in the order of the text: the worlds on the way are of a class C of the prover's own.
-/
import Derived.Test.YteoimmjgnflmmaaPur
import Derived.BigQuiet
namespace Go.Proofs.Yteoimmjgnflmmaa
open Go.RowKit Go.BigFrame

theorem qc_enter {P : Program} {id : Nat} {Q : Exit → Act → World → Prop} {a : Act} {w : World} {l : List Oper} (C : World → Prop) (hm : P.follows .mixedOrders = true) (hB : Region.lexB .any l.toArray = true) (hC : C w.drew)
    (h : wpQuiet P l.toArray C (fun a' => ∀ w', C w' → Q .normal a' w') l a) : (Code.region id l.toArray true).wp P Q a w :=
  wp_region_quiet (C := C) hm hB hC (by simpa using h)

/-- 'qc_step (prep) (tac)': one operation; 'prep' lays out 'hq : C wq'; at a call 'tac' closes 'Calls .. wq fun e w'' => e = .returned ?v ∧ C w'''. -/
macro "qc_step " "(" prep:tacticSeq ")" "(" tac:tacticSeq ")" : tactic => `(tactic|
  first
    | go_big_quiet_skip
    | (go_big_quiet_want
       apply Exists.intro
       refine ⟨fun $(Lean.mkIdent `wq):ident $(Lean.mkIdent `hq):ident => ?_, ?_⟩
       · (($prep:tacticSeq)
          unfold Oper.quietAt
          go_simp
          first
            | done
            | with_reducible exact rfl
            | with_reducible exact ⟨rfl, rfl⟩
            | ($tac:tacticSeq))
       (try simp only [Act.put, List.setIfInBounds_toArray, List.set_cons_zero, List.set_cons_succ])
       go_big_quiet_on))

/-- 'go_qc C (start) (prep) (tac)': 'start' shows C behind the region's own draw. -/
macro "go_qc " C:term:max "(" start:tacticSeq ")" "(" prep:tacticSeq ")" "(" tac:tacticSeq ")" : tactic => `(tactic|
  (refine qc_enter $C (by kernel_rfl) (by kernel_rfl) ?_ ?_
   focus ($start:tacticSeq)
   repeat (qc_step ($prep:tacticSeq) ($tac:tacticSeq))
   refine wpQuiet_nil ?_
   intro $(Lean.mkIdent `wq):ident $(Lean.mkIdent `hq):ident))

end Go.Proofs.Yteoimmjgnflmmaa
