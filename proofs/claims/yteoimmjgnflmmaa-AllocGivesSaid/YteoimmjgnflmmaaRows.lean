/-
  No cell of these rows narrows 'for every input' (looked for: loops, veiled, ifaces, maps, wideKeys, modest, calm, conditions, laid).
  DERIVED. THE GIVEN ROWS OF THIS SEAT. 28 by the template 'for every input the law returns true; each argument reads behind the call as it read before'; 0 by the template 'total and deterministic' (their statements: YteoimmjgnflmmaaTotals.lean).
  GIVEN WITH THE SEED: the statements are not yours to turn. If you find one false, say at which input.
  Laid BY PROGRAM, IN A SANDBOX (cutbox-rows.mjs): the forced cells as the released guide's own fill.sh prints them over the translation 9c144d6ccdd1c701… (all of the seat's roots in one cut). By AI agents, Wed Nov 11 2026. No macro, syntax, notation, axiom, sorry.
-/
import Derived.Test.YteoimmjgnflmmaaChecked
import GoSem.Claim
import GoSem.ClaimJoined
import GoSem.ClaimMapViews
import Derived.JoinedTies
import Derived.KernelRfl
namespace Go.Proofs.Yteoimmjgnflmmaa
/- THE CELL 'sum', in the pinned program and in every row, IS THE sha256 OF THE DUMP (.gsa) THAT YteoimmjgnflmmaaProg.lean LOADS. Nothing in Lean hashes anything: it is a label: what it is worth is what the hold of that sum in a sandbox is worth. -/
noncomputable def Try.pinned : Pinned := { name := "yteoimmjgnflmmaa", sum := "9c144d6ccdd1c701fd56c3a7c8fa86b61d389e83ad2cecb93ff2b499e249e242", checked := Try.checked }
namespace Rows
def none {H : Type} : Left H := { results := [], args := [] }

/-- 'footlockerlaw04.LayoutChecks': WHATEVER THE INPUT: true; the input reads as it did. -/
def layoutChecksSpec : ChangeSpec := { name := "layoutChecks", fn := fun _ => fun
  | [d] => { results := [.lit (.bool true)], args := [d] }
  | _ => none }
def layoutChecksRow : OpenClaim := { program := "yteoimmjgnflmmaa", sum := "9c144d6ccdd1c701fd56c3a7c8fa86b61d389e83ad2cecb93ff2b499e249e242", func := "footlocker/footlockerlaw04.LayoutChecks", spec := "layoutChecks", apart := false }
def LayoutChecksSaid : Prop := layoutChecksRow.holds Try.pinned (OpenSpec.ofChange layoutChecksSpec)

/-- ITS FALSE NEIGHBOUR: 'it returns false'. Refute it at one input. -/
def layoutChecksWrong : ChangeSpec := { name := "layoutChecks", fn := fun _ => fun
  | [d] => { results := [.lit (.bool false)], args := [d] }
  | _ => none }
def LayoutChecksWrongFalsely : Prop := layoutChecksRow.holds Try.pinned (OpenSpec.ofChange layoutChecksWrong)

/-- 'footlockerlaw04.LayoutClasses': WHATEVER THE INPUT: true; the input reads as it did. -/
def layoutClassesSpec : ChangeSpec := { name := "layoutClasses", fn := fun _ => fun
  | [d] => { results := [.lit (.bool true)], args := [d] }
  | _ => none }
def layoutClassesRow : OpenClaim := { program := "yteoimmjgnflmmaa", sum := "9c144d6ccdd1c701fd56c3a7c8fa86b61d389e83ad2cecb93ff2b499e249e242", func := "footlocker/footlockerlaw04.LayoutClasses", spec := "layoutClasses", apart := false }
def LayoutClassesSaid : Prop := layoutClassesRow.holds Try.pinned (OpenSpec.ofChange layoutClassesSpec)

/-- ITS FALSE NEIGHBOUR: 'it returns false'. Refute it at one input. -/
def layoutClassesWrong : ChangeSpec := { name := "layoutClasses", fn := fun _ => fun
  | [d] => { results := [.lit (.bool false)], args := [d] }
  | _ => none }
def LayoutClassesWrongFalsely : Prop := layoutClassesRow.holds Try.pinned (OpenSpec.ofChange layoutClassesWrong)

/-- 'footlockerlaw04.LayoutFresh': WHATEVER THE INPUT: true; the input reads as it did. -/
def layoutFreshSpec : ChangeSpec := { name := "layoutFresh", fn := fun _ => fun
  | [d1, d2] => { results := [.lit (.bool true)], args := [d1, d2] }
  | _ => none }
def layoutFreshRow : OpenClaim := { program := "yteoimmjgnflmmaa", sum := "9c144d6ccdd1c701fd56c3a7c8fa86b61d389e83ad2cecb93ff2b499e249e242", func := "footlocker/footlockerlaw04.LayoutFresh", spec := "layoutFresh", apart := false }
def LayoutFreshSaid : Prop := layoutFreshRow.holds Try.pinned (OpenSpec.ofChange layoutFreshSpec)

/-- ITS FALSE NEIGHBOUR: 'it returns false'. Refute it at one input. -/
def layoutFreshWrong : ChangeSpec := { name := "layoutFresh", fn := fun _ => fun
  | [d1, d2] => { results := [.lit (.bool false)], args := [d1, d2] }
  | _ => none }
def LayoutFreshWrongFalsely : Prop := layoutFreshRow.holds Try.pinned (OpenSpec.ofChange layoutFreshWrong)

/-- 'footlockerlaw04.LayoutPlaces': WHATEVER THE INPUT: true; the input reads as it did. -/
def layoutPlacesSpec : ChangeSpec := { name := "layoutPlaces", fn := fun _ => fun
  | [d] => { results := [.lit (.bool true)], args := [d] }
  | _ => none }
def layoutPlacesRow : OpenClaim := { program := "yteoimmjgnflmmaa", sum := "9c144d6ccdd1c701fd56c3a7c8fa86b61d389e83ad2cecb93ff2b499e249e242", func := "footlocker/footlockerlaw04.LayoutPlaces", spec := "layoutPlaces", apart := false }
def LayoutPlacesSaid : Prop := layoutPlacesRow.holds Try.pinned (OpenSpec.ofChange layoutPlacesSpec)

/-- ITS FALSE NEIGHBOUR: 'it returns false'. Refute it at one input. -/
def layoutPlacesWrong : ChangeSpec := { name := "layoutPlaces", fn := fun _ => fun
  | [d] => { results := [.lit (.bool false)], args := [d] }
  | _ => none }
def LayoutPlacesWrongFalsely : Prop := layoutPlacesRow.holds Try.pinned (OpenSpec.ofChange layoutPlacesWrong)

/-- 'footlockerlaw04.LayoutOf': WHATEVER THE INPUT: true; the input reads as it did. -/
def layoutOfSpec : ChangeSpec := { name := "layoutOf", fn := fun _ => fun
  | [d1, d2] => { results := [.lit (.bool true)], args := [d1, d2] }
  | _ => none }
def layoutOfRow : OpenClaim := { program := "yteoimmjgnflmmaa", sum := "9c144d6ccdd1c701fd56c3a7c8fa86b61d389e83ad2cecb93ff2b499e249e242", func := "footlocker/footlockerlaw04.LayoutOf", spec := "layoutOf", apart := false }
def LayoutOfSaid : Prop := layoutOfRow.holds Try.pinned (OpenSpec.ofChange layoutOfSpec)

/-- ITS FALSE NEIGHBOUR: 'it returns false'. Refute it at one input. -/
def layoutOfWrong : ChangeSpec := { name := "layoutOf", fn := fun _ => fun
  | [d1, d2] => { results := [.lit (.bool false)], args := [d1, d2] }
  | _ => none }
def LayoutOfWrongFalsely : Prop := layoutOfRow.holds Try.pinned (OpenSpec.ofChange layoutOfWrong)

/-- 'footlockerlaw05.PinMany': WHATEVER THE INPUT: true; the input reads as it did. -/
def pinManySpec : ChangeSpec := { name := "pinMany", fn := fun _ => fun
  | [d] => { results := [.lit (.bool true)], args := [d] }
  | _ => none }
def pinManyRow : OpenClaim := { program := "yteoimmjgnflmmaa", sum := "9c144d6ccdd1c701fd56c3a7c8fa86b61d389e83ad2cecb93ff2b499e249e242", func := "footlocker/footlockerlaw05.PinMany", spec := "pinMany", apart := false }
def PinManySaid : Prop := pinManyRow.holds Try.pinned (OpenSpec.ofChange pinManySpec)

/-- ITS FALSE NEIGHBOUR: 'it returns false'. Refute it at one input. -/
def pinManyWrong : ChangeSpec := { name := "pinMany", fn := fun _ => fun
  | [d] => { results := [.lit (.bool false)], args := [d] }
  | _ => none }
def PinManyWrongFalsely : Prop := pinManyRow.holds Try.pinned (OpenSpec.ofChange pinManyWrong)

/-- 'footlockerlaw05.PinRaces': WHATEVER THE INPUT: true; the input reads as it did. -/
def pinRacesSpec : ChangeSpec := { name := "pinRaces", fn := fun _ => fun
  | [d] => { results := [.lit (.bool true)], args := [d] }
  | _ => none }
def pinRacesRow : OpenClaim := { program := "yteoimmjgnflmmaa", sum := "9c144d6ccdd1c701fd56c3a7c8fa86b61d389e83ad2cecb93ff2b499e249e242", func := "footlocker/footlockerlaw05.PinRaces", spec := "pinRaces", apart := false }
def PinRacesSaid : Prop := pinRacesRow.holds Try.pinned (OpenSpec.ofChange pinRacesSpec)

/-- ITS FALSE NEIGHBOUR: 'it returns false'. Refute it at one input. -/
def pinRacesWrong : ChangeSpec := { name := "pinRaces", fn := fun _ => fun
  | [d] => { results := [.lit (.bool false)], args := [d] }
  | _ => none }
def PinRacesWrongFalsely : Prop := pinRacesRow.holds Try.pinned (OpenSpec.ofChange pinRacesWrong)

/-- 'footlockerlaw13.EpochGoes': WHATEVER THE INPUT: true; the input reads as it did. -/
def epochGoesSpec : ChangeSpec := { name := "epochGoes", fn := fun _ => fun
  | [d1, d2] => { results := [.lit (.bool true)], args := [d1, d2] }
  | _ => none }
def epochGoesRow : OpenClaim := { program := "yteoimmjgnflmmaa", sum := "9c144d6ccdd1c701fd56c3a7c8fa86b61d389e83ad2cecb93ff2b499e249e242", func := "footlocker/footlockerlaw13.EpochGoes", spec := "epochGoes", apart := false }
def EpochGoesSaid : Prop := epochGoesRow.holds Try.pinned (OpenSpec.ofChange epochGoesSpec)

/-- ITS FALSE NEIGHBOUR: 'it returns false'. Refute it at one input. -/
def epochGoesWrong : ChangeSpec := { name := "epochGoes", fn := fun _ => fun
  | [d1, d2] => { results := [.lit (.bool false)], args := [d1, d2] }
  | _ => none }
def EpochGoesWrongFalsely : Prop := epochGoesRow.holds Try.pinned (OpenSpec.ofChange epochGoesWrong)

/-- 'footlockerlaw05.PinSteps': WHATEVER THE INPUT: true; the input reads as it did. -/
def pinStepsSpec : ChangeSpec := { name := "pinSteps", fn := fun _ => fun
  | [d] => { results := [.lit (.bool true)], args := [d] }
  | _ => none }
def pinStepsRow : OpenClaim := { program := "yteoimmjgnflmmaa", sum := "9c144d6ccdd1c701fd56c3a7c8fa86b61d389e83ad2cecb93ff2b499e249e242", func := "footlocker/footlockerlaw05.PinSteps", spec := "pinSteps", apart := false }
def PinStepsSaid : Prop := pinStepsRow.holds Try.pinned (OpenSpec.ofChange pinStepsSpec)

/-- ITS FALSE NEIGHBOUR: 'it returns false'. Refute it at one input. -/
def pinStepsWrong : ChangeSpec := { name := "pinSteps", fn := fun _ => fun
  | [d] => { results := [.lit (.bool false)], args := [d] }
  | _ => none }
def PinStepsWrongFalsely : Prop := pinStepsRow.holds Try.pinned (OpenSpec.ofChange pinStepsWrong)

/-- 'footlockerlaw06.SlotEmpty': WHATEVER THE INPUT: true; the input reads as it did. -/
def slotEmptySpec : ChangeSpec := { name := "slotEmpty", fn := fun _ => fun
  | [d1, d2] => { results := [.lit (.bool true)], args := [d1, d2] }
  | _ => none }
def slotEmptyRow : OpenClaim := { program := "yteoimmjgnflmmaa", sum := "9c144d6ccdd1c701fd56c3a7c8fa86b61d389e83ad2cecb93ff2b499e249e242", func := "footlocker/footlockerlaw06.SlotEmpty", spec := "slotEmpty", apart := false }
def SlotEmptySaid : Prop := slotEmptyRow.holds Try.pinned (OpenSpec.ofChange slotEmptySpec)

/-- ITS FALSE NEIGHBOUR: 'it returns false'. Refute it at one input. -/
def slotEmptyWrong : ChangeSpec := { name := "slotEmpty", fn := fun _ => fun
  | [d1, d2] => { results := [.lit (.bool false)], args := [d1, d2] }
  | _ => none }
def SlotEmptyWrongFalsely : Prop := slotEmptyRow.holds Try.pinned (OpenSpec.ofChange slotEmptyWrong)

/-- 'footlockerlaw13.EpochMany': WHATEVER THE INPUT: true; the input reads as it did. -/
def epochManySpec : ChangeSpec := { name := "epochMany", fn := fun _ => fun
  | [d1, d2] => { results := [.lit (.bool true)], args := [d1, d2] }
  | _ => none }
def epochManyRow : OpenClaim := { program := "yteoimmjgnflmmaa", sum := "9c144d6ccdd1c701fd56c3a7c8fa86b61d389e83ad2cecb93ff2b499e249e242", func := "footlocker/footlockerlaw13.EpochMany", spec := "epochMany", apart := false }
def EpochManySaid : Prop := epochManyRow.holds Try.pinned (OpenSpec.ofChange epochManySpec)

/-- ITS FALSE NEIGHBOUR: 'it returns false'. Refute it at one input. -/
def epochManyWrong : ChangeSpec := { name := "epochMany", fn := fun _ => fun
  | [d1, d2] => { results := [.lit (.bool false)], args := [d1, d2] }
  | _ => none }
def EpochManyWrongFalsely : Prop := epochManyRow.holds Try.pinned (OpenSpec.ofChange epochManyWrong)

/-- 'footlockerlaw04.LayoutEnv': WHATEVER THE INPUT: true; the input reads as it did. -/
def layoutEnvSpec : ChangeSpec := { name := "layoutEnv", fn := fun _ => fun
  | [d] => { results := [.lit (.bool true)], args := [d] }
  | _ => none }
def layoutEnvRow : OpenClaim := { program := "yteoimmjgnflmmaa", sum := "9c144d6ccdd1c701fd56c3a7c8fa86b61d389e83ad2cecb93ff2b499e249e242", func := "footlocker/footlockerlaw04.LayoutEnv", spec := "layoutEnv", apart := false }
def LayoutEnvSaid : Prop := layoutEnvRow.holds Try.pinned (OpenSpec.ofChange layoutEnvSpec)

/-- ITS FALSE NEIGHBOUR: 'it returns false'. Refute it at one input. -/
def layoutEnvWrong : ChangeSpec := { name := "layoutEnv", fn := fun _ => fun
  | [d] => { results := [.lit (.bool false)], args := [d] }
  | _ => none }
def LayoutEnvWrongFalsely : Prop := layoutEnvRow.holds Try.pinned (OpenSpec.ofChange layoutEnvWrong)

/-- 'footlockerlaw06.SlotAlone': WHATEVER THE INPUT: true; the input reads as it did. -/
def slotAloneSpec : ChangeSpec := { name := "slotAlone", fn := fun _ => fun
  | [d1, d2] => { results := [.lit (.bool true)], args := [d1, d2] }
  | _ => none }
def slotAloneRow : OpenClaim := { program := "yteoimmjgnflmmaa", sum := "9c144d6ccdd1c701fd56c3a7c8fa86b61d389e83ad2cecb93ff2b499e249e242", func := "footlocker/footlockerlaw06.SlotAlone", spec := "slotAlone", apart := false }
def SlotAloneSaid : Prop := slotAloneRow.holds Try.pinned (OpenSpec.ofChange slotAloneSpec)

/-- ITS FALSE NEIGHBOUR: 'it returns false'. Refute it at one input. -/
def slotAloneWrong : ChangeSpec := { name := "slotAlone", fn := fun _ => fun
  | [d1, d2] => { results := [.lit (.bool false)], args := [d1, d2] }
  | _ => none }
def SlotAloneWrongFalsely : Prop := slotAloneRow.holds Try.pinned (OpenSpec.ofChange slotAloneWrong)

/-- 'footlockerlaw06.SlotShares': WHATEVER THE INPUT: true; the input reads as it did. -/
def slotSharesSpec : ChangeSpec := { name := "slotShares", fn := fun _ => fun
  | [d1, d2] => { results := [.lit (.bool true)], args := [d1, d2] }
  | _ => none }
def slotSharesRow : OpenClaim := { program := "yteoimmjgnflmmaa", sum := "9c144d6ccdd1c701fd56c3a7c8fa86b61d389e83ad2cecb93ff2b499e249e242", func := "footlocker/footlockerlaw06.SlotShares", spec := "slotShares", apart := false }
def SlotSharesSaid : Prop := slotSharesRow.holds Try.pinned (OpenSpec.ofChange slotSharesSpec)

/-- ITS FALSE NEIGHBOUR: 'it returns false'. Refute it at one input. -/
def slotSharesWrong : ChangeSpec := { name := "slotShares", fn := fun _ => fun
  | [d1, d2] => { results := [.lit (.bool false)], args := [d1, d2] }
  | _ => none }
def SlotSharesWrongFalsely : Prop := slotSharesRow.holds Try.pinned (OpenSpec.ofChange slotSharesWrong)

/-- 'footlockerlaw06.SlotAgain': WHATEVER THE INPUT: true; the input reads as it did. -/
def slotAgainSpec : ChangeSpec := { name := "slotAgain", fn := fun _ => fun
  | [d1, d2] => { results := [.lit (.bool true)], args := [d1, d2] }
  | _ => none }
def slotAgainRow : OpenClaim := { program := "yteoimmjgnflmmaa", sum := "9c144d6ccdd1c701fd56c3a7c8fa86b61d389e83ad2cecb93ff2b499e249e242", func := "footlocker/footlockerlaw06.SlotAgain", spec := "slotAgain", apart := false }
def SlotAgainSaid : Prop := slotAgainRow.holds Try.pinned (OpenSpec.ofChange slotAgainSpec)

/-- ITS FALSE NEIGHBOUR: 'it returns false'. Refute it at one input. -/
def slotAgainWrong : ChangeSpec := { name := "slotAgain", fn := fun _ => fun
  | [d1, d2] => { results := [.lit (.bool false)], args := [d1, d2] }
  | _ => none }
def SlotAgainWrongFalsely : Prop := slotAgainRow.holds Try.pinned (OpenSpec.ofChange slotAgainWrong)

/-- 'footlockerlaw13.EpochPinned': WHATEVER THE INPUT: true; the input reads as it did. -/
def epochPinnedSpec : ChangeSpec := { name := "epochPinned", fn := fun _ => fun
  | [d1, d2] => { results := [.lit (.bool true)], args := [d1, d2] }
  | _ => none }
def epochPinnedRow : OpenClaim := { program := "yteoimmjgnflmmaa", sum := "9c144d6ccdd1c701fd56c3a7c8fa86b61d389e83ad2cecb93ff2b499e249e242", func := "footlocker/footlockerlaw13.EpochPinned", spec := "epochPinned", apart := false }
def EpochPinnedSaid : Prop := epochPinnedRow.holds Try.pinned (OpenSpec.ofChange epochPinnedSpec)

/-- ITS FALSE NEIGHBOUR: 'it returns false'. Refute it at one input. -/
def epochPinnedWrong : ChangeSpec := { name := "epochPinned", fn := fun _ => fun
  | [d1, d2] => { results := [.lit (.bool false)], args := [d1, d2] }
  | _ => none }
def EpochPinnedWrongFalsely : Prop := epochPinnedRow.holds Try.pinned (OpenSpec.ofChange epochPinnedWrong)

/-- 'footlockerlaw06.SlotSteps': WHATEVER THE INPUT: true; the input reads as it did. -/
def slotStepsSpec : ChangeSpec := { name := "slotSteps", fn := fun _ => fun
  | [d1, d2] => { results := [.lit (.bool true)], args := [d1, d2] }
  | _ => none }
def slotStepsRow : OpenClaim := { program := "yteoimmjgnflmmaa", sum := "9c144d6ccdd1c701fd56c3a7c8fa86b61d389e83ad2cecb93ff2b499e249e242", func := "footlocker/footlockerlaw06.SlotSteps", spec := "slotSteps", apart := false }
def SlotStepsSaid : Prop := slotStepsRow.holds Try.pinned (OpenSpec.ofChange slotStepsSpec)

/-- ITS FALSE NEIGHBOUR: 'it returns false'. Refute it at one input. -/
def slotStepsWrong : ChangeSpec := { name := "slotSteps", fn := fun _ => fun
  | [d1, d2] => { results := [.lit (.bool false)], args := [d1, d2] }
  | _ => none }
def SlotStepsWrongFalsely : Prop := slotStepsRow.holds Try.pinned (OpenSpec.ofChange slotStepsWrong)

/-- 'footlockerlaw07.PlaceAlone': WHATEVER THE INPUT: true; the input reads as it did. -/
def placeAloneSpec : ChangeSpec := { name := "placeAlone", fn := fun _ => fun
  | [d1, d2, d3] => { results := [.lit (.bool true)], args := [d1, d2, d3] }
  | _ => none }
def placeAloneRow : OpenClaim := { program := "yteoimmjgnflmmaa", sum := "9c144d6ccdd1c701fd56c3a7c8fa86b61d389e83ad2cecb93ff2b499e249e242", func := "footlocker/footlockerlaw07.PlaceAlone", spec := "placeAlone", apart := false }
def PlaceAloneSaid : Prop := placeAloneRow.holds Try.pinned (OpenSpec.ofChange placeAloneSpec)

/-- ITS FALSE NEIGHBOUR: 'it returns false'. Refute it at one input. -/
def placeAloneWrong : ChangeSpec := { name := "placeAlone", fn := fun _ => fun
  | [d1, d2, d3] => { results := [.lit (.bool false)], args := [d1, d2, d3] }
  | _ => none }
def PlaceAloneWrongFalsely : Prop := placeAloneRow.holds Try.pinned (OpenSpec.ofChange placeAloneWrong)

/-- 'footlockerlaw07.PlaceLeaves': WHATEVER THE INPUT: true; the input reads as it did. -/
def placeLeavesSpec : ChangeSpec := { name := "placeLeaves", fn := fun _ => fun
  | [d1, d2] => { results := [.lit (.bool true)], args := [d1, d2] }
  | _ => none }
def placeLeavesRow : OpenClaim := { program := "yteoimmjgnflmmaa", sum := "9c144d6ccdd1c701fd56c3a7c8fa86b61d389e83ad2cecb93ff2b499e249e242", func := "footlocker/footlockerlaw07.PlaceLeaves", spec := "placeLeaves", apart := false }
def PlaceLeavesSaid : Prop := placeLeavesRow.holds Try.pinned (OpenSpec.ofChange placeLeavesSpec)

/-- ITS FALSE NEIGHBOUR: 'it returns false'. Refute it at one input. -/
def placeLeavesWrong : ChangeSpec := { name := "placeLeaves", fn := fun _ => fun
  | [d1, d2] => { results := [.lit (.bool false)], args := [d1, d2] }
  | _ => none }
def PlaceLeavesWrongFalsely : Prop := placeLeavesRow.holds Try.pinned (OpenSpec.ofChange placeLeavesWrong)

/-- 'footlockerlaw13.EpochSteps': WHATEVER THE INPUT: true; the input reads as it did. -/
def epochStepsSpec : ChangeSpec := { name := "epochSteps", fn := fun _ => fun
  | [d1, d2] => { results := [.lit (.bool true)], args := [d1, d2] }
  | _ => none }
def epochStepsRow : OpenClaim := { program := "yteoimmjgnflmmaa", sum := "9c144d6ccdd1c701fd56c3a7c8fa86b61d389e83ad2cecb93ff2b499e249e242", func := "footlocker/footlockerlaw13.EpochSteps", spec := "epochSteps", apart := false }
def EpochStepsSaid : Prop := epochStepsRow.holds Try.pinned (OpenSpec.ofChange epochStepsSpec)

/-- ITS FALSE NEIGHBOUR: 'it returns false'. Refute it at one input. -/
def epochStepsWrong : ChangeSpec := { name := "epochSteps", fn := fun _ => fun
  | [d1, d2] => { results := [.lit (.bool false)], args := [d1, d2] }
  | _ => none }
def EpochStepsWrongFalsely : Prop := epochStepsRow.holds Try.pinned (OpenSpec.ofChange epochStepsWrong)

/-- 'footlockerlaw07.PlaceClean': WHATEVER THE INPUT: true; the input reads as it did. -/
def placeCleanSpec : ChangeSpec := { name := "placeClean", fn := fun _ => fun
  | [d1, d2] => { results := [.lit (.bool true)], args := [d1, d2] }
  | _ => none }
def placeCleanRow : OpenClaim := { program := "yteoimmjgnflmmaa", sum := "9c144d6ccdd1c701fd56c3a7c8fa86b61d389e83ad2cecb93ff2b499e249e242", func := "footlocker/footlockerlaw07.PlaceClean", spec := "placeClean", apart := false }
def PlaceCleanSaid : Prop := placeCleanRow.holds Try.pinned (OpenSpec.ofChange placeCleanSpec)

/-- ITS FALSE NEIGHBOUR: 'it returns false'. Refute it at one input. -/
def placeCleanWrong : ChangeSpec := { name := "placeClean", fn := fun _ => fun
  | [d1, d2] => { results := [.lit (.bool false)], args := [d1, d2] }
  | _ => none }
def PlaceCleanWrongFalsely : Prop := placeCleanRow.holds Try.pinned (OpenSpec.ofChange placeCleanWrong)

/-- 'footlockerlaw07.PlaceShares': WHATEVER THE INPUT: true; the input reads as it did. -/
def placeSharesSpec : ChangeSpec := { name := "placeShares", fn := fun _ => fun
  | [d1, d2, d3] => { results := [.lit (.bool true)], args := [d1, d2, d3] }
  | _ => none }
def placeSharesRow : OpenClaim := { program := "yteoimmjgnflmmaa", sum := "9c144d6ccdd1c701fd56c3a7c8fa86b61d389e83ad2cecb93ff2b499e249e242", func := "footlocker/footlockerlaw07.PlaceShares", spec := "placeShares", apart := false }
def PlaceSharesSaid : Prop := placeSharesRow.holds Try.pinned (OpenSpec.ofChange placeSharesSpec)

/-- ITS FALSE NEIGHBOUR: 'it returns false'. Refute it at one input. -/
def placeSharesWrong : ChangeSpec := { name := "placeShares", fn := fun _ => fun
  | [d1, d2, d3] => { results := [.lit (.bool false)], args := [d1, d2, d3] }
  | _ => none }
def PlaceSharesWrongFalsely : Prop := placeSharesRow.holds Try.pinned (OpenSpec.ofChange placeSharesWrong)

/-- 'footlockerlaw07.PlaceSteps': WHATEVER THE INPUT: true; the input reads as it did. -/
def placeStepsSpec : ChangeSpec := { name := "placeSteps", fn := fun _ => fun
  | [d1, d2] => { results := [.lit (.bool true)], args := [d1, d2] }
  | _ => none }
def placeStepsRow : OpenClaim := { program := "yteoimmjgnflmmaa", sum := "9c144d6ccdd1c701fd56c3a7c8fa86b61d389e83ad2cecb93ff2b499e249e242", func := "footlocker/footlockerlaw07.PlaceSteps", spec := "placeSteps", apart := false }
def PlaceStepsSaid : Prop := placeStepsRow.holds Try.pinned (OpenSpec.ofChange placeStepsSpec)

/-- ITS FALSE NEIGHBOUR: 'it returns false'. Refute it at one input. -/
def placeStepsWrong : ChangeSpec := { name := "placeSteps", fn := fun _ => fun
  | [d1, d2] => { results := [.lit (.bool false)], args := [d1, d2] }
  | _ => none }
def PlaceStepsWrongFalsely : Prop := placeStepsRow.holds Try.pinned (OpenSpec.ofChange placeStepsWrong)

/-- 'footlockerlaw08.AllocGives': WHATEVER THE INPUT: true; the input reads as it did. -/
def allocGivesSpec : ChangeSpec := { name := "allocGives", fn := fun _ => fun
  | [d1, d2] => { results := [.lit (.bool true)], args := [d1, d2] }
  | _ => none }
def allocGivesRow : OpenClaim := { program := "yteoimmjgnflmmaa", sum := "9c144d6ccdd1c701fd56c3a7c8fa86b61d389e83ad2cecb93ff2b499e249e242", func := "footlocker/footlockerlaw08.AllocGives", spec := "allocGives", apart := false }
def AllocGivesSaid : Prop := allocGivesRow.holds Try.pinned (OpenSpec.ofChange allocGivesSpec)

/-- ITS FALSE NEIGHBOUR: 'it returns false'. Refute it at one input. -/
def allocGivesWrong : ChangeSpec := { name := "allocGives", fn := fun _ => fun
  | [d1, d2] => { results := [.lit (.bool false)], args := [d1, d2] }
  | _ => none }
def AllocGivesWrongFalsely : Prop := allocGivesRow.holds Try.pinned (OpenSpec.ofChange allocGivesWrong)

/-- 'footlockerlaw08.AllocStamps': WHATEVER THE INPUT: true; the input reads as it did. -/
def allocStampsSpec : ChangeSpec := { name := "allocStamps", fn := fun _ => fun
  | [d] => { results := [.lit (.bool true)], args := [d] }
  | _ => none }
def allocStampsRow : OpenClaim := { program := "yteoimmjgnflmmaa", sum := "9c144d6ccdd1c701fd56c3a7c8fa86b61d389e83ad2cecb93ff2b499e249e242", func := "footlocker/footlockerlaw08.AllocStamps", spec := "allocStamps", apart := false }
def AllocStampsSaid : Prop := allocStampsRow.holds Try.pinned (OpenSpec.ofChange allocStampsSpec)

/-- ITS FALSE NEIGHBOUR: 'it returns false'. Refute it at one input. -/
def allocStampsWrong : ChangeSpec := { name := "allocStamps", fn := fun _ => fun
  | [d] => { results := [.lit (.bool false)], args := [d] }
  | _ => none }
def AllocStampsWrongFalsely : Prop := allocStampsRow.holds Try.pinned (OpenSpec.ofChange allocStampsWrong)

/-- 'footlockerlaw08.AllocSteps': WHATEVER THE INPUT: true; the input reads as it did. -/
def allocStepsSpec : ChangeSpec := { name := "allocSteps", fn := fun _ => fun
  | [d] => { results := [.lit (.bool true)], args := [d] }
  | _ => none }
def allocStepsRow : OpenClaim := { program := "yteoimmjgnflmmaa", sum := "9c144d6ccdd1c701fd56c3a7c8fa86b61d389e83ad2cecb93ff2b499e249e242", func := "footlocker/footlockerlaw08.AllocSteps", spec := "allocSteps", apart := false }
def AllocStepsSaid : Prop := allocStepsRow.holds Try.pinned (OpenSpec.ofChange allocStepsSpec)

/-- ITS FALSE NEIGHBOUR: 'it returns false'. Refute it at one input. -/
def allocStepsWrong : ChangeSpec := { name := "allocSteps", fn := fun _ => fun
  | [d] => { results := [.lit (.bool false)], args := [d] }
  | _ => none }
def AllocStepsWrongFalsely : Prop := allocStepsRow.holds Try.pinned (OpenSpec.ofChange allocStepsWrong)

/-- 'footlockerlaw08.AllocAlone': WHATEVER THE INPUT: true; the input reads as it did. -/
def allocAloneSpec : ChangeSpec := { name := "allocAlone", fn := fun _ => fun
  | [d1, d2, d3] => { results := [.lit (.bool true)], args := [d1, d2, d3] }
  | _ => none }
def allocAloneRow : OpenClaim := { program := "yteoimmjgnflmmaa", sum := "9c144d6ccdd1c701fd56c3a7c8fa86b61d389e83ad2cecb93ff2b499e249e242", func := "footlocker/footlockerlaw08.AllocAlone", spec := "allocAlone", apart := false }
def AllocAloneSaid : Prop := allocAloneRow.holds Try.pinned (OpenSpec.ofChange allocAloneSpec)

/-- ITS FALSE NEIGHBOUR: 'it returns false'. Refute it at one input. -/
def allocAloneWrong : ChangeSpec := { name := "allocAlone", fn := fun _ => fun
  | [d1, d2, d3] => { results := [.lit (.bool false)], args := [d1, d2, d3] }
  | _ => none }
def AllocAloneWrongFalsely : Prop := allocAloneRow.holds Try.pinned (OpenSpec.ofChange allocAloneWrong)

/-- 'footlockerlaw08.AllocShares': WHATEVER THE INPUT: true; the input reads as it did. -/
def allocSharesSpec : ChangeSpec := { name := "allocShares", fn := fun _ => fun
  | [d1, d2, d3] => { results := [.lit (.bool true)], args := [d1, d2, d3] }
  | _ => none }
def allocSharesRow : OpenClaim := { program := "yteoimmjgnflmmaa", sum := "9c144d6ccdd1c701fd56c3a7c8fa86b61d389e83ad2cecb93ff2b499e249e242", func := "footlocker/footlockerlaw08.AllocShares", spec := "allocShares", apart := false }
def AllocSharesSaid : Prop := allocSharesRow.holds Try.pinned (OpenSpec.ofChange allocSharesSpec)

/-- ITS FALSE NEIGHBOUR: 'it returns false'. Refute it at one input. -/
def allocSharesWrong : ChangeSpec := { name := "allocShares", fn := fun _ => fun
  | [d1, d2, d3] => { results := [.lit (.bool false)], args := [d1, d2, d3] }
  | _ => none }
def AllocSharesWrongFalsely : Prop := allocSharesRow.holds Try.pinned (OpenSpec.ofChange allocSharesWrong)

/- THE SECOND FORM. 'bulk': how many values and letters a reading holds, each counted each time it is reached (what is shared counts as often as it is met; a slice's spare places count too). A statement '..UptoSaid' is the law's where the arguments, and the package variables that the reading takes, are together of bulk at most 1048576: NARROWER than '..Said'. Prove '..Said' where nothing that the law and all that it calls make is longer than what came in: it says more and counts as full. Else prove '..UptoSaid'. A law counts once. -/
mutual
def uptoBulk {H : Type} : DataW H → Nat
  | .lit (.string bytes) => bytes.length + 1
  | .lit _ => 1
  | .nil => 1
  | .ptr d => uptoBulk d + 1
  | .slice elems spare => uptoBulkAll elems + uptoBulkAll spare + 1
  | .agg parts => uptoBulkAll parts + 1
  | .iface _ d => uptoBulk d + 1
  | .map entries => uptoBulkEntries entries + 1
  | .held _ => 1
def uptoBulkAll {H : Type} : List (DataW H) → Nat
  | [] => 0
  | d :: r => uptoBulk d + uptoBulkAll r
def uptoBulkEntries {H : Type} : List (Lit × DataW H) → Nat
  | [] => 0
  | x :: r => uptoBulkEntry x + uptoBulkEntries r
def uptoBulkEntry {H : Type} : Lit × DataW H → Nat
  | (.string bytes, d) => bytes.length + uptoBulk d + 1
  | (_, d) => uptoBulk d + 1
 end
def uptoSmall : (H : Type) → List (DataW H) → Bool := fun _ ds => decide (uptoBulkAll ds ≤ 1048576)
def OpenSpec.upto (s : _root_.Go.ChangeSpec) : _root_.Go.OpenSpec := { _root_.Go.OpenSpec.ofChange s with cond := some uptoSmall }

/-- 'footlockerlaw04.LayoutChecks', WHERE WHAT IT READS IS OF BULK AT MOST 1048576: true; the input reads as it did. -/
def layoutChecksUptoRow : OpenClaim := { program := "yteoimmjgnflmmaa", sum := "9c144d6ccdd1c701fd56c3a7c8fa86b61d389e83ad2cecb93ff2b499e249e242", func := "footlocker/footlockerlaw04.LayoutChecks", spec := "layoutChecks", apart := false, narrowed := true }
def LayoutChecksUptoSaid : Prop := layoutChecksUptoRow.holds Try.pinned (OpenSpec.upto layoutChecksSpec)

/-- 'footlockerlaw04.LayoutClasses', WHERE WHAT IT READS IS OF BULK AT MOST 1048576: true; the input reads as it did. -/
def layoutClassesUptoRow : OpenClaim := { program := "yteoimmjgnflmmaa", sum := "9c144d6ccdd1c701fd56c3a7c8fa86b61d389e83ad2cecb93ff2b499e249e242", func := "footlocker/footlockerlaw04.LayoutClasses", spec := "layoutClasses", apart := false, narrowed := true }
def LayoutClassesUptoSaid : Prop := layoutClassesUptoRow.holds Try.pinned (OpenSpec.upto layoutClassesSpec)

/-- 'footlockerlaw04.LayoutFresh', WHERE WHAT IT READS IS OF BULK AT MOST 1048576: true; the input reads as it did. -/
def layoutFreshUptoRow : OpenClaim := { program := "yteoimmjgnflmmaa", sum := "9c144d6ccdd1c701fd56c3a7c8fa86b61d389e83ad2cecb93ff2b499e249e242", func := "footlocker/footlockerlaw04.LayoutFresh", spec := "layoutFresh", apart := false, narrowed := true }
def LayoutFreshUptoSaid : Prop := layoutFreshUptoRow.holds Try.pinned (OpenSpec.upto layoutFreshSpec)

/-- 'footlockerlaw04.LayoutPlaces', WHERE WHAT IT READS IS OF BULK AT MOST 1048576: true; the input reads as it did. -/
def layoutPlacesUptoRow : OpenClaim := { program := "yteoimmjgnflmmaa", sum := "9c144d6ccdd1c701fd56c3a7c8fa86b61d389e83ad2cecb93ff2b499e249e242", func := "footlocker/footlockerlaw04.LayoutPlaces", spec := "layoutPlaces", apart := false, narrowed := true }
def LayoutPlacesUptoSaid : Prop := layoutPlacesUptoRow.holds Try.pinned (OpenSpec.upto layoutPlacesSpec)

/-- 'footlockerlaw04.LayoutOf', WHERE WHAT IT READS IS OF BULK AT MOST 1048576: true; the input reads as it did. -/
def layoutOfUptoRow : OpenClaim := { program := "yteoimmjgnflmmaa", sum := "9c144d6ccdd1c701fd56c3a7c8fa86b61d389e83ad2cecb93ff2b499e249e242", func := "footlocker/footlockerlaw04.LayoutOf", spec := "layoutOf", apart := false, narrowed := true }
def LayoutOfUptoSaid : Prop := layoutOfUptoRow.holds Try.pinned (OpenSpec.upto layoutOfSpec)

/-- 'footlockerlaw05.PinMany', WHERE WHAT IT READS IS OF BULK AT MOST 1048576: true; the input reads as it did. -/
def pinManyUptoRow : OpenClaim := { program := "yteoimmjgnflmmaa", sum := "9c144d6ccdd1c701fd56c3a7c8fa86b61d389e83ad2cecb93ff2b499e249e242", func := "footlocker/footlockerlaw05.PinMany", spec := "pinMany", apart := false, narrowed := true }
def PinManyUptoSaid : Prop := pinManyUptoRow.holds Try.pinned (OpenSpec.upto pinManySpec)

/-- 'footlockerlaw05.PinRaces', WHERE WHAT IT READS IS OF BULK AT MOST 1048576: true; the input reads as it did. -/
def pinRacesUptoRow : OpenClaim := { program := "yteoimmjgnflmmaa", sum := "9c144d6ccdd1c701fd56c3a7c8fa86b61d389e83ad2cecb93ff2b499e249e242", func := "footlocker/footlockerlaw05.PinRaces", spec := "pinRaces", apart := false, narrowed := true }
def PinRacesUptoSaid : Prop := pinRacesUptoRow.holds Try.pinned (OpenSpec.upto pinRacesSpec)

/-- 'footlockerlaw13.EpochGoes', WHERE WHAT IT READS IS OF BULK AT MOST 1048576: true; the input reads as it did. -/
def epochGoesUptoRow : OpenClaim := { program := "yteoimmjgnflmmaa", sum := "9c144d6ccdd1c701fd56c3a7c8fa86b61d389e83ad2cecb93ff2b499e249e242", func := "footlocker/footlockerlaw13.EpochGoes", spec := "epochGoes", apart := false, narrowed := true }
def EpochGoesUptoSaid : Prop := epochGoesUptoRow.holds Try.pinned (OpenSpec.upto epochGoesSpec)

/-- 'footlockerlaw05.PinSteps', WHERE WHAT IT READS IS OF BULK AT MOST 1048576: true; the input reads as it did. -/
def pinStepsUptoRow : OpenClaim := { program := "yteoimmjgnflmmaa", sum := "9c144d6ccdd1c701fd56c3a7c8fa86b61d389e83ad2cecb93ff2b499e249e242", func := "footlocker/footlockerlaw05.PinSteps", spec := "pinSteps", apart := false, narrowed := true }
def PinStepsUptoSaid : Prop := pinStepsUptoRow.holds Try.pinned (OpenSpec.upto pinStepsSpec)

/-- 'footlockerlaw06.SlotEmpty', WHERE WHAT IT READS IS OF BULK AT MOST 1048576: true; the input reads as it did. -/
def slotEmptyUptoRow : OpenClaim := { program := "yteoimmjgnflmmaa", sum := "9c144d6ccdd1c701fd56c3a7c8fa86b61d389e83ad2cecb93ff2b499e249e242", func := "footlocker/footlockerlaw06.SlotEmpty", spec := "slotEmpty", apart := false, narrowed := true }
def SlotEmptyUptoSaid : Prop := slotEmptyUptoRow.holds Try.pinned (OpenSpec.upto slotEmptySpec)

/-- 'footlockerlaw13.EpochMany', WHERE WHAT IT READS IS OF BULK AT MOST 1048576: true; the input reads as it did. -/
def epochManyUptoRow : OpenClaim := { program := "yteoimmjgnflmmaa", sum := "9c144d6ccdd1c701fd56c3a7c8fa86b61d389e83ad2cecb93ff2b499e249e242", func := "footlocker/footlockerlaw13.EpochMany", spec := "epochMany", apart := false, narrowed := true }
def EpochManyUptoSaid : Prop := epochManyUptoRow.holds Try.pinned (OpenSpec.upto epochManySpec)

/-- 'footlockerlaw04.LayoutEnv', WHERE WHAT IT READS IS OF BULK AT MOST 1048576: true; the input reads as it did. -/
def layoutEnvUptoRow : OpenClaim := { program := "yteoimmjgnflmmaa", sum := "9c144d6ccdd1c701fd56c3a7c8fa86b61d389e83ad2cecb93ff2b499e249e242", func := "footlocker/footlockerlaw04.LayoutEnv", spec := "layoutEnv", apart := false, narrowed := true }
def LayoutEnvUptoSaid : Prop := layoutEnvUptoRow.holds Try.pinned (OpenSpec.upto layoutEnvSpec)

/-- 'footlockerlaw06.SlotAlone', WHERE WHAT IT READS IS OF BULK AT MOST 1048576: true; the input reads as it did. -/
def slotAloneUptoRow : OpenClaim := { program := "yteoimmjgnflmmaa", sum := "9c144d6ccdd1c701fd56c3a7c8fa86b61d389e83ad2cecb93ff2b499e249e242", func := "footlocker/footlockerlaw06.SlotAlone", spec := "slotAlone", apart := false, narrowed := true }
def SlotAloneUptoSaid : Prop := slotAloneUptoRow.holds Try.pinned (OpenSpec.upto slotAloneSpec)

/-- 'footlockerlaw06.SlotShares', WHERE WHAT IT READS IS OF BULK AT MOST 1048576: true; the input reads as it did. -/
def slotSharesUptoRow : OpenClaim := { program := "yteoimmjgnflmmaa", sum := "9c144d6ccdd1c701fd56c3a7c8fa86b61d389e83ad2cecb93ff2b499e249e242", func := "footlocker/footlockerlaw06.SlotShares", spec := "slotShares", apart := false, narrowed := true }
def SlotSharesUptoSaid : Prop := slotSharesUptoRow.holds Try.pinned (OpenSpec.upto slotSharesSpec)

/-- 'footlockerlaw06.SlotAgain', WHERE WHAT IT READS IS OF BULK AT MOST 1048576: true; the input reads as it did. -/
def slotAgainUptoRow : OpenClaim := { program := "yteoimmjgnflmmaa", sum := "9c144d6ccdd1c701fd56c3a7c8fa86b61d389e83ad2cecb93ff2b499e249e242", func := "footlocker/footlockerlaw06.SlotAgain", spec := "slotAgain", apart := false, narrowed := true }
def SlotAgainUptoSaid : Prop := slotAgainUptoRow.holds Try.pinned (OpenSpec.upto slotAgainSpec)

/-- 'footlockerlaw13.EpochPinned', WHERE WHAT IT READS IS OF BULK AT MOST 1048576: true; the input reads as it did. -/
def epochPinnedUptoRow : OpenClaim := { program := "yteoimmjgnflmmaa", sum := "9c144d6ccdd1c701fd56c3a7c8fa86b61d389e83ad2cecb93ff2b499e249e242", func := "footlocker/footlockerlaw13.EpochPinned", spec := "epochPinned", apart := false, narrowed := true }
def EpochPinnedUptoSaid : Prop := epochPinnedUptoRow.holds Try.pinned (OpenSpec.upto epochPinnedSpec)

/-- 'footlockerlaw06.SlotSteps', WHERE WHAT IT READS IS OF BULK AT MOST 1048576: true; the input reads as it did. -/
def slotStepsUptoRow : OpenClaim := { program := "yteoimmjgnflmmaa", sum := "9c144d6ccdd1c701fd56c3a7c8fa86b61d389e83ad2cecb93ff2b499e249e242", func := "footlocker/footlockerlaw06.SlotSteps", spec := "slotSteps", apart := false, narrowed := true }
def SlotStepsUptoSaid : Prop := slotStepsUptoRow.holds Try.pinned (OpenSpec.upto slotStepsSpec)

/-- 'footlockerlaw07.PlaceAlone', WHERE WHAT IT READS IS OF BULK AT MOST 1048576: true; the input reads as it did. -/
def placeAloneUptoRow : OpenClaim := { program := "yteoimmjgnflmmaa", sum := "9c144d6ccdd1c701fd56c3a7c8fa86b61d389e83ad2cecb93ff2b499e249e242", func := "footlocker/footlockerlaw07.PlaceAlone", spec := "placeAlone", apart := false, narrowed := true }
def PlaceAloneUptoSaid : Prop := placeAloneUptoRow.holds Try.pinned (OpenSpec.upto placeAloneSpec)

/-- 'footlockerlaw07.PlaceLeaves', WHERE WHAT IT READS IS OF BULK AT MOST 1048576: true; the input reads as it did. -/
def placeLeavesUptoRow : OpenClaim := { program := "yteoimmjgnflmmaa", sum := "9c144d6ccdd1c701fd56c3a7c8fa86b61d389e83ad2cecb93ff2b499e249e242", func := "footlocker/footlockerlaw07.PlaceLeaves", spec := "placeLeaves", apart := false, narrowed := true }
def PlaceLeavesUptoSaid : Prop := placeLeavesUptoRow.holds Try.pinned (OpenSpec.upto placeLeavesSpec)

/-- 'footlockerlaw13.EpochSteps', WHERE WHAT IT READS IS OF BULK AT MOST 1048576: true; the input reads as it did. -/
def epochStepsUptoRow : OpenClaim := { program := "yteoimmjgnflmmaa", sum := "9c144d6ccdd1c701fd56c3a7c8fa86b61d389e83ad2cecb93ff2b499e249e242", func := "footlocker/footlockerlaw13.EpochSteps", spec := "epochSteps", apart := false, narrowed := true }
def EpochStepsUptoSaid : Prop := epochStepsUptoRow.holds Try.pinned (OpenSpec.upto epochStepsSpec)

/-- 'footlockerlaw07.PlaceClean', WHERE WHAT IT READS IS OF BULK AT MOST 1048576: true; the input reads as it did. -/
def placeCleanUptoRow : OpenClaim := { program := "yteoimmjgnflmmaa", sum := "9c144d6ccdd1c701fd56c3a7c8fa86b61d389e83ad2cecb93ff2b499e249e242", func := "footlocker/footlockerlaw07.PlaceClean", spec := "placeClean", apart := false, narrowed := true }
def PlaceCleanUptoSaid : Prop := placeCleanUptoRow.holds Try.pinned (OpenSpec.upto placeCleanSpec)

/-- 'footlockerlaw07.PlaceShares', WHERE WHAT IT READS IS OF BULK AT MOST 1048576: true; the input reads as it did. -/
def placeSharesUptoRow : OpenClaim := { program := "yteoimmjgnflmmaa", sum := "9c144d6ccdd1c701fd56c3a7c8fa86b61d389e83ad2cecb93ff2b499e249e242", func := "footlocker/footlockerlaw07.PlaceShares", spec := "placeShares", apart := false, narrowed := true }
def PlaceSharesUptoSaid : Prop := placeSharesUptoRow.holds Try.pinned (OpenSpec.upto placeSharesSpec)

/-- 'footlockerlaw07.PlaceSteps', WHERE WHAT IT READS IS OF BULK AT MOST 1048576: true; the input reads as it did. -/
def placeStepsUptoRow : OpenClaim := { program := "yteoimmjgnflmmaa", sum := "9c144d6ccdd1c701fd56c3a7c8fa86b61d389e83ad2cecb93ff2b499e249e242", func := "footlocker/footlockerlaw07.PlaceSteps", spec := "placeSteps", apart := false, narrowed := true }
def PlaceStepsUptoSaid : Prop := placeStepsUptoRow.holds Try.pinned (OpenSpec.upto placeStepsSpec)

/-- 'footlockerlaw08.AllocGives', WHERE WHAT IT READS IS OF BULK AT MOST 1048576: true; the input reads as it did. -/
def allocGivesUptoRow : OpenClaim := { program := "yteoimmjgnflmmaa", sum := "9c144d6ccdd1c701fd56c3a7c8fa86b61d389e83ad2cecb93ff2b499e249e242", func := "footlocker/footlockerlaw08.AllocGives", spec := "allocGives", apart := false, narrowed := true }
def AllocGivesUptoSaid : Prop := allocGivesUptoRow.holds Try.pinned (OpenSpec.upto allocGivesSpec)

/-- 'footlockerlaw08.AllocStamps', WHERE WHAT IT READS IS OF BULK AT MOST 1048576: true; the input reads as it did. -/
def allocStampsUptoRow : OpenClaim := { program := "yteoimmjgnflmmaa", sum := "9c144d6ccdd1c701fd56c3a7c8fa86b61d389e83ad2cecb93ff2b499e249e242", func := "footlocker/footlockerlaw08.AllocStamps", spec := "allocStamps", apart := false, narrowed := true }
def AllocStampsUptoSaid : Prop := allocStampsUptoRow.holds Try.pinned (OpenSpec.upto allocStampsSpec)

/-- 'footlockerlaw08.AllocSteps', WHERE WHAT IT READS IS OF BULK AT MOST 1048576: true; the input reads as it did. -/
def allocStepsUptoRow : OpenClaim := { program := "yteoimmjgnflmmaa", sum := "9c144d6ccdd1c701fd56c3a7c8fa86b61d389e83ad2cecb93ff2b499e249e242", func := "footlocker/footlockerlaw08.AllocSteps", spec := "allocSteps", apart := false, narrowed := true }
def AllocStepsUptoSaid : Prop := allocStepsUptoRow.holds Try.pinned (OpenSpec.upto allocStepsSpec)

/-- 'footlockerlaw08.AllocAlone', WHERE WHAT IT READS IS OF BULK AT MOST 1048576: true; the input reads as it did. -/
def allocAloneUptoRow : OpenClaim := { program := "yteoimmjgnflmmaa", sum := "9c144d6ccdd1c701fd56c3a7c8fa86b61d389e83ad2cecb93ff2b499e249e242", func := "footlocker/footlockerlaw08.AllocAlone", spec := "allocAlone", apart := false, narrowed := true }
def AllocAloneUptoSaid : Prop := allocAloneUptoRow.holds Try.pinned (OpenSpec.upto allocAloneSpec)

/-- 'footlockerlaw08.AllocShares', WHERE WHAT IT READS IS OF BULK AT MOST 1048576: true; the input reads as it did. -/
def allocSharesUptoRow : OpenClaim := { program := "yteoimmjgnflmmaa", sum := "9c144d6ccdd1c701fd56c3a7c8fa86b61d389e83ad2cecb93ff2b499e249e242", func := "footlocker/footlockerlaw08.AllocShares", spec := "allocShares", apart := false, narrowed := true }
def AllocSharesUptoSaid : Prop := allocSharesUptoRow.holds Try.pinned (OpenSpec.upto allocSharesSpec)

end Rows
end Go.Proofs.Yteoimmjgnflmmaa
