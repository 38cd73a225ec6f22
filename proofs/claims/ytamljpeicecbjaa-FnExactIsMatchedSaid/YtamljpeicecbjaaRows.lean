/-
  No cell of these rows narrows 'for every input' (looked for: loops, veiled, ifaces, maps, wideKeys, modest, calm, conditions, laid).
  DERIVED. THE GIVEN ROWS OF THIS SEAT. 30 by the template 'for every input the law returns true; each argument reads behind the call as it read before'; 0 by the template 'total and deterministic' (their statements: YtamljpeicecbjaaTotals.lean).
  GIVEN WITH THE SEED: the statements are not yours to turn. If you find one false, say at which input.
  Laid BY PROGRAM, IN A SANDBOX (cutbox-rows.mjs): the forced cells as the released guide's own fill.sh prints them over the translation 3e0ad477342b62a8… (all of the seat's roots in one cut). By AI agents, Wed Nov 11 2026. No macro, syntax, notation, axiom, sorry.
-/
import Derived.Test.YtamljpeicecbjaaChecked
import GoSem.Claim
import GoSem.ClaimJoined
import GoSem.ClaimMapViews
import Derived.JoinedTies
import Derived.KernelRfl
namespace Go.Proofs.Ytamljpeicecbjaa
/- THE CELL 'sum', in the pinned program and in every row, IS THE sha256 OF THE DUMP (.gsa) THAT YtamljpeicecbjaaProg.lean LOADS. Nothing in Lean hashes anything: it is a label: what it is worth is what the hold of that sum in a sandbox is worth. -/
noncomputable def Try.pinned : Pinned := { name := "ytamljpeicecbjaa", sum := "3e0ad477342b62a8db992f5b5e8cfd3d0270e5d96f5587f08509bd7fdf57b66a", checked := Try.checked }
namespace Rows
def none {H : Type} : Left H := { results := [], args := [] }

/-- 'laws.FnExactValidPigment': WHATEVER THE INPUT: true; the input reads as it did. -/
def fnExactValidPigmentSpec : ChangeSpec := { name := "fnExactValidPigment", fn := fun _ => fun
  | [d] => { results := [.lit (.bool true)], args := [d] }
  | _ => none }
def fnExactValidPigmentRow : OpenClaim := { program := "ytamljpeicecbjaa", sum := "3e0ad477342b62a8db992f5b5e8cfd3d0270e5d96f5587f08509bd7fdf57b66a", func := "loop.example/g01213/laws.FnExactValidPigment", spec := "fnExactValidPigment", inPlace := ["math.Float64bits", "math.Float64frombits"], unfollowed := true, recurses := true, apart := false }
def FnExactValidPigmentSaid : Prop := fnExactValidPigmentRow.holds Try.pinned (OpenSpec.ofChange fnExactValidPigmentSpec)

/-- ITS FALSE NEIGHBOUR: 'it returns false'. Refute it at one input. -/
def fnExactValidPigmentWrong : ChangeSpec := { name := "fnExactValidPigment", fn := fun _ => fun
  | [d] => { results := [.lit (.bool false)], args := [d] }
  | _ => none }
def FnExactValidPigmentWrongFalsely : Prop := fnExactValidPigmentRow.holds Try.pinned (OpenSpec.ofChange fnExactValidPigmentWrong)

/-- 'laws.FnExactSameShelf': WHATEVER THE INPUT: true; the input reads as it did. -/
def fnExactSameShelfSpec : ChangeSpec := { name := "fnExactSameShelf", fn := fun _ => fun
  | [d1, d2] => { results := [.lit (.bool true)], args := [d1, d2] }
  | _ => none }
def fnExactSameShelfRow : OpenClaim := { program := "ytamljpeicecbjaa", sum := "3e0ad477342b62a8db992f5b5e8cfd3d0270e5d96f5587f08509bd7fdf57b66a", func := "loop.example/g01213/laws.FnExactSameShelf", spec := "fnExactSameShelf", inPlace := ["math.Float32bits"], unfollowed := true, recurses := true, apart := false }
def FnExactSameShelfSaid : Prop := fnExactSameShelfRow.holds Try.pinned (OpenSpec.ofChange fnExactSameShelfSpec)

/-- ITS FALSE NEIGHBOUR: 'it returns false'. Refute it at one input. -/
def fnExactSameShelfWrong : ChangeSpec := { name := "fnExactSameShelf", fn := fun _ => fun
  | [d1, d2] => { results := [.lit (.bool false)], args := [d1, d2] }
  | _ => none }
def FnExactSameShelfWrongFalsely : Prop := fnExactSameShelfRow.holds Try.pinned (OpenSpec.ofChange fnExactSameShelfWrong)

/-- 'laws.FnExactValidShelf': WHATEVER THE INPUT: true; the input reads as it did. -/
def fnExactValidShelfSpec : ChangeSpec := { name := "fnExactValidShelf", fn := fun _ => fun
  | [d] => { results := [.lit (.bool true)], args := [d] }
  | _ => none }
def fnExactValidShelfRow : OpenClaim := { program := "ytamljpeicecbjaa", sum := "3e0ad477342b62a8db992f5b5e8cfd3d0270e5d96f5587f08509bd7fdf57b66a", func := "loop.example/g01213/laws.FnExactValidShelf", spec := "fnExactValidShelf", inPlace := ["math.Float64bits", "math.Float64frombits"], unfollowed := true, recurses := true, apart := false }
def FnExactValidShelfSaid : Prop := fnExactValidShelfRow.holds Try.pinned (OpenSpec.ofChange fnExactValidShelfSpec)

/-- ITS FALSE NEIGHBOUR: 'it returns false'. Refute it at one input. -/
def fnExactValidShelfWrong : ChangeSpec := { name := "fnExactValidShelf", fn := fun _ => fun
  | [d] => { results := [.lit (.bool false)], args := [d] }
  | _ => none }
def FnExactValidShelfWrongFalsely : Prop := fnExactValidShelfRow.holds Try.pinned (OpenSpec.ofChange fnExactValidShelfWrong)

/-- 'laws.FnExactFindPigment': WHATEVER THE INPUT: true; the input reads as it did. -/
def fnExactFindPigmentSpec : ChangeSpec := { name := "fnExactFindPigment", fn := fun _ => fun
  | [d1, d2] => { results := [.lit (.bool true)], args := [d1, d2] }
  | _ => none }
def fnExactFindPigmentRow : OpenClaim := { program := "ytamljpeicecbjaa", sum := "3e0ad477342b62a8db992f5b5e8cfd3d0270e5d96f5587f08509bd7fdf57b66a", func := "loop.example/g01213/laws.FnExactFindPigment", spec := "fnExactFindPigment", inPlace := ["math.Float64bits", "math.Float64frombits"], unfollowed := true, recurses := true, apart := false }
def FnExactFindPigmentSaid : Prop := fnExactFindPigmentRow.holds Try.pinned (OpenSpec.ofChange fnExactFindPigmentSpec)

/-- ITS FALSE NEIGHBOUR: 'it returns false'. Refute it at one input. -/
def fnExactFindPigmentWrong : ChangeSpec := { name := "fnExactFindPigment", fn := fun _ => fun
  | [d1, d2] => { results := [.lit (.bool false)], args := [d1, d2] }
  | _ => none }
def FnExactFindPigmentWrongFalsely : Prop := fnExactFindPigmentRow.holds Try.pinned (OpenSpec.ofChange fnExactFindPigmentWrong)

/-- 'laws.FnExactEvenParts': WHATEVER THE INPUT: true; the input reads as it did. -/
def fnExactEvenPartsSpec : ChangeSpec := { name := "fnExactEvenParts", fn := fun _ => fun
  | [d] => { results := [.lit (.bool true)], args := [d] }
  | _ => none }
def fnExactEvenPartsRow : OpenClaim := { program := "ytamljpeicecbjaa", sum := "3e0ad477342b62a8db992f5b5e8cfd3d0270e5d96f5587f08509bd7fdf57b66a", func := "loop.example/g01213/laws.FnExactEvenParts", spec := "fnExactEvenParts", inPlace := ["math.Float64bits", "math.Float64frombits"], unfollowed := true, recurses := true, apart := false }
def FnExactEvenPartsSaid : Prop := fnExactEvenPartsRow.holds Try.pinned (OpenSpec.ofChange fnExactEvenPartsSpec)

/-- ITS FALSE NEIGHBOUR: 'it returns false'. Refute it at one input. -/
def fnExactEvenPartsWrong : ChangeSpec := { name := "fnExactEvenParts", fn := fun _ => fun
  | [d] => { results := [.lit (.bool false)], args := [d] }
  | _ => none }
def FnExactEvenPartsWrongFalsely : Prop := fnExactEvenPartsRow.holds Try.pinned (OpenSpec.ofChange fnExactEvenPartsWrong)

/-- 'laws.FnExactValidDrops': WHATEVER THE INPUT: true; the input reads as it did. -/
def fnExactValidDropsSpec : ChangeSpec := { name := "fnExactValidDrops", fn := fun _ => fun
  | [d1, d2] => { results := [.lit (.bool true)], args := [d1, d2] }
  | _ => none }
def fnExactValidDropsRow : OpenClaim := { program := "ytamljpeicecbjaa", sum := "3e0ad477342b62a8db992f5b5e8cfd3d0270e5d96f5587f08509bd7fdf57b66a", func := "loop.example/g01213/laws.FnExactValidDrops", spec := "fnExactValidDrops", inPlace := ["math.Float64bits", "math.Float64frombits"], unfollowed := true, recurses := true, apart := false }
def FnExactValidDropsSaid : Prop := fnExactValidDropsRow.holds Try.pinned (OpenSpec.ofChange fnExactValidDropsSpec)

/-- ITS FALSE NEIGHBOUR: 'it returns false'. Refute it at one input. -/
def fnExactValidDropsWrong : ChangeSpec := { name := "fnExactValidDrops", fn := fun _ => fun
  | [d1, d2] => { results := [.lit (.bool false)], args := [d1, d2] }
  | _ => none }
def FnExactValidDropsWrongFalsely : Prop := fnExactValidDropsRow.holds Try.pinned (OpenSpec.ofChange fnExactValidDropsWrong)

/-- 'laws.FnExactCostOfDrops': WHATEVER THE INPUT: true; the input reads as it did. -/
def fnExactCostOfDropsSpec : ChangeSpec := { name := "fnExactCostOfDrops", fn := fun _ => fun
  | [d1, d2] => { results := [.lit (.bool true)], args := [d1, d2] }
  | _ => none }
def fnExactCostOfDropsRow : OpenClaim := { program := "ytamljpeicecbjaa", sum := "3e0ad477342b62a8db992f5b5e8cfd3d0270e5d96f5587f08509bd7fdf57b66a", func := "loop.example/g01213/laws.FnExactCostOfDrops", spec := "fnExactCostOfDrops", inPlace := ["math.Float64bits", "math.Float64frombits"], unfollowed := true, recurses := true, apart := false }
def FnExactCostOfDropsSaid : Prop := fnExactCostOfDropsRow.holds Try.pinned (OpenSpec.ofChange fnExactCostOfDropsSpec)

/-- ITS FALSE NEIGHBOUR: 'it returns false'. Refute it at one input. -/
def fnExactCostOfDropsWrong : ChangeSpec := { name := "fnExactCostOfDrops", fn := fun _ => fun
  | [d1, d2] => { results := [.lit (.bool false)], args := [d1, d2] }
  | _ => none }
def FnExactCostOfDropsWrongFalsely : Prop := fnExactCostOfDropsRow.holds Try.pinned (OpenSpec.ofChange fnExactCostOfDropsWrong)

/-- 'laws.FnExactTimesInTins': WHATEVER THE INPUT: true; the input reads as it did. -/
def fnExactTimesInTinsSpec : ChangeSpec := { name := "fnExactTimesInTins", fn := fun _ => fun
  | [d1, d2] => { results := [.lit (.bool true)], args := [d1, d2] }
  | _ => none }
def fnExactTimesInTinsRow : OpenClaim := { program := "ytamljpeicecbjaa", sum := "3e0ad477342b62a8db992f5b5e8cfd3d0270e5d96f5587f08509bd7fdf57b66a", func := "loop.example/g01213/laws.FnExactTimesInTins", spec := "fnExactTimesInTins", inPlace := ["math.Float64bits", "math.Float64frombits"], unfollowed := true, recurses := true, apart := false }
def FnExactTimesInTinsSaid : Prop := fnExactTimesInTinsRow.holds Try.pinned (OpenSpec.ofChange fnExactTimesInTinsSpec)

/-- ITS FALSE NEIGHBOUR: 'it returns false'. Refute it at one input. -/
def fnExactTimesInTinsWrong : ChangeSpec := { name := "fnExactTimesInTins", fn := fun _ => fun
  | [d1, d2] => { results := [.lit (.bool false)], args := [d1, d2] }
  | _ => none }
def FnExactTimesInTinsWrongFalsely : Prop := fnExactTimesInTinsRow.holds Try.pinned (OpenSpec.ofChange fnExactTimesInTinsWrong)

/-- 'laws.FnExactPartsOf': WHATEVER THE INPUT: true; the input reads as it did. -/
def fnExactPartsOfSpec : ChangeSpec := { name := "fnExactPartsOf", fn := fun _ => fun
  | [d1, d2] => { results := [.lit (.bool true)], args := [d1, d2] }
  | _ => none }
def fnExactPartsOfRow : OpenClaim := { program := "ytamljpeicecbjaa", sum := "3e0ad477342b62a8db992f5b5e8cfd3d0270e5d96f5587f08509bd7fdf57b66a", func := "loop.example/g01213/laws.FnExactPartsOf", spec := "fnExactPartsOf", inPlace := ["math.Float64bits", "math.Float64frombits"], unfollowed := true, recurses := true, apart := false }
def FnExactPartsOfSaid : Prop := fnExactPartsOfRow.holds Try.pinned (OpenSpec.ofChange fnExactPartsOfSpec)

/-- ITS FALSE NEIGHBOUR: 'it returns false'. Refute it at one input. -/
def fnExactPartsOfWrong : ChangeSpec := { name := "fnExactPartsOf", fn := fun _ => fun
  | [d1, d2] => { results := [.lit (.bool false)], args := [d1, d2] }
  | _ => none }
def FnExactPartsOfWrongFalsely : Prop := fnExactPartsOfRow.holds Try.pinned (OpenSpec.ofChange fnExactPartsOfWrong)

/-- 'laws.FnExactReduceDrops': WHATEVER THE INPUT: true; the input reads as it did. -/
def fnExactReduceDropsSpec : ChangeSpec := { name := "fnExactReduceDrops", fn := fun _ => fun
  | [d1, d2] => { results := [.lit (.bool true)], args := [d1, d2] }
  | _ => none }
def fnExactReduceDropsRow : OpenClaim := { program := "ytamljpeicecbjaa", sum := "3e0ad477342b62a8db992f5b5e8cfd3d0270e5d96f5587f08509bd7fdf57b66a", func := "loop.example/g01213/laws.FnExactReduceDrops", spec := "fnExactReduceDrops", inPlace := ["math.Float64bits", "math.Float64frombits"], unfollowed := true, recurses := true, apart := false }
def FnExactReduceDropsSaid : Prop := fnExactReduceDropsRow.holds Try.pinned (OpenSpec.ofChange fnExactReduceDropsSpec)

/-- ITS FALSE NEIGHBOUR: 'it returns false'. Refute it at one input. -/
def fnExactReduceDropsWrong : ChangeSpec := { name := "fnExactReduceDrops", fn := fun _ => fun
  | [d1, d2] => { results := [.lit (.bool false)], args := [d1, d2] }
  | _ => none }
def FnExactReduceDropsWrongFalsely : Prop := fnExactReduceDropsRow.holds Try.pinned (OpenSpec.ofChange fnExactReduceDropsWrong)

/-- 'laws.FnExactAddDrops': WHATEVER THE INPUT: true; the input reads as it did. -/
def fnExactAddDropsSpec : ChangeSpec := { name := "fnExactAddDrops", fn := fun _ => fun
  | [d1, d2, d3] => { results := [.lit (.bool true)], args := [d1, d2, d3] }
  | _ => none }
def fnExactAddDropsRow : OpenClaim := { program := "ytamljpeicecbjaa", sum := "3e0ad477342b62a8db992f5b5e8cfd3d0270e5d96f5587f08509bd7fdf57b66a", func := "loop.example/g01213/laws.FnExactAddDrops", spec := "fnExactAddDrops", inPlace := ["math.Float64bits", "math.Float64frombits"], unfollowed := true, recurses := true, apart := false }
def FnExactAddDropsSaid : Prop := fnExactAddDropsRow.holds Try.pinned (OpenSpec.ofChange fnExactAddDropsSpec)

/-- ITS FALSE NEIGHBOUR: 'it returns false'. Refute it at one input. -/
def fnExactAddDropsWrong : ChangeSpec := { name := "fnExactAddDrops", fn := fun _ => fun
  | [d1, d2, d3] => { results := [.lit (.bool false)], args := [d1, d2, d3] }
  | _ => none }
def FnExactAddDropsWrongFalsely : Prop := fnExactAddDropsRow.holds Try.pinned (OpenSpec.ofChange fnExactAddDropsWrong)

/-- 'laws.FnExactScaleDrops': WHATEVER THE INPUT: true; the input reads as it did. -/
def fnExactScaleDropsSpec : ChangeSpec := { name := "fnExactScaleDrops", fn := fun _ => fun
  | [d1, d2, d3] => { results := [.lit (.bool true)], args := [d1, d2, d3] }
  | _ => none }
def fnExactScaleDropsRow : OpenClaim := { program := "ytamljpeicecbjaa", sum := "3e0ad477342b62a8db992f5b5e8cfd3d0270e5d96f5587f08509bd7fdf57b66a", func := "loop.example/g01213/laws.FnExactScaleDrops", spec := "fnExactScaleDrops", inPlace := ["math.Float64bits", "math.Float64frombits"], unfollowed := true, recurses := true, apart := false }
def FnExactScaleDropsSaid : Prop := fnExactScaleDropsRow.holds Try.pinned (OpenSpec.ofChange fnExactScaleDropsSpec)

/-- ITS FALSE NEIGHBOUR: 'it returns false'. Refute it at one input. -/
def fnExactScaleDropsWrong : ChangeSpec := { name := "fnExactScaleDrops", fn := fun _ => fun
  | [d1, d2, d3] => { results := [.lit (.bool false)], args := [d1, d2, d3] }
  | _ => none }
def FnExactScaleDropsWrongFalsely : Prop := fnExactScaleDropsRow.holds Try.pinned (OpenSpec.ofChange fnExactScaleDropsWrong)

/-- 'laws.FnExactShiftParts': WHATEVER THE INPUT: true; the input reads as it did. -/
def fnExactShiftPartsSpec : ChangeSpec := { name := "fnExactShiftParts", fn := fun _ => fun
  | [d1, d2, d3, d4, d5] => { results := [.lit (.bool true)], args := [d1, d2, d3, d4, d5] }
  | _ => none }
def fnExactShiftPartsRow : OpenClaim := { program := "ytamljpeicecbjaa", sum := "3e0ad477342b62a8db992f5b5e8cfd3d0270e5d96f5587f08509bd7fdf57b66a", func := "loop.example/g01213/laws.FnExactShiftParts", spec := "fnExactShiftParts", inPlace := ["math.Float64bits", "math.Float64frombits"], unfollowed := true, recurses := true, apart := false }
def FnExactShiftPartsSaid : Prop := fnExactShiftPartsRow.holds Try.pinned (OpenSpec.ofChange fnExactShiftPartsSpec)

/-- ITS FALSE NEIGHBOUR: 'it returns false'. Refute it at one input. -/
def fnExactShiftPartsWrong : ChangeSpec := { name := "fnExactShiftParts", fn := fun _ => fun
  | [d1, d2, d3, d4, d5] => { results := [.lit (.bool false)], args := [d1, d2, d3, d4, d5] }
  | _ => none }
def FnExactShiftPartsWrongFalsely : Prop := fnExactShiftPartsRow.holds Try.pinned (OpenSpec.ofChange fnExactShiftPartsWrong)

/-- 'laws.FnExactMixParts': WHATEVER THE INPUT: true; the input reads as it did. -/
def fnExactMixPartsSpec : ChangeSpec := { name := "fnExactMixParts", fn := fun _ => fun
  | [d1, d2] => { results := [.lit (.bool true)], args := [d1, d2] }
  | _ => none }
def fnExactMixPartsRow : OpenClaim := { program := "ytamljpeicecbjaa", sum := "3e0ad477342b62a8db992f5b5e8cfd3d0270e5d96f5587f08509bd7fdf57b66a", func := "loop.example/g01213/laws.FnExactMixParts", spec := "fnExactMixParts", inPlace := ["math.Float64bits", "math.Float64frombits"], unfollowed := true, recurses := true, apart := false }
def FnExactMixPartsSaid : Prop := fnExactMixPartsRow.holds Try.pinned (OpenSpec.ofChange fnExactMixPartsSpec)

/-- ITS FALSE NEIGHBOUR: 'it returns false'. Refute it at one input. -/
def fnExactMixPartsWrong : ChangeSpec := { name := "fnExactMixParts", fn := fun _ => fun
  | [d1, d2] => { results := [.lit (.bool false)], args := [d1, d2] }
  | _ => none }
def FnExactMixPartsWrongFalsely : Prop := fnExactMixPartsRow.holds Try.pinned (OpenSpec.ofChange fnExactMixPartsWrong)

/-- 'laws.FnExactFillTin': WHATEVER THE INPUT: true; the input reads as it did. -/
def fnExactFillTinSpec : ChangeSpec := { name := "fnExactFillTin", fn := fun _ => fun
  | [d1, d2, d3] => { results := [.lit (.bool true)], args := [d1, d2, d3] }
  | _ => none }
def fnExactFillTinRow : OpenClaim := { program := "ytamljpeicecbjaa", sum := "3e0ad477342b62a8db992f5b5e8cfd3d0270e5d96f5587f08509bd7fdf57b66a", func := "loop.example/g01213/laws.FnExactFillTin", spec := "fnExactFillTin", inPlace := ["math.Float64bits", "math.Float64frombits"], unfollowed := true, recurses := true, apart := false }
def FnExactFillTinSaid : Prop := fnExactFillTinRow.holds Try.pinned (OpenSpec.ofChange fnExactFillTinSpec)

/-- ITS FALSE NEIGHBOUR: 'it returns false'. Refute it at one input. -/
def fnExactFillTinWrong : ChangeSpec := { name := "fnExactFillTin", fn := fun _ => fun
  | [d1, d2, d3] => { results := [.lit (.bool false)], args := [d1, d2, d3] }
  | _ => none }
def FnExactFillTinWrongFalsely : Prop := fnExactFillTinRow.holds Try.pinned (OpenSpec.ofChange fnExactFillTinWrong)

/-- 'laws.FnExactArePair': WHATEVER THE INPUT: true; the input reads as it did. -/
def fnExactArePairSpec : ChangeSpec := { name := "fnExactArePair", fn := fun _ => fun
  | [d1, d2, d3, d4, d5, d6] => { results := [.lit (.bool true)], args := [d1, d2, d3, d4, d5, d6] }
  | _ => none }
def fnExactArePairRow : OpenClaim := { program := "ytamljpeicecbjaa", sum := "3e0ad477342b62a8db992f5b5e8cfd3d0270e5d96f5587f08509bd7fdf57b66a", func := "loop.example/g01213/laws.FnExactArePair", spec := "fnExactArePair", inPlace := ["math.sqrt", "math.Float64bits", "math.Float64frombits"], unfollowed := true, recurses := true, apart := false }
def FnExactArePairSaid : Prop := fnExactArePairRow.holds Try.pinned (OpenSpec.ofChange fnExactArePairSpec)

/-- ITS FALSE NEIGHBOUR: 'it returns false'. Refute it at one input. -/
def fnExactArePairWrong : ChangeSpec := { name := "fnExactArePair", fn := fun _ => fun
  | [d1, d2, d3, d4, d5, d6] => { results := [.lit (.bool false)], args := [d1, d2, d3, d4, d5, d6] }
  | _ => none }
def FnExactArePairWrongFalsely : Prop := fnExactArePairRow.holds Try.pinned (OpenSpec.ofChange fnExactArePairWrong)

/-- 'laws.FnExactMixDrops': WHATEVER THE INPUT: true; the input reads as it did. -/
def fnExactMixDropsSpec : ChangeSpec := { name := "fnExactMixDrops", fn := fun _ => fun
  | [d1, d2] => { results := [.lit (.bool true)], args := [d1, d2] }
  | _ => none }
def fnExactMixDropsRow : OpenClaim := { program := "ytamljpeicecbjaa", sum := "3e0ad477342b62a8db992f5b5e8cfd3d0270e5d96f5587f08509bd7fdf57b66a", func := "loop.example/g01213/laws.FnExactMixDrops", spec := "fnExactMixDrops", inPlace := ["math.Float64bits", "math.Float64frombits"], unfollowed := true, recurses := true, apart := false }
def FnExactMixDropsSaid : Prop := fnExactMixDropsRow.holds Try.pinned (OpenSpec.ofChange fnExactMixDropsSpec)

/-- ITS FALSE NEIGHBOUR: 'it returns false'. Refute it at one input. -/
def fnExactMixDropsWrong : ChangeSpec := { name := "fnExactMixDrops", fn := fun _ => fun
  | [d1, d2] => { results := [.lit (.bool false)], args := [d1, d2] }
  | _ => none }
def FnExactMixDropsWrongFalsely : Prop := fnExactMixDropsRow.holds Try.pinned (OpenSpec.ofChange fnExactMixDropsWrong)

/-- 'laws.FnExactDropsBeside': WHATEVER THE INPUT: true; the input reads as it did. -/
def fnExactDropsBesideSpec : ChangeSpec := { name := "fnExactDropsBeside", fn := fun _ => fun
  | [d1, d2] => { results := [.lit (.bool true)], args := [d1, d2] }
  | _ => none }
def fnExactDropsBesideRow : OpenClaim := { program := "ytamljpeicecbjaa", sum := "3e0ad477342b62a8db992f5b5e8cfd3d0270e5d96f5587f08509bd7fdf57b66a", func := "loop.example/g01213/laws.FnExactDropsBeside", spec := "fnExactDropsBeside", inPlace := ["math.Float64bits", "math.Float64frombits"], unfollowed := true, recurses := true, apart := false }
def FnExactDropsBesideSaid : Prop := fnExactDropsBesideRow.holds Try.pinned (OpenSpec.ofChange fnExactDropsBesideSpec)

/-- ITS FALSE NEIGHBOUR: 'it returns false'. Refute it at one input. -/
def fnExactDropsBesideWrong : ChangeSpec := { name := "fnExactDropsBeside", fn := fun _ => fun
  | [d1, d2] => { results := [.lit (.bool false)], args := [d1, d2] }
  | _ => none }
def FnExactDropsBesideWrongFalsely : Prop := fnExactDropsBesideRow.holds Try.pinned (OpenSpec.ofChange fnExactDropsBesideWrong)

/-- 'laws.FnExactTakeDrops': WHATEVER THE INPUT: true; the input reads as it did. -/
def fnExactTakeDropsSpec : ChangeSpec := { name := "fnExactTakeDrops", fn := fun _ => fun
  | [d1, d2] => { results := [.lit (.bool true)], args := [d1, d2] }
  | _ => none }
def fnExactTakeDropsRow : OpenClaim := { program := "ytamljpeicecbjaa", sum := "3e0ad477342b62a8db992f5b5e8cfd3d0270e5d96f5587f08509bd7fdf57b66a", func := "loop.example/g01213/laws.FnExactTakeDrops", spec := "fnExactTakeDrops", inPlace := ["math.Float64bits", "math.Float64frombits"], unfollowed := true, recurses := true, apart := false }
def FnExactTakeDropsSaid : Prop := fnExactTakeDropsRow.holds Try.pinned (OpenSpec.ofChange fnExactTakeDropsSpec)

/-- ITS FALSE NEIGHBOUR: 'it returns false'. Refute it at one input. -/
def fnExactTakeDropsWrong : ChangeSpec := { name := "fnExactTakeDrops", fn := fun _ => fun
  | [d1, d2] => { results := [.lit (.bool false)], args := [d1, d2] }
  | _ => none }
def FnExactTakeDropsWrongFalsely : Prop := fnExactTakeDropsRow.holds Try.pinned (OpenSpec.ofChange fnExactTakeDropsWrong)

/-- 'laws.FnExactDropsFor': WHATEVER THE INPUT: true; the input reads as it did. -/
def fnExactDropsForSpec : ChangeSpec := { name := "fnExactDropsFor", fn := fun _ => fun
  | [d1, d2, d3] => { results := [.lit (.bool true)], args := [d1, d2, d3] }
  | _ => none }
def fnExactDropsForRow : OpenClaim := { program := "ytamljpeicecbjaa", sum := "3e0ad477342b62a8db992f5b5e8cfd3d0270e5d96f5587f08509bd7fdf57b66a", func := "loop.example/g01213/laws.FnExactDropsFor", spec := "fnExactDropsFor", inPlace := ["math.archFloor", "math.Float64bits", "math.Float64frombits", "math.archTrunc"], unfollowed := true, recurses := true, apart := false }
def FnExactDropsForSaid : Prop := fnExactDropsForRow.holds Try.pinned (OpenSpec.ofChange fnExactDropsForSpec)

/-- ITS FALSE NEIGHBOUR: 'it returns false'. Refute it at one input. -/
def fnExactDropsForWrong : ChangeSpec := { name := "fnExactDropsFor", fn := fun _ => fun
  | [d1, d2, d3] => { results := [.lit (.bool false)], args := [d1, d2, d3] }
  | _ => none }
def FnExactDropsForWrongFalsely : Prop := fnExactDropsForRow.holds Try.pinned (OpenSpec.ofChange fnExactDropsForWrong)

/-- 'laws.FnExactNearestPigment': WHATEVER THE INPUT: true; the input reads as it did. -/
def fnExactNearestPigmentSpec : ChangeSpec := { name := "fnExactNearestPigment", fn := fun _ => fun
  | [d1, d2] => { results := [.lit (.bool true)], args := [d1, d2] }
  | _ => none }
def fnExactNearestPigmentRow : OpenClaim := { program := "ytamljpeicecbjaa", sum := "3e0ad477342b62a8db992f5b5e8cfd3d0270e5d96f5587f08509bd7fdf57b66a", func := "loop.example/g01213/laws.FnExactNearestPigment", spec := "fnExactNearestPigment", inPlace := ["math.sqrt", "math.Float64bits", "math.Float64frombits"], unfollowed := true, recurses := true, apart := false }
def FnExactNearestPigmentSaid : Prop := fnExactNearestPigmentRow.holds Try.pinned (OpenSpec.ofChange fnExactNearestPigmentSpec)

/-- ITS FALSE NEIGHBOUR: 'it returns false'. Refute it at one input. -/
def fnExactNearestPigmentWrong : ChangeSpec := { name := "fnExactNearestPigment", fn := fun _ => fun
  | [d1, d2] => { results := [.lit (.bool false)], args := [d1, d2] }
  | _ => none }
def FnExactNearestPigmentWrongFalsely : Prop := fnExactNearestPigmentRow.holds Try.pinned (OpenSpec.ofChange fnExactNearestPigmentWrong)

/-- 'laws.FnExactWorstLight': WHATEVER THE INPUT: true; the input reads as it did. -/
def fnExactWorstLightSpec : ChangeSpec := { name := "fnExactWorstLight", fn := fun _ => fun
  | [d1, d2, d3] => { results := [.lit (.bool true)], args := [d1, d2, d3] }
  | _ => none }
def fnExactWorstLightRow : OpenClaim := { program := "ytamljpeicecbjaa", sum := "3e0ad477342b62a8db992f5b5e8cfd3d0270e5d96f5587f08509bd7fdf57b66a", func := "loop.example/g01213/laws.FnExactWorstLight", spec := "fnExactWorstLight", inPlace := ["math.sqrt", "math.Float64bits", "math.Float64frombits"], unfollowed := true, recurses := true, apart := false }
def FnExactWorstLightSaid : Prop := fnExactWorstLightRow.holds Try.pinned (OpenSpec.ofChange fnExactWorstLightSpec)

/-- ITS FALSE NEIGHBOUR: 'it returns false'. Refute it at one input. -/
def fnExactWorstLightWrong : ChangeSpec := { name := "fnExactWorstLight", fn := fun _ => fun
  | [d1, d2, d3] => { results := [.lit (.bool false)], args := [d1, d2, d3] }
  | _ => none }
def FnExactWorstLightWrongFalsely : Prop := fnExactWorstLightRow.holds Try.pinned (OpenSpec.ofChange fnExactWorstLightWrong)

/-- 'laws.FnExactUnlikeUnder': WHATEVER THE INPUT: true; the input reads as it did. -/
def fnExactUnlikeUnderSpec : ChangeSpec := { name := "fnExactUnlikeUnder", fn := fun _ => fun
  | [d1, d2, d3] => { results := [.lit (.bool true)], args := [d1, d2, d3] }
  | _ => none }
def fnExactUnlikeUnderRow : OpenClaim := { program := "ytamljpeicecbjaa", sum := "3e0ad477342b62a8db992f5b5e8cfd3d0270e5d96f5587f08509bd7fdf57b66a", func := "loop.example/g01213/laws.FnExactUnlikeUnder", spec := "fnExactUnlikeUnder", inPlace := ["math.sqrt", "math.Float64bits", "math.Float64frombits"], unfollowed := true, recurses := true, apart := false }
def FnExactUnlikeUnderSaid : Prop := fnExactUnlikeUnderRow.holds Try.pinned (OpenSpec.ofChange fnExactUnlikeUnderSpec)

/-- ITS FALSE NEIGHBOUR: 'it returns false'. Refute it at one input. -/
def fnExactUnlikeUnderWrong : ChangeSpec := { name := "fnExactUnlikeUnder", fn := fun _ => fun
  | [d1, d2, d3] => { results := [.lit (.bool false)], args := [d1, d2, d3] }
  | _ => none }
def FnExactUnlikeUnderWrongFalsely : Prop := fnExactUnlikeUnderRow.holds Try.pinned (OpenSpec.ofChange fnExactUnlikeUnderWrong)

/-- 'laws.FnExactCurveOfParts': WHATEVER THE INPUT: true; the input reads as it did. -/
def fnExactCurveOfPartsSpec : ChangeSpec := { name := "fnExactCurveOfParts", fn := fun _ => fun
  | [d1, d2] => { results := [.lit (.bool true)], args := [d1, d2] }
  | _ => none }
def fnExactCurveOfPartsRow : OpenClaim := { program := "ytamljpeicecbjaa", sum := "3e0ad477342b62a8db992f5b5e8cfd3d0270e5d96f5587f08509bd7fdf57b66a", func := "loop.example/g01213/laws.FnExactCurveOfParts", spec := "fnExactCurveOfParts", inPlace := ["math.sqrt", "math.Float64bits", "math.Float64frombits"], unfollowed := true, recurses := true, apart := false }
def FnExactCurveOfPartsSaid : Prop := fnExactCurveOfPartsRow.holds Try.pinned (OpenSpec.ofChange fnExactCurveOfPartsSpec)

/-- ITS FALSE NEIGHBOUR: 'it returns false'. Refute it at one input. -/
def fnExactCurveOfPartsWrong : ChangeSpec := { name := "fnExactCurveOfParts", fn := fun _ => fun
  | [d1, d2] => { results := [.lit (.bool false)], args := [d1, d2] }
  | _ => none }
def FnExactCurveOfPartsWrongFalsely : Prop := fnExactCurveOfPartsRow.holds Try.pinned (OpenSpec.ofChange fnExactCurveOfPartsWrong)

/-- 'laws.FnExactPaintOf': WHATEVER THE INPUT: true; the input reads as it did. -/
def fnExactPaintOfSpec : ChangeSpec := { name := "fnExactPaintOf", fn := fun _ => fun
  | [d1, d2] => { results := [.lit (.bool true)], args := [d1, d2] }
  | _ => none }
def fnExactPaintOfRow : OpenClaim := { program := "ytamljpeicecbjaa", sum := "3e0ad477342b62a8db992f5b5e8cfd3d0270e5d96f5587f08509bd7fdf57b66a", func := "loop.example/g01213/laws.FnExactPaintOf", spec := "fnExactPaintOf", inPlace := ["math.sqrt", "math.Float64bits", "math.Float64frombits"], unfollowed := true, recurses := true, apart := false }
def FnExactPaintOfSaid : Prop := fnExactPaintOfRow.holds Try.pinned (OpenSpec.ofChange fnExactPaintOfSpec)

/-- ITS FALSE NEIGHBOUR: 'it returns false'. Refute it at one input. -/
def fnExactPaintOfWrong : ChangeSpec := { name := "fnExactPaintOf", fn := fun _ => fun
  | [d1, d2] => { results := [.lit (.bool false)], args := [d1, d2] }
  | _ => none }
def FnExactPaintOfWrongFalsely : Prop := fnExactPaintOfRow.holds Try.pinned (OpenSpec.ofChange fnExactPaintOfWrong)

/-- 'laws.FnExactLadderOf': WHATEVER THE INPUT: true; the input reads as it did. -/
def fnExactLadderOfSpec : ChangeSpec := { name := "fnExactLadderOf", fn := fun _ => fun
  | [d1, d2, d3, d4] => { results := [.lit (.bool true)], args := [d1, d2, d3, d4] }
  | _ => none }
def fnExactLadderOfRow : OpenClaim := { program := "ytamljpeicecbjaa", sum := "3e0ad477342b62a8db992f5b5e8cfd3d0270e5d96f5587f08509bd7fdf57b66a", func := "loop.example/g01213/laws.FnExactLadderOf", spec := "fnExactLadderOf", inPlace := ["math.sqrt", "math.Float64bits", "math.Float64frombits"], unfollowed := true, recurses := true, apart := false }
def FnExactLadderOfSaid : Prop := fnExactLadderOfRow.holds Try.pinned (OpenSpec.ofChange fnExactLadderOfSpec)

/-- ITS FALSE NEIGHBOUR: 'it returns false'. Refute it at one input. -/
def fnExactLadderOfWrong : ChangeSpec := { name := "fnExactLadderOf", fn := fun _ => fun
  | [d1, d2, d3, d4] => { results := [.lit (.bool false)], args := [d1, d2, d3, d4] }
  | _ => none }
def FnExactLadderOfWrongFalsely : Prop := fnExactLadderOfRow.holds Try.pinned (OpenSpec.ofChange fnExactLadderOfWrong)

/-- 'laws.FnExactOffOfParts': WHATEVER THE INPUT: true; the input reads as it did. -/
def fnExactOffOfPartsSpec : ChangeSpec := { name := "fnExactOffOfParts", fn := fun _ => fun
  | [d1, d2, d3] => { results := [.lit (.bool true)], args := [d1, d2, d3] }
  | _ => none }
def fnExactOffOfPartsRow : OpenClaim := { program := "ytamljpeicecbjaa", sum := "3e0ad477342b62a8db992f5b5e8cfd3d0270e5d96f5587f08509bd7fdf57b66a", func := "loop.example/g01213/laws.FnExactOffOfParts", spec := "fnExactOffOfParts", inPlace := ["math.sqrt", "math.Float64bits", "math.Float64frombits"], unfollowed := true, recurses := true, apart := false }
def FnExactOffOfPartsSaid : Prop := fnExactOffOfPartsRow.holds Try.pinned (OpenSpec.ofChange fnExactOffOfPartsSpec)

/-- ITS FALSE NEIGHBOUR: 'it returns false'. Refute it at one input. -/
def fnExactOffOfPartsWrong : ChangeSpec := { name := "fnExactOffOfParts", fn := fun _ => fun
  | [d1, d2, d3] => { results := [.lit (.bool false)], args := [d1, d2, d3] }
  | _ => none }
def FnExactOffOfPartsWrongFalsely : Prop := fnExactOffOfPartsRow.holds Try.pinned (OpenSpec.ofChange fnExactOffOfPartsWrong)

/-- 'laws.FnExactOffOfDrops': WHATEVER THE INPUT: true; the input reads as it did. -/
def fnExactOffOfDropsSpec : ChangeSpec := { name := "fnExactOffOfDrops", fn := fun _ => fun
  | [d1, d2, d3] => { results := [.lit (.bool true)], args := [d1, d2, d3] }
  | _ => none }
def fnExactOffOfDropsRow : OpenClaim := { program := "ytamljpeicecbjaa", sum := "3e0ad477342b62a8db992f5b5e8cfd3d0270e5d96f5587f08509bd7fdf57b66a", func := "loop.example/g01213/laws.FnExactOffOfDrops", spec := "fnExactOffOfDrops", inPlace := ["math.sqrt", "math.Float64bits", "math.Float64frombits"], unfollowed := true, recurses := true, apart := false }
def FnExactOffOfDropsSaid : Prop := fnExactOffOfDropsRow.holds Try.pinned (OpenSpec.ofChange fnExactOffOfDropsSpec)

/-- ITS FALSE NEIGHBOUR: 'it returns false'. Refute it at one input. -/
def fnExactOffOfDropsWrong : ChangeSpec := { name := "fnExactOffOfDrops", fn := fun _ => fun
  | [d1, d2, d3] => { results := [.lit (.bool false)], args := [d1, d2, d3] }
  | _ => none }
def FnExactOffOfDropsWrongFalsely : Prop := fnExactOffOfDropsRow.holds Try.pinned (OpenSpec.ofChange fnExactOffOfDropsWrong)

/-- 'laws.FnExactIsMatched': WHATEVER THE INPUT: true; the input reads as it did. -/
def fnExactIsMatchedSpec : ChangeSpec := { name := "fnExactIsMatched", fn := fun _ => fun
  | [d1, d2, d3, d4] => { results := [.lit (.bool true)], args := [d1, d2, d3, d4] }
  | _ => none }
def fnExactIsMatchedRow : OpenClaim := { program := "ytamljpeicecbjaa", sum := "3e0ad477342b62a8db992f5b5e8cfd3d0270e5d96f5587f08509bd7fdf57b66a", func := "loop.example/g01213/laws.FnExactIsMatched", spec := "fnExactIsMatched", inPlace := ["math.sqrt", "math.Float64bits", "math.Float64frombits"], unfollowed := true, recurses := true, apart := false }
def FnExactIsMatchedSaid : Prop := fnExactIsMatchedRow.holds Try.pinned (OpenSpec.ofChange fnExactIsMatchedSpec)

/-- ITS FALSE NEIGHBOUR: 'it returns false'. Refute it at one input. -/
def fnExactIsMatchedWrong : ChangeSpec := { name := "fnExactIsMatched", fn := fun _ => fun
  | [d1, d2, d3, d4] => { results := [.lit (.bool false)], args := [d1, d2, d3, d4] }
  | _ => none }
def FnExactIsMatchedWrongFalsely : Prop := fnExactIsMatchedRow.holds Try.pinned (OpenSpec.ofChange fnExactIsMatchedWrong)

/-- 'laws.FnExactMatchCurve': WHATEVER THE INPUT: true; the input reads as it did. -/
def fnExactMatchCurveSpec : ChangeSpec := { name := "fnExactMatchCurve", fn := fun _ => fun
  | [d1, d2, d3] => { results := [.lit (.bool true)], args := [d1, d2, d3] }
  | _ => none }
def fnExactMatchCurveRow : OpenClaim := { program := "ytamljpeicecbjaa", sum := "3e0ad477342b62a8db992f5b5e8cfd3d0270e5d96f5587f08509bd7fdf57b66a", func := "loop.example/g01213/laws.FnExactMatchCurve", spec := "fnExactMatchCurve", inPlace := ["math.sqrt", "math.Float64bits", "math.Float64frombits"], unfollowed := true, recurses := true, apart := false }
def FnExactMatchCurveSaid : Prop := fnExactMatchCurveRow.holds Try.pinned (OpenSpec.ofChange fnExactMatchCurveSpec)

/-- ITS FALSE NEIGHBOUR: 'it returns false'. Refute it at one input. -/
def fnExactMatchCurveWrong : ChangeSpec := { name := "fnExactMatchCurve", fn := fun _ => fun
  | [d1, d2, d3] => { results := [.lit (.bool false)], args := [d1, d2, d3] }
  | _ => none }
def FnExactMatchCurveWrongFalsely : Prop := fnExactMatchCurveRow.holds Try.pinned (OpenSpec.ofChange fnExactMatchCurveWrong)

/- THE SECOND FORM. 'bulk': how many values and letters a reading holds, each counted each time it is reached (what is shared counts as often as it is met; a slice's spare places count too). A statement '..UptoSaid' is the law's where the arguments, and the package variables that the reading takes, are together of bulk at most 1048576: NARROWER than '..Said'. Prove '..Said' where nothing that the law and all that it calls make is longer than what came in: it says more and counts as full. Else prove '..UptoSaid'. A law counts once. -/
mutual
def uptoBulk {H : Type} : DataW H → Nat
  | .lit (.string bytes) => bytes.length + 1
  | .lit _ => 1
  | .nil => 1
  | .ptr d => uptoBulk d + 1
  | .slice elems spare => uptoBulkAll elems + uptoBulkAll spare + 1
  | .agg parts => uptoBulkAll parts + 1
  | .iface _ d => uptoBulk d + 1
  | .map entries => uptoBulkEntries entries + 1
  | .held _ => 1
def uptoBulkAll {H : Type} : List (DataW H) → Nat
  | [] => 0
  | d :: r => uptoBulk d + uptoBulkAll r
def uptoBulkEntries {H : Type} : List (Lit × DataW H) → Nat
  | [] => 0
  | x :: r => uptoBulkEntry x + uptoBulkEntries r
def uptoBulkEntry {H : Type} : Lit × DataW H → Nat
  | (.string bytes, d) => bytes.length + uptoBulk d + 1
  | (_, d) => uptoBulk d + 1
 end
def uptoSmall : (H : Type) → List (DataW H) → Bool := fun _ ds => decide (uptoBulkAll ds ≤ 1048576)
def OpenSpec.upto (s : _root_.Go.ChangeSpec) : _root_.Go.OpenSpec := { _root_.Go.OpenSpec.ofChange s with cond := some uptoSmall }

/-- 'laws.FnExactValidPigment', WHERE WHAT IT READS IS OF BULK AT MOST 1048576: true; the input reads as it did. -/
def fnExactValidPigmentUptoRow : OpenClaim := { program := "ytamljpeicecbjaa", sum := "3e0ad477342b62a8db992f5b5e8cfd3d0270e5d96f5587f08509bd7fdf57b66a", func := "loop.example/g01213/laws.FnExactValidPigment", spec := "fnExactValidPigment", inPlace := ["math.Float64bits", "math.Float64frombits"], unfollowed := true, recurses := true, apart := false, narrowed := true }
def FnExactValidPigmentUptoSaid : Prop := fnExactValidPigmentUptoRow.holds Try.pinned (OpenSpec.upto fnExactValidPigmentSpec)

/-- 'laws.FnExactSameShelf', WHERE WHAT IT READS IS OF BULK AT MOST 1048576: true; the input reads as it did. -/
def fnExactSameShelfUptoRow : OpenClaim := { program := "ytamljpeicecbjaa", sum := "3e0ad477342b62a8db992f5b5e8cfd3d0270e5d96f5587f08509bd7fdf57b66a", func := "loop.example/g01213/laws.FnExactSameShelf", spec := "fnExactSameShelf", inPlace := ["math.Float32bits"], unfollowed := true, recurses := true, apart := false, narrowed := true }
def FnExactSameShelfUptoSaid : Prop := fnExactSameShelfUptoRow.holds Try.pinned (OpenSpec.upto fnExactSameShelfSpec)

/-- 'laws.FnExactValidShelf', WHERE WHAT IT READS IS OF BULK AT MOST 1048576: true; the input reads as it did. -/
def fnExactValidShelfUptoRow : OpenClaim := { program := "ytamljpeicecbjaa", sum := "3e0ad477342b62a8db992f5b5e8cfd3d0270e5d96f5587f08509bd7fdf57b66a", func := "loop.example/g01213/laws.FnExactValidShelf", spec := "fnExactValidShelf", inPlace := ["math.Float64bits", "math.Float64frombits"], unfollowed := true, recurses := true, apart := false, narrowed := true }
def FnExactValidShelfUptoSaid : Prop := fnExactValidShelfUptoRow.holds Try.pinned (OpenSpec.upto fnExactValidShelfSpec)

/-- 'laws.FnExactFindPigment', WHERE WHAT IT READS IS OF BULK AT MOST 1048576: true; the input reads as it did. -/
def fnExactFindPigmentUptoRow : OpenClaim := { program := "ytamljpeicecbjaa", sum := "3e0ad477342b62a8db992f5b5e8cfd3d0270e5d96f5587f08509bd7fdf57b66a", func := "loop.example/g01213/laws.FnExactFindPigment", spec := "fnExactFindPigment", inPlace := ["math.Float64bits", "math.Float64frombits"], unfollowed := true, recurses := true, apart := false, narrowed := true }
def FnExactFindPigmentUptoSaid : Prop := fnExactFindPigmentUptoRow.holds Try.pinned (OpenSpec.upto fnExactFindPigmentSpec)

/-- 'laws.FnExactEvenParts', WHERE WHAT IT READS IS OF BULK AT MOST 1048576: true; the input reads as it did. -/
def fnExactEvenPartsUptoRow : OpenClaim := { program := "ytamljpeicecbjaa", sum := "3e0ad477342b62a8db992f5b5e8cfd3d0270e5d96f5587f08509bd7fdf57b66a", func := "loop.example/g01213/laws.FnExactEvenParts", spec := "fnExactEvenParts", inPlace := ["math.Float64bits", "math.Float64frombits"], unfollowed := true, recurses := true, apart := false, narrowed := true }
def FnExactEvenPartsUptoSaid : Prop := fnExactEvenPartsUptoRow.holds Try.pinned (OpenSpec.upto fnExactEvenPartsSpec)

/-- 'laws.FnExactValidDrops', WHERE WHAT IT READS IS OF BULK AT MOST 1048576: true; the input reads as it did. -/
def fnExactValidDropsUptoRow : OpenClaim := { program := "ytamljpeicecbjaa", sum := "3e0ad477342b62a8db992f5b5e8cfd3d0270e5d96f5587f08509bd7fdf57b66a", func := "loop.example/g01213/laws.FnExactValidDrops", spec := "fnExactValidDrops", inPlace := ["math.Float64bits", "math.Float64frombits"], unfollowed := true, recurses := true, apart := false, narrowed := true }
def FnExactValidDropsUptoSaid : Prop := fnExactValidDropsUptoRow.holds Try.pinned (OpenSpec.upto fnExactValidDropsSpec)

/-- 'laws.FnExactCostOfDrops', WHERE WHAT IT READS IS OF BULK AT MOST 1048576: true; the input reads as it did. -/
def fnExactCostOfDropsUptoRow : OpenClaim := { program := "ytamljpeicecbjaa", sum := "3e0ad477342b62a8db992f5b5e8cfd3d0270e5d96f5587f08509bd7fdf57b66a", func := "loop.example/g01213/laws.FnExactCostOfDrops", spec := "fnExactCostOfDrops", inPlace := ["math.Float64bits", "math.Float64frombits"], unfollowed := true, recurses := true, apart := false, narrowed := true }
def FnExactCostOfDropsUptoSaid : Prop := fnExactCostOfDropsUptoRow.holds Try.pinned (OpenSpec.upto fnExactCostOfDropsSpec)

/-- 'laws.FnExactTimesInTins', WHERE WHAT IT READS IS OF BULK AT MOST 1048576: true; the input reads as it did. -/
def fnExactTimesInTinsUptoRow : OpenClaim := { program := "ytamljpeicecbjaa", sum := "3e0ad477342b62a8db992f5b5e8cfd3d0270e5d96f5587f08509bd7fdf57b66a", func := "loop.example/g01213/laws.FnExactTimesInTins", spec := "fnExactTimesInTins", inPlace := ["math.Float64bits", "math.Float64frombits"], unfollowed := true, recurses := true, apart := false, narrowed := true }
def FnExactTimesInTinsUptoSaid : Prop := fnExactTimesInTinsUptoRow.holds Try.pinned (OpenSpec.upto fnExactTimesInTinsSpec)

/-- 'laws.FnExactPartsOf', WHERE WHAT IT READS IS OF BULK AT MOST 1048576: true; the input reads as it did. -/
def fnExactPartsOfUptoRow : OpenClaim := { program := "ytamljpeicecbjaa", sum := "3e0ad477342b62a8db992f5b5e8cfd3d0270e5d96f5587f08509bd7fdf57b66a", func := "loop.example/g01213/laws.FnExactPartsOf", spec := "fnExactPartsOf", inPlace := ["math.Float64bits", "math.Float64frombits"], unfollowed := true, recurses := true, apart := false, narrowed := true }
def FnExactPartsOfUptoSaid : Prop := fnExactPartsOfUptoRow.holds Try.pinned (OpenSpec.upto fnExactPartsOfSpec)

/-- 'laws.FnExactReduceDrops', WHERE WHAT IT READS IS OF BULK AT MOST 1048576: true; the input reads as it did. -/
def fnExactReduceDropsUptoRow : OpenClaim := { program := "ytamljpeicecbjaa", sum := "3e0ad477342b62a8db992f5b5e8cfd3d0270e5d96f5587f08509bd7fdf57b66a", func := "loop.example/g01213/laws.FnExactReduceDrops", spec := "fnExactReduceDrops", inPlace := ["math.Float64bits", "math.Float64frombits"], unfollowed := true, recurses := true, apart := false, narrowed := true }
def FnExactReduceDropsUptoSaid : Prop := fnExactReduceDropsUptoRow.holds Try.pinned (OpenSpec.upto fnExactReduceDropsSpec)

/-- 'laws.FnExactAddDrops', WHERE WHAT IT READS IS OF BULK AT MOST 1048576: true; the input reads as it did. -/
def fnExactAddDropsUptoRow : OpenClaim := { program := "ytamljpeicecbjaa", sum := "3e0ad477342b62a8db992f5b5e8cfd3d0270e5d96f5587f08509bd7fdf57b66a", func := "loop.example/g01213/laws.FnExactAddDrops", spec := "fnExactAddDrops", inPlace := ["math.Float64bits", "math.Float64frombits"], unfollowed := true, recurses := true, apart := false, narrowed := true }
def FnExactAddDropsUptoSaid : Prop := fnExactAddDropsUptoRow.holds Try.pinned (OpenSpec.upto fnExactAddDropsSpec)

/-- 'laws.FnExactScaleDrops', WHERE WHAT IT READS IS OF BULK AT MOST 1048576: true; the input reads as it did. -/
def fnExactScaleDropsUptoRow : OpenClaim := { program := "ytamljpeicecbjaa", sum := "3e0ad477342b62a8db992f5b5e8cfd3d0270e5d96f5587f08509bd7fdf57b66a", func := "loop.example/g01213/laws.FnExactScaleDrops", spec := "fnExactScaleDrops", inPlace := ["math.Float64bits", "math.Float64frombits"], unfollowed := true, recurses := true, apart := false, narrowed := true }
def FnExactScaleDropsUptoSaid : Prop := fnExactScaleDropsUptoRow.holds Try.pinned (OpenSpec.upto fnExactScaleDropsSpec)

/-- 'laws.FnExactShiftParts', WHERE WHAT IT READS IS OF BULK AT MOST 1048576: true; the input reads as it did. -/
def fnExactShiftPartsUptoRow : OpenClaim := { program := "ytamljpeicecbjaa", sum := "3e0ad477342b62a8db992f5b5e8cfd3d0270e5d96f5587f08509bd7fdf57b66a", func := "loop.example/g01213/laws.FnExactShiftParts", spec := "fnExactShiftParts", inPlace := ["math.Float64bits", "math.Float64frombits"], unfollowed := true, recurses := true, apart := false, narrowed := true }
def FnExactShiftPartsUptoSaid : Prop := fnExactShiftPartsUptoRow.holds Try.pinned (OpenSpec.upto fnExactShiftPartsSpec)

/-- 'laws.FnExactMixParts', WHERE WHAT IT READS IS OF BULK AT MOST 1048576: true; the input reads as it did. -/
def fnExactMixPartsUptoRow : OpenClaim := { program := "ytamljpeicecbjaa", sum := "3e0ad477342b62a8db992f5b5e8cfd3d0270e5d96f5587f08509bd7fdf57b66a", func := "loop.example/g01213/laws.FnExactMixParts", spec := "fnExactMixParts", inPlace := ["math.Float64bits", "math.Float64frombits"], unfollowed := true, recurses := true, apart := false, narrowed := true }
def FnExactMixPartsUptoSaid : Prop := fnExactMixPartsUptoRow.holds Try.pinned (OpenSpec.upto fnExactMixPartsSpec)

/-- 'laws.FnExactFillTin', WHERE WHAT IT READS IS OF BULK AT MOST 1048576: true; the input reads as it did. -/
def fnExactFillTinUptoRow : OpenClaim := { program := "ytamljpeicecbjaa", sum := "3e0ad477342b62a8db992f5b5e8cfd3d0270e5d96f5587f08509bd7fdf57b66a", func := "loop.example/g01213/laws.FnExactFillTin", spec := "fnExactFillTin", inPlace := ["math.Float64bits", "math.Float64frombits"], unfollowed := true, recurses := true, apart := false, narrowed := true }
def FnExactFillTinUptoSaid : Prop := fnExactFillTinUptoRow.holds Try.pinned (OpenSpec.upto fnExactFillTinSpec)

/-- 'laws.FnExactArePair', WHERE WHAT IT READS IS OF BULK AT MOST 1048576: true; the input reads as it did. -/
def fnExactArePairUptoRow : OpenClaim := { program := "ytamljpeicecbjaa", sum := "3e0ad477342b62a8db992f5b5e8cfd3d0270e5d96f5587f08509bd7fdf57b66a", func := "loop.example/g01213/laws.FnExactArePair", spec := "fnExactArePair", inPlace := ["math.sqrt", "math.Float64bits", "math.Float64frombits"], unfollowed := true, recurses := true, apart := false, narrowed := true }
def FnExactArePairUptoSaid : Prop := fnExactArePairUptoRow.holds Try.pinned (OpenSpec.upto fnExactArePairSpec)

/-- 'laws.FnExactMixDrops', WHERE WHAT IT READS IS OF BULK AT MOST 1048576: true; the input reads as it did. -/
def fnExactMixDropsUptoRow : OpenClaim := { program := "ytamljpeicecbjaa", sum := "3e0ad477342b62a8db992f5b5e8cfd3d0270e5d96f5587f08509bd7fdf57b66a", func := "loop.example/g01213/laws.FnExactMixDrops", spec := "fnExactMixDrops", inPlace := ["math.Float64bits", "math.Float64frombits"], unfollowed := true, recurses := true, apart := false, narrowed := true }
def FnExactMixDropsUptoSaid : Prop := fnExactMixDropsUptoRow.holds Try.pinned (OpenSpec.upto fnExactMixDropsSpec)

/-- 'laws.FnExactDropsBeside', WHERE WHAT IT READS IS OF BULK AT MOST 1048576: true; the input reads as it did. -/
def fnExactDropsBesideUptoRow : OpenClaim := { program := "ytamljpeicecbjaa", sum := "3e0ad477342b62a8db992f5b5e8cfd3d0270e5d96f5587f08509bd7fdf57b66a", func := "loop.example/g01213/laws.FnExactDropsBeside", spec := "fnExactDropsBeside", inPlace := ["math.Float64bits", "math.Float64frombits"], unfollowed := true, recurses := true, apart := false, narrowed := true }
def FnExactDropsBesideUptoSaid : Prop := fnExactDropsBesideUptoRow.holds Try.pinned (OpenSpec.upto fnExactDropsBesideSpec)

/-- 'laws.FnExactTakeDrops', WHERE WHAT IT READS IS OF BULK AT MOST 1048576: true; the input reads as it did. -/
def fnExactTakeDropsUptoRow : OpenClaim := { program := "ytamljpeicecbjaa", sum := "3e0ad477342b62a8db992f5b5e8cfd3d0270e5d96f5587f08509bd7fdf57b66a", func := "loop.example/g01213/laws.FnExactTakeDrops", spec := "fnExactTakeDrops", inPlace := ["math.Float64bits", "math.Float64frombits"], unfollowed := true, recurses := true, apart := false, narrowed := true }
def FnExactTakeDropsUptoSaid : Prop := fnExactTakeDropsUptoRow.holds Try.pinned (OpenSpec.upto fnExactTakeDropsSpec)

/-- 'laws.FnExactDropsFor', WHERE WHAT IT READS IS OF BULK AT MOST 1048576: true; the input reads as it did. -/
def fnExactDropsForUptoRow : OpenClaim := { program := "ytamljpeicecbjaa", sum := "3e0ad477342b62a8db992f5b5e8cfd3d0270e5d96f5587f08509bd7fdf57b66a", func := "loop.example/g01213/laws.FnExactDropsFor", spec := "fnExactDropsFor", inPlace := ["math.archFloor", "math.Float64bits", "math.Float64frombits", "math.archTrunc"], unfollowed := true, recurses := true, apart := false, narrowed := true }
def FnExactDropsForUptoSaid : Prop := fnExactDropsForUptoRow.holds Try.pinned (OpenSpec.upto fnExactDropsForSpec)

/-- 'laws.FnExactNearestPigment', WHERE WHAT IT READS IS OF BULK AT MOST 1048576: true; the input reads as it did. -/
def fnExactNearestPigmentUptoRow : OpenClaim := { program := "ytamljpeicecbjaa", sum := "3e0ad477342b62a8db992f5b5e8cfd3d0270e5d96f5587f08509bd7fdf57b66a", func := "loop.example/g01213/laws.FnExactNearestPigment", spec := "fnExactNearestPigment", inPlace := ["math.sqrt", "math.Float64bits", "math.Float64frombits"], unfollowed := true, recurses := true, apart := false, narrowed := true }
def FnExactNearestPigmentUptoSaid : Prop := fnExactNearestPigmentUptoRow.holds Try.pinned (OpenSpec.upto fnExactNearestPigmentSpec)

/-- 'laws.FnExactWorstLight', WHERE WHAT IT READS IS OF BULK AT MOST 1048576: true; the input reads as it did. -/
def fnExactWorstLightUptoRow : OpenClaim := { program := "ytamljpeicecbjaa", sum := "3e0ad477342b62a8db992f5b5e8cfd3d0270e5d96f5587f08509bd7fdf57b66a", func := "loop.example/g01213/laws.FnExactWorstLight", spec := "fnExactWorstLight", inPlace := ["math.sqrt", "math.Float64bits", "math.Float64frombits"], unfollowed := true, recurses := true, apart := false, narrowed := true }
def FnExactWorstLightUptoSaid : Prop := fnExactWorstLightUptoRow.holds Try.pinned (OpenSpec.upto fnExactWorstLightSpec)

/-- 'laws.FnExactUnlikeUnder', WHERE WHAT IT READS IS OF BULK AT MOST 1048576: true; the input reads as it did. -/
def fnExactUnlikeUnderUptoRow : OpenClaim := { program := "ytamljpeicecbjaa", sum := "3e0ad477342b62a8db992f5b5e8cfd3d0270e5d96f5587f08509bd7fdf57b66a", func := "loop.example/g01213/laws.FnExactUnlikeUnder", spec := "fnExactUnlikeUnder", inPlace := ["math.sqrt", "math.Float64bits", "math.Float64frombits"], unfollowed := true, recurses := true, apart := false, narrowed := true }
def FnExactUnlikeUnderUptoSaid : Prop := fnExactUnlikeUnderUptoRow.holds Try.pinned (OpenSpec.upto fnExactUnlikeUnderSpec)

/-- 'laws.FnExactCurveOfParts', WHERE WHAT IT READS IS OF BULK AT MOST 1048576: true; the input reads as it did. -/
def fnExactCurveOfPartsUptoRow : OpenClaim := { program := "ytamljpeicecbjaa", sum := "3e0ad477342b62a8db992f5b5e8cfd3d0270e5d96f5587f08509bd7fdf57b66a", func := "loop.example/g01213/laws.FnExactCurveOfParts", spec := "fnExactCurveOfParts", inPlace := ["math.sqrt", "math.Float64bits", "math.Float64frombits"], unfollowed := true, recurses := true, apart := false, narrowed := true }
def FnExactCurveOfPartsUptoSaid : Prop := fnExactCurveOfPartsUptoRow.holds Try.pinned (OpenSpec.upto fnExactCurveOfPartsSpec)

/-- 'laws.FnExactPaintOf', WHERE WHAT IT READS IS OF BULK AT MOST 1048576: true; the input reads as it did. -/
def fnExactPaintOfUptoRow : OpenClaim := { program := "ytamljpeicecbjaa", sum := "3e0ad477342b62a8db992f5b5e8cfd3d0270e5d96f5587f08509bd7fdf57b66a", func := "loop.example/g01213/laws.FnExactPaintOf", spec := "fnExactPaintOf", inPlace := ["math.sqrt", "math.Float64bits", "math.Float64frombits"], unfollowed := true, recurses := true, apart := false, narrowed := true }
def FnExactPaintOfUptoSaid : Prop := fnExactPaintOfUptoRow.holds Try.pinned (OpenSpec.upto fnExactPaintOfSpec)

/-- 'laws.FnExactLadderOf', WHERE WHAT IT READS IS OF BULK AT MOST 1048576: true; the input reads as it did. -/
def fnExactLadderOfUptoRow : OpenClaim := { program := "ytamljpeicecbjaa", sum := "3e0ad477342b62a8db992f5b5e8cfd3d0270e5d96f5587f08509bd7fdf57b66a", func := "loop.example/g01213/laws.FnExactLadderOf", spec := "fnExactLadderOf", inPlace := ["math.sqrt", "math.Float64bits", "math.Float64frombits"], unfollowed := true, recurses := true, apart := false, narrowed := true }
def FnExactLadderOfUptoSaid : Prop := fnExactLadderOfUptoRow.holds Try.pinned (OpenSpec.upto fnExactLadderOfSpec)

/-- 'laws.FnExactOffOfParts', WHERE WHAT IT READS IS OF BULK AT MOST 1048576: true; the input reads as it did. -/
def fnExactOffOfPartsUptoRow : OpenClaim := { program := "ytamljpeicecbjaa", sum := "3e0ad477342b62a8db992f5b5e8cfd3d0270e5d96f5587f08509bd7fdf57b66a", func := "loop.example/g01213/laws.FnExactOffOfParts", spec := "fnExactOffOfParts", inPlace := ["math.sqrt", "math.Float64bits", "math.Float64frombits"], unfollowed := true, recurses := true, apart := false, narrowed := true }
def FnExactOffOfPartsUptoSaid : Prop := fnExactOffOfPartsUptoRow.holds Try.pinned (OpenSpec.upto fnExactOffOfPartsSpec)

/-- 'laws.FnExactOffOfDrops', WHERE WHAT IT READS IS OF BULK AT MOST 1048576: true; the input reads as it did. -/
def fnExactOffOfDropsUptoRow : OpenClaim := { program := "ytamljpeicecbjaa", sum := "3e0ad477342b62a8db992f5b5e8cfd3d0270e5d96f5587f08509bd7fdf57b66a", func := "loop.example/g01213/laws.FnExactOffOfDrops", spec := "fnExactOffOfDrops", inPlace := ["math.sqrt", "math.Float64bits", "math.Float64frombits"], unfollowed := true, recurses := true, apart := false, narrowed := true }
def FnExactOffOfDropsUptoSaid : Prop := fnExactOffOfDropsUptoRow.holds Try.pinned (OpenSpec.upto fnExactOffOfDropsSpec)

/-- 'laws.FnExactIsMatched', WHERE WHAT IT READS IS OF BULK AT MOST 1048576: true; the input reads as it did. -/
def fnExactIsMatchedUptoRow : OpenClaim := { program := "ytamljpeicecbjaa", sum := "3e0ad477342b62a8db992f5b5e8cfd3d0270e5d96f5587f08509bd7fdf57b66a", func := "loop.example/g01213/laws.FnExactIsMatched", spec := "fnExactIsMatched", inPlace := ["math.sqrt", "math.Float64bits", "math.Float64frombits"], unfollowed := true, recurses := true, apart := false, narrowed := true }
def FnExactIsMatchedUptoSaid : Prop := fnExactIsMatchedUptoRow.holds Try.pinned (OpenSpec.upto fnExactIsMatchedSpec)

/-- 'laws.FnExactMatchCurve', WHERE WHAT IT READS IS OF BULK AT MOST 1048576: true; the input reads as it did. -/
def fnExactMatchCurveUptoRow : OpenClaim := { program := "ytamljpeicecbjaa", sum := "3e0ad477342b62a8db992f5b5e8cfd3d0270e5d96f5587f08509bd7fdf57b66a", func := "loop.example/g01213/laws.FnExactMatchCurve", spec := "fnExactMatchCurve", inPlace := ["math.sqrt", "math.Float64bits", "math.Float64frombits"], unfollowed := true, recurses := true, apart := false, narrowed := true }
def FnExactMatchCurveUptoSaid : Prop := fnExactMatchCurveUptoRow.holds Try.pinned (OpenSpec.upto fnExactMatchCurveSpec)

end Rows
end Go.Proofs.Ytamljpeicecbjaa
