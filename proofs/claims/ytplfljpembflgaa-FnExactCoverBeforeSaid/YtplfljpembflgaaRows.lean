/-
  No cell of these rows narrows 'for every input' (looked for: loops, veiled, ifaces, maps, wideKeys, modest, calm, conditions, laid).
  DERIVED. THE GIVEN ROWS OF THIS SEAT. 6 by the template 'for every input the law returns true; each argument reads behind the call as it read before'; 0 by the template 'total and deterministic' (their statements: YtplfljpembflgaaTotals.lean).
  GIVEN WITH THE SEED: the statements are not yours to turn. If you find one false, say at which input.
  Laid BY PROGRAM, IN A SANDBOX (cutbox-rows.mjs): the forced cells as the released guide's own fill.sh prints them over the translation ab3be079ffcb2d0e… (all of the seat's roots in one cut). By AI agents, Wed Nov 11 2026. No macro, syntax, notation, axiom, sorry.
-/
import Derived.Test.YtplfljpembflgaaChecked
import GoSem.Claim
import GoSem.ClaimJoined
import GoSem.ClaimMapViews
import Derived.JoinedTies
import Derived.KernelRfl
namespace Go.Proofs.Ytplfljpembflgaa
/- THE CELL 'sum', in the pinned program and in every row, IS THE sha256 OF THE DUMP (.gsa) THAT YtplfljpembflgaaProg.lean LOADS. Nothing in Lean hashes anything: it is a label: what it is worth is what the hold of that sum in a sandbox is worth. -/
noncomputable def Try.pinned : Pinned := { name := "ytplfljpembflgaa", sum := "ab3be079ffcb2d0eadb9c8bc63a80d26f3805a1fd6b8e231f1bb791f77b473b3", checked := Try.checked }
namespace Rows
def none {H : Type} : Left H := { results := [], args := [] }

/-- 'laws.FnExactOffOfCurves': WHATEVER THE INPUT: true; the input reads as it did. -/
def fnExactOffOfCurvesSpec : ChangeSpec := { name := "fnExactOffOfCurves", fn := fun _ => fun
  | [d1, d2] => { results := [.lit (.bool true)], args := [d1, d2] }
  | _ => none }
def fnExactOffOfCurvesRow : OpenClaim := { program := "ytplfljpembflgaa", sum := "ab3be079ffcb2d0eadb9c8bc63a80d26f3805a1fd6b8e231f1bb791f77b473b3", func := "loop.example/g01213/laws.FnExactOffOfCurves", spec := "fnExactOffOfCurves", unfollowed := true, recurses := true, apart := false }
def FnExactOffOfCurvesSaid : Prop := fnExactOffOfCurvesRow.holds Try.pinned (OpenSpec.ofChange fnExactOffOfCurvesSpec)

/-- ITS FALSE NEIGHBOUR: 'it returns false'. Refute it at one input. -/
def fnExactOffOfCurvesWrong : ChangeSpec := { name := "fnExactOffOfCurves", fn := fun _ => fun
  | [d1, d2] => { results := [.lit (.bool false)], args := [d1, d2] }
  | _ => none }
def FnExactOffOfCurvesWrongFalsely : Prop := fnExactOffOfCurvesRow.holds Try.pinned (OpenSpec.ofChange fnExactOffOfCurvesWrong)

/-- 'laws.FnExactOverTiles': WHATEVER THE INPUT: true; the input reads as it did. -/
def fnExactOverTilesSpec : ChangeSpec := { name := "fnExactOverTiles", fn := fun _ => fun
  | [d1, d2] => { results := [.lit (.bool true)], args := [d1, d2] }
  | _ => none }
def fnExactOverTilesRow : OpenClaim := { program := "ytplfljpembflgaa", sum := "ab3be079ffcb2d0eadb9c8bc63a80d26f3805a1fd6b8e231f1bb791f77b473b3", func := "loop.example/g01213/laws.FnExactOverTiles", spec := "fnExactOverTiles", unfollowed := true, recurses := true, apart := false }
def FnExactOverTilesSaid : Prop := fnExactOverTilesRow.holds Try.pinned (OpenSpec.ofChange fnExactOverTilesSpec)

/-- ITS FALSE NEIGHBOUR: 'it returns false'. Refute it at one input. -/
def fnExactOverTilesWrong : ChangeSpec := { name := "fnExactOverTiles", fn := fun _ => fun
  | [d1, d2] => { results := [.lit (.bool false)], args := [d1, d2] }
  | _ => none }
def FnExactOverTilesWrongFalsely : Prop := fnExactOverTilesRow.holds Try.pinned (OpenSpec.ofChange fnExactOverTilesWrong)

/-- 'laws.FnExactTurnTile': WHATEVER THE INPUT: true; the input reads as it did. -/
def fnExactTurnTileSpec : ChangeSpec := { name := "fnExactTurnTile", fn := fun _ => fun
  | [d] => { results := [.lit (.bool true)], args := [d] }
  | _ => none }
def fnExactTurnTileRow : OpenClaim := { program := "ytplfljpembflgaa", sum := "ab3be079ffcb2d0eadb9c8bc63a80d26f3805a1fd6b8e231f1bb791f77b473b3", func := "loop.example/g01213/laws.FnExactTurnTile", spec := "fnExactTurnTile", unfollowed := true, recurses := true, apart := false }
def FnExactTurnTileSaid : Prop := fnExactTurnTileRow.holds Try.pinned (OpenSpec.ofChange fnExactTurnTileSpec)

/-- ITS FALSE NEIGHBOUR: 'it returns false'. Refute it at one input. -/
def fnExactTurnTileWrong : ChangeSpec := { name := "fnExactTurnTile", fn := fun _ => fun
  | [d] => { results := [.lit (.bool false)], args := [d] }
  | _ => none }
def FnExactTurnTileWrongFalsely : Prop := fnExactTurnTileRow.holds Try.pinned (OpenSpec.ofChange fnExactTurnTileWrong)

/-- 'laws.FnExactInkIn': WHATEVER THE INPUT: true; the input reads as it did. -/
def fnExactInkInSpec : ChangeSpec := { name := "fnExactInkIn", fn := fun _ => fun
  | [d] => { results := [.lit (.bool true)], args := [d] }
  | _ => none }
def fnExactInkInRow : OpenClaim := { program := "ytplfljpembflgaa", sum := "ab3be079ffcb2d0eadb9c8bc63a80d26f3805a1fd6b8e231f1bb791f77b473b3", func := "loop.example/g01213/laws.FnExactInkIn", spec := "fnExactInkIn", apart := false }
def FnExactInkInSaid : Prop := fnExactInkInRow.holds Try.pinned (OpenSpec.ofChange fnExactInkInSpec)

/-- ITS FALSE NEIGHBOUR: 'it returns false'. Refute it at one input. -/
def fnExactInkInWrong : ChangeSpec := { name := "fnExactInkIn", fn := fun _ => fun
  | [d] => { results := [.lit (.bool false)], args := [d] }
  | _ => none }
def FnExactInkInWrongFalsely : Prop := fnExactInkInRow.holds Try.pinned (OpenSpec.ofChange fnExactInkInWrong)

/-- 'laws.FnExactCoverBefore': WHATEVER THE INPUT: true; the input reads as it did. -/
def fnExactCoverBeforeSpec : ChangeSpec := { name := "fnExactCoverBefore", fn := fun _ => fun
  | [d1, d2] => { results := [.lit (.bool true)], args := [d1, d2] }
  | _ => none }
def fnExactCoverBeforeRow : OpenClaim := { program := "ytplfljpembflgaa", sum := "ab3be079ffcb2d0eadb9c8bc63a80d26f3805a1fd6b8e231f1bb791f77b473b3", func := "loop.example/g01213/laws.FnExactCoverBefore", spec := "fnExactCoverBefore", apart := false }
def FnExactCoverBeforeSaid : Prop := fnExactCoverBeforeRow.holds Try.pinned (OpenSpec.ofChange fnExactCoverBeforeSpec)

/-- ITS FALSE NEIGHBOUR: 'it returns false'. Refute it at one input. -/
def fnExactCoverBeforeWrong : ChangeSpec := { name := "fnExactCoverBefore", fn := fun _ => fun
  | [d1, d2] => { results := [.lit (.bool false)], args := [d1, d2] }
  | _ => none }
def FnExactCoverBeforeWrongFalsely : Prop := fnExactCoverBeforeRow.holds Try.pinned (OpenSpec.ofChange fnExactCoverBeforeWrong)

/-- 'laws.FnExactAllDrops': WHATEVER THE INPUT: true; the input reads as it did. -/
def fnExactAllDropsSpec : ChangeSpec := { name := "fnExactAllDrops", fn := fun _ => fun
  | [d1, d2] => { results := [.lit (.bool true)], args := [d1, d2] }
  | _ => none }
def fnExactAllDropsRow : OpenClaim := { program := "ytplfljpembflgaa", sum := "ab3be079ffcb2d0eadb9c8bc63a80d26f3805a1fd6b8e231f1bb791f77b473b3", func := "loop.example/g01213/laws.FnExactAllDrops", spec := "fnExactAllDrops", recurses := true, apart := false }
def FnExactAllDropsSaid : Prop := fnExactAllDropsRow.holds Try.pinned (OpenSpec.ofChange fnExactAllDropsSpec)

/-- ITS FALSE NEIGHBOUR: 'it returns false'. Refute it at one input. -/
def fnExactAllDropsWrong : ChangeSpec := { name := "fnExactAllDrops", fn := fun _ => fun
  | [d1, d2] => { results := [.lit (.bool false)], args := [d1, d2] }
  | _ => none }
def FnExactAllDropsWrongFalsely : Prop := fnExactAllDropsRow.holds Try.pinned (OpenSpec.ofChange fnExactAllDropsWrong)

/- THE SECOND FORM. 'bulk': how many values and letters a reading holds, each counted each time it is reached (what is shared counts as often as it is met; a slice's spare places count too). A statement '..UptoSaid' is the law's where the arguments, and the package variables that the reading takes, are together of bulk at most 1048576: NARROWER than '..Said'. Prove '..Said' where nothing that the law and all that it calls make is longer than what came in: it says more and counts as full. Else prove '..UptoSaid'. A law counts once. -/
mutual
def uptoBulk {H : Type} : DataW H → Nat
  | .lit (.string bytes) => bytes.length + 1
  | .lit _ => 1
  | .nil => 1
  | .ptr d => uptoBulk d + 1
  | .slice elems spare => uptoBulkAll elems + uptoBulkAll spare + 1
  | .agg parts => uptoBulkAll parts + 1
  | .iface _ d => uptoBulk d + 1
  | .map entries => uptoBulkEntries entries + 1
  | .held _ => 1
def uptoBulkAll {H : Type} : List (DataW H) → Nat
  | [] => 0
  | d :: r => uptoBulk d + uptoBulkAll r
def uptoBulkEntries {H : Type} : List (Lit × DataW H) → Nat
  | [] => 0
  | x :: r => uptoBulkEntry x + uptoBulkEntries r
def uptoBulkEntry {H : Type} : Lit × DataW H → Nat
  | (.string bytes, d) => bytes.length + uptoBulk d + 1
  | (_, d) => uptoBulk d + 1
 end
def uptoSmall : (H : Type) → List (DataW H) → Bool := fun _ ds => decide (uptoBulkAll ds ≤ 1048576)
def OpenSpec.upto (s : _root_.Go.ChangeSpec) : _root_.Go.OpenSpec := { _root_.Go.OpenSpec.ofChange s with cond := some uptoSmall }

/-- 'laws.FnExactOffOfCurves', WHERE WHAT IT READS IS OF BULK AT MOST 1048576: true; the input reads as it did. -/
def fnExactOffOfCurvesUptoRow : OpenClaim := { program := "ytplfljpembflgaa", sum := "ab3be079ffcb2d0eadb9c8bc63a80d26f3805a1fd6b8e231f1bb791f77b473b3", func := "loop.example/g01213/laws.FnExactOffOfCurves", spec := "fnExactOffOfCurves", unfollowed := true, recurses := true, apart := false, narrowed := true }
def FnExactOffOfCurvesUptoSaid : Prop := fnExactOffOfCurvesUptoRow.holds Try.pinned (OpenSpec.upto fnExactOffOfCurvesSpec)

/-- 'laws.FnExactOverTiles', WHERE WHAT IT READS IS OF BULK AT MOST 1048576: true; the input reads as it did. -/
def fnExactOverTilesUptoRow : OpenClaim := { program := "ytplfljpembflgaa", sum := "ab3be079ffcb2d0eadb9c8bc63a80d26f3805a1fd6b8e231f1bb791f77b473b3", func := "loop.example/g01213/laws.FnExactOverTiles", spec := "fnExactOverTiles", unfollowed := true, recurses := true, apart := false, narrowed := true }
def FnExactOverTilesUptoSaid : Prop := fnExactOverTilesUptoRow.holds Try.pinned (OpenSpec.upto fnExactOverTilesSpec)

/-- 'laws.FnExactTurnTile', WHERE WHAT IT READS IS OF BULK AT MOST 1048576: true; the input reads as it did. -/
def fnExactTurnTileUptoRow : OpenClaim := { program := "ytplfljpembflgaa", sum := "ab3be079ffcb2d0eadb9c8bc63a80d26f3805a1fd6b8e231f1bb791f77b473b3", func := "loop.example/g01213/laws.FnExactTurnTile", spec := "fnExactTurnTile", unfollowed := true, recurses := true, apart := false, narrowed := true }
def FnExactTurnTileUptoSaid : Prop := fnExactTurnTileUptoRow.holds Try.pinned (OpenSpec.upto fnExactTurnTileSpec)

/-- 'laws.FnExactInkIn', WHERE WHAT IT READS IS OF BULK AT MOST 1048576: true; the input reads as it did. -/
def fnExactInkInUptoRow : OpenClaim := { program := "ytplfljpembflgaa", sum := "ab3be079ffcb2d0eadb9c8bc63a80d26f3805a1fd6b8e231f1bb791f77b473b3", func := "loop.example/g01213/laws.FnExactInkIn", spec := "fnExactInkIn", apart := false, narrowed := true }
def FnExactInkInUptoSaid : Prop := fnExactInkInUptoRow.holds Try.pinned (OpenSpec.upto fnExactInkInSpec)

/-- 'laws.FnExactCoverBefore', WHERE WHAT IT READS IS OF BULK AT MOST 1048576: true; the input reads as it did. -/
def fnExactCoverBeforeUptoRow : OpenClaim := { program := "ytplfljpembflgaa", sum := "ab3be079ffcb2d0eadb9c8bc63a80d26f3805a1fd6b8e231f1bb791f77b473b3", func := "loop.example/g01213/laws.FnExactCoverBefore", spec := "fnExactCoverBefore", apart := false, narrowed := true }
def FnExactCoverBeforeUptoSaid : Prop := fnExactCoverBeforeUptoRow.holds Try.pinned (OpenSpec.upto fnExactCoverBeforeSpec)

/-- 'laws.FnExactAllDrops', WHERE WHAT IT READS IS OF BULK AT MOST 1048576: true; the input reads as it did. -/
def fnExactAllDropsUptoRow : OpenClaim := { program := "ytplfljpembflgaa", sum := "ab3be079ffcb2d0eadb9c8bc63a80d26f3805a1fd6b8e231f1bb791f77b473b3", func := "loop.example/g01213/laws.FnExactAllDrops", spec := "fnExactAllDrops", recurses := true, apart := false, narrowed := true }
def FnExactAllDropsUptoSaid : Prop := fnExactAllDropsUptoRow.holds Try.pinned (OpenSpec.upto fnExactAllDropsSpec)

end Rows
end Go.Proofs.Ytplfljpembflgaa
