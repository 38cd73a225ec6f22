/-
  No cell of these rows narrows 'for every input' (looked for: loops, veiled, ifaces, maps, wideKeys, modest, calm, conditions, laid).
  DERIVED. THE GIVEN ROWS OF THIS SEAT. 7 by the template 'for every input the law returns true; each argument reads behind the call as it read before'; 0 by the template 'total and deterministic' (their statements: YtnejeieiemejhaaTotals.lean).
  GIVEN WITH THE SEED: the statements are not yours to turn. If you find one false, say at which input.
  Laid BY PROGRAM, IN A SANDBOX (cutbox-rows.mjs): the forced cells as the released guide's own fill.sh prints them over the translation 189cd0c2162803b0… (all of the seat's roots in one cut). By AI agents, Wed Nov 11 2026. No macro, syntax, notation, axiom, sorry.
-/
import Derived.Test.YtnejeieiemejhaaChecked
import GoSem.Claim
import GoSem.ClaimJoined
import GoSem.ClaimMapViews
import Derived.JoinedTies
import Derived.KernelRfl
namespace Go.Proofs.Ytnejeieiemejhaa
/- THE CELL 'sum', in the pinned program and in every row, IS THE sha256 OF THE DUMP (.gsa) THAT YtnejeieiemejhaaProg.lean LOADS. Nothing in Lean hashes anything: it is a label: what it is worth is what the hold of that sum in a sandbox is worth. -/
noncomputable def Try.pinned : Pinned := { name := "ytnejeieiemejhaa", sum := "189cd0c2162803b0aff280a499fcd6e49a0ef24433c73db3e515baf4d1562545", checked := Try.checked }
namespace Rows
def none {H : Type} : Left H := { results := [], args := [] }

/-- 'laws.FnExactValidCover': WHATEVER THE INPUT: true; the input reads as it did. -/
def fnExactValidCoverSpec : ChangeSpec := { name := "fnExactValidCover", fn := fun _ => fun
  | [d] => { results := [.lit (.bool true)], args := [d] }
  | _ => none }
def fnExactValidCoverRow : OpenClaim := { program := "ytnejeieiemejhaa", sum := "189cd0c2162803b0aff280a499fcd6e49a0ef24433c73db3e515baf4d1562545", func := "loop.example/g01213/laws.FnExactValidCover", spec := "fnExactValidCover", apart := false }
def FnExactValidCoverSaid : Prop := fnExactValidCoverRow.holds Try.pinned (OpenSpec.ofChange fnExactValidCoverSpec)

/-- ITS FALSE NEIGHBOUR: 'it returns false'. Refute it at one input. -/
def fnExactValidCoverWrong : ChangeSpec := { name := "fnExactValidCover", fn := fun _ => fun
  | [d] => { results := [.lit (.bool false)], args := [d] }
  | _ => none }
def FnExactValidCoverWrongFalsely : Prop := fnExactValidCoverRow.holds Try.pinned (OpenSpec.ofChange fnExactValidCoverWrong)

/-- 'laws.FnExactTotalDrops': WHATEVER THE INPUT: true; the input reads as it did. -/
def fnExactTotalDropsSpec : ChangeSpec := { name := "fnExactTotalDrops", fn := fun _ => fun
  | [d] => { results := [.lit (.bool true)], args := [d] }
  | _ => none }
def fnExactTotalDropsRow : OpenClaim := { program := "ytnejeieiemejhaa", sum := "189cd0c2162803b0aff280a499fcd6e49a0ef24433c73db3e515baf4d1562545", func := "loop.example/g01213/laws.FnExactTotalDrops", spec := "fnExactTotalDrops", apart := false }
def FnExactTotalDropsSaid : Prop := fnExactTotalDropsRow.holds Try.pinned (OpenSpec.ofChange fnExactTotalDropsSpec)

/-- ITS FALSE NEIGHBOUR: 'it returns false'. Refute it at one input. -/
def fnExactTotalDropsWrong : ChangeSpec := { name := "fnExactTotalDrops", fn := fun _ => fun
  | [d] => { results := [.lit (.bool false)], args := [d] }
  | _ => none }
def FnExactTotalDropsWrongFalsely : Prop := fnExactTotalDropsRow.holds Try.pinned (OpenSpec.ofChange fnExactTotalDropsWrong)

/-- 'laws.FnExactNumberOfKey': WHATEVER THE INPUT: true; the input reads as it did. -/
def fnExactNumberOfKeySpec : ChangeSpec := { name := "fnExactNumberOfKey", fn := fun _ => fun
  | [d] => { results := [.lit (.bool true)], args := [d] }
  | _ => none }
def fnExactNumberOfKeyRow : OpenClaim := { program := "ytnejeieiemejhaa", sum := "189cd0c2162803b0aff280a499fcd6e49a0ef24433c73db3e515baf4d1562545", func := "loop.example/g01213/laws.FnExactNumberOfKey", spec := "fnExactNumberOfKey", apart := false }
def FnExactNumberOfKeySaid : Prop := fnExactNumberOfKeyRow.holds Try.pinned (OpenSpec.ofChange fnExactNumberOfKeySpec)

/-- ITS FALSE NEIGHBOUR: 'it returns false'. Refute it at one input. -/
def fnExactNumberOfKeyWrong : ChangeSpec := { name := "fnExactNumberOfKey", fn := fun _ => fun
  | [d] => { results := [.lit (.bool false)], args := [d] }
  | _ => none }
def FnExactNumberOfKeyWrongFalsely : Prop := fnExactNumberOfKeyRow.holds Try.pinned (OpenSpec.ofChange fnExactNumberOfKeyWrong)

/-- 'laws.FnExactPlaceNumber': WHATEVER THE INPUT: true; the input reads as it did. -/
def fnExactPlaceNumberSpec : ChangeSpec := { name := "fnExactPlaceNumber", fn := fun _ => fun
  | [d1, d2] => { results := [.lit (.bool true)], args := [d1, d2] }
  | _ => none }
def fnExactPlaceNumberRow : OpenClaim := { program := "ytnejeieiemejhaa", sum := "189cd0c2162803b0aff280a499fcd6e49a0ef24433c73db3e515baf4d1562545", func := "loop.example/g01213/laws.FnExactPlaceNumber", spec := "fnExactPlaceNumber", apart := false }
def FnExactPlaceNumberSaid : Prop := fnExactPlaceNumberRow.holds Try.pinned (OpenSpec.ofChange fnExactPlaceNumberSpec)

/-- ITS FALSE NEIGHBOUR: 'it returns false'. Refute it at one input. -/
def fnExactPlaceNumberWrong : ChangeSpec := { name := "fnExactPlaceNumber", fn := fun _ => fun
  | [d1, d2] => { results := [.lit (.bool false)], args := [d1, d2] }
  | _ => none }
def FnExactPlaceNumberWrongFalsely : Prop := fnExactPlaceNumberRow.holds Try.pinned (OpenSpec.ofChange fnExactPlaceNumberWrong)

/-- 'laws.FnExactLevelOf': WHATEVER THE INPUT: true; the input reads as it did. -/
def fnExactLevelOfSpec : ChangeSpec := { name := "fnExactLevelOf", fn := fun _ => fun
  | [d] => { results := [.lit (.bool true)], args := [d] }
  | _ => none }
def fnExactLevelOfRow : OpenClaim := { program := "ytnejeieiemejhaa", sum := "189cd0c2162803b0aff280a499fcd6e49a0ef24433c73db3e515baf4d1562545", func := "loop.example/g01213/laws.FnExactLevelOf", spec := "fnExactLevelOf", apart := false }
def FnExactLevelOfSaid : Prop := fnExactLevelOfRow.holds Try.pinned (OpenSpec.ofChange fnExactLevelOfSpec)

/-- ITS FALSE NEIGHBOUR: 'it returns false'. Refute it at one input. -/
def fnExactLevelOfWrong : ChangeSpec := { name := "fnExactLevelOf", fn := fun _ => fun
  | [d] => { results := [.lit (.bool false)], args := [d] }
  | _ => none }
def FnExactLevelOfWrongFalsely : Prop := fnExactLevelOfRow.holds Try.pinned (OpenSpec.ofChange fnExactLevelOfWrong)

/-- 'laws.FnExactKeyOf': WHATEVER THE INPUT: true; the input reads as it did. -/
def fnExactKeyOfSpec : ChangeSpec := { name := "fnExactKeyOf", fn := fun _ => fun
  | [d] => { results := [.lit (.bool true)], args := [d] }
  | _ => none }
def fnExactKeyOfRow : OpenClaim := { program := "ytnejeieiemejhaa", sum := "189cd0c2162803b0aff280a499fcd6e49a0ef24433c73db3e515baf4d1562545", func := "loop.example/g01213/laws.FnExactKeyOf", spec := "fnExactKeyOf", apart := false }
def FnExactKeyOfSaid : Prop := fnExactKeyOfRow.holds Try.pinned (OpenSpec.ofChange fnExactKeyOfSpec)

/-- ITS FALSE NEIGHBOUR: 'it returns false'. Refute it at one input. -/
def fnExactKeyOfWrong : ChangeSpec := { name := "fnExactKeyOf", fn := fun _ => fun
  | [d] => { results := [.lit (.bool false)], args := [d] }
  | _ => none }
def FnExactKeyOfWrongFalsely : Prop := fnExactKeyOfRow.holds Try.pinned (OpenSpec.ofChange fnExactKeyOfWrong)

/-- 'laws.FnExactGainAt': WHATEVER THE INPUT: true; the input reads as it did. -/
def fnExactGainAtSpec : ChangeSpec := { name := "fnExactGainAt", fn := fun _ => fun
  | [d1, d2] => { results := [.lit (.bool true)], args := [d1, d2] }
  | _ => none }
def fnExactGainAtRow : OpenClaim := { program := "ytnejeieiemejhaa", sum := "189cd0c2162803b0aff280a499fcd6e49a0ef24433c73db3e515baf4d1562545", func := "loop.example/g01213/laws.FnExactGainAt", spec := "fnExactGainAt", apart := false }
def FnExactGainAtSaid : Prop := fnExactGainAtRow.holds Try.pinned (OpenSpec.ofChange fnExactGainAtSpec)

/-- ITS FALSE NEIGHBOUR: 'it returns false'. Refute it at one input. -/
def fnExactGainAtWrong : ChangeSpec := { name := "fnExactGainAt", fn := fun _ => fun
  | [d1, d2] => { results := [.lit (.bool false)], args := [d1, d2] }
  | _ => none }
def FnExactGainAtWrongFalsely : Prop := fnExactGainAtRow.holds Try.pinned (OpenSpec.ofChange fnExactGainAtWrong)

/- THE SECOND FORM. 'bulk': how many values and letters a reading holds, each counted each time it is reached (what is shared counts as often as it is met; a slice's spare places count too). A statement '..UptoSaid' is the law's where the arguments, and the package variables that the reading takes, are together of bulk at most 1048576: NARROWER than '..Said'. Prove '..Said' where nothing that the law and all that it calls make is longer than what came in: it says more and counts as full. Else prove '..UptoSaid'. A law counts once. -/
mutual
def uptoBulk {H : Type} : DataW H → Nat
  | .lit (.string bytes) => bytes.length + 1
  | .lit _ => 1
  | .nil => 1
  | .ptr d => uptoBulk d + 1
  | .slice elems spare => uptoBulkAll elems + uptoBulkAll spare + 1
  | .agg parts => uptoBulkAll parts + 1
  | .iface _ d => uptoBulk d + 1
  | .map entries => uptoBulkEntries entries + 1
  | .held _ => 1
def uptoBulkAll {H : Type} : List (DataW H) → Nat
  | [] => 0
  | d :: r => uptoBulk d + uptoBulkAll r
def uptoBulkEntries {H : Type} : List (Lit × DataW H) → Nat
  | [] => 0
  | x :: r => uptoBulkEntry x + uptoBulkEntries r
def uptoBulkEntry {H : Type} : Lit × DataW H → Nat
  | (.string bytes, d) => bytes.length + uptoBulk d + 1
  | (_, d) => uptoBulk d + 1
 end
def uptoSmall : (H : Type) → List (DataW H) → Bool := fun _ ds => decide (uptoBulkAll ds ≤ 1048576)
def OpenSpec.upto (s : _root_.Go.ChangeSpec) : _root_.Go.OpenSpec := { _root_.Go.OpenSpec.ofChange s with cond := some uptoSmall }

/-- 'laws.FnExactValidCover', WHERE WHAT IT READS IS OF BULK AT MOST 1048576: true; the input reads as it did. -/
def fnExactValidCoverUptoRow : OpenClaim := { program := "ytnejeieiemejhaa", sum := "189cd0c2162803b0aff280a499fcd6e49a0ef24433c73db3e515baf4d1562545", func := "loop.example/g01213/laws.FnExactValidCover", spec := "fnExactValidCover", apart := false, narrowed := true }
def FnExactValidCoverUptoSaid : Prop := fnExactValidCoverUptoRow.holds Try.pinned (OpenSpec.upto fnExactValidCoverSpec)

/-- 'laws.FnExactTotalDrops', WHERE WHAT IT READS IS OF BULK AT MOST 1048576: true; the input reads as it did. -/
def fnExactTotalDropsUptoRow : OpenClaim := { program := "ytnejeieiemejhaa", sum := "189cd0c2162803b0aff280a499fcd6e49a0ef24433c73db3e515baf4d1562545", func := "loop.example/g01213/laws.FnExactTotalDrops", spec := "fnExactTotalDrops", apart := false, narrowed := true }
def FnExactTotalDropsUptoSaid : Prop := fnExactTotalDropsUptoRow.holds Try.pinned (OpenSpec.upto fnExactTotalDropsSpec)

/-- 'laws.FnExactNumberOfKey', WHERE WHAT IT READS IS OF BULK AT MOST 1048576: true; the input reads as it did. -/
def fnExactNumberOfKeyUptoRow : OpenClaim := { program := "ytnejeieiemejhaa", sum := "189cd0c2162803b0aff280a499fcd6e49a0ef24433c73db3e515baf4d1562545", func := "loop.example/g01213/laws.FnExactNumberOfKey", spec := "fnExactNumberOfKey", apart := false, narrowed := true }
def FnExactNumberOfKeyUptoSaid : Prop := fnExactNumberOfKeyUptoRow.holds Try.pinned (OpenSpec.upto fnExactNumberOfKeySpec)

/-- 'laws.FnExactPlaceNumber', WHERE WHAT IT READS IS OF BULK AT MOST 1048576: true; the input reads as it did. -/
def fnExactPlaceNumberUptoRow : OpenClaim := { program := "ytnejeieiemejhaa", sum := "189cd0c2162803b0aff280a499fcd6e49a0ef24433c73db3e515baf4d1562545", func := "loop.example/g01213/laws.FnExactPlaceNumber", spec := "fnExactPlaceNumber", apart := false, narrowed := true }
def FnExactPlaceNumberUptoSaid : Prop := fnExactPlaceNumberUptoRow.holds Try.pinned (OpenSpec.upto fnExactPlaceNumberSpec)

/-- 'laws.FnExactLevelOf', WHERE WHAT IT READS IS OF BULK AT MOST 1048576: true; the input reads as it did. -/
def fnExactLevelOfUptoRow : OpenClaim := { program := "ytnejeieiemejhaa", sum := "189cd0c2162803b0aff280a499fcd6e49a0ef24433c73db3e515baf4d1562545", func := "loop.example/g01213/laws.FnExactLevelOf", spec := "fnExactLevelOf", apart := false, narrowed := true }
def FnExactLevelOfUptoSaid : Prop := fnExactLevelOfUptoRow.holds Try.pinned (OpenSpec.upto fnExactLevelOfSpec)

/-- 'laws.FnExactKeyOf', WHERE WHAT IT READS IS OF BULK AT MOST 1048576: true; the input reads as it did. -/
def fnExactKeyOfUptoRow : OpenClaim := { program := "ytnejeieiemejhaa", sum := "189cd0c2162803b0aff280a499fcd6e49a0ef24433c73db3e515baf4d1562545", func := "loop.example/g01213/laws.FnExactKeyOf", spec := "fnExactKeyOf", apart := false, narrowed := true }
def FnExactKeyOfUptoSaid : Prop := fnExactKeyOfUptoRow.holds Try.pinned (OpenSpec.upto fnExactKeyOfSpec)

/-- 'laws.FnExactGainAt', WHERE WHAT IT READS IS OF BULK AT MOST 1048576: true; the input reads as it did. -/
def fnExactGainAtUptoRow : OpenClaim := { program := "ytnejeieiemejhaa", sum := "189cd0c2162803b0aff280a499fcd6e49a0ef24433c73db3e515baf4d1562545", func := "loop.example/g01213/laws.FnExactGainAt", spec := "fnExactGainAt", apart := false, narrowed := true }
def FnExactGainAtUptoSaid : Prop := fnExactGainAtUptoRow.holds Try.pinned (OpenSpec.upto fnExactGainAtSpec)

end Rows
end Go.Proofs.Ytnejeieiemejhaa
