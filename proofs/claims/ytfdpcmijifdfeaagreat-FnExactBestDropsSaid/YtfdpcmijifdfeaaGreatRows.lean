/-
  No cell of these rows narrows 'for every input' (looked for: loops, veiled, ifaces, maps, wideKeys, modest, calm, conditions, laid).
  DERIVED. THE GIVEN ROWS OF THIS SEAT. 4 by the template 'for every input the law returns true; each argument reads behind the call as it read before'; 0 by the template 'total and deterministic' (their statements: YtfdpcmijifdfeaaGreatTotals.lean).
  GIVEN WITH THE SEED: the statements are not yours to turn. If you find one false, say at which input.
  Laid BY PROGRAM, IN A SANDBOX (cutbox-rows.mjs): the forced cells as the released guide's own fill.sh prints them over the translation 6a8e076c9032223c… (all of the seat's roots in one cut). By AI agents, Wed Nov 11 2026. No macro, syntax, notation, axiom, sorry.
-/
import Derived.Test.YtfdpcmijifdfeaaGreatChecked
import GoSem.Claim
import GoSem.ClaimJoined
import GoSem.ClaimMapViews
import Derived.JoinedTies
import Derived.KernelRfl
namespace Go.Proofs.YtfdpcmijifdfeaaGreat
/- THE CELL 'sum', in the pinned program and in every row, IS THE sha256 OF THE DUMP (.gsa) THAT YtfdpcmijifdfeaaGreatProg.lean LOADS. Nothing in Lean hashes anything: it is a label: what it is worth is what the hold of that sum in a sandbox is worth. -/
noncomputable def Tryz.pinned : Pinned := { name := "ytfdpcmijifdfeaagreat", sum := "6a8e076c9032223cc5be35ebc78ff907d46b3ac5c0a3c48c476a34f20d6137fe", checked := Tryz.checked }
namespace Rows
def none {H : Type} : Left H := { results := [], args := [] }

/-- 'laws.FnExactCorrectDrops': WHATEVER THE INPUT: true; the input reads as it did. -/
def fnExactCorrectDropsSpec : ChangeSpec := { name := "fnExactCorrectDrops", fn := fun _ => fun
  | [d1, d2, d3, d4] => { results := [.lit (.bool true)], args := [d1, d2, d3, d4] }
  | _ => none }
def fnExactCorrectDropsRow : OpenClaim := { program := "ytfdpcmijifdfeaagreat", sum := "6a8e076c9032223cc5be35ebc78ff907d46b3ac5c0a3c48c476a34f20d6137fe", func := "loop.example/g01213/laws.FnExactCorrectDrops", spec := "fnExactCorrectDrops", inPlace := ["math.sqrt", "math.Float64bits", "math.Float64frombits"], unfollowed := true, recurses := true, apart := false }
def FnExactCorrectDropsSaid : Prop := fnExactCorrectDropsRow.holds Tryz.pinned (OpenSpec.ofChange fnExactCorrectDropsSpec)

/-- ITS FALSE NEIGHBOUR: 'it returns false'. Refute it at one input. -/
def fnExactCorrectDropsWrong : ChangeSpec := { name := "fnExactCorrectDrops", fn := fun _ => fun
  | [d1, d2, d3, d4] => { results := [.lit (.bool false)], args := [d1, d2, d3, d4] }
  | _ => none }
def FnExactCorrectDropsWrongFalsely : Prop := fnExactCorrectDropsRow.holds Tryz.pinned (OpenSpec.ofChange fnExactCorrectDropsWrong)

/-- 'laws.FnExactIsBestBeside': WHATEVER THE INPUT: true; the input reads as it did. -/
def fnExactIsBestBesideSpec : ChangeSpec := { name := "fnExactIsBestBeside", fn := fun _ => fun
  | [d1, d2, d3] => { results := [.lit (.bool true)], args := [d1, d2, d3] }
  | _ => none }
def fnExactIsBestBesideRow : OpenClaim := { program := "ytfdpcmijifdfeaagreat", sum := "6a8e076c9032223cc5be35ebc78ff907d46b3ac5c0a3c48c476a34f20d6137fe", func := "loop.example/g01213/laws.FnExactIsBestBeside", spec := "fnExactIsBestBeside", inPlace := ["math.sqrt", "math.Float64bits", "math.Float64frombits"], unfollowed := true, recurses := true, apart := false }
def FnExactIsBestBesideSaid : Prop := fnExactIsBestBesideRow.holds Tryz.pinned (OpenSpec.ofChange fnExactIsBestBesideSpec)

/-- ITS FALSE NEIGHBOUR: 'it returns false'. Refute it at one input. -/
def fnExactIsBestBesideWrong : ChangeSpec := { name := "fnExactIsBestBeside", fn := fun _ => fun
  | [d1, d2, d3] => { results := [.lit (.bool false)], args := [d1, d2, d3] }
  | _ => none }
def FnExactIsBestBesideWrongFalsely : Prop := fnExactIsBestBesideRow.holds Tryz.pinned (OpenSpec.ofChange fnExactIsBestBesideWrong)

/-- 'laws.FnExactBestDrops': WHATEVER THE INPUT: true; the input reads as it did. -/
def fnExactBestDropsSpec : ChangeSpec := { name := "fnExactBestDrops", fn := fun _ => fun
  | [d1, d2, d3] => { results := [.lit (.bool true)], args := [d1, d2, d3] }
  | _ => none }
def fnExactBestDropsRow : OpenClaim := { program := "ytfdpcmijifdfeaagreat", sum := "6a8e076c9032223cc5be35ebc78ff907d46b3ac5c0a3c48c476a34f20d6137fe", func := "loop.example/g01213/laws.FnExactBestDrops", spec := "fnExactBestDrops", inPlace := ["math.sqrt", "math.Float64bits", "math.Float64frombits"], unfollowed := true, recurses := true, apart := false }
def FnExactBestDropsSaid : Prop := fnExactBestDropsRow.holds Tryz.pinned (OpenSpec.ofChange fnExactBestDropsSpec)

/-- ITS FALSE NEIGHBOUR: 'it returns false'. Refute it at one input. -/
def fnExactBestDropsWrong : ChangeSpec := { name := "fnExactBestDrops", fn := fun _ => fun
  | [d1, d2, d3] => { results := [.lit (.bool false)], args := [d1, d2, d3] }
  | _ => none }
def FnExactBestDropsWrongFalsely : Prop := fnExactBestDropsRow.holds Tryz.pinned (OpenSpec.ofChange fnExactBestDropsWrong)

/-- 'laws.FnExactMatchLook': WHATEVER THE INPUT: true; the input reads as it did. -/
def fnExactMatchLookSpec : ChangeSpec := { name := "fnExactMatchLook", fn := fun _ => fun
  | [d1, d2, d3, d4] => { results := [.lit (.bool true)], args := [d1, d2, d3, d4] }
  | _ => none }
def fnExactMatchLookRow : OpenClaim := { program := "ytfdpcmijifdfeaagreat", sum := "6a8e076c9032223cc5be35ebc78ff907d46b3ac5c0a3c48c476a34f20d6137fe", func := "loop.example/g01213/laws.FnExactMatchLook", spec := "fnExactMatchLook", inPlace := ["math.sqrt", "math.Float64bits", "math.Float64frombits"], unfollowed := true, recurses := true, apart := false }
def FnExactMatchLookSaid : Prop := fnExactMatchLookRow.holds Tryz.pinned (OpenSpec.ofChange fnExactMatchLookSpec)

/-- ITS FALSE NEIGHBOUR: 'it returns false'. Refute it at one input. -/
def fnExactMatchLookWrong : ChangeSpec := { name := "fnExactMatchLook", fn := fun _ => fun
  | [d1, d2, d3, d4] => { results := [.lit (.bool false)], args := [d1, d2, d3, d4] }
  | _ => none }
def FnExactMatchLookWrongFalsely : Prop := fnExactMatchLookRow.holds Tryz.pinned (OpenSpec.ofChange fnExactMatchLookWrong)

/- THE SECOND FORM. 'bulk': how many values and letters a reading holds, each counted each time it is reached (what is shared counts as often as it is met; a slice's spare places count too). A statement '..UptoSaid' is the law's where the arguments, and the package variables that the reading takes, are together of bulk at most 1048576: NARROWER than '..Said'. Prove '..Said' where nothing that the law and all that it calls make is longer than what came in: it says more and counts as full. Else prove '..UptoSaid'. A law counts once. -/
mutual
def uptoBulk {H : Type} : DataW H → Nat
  | .lit (.string bytes) => bytes.length + 1
  | .lit _ => 1
  | .nil => 1
  | .ptr d => uptoBulk d + 1
  | .slice elems spare => uptoBulkAll elems + uptoBulkAll spare + 1
  | .agg parts => uptoBulkAll parts + 1
  | .iface _ d => uptoBulk d + 1
  | .map entries => uptoBulkEntries entries + 1
  | .held _ => 1
def uptoBulkAll {H : Type} : List (DataW H) → Nat
  | [] => 0
  | d :: r => uptoBulk d + uptoBulkAll r
def uptoBulkEntries {H : Type} : List (Lit × DataW H) → Nat
  | [] => 0
  | x :: r => uptoBulkEntry x + uptoBulkEntries r
def uptoBulkEntry {H : Type} : Lit × DataW H → Nat
  | (.string bytes, d) => bytes.length + uptoBulk d + 1
  | (_, d) => uptoBulk d + 1
 end
def uptoSmall : (H : Type) → List (DataW H) → Bool := fun _ ds => decide (uptoBulkAll ds ≤ 1048576)
def OpenSpec.upto (s : _root_.Go.ChangeSpec) : _root_.Go.OpenSpec := { _root_.Go.OpenSpec.ofChange s with cond := some uptoSmall }

/-- 'laws.FnExactCorrectDrops', WHERE WHAT IT READS IS OF BULK AT MOST 1048576: true; the input reads as it did. -/
def fnExactCorrectDropsUptoRow : OpenClaim := { program := "ytfdpcmijifdfeaagreat", sum := "6a8e076c9032223cc5be35ebc78ff907d46b3ac5c0a3c48c476a34f20d6137fe", func := "loop.example/g01213/laws.FnExactCorrectDrops", spec := "fnExactCorrectDrops", inPlace := ["math.sqrt", "math.Float64bits", "math.Float64frombits"], unfollowed := true, recurses := true, apart := false, narrowed := true }
def FnExactCorrectDropsUptoSaid : Prop := fnExactCorrectDropsUptoRow.holds Tryz.pinned (OpenSpec.upto fnExactCorrectDropsSpec)

/-- 'laws.FnExactIsBestBeside', WHERE WHAT IT READS IS OF BULK AT MOST 1048576: true; the input reads as it did. -/
def fnExactIsBestBesideUptoRow : OpenClaim := { program := "ytfdpcmijifdfeaagreat", sum := "6a8e076c9032223cc5be35ebc78ff907d46b3ac5c0a3c48c476a34f20d6137fe", func := "loop.example/g01213/laws.FnExactIsBestBeside", spec := "fnExactIsBestBeside", inPlace := ["math.sqrt", "math.Float64bits", "math.Float64frombits"], unfollowed := true, recurses := true, apart := false, narrowed := true }
def FnExactIsBestBesideUptoSaid : Prop := fnExactIsBestBesideUptoRow.holds Tryz.pinned (OpenSpec.upto fnExactIsBestBesideSpec)

/-- 'laws.FnExactBestDrops', WHERE WHAT IT READS IS OF BULK AT MOST 1048576: true; the input reads as it did. -/
def fnExactBestDropsUptoRow : OpenClaim := { program := "ytfdpcmijifdfeaagreat", sum := "6a8e076c9032223cc5be35ebc78ff907d46b3ac5c0a3c48c476a34f20d6137fe", func := "loop.example/g01213/laws.FnExactBestDrops", spec := "fnExactBestDrops", inPlace := ["math.sqrt", "math.Float64bits", "math.Float64frombits"], unfollowed := true, recurses := true, apart := false, narrowed := true }
def FnExactBestDropsUptoSaid : Prop := fnExactBestDropsUptoRow.holds Tryz.pinned (OpenSpec.upto fnExactBestDropsSpec)

/-- 'laws.FnExactMatchLook', WHERE WHAT IT READS IS OF BULK AT MOST 1048576: true; the input reads as it did. -/
def fnExactMatchLookUptoRow : OpenClaim := { program := "ytfdpcmijifdfeaagreat", sum := "6a8e076c9032223cc5be35ebc78ff907d46b3ac5c0a3c48c476a34f20d6137fe", func := "loop.example/g01213/laws.FnExactMatchLook", spec := "fnExactMatchLook", inPlace := ["math.sqrt", "math.Float64bits", "math.Float64frombits"], unfollowed := true, recurses := true, apart := false, narrowed := true }
def FnExactMatchLookUptoSaid : Prop := fnExactMatchLookUptoRow.holds Tryz.pinned (OpenSpec.upto fnExactMatchLookSpec)

end Rows
end Go.Proofs.YtfdpcmijifdfeaaGreat
