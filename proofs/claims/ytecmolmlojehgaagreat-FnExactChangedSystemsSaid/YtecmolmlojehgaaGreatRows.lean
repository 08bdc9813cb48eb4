/-
  No cell of these rows narrows 'for every input' (looked for: loops, veiled, ifaces, maps, wideKeys, modest, calm, conditions, laid).
  DERIVED. THE GIVEN ROWS OF THIS SEAT. 4 by the template 'for every input the law returns true; each argument reads behind the call as it read before'; 0 by the template 'total and deterministic' (their statements: YtecmolmlojehgaaGreatTotals.lean).
  GIVEN WITH THE SEED: the statements are not yours to turn. If you find one false, say at which input.
  Laid BY PROGRAM, IN A SANDBOX (cutbox-rows.mjs): the forced cells as the released guide's own fill.sh prints them over the translation 71575acab33a5f4b… (all of the seat's roots in one cut). By AI agents, Wed Nov 11 2026. No macro, syntax, notation, axiom, sorry.
-/
import Derived.Test.YtecmolmlojehgaaGreatChecked
import GoSem.Claim
import GoSem.ClaimJoined
import GoSem.ClaimMapViews
import Derived.JoinedTies
import Derived.KernelRfl
namespace Go.Proofs.YtecmolmlojehgaaGreat
/- THE CELL 'sum', in the pinned program and in every row, IS THE sha256 OF THE DUMP (.gsa) THAT YtecmolmlojehgaaGreatProg.lean LOADS. Nothing in Lean hashes anything: it is a label: what it is worth is what the hold of that sum in a sandbox is worth. -/
noncomputable def Tryz.pinned : Pinned := { name := "ytecmolmlojehgaagreat", sum := "71575acab33a5f4b6e06807c5db408c847bbf7bf3d8ea00642a1e062a95040b2", checked := Tryz.checked }
namespace Rows
def none {H : Type} : Left H := { results := [], args := [] }

/-- 'laws.FnCatalogues': WHATEVER THE INPUT: true; the input reads as it did. -/
def fnCataloguesSpec : ChangeSpec := { name := "fnCatalogues", fn := fun _ => fun
  | [d1, d2] => { results := [.lit (.bool true)], args := [d1, d2] }
  | _ => none }
def fnCataloguesRow : OpenClaim := { program := "ytecmolmlojehgaagreat", sum := "71575acab33a5f4b6e06807c5db408c847bbf7bf3d8ea00642a1e062a95040b2", func := "loop.example/g01009/laws.FnCatalogues", spec := "fnCatalogues", inPlace := ["internal/bytealg.abigen_runtime_cmpstring", "slices.overlaps[loop.example/g01009/impl.Entry]"], unfollowed := true, recurses := true, apart := false }
def FnCataloguesSaid : Prop := fnCataloguesRow.holds Tryz.pinned (OpenSpec.ofChange fnCataloguesSpec)

/-- ITS FALSE NEIGHBOUR: 'it returns false'. Refute it at one input. -/
def fnCataloguesWrong : ChangeSpec := { name := "fnCatalogues", fn := fun _ => fun
  | [d1, d2] => { results := [.lit (.bool false)], args := [d1, d2] }
  | _ => none }
def FnCataloguesWrongFalsely : Prop := fnCataloguesRow.holds Tryz.pinned (OpenSpec.ofChange fnCataloguesWrong)

/-- 'laws.FnExactPutSystem': WHATEVER THE INPUT: true; the input reads as it did. -/
def fnExactPutSystemSpec : ChangeSpec := { name := "fnExactPutSystem", fn := fun _ => fun
  | [d1, d2, d3, d4] => { results := [.lit (.bool true)], args := [d1, d2, d3, d4] }
  | _ => none }
def fnExactPutSystemRow : OpenClaim := { program := "ytecmolmlojehgaagreat", sum := "71575acab33a5f4b6e06807c5db408c847bbf7bf3d8ea00642a1e062a95040b2", func := "loop.example/g01009/laws.FnExactPutSystem", spec := "fnExactPutSystem", inPlace := ["internal/bytealg.abigen_runtime_cmpstring", "slices.overlaps[loop.example/g01009/impl.Entry]"], unfollowed := true, recurses := true, apart := false }
def FnExactPutSystemSaid : Prop := fnExactPutSystemRow.holds Tryz.pinned (OpenSpec.ofChange fnExactPutSystemSpec)

/-- ITS FALSE NEIGHBOUR: 'it returns false'. Refute it at one input. -/
def fnExactPutSystemWrong : ChangeSpec := { name := "fnExactPutSystem", fn := fun _ => fun
  | [d1, d2, d3, d4] => { results := [.lit (.bool false)], args := [d1, d2, d3, d4] }
  | _ => none }
def FnExactPutSystemWrongFalsely : Prop := fnExactPutSystemRow.holds Tryz.pinned (OpenSpec.ofChange fnExactPutSystemWrong)

/-- 'laws.FnExactJoinCatalogues': WHATEVER THE INPUT: true; the input reads as it did. -/
def fnExactJoinCataloguesSpec : ChangeSpec := { name := "fnExactJoinCatalogues", fn := fun _ => fun
  | [d1, d2] => { results := [.lit (.bool true)], args := [d1, d2] }
  | _ => none }
def fnExactJoinCataloguesRow : OpenClaim := { program := "ytecmolmlojehgaagreat", sum := "71575acab33a5f4b6e06807c5db408c847bbf7bf3d8ea00642a1e062a95040b2", func := "loop.example/g01009/laws.FnExactJoinCatalogues", spec := "fnExactJoinCatalogues", inPlace := ["internal/bytealg.abigen_runtime_cmpstring", "slices.overlaps[loop.example/g01009/impl.Entry]"], unfollowed := true, recurses := true, apart := false }
def FnExactJoinCataloguesSaid : Prop := fnExactJoinCataloguesRow.holds Tryz.pinned (OpenSpec.ofChange fnExactJoinCataloguesSpec)

/-- ITS FALSE NEIGHBOUR: 'it returns false'. Refute it at one input. -/
def fnExactJoinCataloguesWrong : ChangeSpec := { name := "fnExactJoinCatalogues", fn := fun _ => fun
  | [d1, d2] => { results := [.lit (.bool false)], args := [d1, d2] }
  | _ => none }
def FnExactJoinCataloguesWrongFalsely : Prop := fnExactJoinCataloguesRow.holds Tryz.pinned (OpenSpec.ofChange fnExactJoinCataloguesWrong)

/-- 'laws.FnExactChangedSystems': WHATEVER THE INPUT: true; the input reads as it did. -/
def fnExactChangedSystemsSpec : ChangeSpec := { name := "fnExactChangedSystems", fn := fun _ => fun
  | [d1, d2] => { results := [.lit (.bool true)], args := [d1, d2] }
  | _ => none }
def fnExactChangedSystemsRow : OpenClaim := { program := "ytecmolmlojehgaagreat", sum := "71575acab33a5f4b6e06807c5db408c847bbf7bf3d8ea00642a1e062a95040b2", func := "loop.example/g01009/laws.FnExactChangedSystems", spec := "fnExactChangedSystems", inPlace := ["internal/bytealg.abigen_runtime_cmpstring"], unfollowed := true, recurses := true, apart := false }
def FnExactChangedSystemsSaid : Prop := fnExactChangedSystemsRow.holds Tryz.pinned (OpenSpec.ofChange fnExactChangedSystemsSpec)

/-- ITS FALSE NEIGHBOUR: 'it returns false'. Refute it at one input. -/
def fnExactChangedSystemsWrong : ChangeSpec := { name := "fnExactChangedSystems", fn := fun _ => fun
  | [d1, d2] => { results := [.lit (.bool false)], args := [d1, d2] }
  | _ => none }
def FnExactChangedSystemsWrongFalsely : Prop := fnExactChangedSystemsRow.holds Tryz.pinned (OpenSpec.ofChange fnExactChangedSystemsWrong)

/- THE SECOND FORM. 'bulk': how many values and letters a reading holds, each counted each time it is reached (what is shared counts as often as it is met; a slice's spare places count too). A statement '..UptoSaid' is the law's where the arguments, and the package variables that the reading takes, are together of bulk at most 1048576: NARROWER than '..Said'. Prove '..Said' where nothing that the law and all that it calls make is longer than what came in: it says more and counts as full. Else prove '..UptoSaid'. A law counts once. -/
mutual
def uptoBulk {H : Type} : DataW H → Nat
  | .lit (.string bytes) => bytes.length + 1
  | .lit _ => 1
  | .nil => 1
  | .ptr d => uptoBulk d + 1
  | .slice elems spare => uptoBulkAll elems + uptoBulkAll spare + 1
  | .agg parts => uptoBulkAll parts + 1
  | .iface _ d => uptoBulk d + 1
  | .map entries => uptoBulkEntries entries + 1
  | .held _ => 1
def uptoBulkAll {H : Type} : List (DataW H) → Nat
  | [] => 0
  | d :: r => uptoBulk d + uptoBulkAll r
def uptoBulkEntries {H : Type} : List (Lit × DataW H) → Nat
  | [] => 0
  | x :: r => uptoBulkEntry x + uptoBulkEntries r
def uptoBulkEntry {H : Type} : Lit × DataW H → Nat
  | (.string bytes, d) => bytes.length + uptoBulk d + 1
  | (_, d) => uptoBulk d + 1
 end
def uptoSmall : (H : Type) → List (DataW H) → Bool := fun _ ds => decide (uptoBulkAll ds ≤ 1048576)
def OpenSpec.upto (s : _root_.Go.ChangeSpec) : _root_.Go.OpenSpec := { _root_.Go.OpenSpec.ofChange s with cond := some uptoSmall }

/-- 'laws.FnCatalogues', WHERE WHAT IT READS IS OF BULK AT MOST 1048576: true; the input reads as it did. -/
def fnCataloguesUptoRow : OpenClaim := { program := "ytecmolmlojehgaagreat", sum := "71575acab33a5f4b6e06807c5db408c847bbf7bf3d8ea00642a1e062a95040b2", func := "loop.example/g01009/laws.FnCatalogues", spec := "fnCatalogues", inPlace := ["internal/bytealg.abigen_runtime_cmpstring", "slices.overlaps[loop.example/g01009/impl.Entry]"], unfollowed := true, recurses := true, apart := false, narrowed := true }
def FnCataloguesUptoSaid : Prop := fnCataloguesUptoRow.holds Tryz.pinned (OpenSpec.upto fnCataloguesSpec)

/-- 'laws.FnExactPutSystem', WHERE WHAT IT READS IS OF BULK AT MOST 1048576: true; the input reads as it did. -/
def fnExactPutSystemUptoRow : OpenClaim := { program := "ytecmolmlojehgaagreat", sum := "71575acab33a5f4b6e06807c5db408c847bbf7bf3d8ea00642a1e062a95040b2", func := "loop.example/g01009/laws.FnExactPutSystem", spec := "fnExactPutSystem", inPlace := ["internal/bytealg.abigen_runtime_cmpstring", "slices.overlaps[loop.example/g01009/impl.Entry]"], unfollowed := true, recurses := true, apart := false, narrowed := true }
def FnExactPutSystemUptoSaid : Prop := fnExactPutSystemUptoRow.holds Tryz.pinned (OpenSpec.upto fnExactPutSystemSpec)

/-- 'laws.FnExactJoinCatalogues', WHERE WHAT IT READS IS OF BULK AT MOST 1048576: true; the input reads as it did. -/
def fnExactJoinCataloguesUptoRow : OpenClaim := { program := "ytecmolmlojehgaagreat", sum := "71575acab33a5f4b6e06807c5db408c847bbf7bf3d8ea00642a1e062a95040b2", func := "loop.example/g01009/laws.FnExactJoinCatalogues", spec := "fnExactJoinCatalogues", inPlace := ["internal/bytealg.abigen_runtime_cmpstring", "slices.overlaps[loop.example/g01009/impl.Entry]"], unfollowed := true, recurses := true, apart := false, narrowed := true }
def FnExactJoinCataloguesUptoSaid : Prop := fnExactJoinCataloguesUptoRow.holds Tryz.pinned (OpenSpec.upto fnExactJoinCataloguesSpec)

/-- 'laws.FnExactChangedSystems', WHERE WHAT IT READS IS OF BULK AT MOST 1048576: true; the input reads as it did. -/
def fnExactChangedSystemsUptoRow : OpenClaim := { program := "ytecmolmlojehgaagreat", sum := "71575acab33a5f4b6e06807c5db408c847bbf7bf3d8ea00642a1e062a95040b2", func := "loop.example/g01009/laws.FnExactChangedSystems", spec := "fnExactChangedSystems", inPlace := ["internal/bytealg.abigen_runtime_cmpstring"], unfollowed := true, recurses := true, apart := false, narrowed := true }
def FnExactChangedSystemsUptoSaid : Prop := fnExactChangedSystemsUptoRow.holds Tryz.pinned (OpenSpec.upto fnExactChangedSystemsSpec)

end Rows
end Go.Proofs.YtecmolmlojehgaaGreat
