/-
  No cell of these rows narrows 'for every input' (looked for: loops, veiled, ifaces, maps, wideKeys, modest, calm, conditions, laid).
  DERIVED. THE GIVEN ROWS OF THIS SEAT. 6 by the template 'for every input the law returns true; each argument reads behind the call as it read before'; 0 by the template 'total and deterministic' (their statements: YtgfdplkgcnciiaaTotals.lean).
  GIVEN WITH THE SEED: the statements are not yours to turn. If you find one false, say at which input.
  Laid BY PROGRAM, IN A SANDBOX (cutbox-rows.mjs): the forced cells as the released guide's own fill.sh prints them over the translation b24a95f406a7cc3d… (all of the seat's roots in one cut). By AI agents, Wed Nov 11 2026. No macro, syntax, notation, axiom, sorry.
-/
import Derived.Test.YtgfdplkgcnciiaaChecked
import GoSem.Claim
import GoSem.ClaimJoined
import GoSem.ClaimMapViews
import Derived.JoinedTies
import Derived.KernelRfl
namespace Go.Proofs.Ytgfdplkgcnciiaa
/- THE CELL 'sum', in the pinned program and in every row, IS THE sha256 OF THE DUMP (.gsa) THAT YtgfdplkgcnciiaaProg.lean LOADS. Nothing in Lean hashes anything: it is a label: what it is worth is what the hold of that sum in a sandbox is worth. -/
noncomputable def Try.pinned : Pinned := { name := "ytgfdplkgcnciiaa", sum := "b24a95f406a7cc3d177812848e017097078bc5209bbbc0ba1b3787934fb28d8a", checked := Try.checked }
namespace Rows
def none {H : Type} : Left H := { results := [], args := [] }

/-- 'laws.FnMergeLayers': WHATEVER THE INPUT: true; the input reads as it did. -/
def fnMergeLayersSpec : ChangeSpec := { name := "fnMergeLayers", fn := fun _ => fun
  | [d] => { results := [.lit (.bool true)], args := [d] }
  | _ => none }
def fnMergeLayersRow : OpenClaim := { program := "ytgfdplkgcnciiaa", sum := "b24a95f406a7cc3d177812848e017097078bc5209bbbc0ba1b3787934fb28d8a", func := "loop.example/icecores/laws.FnMergeLayers", spec := "fnMergeLayers", apart := false }
def FnMergeLayersSaid : Prop := fnMergeLayersRow.holds Try.pinned (OpenSpec.ofChange fnMergeLayersSpec)

/-- ITS FALSE NEIGHBOUR: 'it returns false'. Refute it at one input. -/
def fnMergeLayersWrong : ChangeSpec := { name := "fnMergeLayers", fn := fun _ => fun
  | [d] => { results := [.lit (.bool false)], args := [d] }
  | _ => none }
def FnMergeLayersWrongFalsely : Prop := fnMergeLayersRow.holds Try.pinned (OpenSpec.ofChange fnMergeLayersWrong)

/-- 'laws.FnMergeLayersAgain': WHATEVER THE INPUT: true; the input reads as it did. -/
def fnMergeLayersAgainSpec : ChangeSpec := { name := "fnMergeLayersAgain", fn := fun _ => fun
  | [d] => { results := [.lit (.bool true)], args := [d] }
  | _ => none }
def fnMergeLayersAgainRow : OpenClaim := { program := "ytgfdplkgcnciiaa", sum := "b24a95f406a7cc3d177812848e017097078bc5209bbbc0ba1b3787934fb28d8a", func := "loop.example/icecores/laws.FnMergeLayersAgain", spec := "fnMergeLayersAgain", apart := false }
def FnMergeLayersAgainSaid : Prop := fnMergeLayersAgainRow.holds Try.pinned (OpenSpec.ofChange fnMergeLayersAgainSpec)

/-- ITS FALSE NEIGHBOUR: 'it returns false'. Refute it at one input. -/
def fnMergeLayersAgainWrong : ChangeSpec := { name := "fnMergeLayersAgain", fn := fun _ => fun
  | [d] => { results := [.lit (.bool false)], args := [d] }
  | _ => none }
def FnMergeLayersAgainWrongFalsely : Prop := fnMergeLayersAgainRow.holds Try.pinned (OpenSpec.ofChange fnMergeLayersAgainWrong)

/-- 'laws.FnMergeLayersThree': WHATEVER THE INPUT: true; the input reads as it did. -/
def fnMergeLayersThreeSpec : ChangeSpec := { name := "fnMergeLayersThree", fn := fun _ => fun
  | [d] => { results := [.lit (.bool true)], args := [d] }
  | _ => none }
def fnMergeLayersThreeRow : OpenClaim := { program := "ytgfdplkgcnciiaa", sum := "b24a95f406a7cc3d177812848e017097078bc5209bbbc0ba1b3787934fb28d8a", func := "loop.example/icecores/laws.FnMergeLayersThree", spec := "fnMergeLayersThree", apart := false }
def FnMergeLayersThreeSaid : Prop := fnMergeLayersThreeRow.holds Try.pinned (OpenSpec.ofChange fnMergeLayersThreeSpec)

/-- ITS FALSE NEIGHBOUR: 'it returns false'. Refute it at one input. -/
def fnMergeLayersThreeWrong : ChangeSpec := { name := "fnMergeLayersThree", fn := fun _ => fun
  | [d] => { results := [.lit (.bool false)], args := [d] }
  | _ => none }
def FnMergeLayersThreeWrongFalsely : Prop := fnMergeLayersThreeRow.holds Try.pinned (OpenSpec.ofChange fnMergeLayersThreeWrong)

/-- 'laws.FnExactLayersMerge': WHATEVER THE INPUT: true; the input reads as it did. -/
def fnExactLayersMergeSpec : ChangeSpec := { name := "fnExactLayersMerge", fn := fun _ => fun
  | [d1, d2] => { results := [.lit (.bool true)], args := [d1, d2] }
  | _ => none }
def fnExactLayersMergeRow : OpenClaim := { program := "ytgfdplkgcnciiaa", sum := "b24a95f406a7cc3d177812848e017097078bc5209bbbc0ba1b3787934fb28d8a", func := "loop.example/icecores/laws.FnExactLayersMerge", spec := "fnExactLayersMerge", apart := false }
def FnExactLayersMergeSaid : Prop := fnExactLayersMergeRow.holds Try.pinned (OpenSpec.ofChange fnExactLayersMergeSpec)

/-- ITS FALSE NEIGHBOUR: 'it returns false'. Refute it at one input. -/
def fnExactLayersMergeWrong : ChangeSpec := { name := "fnExactLayersMerge", fn := fun _ => fun
  | [d1, d2] => { results := [.lit (.bool false)], args := [d1, d2] }
  | _ => none }
def FnExactLayersMergeWrongFalsely : Prop := fnExactLayersMergeRow.holds Try.pinned (OpenSpec.ofChange fnExactLayersMergeWrong)

/-- 'laws.FnMergeLayersCount': WHATEVER THE INPUT: true; the input reads as it did. -/
def fnMergeLayersCountSpec : ChangeSpec := { name := "fnMergeLayersCount", fn := fun _ => fun
  | [d1, d2] => { results := [.lit (.bool true)], args := [d1, d2] }
  | _ => none }
def fnMergeLayersCountRow : OpenClaim := { program := "ytgfdplkgcnciiaa", sum := "b24a95f406a7cc3d177812848e017097078bc5209bbbc0ba1b3787934fb28d8a", func := "loop.example/icecores/laws.FnMergeLayersCount", spec := "fnMergeLayersCount", apart := false }
def FnMergeLayersCountSaid : Prop := fnMergeLayersCountRow.holds Try.pinned (OpenSpec.ofChange fnMergeLayersCountSpec)

/-- ITS FALSE NEIGHBOUR: 'it returns false'. Refute it at one input. -/
def fnMergeLayersCountWrong : ChangeSpec := { name := "fnMergeLayersCount", fn := fun _ => fun
  | [d1, d2] => { results := [.lit (.bool false)], args := [d1, d2] }
  | _ => none }
def FnMergeLayersCountWrongFalsely : Prop := fnMergeLayersCountRow.holds Try.pinned (OpenSpec.ofChange fnMergeLayersCountWrong)

/-- 'laws.FnAgeMerge': WHATEVER THE INPUT: true; the input reads as it did. -/
def fnAgeMergeSpec : ChangeSpec := { name := "fnAgeMerge", fn := fun _ => fun
  | [d1, d2] => { results := [.lit (.bool true)], args := [d1, d2] }
  | _ => none }
def fnAgeMergeRow : OpenClaim := { program := "ytgfdplkgcnciiaa", sum := "b24a95f406a7cc3d177812848e017097078bc5209bbbc0ba1b3787934fb28d8a", func := "loop.example/icecores/laws.FnAgeMerge", spec := "fnAgeMerge", apart := false }
def FnAgeMergeSaid : Prop := fnAgeMergeRow.holds Try.pinned (OpenSpec.ofChange fnAgeMergeSpec)

/-- ITS FALSE NEIGHBOUR: 'it returns false'. Refute it at one input. -/
def fnAgeMergeWrong : ChangeSpec := { name := "fnAgeMerge", fn := fun _ => fun
  | [d1, d2] => { results := [.lit (.bool false)], args := [d1, d2] }
  | _ => none }
def FnAgeMergeWrongFalsely : Prop := fnAgeMergeRow.holds Try.pinned (OpenSpec.ofChange fnAgeMergeWrong)

/- THE SECOND FORM. 'bulk': how many values and letters a reading holds, each counted each time it is reached (what is shared counts as often as it is met; a slice's spare places count too). A statement '..UptoSaid' is the law's where the arguments, and the package variables that the reading takes, are together of bulk at most 1048576: NARROWER than '..Said'. Prove '..Said' where nothing that the law and all that it calls make is longer than what came in: it says more and counts as full. Else prove '..UptoSaid'. A law counts once. -/
mutual
def uptoBulk {H : Type} : DataW H → Nat
  | .lit (.string bytes) => bytes.length + 1
  | .lit _ => 1
  | .nil => 1
  | .ptr d => uptoBulk d + 1
  | .slice elems spare => uptoBulkAll elems + uptoBulkAll spare + 1
  | .agg parts => uptoBulkAll parts + 1
  | .iface _ d => uptoBulk d + 1
  | .map entries => uptoBulkEntries entries + 1
  | .held _ => 1
def uptoBulkAll {H : Type} : List (DataW H) → Nat
  | [] => 0
  | d :: r => uptoBulk d + uptoBulkAll r
def uptoBulkEntries {H : Type} : List (Lit × DataW H) → Nat
  | [] => 0
  | x :: r => uptoBulkEntry x + uptoBulkEntries r
def uptoBulkEntry {H : Type} : Lit × DataW H → Nat
  | (.string bytes, d) => bytes.length + uptoBulk d + 1
  | (_, d) => uptoBulk d + 1
 end
def uptoSmall : (H : Type) → List (DataW H) → Bool := fun _ ds => decide (uptoBulkAll ds ≤ 1048576)
def OpenSpec.upto (s : _root_.Go.ChangeSpec) : _root_.Go.OpenSpec := { _root_.Go.OpenSpec.ofChange s with cond := some uptoSmall }

/-- 'laws.FnMergeLayers', WHERE WHAT IT READS IS OF BULK AT MOST 1048576: true; the input reads as it did. -/
def fnMergeLayersUptoRow : OpenClaim := { program := "ytgfdplkgcnciiaa", sum := "b24a95f406a7cc3d177812848e017097078bc5209bbbc0ba1b3787934fb28d8a", func := "loop.example/icecores/laws.FnMergeLayers", spec := "fnMergeLayers", apart := false, narrowed := true }
def FnMergeLayersUptoSaid : Prop := fnMergeLayersUptoRow.holds Try.pinned (OpenSpec.upto fnMergeLayersSpec)

/-- 'laws.FnMergeLayersAgain', WHERE WHAT IT READS IS OF BULK AT MOST 1048576: true; the input reads as it did. -/
def fnMergeLayersAgainUptoRow : OpenClaim := { program := "ytgfdplkgcnciiaa", sum := "b24a95f406a7cc3d177812848e017097078bc5209bbbc0ba1b3787934fb28d8a", func := "loop.example/icecores/laws.FnMergeLayersAgain", spec := "fnMergeLayersAgain", apart := false, narrowed := true }
def FnMergeLayersAgainUptoSaid : Prop := fnMergeLayersAgainUptoRow.holds Try.pinned (OpenSpec.upto fnMergeLayersAgainSpec)

/-- 'laws.FnMergeLayersThree', WHERE WHAT IT READS IS OF BULK AT MOST 1048576: true; the input reads as it did. -/
def fnMergeLayersThreeUptoRow : OpenClaim := { program := "ytgfdplkgcnciiaa", sum := "b24a95f406a7cc3d177812848e017097078bc5209bbbc0ba1b3787934fb28d8a", func := "loop.example/icecores/laws.FnMergeLayersThree", spec := "fnMergeLayersThree", apart := false, narrowed := true }
def FnMergeLayersThreeUptoSaid : Prop := fnMergeLayersThreeUptoRow.holds Try.pinned (OpenSpec.upto fnMergeLayersThreeSpec)

/-- 'laws.FnExactLayersMerge', WHERE WHAT IT READS IS OF BULK AT MOST 1048576: true; the input reads as it did. -/
def fnExactLayersMergeUptoRow : OpenClaim := { program := "ytgfdplkgcnciiaa", sum := "b24a95f406a7cc3d177812848e017097078bc5209bbbc0ba1b3787934fb28d8a", func := "loop.example/icecores/laws.FnExactLayersMerge", spec := "fnExactLayersMerge", apart := false, narrowed := true }
def FnExactLayersMergeUptoSaid : Prop := fnExactLayersMergeUptoRow.holds Try.pinned (OpenSpec.upto fnExactLayersMergeSpec)

/-- 'laws.FnMergeLayersCount', WHERE WHAT IT READS IS OF BULK AT MOST 1048576: true; the input reads as it did. -/
def fnMergeLayersCountUptoRow : OpenClaim := { program := "ytgfdplkgcnciiaa", sum := "b24a95f406a7cc3d177812848e017097078bc5209bbbc0ba1b3787934fb28d8a", func := "loop.example/icecores/laws.FnMergeLayersCount", spec := "fnMergeLayersCount", apart := false, narrowed := true }
def FnMergeLayersCountUptoSaid : Prop := fnMergeLayersCountUptoRow.holds Try.pinned (OpenSpec.upto fnMergeLayersCountSpec)

/-- 'laws.FnAgeMerge', WHERE WHAT IT READS IS OF BULK AT MOST 1048576: true; the input reads as it did. -/
def fnAgeMergeUptoRow : OpenClaim := { program := "ytgfdplkgcnciiaa", sum := "b24a95f406a7cc3d177812848e017097078bc5209bbbc0ba1b3787934fb28d8a", func := "loop.example/icecores/laws.FnAgeMerge", spec := "fnAgeMerge", apart := false, narrowed := true }
def FnAgeMergeUptoSaid : Prop := fnAgeMergeUptoRow.holds Try.pinned (OpenSpec.upto fnAgeMergeSpec)

end Rows
end Go.Proofs.Ytgfdplkgcnciiaa
