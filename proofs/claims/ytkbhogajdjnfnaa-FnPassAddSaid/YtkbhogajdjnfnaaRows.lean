/-
  No cell of these rows narrows 'for every input' (looked for: loops, veiled, ifaces, maps, wideKeys, modest, calm, conditions, laid).
  DERIVED. THE GIVEN ROWS OF THIS SEAT. 12 by the template 'for every input the law returns true; each argument reads behind the call as it read before'; 0 by the template 'total and deterministic' (their statements: YtkbhogajdjnfnaaTotals.lean).
  GIVEN WITH THE SEED: the statements are not yours to turn. If you find one false, say at which input.
  Laid BY PROGRAM, IN A SANDBOX (cutbox-rows.mjs): the forced cells as the released guide's own fill.sh prints them over the translation 97b806a20c5e5a65… (all of the seat's roots in one cut). By AI agents, Wed Nov 11 2026. No macro, syntax, notation, axiom, sorry.
-/
import Derived.Test.YtkbhogajdjnfnaaChecked
import GoSem.Claim
import GoSem.ClaimJoined
import GoSem.ClaimMapViews
import Derived.JoinedTies
import Derived.KernelRfl
namespace Go.Proofs.Ytkbhogajdjnfnaa
/- THE CELL 'sum', in the pinned program and in every row, IS THE sha256 OF THE DUMP (.gsa) THAT YtkbhogajdjnfnaaProg.lean LOADS. Nothing in Lean hashes anything: it is a label: what it is worth is what the hold of that sum in a sandbox is worth. -/
noncomputable def Try.pinned : Pinned := { name := "ytkbhogajdjnfnaa", sum := "97b806a20c5e5a65c4cb5473b548783d8953a9e4a1754b7575a01e2d2b701314", checked := Try.checked }
namespace Rows
def none {H : Type} : Left H := { results := [], args := [] }

/-- 'laws.FnExactSmoothSum': WHATEVER THE INPUT: true; the input reads as it did. -/
def fnExactSmoothSumSpec : ChangeSpec := { name := "fnExactSmoothSum", fn := fun _ => fun
  | [d] => { results := [.lit (.bool true)], args := [d] }
  | _ => none }
def fnExactSmoothSumRow : OpenClaim := { program := "ytkbhogajdjnfnaa", sum := "97b806a20c5e5a65c4cb5473b548783d8953a9e4a1754b7575a01e2d2b701314", func := "loop.example/icecores/laws.FnExactSmoothSum", spec := "fnExactSmoothSum", apart := false }
def FnExactSmoothSumSaid : Prop := fnExactSmoothSumRow.holds Try.pinned (OpenSpec.ofChange fnExactSmoothSumSpec)

/-- ITS FALSE NEIGHBOUR: 'it returns false'. Refute it at one input. -/
def fnExactSmoothSumWrong : ChangeSpec := { name := "fnExactSmoothSum", fn := fun _ => fun
  | [d] => { results := [.lit (.bool false)], args := [d] }
  | _ => none }
def FnExactSmoothSumWrongFalsely : Prop := fnExactSmoothSumRow.holds Try.pinned (OpenSpec.ofChange fnExactSmoothSumWrong)

/-- 'laws.FnExactSmoothRough': WHATEVER THE INPUT: true; the input reads as it did. -/
def fnExactSmoothRoughSpec : ChangeSpec := { name := "fnExactSmoothRough", fn := fun _ => fun
  | [d] => { results := [.lit (.bool true)], args := [d] }
  | _ => none }
def fnExactSmoothRoughRow : OpenClaim := { program := "ytkbhogajdjnfnaa", sum := "97b806a20c5e5a65c4cb5473b548783d8953a9e4a1754b7575a01e2d2b701314", func := "loop.example/icecores/laws.FnExactSmoothRough", spec := "fnExactSmoothRough", apart := false }
def FnExactSmoothRoughSaid : Prop := fnExactSmoothRoughRow.holds Try.pinned (OpenSpec.ofChange fnExactSmoothRoughSpec)

/-- ITS FALSE NEIGHBOUR: 'it returns false'. Refute it at one input. -/
def fnExactSmoothRoughWrong : ChangeSpec := { name := "fnExactSmoothRough", fn := fun _ => fun
  | [d] => { results := [.lit (.bool false)], args := [d] }
  | _ => none }
def FnExactSmoothRoughWrongFalsely : Prop := fnExactSmoothRoughRow.holds Try.pinned (OpenSpec.ofChange fnExactSmoothRoughWrong)

/-- 'laws.FnExactSmoothRange': WHATEVER THE INPUT: true; the input reads as it did. -/
def fnExactSmoothRangeSpec : ChangeSpec := { name := "fnExactSmoothRange", fn := fun _ => fun
  | [d] => { results := [.lit (.bool true)], args := [d] }
  | _ => none }
def fnExactSmoothRangeRow : OpenClaim := { program := "ytkbhogajdjnfnaa", sum := "97b806a20c5e5a65c4cb5473b548783d8953a9e4a1754b7575a01e2d2b701314", func := "loop.example/icecores/laws.FnExactSmoothRange", spec := "fnExactSmoothRange", apart := false }
def FnExactSmoothRangeSaid : Prop := fnExactSmoothRangeRow.holds Try.pinned (OpenSpec.ofChange fnExactSmoothRangeSpec)

/-- ITS FALSE NEIGHBOUR: 'it returns false'. Refute it at one input. -/
def fnExactSmoothRangeWrong : ChangeSpec := { name := "fnExactSmoothRange", fn := fun _ => fun
  | [d] => { results := [.lit (.bool false)], args := [d] }
  | _ => none }
def FnExactSmoothRangeWrongFalsely : Prop := fnExactSmoothRangeRow.holds Try.pinned (OpenSpec.ofChange fnExactSmoothRangeWrong)

/-- 'laws.FnSumRange': WHATEVER THE INPUT: true; the input reads as it did. -/
def fnSumRangeSpec : ChangeSpec := { name := "fnSumRange", fn := fun _ => fun
  | [d] => { results := [.lit (.bool true)], args := [d] }
  | _ => none }
def fnSumRangeRow : OpenClaim := { program := "ytkbhogajdjnfnaa", sum := "97b806a20c5e5a65c4cb5473b548783d8953a9e4a1754b7575a01e2d2b701314", func := "loop.example/icecores/laws.FnSumRange", spec := "fnSumRange", apart := false }
def FnSumRangeSaid : Prop := fnSumRangeRow.holds Try.pinned (OpenSpec.ofChange fnSumRangeSpec)

/-- ITS FALSE NEIGHBOUR: 'it returns false'. Refute it at one input. -/
def fnSumRangeWrong : ChangeSpec := { name := "fnSumRange", fn := fun _ => fun
  | [d] => { results := [.lit (.bool false)], args := [d] }
  | _ => none }
def FnSumRangeWrongFalsely : Prop := fnSumRangeRow.holds Try.pinned (OpenSpec.ofChange fnSumRangeWrong)

/-- 'laws.FnRange': WHATEVER THE INPUT: true; the input reads as it did. -/
def fnRangeSpec : ChangeSpec := { name := "fnRange", fn := fun _ => fun
  | [d] => { results := [.lit (.bool true)], args := [d] }
  | _ => none }
def fnRangeRow : OpenClaim := { program := "ytkbhogajdjnfnaa", sum := "97b806a20c5e5a65c4cb5473b548783d8953a9e4a1754b7575a01e2d2b701314", func := "loop.example/icecores/laws.FnRange", spec := "fnRange", apart := false }
def FnRangeSaid : Prop := fnRangeRow.holds Try.pinned (OpenSpec.ofChange fnRangeSpec)

/-- ITS FALSE NEIGHBOUR: 'it returns false'. Refute it at one input. -/
def fnRangeWrong : ChangeSpec := { name := "fnRange", fn := fun _ => fun
  | [d] => { results := [.lit (.bool false)], args := [d] }
  | _ => none }
def FnRangeWrongFalsely : Prop := fnRangeRow.holds Try.pinned (OpenSpec.ofChange fnRangeWrong)

/-- 'laws.FnSum': WHATEVER THE INPUT: true; the input reads as it did. -/
def fnSumSpec : ChangeSpec := { name := "fnSum", fn := fun _ => fun
  | [d] => { results := [.lit (.bool true)], args := [d] }
  | _ => none }
def fnSumRow : OpenClaim := { program := "ytkbhogajdjnfnaa", sum := "97b806a20c5e5a65c4cb5473b548783d8953a9e4a1754b7575a01e2d2b701314", func := "loop.example/icecores/laws.FnSum", spec := "fnSum", apart := false }
def FnSumSaid : Prop := fnSumRow.holds Try.pinned (OpenSpec.ofChange fnSumSpec)

/-- ITS FALSE NEIGHBOUR: 'it returns false'. Refute it at one input. -/
def fnSumWrong : ChangeSpec := { name := "fnSum", fn := fun _ => fun
  | [d] => { results := [.lit (.bool false)], args := [d] }
  | _ => none }
def FnSumWrongFalsely : Prop := fnSumRow.holds Try.pinned (OpenSpec.ofChange fnSumWrong)

/-- 'laws.FnRough': WHATEVER THE INPUT: true; the input reads as it did. -/
def fnRoughSpec : ChangeSpec := { name := "fnRough", fn := fun _ => fun
  | [d] => { results := [.lit (.bool true)], args := [d] }
  | _ => none }
def fnRoughRow : OpenClaim := { program := "ytkbhogajdjnfnaa", sum := "97b806a20c5e5a65c4cb5473b548783d8953a9e4a1754b7575a01e2d2b701314", func := "loop.example/icecores/laws.FnRough", spec := "fnRough", apart := false }
def FnRoughSaid : Prop := fnRoughRow.holds Try.pinned (OpenSpec.ofChange fnRoughSpec)

/-- ITS FALSE NEIGHBOUR: 'it returns false'. Refute it at one input. -/
def fnRoughWrong : ChangeSpec := { name := "fnRough", fn := fun _ => fun
  | [d] => { results := [.lit (.bool false)], args := [d] }
  | _ => none }
def FnRoughWrongFalsely : Prop := fnRoughRow.holds Try.pinned (OpenSpec.ofChange fnRoughWrong)

/-- 'laws.FnExactSmoothPass': WHATEVER THE INPUT: true; the input reads as it did. -/
def fnExactSmoothPassSpec : ChangeSpec := { name := "fnExactSmoothPass", fn := fun _ => fun
  | [d] => { results := [.lit (.bool true)], args := [d] }
  | _ => none }
def fnExactSmoothPassRow : OpenClaim := { program := "ytkbhogajdjnfnaa", sum := "97b806a20c5e5a65c4cb5473b548783d8953a9e4a1754b7575a01e2d2b701314", func := "loop.example/icecores/laws.FnExactSmoothPass", spec := "fnExactSmoothPass", apart := false }
def FnExactSmoothPassSaid : Prop := fnExactSmoothPassRow.holds Try.pinned (OpenSpec.ofChange fnExactSmoothPassSpec)

/-- ITS FALSE NEIGHBOUR: 'it returns false'. Refute it at one input. -/
def fnExactSmoothPassWrong : ChangeSpec := { name := "fnExactSmoothPass", fn := fun _ => fun
  | [d] => { results := [.lit (.bool false)], args := [d] }
  | _ => none }
def FnExactSmoothPassWrongFalsely : Prop := fnExactSmoothPassRow.holds Try.pinned (OpenSpec.ofChange fnExactSmoothPassWrong)

/-- 'laws.FnExactSmoothMany': WHATEVER THE INPUT: true; the input reads as it did. -/
def fnExactSmoothManySpec : ChangeSpec := { name := "fnExactSmoothMany", fn := fun _ => fun
  | [d1, d2] => { results := [.lit (.bool true)], args := [d1, d2] }
  | _ => none }
def fnExactSmoothManyRow : OpenClaim := { program := "ytkbhogajdjnfnaa", sum := "97b806a20c5e5a65c4cb5473b548783d8953a9e4a1754b7575a01e2d2b701314", func := "loop.example/icecores/laws.FnExactSmoothMany", spec := "fnExactSmoothMany", apart := false }
def FnExactSmoothManySaid : Prop := fnExactSmoothManyRow.holds Try.pinned (OpenSpec.ofChange fnExactSmoothManySpec)

/-- ITS FALSE NEIGHBOUR: 'it returns false'. Refute it at one input. -/
def fnExactSmoothManyWrong : ChangeSpec := { name := "fnExactSmoothMany", fn := fun _ => fun
  | [d1, d2] => { results := [.lit (.bool false)], args := [d1, d2] }
  | _ => none }
def FnExactSmoothManyWrongFalsely : Prop := fnExactSmoothManyRow.holds Try.pinned (OpenSpec.ofChange fnExactSmoothManyWrong)

/-- 'laws.FnPassFlat': WHATEVER THE INPUT: true; the input reads as it did. -/
def fnPassFlatSpec : ChangeSpec := { name := "fnPassFlat", fn := fun _ => fun
  | [d] => { results := [.lit (.bool true)], args := [d] }
  | _ => none }
def fnPassFlatRow : OpenClaim := { program := "ytkbhogajdjnfnaa", sum := "97b806a20c5e5a65c4cb5473b548783d8953a9e4a1754b7575a01e2d2b701314", func := "loop.example/icecores/laws.FnPassFlat", spec := "fnPassFlat", apart := false }
def FnPassFlatSaid : Prop := fnPassFlatRow.holds Try.pinned (OpenSpec.ofChange fnPassFlatSpec)

/-- ITS FALSE NEIGHBOUR: 'it returns false'. Refute it at one input. -/
def fnPassFlatWrong : ChangeSpec := { name := "fnPassFlat", fn := fun _ => fun
  | [d] => { results := [.lit (.bool false)], args := [d] }
  | _ => none }
def FnPassFlatWrongFalsely : Prop := fnPassFlatRow.holds Try.pinned (OpenSpec.ofChange fnPassFlatWrong)

/-- 'laws.FnPassLess': WHATEVER THE INPUT: true; the input reads as it did. -/
def fnPassLessSpec : ChangeSpec := { name := "fnPassLess", fn := fun _ => fun
  | [d1, d2] => { results := [.lit (.bool true)], args := [d1, d2] }
  | _ => none }
def fnPassLessRow : OpenClaim := { program := "ytkbhogajdjnfnaa", sum := "97b806a20c5e5a65c4cb5473b548783d8953a9e4a1754b7575a01e2d2b701314", func := "loop.example/icecores/laws.FnPassLess", spec := "fnPassLess", apart := false }
def FnPassLessSaid : Prop := fnPassLessRow.holds Try.pinned (OpenSpec.ofChange fnPassLessSpec)

/-- ITS FALSE NEIGHBOUR: 'it returns false'. Refute it at one input. -/
def fnPassLessWrong : ChangeSpec := { name := "fnPassLess", fn := fun _ => fun
  | [d1, d2] => { results := [.lit (.bool false)], args := [d1, d2] }
  | _ => none }
def FnPassLessWrongFalsely : Prop := fnPassLessRow.holds Try.pinned (OpenSpec.ofChange fnPassLessWrong)

/-- 'laws.FnPassAdd': WHATEVER THE INPUT: true; the input reads as it did. -/
def fnPassAddSpec : ChangeSpec := { name := "fnPassAdd", fn := fun _ => fun
  | [d1, d2] => { results := [.lit (.bool true)], args := [d1, d2] }
  | _ => none }
def fnPassAddRow : OpenClaim := { program := "ytkbhogajdjnfnaa", sum := "97b806a20c5e5a65c4cb5473b548783d8953a9e4a1754b7575a01e2d2b701314", func := "loop.example/icecores/laws.FnPassAdd", spec := "fnPassAdd", apart := false }
def FnPassAddSaid : Prop := fnPassAddRow.holds Try.pinned (OpenSpec.ofChange fnPassAddSpec)

/-- ITS FALSE NEIGHBOUR: 'it returns false'. Refute it at one input. -/
def fnPassAddWrong : ChangeSpec := { name := "fnPassAdd", fn := fun _ => fun
  | [d1, d2] => { results := [.lit (.bool false)], args := [d1, d2] }
  | _ => none }
def FnPassAddWrongFalsely : Prop := fnPassAddRow.holds Try.pinned (OpenSpec.ofChange fnPassAddWrong)

/- THE SECOND FORM. 'bulk': how many values and letters a reading holds, each counted each time it is reached (what is shared counts as often as it is met; a slice's spare places count too). A statement '..UptoSaid' is the law's where the arguments, and the package variables that the reading takes, are together of bulk at most 1048576: NARROWER than '..Said'. Prove '..Said' where nothing that the law and all that it calls make is longer than what came in: it says more and counts as full. Else prove '..UptoSaid'. A law counts once. -/
mutual
def uptoBulk {H : Type} : DataW H → Nat
  | .lit (.string bytes) => bytes.length + 1
  | .lit _ => 1
  | .nil => 1
  | .ptr d => uptoBulk d + 1
  | .slice elems spare => uptoBulkAll elems + uptoBulkAll spare + 1
  | .agg parts => uptoBulkAll parts + 1
  | .iface _ d => uptoBulk d + 1
  | .map entries => uptoBulkEntries entries + 1
  | .held _ => 1
def uptoBulkAll {H : Type} : List (DataW H) → Nat
  | [] => 0
  | d :: r => uptoBulk d + uptoBulkAll r
def uptoBulkEntries {H : Type} : List (Lit × DataW H) → Nat
  | [] => 0
  | x :: r => uptoBulkEntry x + uptoBulkEntries r
def uptoBulkEntry {H : Type} : Lit × DataW H → Nat
  | (.string bytes, d) => bytes.length + uptoBulk d + 1
  | (_, d) => uptoBulk d + 1
 end
def uptoSmall : (H : Type) → List (DataW H) → Bool := fun _ ds => decide (uptoBulkAll ds ≤ 1048576)
def OpenSpec.upto (s : _root_.Go.ChangeSpec) : _root_.Go.OpenSpec := { _root_.Go.OpenSpec.ofChange s with cond := some uptoSmall }

/-- 'laws.FnExactSmoothSum', WHERE WHAT IT READS IS OF BULK AT MOST 1048576: true; the input reads as it did. -/
def fnExactSmoothSumUptoRow : OpenClaim := { program := "ytkbhogajdjnfnaa", sum := "97b806a20c5e5a65c4cb5473b548783d8953a9e4a1754b7575a01e2d2b701314", func := "loop.example/icecores/laws.FnExactSmoothSum", spec := "fnExactSmoothSum", apart := false, narrowed := true }
def FnExactSmoothSumUptoSaid : Prop := fnExactSmoothSumUptoRow.holds Try.pinned (OpenSpec.upto fnExactSmoothSumSpec)

/-- 'laws.FnExactSmoothRough', WHERE WHAT IT READS IS OF BULK AT MOST 1048576: true; the input reads as it did. -/
def fnExactSmoothRoughUptoRow : OpenClaim := { program := "ytkbhogajdjnfnaa", sum := "97b806a20c5e5a65c4cb5473b548783d8953a9e4a1754b7575a01e2d2b701314", func := "loop.example/icecores/laws.FnExactSmoothRough", spec := "fnExactSmoothRough", apart := false, narrowed := true }
def FnExactSmoothRoughUptoSaid : Prop := fnExactSmoothRoughUptoRow.holds Try.pinned (OpenSpec.upto fnExactSmoothRoughSpec)

/-- 'laws.FnExactSmoothRange', WHERE WHAT IT READS IS OF BULK AT MOST 1048576: true; the input reads as it did. -/
def fnExactSmoothRangeUptoRow : OpenClaim := { program := "ytkbhogajdjnfnaa", sum := "97b806a20c5e5a65c4cb5473b548783d8953a9e4a1754b7575a01e2d2b701314", func := "loop.example/icecores/laws.FnExactSmoothRange", spec := "fnExactSmoothRange", apart := false, narrowed := true }
def FnExactSmoothRangeUptoSaid : Prop := fnExactSmoothRangeUptoRow.holds Try.pinned (OpenSpec.upto fnExactSmoothRangeSpec)

/-- 'laws.FnSumRange', WHERE WHAT IT READS IS OF BULK AT MOST 1048576: true; the input reads as it did. -/
def fnSumRangeUptoRow : OpenClaim := { program := "ytkbhogajdjnfnaa", sum := "97b806a20c5e5a65c4cb5473b548783d8953a9e4a1754b7575a01e2d2b701314", func := "loop.example/icecores/laws.FnSumRange", spec := "fnSumRange", apart := false, narrowed := true }
def FnSumRangeUptoSaid : Prop := fnSumRangeUptoRow.holds Try.pinned (OpenSpec.upto fnSumRangeSpec)

/-- 'laws.FnRange', WHERE WHAT IT READS IS OF BULK AT MOST 1048576: true; the input reads as it did. -/
def fnRangeUptoRow : OpenClaim := { program := "ytkbhogajdjnfnaa", sum := "97b806a20c5e5a65c4cb5473b548783d8953a9e4a1754b7575a01e2d2b701314", func := "loop.example/icecores/laws.FnRange", spec := "fnRange", apart := false, narrowed := true }
def FnRangeUptoSaid : Prop := fnRangeUptoRow.holds Try.pinned (OpenSpec.upto fnRangeSpec)

/-- 'laws.FnSum', WHERE WHAT IT READS IS OF BULK AT MOST 1048576: true; the input reads as it did. -/
def fnSumUptoRow : OpenClaim := { program := "ytkbhogajdjnfnaa", sum := "97b806a20c5e5a65c4cb5473b548783d8953a9e4a1754b7575a01e2d2b701314", func := "loop.example/icecores/laws.FnSum", spec := "fnSum", apart := false, narrowed := true }
def FnSumUptoSaid : Prop := fnSumUptoRow.holds Try.pinned (OpenSpec.upto fnSumSpec)

/-- 'laws.FnRough', WHERE WHAT IT READS IS OF BULK AT MOST 1048576: true; the input reads as it did. -/
def fnRoughUptoRow : OpenClaim := { program := "ytkbhogajdjnfnaa", sum := "97b806a20c5e5a65c4cb5473b548783d8953a9e4a1754b7575a01e2d2b701314", func := "loop.example/icecores/laws.FnRough", spec := "fnRough", apart := false, narrowed := true }
def FnRoughUptoSaid : Prop := fnRoughUptoRow.holds Try.pinned (OpenSpec.upto fnRoughSpec)

/-- 'laws.FnExactSmoothPass', WHERE WHAT IT READS IS OF BULK AT MOST 1048576: true; the input reads as it did. -/
def fnExactSmoothPassUptoRow : OpenClaim := { program := "ytkbhogajdjnfnaa", sum := "97b806a20c5e5a65c4cb5473b548783d8953a9e4a1754b7575a01e2d2b701314", func := "loop.example/icecores/laws.FnExactSmoothPass", spec := "fnExactSmoothPass", apart := false, narrowed := true }
def FnExactSmoothPassUptoSaid : Prop := fnExactSmoothPassUptoRow.holds Try.pinned (OpenSpec.upto fnExactSmoothPassSpec)

/-- 'laws.FnExactSmoothMany', WHERE WHAT IT READS IS OF BULK AT MOST 1048576: true; the input reads as it did. -/
def fnExactSmoothManyUptoRow : OpenClaim := { program := "ytkbhogajdjnfnaa", sum := "97b806a20c5e5a65c4cb5473b548783d8953a9e4a1754b7575a01e2d2b701314", func := "loop.example/icecores/laws.FnExactSmoothMany", spec := "fnExactSmoothMany", apart := false, narrowed := true }
def FnExactSmoothManyUptoSaid : Prop := fnExactSmoothManyUptoRow.holds Try.pinned (OpenSpec.upto fnExactSmoothManySpec)

/-- 'laws.FnPassFlat', WHERE WHAT IT READS IS OF BULK AT MOST 1048576: true; the input reads as it did. -/
def fnPassFlatUptoRow : OpenClaim := { program := "ytkbhogajdjnfnaa", sum := "97b806a20c5e5a65c4cb5473b548783d8953a9e4a1754b7575a01e2d2b701314", func := "loop.example/icecores/laws.FnPassFlat", spec := "fnPassFlat", apart := false, narrowed := true }
def FnPassFlatUptoSaid : Prop := fnPassFlatUptoRow.holds Try.pinned (OpenSpec.upto fnPassFlatSpec)

/-- 'laws.FnPassLess', WHERE WHAT IT READS IS OF BULK AT MOST 1048576: true; the input reads as it did. -/
def fnPassLessUptoRow : OpenClaim := { program := "ytkbhogajdjnfnaa", sum := "97b806a20c5e5a65c4cb5473b548783d8953a9e4a1754b7575a01e2d2b701314", func := "loop.example/icecores/laws.FnPassLess", spec := "fnPassLess", apart := false, narrowed := true }
def FnPassLessUptoSaid : Prop := fnPassLessUptoRow.holds Try.pinned (OpenSpec.upto fnPassLessSpec)

/-- 'laws.FnPassAdd', WHERE WHAT IT READS IS OF BULK AT MOST 1048576: true; the input reads as it did. -/
def fnPassAddUptoRow : OpenClaim := { program := "ytkbhogajdjnfnaa", sum := "97b806a20c5e5a65c4cb5473b548783d8953a9e4a1754b7575a01e2d2b701314", func := "loop.example/icecores/laws.FnPassAdd", spec := "fnPassAdd", apart := false, narrowed := true }
def FnPassAddUptoSaid : Prop := fnPassAddUptoRow.holds Try.pinned (OpenSpec.upto fnPassAddSpec)

end Rows
end Go.Proofs.Ytkbhogajdjnfnaa
