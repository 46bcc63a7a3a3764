/-
  No cell of these rows narrows 'for every input' (looked for: loops, veiled, ifaces, maps, wideKeys, modest, calm, conditions, laid).
  DERIVED. THE GIVEN ROWS OF THIS SEAT. 10 by the template 'for every input the law returns true; each argument reads behind the call as it read before'; 0 by the template 'total and deterministic' (their statements: YteopbbolljmghaaTotals.lean).
  GIVEN WITH THE SEED: the statements are not yours to turn. If you find one false, say at which input.
  Laid BY PROGRAM, IN A SANDBOX (cutbox-rows.mjs): the forced cells as the released guide's own fill.sh prints them over the translation 6eddf58bfb42cf2e… (all of the seat's roots in one cut). By AI agents, Wed Nov 11 2026. No macro, syntax, notation, axiom, sorry.
-/
import Derived.Test.YteopbbolljmghaaChecked
import GoSem.Claim
import GoSem.ClaimJoined
import GoSem.ClaimMapViews
import Derived.JoinedTies
import Derived.KernelRfl
namespace Go.Proofs.Yteopbbolljmghaa
/- THE CELL 'sum', in the pinned program and in every row, IS THE sha256 OF THE DUMP (.gsa) THAT YteopbbolljmghaaProg.lean LOADS. Nothing in Lean hashes anything: it is a label: what it is worth is what the hold of that sum in a sandbox is worth. -/
noncomputable def Try.pinned : Pinned := { name := "yteopbbolljmghaa", sum := "6eddf58bfb42cf2e48914f29f8a05e152d383e2171880b9733226bb19c950653", checked := Try.checked }
namespace Rows
def none {H : Type} : Left H := { results := [], args := [] }

/-- 'laws.FnManyRange': WHATEVER THE INPUT: true; the input reads as it did. -/
def fnManyRangeSpec : ChangeSpec := { name := "fnManyRange", fn := fun _ => fun
  | [d] => { results := [.lit (.bool true)], args := [d] }
  | _ => none }
def fnManyRangeRow : OpenClaim := { program := "yteopbbolljmghaa", sum := "6eddf58bfb42cf2e48914f29f8a05e152d383e2171880b9733226bb19c950653", func := "loop.example/icecores/laws.FnManyRange", spec := "fnManyRange", apart := false }
def FnManyRangeSaid : Prop := fnManyRangeRow.holds Try.pinned (OpenSpec.ofChange fnManyRangeSpec)

/-- ITS FALSE NEIGHBOUR: 'it returns false'. Refute it at one input. -/
def fnManyRangeWrong : ChangeSpec := { name := "fnManyRange", fn := fun _ => fun
  | [d] => { results := [.lit (.bool false)], args := [d] }
  | _ => none }
def FnManyRangeWrongFalsely : Prop := fnManyRangeRow.holds Try.pinned (OpenSpec.ofChange fnManyRangeWrong)

/-- 'laws.FnManyAdd': WHATEVER THE INPUT: true; the input reads as it did. -/
def fnManyAddSpec : ChangeSpec := { name := "fnManyAdd", fn := fun _ => fun
  | [d] => { results := [.lit (.bool true)], args := [d] }
  | _ => none }
def fnManyAddRow : OpenClaim := { program := "yteopbbolljmghaa", sum := "6eddf58bfb42cf2e48914f29f8a05e152d383e2171880b9733226bb19c950653", func := "loop.example/icecores/laws.FnManyAdd", spec := "fnManyAdd", apart := false }
def FnManyAddSaid : Prop := fnManyAddRow.holds Try.pinned (OpenSpec.ofChange fnManyAddSpec)

/-- ITS FALSE NEIGHBOUR: 'it returns false'. Refute it at one input. -/
def fnManyAddWrong : ChangeSpec := { name := "fnManyAdd", fn := fun _ => fun
  | [d] => { results := [.lit (.bool false)], args := [d] }
  | _ => none }
def FnManyAddWrongFalsely : Prop := fnManyAddRow.holds Try.pinned (OpenSpec.ofChange fnManyAddWrong)

/-- 'laws.FnManyFlat': WHATEVER THE INPUT: true; the input reads as it did. -/
def fnManyFlatSpec : ChangeSpec := { name := "fnManyFlat", fn := fun _ => fun
  | [d] => { results := [.lit (.bool true)], args := [d] }
  | _ => none }
def fnManyFlatRow : OpenClaim := { program := "yteopbbolljmghaa", sum := "6eddf58bfb42cf2e48914f29f8a05e152d383e2171880b9733226bb19c950653", func := "loop.example/icecores/laws.FnManyFlat", spec := "fnManyFlat", apart := false }
def FnManyFlatSaid : Prop := fnManyFlatRow.holds Try.pinned (OpenSpec.ofChange fnManyFlatSpec)

/-- ITS FALSE NEIGHBOUR: 'it returns false'. Refute it at one input. -/
def fnManyFlatWrong : ChangeSpec := { name := "fnManyFlat", fn := fun _ => fun
  | [d] => { results := [.lit (.bool false)], args := [d] }
  | _ => none }
def FnManyFlatWrongFalsely : Prop := fnManyFlatRow.holds Try.pinned (OpenSpec.ofChange fnManyFlatWrong)

/-- 'laws.FnPassTurn': WHATEVER THE INPUT: true; the input reads as it did. -/
def fnPassTurnSpec : ChangeSpec := { name := "fnPassTurn", fn := fun _ => fun
  | [d] => { results := [.lit (.bool true)], args := [d] }
  | _ => none }
def fnPassTurnRow : OpenClaim := { program := "yteopbbolljmghaa", sum := "6eddf58bfb42cf2e48914f29f8a05e152d383e2171880b9733226bb19c950653", func := "loop.example/icecores/laws.FnPassTurn", spec := "fnPassTurn", apart := false }
def FnPassTurnSaid : Prop := fnPassTurnRow.holds Try.pinned (OpenSpec.ofChange fnPassTurnSpec)

/-- ITS FALSE NEIGHBOUR: 'it returns false'. Refute it at one input. -/
def fnPassTurnWrong : ChangeSpec := { name := "fnPassTurn", fn := fun _ => fun
  | [d] => { results := [.lit (.bool false)], args := [d] }
  | _ => none }
def FnPassTurnWrongFalsely : Prop := fnPassTurnRow.holds Try.pinned (OpenSpec.ofChange fnPassTurnWrong)

/-- 'laws.FnRoughPass': WHATEVER THE INPUT: true; the input reads as it did. -/
def fnRoughPassSpec : ChangeSpec := { name := "fnRoughPass", fn := fun _ => fun
  | [d] => { results := [.lit (.bool true)], args := [d] }
  | _ => none }
def fnRoughPassRow : OpenClaim := { program := "yteopbbolljmghaa", sum := "6eddf58bfb42cf2e48914f29f8a05e152d383e2171880b9733226bb19c950653", func := "loop.example/icecores/laws.FnRoughPass", spec := "fnRoughPass", apart := false }
def FnRoughPassSaid : Prop := fnRoughPassRow.holds Try.pinned (OpenSpec.ofChange fnRoughPassSpec)

/-- ITS FALSE NEIGHBOUR: 'it returns false'. Refute it at one input. -/
def fnRoughPassWrong : ChangeSpec := { name := "fnRoughPass", fn := fun _ => fun
  | [d] => { results := [.lit (.bool false)], args := [d] }
  | _ => none }
def FnRoughPassWrongFalsely : Prop := fnRoughPassRow.holds Try.pinned (OpenSpec.ofChange fnRoughPassWrong)

/-- 'laws.FnManyTurn': WHATEVER THE INPUT: true; the input reads as it did. -/
def fnManyTurnSpec : ChangeSpec := { name := "fnManyTurn", fn := fun _ => fun
  | [d] => { results := [.lit (.bool true)], args := [d] }
  | _ => none }
def fnManyTurnRow : OpenClaim := { program := "yteopbbolljmghaa", sum := "6eddf58bfb42cf2e48914f29f8a05e152d383e2171880b9733226bb19c950653", func := "loop.example/icecores/laws.FnManyTurn", spec := "fnManyTurn", apart := false }
def FnManyTurnSaid : Prop := fnManyTurnRow.holds Try.pinned (OpenSpec.ofChange fnManyTurnSpec)

/-- ITS FALSE NEIGHBOUR: 'it returns false'. Refute it at one input. -/
def fnManyTurnWrong : ChangeSpec := { name := "fnManyTurn", fn := fun _ => fun
  | [d] => { results := [.lit (.bool false)], args := [d] }
  | _ => none }
def FnManyTurnWrongFalsely : Prop := fnManyTurnRow.holds Try.pinned (OpenSpec.ofChange fnManyTurnWrong)

/-- 'laws.FnPass': WHATEVER THE INPUT: true; the input reads as it did. -/
def fnPassSpec : ChangeSpec := { name := "fnPass", fn := fun _ => fun
  | [d] => { results := [.lit (.bool true)], args := [d] }
  | _ => none }
def fnPassRow : OpenClaim := { program := "yteopbbolljmghaa", sum := "6eddf58bfb42cf2e48914f29f8a05e152d383e2171880b9733226bb19c950653", func := "loop.example/icecores/laws.FnPass", spec := "fnPass", apart := false }
def FnPassSaid : Prop := fnPassRow.holds Try.pinned (OpenSpec.ofChange fnPassSpec)

/-- ITS FALSE NEIGHBOUR: 'it returns false'. Refute it at one input. -/
def fnPassWrong : ChangeSpec := { name := "fnPass", fn := fun _ => fun
  | [d] => { results := [.lit (.bool false)], args := [d] }
  | _ => none }
def FnPassWrongFalsely : Prop := fnPassRow.holds Try.pinned (OpenSpec.ofChange fnPassWrong)

/-- 'laws.FnPassRough': WHATEVER THE INPUT: true; the input reads as it did. -/
def fnPassRoughSpec : ChangeSpec := { name := "fnPassRough", fn := fun _ => fun
  | [d] => { results := [.lit (.bool true)], args := [d] }
  | _ => none }
def fnPassRoughRow : OpenClaim := { program := "yteopbbolljmghaa", sum := "6eddf58bfb42cf2e48914f29f8a05e152d383e2171880b9733226bb19c950653", func := "loop.example/icecores/laws.FnPassRough", spec := "fnPassRough", apart := false }
def FnPassRoughSaid : Prop := fnPassRoughRow.holds Try.pinned (OpenSpec.ofChange fnPassRoughSpec)

/-- ITS FALSE NEIGHBOUR: 'it returns false'. Refute it at one input. -/
def fnPassRoughWrong : ChangeSpec := { name := "fnPassRough", fn := fun _ => fun
  | [d] => { results := [.lit (.bool false)], args := [d] }
  | _ => none }
def FnPassRoughWrongFalsely : Prop := fnPassRoughRow.holds Try.pinned (OpenSpec.ofChange fnPassRoughWrong)

/-- 'laws.FnMany': WHATEVER THE INPUT: true; the input reads as it did. -/
def fnManySpec : ChangeSpec := { name := "fnMany", fn := fun _ => fun
  | [d] => { results := [.lit (.bool true)], args := [d] }
  | _ => none }
def fnManyRow : OpenClaim := { program := "yteopbbolljmghaa", sum := "6eddf58bfb42cf2e48914f29f8a05e152d383e2171880b9733226bb19c950653", func := "loop.example/icecores/laws.FnMany", spec := "fnMany", apart := false }
def FnManySaid : Prop := fnManyRow.holds Try.pinned (OpenSpec.ofChange fnManySpec)

/-- ITS FALSE NEIGHBOUR: 'it returns false'. Refute it at one input. -/
def fnManyWrong : ChangeSpec := { name := "fnMany", fn := fun _ => fun
  | [d] => { results := [.lit (.bool false)], args := [d] }
  | _ => none }
def FnManyWrongFalsely : Prop := fnManyRow.holds Try.pinned (OpenSpec.ofChange fnManyWrong)

/-- 'laws.FnPassRange': WHATEVER THE INPUT: true; the input reads as it did. -/
def fnPassRangeSpec : ChangeSpec := { name := "fnPassRange", fn := fun _ => fun
  | [d] => { results := [.lit (.bool true)], args := [d] }
  | _ => none }
def fnPassRangeRow : OpenClaim := { program := "yteopbbolljmghaa", sum := "6eddf58bfb42cf2e48914f29f8a05e152d383e2171880b9733226bb19c950653", func := "loop.example/icecores/laws.FnPassRange", spec := "fnPassRange", apart := false }
def FnPassRangeSaid : Prop := fnPassRangeRow.holds Try.pinned (OpenSpec.ofChange fnPassRangeSpec)

/-- ITS FALSE NEIGHBOUR: 'it returns false'. Refute it at one input. -/
def fnPassRangeWrong : ChangeSpec := { name := "fnPassRange", fn := fun _ => fun
  | [d] => { results := [.lit (.bool false)], args := [d] }
  | _ => none }
def FnPassRangeWrongFalsely : Prop := fnPassRangeRow.holds Try.pinned (OpenSpec.ofChange fnPassRangeWrong)

/- THE SECOND FORM. 'bulk': how many values and letters a reading holds, each counted each time it is reached (what is shared counts as often as it is met; a slice's spare places count too). A statement '..UptoSaid' is the law's where the arguments, and the package variables that the reading takes, are together of bulk at most 1048576: NARROWER than '..Said'. Prove '..Said' where nothing that the law and all that it calls make is longer than what came in: it says more and counts as full. Else prove '..UptoSaid'. A law counts once. -/
mutual
def uptoBulk {H : Type} : DataW H → Nat
  | .lit (.string bytes) => bytes.length + 1
  | .lit _ => 1
  | .nil => 1
  | .ptr d => uptoBulk d + 1
  | .slice elems spare => uptoBulkAll elems + uptoBulkAll spare + 1
  | .agg parts => uptoBulkAll parts + 1
  | .iface _ d => uptoBulk d + 1
  | .map entries => uptoBulkEntries entries + 1
  | .held _ => 1
def uptoBulkAll {H : Type} : List (DataW H) → Nat
  | [] => 0
  | d :: r => uptoBulk d + uptoBulkAll r
def uptoBulkEntries {H : Type} : List (Lit × DataW H) → Nat
  | [] => 0
  | x :: r => uptoBulkEntry x + uptoBulkEntries r
def uptoBulkEntry {H : Type} : Lit × DataW H → Nat
  | (.string bytes, d) => bytes.length + uptoBulk d + 1
  | (_, d) => uptoBulk d + 1
 end
def uptoSmall : (H : Type) → List (DataW H) → Bool := fun _ ds => decide (uptoBulkAll ds ≤ 1048576)
def OpenSpec.upto (s : _root_.Go.ChangeSpec) : _root_.Go.OpenSpec := { _root_.Go.OpenSpec.ofChange s with cond := some uptoSmall }

/-- 'laws.FnManyRange', WHERE WHAT IT READS IS OF BULK AT MOST 1048576: true; the input reads as it did. -/
def fnManyRangeUptoRow : OpenClaim := { program := "yteopbbolljmghaa", sum := "6eddf58bfb42cf2e48914f29f8a05e152d383e2171880b9733226bb19c950653", func := "loop.example/icecores/laws.FnManyRange", spec := "fnManyRange", apart := false, narrowed := true }
def FnManyRangeUptoSaid : Prop := fnManyRangeUptoRow.holds Try.pinned (OpenSpec.upto fnManyRangeSpec)

/-- 'laws.FnManyAdd', WHERE WHAT IT READS IS OF BULK AT MOST 1048576: true; the input reads as it did. -/
def fnManyAddUptoRow : OpenClaim := { program := "yteopbbolljmghaa", sum := "6eddf58bfb42cf2e48914f29f8a05e152d383e2171880b9733226bb19c950653", func := "loop.example/icecores/laws.FnManyAdd", spec := "fnManyAdd", apart := false, narrowed := true }
def FnManyAddUptoSaid : Prop := fnManyAddUptoRow.holds Try.pinned (OpenSpec.upto fnManyAddSpec)

/-- 'laws.FnManyFlat', WHERE WHAT IT READS IS OF BULK AT MOST 1048576: true; the input reads as it did. -/
def fnManyFlatUptoRow : OpenClaim := { program := "yteopbbolljmghaa", sum := "6eddf58bfb42cf2e48914f29f8a05e152d383e2171880b9733226bb19c950653", func := "loop.example/icecores/laws.FnManyFlat", spec := "fnManyFlat", apart := false, narrowed := true }
def FnManyFlatUptoSaid : Prop := fnManyFlatUptoRow.holds Try.pinned (OpenSpec.upto fnManyFlatSpec)

/-- 'laws.FnPassTurn', WHERE WHAT IT READS IS OF BULK AT MOST 1048576: true; the input reads as it did. -/
def fnPassTurnUptoRow : OpenClaim := { program := "yteopbbolljmghaa", sum := "6eddf58bfb42cf2e48914f29f8a05e152d383e2171880b9733226bb19c950653", func := "loop.example/icecores/laws.FnPassTurn", spec := "fnPassTurn", apart := false, narrowed := true }
def FnPassTurnUptoSaid : Prop := fnPassTurnUptoRow.holds Try.pinned (OpenSpec.upto fnPassTurnSpec)

/-- 'laws.FnRoughPass', WHERE WHAT IT READS IS OF BULK AT MOST 1048576: true; the input reads as it did. -/
def fnRoughPassUptoRow : OpenClaim := { program := "yteopbbolljmghaa", sum := "6eddf58bfb42cf2e48914f29f8a05e152d383e2171880b9733226bb19c950653", func := "loop.example/icecores/laws.FnRoughPass", spec := "fnRoughPass", apart := false, narrowed := true }
def FnRoughPassUptoSaid : Prop := fnRoughPassUptoRow.holds Try.pinned (OpenSpec.upto fnRoughPassSpec)

/-- 'laws.FnManyTurn', WHERE WHAT IT READS IS OF BULK AT MOST 1048576: true; the input reads as it did. -/
def fnManyTurnUptoRow : OpenClaim := { program := "yteopbbolljmghaa", sum := "6eddf58bfb42cf2e48914f29f8a05e152d383e2171880b9733226bb19c950653", func := "loop.example/icecores/laws.FnManyTurn", spec := "fnManyTurn", apart := false, narrowed := true }
def FnManyTurnUptoSaid : Prop := fnManyTurnUptoRow.holds Try.pinned (OpenSpec.upto fnManyTurnSpec)

/-- 'laws.FnPass', WHERE WHAT IT READS IS OF BULK AT MOST 1048576: true; the input reads as it did. -/
def fnPassUptoRow : OpenClaim := { program := "yteopbbolljmghaa", sum := "6eddf58bfb42cf2e48914f29f8a05e152d383e2171880b9733226bb19c950653", func := "loop.example/icecores/laws.FnPass", spec := "fnPass", apart := false, narrowed := true }
def FnPassUptoSaid : Prop := fnPassUptoRow.holds Try.pinned (OpenSpec.upto fnPassSpec)

/-- 'laws.FnPassRough', WHERE WHAT IT READS IS OF BULK AT MOST 1048576: true; the input reads as it did. -/
def fnPassRoughUptoRow : OpenClaim := { program := "yteopbbolljmghaa", sum := "6eddf58bfb42cf2e48914f29f8a05e152d383e2171880b9733226bb19c950653", func := "loop.example/icecores/laws.FnPassRough", spec := "fnPassRough", apart := false, narrowed := true }
def FnPassRoughUptoSaid : Prop := fnPassRoughUptoRow.holds Try.pinned (OpenSpec.upto fnPassRoughSpec)

/-- 'laws.FnMany', WHERE WHAT IT READS IS OF BULK AT MOST 1048576: true; the input reads as it did. -/
def fnManyUptoRow : OpenClaim := { program := "yteopbbolljmghaa", sum := "6eddf58bfb42cf2e48914f29f8a05e152d383e2171880b9733226bb19c950653", func := "loop.example/icecores/laws.FnMany", spec := "fnMany", apart := false, narrowed := true }
def FnManyUptoSaid : Prop := fnManyUptoRow.holds Try.pinned (OpenSpec.upto fnManySpec)

/-- 'laws.FnPassRange', WHERE WHAT IT READS IS OF BULK AT MOST 1048576: true; the input reads as it did. -/
def fnPassRangeUptoRow : OpenClaim := { program := "yteopbbolljmghaa", sum := "6eddf58bfb42cf2e48914f29f8a05e152d383e2171880b9733226bb19c950653", func := "loop.example/icecores/laws.FnPassRange", spec := "fnPassRange", apart := false, narrowed := true }
def FnPassRangeUptoSaid : Prop := fnPassRangeUptoRow.holds Try.pinned (OpenSpec.upto fnPassRangeSpec)

end Rows
end Go.Proofs.Yteopbbolljmghaa
