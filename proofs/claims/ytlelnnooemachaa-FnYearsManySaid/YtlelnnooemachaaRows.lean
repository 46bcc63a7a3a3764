/-
  No cell of these rows narrows 'for every input' (looked for: loops, veiled, ifaces, maps, wideKeys, modest, calm, conditions, laid).
  DERIVED. THE GIVEN ROWS OF THIS SEAT. 9 by the template 'for every input the law returns true; each argument reads behind the call as it read before'; 0 by the template 'total and deterministic' (their statements: YtlelnnooemachaaTotals.lean).
  GIVEN WITH THE SEED: the statements are not yours to turn. If you find one false, say at which input.
  Laid BY PROGRAM, IN A SANDBOX (cutbox-rows.mjs): the forced cells as the released guide's own fill.sh prints them over the translation 1ee8d34d1080bbf7… (all of the seat's roots in one cut). By AI agents, Wed Nov 11 2026. No macro, syntax, notation, axiom, sorry.
-/
import Derived.Test.YtlelnnooemachaaChecked
import GoSem.Claim
import GoSem.ClaimJoined
import GoSem.ClaimMapViews
import Derived.JoinedTies
import Derived.KernelRfl
namespace Go.Proofs.Ytlelnnooemachaa
/- THE CELL 'sum', in the pinned program and in every row, IS THE sha256 OF THE DUMP (.gsa) THAT YtlelnnooemachaaProg.lean LOADS. Nothing in Lean hashes anything: it is a label: what it is worth is what the hold of that sum in a sandbox is worth. -/
noncomputable def Try.pinned : Pinned := { name := "ytlelnnooemachaa", sum := "1ee8d34d1080bbf7416991dc04f9dc52edefb9b2ca7850ef89579c8c15f3cef4", checked := Try.checked }
namespace Rows
def none {H : Type} : Left H := { results := [], args := [] }

/-- 'laws.FnExactCutsMany': WHATEVER THE INPUT: true; the input reads as it did. -/
def fnExactCutsManySpec : ChangeSpec := { name := "fnExactCutsMany", fn := fun _ => fun
  | [d1, d2, d3] => { results := [.lit (.bool true)], args := [d1, d2, d3] }
  | _ => none }
def fnExactCutsManyRow : OpenClaim := { program := "ytlelnnooemachaa", sum := "1ee8d34d1080bbf7416991dc04f9dc52edefb9b2ca7850ef89579c8c15f3cef4", func := "loop.example/icecores/laws.FnExactCutsMany", spec := "fnExactCutsMany", apart := false }
def FnExactCutsManySaid : Prop := fnExactCutsManyRow.holds Try.pinned (OpenSpec.ofChange fnExactCutsManySpec)

/-- ITS FALSE NEIGHBOUR: 'it returns false'. Refute it at one input. -/
def fnExactCutsManyWrong : ChangeSpec := { name := "fnExactCutsMany", fn := fun _ => fun
  | [d1, d2, d3] => { results := [.lit (.bool false)], args := [d1, d2, d3] }
  | _ => none }
def FnExactCutsManyWrongFalsely : Prop := fnExactCutsManyRow.holds Try.pinned (OpenSpec.ofChange fnExactCutsManyWrong)

/-- 'laws.FnExactCutsYears': WHATEVER THE INPUT: true; the input reads as it did. -/
def fnExactCutsYearsSpec : ChangeSpec := { name := "fnExactCutsYears", fn := fun _ => fun
  | [d1, d2, d3] => { results := [.lit (.bool true)], args := [d1, d2, d3] }
  | _ => none }
def fnExactCutsYearsRow : OpenClaim := { program := "ytlelnnooemachaa", sum := "1ee8d34d1080bbf7416991dc04f9dc52edefb9b2ca7850ef89579c8c15f3cef4", func := "loop.example/icecores/laws.FnExactCutsYears", spec := "fnExactCutsYears", apart := false }
def FnExactCutsYearsSaid : Prop := fnExactCutsYearsRow.holds Try.pinned (OpenSpec.ofChange fnExactCutsYearsSpec)

/-- ITS FALSE NEIGHBOUR: 'it returns false'. Refute it at one input. -/
def fnExactCutsYearsWrong : ChangeSpec := { name := "fnExactCutsYears", fn := fun _ => fun
  | [d1, d2, d3] => { results := [.lit (.bool false)], args := [d1, d2, d3] }
  | _ => none }
def FnExactCutsYearsWrongFalsely : Prop := fnExactCutsYearsRow.holds Try.pinned (OpenSpec.ofChange fnExactCutsYearsWrong)

/-- 'laws.FnExactCutsAllowed': WHATEVER THE INPUT: true; the input reads as it did. -/
def fnExactCutsAllowedSpec : ChangeSpec := { name := "fnExactCutsAllowed", fn := fun _ => fun
  | [d1, d2, d3, d4] => { results := [.lit (.bool true)], args := [d1, d2, d3, d4] }
  | _ => none }
def fnExactCutsAllowedRow : OpenClaim := { program := "ytlelnnooemachaa", sum := "1ee8d34d1080bbf7416991dc04f9dc52edefb9b2ca7850ef89579c8c15f3cef4", func := "loop.example/icecores/laws.FnExactCutsAllowed", spec := "fnExactCutsAllowed", apart := false }
def FnExactCutsAllowedSaid : Prop := fnExactCutsAllowedRow.holds Try.pinned (OpenSpec.ofChange fnExactCutsAllowedSpec)

/-- ITS FALSE NEIGHBOUR: 'it returns false'. Refute it at one input. -/
def fnExactCutsAllowedWrong : ChangeSpec := { name := "fnExactCutsAllowed", fn := fun _ => fun
  | [d1, d2, d3, d4] => { results := [.lit (.bool false)], args := [d1, d2, d3, d4] }
  | _ => none }
def FnExactCutsAllowedWrongFalsely : Prop := fnExactCutsAllowedRow.holds Try.pinned (OpenSpec.ofChange fnExactCutsAllowedWrong)

/-- 'laws.FnManyCuts': WHATEVER THE INPUT: true; the input reads as it did. -/
def fnManyCutsSpec : ChangeSpec := { name := "fnManyCuts", fn := fun _ => fun
  | [d] => { results := [.lit (.bool true)], args := [d] }
  | _ => none }
def fnManyCutsRow : OpenClaim := { program := "ytlelnnooemachaa", sum := "1ee8d34d1080bbf7416991dc04f9dc52edefb9b2ca7850ef89579c8c15f3cef4", func := "loop.example/icecores/laws.FnManyCuts", spec := "fnManyCuts", apart := false }
def FnManyCutsSaid : Prop := fnManyCutsRow.holds Try.pinned (OpenSpec.ofChange fnManyCutsSpec)

/-- ITS FALSE NEIGHBOUR: 'it returns false'. Refute it at one input. -/
def fnManyCutsWrong : ChangeSpec := { name := "fnManyCuts", fn := fun _ => fun
  | [d] => { results := [.lit (.bool false)], args := [d] }
  | _ => none }
def FnManyCutsWrongFalsely : Prop := fnManyCutsRow.holds Try.pinned (OpenSpec.ofChange fnManyCutsWrong)

/-- 'laws.FnManyCutsFree': WHATEVER THE INPUT: true; the input reads as it did. -/
def fnManyCutsFreeSpec : ChangeSpec := { name := "fnManyCutsFree", fn := fun _ => fun
  | [d] => { results := [.lit (.bool true)], args := [d] }
  | _ => none }
def fnManyCutsFreeRow : OpenClaim := { program := "ytlelnnooemachaa", sum := "1ee8d34d1080bbf7416991dc04f9dc52edefb9b2ca7850ef89579c8c15f3cef4", func := "loop.example/icecores/laws.FnManyCutsFree", spec := "fnManyCutsFree", apart := false }
def FnManyCutsFreeSaid : Prop := fnManyCutsFreeRow.holds Try.pinned (OpenSpec.ofChange fnManyCutsFreeSpec)

/-- ITS FALSE NEIGHBOUR: 'it returns false'. Refute it at one input. -/
def fnManyCutsFreeWrong : ChangeSpec := { name := "fnManyCutsFree", fn := fun _ => fun
  | [d] => { results := [.lit (.bool false)], args := [d] }
  | _ => none }
def FnManyCutsFreeWrongFalsely : Prop := fnManyCutsFreeRow.holds Try.pinned (OpenSpec.ofChange fnManyCutsFreeWrong)

/-- 'laws.FnManyCutsLess': WHATEVER THE INPUT: true; the input reads as it did. -/
def fnManyCutsLessSpec : ChangeSpec := { name := "fnManyCutsLess", fn := fun _ => fun
  | [d] => { results := [.lit (.bool true)], args := [d] }
  | _ => none }
def fnManyCutsLessRow : OpenClaim := { program := "ytlelnnooemachaa", sum := "1ee8d34d1080bbf7416991dc04f9dc52edefb9b2ca7850ef89579c8c15f3cef4", func := "loop.example/icecores/laws.FnManyCutsLess", spec := "fnManyCutsLess", apart := false }
def FnManyCutsLessSaid : Prop := fnManyCutsLessRow.holds Try.pinned (OpenSpec.ofChange fnManyCutsLessSpec)

/-- ITS FALSE NEIGHBOUR: 'it returns false'. Refute it at one input. -/
def fnManyCutsLessWrong : ChangeSpec := { name := "fnManyCutsLess", fn := fun _ => fun
  | [d] => { results := [.lit (.bool false)], args := [d] }
  | _ => none }
def FnManyCutsLessWrongFalsely : Prop := fnManyCutsLessRow.holds Try.pinned (OpenSpec.ofChange fnManyCutsLessWrong)

/-- 'laws.FnExactCutsCost': WHATEVER THE INPUT: true; the input reads as it did. -/
def fnExactCutsCostSpec : ChangeSpec := { name := "fnExactCutsCost", fn := fun _ => fun
  | [d1, d2, d3, d4] => { results := [.lit (.bool true)], args := [d1, d2, d3, d4] }
  | _ => none }
def fnExactCutsCostRow : OpenClaim := { program := "ytlelnnooemachaa", sum := "1ee8d34d1080bbf7416991dc04f9dc52edefb9b2ca7850ef89579c8c15f3cef4", func := "loop.example/icecores/laws.FnExactCutsCost", spec := "fnExactCutsCost", apart := false }
def FnExactCutsCostSaid : Prop := fnExactCutsCostRow.holds Try.pinned (OpenSpec.ofChange fnExactCutsCostSpec)

/-- ITS FALSE NEIGHBOUR: 'it returns false'. Refute it at one input. -/
def fnExactCutsCostWrong : ChangeSpec := { name := "fnExactCutsCost", fn := fun _ => fun
  | [d1, d2, d3, d4] => { results := [.lit (.bool false)], args := [d1, d2, d3, d4] }
  | _ => none }
def FnExactCutsCostWrongFalsely : Prop := fnExactCutsCostRow.holds Try.pinned (OpenSpec.ofChange fnExactCutsCostWrong)

/-- 'laws.FnYears': WHATEVER THE INPUT: true; the input reads as it did. -/
def fnYearsSpec : ChangeSpec := { name := "fnYears", fn := fun _ => fun
  | [d] => { results := [.lit (.bool true)], args := [d] }
  | _ => none }
def fnYearsRow : OpenClaim := { program := "ytlelnnooemachaa", sum := "1ee8d34d1080bbf7416991dc04f9dc52edefb9b2ca7850ef89579c8c15f3cef4", func := "loop.example/icecores/laws.FnYears", spec := "fnYears", apart := false }
def FnYearsSaid : Prop := fnYearsRow.holds Try.pinned (OpenSpec.ofChange fnYearsSpec)

/-- ITS FALSE NEIGHBOUR: 'it returns false'. Refute it at one input. -/
def fnYearsWrong : ChangeSpec := { name := "fnYears", fn := fun _ => fun
  | [d] => { results := [.lit (.bool false)], args := [d] }
  | _ => none }
def FnYearsWrongFalsely : Prop := fnYearsRow.holds Try.pinned (OpenSpec.ofChange fnYearsWrong)

/-- 'laws.FnYearsMany': WHATEVER THE INPUT: true; the input reads as it did. -/
def fnYearsManySpec : ChangeSpec := { name := "fnYearsMany", fn := fun _ => fun
  | [d] => { results := [.lit (.bool true)], args := [d] }
  | _ => none }
def fnYearsManyRow : OpenClaim := { program := "ytlelnnooemachaa", sum := "1ee8d34d1080bbf7416991dc04f9dc52edefb9b2ca7850ef89579c8c15f3cef4", func := "loop.example/icecores/laws.FnYearsMany", spec := "fnYearsMany", apart := false }
def FnYearsManySaid : Prop := fnYearsManyRow.holds Try.pinned (OpenSpec.ofChange fnYearsManySpec)

/-- ITS FALSE NEIGHBOUR: 'it returns false'. Refute it at one input. -/
def fnYearsManyWrong : ChangeSpec := { name := "fnYearsMany", fn := fun _ => fun
  | [d] => { results := [.lit (.bool false)], args := [d] }
  | _ => none }
def FnYearsManyWrongFalsely : Prop := fnYearsManyRow.holds Try.pinned (OpenSpec.ofChange fnYearsManyWrong)

/- THE SECOND FORM. 'bulk': how many values and letters a reading holds, each counted each time it is reached (what is shared counts as often as it is met; a slice's spare places count too). A statement '..UptoSaid' is the law's where the arguments, and the package variables that the reading takes, are together of bulk at most 1048576: NARROWER than '..Said'. Prove '..Said' where nothing that the law and all that it calls make is longer than what came in: it says more and counts as full. Else prove '..UptoSaid'. A law counts once. -/
mutual
def uptoBulk {H : Type} : DataW H → Nat
  | .lit (.string bytes) => bytes.length + 1
  | .lit _ => 1
  | .nil => 1
  | .ptr d => uptoBulk d + 1
  | .slice elems spare => uptoBulkAll elems + uptoBulkAll spare + 1
  | .agg parts => uptoBulkAll parts + 1
  | .iface _ d => uptoBulk d + 1
  | .map entries => uptoBulkEntries entries + 1
  | .held _ => 1
def uptoBulkAll {H : Type} : List (DataW H) → Nat
  | [] => 0
  | d :: r => uptoBulk d + uptoBulkAll r
def uptoBulkEntries {H : Type} : List (Lit × DataW H) → Nat
  | [] => 0
  | x :: r => uptoBulkEntry x + uptoBulkEntries r
def uptoBulkEntry {H : Type} : Lit × DataW H → Nat
  | (.string bytes, d) => bytes.length + uptoBulk d + 1
  | (_, d) => uptoBulk d + 1
 end
def uptoSmall : (H : Type) → List (DataW H) → Bool := fun _ ds => decide (uptoBulkAll ds ≤ 1048576)
def OpenSpec.upto (s : _root_.Go.ChangeSpec) : _root_.Go.OpenSpec := { _root_.Go.OpenSpec.ofChange s with cond := some uptoSmall }

/-- 'laws.FnExactCutsMany', WHERE WHAT IT READS IS OF BULK AT MOST 1048576: true; the input reads as it did. -/
def fnExactCutsManyUptoRow : OpenClaim := { program := "ytlelnnooemachaa", sum := "1ee8d34d1080bbf7416991dc04f9dc52edefb9b2ca7850ef89579c8c15f3cef4", func := "loop.example/icecores/laws.FnExactCutsMany", spec := "fnExactCutsMany", apart := false, narrowed := true }
def FnExactCutsManyUptoSaid : Prop := fnExactCutsManyUptoRow.holds Try.pinned (OpenSpec.upto fnExactCutsManySpec)

/-- 'laws.FnExactCutsYears', WHERE WHAT IT READS IS OF BULK AT MOST 1048576: true; the input reads as it did. -/
def fnExactCutsYearsUptoRow : OpenClaim := { program := "ytlelnnooemachaa", sum := "1ee8d34d1080bbf7416991dc04f9dc52edefb9b2ca7850ef89579c8c15f3cef4", func := "loop.example/icecores/laws.FnExactCutsYears", spec := "fnExactCutsYears", apart := false, narrowed := true }
def FnExactCutsYearsUptoSaid : Prop := fnExactCutsYearsUptoRow.holds Try.pinned (OpenSpec.upto fnExactCutsYearsSpec)

/-- 'laws.FnExactCutsAllowed', WHERE WHAT IT READS IS OF BULK AT MOST 1048576: true; the input reads as it did. -/
def fnExactCutsAllowedUptoRow : OpenClaim := { program := "ytlelnnooemachaa", sum := "1ee8d34d1080bbf7416991dc04f9dc52edefb9b2ca7850ef89579c8c15f3cef4", func := "loop.example/icecores/laws.FnExactCutsAllowed", spec := "fnExactCutsAllowed", apart := false, narrowed := true }
def FnExactCutsAllowedUptoSaid : Prop := fnExactCutsAllowedUptoRow.holds Try.pinned (OpenSpec.upto fnExactCutsAllowedSpec)

/-- 'laws.FnManyCuts', WHERE WHAT IT READS IS OF BULK AT MOST 1048576: true; the input reads as it did. -/
def fnManyCutsUptoRow : OpenClaim := { program := "ytlelnnooemachaa", sum := "1ee8d34d1080bbf7416991dc04f9dc52edefb9b2ca7850ef89579c8c15f3cef4", func := "loop.example/icecores/laws.FnManyCuts", spec := "fnManyCuts", apart := false, narrowed := true }
def FnManyCutsUptoSaid : Prop := fnManyCutsUptoRow.holds Try.pinned (OpenSpec.upto fnManyCutsSpec)

/-- 'laws.FnManyCutsFree', WHERE WHAT IT READS IS OF BULK AT MOST 1048576: true; the input reads as it did. -/
def fnManyCutsFreeUptoRow : OpenClaim := { program := "ytlelnnooemachaa", sum := "1ee8d34d1080bbf7416991dc04f9dc52edefb9b2ca7850ef89579c8c15f3cef4", func := "loop.example/icecores/laws.FnManyCutsFree", spec := "fnManyCutsFree", apart := false, narrowed := true }
def FnManyCutsFreeUptoSaid : Prop := fnManyCutsFreeUptoRow.holds Try.pinned (OpenSpec.upto fnManyCutsFreeSpec)

/-- 'laws.FnManyCutsLess', WHERE WHAT IT READS IS OF BULK AT MOST 1048576: true; the input reads as it did. -/
def fnManyCutsLessUptoRow : OpenClaim := { program := "ytlelnnooemachaa", sum := "1ee8d34d1080bbf7416991dc04f9dc52edefb9b2ca7850ef89579c8c15f3cef4", func := "loop.example/icecores/laws.FnManyCutsLess", spec := "fnManyCutsLess", apart := false, narrowed := true }
def FnManyCutsLessUptoSaid : Prop := fnManyCutsLessUptoRow.holds Try.pinned (OpenSpec.upto fnManyCutsLessSpec)

/-- 'laws.FnExactCutsCost', WHERE WHAT IT READS IS OF BULK AT MOST 1048576: true; the input reads as it did. -/
def fnExactCutsCostUptoRow : OpenClaim := { program := "ytlelnnooemachaa", sum := "1ee8d34d1080bbf7416991dc04f9dc52edefb9b2ca7850ef89579c8c15f3cef4", func := "loop.example/icecores/laws.FnExactCutsCost", spec := "fnExactCutsCost", apart := false, narrowed := true }
def FnExactCutsCostUptoSaid : Prop := fnExactCutsCostUptoRow.holds Try.pinned (OpenSpec.upto fnExactCutsCostSpec)

/-- 'laws.FnYears', WHERE WHAT IT READS IS OF BULK AT MOST 1048576: true; the input reads as it did. -/
def fnYearsUptoRow : OpenClaim := { program := "ytlelnnooemachaa", sum := "1ee8d34d1080bbf7416991dc04f9dc52edefb9b2ca7850ef89579c8c15f3cef4", func := "loop.example/icecores/laws.FnYears", spec := "fnYears", apart := false, narrowed := true }
def FnYearsUptoSaid : Prop := fnYearsUptoRow.holds Try.pinned (OpenSpec.upto fnYearsSpec)

/-- 'laws.FnYearsMany', WHERE WHAT IT READS IS OF BULK AT MOST 1048576: true; the input reads as it did. -/
def fnYearsManyUptoRow : OpenClaim := { program := "ytlelnnooemachaa", sum := "1ee8d34d1080bbf7416991dc04f9dc52edefb9b2ca7850ef89579c8c15f3cef4", func := "loop.example/icecores/laws.FnYearsMany", spec := "fnYearsMany", apart := false, narrowed := true }
def FnYearsManyUptoSaid : Prop := fnYearsManyUptoRow.holds Try.pinned (OpenSpec.upto fnYearsManySpec)

end Rows
end Go.Proofs.Ytlelnnooemachaa
