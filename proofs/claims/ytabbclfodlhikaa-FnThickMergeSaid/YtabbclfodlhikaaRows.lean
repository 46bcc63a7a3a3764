/-
  No cell of these rows narrows 'for every input' (looked for: loops, veiled, ifaces, maps, wideKeys, modest, calm, conditions, laid).
  DERIVED. THE GIVEN ROWS OF THIS SEAT. 8 by the template 'for every input the law returns true; each argument reads behind the call as it read before'; 0 by the template 'total and deterministic' (their statements: YtabbclfodlhikaaTotals.lean).
  GIVEN WITH THE SEED: the statements are not yours to turn. If you find one false, say at which input.
  Laid BY PROGRAM, IN A SANDBOX (cutbox-rows.mjs): the forced cells as the released guide's own fill.sh prints them over the translation c5a95ac178661aaf… (all of the seat's roots in one cut). By AI agents, Wed Nov 11 2026. No macro, syntax, notation, axiom, sorry.
-/
import Derived.Test.YtabbclfodlhikaaChecked
import GoSem.Claim
import GoSem.ClaimJoined
import GoSem.ClaimMapViews
import Derived.JoinedTies
import Derived.KernelRfl
namespace Go.Proofs.Ytabbclfodlhikaa
/- THE CELL 'sum', in the pinned program and in every row, IS THE sha256 OF THE DUMP (.gsa) THAT YtabbclfodlhikaaProg.lean LOADS. Nothing in Lean hashes anything: it is a label: what it is worth is what the hold of that sum in a sandbox is worth. -/
noncomputable def Try.pinned : Pinned := { name := "ytabbclfodlhikaa", sum := "c5a95ac178661aaf1f6432ef0bc4f32f119b3a941caf2369d3fb5796bfa73289", checked := Try.checked }
namespace Rows
def none {H : Type} : Left H := { results := [], args := [] }

/-- 'laws.FnHalfSure': WHATEVER THE INPUT: true; the input reads as it did. -/
def fnHalfSureSpec : ChangeSpec := { name := "fnHalfSure", fn := fun _ => fun
  | [d] => { results := [.lit (.bool true)], args := [d] }
  | _ => none }
def fnHalfSureRow : OpenClaim := { program := "ytabbclfodlhikaa", sum := "c5a95ac178661aaf1f6432ef0bc4f32f119b3a941caf2369d3fb5796bfa73289", func := "loop.example/icecores/laws.FnHalfSure", spec := "fnHalfSure", apart := false }
def FnHalfSureSaid : Prop := fnHalfSureRow.holds Try.pinned (OpenSpec.ofChange fnHalfSureSpec)

/-- ITS FALSE NEIGHBOUR: 'it returns false'. Refute it at one input. -/
def fnHalfSureWrong : ChangeSpec := { name := "fnHalfSure", fn := fun _ => fun
  | [d] => { results := [.lit (.bool false)], args := [d] }
  | _ => none }
def FnHalfSureWrongFalsely : Prop := fnHalfSureRow.holds Try.pinned (OpenSpec.ofChange fnHalfSureWrong)

/-- 'laws.FnExactLayersDepth': WHATEVER THE INPUT: true; the input reads as it did. -/
def fnExactLayersDepthSpec : ChangeSpec := { name := "fnExactLayersDepth", fn := fun _ => fun
  | [d1, d2] => { results := [.lit (.bool true)], args := [d1, d2] }
  | _ => none }
def fnExactLayersDepthRow : OpenClaim := { program := "ytabbclfodlhikaa", sum := "c5a95ac178661aaf1f6432ef0bc4f32f119b3a941caf2369d3fb5796bfa73289", func := "loop.example/icecores/laws.FnExactLayersDepth", spec := "fnExactLayersDepth", apart := false }
def FnExactLayersDepthSaid : Prop := fnExactLayersDepthRow.holds Try.pinned (OpenSpec.ofChange fnExactLayersDepthSpec)

/-- ITS FALSE NEIGHBOUR: 'it returns false'. Refute it at one input. -/
def fnExactLayersDepthWrong : ChangeSpec := { name := "fnExactLayersDepth", fn := fun _ => fun
  | [d1, d2] => { results := [.lit (.bool false)], args := [d1, d2] }
  | _ => none }
def FnExactLayersDepthWrongFalsely : Prop := fnExactLayersDepthRow.holds Try.pinned (OpenSpec.ofChange fnExactLayersDepthWrong)

/-- 'laws.FnDepthRises': WHATEVER THE INPUT: true; the input reads as it did. -/
def fnDepthRisesSpec : ChangeSpec := { name := "fnDepthRises", fn := fun _ => fun
  | [d] => { results := [.lit (.bool true)], args := [d] }
  | _ => none }
def fnDepthRisesRow : OpenClaim := { program := "ytabbclfodlhikaa", sum := "c5a95ac178661aaf1f6432ef0bc4f32f119b3a941caf2369d3fb5796bfa73289", func := "loop.example/icecores/laws.FnDepthRises", spec := "fnDepthRises", apart := false }
def FnDepthRisesSaid : Prop := fnDepthRisesRow.holds Try.pinned (OpenSpec.ofChange fnDepthRisesSpec)

/-- ITS FALSE NEIGHBOUR: 'it returns false'. Refute it at one input. -/
def fnDepthRisesWrong : ChangeSpec := { name := "fnDepthRises", fn := fun _ => fun
  | [d] => { results := [.lit (.bool false)], args := [d] }
  | _ => none }
def FnDepthRisesWrongFalsely : Prop := fnDepthRisesRow.holds Try.pinned (OpenSpec.ofChange fnDepthRisesWrong)

/-- 'laws.FnDepth': WHATEVER THE INPUT: true; the input reads as it did. -/
def fnDepthSpec : ChangeSpec := { name := "fnDepth", fn := fun _ => fun
  | [d] => { results := [.lit (.bool true)], args := [d] }
  | _ => none }
def fnDepthRow : OpenClaim := { program := "ytabbclfodlhikaa", sum := "c5a95ac178661aaf1f6432ef0bc4f32f119b3a941caf2369d3fb5796bfa73289", func := "loop.example/icecores/laws.FnDepth", spec := "fnDepth", apart := false }
def FnDepthSaid : Prop := fnDepthRow.holds Try.pinned (OpenSpec.ofChange fnDepthSpec)

/-- ITS FALSE NEIGHBOUR: 'it returns false'. Refute it at one input. -/
def fnDepthWrong : ChangeSpec := { name := "fnDepth", fn := fun _ => fun
  | [d] => { results := [.lit (.bool false)], args := [d] }
  | _ => none }
def FnDepthWrongFalsely : Prop := fnDepthRow.holds Try.pinned (OpenSpec.ofChange fnDepthWrong)

/-- 'laws.FnExactLayersThick': WHATEVER THE INPUT: true; the input reads as it did. -/
def fnExactLayersThickSpec : ChangeSpec := { name := "fnExactLayersThick", fn := fun _ => fun
  | [d] => { results := [.lit (.bool true)], args := [d] }
  | _ => none }
def fnExactLayersThickRow : OpenClaim := { program := "ytabbclfodlhikaa", sum := "c5a95ac178661aaf1f6432ef0bc4f32f119b3a941caf2369d3fb5796bfa73289", func := "loop.example/icecores/laws.FnExactLayersThick", spec := "fnExactLayersThick", apart := false }
def FnExactLayersThickSaid : Prop := fnExactLayersThickRow.holds Try.pinned (OpenSpec.ofChange fnExactLayersThickSpec)

/-- ITS FALSE NEIGHBOUR: 'it returns false'. Refute it at one input. -/
def fnExactLayersThickWrong : ChangeSpec := { name := "fnExactLayersThick", fn := fun _ => fun
  | [d] => { results := [.lit (.bool false)], args := [d] }
  | _ => none }
def FnExactLayersThickWrongFalsely : Prop := fnExactLayersThickRow.holds Try.pinned (OpenSpec.ofChange fnExactLayersThickWrong)

/-- 'laws.FnThickSure': WHATEVER THE INPUT: true; the input reads as it did. -/
def fnThickSureSpec : ChangeSpec := { name := "fnThickSure", fn := fun _ => fun
  | [d] => { results := [.lit (.bool true)], args := [d] }
  | _ => none }
def fnThickSureRow : OpenClaim := { program := "ytabbclfodlhikaa", sum := "c5a95ac178661aaf1f6432ef0bc4f32f119b3a941caf2369d3fb5796bfa73289", func := "loop.example/icecores/laws.FnThickSure", spec := "fnThickSure", apart := false }
def FnThickSureSaid : Prop := fnThickSureRow.holds Try.pinned (OpenSpec.ofChange fnThickSureSpec)

/-- ITS FALSE NEIGHBOUR: 'it returns false'. Refute it at one input. -/
def fnThickSureWrong : ChangeSpec := { name := "fnThickSure", fn := fun _ => fun
  | [d] => { results := [.lit (.bool false)], args := [d] }
  | _ => none }
def FnThickSureWrongFalsely : Prop := fnThickSureRow.holds Try.pinned (OpenSpec.ofChange fnThickSureWrong)

/-- 'laws.FnThick': WHATEVER THE INPUT: true; the input reads as it did. -/
def fnThickSpec : ChangeSpec := { name := "fnThick", fn := fun _ => fun
  | [d] => { results := [.lit (.bool true)], args := [d] }
  | _ => none }
def fnThickRow : OpenClaim := { program := "ytabbclfodlhikaa", sum := "c5a95ac178661aaf1f6432ef0bc4f32f119b3a941caf2369d3fb5796bfa73289", func := "loop.example/icecores/laws.FnThick", spec := "fnThick", apart := false }
def FnThickSaid : Prop := fnThickRow.holds Try.pinned (OpenSpec.ofChange fnThickSpec)

/-- ITS FALSE NEIGHBOUR: 'it returns false'. Refute it at one input. -/
def fnThickWrong : ChangeSpec := { name := "fnThick", fn := fun _ => fun
  | [d] => { results := [.lit (.bool false)], args := [d] }
  | _ => none }
def FnThickWrongFalsely : Prop := fnThickRow.holds Try.pinned (OpenSpec.ofChange fnThickWrong)

/-- 'laws.FnThickMerge': WHATEVER THE INPUT: true; the input reads as it did. -/
def fnThickMergeSpec : ChangeSpec := { name := "fnThickMerge", fn := fun _ => fun
  | [d] => { results := [.lit (.bool true)], args := [d] }
  | _ => none }
def fnThickMergeRow : OpenClaim := { program := "ytabbclfodlhikaa", sum := "c5a95ac178661aaf1f6432ef0bc4f32f119b3a941caf2369d3fb5796bfa73289", func := "loop.example/icecores/laws.FnThickMerge", spec := "fnThickMerge", apart := false }
def FnThickMergeSaid : Prop := fnThickMergeRow.holds Try.pinned (OpenSpec.ofChange fnThickMergeSpec)

/-- ITS FALSE NEIGHBOUR: 'it returns false'. Refute it at one input. -/
def fnThickMergeWrong : ChangeSpec := { name := "fnThickMerge", fn := fun _ => fun
  | [d] => { results := [.lit (.bool false)], args := [d] }
  | _ => none }
def FnThickMergeWrongFalsely : Prop := fnThickMergeRow.holds Try.pinned (OpenSpec.ofChange fnThickMergeWrong)

/- THE SECOND FORM. 'bulk': how many values and letters a reading holds, each counted each time it is reached (what is shared counts as often as it is met; a slice's spare places count too). A statement '..UptoSaid' is the law's where the arguments, and the package variables that the reading takes, are together of bulk at most 1048576: NARROWER than '..Said'. Prove '..Said' where nothing that the law and all that it calls make is longer than what came in: it says more and counts as full. Else prove '..UptoSaid'. A law counts once. -/
mutual
def uptoBulk {H : Type} : DataW H → Nat
  | .lit (.string bytes) => bytes.length + 1
  | .lit _ => 1
  | .nil => 1
  | .ptr d => uptoBulk d + 1
  | .slice elems spare => uptoBulkAll elems + uptoBulkAll spare + 1
  | .agg parts => uptoBulkAll parts + 1
  | .iface _ d => uptoBulk d + 1
  | .map entries => uptoBulkEntries entries + 1
  | .held _ => 1
def uptoBulkAll {H : Type} : List (DataW H) → Nat
  | [] => 0
  | d :: r => uptoBulk d + uptoBulkAll r
def uptoBulkEntries {H : Type} : List (Lit × DataW H) → Nat
  | [] => 0
  | x :: r => uptoBulkEntry x + uptoBulkEntries r
def uptoBulkEntry {H : Type} : Lit × DataW H → Nat
  | (.string bytes, d) => bytes.length + uptoBulk d + 1
  | (_, d) => uptoBulk d + 1
 end
def uptoSmall : (H : Type) → List (DataW H) → Bool := fun _ ds => decide (uptoBulkAll ds ≤ 1048576)
def OpenSpec.upto (s : _root_.Go.ChangeSpec) : _root_.Go.OpenSpec := { _root_.Go.OpenSpec.ofChange s with cond := some uptoSmall }

/-- 'laws.FnHalfSure', WHERE WHAT IT READS IS OF BULK AT MOST 1048576: true; the input reads as it did. -/
def fnHalfSureUptoRow : OpenClaim := { program := "ytabbclfodlhikaa", sum := "c5a95ac178661aaf1f6432ef0bc4f32f119b3a941caf2369d3fb5796bfa73289", func := "loop.example/icecores/laws.FnHalfSure", spec := "fnHalfSure", apart := false, narrowed := true }
def FnHalfSureUptoSaid : Prop := fnHalfSureUptoRow.holds Try.pinned (OpenSpec.upto fnHalfSureSpec)

/-- 'laws.FnExactLayersDepth', WHERE WHAT IT READS IS OF BULK AT MOST 1048576: true; the input reads as it did. -/
def fnExactLayersDepthUptoRow : OpenClaim := { program := "ytabbclfodlhikaa", sum := "c5a95ac178661aaf1f6432ef0bc4f32f119b3a941caf2369d3fb5796bfa73289", func := "loop.example/icecores/laws.FnExactLayersDepth", spec := "fnExactLayersDepth", apart := false, narrowed := true }
def FnExactLayersDepthUptoSaid : Prop := fnExactLayersDepthUptoRow.holds Try.pinned (OpenSpec.upto fnExactLayersDepthSpec)

/-- 'laws.FnDepthRises', WHERE WHAT IT READS IS OF BULK AT MOST 1048576: true; the input reads as it did. -/
def fnDepthRisesUptoRow : OpenClaim := { program := "ytabbclfodlhikaa", sum := "c5a95ac178661aaf1f6432ef0bc4f32f119b3a941caf2369d3fb5796bfa73289", func := "loop.example/icecores/laws.FnDepthRises", spec := "fnDepthRises", apart := false, narrowed := true }
def FnDepthRisesUptoSaid : Prop := fnDepthRisesUptoRow.holds Try.pinned (OpenSpec.upto fnDepthRisesSpec)

/-- 'laws.FnDepth', WHERE WHAT IT READS IS OF BULK AT MOST 1048576: true; the input reads as it did. -/
def fnDepthUptoRow : OpenClaim := { program := "ytabbclfodlhikaa", sum := "c5a95ac178661aaf1f6432ef0bc4f32f119b3a941caf2369d3fb5796bfa73289", func := "loop.example/icecores/laws.FnDepth", spec := "fnDepth", apart := false, narrowed := true }
def FnDepthUptoSaid : Prop := fnDepthUptoRow.holds Try.pinned (OpenSpec.upto fnDepthSpec)

/-- 'laws.FnExactLayersThick', WHERE WHAT IT READS IS OF BULK AT MOST 1048576: true; the input reads as it did. -/
def fnExactLayersThickUptoRow : OpenClaim := { program := "ytabbclfodlhikaa", sum := "c5a95ac178661aaf1f6432ef0bc4f32f119b3a941caf2369d3fb5796bfa73289", func := "loop.example/icecores/laws.FnExactLayersThick", spec := "fnExactLayersThick", apart := false, narrowed := true }
def FnExactLayersThickUptoSaid : Prop := fnExactLayersThickUptoRow.holds Try.pinned (OpenSpec.upto fnExactLayersThickSpec)

/-- 'laws.FnThickSure', WHERE WHAT IT READS IS OF BULK AT MOST 1048576: true; the input reads as it did. -/
def fnThickSureUptoRow : OpenClaim := { program := "ytabbclfodlhikaa", sum := "c5a95ac178661aaf1f6432ef0bc4f32f119b3a941caf2369d3fb5796bfa73289", func := "loop.example/icecores/laws.FnThickSure", spec := "fnThickSure", apart := false, narrowed := true }
def FnThickSureUptoSaid : Prop := fnThickSureUptoRow.holds Try.pinned (OpenSpec.upto fnThickSureSpec)

/-- 'laws.FnThick', WHERE WHAT IT READS IS OF BULK AT MOST 1048576: true; the input reads as it did. -/
def fnThickUptoRow : OpenClaim := { program := "ytabbclfodlhikaa", sum := "c5a95ac178661aaf1f6432ef0bc4f32f119b3a941caf2369d3fb5796bfa73289", func := "loop.example/icecores/laws.FnThick", spec := "fnThick", apart := false, narrowed := true }
def FnThickUptoSaid : Prop := fnThickUptoRow.holds Try.pinned (OpenSpec.upto fnThickSpec)

/-- 'laws.FnThickMerge', WHERE WHAT IT READS IS OF BULK AT MOST 1048576: true; the input reads as it did. -/
def fnThickMergeUptoRow : OpenClaim := { program := "ytabbclfodlhikaa", sum := "c5a95ac178661aaf1f6432ef0bc4f32f119b3a941caf2369d3fb5796bfa73289", func := "loop.example/icecores/laws.FnThickMerge", spec := "fnThickMerge", apart := false, narrowed := true }
def FnThickMergeUptoSaid : Prop := fnThickMergeUptoRow.holds Try.pinned (OpenSpec.upto fnThickMergeSpec)

end Rows
end Go.Proofs.Ytabbclfodlhikaa
