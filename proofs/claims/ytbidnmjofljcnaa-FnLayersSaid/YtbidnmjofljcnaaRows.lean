/-
  No cell of these rows narrows 'for every input' (looked for: loops, veiled, ifaces, maps, wideKeys, modest, calm, conditions, laid).
  DERIVED. THE GIVEN ROWS OF THIS SEAT. 12 by the template 'for every input the law returns true; each argument reads behind the call as it read before'; 0 by the template 'total and deterministic' (their statements: YtbidnmjofljcnaaTotals.lean).
  GIVEN WITH THE SEED: the statements are not yours to turn. If you find one false, say at which input.
  Laid BY PROGRAM, IN A SANDBOX (cutbox-rows.mjs): the forced cells as the released guide's own fill.sh prints them over the translation 10b8b7a03fa25c77… (all of the seat's roots in one cut). By AI agents, Wed Nov 11 2026. No macro, syntax, notation, axiom, sorry.
-/
import Derived.Test.YtbidnmjofljcnaaChecked
import GoSem.Claim
import GoSem.ClaimJoined
import GoSem.ClaimMapViews
import Derived.JoinedTies
import Derived.KernelRfl
namespace Go.Proofs.Ytbidnmjofljcnaa
/- THE CELL 'sum', in the pinned program and in every row, IS THE sha256 OF THE DUMP (.gsa) THAT YtbidnmjofljcnaaProg.lean LOADS. Nothing in Lean hashes anything: it is a label: what it is worth is what the hold of that sum in a sandbox is worth. -/
noncomputable def Try.pinned : Pinned := { name := "ytbidnmjofljcnaa", sum := "10b8b7a03fa25c77176ef1f50a83792998c98fc5287cdc6ec53cb239a57d0110", checked := Try.checked }
namespace Rows
def none {H : Type} : Left H := { results := [], args := [] }

/-- 'laws.FnExactLayersValid': WHATEVER THE INPUT: true; the input reads as it did. -/
def fnExactLayersValidSpec : ChangeSpec := { name := "fnExactLayersValid", fn := fun _ => fun
  | [d] => { results := [.lit (.bool true)], args := [d] }
  | _ => none }
def fnExactLayersValidRow : OpenClaim := { program := "ytbidnmjofljcnaa", sum := "10b8b7a03fa25c77176ef1f50a83792998c98fc5287cdc6ec53cb239a57d0110", func := "loop.example/icecores/laws.FnExactLayersValid", spec := "fnExactLayersValid", apart := false }
def FnExactLayersValidSaid : Prop := fnExactLayersValidRow.holds Try.pinned (OpenSpec.ofChange fnExactLayersValidSpec)

/-- ITS FALSE NEIGHBOUR: 'it returns false'. Refute it at one input. -/
def fnExactLayersValidWrong : ChangeSpec := { name := "fnExactLayersValid", fn := fun _ => fun
  | [d] => { results := [.lit (.bool false)], args := [d] }
  | _ => none }
def FnExactLayersValidWrongFalsely : Prop := fnExactLayersValidRow.holds Try.pinned (OpenSpec.ofChange fnExactLayersValidWrong)

/-- 'laws.FnLayers': WHATEVER THE INPUT: true; the input reads as it did. -/
def fnLayersSpec : ChangeSpec := { name := "fnLayers", fn := fun _ => fun
  | [d1, d2] => { results := [.lit (.bool true)], args := [d1, d2] }
  | _ => none }
def fnLayersRow : OpenClaim := { program := "ytbidnmjofljcnaa", sum := "10b8b7a03fa25c77176ef1f50a83792998c98fc5287cdc6ec53cb239a57d0110", func := "loop.example/icecores/laws.FnLayers", spec := "fnLayers", apart := false }
def FnLayersSaid : Prop := fnLayersRow.holds Try.pinned (OpenSpec.ofChange fnLayersSpec)

/-- ITS FALSE NEIGHBOUR: 'it returns false'. Refute it at one input. -/
def fnLayersWrong : ChangeSpec := { name := "fnLayers", fn := fun _ => fun
  | [d1, d2] => { results := [.lit (.bool false)], args := [d1, d2] }
  | _ => none }
def FnLayersWrongFalsely : Prop := fnLayersRow.holds Try.pinned (OpenSpec.ofChange fnLayersWrong)

/-- 'laws.FnExactLayersCount': WHATEVER THE INPUT: true; the input reads as it did. -/
def fnExactLayersCountSpec : ChangeSpec := { name := "fnExactLayersCount", fn := fun _ => fun
  | [d1, d2, d3] => { results := [.lit (.bool true)], args := [d1, d2, d3] }
  | _ => none }
def fnExactLayersCountRow : OpenClaim := { program := "ytbidnmjofljcnaa", sum := "10b8b7a03fa25c77176ef1f50a83792998c98fc5287cdc6ec53cb239a57d0110", func := "loop.example/icecores/laws.FnExactLayersCount", spec := "fnExactLayersCount", apart := false }
def FnExactLayersCountSaid : Prop := fnExactLayersCountRow.holds Try.pinned (OpenSpec.ofChange fnExactLayersCountSpec)

/-- ITS FALSE NEIGHBOUR: 'it returns false'. Refute it at one input. -/
def fnExactLayersCountWrong : ChangeSpec := { name := "fnExactLayersCount", fn := fun _ => fun
  | [d1, d2, d3] => { results := [.lit (.bool false)], args := [d1, d2, d3] }
  | _ => none }
def FnExactLayersCountWrongFalsely : Prop := fnExactLayersCountRow.holds Try.pinned (OpenSpec.ofChange fnExactLayersCountWrong)

/-- 'laws.FnExactLayersHalf': WHATEVER THE INPUT: true; the input reads as it did. -/
def fnExactLayersHalfSpec : ChangeSpec := { name := "fnExactLayersHalf", fn := fun _ => fun
  | [d1, d2, d3] => { results := [.lit (.bool true)], args := [d1, d2, d3] }
  | _ => none }
def fnExactLayersHalfRow : OpenClaim := { program := "ytbidnmjofljcnaa", sum := "10b8b7a03fa25c77176ef1f50a83792998c98fc5287cdc6ec53cb239a57d0110", func := "loop.example/icecores/laws.FnExactLayersHalf", spec := "fnExactLayersHalf", apart := false }
def FnExactLayersHalfSaid : Prop := fnExactLayersHalfRow.holds Try.pinned (OpenSpec.ofChange fnExactLayersHalfSpec)

/-- ITS FALSE NEIGHBOUR: 'it returns false'. Refute it at one input. -/
def fnExactLayersHalfWrong : ChangeSpec := { name := "fnExactLayersHalf", fn := fun _ => fun
  | [d1, d2, d3] => { results := [.lit (.bool false)], args := [d1, d2, d3] }
  | _ => none }
def FnExactLayersHalfWrongFalsely : Prop := fnExactLayersHalfRow.holds Try.pinned (OpenSpec.ofChange fnExactLayersHalfWrong)

/-- 'laws.FnExactLayersAge': WHATEVER THE INPUT: true; the input reads as it did. -/
def fnExactLayersAgeSpec : ChangeSpec := { name := "fnExactLayersAge", fn := fun _ => fun
  | [d1, d2, d3] => { results := [.lit (.bool true)], args := [d1, d2, d3] }
  | _ => none }
def fnExactLayersAgeRow : OpenClaim := { program := "ytbidnmjofljcnaa", sum := "10b8b7a03fa25c77176ef1f50a83792998c98fc5287cdc6ec53cb239a57d0110", func := "loop.example/icecores/laws.FnExactLayersAge", spec := "fnExactLayersAge", apart := false }
def FnExactLayersAgeSaid : Prop := fnExactLayersAgeRow.holds Try.pinned (OpenSpec.ofChange fnExactLayersAgeSpec)

/-- ITS FALSE NEIGHBOUR: 'it returns false'. Refute it at one input. -/
def fnExactLayersAgeWrong : ChangeSpec := { name := "fnExactLayersAge", fn := fun _ => fun
  | [d1, d2, d3] => { results := [.lit (.bool false)], args := [d1, d2, d3] }
  | _ => none }
def FnExactLayersAgeWrongFalsely : Prop := fnExactLayersAgeRow.holds Try.pinned (OpenSpec.ofChange fnExactLayersAgeWrong)

/-- 'laws.FnCount': WHATEVER THE INPUT: true; the input reads as it did. -/
def fnCountSpec : ChangeSpec := { name := "fnCount", fn := fun _ => fun
  | [d1, d2] => { results := [.lit (.bool true)], args := [d1, d2] }
  | _ => none }
def fnCountRow : OpenClaim := { program := "ytbidnmjofljcnaa", sum := "10b8b7a03fa25c77176ef1f50a83792998c98fc5287cdc6ec53cb239a57d0110", func := "loop.example/icecores/laws.FnCount", spec := "fnCount", apart := false }
def FnCountSaid : Prop := fnCountRow.holds Try.pinned (OpenSpec.ofChange fnCountSpec)

/-- ITS FALSE NEIGHBOUR: 'it returns false'. Refute it at one input. -/
def fnCountWrong : ChangeSpec := { name := "fnCount", fn := fun _ => fun
  | [d1, d2] => { results := [.lit (.bool false)], args := [d1, d2] }
  | _ => none }
def FnCountWrongFalsely : Prop := fnCountRow.holds Try.pinned (OpenSpec.ofChange fnCountWrong)

/-- 'laws.FnCountNone': WHATEVER THE INPUT: true; the input reads as it did. -/
def fnCountNoneSpec : ChangeSpec := { name := "fnCountNone", fn := fun _ => fun
  | [d] => { results := [.lit (.bool true)], args := [d] }
  | _ => none }
def fnCountNoneRow : OpenClaim := { program := "ytbidnmjofljcnaa", sum := "10b8b7a03fa25c77176ef1f50a83792998c98fc5287cdc6ec53cb239a57d0110", func := "loop.example/icecores/laws.FnCountNone", spec := "fnCountNone", apart := false }
def FnCountNoneSaid : Prop := fnCountNoneRow.holds Try.pinned (OpenSpec.ofChange fnCountNoneSpec)

/-- ITS FALSE NEIGHBOUR: 'it returns false'. Refute it at one input. -/
def fnCountNoneWrong : ChangeSpec := { name := "fnCountNone", fn := fun _ => fun
  | [d] => { results := [.lit (.bool false)], args := [d] }
  | _ => none }
def FnCountNoneWrongFalsely : Prop := fnCountNoneRow.holds Try.pinned (OpenSpec.ofChange fnCountNoneWrong)

/-- 'laws.FnCountWider': WHATEVER THE INPUT: true; the input reads as it did. -/
def fnCountWiderSpec : ChangeSpec := { name := "fnCountWider", fn := fun _ => fun
  | [d] => { results := [.lit (.bool true)], args := [d] }
  | _ => none }
def fnCountWiderRow : OpenClaim := { program := "ytbidnmjofljcnaa", sum := "10b8b7a03fa25c77176ef1f50a83792998c98fc5287cdc6ec53cb239a57d0110", func := "loop.example/icecores/laws.FnCountWider", spec := "fnCountWider", apart := false }
def FnCountWiderSaid : Prop := fnCountWiderRow.holds Try.pinned (OpenSpec.ofChange fnCountWiderSpec)

/-- ITS FALSE NEIGHBOUR: 'it returns false'. Refute it at one input. -/
def fnCountWiderWrong : ChangeSpec := { name := "fnCountWider", fn := fun _ => fun
  | [d] => { results := [.lit (.bool false)], args := [d] }
  | _ => none }
def FnCountWiderWrongFalsely : Prop := fnCountWiderRow.holds Try.pinned (OpenSpec.ofChange fnCountWiderWrong)

/-- 'laws.FnCountSure': WHATEVER THE INPUT: true; the input reads as it did. -/
def fnCountSureSpec : ChangeSpec := { name := "fnCountSure", fn := fun _ => fun
  | [d] => { results := [.lit (.bool true)], args := [d] }
  | _ => none }
def fnCountSureRow : OpenClaim := { program := "ytbidnmjofljcnaa", sum := "10b8b7a03fa25c77176ef1f50a83792998c98fc5287cdc6ec53cb239a57d0110", func := "loop.example/icecores/laws.FnCountSure", spec := "fnCountSure", apart := false }
def FnCountSureSaid : Prop := fnCountSureRow.holds Try.pinned (OpenSpec.ofChange fnCountSureSpec)

/-- ITS FALSE NEIGHBOUR: 'it returns false'. Refute it at one input. -/
def fnCountSureWrong : ChangeSpec := { name := "fnCountSure", fn := fun _ => fun
  | [d] => { results := [.lit (.bool false)], args := [d] }
  | _ => none }
def FnCountSureWrongFalsely : Prop := fnCountSureRow.holds Try.pinned (OpenSpec.ofChange fnCountSureWrong)

/-- 'laws.FnAge': WHATEVER THE INPUT: true; the input reads as it did. -/
def fnAgeSpec : ChangeSpec := { name := "fnAge", fn := fun _ => fun
  | [d] => { results := [.lit (.bool true)], args := [d] }
  | _ => none }
def fnAgeRow : OpenClaim := { program := "ytbidnmjofljcnaa", sum := "10b8b7a03fa25c77176ef1f50a83792998c98fc5287cdc6ec53cb239a57d0110", func := "loop.example/icecores/laws.FnAge", spec := "fnAge", apart := false }
def FnAgeSaid : Prop := fnAgeRow.holds Try.pinned (OpenSpec.ofChange fnAgeSpec)

/-- ITS FALSE NEIGHBOUR: 'it returns false'. Refute it at one input. -/
def fnAgeWrong : ChangeSpec := { name := "fnAge", fn := fun _ => fun
  | [d] => { results := [.lit (.bool false)], args := [d] }
  | _ => none }
def FnAgeWrongFalsely : Prop := fnAgeRow.holds Try.pinned (OpenSpec.ofChange fnAgeWrong)

/-- 'laws.FnAgeCount': WHATEVER THE INPUT: true; the input reads as it did. -/
def fnAgeCountSpec : ChangeSpec := { name := "fnAgeCount", fn := fun _ => fun
  | [d1, d2] => { results := [.lit (.bool true)], args := [d1, d2] }
  | _ => none }
def fnAgeCountRow : OpenClaim := { program := "ytbidnmjofljcnaa", sum := "10b8b7a03fa25c77176ef1f50a83792998c98fc5287cdc6ec53cb239a57d0110", func := "loop.example/icecores/laws.FnAgeCount", spec := "fnAgeCount", apart := false }
def FnAgeCountSaid : Prop := fnAgeCountRow.holds Try.pinned (OpenSpec.ofChange fnAgeCountSpec)

/-- ITS FALSE NEIGHBOUR: 'it returns false'. Refute it at one input. -/
def fnAgeCountWrong : ChangeSpec := { name := "fnAgeCount", fn := fun _ => fun
  | [d1, d2] => { results := [.lit (.bool false)], args := [d1, d2] }
  | _ => none }
def FnAgeCountWrongFalsely : Prop := fnAgeCountRow.holds Try.pinned (OpenSpec.ofChange fnAgeCountWrong)

/-- 'laws.FnHalf': WHATEVER THE INPUT: true; the input reads as it did. -/
def fnHalfSpec : ChangeSpec := { name := "fnHalf", fn := fun _ => fun
  | [d1, d2] => { results := [.lit (.bool true)], args := [d1, d2] }
  | _ => none }
def fnHalfRow : OpenClaim := { program := "ytbidnmjofljcnaa", sum := "10b8b7a03fa25c77176ef1f50a83792998c98fc5287cdc6ec53cb239a57d0110", func := "loop.example/icecores/laws.FnHalf", spec := "fnHalf", apart := false }
def FnHalfSaid : Prop := fnHalfRow.holds Try.pinned (OpenSpec.ofChange fnHalfSpec)

/-- ITS FALSE NEIGHBOUR: 'it returns false'. Refute it at one input. -/
def fnHalfWrong : ChangeSpec := { name := "fnHalf", fn := fun _ => fun
  | [d1, d2] => { results := [.lit (.bool false)], args := [d1, d2] }
  | _ => none }
def FnHalfWrongFalsely : Prop := fnHalfRow.holds Try.pinned (OpenSpec.ofChange fnHalfWrong)

/- THE SECOND FORM. 'bulk': how many values and letters a reading holds, each counted each time it is reached (what is shared counts as often as it is met; a slice's spare places count too). A statement '..UptoSaid' is the law's where the arguments, and the package variables that the reading takes, are together of bulk at most 1048576: NARROWER than '..Said'. Prove '..Said' where nothing that the law and all that it calls make is longer than what came in: it says more and counts as full. Else prove '..UptoSaid'. A law counts once. -/
mutual
def uptoBulk {H : Type} : DataW H → Nat
  | .lit (.string bytes) => bytes.length + 1
  | .lit _ => 1
  | .nil => 1
  | .ptr d => uptoBulk d + 1
  | .slice elems spare => uptoBulkAll elems + uptoBulkAll spare + 1
  | .agg parts => uptoBulkAll parts + 1
  | .iface _ d => uptoBulk d + 1
  | .map entries => uptoBulkEntries entries + 1
  | .held _ => 1
def uptoBulkAll {H : Type} : List (DataW H) → Nat
  | [] => 0
  | d :: r => uptoBulk d + uptoBulkAll r
def uptoBulkEntries {H : Type} : List (Lit × DataW H) → Nat
  | [] => 0
  | x :: r => uptoBulkEntry x + uptoBulkEntries r
def uptoBulkEntry {H : Type} : Lit × DataW H → Nat
  | (.string bytes, d) => bytes.length + uptoBulk d + 1
  | (_, d) => uptoBulk d + 1
 end
def uptoSmall : (H : Type) → List (DataW H) → Bool := fun _ ds => decide (uptoBulkAll ds ≤ 1048576)
def OpenSpec.upto (s : _root_.Go.ChangeSpec) : _root_.Go.OpenSpec := { _root_.Go.OpenSpec.ofChange s with cond := some uptoSmall }

/-- 'laws.FnExactLayersValid', WHERE WHAT IT READS IS OF BULK AT MOST 1048576: true; the input reads as it did. -/
def fnExactLayersValidUptoRow : OpenClaim := { program := "ytbidnmjofljcnaa", sum := "10b8b7a03fa25c77176ef1f50a83792998c98fc5287cdc6ec53cb239a57d0110", func := "loop.example/icecores/laws.FnExactLayersValid", spec := "fnExactLayersValid", apart := false, narrowed := true }
def FnExactLayersValidUptoSaid : Prop := fnExactLayersValidUptoRow.holds Try.pinned (OpenSpec.upto fnExactLayersValidSpec)

/-- 'laws.FnLayers', WHERE WHAT IT READS IS OF BULK AT MOST 1048576: true; the input reads as it did. -/
def fnLayersUptoRow : OpenClaim := { program := "ytbidnmjofljcnaa", sum := "10b8b7a03fa25c77176ef1f50a83792998c98fc5287cdc6ec53cb239a57d0110", func := "loop.example/icecores/laws.FnLayers", spec := "fnLayers", apart := false, narrowed := true }
def FnLayersUptoSaid : Prop := fnLayersUptoRow.holds Try.pinned (OpenSpec.upto fnLayersSpec)

/-- 'laws.FnExactLayersCount', WHERE WHAT IT READS IS OF BULK AT MOST 1048576: true; the input reads as it did. -/
def fnExactLayersCountUptoRow : OpenClaim := { program := "ytbidnmjofljcnaa", sum := "10b8b7a03fa25c77176ef1f50a83792998c98fc5287cdc6ec53cb239a57d0110", func := "loop.example/icecores/laws.FnExactLayersCount", spec := "fnExactLayersCount", apart := false, narrowed := true }
def FnExactLayersCountUptoSaid : Prop := fnExactLayersCountUptoRow.holds Try.pinned (OpenSpec.upto fnExactLayersCountSpec)

/-- 'laws.FnExactLayersHalf', WHERE WHAT IT READS IS OF BULK AT MOST 1048576: true; the input reads as it did. -/
def fnExactLayersHalfUptoRow : OpenClaim := { program := "ytbidnmjofljcnaa", sum := "10b8b7a03fa25c77176ef1f50a83792998c98fc5287cdc6ec53cb239a57d0110", func := "loop.example/icecores/laws.FnExactLayersHalf", spec := "fnExactLayersHalf", apart := false, narrowed := true }
def FnExactLayersHalfUptoSaid : Prop := fnExactLayersHalfUptoRow.holds Try.pinned (OpenSpec.upto fnExactLayersHalfSpec)

/-- 'laws.FnExactLayersAge', WHERE WHAT IT READS IS OF BULK AT MOST 1048576: true; the input reads as it did. -/
def fnExactLayersAgeUptoRow : OpenClaim := { program := "ytbidnmjofljcnaa", sum := "10b8b7a03fa25c77176ef1f50a83792998c98fc5287cdc6ec53cb239a57d0110", func := "loop.example/icecores/laws.FnExactLayersAge", spec := "fnExactLayersAge", apart := false, narrowed := true }
def FnExactLayersAgeUptoSaid : Prop := fnExactLayersAgeUptoRow.holds Try.pinned (OpenSpec.upto fnExactLayersAgeSpec)

/-- 'laws.FnCount', WHERE WHAT IT READS IS OF BULK AT MOST 1048576: true; the input reads as it did. -/
def fnCountUptoRow : OpenClaim := { program := "ytbidnmjofljcnaa", sum := "10b8b7a03fa25c77176ef1f50a83792998c98fc5287cdc6ec53cb239a57d0110", func := "loop.example/icecores/laws.FnCount", spec := "fnCount", apart := false, narrowed := true }
def FnCountUptoSaid : Prop := fnCountUptoRow.holds Try.pinned (OpenSpec.upto fnCountSpec)

/-- 'laws.FnCountNone', WHERE WHAT IT READS IS OF BULK AT MOST 1048576: true; the input reads as it did. -/
def fnCountNoneUptoRow : OpenClaim := { program := "ytbidnmjofljcnaa", sum := "10b8b7a03fa25c77176ef1f50a83792998c98fc5287cdc6ec53cb239a57d0110", func := "loop.example/icecores/laws.FnCountNone", spec := "fnCountNone", apart := false, narrowed := true }
def FnCountNoneUptoSaid : Prop := fnCountNoneUptoRow.holds Try.pinned (OpenSpec.upto fnCountNoneSpec)

/-- 'laws.FnCountWider', WHERE WHAT IT READS IS OF BULK AT MOST 1048576: true; the input reads as it did. -/
def fnCountWiderUptoRow : OpenClaim := { program := "ytbidnmjofljcnaa", sum := "10b8b7a03fa25c77176ef1f50a83792998c98fc5287cdc6ec53cb239a57d0110", func := "loop.example/icecores/laws.FnCountWider", spec := "fnCountWider", apart := false, narrowed := true }
def FnCountWiderUptoSaid : Prop := fnCountWiderUptoRow.holds Try.pinned (OpenSpec.upto fnCountWiderSpec)

/-- 'laws.FnCountSure', WHERE WHAT IT READS IS OF BULK AT MOST 1048576: true; the input reads as it did. -/
def fnCountSureUptoRow : OpenClaim := { program := "ytbidnmjofljcnaa", sum := "10b8b7a03fa25c77176ef1f50a83792998c98fc5287cdc6ec53cb239a57d0110", func := "loop.example/icecores/laws.FnCountSure", spec := "fnCountSure", apart := false, narrowed := true }
def FnCountSureUptoSaid : Prop := fnCountSureUptoRow.holds Try.pinned (OpenSpec.upto fnCountSureSpec)

/-- 'laws.FnAge', WHERE WHAT IT READS IS OF BULK AT MOST 1048576: true; the input reads as it did. -/
def fnAgeUptoRow : OpenClaim := { program := "ytbidnmjofljcnaa", sum := "10b8b7a03fa25c77176ef1f50a83792998c98fc5287cdc6ec53cb239a57d0110", func := "loop.example/icecores/laws.FnAge", spec := "fnAge", apart := false, narrowed := true }
def FnAgeUptoSaid : Prop := fnAgeUptoRow.holds Try.pinned (OpenSpec.upto fnAgeSpec)

/-- 'laws.FnAgeCount', WHERE WHAT IT READS IS OF BULK AT MOST 1048576: true; the input reads as it did. -/
def fnAgeCountUptoRow : OpenClaim := { program := "ytbidnmjofljcnaa", sum := "10b8b7a03fa25c77176ef1f50a83792998c98fc5287cdc6ec53cb239a57d0110", func := "loop.example/icecores/laws.FnAgeCount", spec := "fnAgeCount", apart := false, narrowed := true }
def FnAgeCountUptoSaid : Prop := fnAgeCountUptoRow.holds Try.pinned (OpenSpec.upto fnAgeCountSpec)

/-- 'laws.FnHalf', WHERE WHAT IT READS IS OF BULK AT MOST 1048576: true; the input reads as it did. -/
def fnHalfUptoRow : OpenClaim := { program := "ytbidnmjofljcnaa", sum := "10b8b7a03fa25c77176ef1f50a83792998c98fc5287cdc6ec53cb239a57d0110", func := "loop.example/icecores/laws.FnHalf", spec := "fnHalf", apart := false, narrowed := true }
def FnHalfUptoSaid : Prop := fnHalfUptoRow.holds Try.pinned (OpenSpec.upto fnHalfSpec)

end Rows
end Go.Proofs.Ytbidnmjofljcnaa
