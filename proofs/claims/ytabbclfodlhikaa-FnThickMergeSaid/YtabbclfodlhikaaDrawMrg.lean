/- The draw of two lists of layers; sameLayers. -/
import Derived.Test.YtabbclfodlhikaaDrawLay2
import Derived.Test.YtabbclfodlhikaaMrg1
namespace Go.Proofs.Ytabbclfodlhikaa
open Go.RowKit

/-- Two lists of layers have been drawn out of a code. -/
def DrawnMrg (w : World) (e : Ending) (w' : World) : Prop :=
  ∃ (a : Option Addr) (n c : Nat) (l : List Lay) (b : Option Addr) (m d : Nat) (l' : List Lay), n ≤ 9 ∧ m ≤ 9 ∧ LDrw l ∧ e = .returned (.tuple #[.slice a n c, .slice b m d]) ∧ LRow w' w.heap.size a n c l ∧ LRow w' w.heap.size b m d l' ∧ Below w.heap.size w w'



end Go.Proofs.Ytabbclfodlhikaa
