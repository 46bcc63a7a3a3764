/- The plain function that both versions of CutsMany compute. -/
import Derived.Test.YtlelnnooemachaaWays
namespace Go.Proofs.Ytlelnnooemachaa.Plain

def cm (n l m : Int) : Int := if 1 ≤ n ∧ n ≤ 16 ∧ 1 ≤ l ∧ l ≤ m ∧ m ≤ 16 then ways l.toNat m.toNat n.toNat else -1

theorem cm_ok (n l m : Nat) (h1 : 1 ≤ n) (h2 : n ≤ 16) (h3 : 1 ≤ l) (h4 : l ≤ m) (h5 : m ≤ 16) : cm n l m = ways l m n := by
  unfold cm
  rw [if_pos (by omega)]
  simp

theorem cm_no (n l m : Int) (h : ¬ (1 ≤ n ∧ n ≤ 16 ∧ 1 ≤ l ∧ l ≤ m ∧ m ≤ 16)) : cm n l m = -1 := by
  unfold cm
  rw [if_neg h]

end Go.Proofs.Ytlelnnooemachaa.Plain
