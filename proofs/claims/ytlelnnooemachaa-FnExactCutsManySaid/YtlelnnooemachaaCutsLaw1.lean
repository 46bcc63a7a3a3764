/- The walk of FnExactCutsMany. -/
import Derived.Test.YtlelnnooemachaaCuts2
namespace Go.Proofs.Ytlelnnooemachaa
open Go.RowKit

theorem exactMany_walk (n l m : Int) (w : World) : Calls Try.prog 3 #[.int .i64 n, .int .i64 l, .int .i64 m] w fun e w' => e = .returned (.bool true) ∧ Below w.heap.size w w' := by
  go_enter Try.func3, Try.ntmps3
  go_wp2_with (first | (go_at_call 12; refine (specMany_any _ _ _ _).mono ?_; rintro e w1 ⟨rfl, hb1⟩) | (go_at_call 13; refine (implMany_any _ _ _ _).mono ?_; rintro e w2 ⟨rfl, hb2⟩))
  go_ret
  exact ⟨rfl, hb1.trans (hb2.mono hb1.size)⟩

end Go.Proofs.Ytlelnnooemachaa
