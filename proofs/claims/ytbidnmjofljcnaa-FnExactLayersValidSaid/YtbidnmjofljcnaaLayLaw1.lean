/- The walk of FnExactLayersValid. -/
import Derived.Test.YtbidnmjofljcnaaLay2
namespace Go.Proofs.Ytbidnmjofljcnaa
open Go.RowKit

set_option maxHeartbeats 1000000 in
theorem exactValid_walk (a : Option Addr) (n c : Nat) (l : List Lay) (w : World) (h : LRow w 0 a n c l) (hmax : n ≤ 9223372036854775807) :
    Calls Try.prog 3 #[.slice a n c] w fun e w' => e = .returned (.bool true) ∧ Below w.heap.size w w' := by
  by_cases hn : 1048576 < n
  · go_enter Try.func3, Try.ntmps3
    go_wp2_with fail
    refine (sz_no _ _ _ _ _ (by omega) (by omega) (by omega) hmax).mono ?_
    rintro e w' ⟨rfl, rfl⟩
    go_wp2_with fail
    go_ret
    exact ⟨rfl, Below.refl _ _⟩
  · obtain ⟨r, hr⟩ : ∃ r, okL l = r := ⟨_, rfl⟩
    have HR := Lib.hid hr
    clear hr
    go_enter Try.func3, Try.ntmps3
    go_wp2_with fail
    refine (sz_ok _ _ _ _ _ (by omega) (by omega)).mono ?_
    rintro e w' ⟨rfl, rfl⟩
    go_wp2_with fail
    refine (toLayerS_any _ _ _ _ _ _ h (by omega)).mono ?_
    rintro e w1 ⟨a1, n1, c1, rfl, r1, f1, b1⟩
    obtain rfl : n1 = n := by rw [← r1.len, h.len]
    go_wp2_with fail
    refine (specValid_is HR.out r1 (by omega)).mono ?_
    rintro e w2 ⟨rfl, b2⟩
    have B2 := below2 b1 b2
    go_wp2_with fail
    refine (toLayerS_any _ _ _ _ _ _ (h.keep B2) (by omega)).mono ?_
    rintro e w3 ⟨a3, n3, c3, rfl, r3, f3, b3⟩
    obtain rfl : n3 = n1 := by rw [← r3.len, h.len]
    have B3 := below2 B2 b3
    go_wp2_with fail
    refine (implValid_is HR.out r3 (by omega)).mono ?_
    rintro e w4 ⟨rfl, b4⟩
    have B4 := below2 B3 b4
    go_wp2_with fail
    refine (toLayerS_any _ _ _ _ _ _ (h.keep B4) (by omega)).mono ?_
    rintro e w5 ⟨a5, n5, c5, rfl, r5, f5, b5⟩
    obtain rfl : n5 = n3 := by rw [← r5.len, h.len]
    go_wp2_with fail
    refine (eqLayerS_yes _ _ _ _ _ _ _ _ _ ((r3.keep b4).keep b5) r5 (by omega)).mono ?_
    rintro e w6 ⟨rfl, b6⟩
    go_wp2_with fail
    go_ret
    exact ⟨rfl, below2 (below2 B4 b5) b6⟩

end Go.Proofs.Ytbidnmjofljcnaa
