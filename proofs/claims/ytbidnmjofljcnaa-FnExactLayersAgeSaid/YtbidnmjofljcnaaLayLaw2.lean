/- The walks of the laws that the program's counts of layers are the reference's. -/
import Derived.Test.YtbidnmjofljcnaaLay2
import Derived.Test.YtbidnmjofljcnaaLay3
namespace Go.Proofs.Ytbidnmjofljcnaa
open Go.RowKit

set_option maxHeartbeats 1000000 in
theorem exactCount_walk (a : Option Addr) (n c : Nat) (l : List Lay) (t b : Int) (w : World) (h : LRow w 0 a n c l) (hmax : n ≤ 9223372036854775807) :
    Calls Try.prog 5 #[.slice a n c, .int .i64 t, .int .i64 b] w fun e w' => e = .returned (.bool true) ∧ Below w.heap.size w w' := by
  by_cases hn : 1048576 < n
  · go_enter Try.func5, Try.ntmps5
    go_wp2_with fail
    refine (sz_no _ _ _ _ _ (by omega) (by omega) (by omega) hmax).mono ?_
    rintro e w' ⟨rfl, rfl⟩
    go_wp2_with fail
    go_ret
    exact ⟨rfl, Below.refl _ _⟩
  · rcases ok_cases l t b with ⟨ho, hs⟩ | ho
    · have HO := Lib.hid ho
      have HS := Lib.hid hs
      clear ho hs
      go_enter Try.func5, Try.ntmps5
      go_wp2_with fail
      refine (sz_ok _ _ _ _ _ (by omega) (by omega)).mono ?_
      rintro e w' ⟨rfl, rfl⟩
      go_wp2_with fail
      refine (toLayerS_any _ _ _ _ _ _ h (by omega)).mono ?_
      rintro e w1 ⟨a1, n1, c1, rfl, r1, f1, b1⟩
      obtain rfl : n1 = n := by rw [← r1.len, h.len]
      go_wp2_with fail
      refine (specCount_ok _ _ _ _ _ _ _ _ r1 HO.out HS.out).mono ?_
      rintro e w2 ⟨rfl, b2⟩
      have B2 := below2 b1 b2
      go_wp2_with fail
      refine (toLayerS_any _ _ _ _ _ _ (h.keep B2) (by omega)).mono ?_
      rintro e w3 ⟨a3, n3, c3, rfl, r3, f3, b3⟩
      obtain rfl : n3 = n1 := by rw [← r3.len, h.len]
      have B3 := below2 B2 b3
      go_wp2_with fail
      refine (implCount_ok _ _ _ _ _ _ _ _ r3 HO.out HS.out).mono ?_
      rintro e w4 ⟨rfl, b4⟩
      have B4 := below2 B3 b4
      go_wp2_with fail
      refine (toLayerS_any _ _ _ _ _ _ (h.keep B4) (by omega)).mono ?_
      rintro e w5 ⟨a5, n5, c5, rfl, r5, f5, b5⟩
      obtain rfl : n5 = n3 := by rw [← r5.len, h.len]
      go_wp2_with fail
      refine (eqLayerS_yes _ _ _ _ _ _ _ _ _ ((r3.keep b4).keep b5) r5 (by omega)).mono ?_
      rintro e w6 ⟨rfl, b6⟩
      go_wp2_with fail
      go_ret
      exact ⟨rfl, below2 (below2 B4 b5) b6⟩
    · have HO := Lib.hid ho
      clear ho
      go_enter Try.func5, Try.ntmps5
      go_wp2_with fail
      refine (sz_ok _ _ _ _ _ (by omega) (by omega)).mono ?_
      rintro e w' ⟨rfl, rfl⟩
      go_wp2_with fail
      refine (toLayerS_any _ _ _ _ _ _ h (by omega)).mono ?_
      rintro e w1 ⟨a1, n1, c1, rfl, r1, f1, b1⟩
      obtain rfl : n1 = n := by rw [← r1.len, h.len]
      go_wp2_with fail
      refine (specCount_no _ _ _ _ _ _ _ _ r1 (by omega) HO.out).mono ?_
      rintro e w2 ⟨rfl, b2⟩
      have B2 := below2 b1 b2
      go_wp2_with fail
      refine (toLayerS_any _ _ _ _ _ _ (h.keep B2) (by omega)).mono ?_
      rintro e w3 ⟨a3, n3, c3, rfl, r3, f3, b3⟩
      obtain rfl : n3 = n1 := by rw [← r3.len, h.len]
      have B3 := below2 B2 b3
      go_wp2_with fail
      refine (implCount_no _ _ _ _ _ _ _ _ r3 (by omega) HO.out).mono ?_
      rintro e w4 ⟨rfl, b4⟩
      have B4 := below2 B3 b4
      go_wp2_with fail
      refine (toLayerS_any _ _ _ _ _ _ (h.keep B4) (by omega)).mono ?_
      rintro e w5 ⟨a5, n5, c5, rfl, r5, f5, b5⟩
      obtain rfl : n5 = n3 := by rw [← r5.len, h.len]
      go_wp2_with fail
      refine (eqLayerS_yes _ _ _ _ _ _ _ _ _ ((r3.keep b4).keep b5) r5 (by omega)).mono ?_
      rintro e w6 ⟨rfl, b6⟩
      go_wp2_with fail
      go_ret
      exact ⟨rfl, below2 (below2 B4 b5) b6⟩

set_option maxHeartbeats 1000000 in
theorem exactHalf_walk (a : Option Addr) (n c : Nat) (l : List Lay) (t b : Int) (w : World) (h : LRow w 0 a n c l) (hmax : n ≤ 9223372036854775807) :
    Calls Try.prog 6 #[.slice a n c, .int .i64 t, .int .i64 b] w fun e w' => e = .returned (.bool true) ∧ Below w.heap.size w w' := by
  by_cases hn : 1048576 < n
  · go_enter Try.func6, Try.ntmps6
    go_wp2_with fail
    refine (sz_no _ _ _ _ _ (by omega) (by omega) (by omega) hmax).mono ?_
    rintro e w' ⟨rfl, rfl⟩
    go_wp2_with fail
    go_ret
    exact ⟨rfl, Below.refl _ _⟩
  · rcases ok_cases l t b with ⟨ho, hs⟩ | ho
    · have HO := Lib.hid ho
      have HS := Lib.hid hs
      clear ho hs
      go_enter Try.func6, Try.ntmps6
      go_wp2_with fail
      refine (sz_ok _ _ _ _ _ (by omega) (by omega)).mono ?_
      rintro e w' ⟨rfl, rfl⟩
      go_wp2_with fail
      refine (toLayerS_any _ _ _ _ _ _ h (by omega)).mono ?_
      rintro e w1 ⟨a1, n1, c1, rfl, r1, f1, b1⟩
      obtain rfl : n1 = n := by rw [← r1.len, h.len]
      go_wp2_with fail
      refine (specHalf_ok _ _ _ _ _ _ _ _ r1 HO.out HS.out).mono ?_
      rintro e w2 ⟨rfl, b2⟩
      have B2 := below2 b1 b2
      go_wp2_with fail
      refine (toLayerS_any _ _ _ _ _ _ (h.keep B2) (by omega)).mono ?_
      rintro e w3 ⟨a3, n3, c3, rfl, r3, f3, b3⟩
      obtain rfl : n3 = n1 := by rw [← r3.len, h.len]
      have B3 := below2 B2 b3
      go_wp2_with fail
      refine (implHalf_ok _ _ _ _ _ _ _ _ r3 HO.out HS.out).mono ?_
      rintro e w4 ⟨rfl, b4⟩
      have B4 := below2 B3 b4
      go_wp2_with fail
      refine (toLayerS_any _ _ _ _ _ _ (h.keep B4) (by omega)).mono ?_
      rintro e w5 ⟨a5, n5, c5, rfl, r5, f5, b5⟩
      obtain rfl : n5 = n3 := by rw [← r5.len, h.len]
      go_wp2_with fail
      refine (eqLayerS_yes _ _ _ _ _ _ _ _ _ ((r3.keep b4).keep b5) r5 (by omega)).mono ?_
      rintro e w6 ⟨rfl, b6⟩
      go_wp2_with fail
      go_ret
      exact ⟨rfl, below2 (below2 B4 b5) b6⟩
    · have HO := Lib.hid ho
      clear ho
      go_enter Try.func6, Try.ntmps6
      go_wp2_with fail
      refine (sz_ok _ _ _ _ _ (by omega) (by omega)).mono ?_
      rintro e w' ⟨rfl, rfl⟩
      go_wp2_with fail
      refine (toLayerS_any _ _ _ _ _ _ h (by omega)).mono ?_
      rintro e w1 ⟨a1, n1, c1, rfl, r1, f1, b1⟩
      obtain rfl : n1 = n := by rw [← r1.len, h.len]
      go_wp2_with fail
      refine (specHalf_no _ _ _ _ _ _ _ _ r1 (by omega) HO.out).mono ?_
      rintro e w2 ⟨rfl, b2⟩
      have B2 := below2 b1 b2
      go_wp2_with fail
      refine (toLayerS_any _ _ _ _ _ _ (h.keep B2) (by omega)).mono ?_
      rintro e w3 ⟨a3, n3, c3, rfl, r3, f3, b3⟩
      obtain rfl : n3 = n1 := by rw [← r3.len, h.len]
      have B3 := below2 B2 b3
      go_wp2_with fail
      refine (implHalf_no _ _ _ _ _ _ _ _ r3 (by omega) HO.out).mono ?_
      rintro e w4 ⟨rfl, b4⟩
      have B4 := below2 B3 b4
      go_wp2_with fail
      refine (toLayerS_any _ _ _ _ _ _ (h.keep B4) (by omega)).mono ?_
      rintro e w5 ⟨a5, n5, c5, rfl, r5, f5, b5⟩
      obtain rfl : n5 = n3 := by rw [← r5.len, h.len]
      go_wp2_with fail
      refine (eqLayerS_yes _ _ _ _ _ _ _ _ _ ((r3.keep b4).keep b5) r5 (by omega)).mono ?_
      rintro e w6 ⟨rfl, b6⟩
      go_wp2_with fail
      go_ret
      exact ⟨rfl, below2 (below2 B4 b5) b6⟩

set_option maxHeartbeats 1000000 in
theorem exactAge_walk (a : Option Addr) (n c : Nat) (l : List Lay) (y d : Int) (w : World) (h : LRow w 0 a n c l) (hmax : n ≤ 9223372036854775807) :
    Calls Try.prog 7 #[.slice a n c, .int .i64 y, .int .i64 d] w fun e w' => e = .returned (.bool true) ∧ Below w.heap.size w w' := by
  by_cases hn : 1048576 < n
  · go_enter Try.func7, Try.ntmps7
    go_wp2_with fail
    refine (sz_no _ _ _ _ _ (by omega) (by omega) (by omega) hmax).mono ?_
    rintro e w' ⟨rfl, rfl⟩
    go_wp2_with fail
    go_ret
    exact ⟨rfl, Below.refl _ _⟩
  · by_cases hh : okL l = true ∧ okSpan 0 d = true ∧ -400000 ≤ y ∧ y ≤ 400000
    · obtain ⟨ho, hs, h1, h2⟩ := hh
      have HO := Lib.hid ho
      have HS := Lib.hid hs
      clear ho hs
      go_enter Try.func7, Try.ntmps7
      go_wp2_with fail
      refine (sz_ok _ _ _ _ _ (by omega) (by omega)).mono ?_
      rintro e w' ⟨rfl, rfl⟩
      go_wp2_with fail
      refine (toLayerS_any _ _ _ _ _ _ h (by omega)).mono ?_
      rintro e w1 ⟨a1, n1, c1, rfl, r1, f1, b1⟩
      obtain rfl : n1 = n := by rw [← r1.len, h.len]
      go_wp2_with fail
      refine (specAge_ok _ _ _ _ _ _ _ _ r1 HO.out HS.out h1 h2).mono ?_
      rintro e w2 ⟨rfl, b2⟩
      have B2 := below2 b1 b2
      go_wp2_with fail
      refine (toLayerS_any _ _ _ _ _ _ (h.keep B2) (by omega)).mono ?_
      rintro e w3 ⟨a3, n3, c3, rfl, r3, f3, b3⟩
      obtain rfl : n3 = n1 := by rw [← r3.len, h.len]
      have B3 := below2 B2 b3
      go_wp2_with fail
      refine (implAge_ok _ _ _ _ _ _ _ _ r3 HO.out HS.out h1 h2).mono ?_
      rintro e w4 ⟨rfl, b4⟩
      have B4 := below2 B3 b4
      go_wp2_with fail
      refine (toLayerS_any _ _ _ _ _ _ (h.keep B4) (by omega)).mono ?_
      rintro e w5 ⟨a5, n5, c5, rfl, r5, f5, b5⟩
      obtain rfl : n5 = n3 := by rw [← r5.len, h.len]
      go_wp2_with fail
      refine (eqLayerS_yes _ _ _ _ _ _ _ _ _ ((r3.keep b4).keep b5) r5 (by omega)).mono ?_
      rintro e w6 ⟨rfl, b6⟩
      go_wp2_with fail
      go_ret
      exact ⟨rfl, below2 (below2 B4 b5) b6⟩
    · have HO := Lib.hid hh
      clear hh
      go_enter Try.func7, Try.ntmps7
      go_wp2_with fail
      refine (sz_ok _ _ _ _ _ (by omega) (by omega)).mono ?_
      rintro e w' ⟨rfl, rfl⟩
      go_wp2_with fail
      refine (toLayerS_any _ _ _ _ _ _ h (by omega)).mono ?_
      rintro e w1 ⟨a1, n1, c1, rfl, r1, f1, b1⟩
      obtain rfl : n1 = n := by rw [← r1.len, h.len]
      go_wp2_with fail
      refine (specAge_no _ _ _ _ _ _ _ _ r1 (by omega) HO.out).mono ?_
      rintro e w2 ⟨rfl, b2⟩
      have B2 := below2 b1 b2
      go_wp2_with fail
      refine (toLayerS_any _ _ _ _ _ _ (h.keep B2) (by omega)).mono ?_
      rintro e w3 ⟨a3, n3, c3, rfl, r3, f3, b3⟩
      obtain rfl : n3 = n1 := by rw [← r3.len, h.len]
      have B3 := below2 B2 b3
      go_wp2_with fail
      refine (implAge_no _ _ _ _ _ _ _ _ r3 (by omega) HO.out).mono ?_
      rintro e w4 ⟨rfl, b4⟩
      have B4 := below2 B3 b4
      go_wp2_with fail
      refine (toLayerS_any _ _ _ _ _ _ (h.keep B4) (by omega)).mono ?_
      rintro e w5 ⟨a5, n5, c5, rfl, r5, f5, b5⟩
      obtain rfl : n5 = n3 := by rw [← r5.len, h.len]
      go_wp2_with fail
      refine (eqLayerS_yes _ _ _ _ _ _ _ _ _ ((r3.keep b4).keep b5) r5 (by omega)).mono ?_
      rintro e w6 ⟨rfl, b6⟩
      go_wp2_with fail
      go_ret
      exact ⟨rfl, below2 (below2 B4 b5) b6⟩

end Go.Proofs.Ytbidnmjofljcnaa
