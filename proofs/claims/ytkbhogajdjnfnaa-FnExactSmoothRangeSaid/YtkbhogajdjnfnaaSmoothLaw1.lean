/- The walks of FnExactSmoothSum, FnExactSmoothRough, FnExactSmoothRange. -/
import Derived.Test.YtkbhogajdjnfnaaSmooth1
import Derived.Test.YtkbhogajdjnfnaaInts
namespace Go.Proofs.Ytkbhogajdjnfnaa
open Go.RowKit

set_option maxHeartbeats 1000000 in
theorem exactSmoothSum_walk (a : Option Addr) (n c : Nat) (l : List Int) (w : World) (h : IRow w 0 a n c l) :
    Calls Try.prog 3 #[.slice a n c] w fun e w' => e = .returned (.bool true) ∧ Below w.heap.size w w' := by
  by_cases hn : 1048576 < n
  · go_enter Try.func3, Try.ntmps3
    go_wp2_with fail
    go_ret
    exact ⟨rfl, Below.refl _ _⟩
  · cases ho : okRow l with
    | true =>
      have HO := Lib.hid ho
      clear ho
      go_enter Try.func3, Try.ntmps3
      go_wp2_with fail
      refine (toIntS_any _ _ _ _ _ _ h (by omega)).mono ?_
      rintro e w1 ⟨a1, n1, c1, rfl, r1, f1, b1⟩
      obtain rfl : n1 = n := by rw [← r1.len, h.len]
      go_wp2_with fail
      refine (specSum_ok _ _ _ _ _ _ r1 HO.out).mono ?_
      rintro e w' ⟨rfl, rfl⟩
      go_wp2_with fail
      refine (toIntS_any _ _ _ _ _ _ (h.keep b1) (by omega)).mono ?_
      rintro e w2 ⟨a2, n2, c2, rfl, r2, f2, b2⟩
      obtain rfl : n2 = n1 := by rw [← r2.len, h.len]
      have b2 := below2 b1 b2
      go_wp2_with fail
      refine (implSum_ok _ _ _ _ _ _ r2 HO.out).mono ?_
      rintro e w' ⟨rfl, rfl⟩
      go_wp2_with fail
      refine (toIntS_any _ _ _ _ _ _ (h.keep b2) (by omega)).mono ?_
      rintro e w3 ⟨a3, n3, c3, rfl, r3, f3, b3⟩
      obtain rfl : n3 = n2 := by rw [← r3.len, h.len]
      go_wp2_with fail
      refine (eqIntS_yes _ _ _ _ _ _ _ _ _ (r2.keep b3) r3 (by omega)).mono ?_
      rintro e w' ⟨rfl, m4, rfl⟩
      go_wp2_with fail
      go_ret
      exact ⟨rfl, below_drewN (below2 b2 b3) m4⟩
    | false =>
      have HO := Lib.hid ho
      clear ho
      go_enter Try.func3, Try.ntmps3
      go_wp2_with fail
      refine (toIntS_any _ _ _ _ _ _ h (by omega)).mono ?_
      rintro e w1 ⟨a1, n1, c1, rfl, r1, f1, b1⟩
      obtain rfl : n1 = n := by rw [← r1.len, h.len]
      go_wp2_with fail
      refine (specSum_no _ _ _ _ _ _ r1 (by omega) HO.out).mono ?_
      rintro e w' ⟨rfl, rfl⟩
      go_wp2_with fail
      refine (toIntS_any _ _ _ _ _ _ (h.keep b1) (by omega)).mono ?_
      rintro e w2 ⟨a2, n2, c2, rfl, r2, f2, b2⟩
      obtain rfl : n2 = n1 := by rw [← r2.len, h.len]
      have b2 := below2 b1 b2
      go_wp2_with fail
      refine (implSum_no _ _ _ _ _ _ r2 (by omega) HO.out).mono ?_
      rintro e w' ⟨rfl, rfl⟩
      go_wp2_with fail
      refine (toIntS_any _ _ _ _ _ _ (h.keep b2) (by omega)).mono ?_
      rintro e w3 ⟨a3, n3, c3, rfl, r3, f3, b3⟩
      obtain rfl : n3 = n2 := by rw [← r3.len, h.len]
      go_wp2_with fail
      refine (eqIntS_yes _ _ _ _ _ _ _ _ _ (r2.keep b3) r3 (by omega)).mono ?_
      rintro e w' ⟨rfl, m4, rfl⟩
      go_wp2_with fail
      go_ret
      exact ⟨rfl, below_drewN (below2 b2 b3) m4⟩

set_option maxHeartbeats 1000000 in
theorem exactSmoothRough_walk (a : Option Addr) (n c : Nat) (l : List Int) (w : World) (h : IRow w 0 a n c l) :
    Calls Try.prog 4 #[.slice a n c] w fun e w' => e = .returned (.bool true) ∧ Below w.heap.size w w' := by
  by_cases hn : 1048576 < n
  · go_enter Try.func4, Try.ntmps4
    go_wp2_with fail
    go_ret
    exact ⟨rfl, Below.refl _ _⟩
  · cases ho : okRow l with
    | true =>
      have HO := Lib.hid ho
      clear ho
      go_enter Try.func4, Try.ntmps4
      go_wp2_with fail
      refine (toIntS_any _ _ _ _ _ _ h (by omega)).mono ?_
      rintro e w1 ⟨a1, n1, c1, rfl, r1, f1, b1⟩
      obtain rfl : n1 = n := by rw [← r1.len, h.len]
      go_wp2_with fail
      refine (specRough_ok _ _ _ _ _ _ r1 HO.out).mono ?_
      rintro e w' ⟨rfl, m1, rfl⟩
      have b1 := below_drewN b1 m1
      go_wp2_with fail
      refine (toIntS_any _ _ _ _ _ _ (h.keep b1) (by omega)).mono ?_
      rintro e w2 ⟨a2, n2, c2, rfl, r2, f2, b2⟩
      obtain rfl : n2 = n1 := by rw [← r2.len, h.len]
      have b2 := below2 b1 b2
      go_wp2_with fail
      refine (implRough_ok _ _ _ _ _ _ r2 HO.out).mono ?_
      rintro e w' ⟨rfl, m2, rfl⟩
      have b2 := below_drewN b2 m2
      go_wp2_with fail
      refine (toIntS_any _ _ _ _ _ _ (h.keep b2) (by omega)).mono ?_
      rintro e w3 ⟨a3, n3, c3, rfl, r3, f3, b3⟩
      obtain rfl : n3 = n2 := by rw [← r3.len, h.len]
      go_wp2_with fail
      refine (eqIntS_yes _ _ _ _ _ _ _ _ _ ((r2.drewN m2).keep b3) r3 (by omega)).mono ?_
      rintro e w' ⟨rfl, m4, rfl⟩
      go_wp2_with fail
      go_ret
      exact ⟨rfl, below_drewN (below2 b2 b3) m4⟩
    | false =>
      have HO := Lib.hid ho
      clear ho
      go_enter Try.func4, Try.ntmps4
      go_wp2_with fail
      refine (toIntS_any _ _ _ _ _ _ h (by omega)).mono ?_
      rintro e w1 ⟨a1, n1, c1, rfl, r1, f1, b1⟩
      obtain rfl : n1 = n := by rw [← r1.len, h.len]
      go_wp2_with fail
      refine (specRough_no _ _ _ _ _ _ r1 (by omega) HO.out).mono ?_
      rintro e w' ⟨rfl, rfl⟩
      go_wp2_with fail
      refine (toIntS_any _ _ _ _ _ _ (h.keep b1) (by omega)).mono ?_
      rintro e w2 ⟨a2, n2, c2, rfl, r2, f2, b2⟩
      obtain rfl : n2 = n1 := by rw [← r2.len, h.len]
      have b2 := below2 b1 b2
      go_wp2_with fail
      refine (implRough_no _ _ _ _ _ _ r2 (by omega) HO.out).mono ?_
      rintro e w' ⟨rfl, rfl⟩
      go_wp2_with fail
      refine (toIntS_any _ _ _ _ _ _ (h.keep b2) (by omega)).mono ?_
      rintro e w3 ⟨a3, n3, c3, rfl, r3, f3, b3⟩
      obtain rfl : n3 = n2 := by rw [← r3.len, h.len]
      go_wp2_with fail
      refine (eqIntS_yes _ _ _ _ _ _ _ _ _ (r2.keep b3) r3 (by omega)).mono ?_
      rintro e w' ⟨rfl, m4, rfl⟩
      go_wp2_with fail
      go_ret
      exact ⟨rfl, below_drewN (below2 b2 b3) m4⟩

set_option maxHeartbeats 1000000 in
theorem exactSmoothRange_walk (a : Option Addr) (n c : Nat) (l : List Int) (w : World) (h : IRow w 0 a n c l) :
    Calls Try.prog 5 #[.slice a n c] w fun e w' => e = .returned (.bool true) ∧ Below w.heap.size w w' := by
  by_cases hn : 1048576 < n
  · go_enter Try.func5, Try.ntmps5
    go_wp2_with fail
    go_ret
    exact ⟨rfl, Below.refl _ _⟩
  · cases ho : okRow l with
    | true =>
      have HO := Lib.hid ho
      clear ho
      go_enter Try.func5, Try.ntmps5
      go_wp2_with fail
      refine (toIntS_any _ _ _ _ _ _ h (by omega)).mono ?_
      rintro e w1 ⟨a1, n1, c1, rfl, r1, f1, b1⟩
      obtain rfl : n1 = n := by rw [← r1.len, h.len]
      go_wp2_with fail
      refine (specRange_ok _ _ _ _ _ _ r1 HO.out).mono ?_
      rintro e w' ⟨rfl, rfl⟩
      go_wp2_with fail
      refine (toIntS_any _ _ _ _ _ _ (h.keep b1) (by omega)).mono ?_
      rintro e w2 ⟨a2, n2, c2, rfl, r2, f2, b2⟩
      obtain rfl : n2 = n1 := by rw [← r2.len, h.len]
      have b2 := below2 b1 b2
      go_wp2_with fail
      refine (implRange_ok _ _ _ _ _ _ r2 HO.out).mono ?_
      rintro e w' ⟨rfl, rfl⟩
      go_wp2_with fail
      refine (toIntS_any _ _ _ _ _ _ (h.keep b2) (by omega)).mono ?_
      rintro e w3 ⟨a3, n3, c3, rfl, r3, f3, b3⟩
      obtain rfl : n3 = n2 := by rw [← r3.len, h.len]
      go_wp2_with fail
      refine (eqIntS_yes _ _ _ _ _ _ _ _ _ (r2.keep b3) r3 (by omega)).mono ?_
      rintro e w' ⟨rfl, m4, rfl⟩
      go_wp2_with fail
      go_ret
      exact ⟨rfl, below_drewN (below2 b2 b3) m4⟩
    | false =>
      have HO := Lib.hid ho
      clear ho
      go_enter Try.func5, Try.ntmps5
      go_wp2_with fail
      refine (toIntS_any _ _ _ _ _ _ h (by omega)).mono ?_
      rintro e w1 ⟨a1, n1, c1, rfl, r1, f1, b1⟩
      obtain rfl : n1 = n := by rw [← r1.len, h.len]
      go_wp2_with fail
      refine (specRange_no _ _ _ _ _ _ r1 (by omega) HO.out).mono ?_
      rintro e w' ⟨rfl, rfl⟩
      go_wp2_with fail
      refine (toIntS_any _ _ _ _ _ _ (h.keep b1) (by omega)).mono ?_
      rintro e w2 ⟨a2, n2, c2, rfl, r2, f2, b2⟩
      obtain rfl : n2 = n1 := by rw [← r2.len, h.len]
      have b2 := below2 b1 b2
      go_wp2_with fail
      refine (implRange_no _ _ _ _ _ _ r2 (by omega) HO.out).mono ?_
      rintro e w' ⟨rfl, rfl⟩
      go_wp2_with fail
      refine (toIntS_any _ _ _ _ _ _ (h.keep b2) (by omega)).mono ?_
      rintro e w3 ⟨a3, n3, c3, rfl, r3, f3, b3⟩
      obtain rfl : n3 = n2 := by rw [← r3.len, h.len]
      go_wp2_with fail
      refine (eqIntS_yes _ _ _ _ _ _ _ _ _ (r2.keep b3) r3 (by omega)).mono ?_
      rintro e w' ⟨rfl, m4, rfl⟩
      go_wp2_with fail
      go_ret
      exact ⟨rfl, below_drewN (below2 b2 b3) m4⟩

end Go.Proofs.Ytkbhogajdjnfnaa
