/- The walks of FnExactCutsAllowed and FnExactCutsCost. -/
import Derived.Test.YtlelnnooemachaaCuts5
import Derived.Test.YtlelnnooemachaaInts
namespace Go.Proofs.Ytlelnnooemachaa
open Go.RowKit

set_option maxHeartbeats 1000000 in
theorem exactAllowed_walk (a b : Option Addr) (n c n' c' : Nat) (costs cuts : List Int) (l m : Int) (w : World) (h : IRow w 0 a n c costs) (h' : IRow w 0 b n' c' cuts) :
    Calls Try.prog 5 #[.slice a n c, .int .i64 l, .int .i64 m, .slice b n' c'] w fun e w' => e = .returned (.bool true) ∧ Below w.heap.size w w' := by
  by_cases hn : 1048576 < n
  · go_enter Try.func5, Try.ntmps5
    go_wp2_with fail
    go_ret
    exact ⟨rfl, Below.refl _ _⟩
  · by_cases hn' : 1048576 < n'
    · go_enter Try.func5, Try.ntmps5
      go_wp2_with fail
      go_ret
      exact ⟨rfl, Below.refl _ _⟩
    · obtain ⟨r, hr⟩ : ∃ r, okCuts costs l m cuts = r := ⟨_, rfl⟩
      have HR := Lib.hid hr
      clear hr
      go_enter Try.func5, Try.ntmps5
      go_wp2_with fail
      refine (toIntS_any _ _ _ _ _ _ h (by omega)).mono ?_
      rintro e w1 ⟨a1, n1, c1, rfl, r1, f1, b1⟩
      obtain rfl : n1 = n := by rw [← r1.len, h.len]
      go_wp2_with fail
      refine (toIntS_any _ _ _ _ _ _ (h'.keep b1) (by omega)).mono ?_
      rintro e w2 ⟨a2, n2, c2, rfl, r2, f2, b2⟩
      obtain rfl : n2 = n' := by rw [← r2.len, h'.len]
      go_wp2_with fail
      refine (specAllowed_is HR.out (r1.keep b2) r2 (by omega) (by omega)).mono ?_
      rintro e w' ⟨rfl, rfl⟩
      go_wp2_with fail
      have b12 := below2 b1 b2
      refine (toIntS_any _ _ _ _ _ _ (h.keep b12) (by omega)).mono ?_
      rintro e w3 ⟨a3, n3, c3, rfl, r3, f3, b3⟩
      obtain rfl : n3 = n1 := by rw [← r3.len, h.len]
      have b13 := below2 b12 b3
      clear b12
      go_wp2_with fail
      refine (toIntS_any _ _ _ _ _ _ (h'.keep b13) (by omega)).mono ?_
      rintro e w4 ⟨a4, n4, c4, rfl, r4, f4, b4⟩
      obtain rfl : n4 = n2 := by rw [← r4.len, h'.len]
      have b14 := below2 b13 b4
      clear b13
      go_wp2_with fail
      refine (implAllowed_is HR.out (r3.keep b4) r4 (by omega) (by omega)).mono ?_
      rintro e w' ⟨rfl, rfl⟩
      go_wp2_with fail
      refine (toIntS_any _ _ _ _ _ _ (h.keep b14) (by omega)).mono ?_
      rintro e w5 ⟨a5, n5, c5, rfl, r5, f5, b5⟩
      obtain rfl : n5 = n3 := by rw [← r5.len, h.len]
      have b15 := below2 b14 b5
      clear b14
      go_wp2_with fail
      refine (eqIntS_yes _ _ _ _ _ _ _ _ _ ((r3.keep b4).keep b5) r5 (by omega)).mono ?_
      rintro e w' ⟨rfl, m6, rfl⟩
      have b16 := below_drewN b15 m6
      go_wp2_with fail
      refine (toIntS_any _ _ _ _ _ _ (h'.keep b16) (by omega)).mono ?_
      rintro e w7 ⟨a7, n7, c7, rfl, r7, f7, b7⟩
      obtain rfl : n7 = n4 := by rw [← r7.len, h'.len]
      have b17 := below2 b16 b7
      clear b15 b16
      go_wp2_with fail
      refine (eqIntS_yes _ _ _ _ _ _ _ _ _ (((r4.keep b5).drewN m6).keep b7) r7 (by omega)).mono ?_
      rintro e w' ⟨rfl, m8, rfl⟩
      have b18 := below_drewN b17 m8
      go_wp2_with fail
      go_ret
      exact ⟨rfl, b18⟩

set_option maxHeartbeats 1000000 in
theorem exactCost_walk (a b : Option Addr) (n c n' c' : Nat) (costs cuts : List Int) (l m : Int) (w : World) (h : IRow w 0 a n c costs) (h' : IRow w 0 b n' c' cuts) :
    Calls Try.prog 9 #[.slice a n c, .int .i64 l, .int .i64 m, .slice b n' c'] w fun e w' => e = .returned (.bool true) ∧ Below w.heap.size w w' := by
  by_cases hn : 1048576 < n
  · go_enter Try.func9, Try.ntmps9
    go_wp2_with fail
    go_ret
    exact ⟨rfl, Below.refl _ _⟩
  · by_cases hn' : 1048576 < n'
    · go_enter Try.func9, Try.ntmps9
      go_wp2_with fail
      go_ret
      exact ⟨rfl, Below.refl _ _⟩
    · obtain ⟨r, hr⟩ : ∃ r, costOf costs l m cuts = r := ⟨_, rfl⟩
      have HR := Lib.hid hr
      clear hr
      go_enter Try.func9, Try.ntmps9
      go_wp2_with fail
      refine (toIntS_any _ _ _ _ _ _ h (by omega)).mono ?_
      rintro e w1 ⟨a1, n1, c1, rfl, r1, f1, b1⟩
      obtain rfl : n1 = n := by rw [← r1.len, h.len]
      go_wp2_with fail
      refine (toIntS_any _ _ _ _ _ _ (h'.keep b1) (by omega)).mono ?_
      rintro e w2 ⟨a2, n2, c2, rfl, r2, f2, b2⟩
      obtain rfl : n2 = n' := by rw [← r2.len, h'.len]
      go_wp2_with fail
      refine (specCost_is HR.out (r1.keep b2) r2 (by omega) (by omega)).mono ?_
      rintro e w' ⟨rfl, rfl⟩
      go_wp2_with fail
      have b12 := below2 b1 b2
      refine (toIntS_any _ _ _ _ _ _ (h.keep b12) (by omega)).mono ?_
      rintro e w3 ⟨a3, n3, c3, rfl, r3, f3, b3⟩
      obtain rfl : n3 = n1 := by rw [← r3.len, h.len]
      have b13 := below2 b12 b3
      clear b12
      go_wp2_with fail
      refine (toIntS_any _ _ _ _ _ _ (h'.keep b13) (by omega)).mono ?_
      rintro e w4 ⟨a4, n4, c4, rfl, r4, f4, b4⟩
      obtain rfl : n4 = n2 := by rw [← r4.len, h'.len]
      have b14 := below2 b13 b4
      clear b13
      go_wp2_with fail
      refine (implCost_is HR.out (r3.keep b4) r4 (by omega) (by omega)).mono ?_
      rintro e w' ⟨rfl, rfl⟩
      go_wp2_with fail
      refine (toIntS_any _ _ _ _ _ _ (h.keep b14) (by omega)).mono ?_
      rintro e w5 ⟨a5, n5, c5, rfl, r5, f5, b5⟩
      obtain rfl : n5 = n3 := by rw [← r5.len, h.len]
      have b15 := below2 b14 b5
      clear b14
      go_wp2_with fail
      refine (eqIntS_yes _ _ _ _ _ _ _ _ _ ((r3.keep b4).keep b5) r5 (by omega)).mono ?_
      rintro e w' ⟨rfl, m6, rfl⟩
      have b16 := below_drewN b15 m6
      go_wp2_with fail
      refine (toIntS_any _ _ _ _ _ _ (h'.keep b16) (by omega)).mono ?_
      rintro e w7 ⟨a7, n7, c7, rfl, r7, f7, b7⟩
      obtain rfl : n7 = n4 := by rw [← r7.len, h'.len]
      have b17 := below2 b16 b7
      clear b15 b16
      go_wp2_with fail
      refine (eqIntS_yes _ _ _ _ _ _ _ _ _ (((r4.keep b5).drewN m6).keep b7) r7 (by omega)).mono ?_
      rintro e w' ⟨rfl, m8, rfl⟩
      have b18 := below_drewN b17 m8
      go_wp2_with fail
      go_ret
      exact ⟨rfl, b18⟩

end Go.Proofs.Ytlelnnooemachaa
