/- The walks of FnExactSmoothPass and FnExactSmoothMany. -/
import Derived.Test.YtkbhogajdjnfnaaSmooth3
import Derived.Test.YtkbhogajdjnfnaaInts
import Derived.Test.YtkbhogajdjnfnaaMark
namespace Go.Proofs.Ytkbhogajdjnfnaa
open Go.RowKit

set_option maxRecDepth 100000 in
set_option maxHeartbeats 2000000 in
theorem exactSmoothPass_walk (a : Option Addr) (n c : Nat) (l : List Int) (w : World) (h : IRow w 0 a n c l) :
    Calls Try.prog 10 #[.slice a n c] w fun e w' => e = .returned (.bool true) ∧ Below w.heap.size w w' := by
  by_cases hn : 1048576 < n
  · go_enter Try.func10, Try.ntmps10
    go_wp2_with fail
    go_ret
    exact ⟨rfl, Below.refl _ _⟩
  · cases ho : okRow l with
    | true =>
      have HLEN : Hid ((pass l).length ≤ 1048576) := by show (pass l).length ≤ _; rw [length_pass, h.len]; omega
      have HO := Lib.hid ho
      clear ho
      go_enter Try.func10, Try.ntmps10
      go_wp2_with fail
      refine (toIntS_any _ _ _ _ _ _ h (by omega)).mono ?_
      rintro e w1 ⟨a1, n1, c1, rfl, r1, f1, b1⟩
      obtain rfl : n1 = n := by rw [← r1.len, h.len]
      go_wp2_with fail
      refine (specPass_ok _ _ _ _ _ _ r1 HO.out).mono ?_
      rintro e w2 ⟨a2, n2, c2, rfl, r2, f2, b2⟩
      have B2 := below2 b1 b2
      have hn2 : n2 ≤ 1048576 := by rw [← r2.len]; exact HLEN.out
      go_wp2_with fail
      refine (toIntS_any _ _ _ _ _ _ (h.keep B2) (by omega)).mono ?_
      rintro e w3 ⟨a3, n3, c3, rfl, r3, f3, b3⟩
      obtain rfl : n3 = n1 := by rw [← r3.len, h.len]
      have B3 := below2 B2 b3
      go_wp2_with fail
      refine (implPass_ok _ _ _ _ _ _ r3 HO.out).mono ?_
      rintro e w4 ⟨a4, n4, c4, rfl, r4, f4, b4⟩
      obtain rfl : n4 = n2 := by rw [← r4.len, r2.len]
      have B4 := below2 B3 b4
      have p1 := (r2.apart r3 (Nat.le_refl _)).symm
      have p2 := r3.apart r4 (Nat.le_refl _)
      have p3 := (r2.apart r4 b3.size).symm
      have q2 := (r2.keep b3).keep b4
      have q3 := r3.keep b4
      have g3 := f3.keep r3 b4
      have low3 := r3.low
      have low4 := r4.low
      go_wp2_with fail
      refine (eqIntS_yes _ _ _ _ _ _ _ _ _ r4 q2 (by omega)).mono ?_
      rintro e w5 ⟨rfl, m5, hw5⟩
      have b5 : Below w4.heap.size w4 w5 := by rw [hw5]; exact below_new _ _
      clear hw5
      have B5 := below2 B4 b5
      have q2 := q2.keep b5
      have g3 := g3.keep q3 b5
      have q3 := q3.keep b5
      have f4 := f4.keep r4 b5
      have q4 := r4.keep b5
      go_wp2_with fail
      refine (toIntS_any _ _ _ _ _ _ (h.keep B5) (by omega)).mono ?_
      rintro e w6 ⟨a6, n6, c6, rfl, r6, f6, b6⟩
      obtain rfl : n6 = n3 := by rw [← r6.len, h.len]
      have B6 := below2 B5 b6
      have q2 := q2.keep b6
      have g3 := g3.keep q3 b6
      have q3 := q3.keep b6
      have f4 := f4.keep q4 b6
      have q4 := q4.keep b6
      go_wp2_with fail
      refine (eqIntS_yes _ _ _ _ _ _ _ _ _ q3 r6 (by omega)).mono ?_
      rintro e w7 ⟨rfl, m7, hw7⟩
      have b7 : Below w6.heap.size w6 w7 := by rw [hw7]; exact below_new _ _
      clear hw7
      have B7 := below2 B6 b7
      have q2 := q2.keep b7
      have g3 := g3.keep q3 b7
      have q3 := q3.keep b7
      have f4 := f4.keep q4 b7
      have q4 := q4.keep b7
      go_wp2_with fail
      refine (mark_any _ _ _ _ 1 _ _ q3 g3 (by omega) (by omega)).mono ?_
      rintro e w8 ⟨rfl, u3, v3, t8⟩
      have B8 := t8.below B7 (fun g off e hn => Nat.le_trans B2.size (low3 g off e hn))
      have q2 := q2.touch t8 p1
      have f4 := f4.touch q4 t8 p2
      have q4 := q4.touch t8 p2
      go_wp2_with fail
      refine (eqIntS_yes _ _ _ _ _ _ _ _ _ q4 q2 (by omega)).mono ?_
      rintro e w9 ⟨rfl, m9, hw9⟩
      have b9 : Below w8.heap.size w8 w9 := by rw [hw9]; exact below_new _ _
      clear hw9
      have B9 := below2 B8 b9
      have q2 := q2.keep b9
      have f4 := f4.keep q4 b9
      have q4 := q4.keep b9
      go_wp2_with fail
      refine (mark_any _ _ _ _ 1 _ _ q4 f4 (by omega) (by omega)).mono ?_
      rintro e w10 ⟨rfl, u4, v4, t10⟩
      have B10 := t10.below B9 (fun g off e hn => Nat.le_trans B3.size (low4 g off e hn))
      have q2 := q2.touch t10 p3
      go_wp2_with fail
      refine (held_any _ _ _ _ 1 _ u4 (by omega) (by omega)).mono ?_
      rintro e w' ⟨rfl, rfl⟩
      go_wp2_with fail
      refine (toIntS_any _ _ _ _ _ _ (h.keep B10) (by omega)).mono ?_
      rintro e w11 ⟨a11, n11, c11, rfl, r11, f11, b11⟩
      obtain rfl : n11 = n6 := by rw [← r11.len, h.len]
      have B11 := below2 B10 b11
      have q2 := q2.keep b11
      have u4 := u4.keep b11
      go_wp2_with fail
      refine (implPass_ok _ _ _ _ _ _ r11 HO.out).mono ?_
      rintro e w12 ⟨a12, n12, c12, rfl, r12, f12, b12⟩
      obtain rfl : n12 = n4 := by rw [← r12.len, q2.len]
      have B12 := below2 B11 b12
      have q2 := q2.keep b12
      have u4 := u4.keep b12
      go_wp2_with fail
      refine (eqIntS_yes _ _ _ _ _ _ _ _ _ r12 q2 (by omega)).mono ?_
      rintro e w13 ⟨rfl, m13, hw13⟩
      have b13 : Below w12.heap.size w12 w13 := by rw [hw13]; exact below_new _ _
      clear hw13
      have B13 := below2 B12 b13
      have u4 := u4.keep b13
      go_wp2_with fail
      refine (held_any _ _ _ _ 1 _ u4 (by omega) (by omega)).mono ?_
      rintro e w' ⟨rfl, rfl⟩
      go_wp2_with fail
      go_ret
      exact ⟨rfl, B13⟩
    | false =>
      have HLEN : Hid (([] : List Int).length ≤ 1048576) := by show (0 : Nat) ≤ _; omega
      have HO := Lib.hid ho
      clear ho
      go_enter Try.func10, Try.ntmps10
      go_wp2_with fail
      refine (toIntS_any _ _ _ _ _ _ h (by omega)).mono ?_
      rintro e w1 ⟨a1, n1, c1, rfl, r1, f1, b1⟩
      obtain rfl : n1 = n := by rw [← r1.len, h.len]
      go_wp2_with fail
      refine (specPass_no _ _ _ _ _ _ r1 (by omega) HO.out).mono ?_
      rintro e w2 ⟨a2, n2, c2, rfl, r2, f2, b2⟩
      have B2 := below2 b1 b2
      have hn2 : n2 ≤ 1048576 := by rw [← r2.len]; exact HLEN.out
      go_wp2_with fail
      refine (toIntS_any _ _ _ _ _ _ (h.keep B2) (by omega)).mono ?_
      rintro e w3 ⟨a3, n3, c3, rfl, r3, f3, b3⟩
      obtain rfl : n3 = n1 := by rw [← r3.len, h.len]
      have B3 := below2 B2 b3
      go_wp2_with fail
      refine (implPass_no _ _ _ _ _ _ r3 (by omega) HO.out).mono ?_
      rintro e w4 ⟨a4, n4, c4, rfl, r4, f4, b4⟩
      obtain rfl : n4 = n2 := by rw [← r4.len, r2.len]
      have B4 := below2 B3 b4
      have p1 := (r2.apart r3 (Nat.le_refl _)).symm
      have p2 := r3.apart r4 (Nat.le_refl _)
      have p3 := (r2.apart r4 b3.size).symm
      have q2 := (r2.keep b3).keep b4
      have q3 := r3.keep b4
      have g3 := f3.keep r3 b4
      have low3 := r3.low
      have low4 := r4.low
      go_wp2_with fail
      refine (eqIntS_yes _ _ _ _ _ _ _ _ _ r4 q2 (by omega)).mono ?_
      rintro e w5 ⟨rfl, m5, hw5⟩
      have b5 : Below w4.heap.size w4 w5 := by rw [hw5]; exact below_new _ _
      clear hw5
      have B5 := below2 B4 b5
      have q2 := q2.keep b5
      have g3 := g3.keep q3 b5
      have q3 := q3.keep b5
      have f4 := f4.keep r4 b5
      have q4 := r4.keep b5
      go_wp2_with fail
      refine (toIntS_any _ _ _ _ _ _ (h.keep B5) (by omega)).mono ?_
      rintro e w6 ⟨a6, n6, c6, rfl, r6, f6, b6⟩
      obtain rfl : n6 = n3 := by rw [← r6.len, h.len]
      have B6 := below2 B5 b6
      have q2 := q2.keep b6
      have g3 := g3.keep q3 b6
      have q3 := q3.keep b6
      have f4 := f4.keep q4 b6
      have q4 := q4.keep b6
      go_wp2_with fail
      refine (eqIntS_yes _ _ _ _ _ _ _ _ _ q3 r6 (by omega)).mono ?_
      rintro e w7 ⟨rfl, m7, hw7⟩
      have b7 : Below w6.heap.size w6 w7 := by rw [hw7]; exact below_new _ _
      clear hw7
      have B7 := below2 B6 b7
      have q2 := q2.keep b7
      have g3 := g3.keep q3 b7
      have q3 := q3.keep b7
      have f4 := f4.keep q4 b7
      have q4 := q4.keep b7
      go_wp2_with fail
      refine (mark_any _ _ _ _ 1 _ _ q3 g3 (by omega) (by omega)).mono ?_
      rintro e w8 ⟨rfl, u3, v3, t8⟩
      have B8 := t8.below B7 (fun g off e hn => Nat.le_trans B2.size (low3 g off e hn))
      have q2 := q2.touch t8 p1
      have f4 := f4.touch q4 t8 p2
      have q4 := q4.touch t8 p2
      go_wp2_with fail
      refine (eqIntS_yes _ _ _ _ _ _ _ _ _ q4 q2 (by omega)).mono ?_
      rintro e w9 ⟨rfl, m9, hw9⟩
      have b9 : Below w8.heap.size w8 w9 := by rw [hw9]; exact below_new _ _
      clear hw9
      have B9 := below2 B8 b9
      have q2 := q2.keep b9
      have f4 := f4.keep q4 b9
      have q4 := q4.keep b9
      go_wp2_with fail
      refine (mark_any _ _ _ _ 1 _ _ q4 f4 (by omega) (by omega)).mono ?_
      rintro e w10 ⟨rfl, u4, v4, t10⟩
      have B10 := t10.below B9 (fun g off e hn => Nat.le_trans B3.size (low4 g off e hn))
      have q2 := q2.touch t10 p3
      go_wp2_with fail
      refine (held_any _ _ _ _ 1 _ u4 (by omega) (by omega)).mono ?_
      rintro e w' ⟨rfl, rfl⟩
      go_wp2_with fail
      refine (toIntS_any _ _ _ _ _ _ (h.keep B10) (by omega)).mono ?_
      rintro e w11 ⟨a11, n11, c11, rfl, r11, f11, b11⟩
      obtain rfl : n11 = n6 := by rw [← r11.len, h.len]
      have B11 := below2 B10 b11
      have q2 := q2.keep b11
      have u4 := u4.keep b11
      go_wp2_with fail
      refine (implPass_no _ _ _ _ _ _ r11 (by omega) HO.out).mono ?_
      rintro e w12 ⟨a12, n12, c12, rfl, r12, f12, b12⟩
      obtain rfl : n12 = n4 := by rw [← r12.len, q2.len]
      have B12 := below2 B11 b12
      have q2 := q2.keep b12
      have u4 := u4.keep b12
      go_wp2_with fail
      refine (eqIntS_yes _ _ _ _ _ _ _ _ _ r12 q2 (by omega)).mono ?_
      rintro e w13 ⟨rfl, m13, hw13⟩
      have b13 : Below w12.heap.size w12 w13 := by rw [hw13]; exact below_new _ _
      clear hw13
      have B13 := below2 B12 b13
      have u4 := u4.keep b13
      go_wp2_with fail
      refine (held_any _ _ _ _ 1 _ u4 (by omega) (by omega)).mono ?_
      rintro e w' ⟨rfl, rfl⟩
      go_wp2_with fail
      go_ret
      exact ⟨rfl, B13⟩

set_option maxRecDepth 100000 in
set_option maxHeartbeats 2000000 in
theorem exactSmoothMany_walk (a : Option Addr) (n c : Nat) (l : List Int) (t : Int) (w : World) (h : IRow w 0 a n c l) :
    Calls Try.prog 11 #[.slice a n c, .int .i64 t] w fun e w' => e = .returned (.bool true) ∧ Below w.heap.size w w' := by
  by_cases hn : 1048576 < n
  · go_enter Try.func11, Try.ntmps11
    go_wp2_with fail
    go_ret
    exact ⟨rfl, Below.refl _ _⟩
  · by_cases ho : okRow l = true ∧ 0 ≤ t ∧ t ≤ 8
    · obtain ⟨ho, h1, h2⟩ := ho
      obtain ⟨t, rfl⟩ := Int.eq_ofNat_of_zero_le h1
      have ht : t ≤ 8 := by omega
      have HLEN : Hid ((many l t).length ≤ 1048576) := by show (many l t).length ≤ _; rw [length_many, h.len]; omega
      have HO := Lib.hid ho
      clear ho h1 h2
      go_enter Try.func11, Try.ntmps11
      go_wp2_with fail
      refine (toIntS_any _ _ _ _ _ _ h (by omega)).mono ?_
      rintro e w1 ⟨a1, n1, c1, rfl, r1, f1, b1⟩
      obtain rfl : n1 = n := by rw [← r1.len, h.len]
      go_wp2_with fail
      refine (specMany_ok _ _ _ _ t _ _ r1 HO.out ht).mono ?_
      rintro e w2 ⟨a2, n2, c2, rfl, r2, f2, b2⟩
      have B2 := below2 b1 b2
      have hn2 : n2 ≤ 1048576 := by rw [← r2.len]; exact HLEN.out
      go_wp2_with fail
      refine (toIntS_any _ _ _ _ _ _ (h.keep B2) (by omega)).mono ?_
      rintro e w3 ⟨a3, n3, c3, rfl, r3, f3, b3⟩
      obtain rfl : n3 = n1 := by rw [← r3.len, h.len]
      have B3 := below2 B2 b3
      go_wp2_with fail
      refine (implMany_ok _ _ _ _ t _ _ r3 HO.out ht).mono ?_
      rintro e w4 ⟨a4, n4, c4, rfl, r4, f4, b4⟩
      obtain rfl : n4 = n2 := by rw [← r4.len, r2.len]
      have B4 := below2 B3 b4
      have p1 := (r2.apart r3 (Nat.le_refl _)).symm
      have p2 := r3.apart r4 (Nat.le_refl _)
      have p3 := (r2.apart r4 b3.size).symm
      have q2 := (r2.keep b3).keep b4
      have q3 := r3.keep b4
      have g3 := f3.keep r3 b4
      have low3 := r3.low
      have low4 := r4.low
      go_wp2_with fail
      refine (eqIntS_yes _ _ _ _ _ _ _ _ _ r4 q2 (by omega)).mono ?_
      rintro e w5 ⟨rfl, m5, hw5⟩
      have b5 : Below w4.heap.size w4 w5 := by rw [hw5]; exact below_new _ _
      clear hw5
      have B5 := below2 B4 b5
      have q2 := q2.keep b5
      have g3 := g3.keep q3 b5
      have q3 := q3.keep b5
      have f4 := f4.keep r4 b5
      have q4 := r4.keep b5
      go_wp2_with fail
      refine (toIntS_any _ _ _ _ _ _ (h.keep B5) (by omega)).mono ?_
      rintro e w6 ⟨a6, n6, c6, rfl, r6, f6, b6⟩
      obtain rfl : n6 = n3 := by rw [← r6.len, h.len]
      have B6 := below2 B5 b6
      have q2 := q2.keep b6
      have g3 := g3.keep q3 b6
      have q3 := q3.keep b6
      have f4 := f4.keep q4 b6
      have q4 := q4.keep b6
      go_wp2_with fail
      refine (eqIntS_yes _ _ _ _ _ _ _ _ _ q3 r6 (by omega)).mono ?_
      rintro e w7 ⟨rfl, m7, hw7⟩
      have b7 : Below w6.heap.size w6 w7 := by rw [hw7]; exact below_new _ _
      clear hw7
      have B7 := below2 B6 b7
      have q2 := q2.keep b7
      have g3 := g3.keep q3 b7
      have q3 := q3.keep b7
      have f4 := f4.keep q4 b7
      have q4 := q4.keep b7
      go_wp2_with fail
      refine (mark_any _ _ _ _ 1 _ _ q3 g3 (by omega) (by omega)).mono ?_
      rintro e w8 ⟨rfl, u3, v3, t8⟩
      have B8 := t8.below B7 (fun g off e hn => Nat.le_trans B2.size (low3 g off e hn))
      have q2 := q2.touch t8 p1
      have f4 := f4.touch q4 t8 p2
      have q4 := q4.touch t8 p2
      go_wp2_with fail
      refine (eqIntS_yes _ _ _ _ _ _ _ _ _ q4 q2 (by omega)).mono ?_
      rintro e w9 ⟨rfl, m9, hw9⟩
      have b9 : Below w8.heap.size w8 w9 := by rw [hw9]; exact below_new _ _
      clear hw9
      have B9 := below2 B8 b9
      have q2 := q2.keep b9
      have f4 := f4.keep q4 b9
      have q4 := q4.keep b9
      go_wp2_with fail
      refine (mark_any _ _ _ _ 1 _ _ q4 f4 (by omega) (by omega)).mono ?_
      rintro e w10 ⟨rfl, u4, v4, t10⟩
      have B10 := t10.below B9 (fun g off e hn => Nat.le_trans B3.size (low4 g off e hn))
      have q2 := q2.touch t10 p3
      go_wp2_with fail
      refine (held_any _ _ _ _ 1 _ u4 (by omega) (by omega)).mono ?_
      rintro e w' ⟨rfl, rfl⟩
      go_wp2_with fail
      refine (toIntS_any _ _ _ _ _ _ (h.keep B10) (by omega)).mono ?_
      rintro e w11 ⟨a11, n11, c11, rfl, r11, f11, b11⟩
      obtain rfl : n11 = n6 := by rw [← r11.len, h.len]
      have B11 := below2 B10 b11
      have q2 := q2.keep b11
      have u4 := u4.keep b11
      go_wp2_with fail
      refine (implMany_ok _ _ _ _ t _ _ r11 HO.out ht).mono ?_
      rintro e w12 ⟨a12, n12, c12, rfl, r12, f12, b12⟩
      obtain rfl : n12 = n4 := by rw [← r12.len, q2.len]
      have B12 := below2 B11 b12
      have q2 := q2.keep b12
      have u4 := u4.keep b12
      go_wp2_with fail
      refine (eqIntS_yes _ _ _ _ _ _ _ _ _ r12 q2 (by omega)).mono ?_
      rintro e w13 ⟨rfl, m13, hw13⟩
      have b13 : Below w12.heap.size w12 w13 := by rw [hw13]; exact below_new _ _
      clear hw13
      have B13 := below2 B12 b13
      have u4 := u4.keep b13
      go_wp2_with fail
      refine (held_any _ _ _ _ 1 _ u4 (by omega) (by omega)).mono ?_
      rintro e w' ⟨rfl, rfl⟩
      go_wp2_with fail
      go_ret
      exact ⟨rfl, B13⟩
    · have HLEN : Hid (([] : List Int).length ≤ 1048576) := by show (0 : Nat) ≤ _; omega
      have HO : Hid (okRow l = false ∨ ¬ (0 ≤ t ∧ t ≤ 8)) := by
        show okRow l = false ∨ ¬ (0 ≤ t ∧ t ≤ 8)
        cases e : okRow l with
        | false => exact .inl rfl
        | true => exact .inr (fun hh => ho ⟨e, hh⟩)
      clear ho
      go_enter Try.func11, Try.ntmps11
      go_wp2_with fail
      refine (toIntS_any _ _ _ _ _ _ h (by omega)).mono ?_
      rintro e w1 ⟨a1, n1, c1, rfl, r1, f1, b1⟩
      obtain rfl : n1 = n := by rw [← r1.len, h.len]
      go_wp2_with fail
      refine (specMany_no _ _ _ _ t _ _ r1 (by omega) HO.out).mono ?_
      rintro e w2 ⟨a2, n2, c2, rfl, r2, f2, b2⟩
      have B2 := below2 b1 b2
      have hn2 : n2 ≤ 1048576 := by rw [← r2.len]; exact HLEN.out
      go_wp2_with fail
      refine (toIntS_any _ _ _ _ _ _ (h.keep B2) (by omega)).mono ?_
      rintro e w3 ⟨a3, n3, c3, rfl, r3, f3, b3⟩
      obtain rfl : n3 = n1 := by rw [← r3.len, h.len]
      have B3 := below2 B2 b3
      go_wp2_with fail
      refine (implMany_no _ _ _ _ t _ _ r3 (by omega) HO.out).mono ?_
      rintro e w4 ⟨a4, n4, c4, rfl, r4, f4, b4⟩
      obtain rfl : n4 = n2 := by rw [← r4.len, r2.len]
      have B4 := below2 B3 b4
      have p1 := (r2.apart r3 (Nat.le_refl _)).symm
      have p2 := r3.apart r4 (Nat.le_refl _)
      have p3 := (r2.apart r4 b3.size).symm
      have q2 := (r2.keep b3).keep b4
      have q3 := r3.keep b4
      have g3 := f3.keep r3 b4
      have low3 := r3.low
      have low4 := r4.low
      go_wp2_with fail
      refine (eqIntS_yes _ _ _ _ _ _ _ _ _ r4 q2 (by omega)).mono ?_
      rintro e w5 ⟨rfl, m5, hw5⟩
      have b5 : Below w4.heap.size w4 w5 := by rw [hw5]; exact below_new _ _
      clear hw5
      have B5 := below2 B4 b5
      have q2 := q2.keep b5
      have g3 := g3.keep q3 b5
      have q3 := q3.keep b5
      have f4 := f4.keep r4 b5
      have q4 := r4.keep b5
      go_wp2_with fail
      refine (toIntS_any _ _ _ _ _ _ (h.keep B5) (by omega)).mono ?_
      rintro e w6 ⟨a6, n6, c6, rfl, r6, f6, b6⟩
      obtain rfl : n6 = n3 := by rw [← r6.len, h.len]
      have B6 := below2 B5 b6
      have q2 := q2.keep b6
      have g3 := g3.keep q3 b6
      have q3 := q3.keep b6
      have f4 := f4.keep q4 b6
      have q4 := q4.keep b6
      go_wp2_with fail
      refine (eqIntS_yes _ _ _ _ _ _ _ _ _ q3 r6 (by omega)).mono ?_
      rintro e w7 ⟨rfl, m7, hw7⟩
      have b7 : Below w6.heap.size w6 w7 := by rw [hw7]; exact below_new _ _
      clear hw7
      have B7 := below2 B6 b7
      have q2 := q2.keep b7
      have g3 := g3.keep q3 b7
      have q3 := q3.keep b7
      have f4 := f4.keep q4 b7
      have q4 := q4.keep b7
      go_wp2_with fail
      refine (mark_any _ _ _ _ 1 _ _ q3 g3 (by omega) (by omega)).mono ?_
      rintro e w8 ⟨rfl, u3, v3, t8⟩
      have B8 := t8.below B7 (fun g off e hn => Nat.le_trans B2.size (low3 g off e hn))
      have q2 := q2.touch t8 p1
      have f4 := f4.touch q4 t8 p2
      have q4 := q4.touch t8 p2
      go_wp2_with fail
      refine (eqIntS_yes _ _ _ _ _ _ _ _ _ q4 q2 (by omega)).mono ?_
      rintro e w9 ⟨rfl, m9, hw9⟩
      have b9 : Below w8.heap.size w8 w9 := by rw [hw9]; exact below_new _ _
      clear hw9
      have B9 := below2 B8 b9
      have q2 := q2.keep b9
      have f4 := f4.keep q4 b9
      have q4 := q4.keep b9
      go_wp2_with fail
      refine (mark_any _ _ _ _ 1 _ _ q4 f4 (by omega) (by omega)).mono ?_
      rintro e w10 ⟨rfl, u4, v4, t10⟩
      have B10 := t10.below B9 (fun g off e hn => Nat.le_trans B3.size (low4 g off e hn))
      have q2 := q2.touch t10 p3
      go_wp2_with fail
      refine (held_any _ _ _ _ 1 _ u4 (by omega) (by omega)).mono ?_
      rintro e w' ⟨rfl, rfl⟩
      go_wp2_with fail
      refine (toIntS_any _ _ _ _ _ _ (h.keep B10) (by omega)).mono ?_
      rintro e w11 ⟨a11, n11, c11, rfl, r11, f11, b11⟩
      obtain rfl : n11 = n6 := by rw [← r11.len, h.len]
      have B11 := below2 B10 b11
      have q2 := q2.keep b11
      have u4 := u4.keep b11
      go_wp2_with fail
      refine (implMany_no _ _ _ _ t _ _ r11 (by omega) HO.out).mono ?_
      rintro e w12 ⟨a12, n12, c12, rfl, r12, f12, b12⟩
      obtain rfl : n12 = n4 := by rw [← r12.len, q2.len]
      have B12 := below2 B11 b12
      have q2 := q2.keep b12
      have u4 := u4.keep b12
      go_wp2_with fail
      refine (eqIntS_yes _ _ _ _ _ _ _ _ _ r12 q2 (by omega)).mono ?_
      rintro e w13 ⟨rfl, m13, hw13⟩
      have b13 : Below w12.heap.size w12 w13 := by rw [hw13]; exact below_new _ _
      clear hw13
      have B13 := below2 B12 b13
      have u4 := u4.keep b13
      go_wp2_with fail
      refine (held_any _ _ _ _ 1 _ u4 (by omega) (by omega)).mono ?_
      rintro e w' ⟨rfl, rfl⟩
      go_wp2_with fail
      go_ret
      exact ⟨rfl, B13⟩

end Go.Proofs.Ytkbhogajdjnfnaa
