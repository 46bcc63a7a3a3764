/- The walks of FnManyCutsFree, FnYears, FnYearsMany. -/
import Derived.Test.YtlelnnooemachaaCutsLaw4
namespace Go.Proofs.Ytlelnnooemachaa
open Go.RowKit

theorem mod_cast' (j l : Nat) : ((j : Int) + 1) % l = (((j + 1) % l : Nat) : Int) := by rw [Int.natCast_emod]; simp
theorem two_pow_bd (j : Nat) (h : j ≤ 16) : 1 ≤ (2 : Int) ^ j ∧ (2 : Int) ^ j ≤ 65536 := by
  have a : (2 : Nat) ^ j ≤ 2 ^ 16 := Nat.pow_le_pow_right (by omega) h
  have b : 1 ≤ (2 : Nat) ^ j := Nat.one_le_two_pow
  have e : (((2 : Nat) ^ j : Nat) : Int) = (2 : Int) ^ j := by simp
  have e2 : (2 : Nat) ^ 16 = 65536 := by decide
  omega

set_option maxHeartbeats 1000000 in
theorem manyCutsFree_walk (a : Option Addr) (len c : Nat) (w : World) (h : BRow w w.heap.size a len) (hc : len ≤ c) (hn : len ≤ 9223372036854775807) :
    Calls Try.prog 7 #[.slice a len c] w fun e w' => e = .returned (.bool true) ∧ Below w.heap.size w w' := by
  by_cases hlen : 1048576 < len
  · go_enter Try.func7, Try.ntmps7
    go_wp2_with fail
    go_ret
    exact ⟨rfl, Below.refl _ _⟩
  · go_enter Try.func7, Try.ntmps7
    go_wp2_with fail
    refine (drawCuts_any _ _ _ _ h hc hn).mono ?_
    rintro e w1 ⟨n, l, m, h0, hl1, hl2, hm, rfl, b1⟩
    obtain ⟨r, hr⟩ : ∃ r, Plain.cm n l m = r := ⟨_, rfl⟩
    by_cases hneg : r < 0
    · have HR := Lib.hid hr
      clear hr
      go_wp2_with fail
      refine (implMany_is HR.out).mono ?_
      rintro e w2 ⟨rfl, b2⟩
      go_wp2_with fail
      refine (specMany_is HR.out).mono ?_
      rintro e w3 ⟨rfl, b3⟩
      go_wp2_with fail
      go_ret
      exact ⟨rfl, below2 (below2 b1 b2) b3⟩
    · obtain ⟨v1, v2, v3, v4, v5⟩ := cm_none_neg (n := n) (l := l) (m := m) (by rw [hr]; exact hneg)
      have HR := Lib.hid hr
      obtain ⟨f1, f2, f3, _⟩ := free_at n l m (by omega) (by omega) hl1 hl2 (by omega) (by omega)
      obtain ⟨x, hx⟩ : ∃ x, Plain.ways l (m + 1) n = x := ⟨_, rfl⟩
      obtain ⟨o, ho⟩ : ∃ o, Plain.ways l l n = o := ⟨_, rfl⟩
      have hle : r ≤ x := by
        rw [← hr, ← hx, Plain.cm_ok n l m (by omega) (by omega) (by omega) (by omega) (by omega)]
        exact f3
      have HX : Hid (Plain.cm n l ((m : Int) + 1) = x) := by
        show Plain.cm n l ((m : Int) + 1) = x
        rw [← hx]
        exact Plain.cm_ok n l (m + 1) (by omega) (by omega) (by omega) (by omega) (by omega)
      have HO : Hid (Plain.cm n l l = o) := by
        show Plain.cm n l l = o
        rw [← ho]
        exact Plain.cm_ok n l l (by omega) (by omega) (by omega) (by omega) (by omega)
      have HP : Hid (Plain.cm n 1 16 = 2 ^ (n - 1)) := by
        show Plain.cm n 1 16 = 2 ^ (n - 1)
        rw [← f1]
        exact Plain.cm_ok n 1 16 (by omega) (by omega) (by omega) (by omega) (by omega)
      rw [ho] at f2
      have HF := Lib.hid f2
      clear hr hx ho f1 f2 f3
      go_wp2_with fail
      refine (implMany_is HR.out).mono ?_
      rintro e w2 ⟨rfl, b2⟩
      go_wp2_with fail
      refine (specMany_is HR.out).mono ?_
      rintro e w3 ⟨rfl, b3⟩
      have b4 := below2 (below2 b1 b2) b3
      clear b1 b2 b3
      go_wp2_with fail
      go_loop [8, 9] (fun p k => ∃ j : Nat, j + 1 ≤ n ∧ k = .int .i64 ((j : Int) + 1) ∧ p = .int .i64 ((2 : Int) ^ j)) (fun _ k => 18 - (intOf k).toNat)
      case atStart => exact ⟨0, by omega, rfl, rfl⟩
      case round =>
        obtain ⟨j, hj, rfl, rfl⟩ := hrel
        have hb := two_pow_bd j (by omega)
        by_cases hlt : j + 1 < n
        · have E : Hid ((2 : Int) ^ (j + 1) = 2 * (2 : Int) ^ j) := by
            show (2 : Int) ^ (j + 1) = 2 * (2 : Int) ^ j
            rw [Int.pow_succ, Int.mul_comm]
          obtain ⟨P, hP⟩ : ∃ P, (2 : Int) ^ j = P := ⟨_, rfl⟩
          rw [hP] at hb E
          rw [hP]
          clear hP
          go_wp2_with fail
          go_round
          case rel => exact ⟨j + 1, by omega, by go_num, by rw [E.out]⟩
          case measure => simp [intOf]; omega
        · obtain rfl : n = j + 1 := by omega
          rw [Nat.add_sub_cancel] at HP
          obtain ⟨P, hP⟩ : ∃ P, (2 : Int) ^ j = P := ⟨_, rfl⟩
          rw [hP] at hb HP
          rw [hP]
          clear hP
          by_cases hd : (j + 1) % l = 0
          · obtain rfl : o = 1 := by have := HF.out; rw [if_pos hd] at this; exact this
            have dm : (((j : Int) + 1) % l == 0) = true := by rw [mod_cast', hd]; rfl
            clear hd
            go_wp2_with fail
            refine (implMany_is HO.out).mono ?_
            rintro e w5 ⟨rfl, b5⟩
            go_wp2_with fail
            refine (implMany_is HX.out).mono ?_
            rintro e w6 ⟨rfl, b6⟩
            go_wp2_with fail
            refine (implMany_is HP.out).mono ?_
            rintro e w7 ⟨rfl, b7⟩
            go_wp2_with fail
            go_ret
            exact ⟨rfl, below2 (below2 (below2 b4 b5) b6) b7⟩
          · obtain rfl : o = 0 := by have := HF.out; rw [if_neg hd] at this; exact this
            have dm : (((j : Int) + 1) % l == 0) = false := by rw [mod_cast']; exact beq_eq_false_iff_ne.2 (by omega)
            clear hd
            go_wp2_with fail
            refine (implMany_is HO.out).mono ?_
            rintro e w5 ⟨rfl, b5⟩
            go_wp2_with fail
            refine (implMany_is HX.out).mono ?_
            rintro e w6 ⟨rfl, b6⟩
            go_wp2_with fail
            refine (implMany_is HP.out).mono ?_
            rintro e w7 ⟨rfl, b7⟩
            go_wp2_with fail
            go_ret
            exact ⟨rfl, below2 (below2 (below2 b4 b5) b6) b7⟩

set_option maxRecDepth 100000 in
set_option maxHeartbeats 1000000 in
theorem years_walk (a : Option Addr) (len c : Nat) (w : World) (h : BRow w w.heap.size a len) (hc : len ≤ c) (hn : len ≤ 9223372036854775807) :
    Calls Try.prog 10 #[.slice a len c] w fun e w' => e = .returned (.bool true) ∧ Below w.heap.size w w' := by
  by_cases hlen : 1048576 < len
  · go_enter Try.func10, Try.ntmps10
    go_wp2_with fail
    go_ret
    exact ⟨rfl, Below.refl _ _⟩
  · go_enter Try.func10, Try.ntmps10
    go_wp2_with fail
    refine (drawYears_any _ _ _ _ h hc hn).mono ?_
    rintro e w1 ⟨n, l, m, h0, hl1, hl2, hm, rfl, b1⟩
    by_cases hneg : Plain.cm n l m < 1
    · go_wp2_with fail
      refine (implYears_no _ _ _ _ hneg).mono ?_
      rintro e w2 ⟨rfl, b2⟩
      go_wp2_with fail
      refine (specYears_no _ _ _ _ hneg).mono ?_
      rintro e w3 ⟨rfl, b3⟩
      go_wp2_with fail
      go_ret
      exact ⟨rfl, below2 (below2 b1 b2) b3⟩
    · obtain ⟨v1, v2, v3, v4, v5⟩ := cm_valid hneg
      have hw : 0 < Plain.ways l m n := by
        rw [Plain.cm_ok n l m (by omega) (by omega) (by omega) (by omega) (by omega)] at hneg; omega
      clear hneg
      have hfit := Plain.years_fit l m n hl1 (by omega) hw
      have hpos := Plain.yLow_pos n m (by omega) (by omega)
      have htop := Plain.yHigh_le n l
      obtain ⟨A, hA⟩ : ∃ A, Plain.yLow n m = A := ⟨_, rfl⟩
      obtain ⟨B, hB⟩ : ∃ B, Plain.yHigh n l = B := ⟨_, rfl⟩
      have i1 : (n : Int) ≤ (A : Int) * m := by
        have := (Plain.yLow_le n m A (by omega)).1 (by omega)
        have e : ((A * m : Nat) : Int) = (A : Int) * m := by simp
        omega
      have i2 : (B : Int) * l ≤ n := by
        have := (Plain.yHigh_ge n l B (by omega)).1 (by omega)
        have e : ((B * l : Nat) : Int) = (B : Int) * l := by simp
        omega
      have i3 : ((A : Int) - 1) * m < n := by
        have h := fun h => (Plain.yLow_le n m (A - 1) (by omega)).2 h
        have e : (((A - 1) * m : Nat) : Int) = ((A : Int) - 1) * m := by
          rw [Int.natCast_mul, show ((A - 1 : Nat) : Int) = (A : Int) - 1 by omega]
        omega
      have i4 : (n : Int) < ((B : Int) + 1) * l := by
        have h := fun h => (Plain.yHigh_ge n l (B + 1) (by omega)).2 h
        have e : (((B + 1) * l : Nat) : Int) = ((B : Int) + 1) * l := by simp
        omega
      have hAB : A ≤ B := by omega
      have hA1 : 1 ≤ A := by omega
      have hB1 : B ≤ 16 := by omega
      have j1 := mul_bd (A - 1) m 16 (by omega) (by omega) (by omega)
      have j2 := mul_bd (B - 1) l 16 (by omega) (by omega) (by omega)
      have j4 := mul_bd B l 16 (by omega) (by omega) (by omega)
      rw [show (((A - 1 : Nat) : Int) + 1) = (A : Int) by omega] at j1
      rw [show (((B - 1 : Nat) : Int) + 1) = (B : Int) by omega] at j2
      have j3 : 0 ≤ ((A : Int) - 1) * m := Int.mul_nonneg (by omega) (by omega)
      have HA := Lib.hid hA
      have HB := Lib.hid hB
      clear hA hB hfit hpos htop
      go_wp2_with fail
      refine (implYears_ok n l m _ (by omega) (by omega) (by omega) (by omega) (by omega) hw).mono ?_
      rw [HA.out, HB.out]
      rintro e w2 ⟨rfl, b2⟩
      go_wp2_with fail
      refine (specYears_ok n l m _ (by omega) (by omega) (by omega) (by omega) (by omega) hw).mono ?_
      rw [HA.out, HB.out]
      rintro e w3 ⟨rfl, b3⟩
      have b4 := below2 (below2 b1 b2) b3
      by_cases hone : A = 1
      · have d1 : ((A : Int) == 1) = true := by simp; omega
        clear hone
        go_wp2_with fail
        go_ret
        exact ⟨rfl, b4⟩
      · have d1 : ((A : Int) == 1) = false := by simp; omega
        clear hone
        go_wp2_with fail
        go_ret
        exact ⟨rfl, b4⟩

theorem ways_one : ∀ n : Fin 17, 1 ≤ n.val → Plain.ways 1 1 n.val = 1 := by decide +kernel

set_option maxRecDepth 100000 in
set_option maxHeartbeats 1000000 in
theorem yearsMany_walk (a : Option Addr) (len c : Nat) (w : World) (h : BRow w w.heap.size a len) (hc : len ≤ c) (hn : len ≤ 9223372036854775807) :
    Calls Try.prog 11 #[.slice a len c] w fun e w' => e = .returned (.bool true) ∧ Below w.heap.size w w' := by
  by_cases hlen : 1048576 < len
  · go_enter Try.func11, Try.ntmps11
    go_wp2_with fail
    go_ret
    exact ⟨rfl, Below.refl _ _⟩
  · go_enter Try.func11, Try.ntmps11
    go_wp2_with fail
    refine (drawYears_any _ _ _ _ h hc hn).mono ?_
    rintro e w1 ⟨n, l, m, h0, hl1, hl2, hm, rfl, b1⟩
    by_cases hneg : Plain.cm n l m < 1
    · go_wp2_with fail
      refine (implYears_no _ _ _ _ hneg).mono ?_
      rintro e w2 ⟨rfl, b2⟩
      go_wp2_with fail
      refine (specYears_no _ _ _ _ hneg).mono ?_
      rintro e w3 ⟨rfl, b3⟩
      go_wp2_with fail
      go_ret
      exact ⟨rfl, below2 (below2 b1 b2) b3⟩
    · obtain ⟨v1, v2, v3, v4, v5⟩ := cm_valid hneg
      have hw : 0 < Plain.ways l m n := by
        rw [Plain.cm_ok n l m (by omega) (by omega) (by omega) (by omega) (by omega)] at hneg; omega
      clear hneg
      have hpos := Plain.yLow_pos n m (by omega) (by omega)
      have htop := Plain.yHigh_le n l
      have hw1 : Plain.ways 1 1 n = 1 := ways_one ⟨n, by omega⟩ (by show 1 ≤ n; omega)
      have HC : Hid (Plain.cm n 1 1 = 1) := by
        exact (Plain.cm_ok n 1 1 (by omega) (by omega) (by omega) (by omega) (by omega)).trans hw1
      have H1 : Hid (Plain.yLow n 1 = n) := by show Plain.yLow n 1 = n; unfold Plain.yLow; simp
      have H2 : Hid (Plain.yHigh n 1 = n) := by show Plain.yHigh n 1 = n; unfold Plain.yHigh; simp
      obtain ⟨A, hA⟩ : ∃ A, Plain.yLow n m = A := ⟨_, rfl⟩
      obtain ⟨B, hB⟩ : ∃ B, Plain.yHigh n l = B := ⟨_, rfl⟩
      have hA1 : 1 ≤ A := by omega
      have hB1 : B ≤ n := by omega
      have HA := Lib.hid hA
      have HB := Lib.hid hB
      have HW : Hid (0 < Plain.ways 1 1 n) := by show 0 < Plain.ways 1 1 n; rw [hw1]; decide
      clear hA hB hpos htop hw1
      go_wp2_with fail
      refine (implYears_ok n l m _ (by omega) (by omega) (by omega) (by omega) (by omega) hw).mono ?_
      rw [HA.out, HB.out]
      rintro e w2 ⟨rfl, b2⟩
      go_wp2_with fail
      refine (specYears_ok n l m _ (by omega) (by omega) (by omega) (by omega) (by omega) hw).mono ?_
      rw [HA.out, HB.out]
      rintro e w3 ⟨rfl, b3⟩
      have b4 := below2 (below2 b1 b2) b3
      go_wp2_with fail
      refine (implYears_ok n 1 1 _ (by omega) (by omega) (by omega) (by omega) (by omega) HW.out).mono ?_
      rw [H1.out, H2.out]
      rintro e w5 ⟨rfl, b5⟩
      go_wp2_with fail
      refine (implMany_is HC.out).mono ?_
      rintro e w6 ⟨rfl, b6⟩
      go_wp2_with fail
      go_ret
      exact ⟨ret_bool (decide_eq_true (by omega)), below2 (below2 b4 b5) b6⟩

end Go.Proofs.Ytlelnnooemachaa
