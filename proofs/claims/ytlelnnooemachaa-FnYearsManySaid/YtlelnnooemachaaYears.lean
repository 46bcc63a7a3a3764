/- Walks of the two versions of CutsYears. -/
import Derived.Test.YtlelnnooemachaaCuts2
import Derived.Test.YtlelnnooemachaaYearsPlain
namespace Go.Proofs.Ytlelnnooemachaa
open Go.RowKit

theorem specMany_is {n l m : Int} {w : World} {r : Int} (hr : Plain.cm n l m = r) : Calls Try.prog 12 #[.int .i64 n, .int .i64 l, .int .i64 m] w fun e w' => e = .returned (.int .i64 r) ∧ Below w.heap.size w w' := by
  subst hr; exact specMany_any n l m w
theorem implMany_is {n l m : Int} {w : World} {r : Int} (hr : Plain.cm n l m = r) : Calls Try.prog 13 #[.int .i64 n, .int .i64 l, .int .i64 m] w fun e w' => e = .returned (.int .i64 r) ∧ Below w.heap.size w w' := by
  subst hr; exact implMany_any n l m w

theorem specYears_no (n l m : Int) (w : World) (h : Plain.cm n l m < 1) :
    Calls Try.prog 14 #[.int .i64 n, .int .i64 l, .int .i64 m] w fun e w' => e = .returned (.tuple #[.int .i64 0, .int .i64 0, .bool false]) ∧ Below w.heap.size w w' := by
  obtain ⟨r, hr⟩ : ∃ r, Plain.cm n l m = r := ⟨_, rfl⟩
  rw [hr] at h
  have HR := Lib.hid hr
  clear hr
  go_enter Try.func14, Try.ntmps14
  go_wp2_with fail
  refine (specMany_is HR.out).mono ?_
  rintro e w1 ⟨rfl, b1⟩
  go_wp2_with fail
  go_ret3
  exact ⟨rfl, b1⟩
theorem implYears_no (n l m : Int) (w : World) (h : Plain.cm n l m < 1) :
    Calls Try.prog 15 #[.int .i64 n, .int .i64 l, .int .i64 m] w fun e w' => e = .returned (.tuple #[.int .i64 0, .int .i64 0, .bool false]) ∧ Below w.heap.size w w' := by
  obtain ⟨r, hr⟩ : ∃ r, Plain.cm n l m = r := ⟨_, rfl⟩
  rw [hr] at h
  have HR := Lib.hid hr
  clear hr
  go_enter Try.func15, Try.ntmps15
  go_wp2_with fail
  refine (implMany_is HR.out).mono ?_
  rintro e w1 ⟨rfl, b1⟩
  go_wp2_with fail
  go_ret3
  exact ⟨rfl, b1⟩

theorem mul_bd (j l n : Nat) (h1 : j ≤ n) (h2 : l ≤ 16) (hn : n ≤ 16) : 0 ≤ ((j : Int) + 1) * l ∧ ((j : Int) + 1) * l ≤ 272 := by
  have a : (j + 1) * l ≤ 17 * 16 := Nat.mul_le_mul (by omega) h2
  have b : (((j + 1) * l : Nat) : Int) = ((j : Int) + 1) * l := by simp
  omega

set_option maxHeartbeats 1000000 in
theorem specYears_ok (n l m : Nat) (w : World) (h1 : 1 ≤ n) (hn : n ≤ 16) (hl : 1 ≤ l) (hlm : l ≤ m) (hm : m ≤ 16) (hw : 0 < Plain.ways l m n) :
    Calls Try.prog 14 #[.int .i64 n, .int .i64 l, .int .i64 m] w fun e w' => e = .returned (.tuple #[.int .i64 (Plain.yLow n m : Nat), .int .i64 (Plain.yHigh n l : Nat), .bool true]) ∧ Below w.heap.size w w' := by
  have HR := Lib.hid (Plain.cm_ok n l m h1 hn hl hlm hm)
  have hfit := Plain.years_fit l m n hl (by omega) hw
  have hpos := Plain.yLow_pos n m h1 (by omega)
  have htop := Plain.yHigh_le n l
  obtain ⟨r, hr⟩ : ∃ r, Plain.ways l m n = r := ⟨_, rfl⟩
  rw [hr] at HR hw
  clear hr
  go_enter Try.func14, Try.ntmps14
  go_wp2_with fail
  refine (specMany_is HR.out).mono ?_
  rintro e w1 ⟨rfl, b1⟩
  go_wp2_with fail
  go_loop [9, 10, 11] (fun a b k => ∃ j : Nat, j ≤ n ∧ k = .int .i64 ((j : Int) + 1) ∧ a = .int .i64 (Plain.loAt n m j : Nat) ∧ b = .int .i64 (Plain.hiAt n l m j : Nat)) (fun _ _ k => 18 - (intOf k).toNat)
  case atStart =>
    refine ⟨0, Nat.zero_le _, rfl, ?_, ?_⟩
    · unfold Plain.loAt; rw [if_neg (by omega)]; rfl
    · unfold Plain.hiAt; rw [if_neg (by omega)]; rfl
  case round =>
    obtain ⟨j, hj, rfl, rfl, rfl⟩ := hrel
    by_cases hlt : j < n
    · have m1 := mul_bd j l n (by omega) (by omega) hn
      have m2 := mul_bd j m n (by omega) (by omega) hn
      have i1 := Plain.yHigh_ge n l (j + 1) hl
      have i2 := Plain.yLow_le n m (j + 1) (by omega)
      have c1 : (((j + 1) * l : Nat) : Int) = ((j : Int) + 1) * l := by simp
      have c2 : (((j + 1) * m : Nat) : Int) = ((j : Int) + 1) * m := by simp
      by_cases t1 : j + 1 ≤ Plain.yHigh n l
      · have t1' : ((j : Int) + 1) * l ≤ n := by have := i1.1 t1; omega
        by_cases t2 : Plain.yLow n m ≤ j + 1
        · have t2' : (n : Int) ≤ ((j : Int) + 1) * m := by have := i2.1 t2; omega
          have E2 : Hid (Plain.hiAt n l m (j + 1) = j + 1) := by
            show Plain.hiAt n l m (j + 1) = j + 1
            unfold Plain.hiAt; rw [if_pos t2]; omega
          by_cases t3 : Plain.yLow n m ≤ j
          · have E1 : Hid (Plain.loAt n m (j + 1) = Plain.loAt n m j) := by
              show Plain.loAt n m (j + 1) = Plain.loAt n m j
              unfold Plain.loAt; rw [if_pos t2, if_pos t3]
            have d : (((Plain.loAt n m j : Nat) : Int) == 0) = false := by
              unfold Plain.loAt; rw [if_pos t3]; simp; omega
            clear i1 i2 c1 c2
            go_wp2_with fail
            go_round
            case rel => exact ⟨j + 1, by omega, by go_num, by rw [E1.out], by rw [E2.out]; go_num⟩
            case measure => simp [intOf]; omega
          · have E1 : Hid (Plain.loAt n m (j + 1) = j + 1) := by
              show Plain.loAt n m (j + 1) = j + 1
              unfold Plain.loAt; rw [if_pos t2]; omega
            have d : (((Plain.loAt n m j : Nat) : Int) == 0) = true := by
              unfold Plain.loAt; rw [if_neg t3]; rfl
            clear i1 i2 c1 c2
            go_wp2_with fail
            go_round
            case rel => exact ⟨j + 1, by omega, by go_num, by rw [E1.out]; go_num, by rw [E2.out]; go_num⟩
            case measure => simp [intOf]; omega
        · have t2' : ((j : Int) + 1) * m < n := by
            have := fun h => t2 (i2.2 h); omega
          have E1 : Hid (Plain.loAt n m (j + 1) = Plain.loAt n m j) := by
            show Plain.loAt n m (j + 1) = Plain.loAt n m j
            unfold Plain.loAt; rw [if_neg t2, if_neg (by omega)]
          have E2 : Hid (Plain.hiAt n l m (j + 1) = Plain.hiAt n l m j) := by
            show Plain.hiAt n l m (j + 1) = Plain.hiAt n l m j
            unfold Plain.hiAt; rw [if_neg t2, if_neg (by omega)]
          clear i1 i2 c1 c2
          go_wp2_with fail
          go_round
          case rel => exact ⟨j + 1, by omega, by go_num, by rw [E1.out], by rw [E2.out]⟩
          case measure => simp [intOf]; omega
      · have t1' : (n : Int) < ((j : Int) + 1) * l := by
          have := fun h => t1 (i1.2 h); omega
        have E1 : Hid (Plain.loAt n m (j + 1) = Plain.loAt n m j) := by
          show Plain.loAt n m (j + 1) = Plain.loAt n m j
          unfold Plain.loAt; rw [if_pos (by omega), if_pos (by omega)]
        have E2 : Hid (Plain.hiAt n l m (j + 1) = Plain.hiAt n l m j) := by
          show Plain.hiAt n l m (j + 1) = Plain.hiAt n l m j
          unfold Plain.hiAt; rw [if_pos (by omega), if_pos (by omega)]; omega
        clear i1 i2 c1 c2
        go_wp2_with fail
        go_round
        case rel => exact ⟨j + 1, by omega, by go_num, by rw [E1.out], by rw [E2.out]⟩
        case measure => simp [intOf]; omega
    · obtain rfl : j = n := by omega
      have E1 : Hid (Plain.loAt j m j = Plain.yLow j m) := by
        show Plain.loAt j m j = _
        unfold Plain.loAt; rw [if_pos (by omega)]
      have E2 : Hid (Plain.hiAt j l m j = Plain.yHigh j l) := by
        show Plain.hiAt j l m j = _
        unfold Plain.hiAt; rw [if_pos (by omega)]; omega
      rw [E1.out, E2.out]
      go_wp2_with fail
      go_ret3
      exact ⟨rfl, b1⟩

set_option maxHeartbeats 1000000 in
theorem implYears_ok (n l m : Nat) (w : World) (h1 : 1 ≤ n) (hn : n ≤ 16) (hl : 1 ≤ l) (hlm : l ≤ m) (hm : m ≤ 16) (hw : 0 < Plain.ways l m n) :
    Calls Try.prog 15 #[.int .i64 n, .int .i64 l, .int .i64 m] w fun e w' => e = .returned (.tuple #[.int .i64 (Plain.yLow n m : Nat), .int .i64 (Plain.yHigh n l : Nat), .bool true]) ∧ Below w.heap.size w w' := by
  have HR := Lib.hid (Plain.cm_ok n l m h1 hn hl hlm hm)
  obtain ⟨r, hr⟩ : ∃ r, Plain.ways l m n = r := ⟨_, rfl⟩
  rw [hr] at HR hw
  clear hr
  have e1 : Hid (((n : Int) + m - 1) / m = (Plain.yLow n m : Nat)) := by
    show ((n : Int) + m - 1) / m = (Plain.yLow n m : Nat)
    unfold Plain.yLow
    rw [Int.natCast_ediv]
    congr 1
    omega
  have e2 : Hid ((n : Int) / l = (Plain.yHigh n l : Nat)) := by
    show (n : Int) / l = (Plain.yHigh n l : Nat)
    unfold Plain.yHigh
    rw [Int.natCast_ediv]
  go_enter Try.func15, Try.ntmps15
  go_wp2_with fail
  refine (implMany_is HR.out).mono ?_
  rintro e w1 ⟨rfl, b1⟩
  go_wp2_with fail
  go_quiet (fail)
  go_wp2_with fail
  go_ret3
  have e3 : wrap64 ((n : Int) / l) = (Plain.yHigh n l : Nat) := by
    have := Plain.yHigh_le n l
    rw [e2.out]
    exact IntWalk.wrap64_in _ ⟨by omega, by omega⟩
  exact ⟨ret_iib e1.out e3, below_drewN b1 _⟩

end Go.Proofs.Ytlelnnooemachaa
