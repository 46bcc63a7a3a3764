/- The reference's and the program's CutsMany, for all arguments. -/
import Derived.Test.YtlelnnooemachaaCuts
import Derived.Test.YtlelnnooemachaaCutsPlain
namespace Go.Proofs.Ytlelnnooemachaa
open Go.RowKit

theorem range_yes (l m : Int) (w : World) (h1 : 1 ≤ l) (h2 : l ≤ m) (h3 : m ≤ 16) : Calls Try.prog 25 #[.int .i64 l, .int .i64 m] w fun e w' => e = .returned (.bool true) ∧ w = w' := by
  go_enter Try.func25, Try.ntmps25
  go_wp2_with (go_at_call 24; refine (in_yes _ _ _ _ (by omega) (by omega)).mono ?_; rintro e w' ⟨rfl, rfl⟩)
  go_ret
  exact ⟨rfl, rfl⟩
theorem range_no (l m : Int) (w : World) (h : ¬ (1 ≤ l ∧ l ≤ m ∧ m ≤ 16)) : Calls Try.prog 25 #[.int .i64 l, .int .i64 m] w fun e w' => e = .returned (.bool false) ∧ w = w' := by
  by_cases h1 : 1 ≤ l ∧ l ≤ 16
  · obtain ⟨h1, h2⟩ := h1
    have h3 : ¬ (l ≤ m ∧ m ≤ 16) := by omega
    have H3 := Lib.hid h3
    clear h h3
    go_enter Try.func25, Try.ntmps25
    go_wp2_with fail
    refine (in_yes _ _ _ _ h1 h2).mono ?_
    rintro e w' ⟨rfl, rfl⟩
    go_wp2_with fail
    refine (in_no _ _ _ _ H3.out).mono ?_
    rintro e w' ⟨rfl, rfl⟩
    go_wp2_with fail
    go_ret
    exact ⟨rfl, rfl⟩
  · have H1 := Lib.hid h1
    clear h h1
    go_enter Try.func25, Try.ntmps25
    go_wp2_with (go_at_call 24; refine (in_no _ _ _ _ H1.out).mono ?_; rintro e w' ⟨rfl, rfl⟩)
    go_ret
    exact ⟨rfl, rfl⟩

set_option maxHeartbeats 400000 in
theorem specMany_any (n l m : Int) (w : World) : Calls Try.prog 12 #[.int .i64 n, .int .i64 l, .int .i64 m] w fun e w' => e = .returned (.int .i64 (Plain.cm n l m)) ∧ Below w.heap.size w w' := by
  by_cases hn : 1 ≤ n ∧ n ≤ 16
  · by_cases hr : 1 ≤ l ∧ l ≤ m ∧ m ≤ 16
    · obtain ⟨hn1, hn2⟩ := hn
      obtain ⟨hr1, hr2, hr3⟩ := hr
      obtain ⟨n, rfl⟩ := Int.eq_ofNat_of_zero_le (show 0 ≤ n by omega)
      obtain ⟨l, rfl⟩ := Int.eq_ofNat_of_zero_le (show 0 ≤ l by omega)
      obtain ⟨m, rfl⟩ := Int.eq_ofNat_of_zero_le (show 0 ≤ m by omega)
      rw [Plain.cm_ok n l m (by omega) (by omega) (by omega) (by omega) (by omega)]
      go_enter Try.func12, Try.ntmps12
      go_wp2_with fail
      refine (in_yes _ _ _ _ hn1 hn2).mono ?_
      rintro e w' ⟨rfl, rfl⟩
      go_wp2_with fail
      refine (range_yes _ _ _ hr1 hr2 hr3).mono ?_
      rintro e w' ⟨rfl, rfl⟩
      go_wp2_with fail
      refine (ways_any n l m _ (by omega) (by omega) (by omega)).mono ?_
      rintro e w1 ⟨rfl, hb1⟩
      go_wp2_with fail
      go_ret
      exact ⟨rfl, hb1⟩
    · rw [Plain.cm_no n l m (fun h => hr ⟨h.2.2.1, h.2.2.2.1, h.2.2.2.2⟩)]
      obtain ⟨hn1, hn2⟩ := hn
      have HR := Lib.hid hr
      clear hr
      go_enter Try.func12, Try.ntmps12
      go_wp2_with fail
      refine (in_yes _ _ _ _ hn1 hn2).mono ?_
      rintro e w' ⟨rfl, rfl⟩
      go_wp2_with fail
      refine (range_no _ _ _ HR.out).mono ?_
      rintro e w' ⟨rfl, rfl⟩
      go_wp2_with fail
      go_ret
      exact ⟨rfl, Below.refl _ _⟩
  · rw [Plain.cm_no n l m (fun h => hn ⟨h.1, h.2.1⟩)]
    have HN := Lib.hid hn
    clear hn
    go_enter Try.func12, Try.ntmps12
    go_wp2_with fail
    refine (in_no _ _ _ _ HN.out).mono ?_
    rintro e w' ⟨rfl, rfl⟩
    go_wp2_with fail
    go_ret
    exact ⟨rfl, Below.refl _ _⟩

set_option maxHeartbeats 400000 in
theorem implMany_any (n l m : Int) (w : World) : Calls Try.prog 13 #[.int .i64 n, .int .i64 l, .int .i64 m] w fun e w' => e = .returned (.int .i64 (Plain.cm n l m)) ∧ Below w.heap.size w w' := by
  by_cases hn : 1 ≤ n ∧ n ≤ 16
  · by_cases hr : 1 ≤ l ∧ l ≤ m ∧ m ≤ 16
    · obtain ⟨hn1, hn2⟩ := hn
      obtain ⟨hr1, hr2, hr3⟩ := hr
      obtain ⟨n, rfl⟩ := Int.eq_ofNat_of_zero_le (show 0 ≤ n by omega)
      obtain ⟨l, rfl⟩ := Int.eq_ofNat_of_zero_le (show 0 ≤ l by omega)
      obtain ⟨m, rfl⟩ := Int.eq_ofNat_of_zero_le (show 0 ≤ m by omega)
      rw [Plain.cm_ok n l m (by omega) (by omega) (by omega) (by omega) (by omega)]
      exact implMany_ok n l m w (by omega) (by omega) (by omega) (by omega) (by omega)
    · rw [Plain.cm_no n l m (fun h => hr ⟨h.2.2.1, h.2.2.2.1, h.2.2.2.2⟩)]
      obtain ⟨hn1, hn2⟩ := hn
      have HR := Lib.hid hr
      clear hr
      have d1 : decide (n < 1) = false := by simp; omega
      have d2 : decide (16 < n) = false := by simp; omega
      go_enter Try.func13, Try.ntmps13
      go_wp2_with fail
      refine (dist_no _ _ _ HR.out).mono ?_
      rintro e w' ⟨rfl, rfl⟩
      go_wp2_with fail
      go_ret
      exact ⟨rfl, Below.refl _ _⟩
  · rw [Plain.cm_no n l m (fun h => hn ⟨h.1, h.2.1⟩)]
    by_cases h1 : n < 1
    · clear hn
      go_enter Try.func13, Try.ntmps13
      go_wp2
      go_ret
      exact ⟨rfl, Below.refl _ _⟩
    · have h2 : 16 < n := by omega
      clear hn
      go_enter Try.func13, Try.ntmps13
      go_wp2
      go_ret
      exact ⟨rfl, Below.refl _ _⟩

end Go.Proofs.Ytlelnnooemachaa
