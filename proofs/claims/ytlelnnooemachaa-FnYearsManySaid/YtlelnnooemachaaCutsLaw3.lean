/- The walk of FnExactCutsYears. -/
import Derived.Test.YtlelnnooemachaaYears
namespace Go.Proofs.Ytlelnnooemachaa
open Go.RowKit

theorem cm_valid {n l m : Int} (h : ¬ Plain.cm n l m < 1) : 1 ≤ n ∧ n ≤ 16 ∧ 1 ≤ l ∧ l ≤ m ∧ m ≤ 16 := by
  by_cases c : 1 ≤ n ∧ n ≤ 16 ∧ 1 ≤ l ∧ l ≤ m ∧ m ≤ 16
  · exact c
  · rw [Plain.cm_no _ _ _ c] at h; omega

set_option maxHeartbeats 400000 in
theorem exactYears_walk (n l m : Int) (w : World) : Calls Try.prog 4 #[.int .i64 n, .int .i64 l, .int .i64 m] w fun e w' => e = .returned (.bool true) ∧ Below w.heap.size w w' := by
  by_cases h : Plain.cm n l m < 1
  · go_enter Try.func4, Try.ntmps4
    go_wp2_with fail
    refine (specYears_no _ _ _ _ h).mono ?_
    rintro e w1 ⟨rfl, b1⟩
    go_wp2_with fail
    refine (implYears_no _ _ _ _ h).mono ?_
    rintro e w2 ⟨rfl, b2⟩
    go_wp2_with fail
    go_ret
    exact ⟨rfl, below2 b1 b2⟩
  · obtain ⟨h1, h2, h3, h4, h5⟩ := cm_valid h
    obtain ⟨n, rfl⟩ := Int.eq_ofNat_of_zero_le (show 0 ≤ n by omega)
    obtain ⟨l, rfl⟩ := Int.eq_ofNat_of_zero_le (show 0 ≤ l by omega)
    obtain ⟨m, rfl⟩ := Int.eq_ofNat_of_zero_le (show 0 ≤ m by omega)
    rw [Plain.cm_ok n l m (by omega) (by omega) (by omega) (by omega) (by omega)] at h
    have hw : 0 < Plain.ways l m n := by omega
    clear h
    go_enter Try.func4, Try.ntmps4
    go_wp2_with fail
    refine (specYears_ok n l m _ (by omega) (by omega) (by omega) (by omega) (by omega) hw).mono ?_
    rintro e w1 ⟨rfl, b1⟩
    go_wp2_with fail
    refine (implYears_ok n l m _ (by omega) (by omega) (by omega) (by omega) (by omega) hw).mono ?_
    rintro e w2 ⟨rfl, b2⟩
    go_wp2_with fail
    go_ret
    exact ⟨rfl, below2 b1 b2⟩

end Go.Proofs.Ytlelnnooemachaa
