/- Walks of the functions on signals and allowed cuts. -/
import Derived.Test.YtlelnnooemachaaCuts2
import Derived.Test.YtlelnnooemachaaYearsPlain
namespace Go.Proofs.Ytlelnnooemachaa
open Go.RowKit

def SigTo (l : List Int) (k : Nat) : Prop := ∀ j, j < k → 0 ≤ nth l j ∧ nth l j ≤ 1000
theorem SigTo.succ {l : List Int} {k : Nat} (h : SigTo l k) (h1 : 0 ≤ nth l k) (h2 : nth l k ≤ 1000) : SigTo l (k + 1) := fun j hj => by
  by_cases e : j = k
  · subst e; exact ⟨h1, h2⟩
  · exact h j (by omega)

set_option maxHeartbeats 400000 in
theorem signalValid_any (a : Option Addr) (n c lo : Nat) (l : List Int) (w : World) (h : IRow w lo a n c l) (hn : n ≤ 1048576) :
    Calls Try.prog 29 #[.slice a n c] w fun e w' => e = .returned (.bool (okSig l)) ∧ w = w' := by
  have H := Lib.hid h
  clear h
  go_enter Try.func29, Try.ntmps29
  go_wp2
  go_loop [7] (fun i => ∃ k : Nat, k ≤ n ∧ i = .int .i64 k ∧ SigTo l k) (fun i => n - (intOf i).toNat)
  case atStart => exact ⟨0, Nat.zero_le _, rfl, fun j hj => by omega⟩
  case round =>
    obtain ⟨k, hk, rfl, hs⟩ := hrel
    by_cases hlt : k < n
    · obtain ⟨g, off, rfl, _, hg, hcell⟩ := H.out.at_ hlt
      by_cases h1 : nth l k < 0
      · have HN := Lib.hid (okSig_no_at k (by rw [H.out.len]; exact hlt) (by omega))
        go_wp2
        go_ret
        exact ⟨ret_bool HN.out.symm, rfl⟩
      · by_cases h2 : 1000 < nth l k
        · have HN := Lib.hid (okSig_no_at k (by rw [H.out.len]; exact hlt) (by omega))
          go_wp2
          go_ret
          exact ⟨ret_bool HN.out.symm, rfl⟩
        · go_wp2
          go_round
          case rel => exact ⟨k + 1, by omega, by go_num, hs.succ (by omega) (by omega)⟩
          case measure => simp [intOf]; omega
    · obtain rfl : k = n := by omega
      by_cases h1 : 1 ≤ k
      · by_cases h2 : k ≤ 16
        · have HN := Lib.hid (okSig_mk (l := l) (by rw [H.out.len]; exact h1) (by rw [H.out.len]; exact h2) (fun j hj => hs j (by rwa [H.out.len] at hj)))
          go_wp2
          go_ret
          exact ⟨ret_bool (by rw [HN.out]; simp; omega), rfl⟩
        · have HN := Lib.hid (okSig_no_len (l := l) (by rw [H.out.len]; omega))
          have h3 : 16 < k := by omega
          go_wp2
          go_ret
          exact ⟨ret_bool (by rw [HN.out]; simp; omega), rfl⟩
      · have HN := Lib.hid (okSig_no_len (l := l) (by rw [H.out.len]; omega))
        have h3 : k < 1 := by omega
        go_wp2
        go_ret
        exact ⟨ret_bool HN.out.symm, rfl⟩

set_option maxHeartbeats 400000 in
theorem l15Signal_any (a : Option Addr) (n c lo : Nat) (l : List Int) (w : World) (h : IRow w lo a n c l) (hn : n ≤ 1048576) :
    Calls Try.prog 28 #[.slice a n c] w fun e w' => e = .returned (.bool (okSig l)) ∧ w = w' := by
  have H := Lib.hid h
  clear h
  go_enter Try.func28, Try.ntmps28
  go_wp2
  go_loop [3] (fun i => ∃ k : Nat, k ≤ n ∧ i = .int .i64 k ∧ SigTo l k) (fun i => n - (intOf i).toNat)
  case atStart => exact ⟨0, Nat.zero_le _, rfl, fun j hj => by omega⟩
  case round =>
    obtain ⟨k, hk, rfl, hs⟩ := hrel
    by_cases hlt : k < n
    · obtain ⟨g, off, rfl, _, hg, hcell⟩ := H.out.at_ hlt
      by_cases h1 : 0 ≤ nth l k ∧ nth l k ≤ 1000
      · obtain ⟨h1, h2⟩ := h1
        go_wp2_with (go_at_call 24; refine (in_yes _ _ _ _ h1 h2).mono ?_; rintro e w' ⟨rfl, rfl⟩)
        go_round
        case rel => exact ⟨k + 1, by omega, by go_num, hs.succ h1 h2⟩
        case measure => simp [intOf]; omega
      · have HN := Lib.hid (okSig_no_at k (by rw [H.out.len]; exact hlt) h1)
        have H1 := Lib.hid h1
        clear h1
        go_wp2_with (go_at_call 24; refine (in_no _ _ _ _ H1.out).mono ?_; rintro e w' ⟨rfl, rfl⟩)
        go_ret
        exact ⟨ret_bool HN.out.symm, rfl⟩
    · obtain rfl : k = n := by omega
      by_cases h1 : 1 ≤ k ∧ k ≤ 16
      · have HN := Lib.hid (okSig_mk (l := l) (by rw [H.out.len]; exact h1.1) (by rw [H.out.len]; exact h1.2) (fun j hj => hs j (by rwa [H.out.len] at hj)))
        obtain ⟨h1, h2⟩ := h1
        go_wp2_with (go_at_call 24; refine (in_yes _ _ _ _ (by omega) (by omega)).mono ?_; rintro e w' ⟨rfl, rfl⟩)
        go_ret
        exact ⟨ret_bool HN.out.symm, rfl⟩
      · have HN := Lib.hid (okSig_no_len (l := l) (by rw [H.out.len]; exact h1))
        have H1 := Lib.hid h1
        clear h1
        go_wp2_with (go_at_call 24; refine (in_no _ _ _ _ (by have := H1.out; omega)).mono ?_; rintro e w' ⟨rfl, rfl⟩)
        go_ret
        exact ⟨ret_bool HN.out.symm, rfl⟩

end Go.Proofs.Ytlelnnooemachaa
