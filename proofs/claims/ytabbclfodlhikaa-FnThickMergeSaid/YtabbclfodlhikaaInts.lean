/- Contracts of the laws' own helpers over rows of integers: toIntS, eqIntS, sameInts, markIntS, heldIntS. -/
import Derived.Test.YtabbclfodlhikaaBase
namespace Go.Proofs.Ytabbclfodlhikaa
open Go.RowKit

theorem ret_ints_of_rowIs {w wr : World} {n : Nat} {f : Nat → Int} {l : List Int} (hrow : wr.rowIs w.heap.size 3 n (fun x => .int .i64 (f x))) (hl : l.length = n) (hf : ∀ k, k < n → f k = nth l k) (hb : Below w.heap.size w wr) :
    RetInts l w (.returned (.slice (some ⟨w.heap.size, 0, none⟩) n n)) wr := by
  obtain ⟨h1, h2⟩ := IRow.of_rowIs hrow (Nat.le_refl _)
  have e : (List.range n).map f = l := nth_ext (by simp [hl]) fun k hk => by
    have hk' : k < n := by simpa using hk
    rw [nth_map_range _ _ _ hk', hf k hk']
  rw [e] at h1
  exact ⟨_, _, _, rfl, h1, h2, hb⟩


set_option maxHeartbeats 400000 in
theorem eqIntS_yes (a a' : Option Addr) (n c c' lo lo' : Nat) (l : List Int) (w : World) (h : IRow w lo a n c l) (h' : IRow w lo' a' n c' l) (hn : n ≤ 1048576) :
    Calls Try.prog 24 #[.slice a n c, .slice a' n c'] w fun e w' => e = .returned (.bool true) ∧ ∃ m, w' = w.drewN m := by
  have H := Lib.hid h
  have H' := Lib.hid h'
  clear h h'
  go_enter Try.func24, Try.ntmps24
  go_wp2
  go_loopw [5] (fun i wr => ∃ k m : Nat, k ≤ n ∧ i = .int .i64 k ∧ wr = w.drewN m) (fun i _ => n - (intOf i).toNat)
  case atStart => exact ⟨0, 0, Nat.zero_le _, rfl, rfl⟩
  case round =>
    obtain ⟨k, m, hk, rfl, rfl⟩ := hrel
    by_cases hlt : k < n
    · obtain ⟨g, off, rfl, _, hg, hcell⟩ := H.out.at_ hlt
      obtain ⟨g', off', rfl, _, hg', hcell'⟩ := H'.out.at_ hlt
      go_wp2
      go_quiet (fail)
      go_wp2
      go_roundw
      case rel => exact ⟨k + 1, _, by omega, by go_num, rfl⟩
      case measure => simp [intOf]; omega
    · obtain rfl : k = n := by omega
      go_wp2
      go_ret
      exact ⟨rfl, m, rfl⟩

set_option maxHeartbeats 400000 in
theorem sameInts_yes (a a' : Option Addr) (n c c' lo lo' : Nat) (l : List Int) (w : World) (h : IRow w lo a n c l) (h' : IRow w lo' a' n c' l) (hn : n ≤ 1048576) :
    Calls Try.prog 29 #[.slice a n c, .slice a' n c'] w fun e w' => e = .returned (.bool true) ∧ ∃ m, w' = w.drewN m := by
  have H := Lib.hid h
  have H' := Lib.hid h'
  clear h h'
  go_enter Try.func29, Try.ntmps29
  go_wp2
  go_loopw [5] (fun i wr => ∃ k m : Nat, k ≤ n ∧ i = .int .i64 k ∧ wr = w.drewN m) (fun i _ => n - (intOf i).toNat)
  case atStart => exact ⟨0, 0, Nat.zero_le _, rfl, rfl⟩
  case round =>
    obtain ⟨k, m, hk, rfl, rfl⟩ := hrel
    by_cases hlt : k < n
    · obtain ⟨g, off, rfl, _, hg, hcell⟩ := H.out.at_ hlt
      obtain ⟨g', off', rfl, _, hg', hcell'⟩ := H'.out.at_ hlt
      go_wp2
      go_quiet (fail)
      go_wp2
      go_roundw
      case rel => exact ⟨k + 1, _, by omega, by go_num, rfl⟩
      case measure => simp [intOf]; omega
    · obtain rfl : k = n := by omega
      go_wp2
      go_ret
      exact ⟨rfl, m, rfl⟩

end Go.Proofs.Ytabbclfodlhikaa
