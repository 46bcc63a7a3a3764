/- Contracts of the laws' own helpers over rows of integers: toIntS, eqIntS, sameInts, markIntS, heldIntS. -/
import Derived.Test.YtkbhogajdjnfnaaBase
namespace Go.Proofs.Ytkbhogajdjnfnaa
open Go.RowKit

theorem ret_ints_of_rowIs {w wr : World} {n : Nat} {f : Nat → Int} {l : List Int} (hrow : wr.rowIs w.heap.size 3 n (fun x => .int .i64 (f x))) (hl : l.length = n) (hf : ∀ k, k < n → f k = nth l k) (hb : Below w.heap.size w wr) :
    RetInts l w (.returned (.slice (some ⟨w.heap.size, 0, none⟩) n n)) wr := by
  obtain ⟨h1, h2⟩ := IRow.of_rowIs hrow (Nat.le_refl _)
  have e : (List.range n).map f = l := nth_ext (by simp [hl]) fun k hk => by
    have hk' : k < n := by simpa using hk
    rw [nth_map_range _ _ _ hk', hf k hk']
  rw [e] at h1
  exact ⟨_, _, _, rfl, h1, h2, hb⟩

set_option maxHeartbeats 400000 in
theorem toIntS_any (a : Option Addr) (n c lo : Nat) (l : List Int) (w : World) (h : IRow w lo a n c l) (hn : n ≤ 1048576) :
    Calls Try.prog 16 #[.slice a n c] w (RetInts l w) := by
  have H := Lib.hid h
  clear h
  go_enter Try.func16, Try.ntmps16
  go_wp2_with (at_make; refine wpList_make_ints _ rfl _ _ rfl n _ rfl rfl rfl (by omega) ?_; intro w1 hr1 hs1 hb1)
  have hb := hb1 w.heap.size w (Below.refl _ _) (Nat.le_refl _)
  clear hs1 hb1
  go_loopw [4] (fun i wr => ∃ k : Nat, k ≤ n ∧ i = .int .i64 k ∧ wr.rowIs w.heap.size 3 n (fun x => .int .i64 (if x < k then nth l x else 0)) ∧ Below w.heap.size w wr) (fun i _ => n - (intOf i).toNat)
  case atStart => exact ⟨0, Nat.zero_le _, rfl, hr1.congr (fun x _ => by simp), hb⟩
  case round =>
    clear hr1 hb
    obtain ⟨k, hk, rfl, hrow, hb⟩ := hrel
    by_cases hlt : k < n
    · obtain ⟨g, off, rfl, _, hg, hcell⟩ := (H.out.keep hb).at_ hlt
      have hc := hrow.cell (i := k) hlt
      have hf := hrow.frozen k
      go_wp2
      go_roundw
      case rel =>
        refine ⟨k + 1, by omega, by go_num, (hrow.set k _).congr (fun x _ => ?_), hb.setCell (Nat.le_refl _) _⟩
        by_cases e : x = k
        · subst e; rw [if_pos rfl, if_pos (by omega)]
        · rw [if_neg e]
          by_cases e2 : x < k
          · rw [if_pos e2, if_pos (by omega)]
          · rw [if_neg e2, if_neg (by omega)]
      case measure => simp [intOf]; omega
    · obtain rfl : k = n := by omega
      go_wp2
      go_ret
      exact ret_ints_of_rowIs hrow H.out.len (fun x hx => by rw [if_pos hx]) hb

set_option maxHeartbeats 400000 in
theorem eqIntS_yes (a a' : Option Addr) (n c c' lo lo' : Nat) (l : List Int) (w : World) (h : IRow w lo a n c l) (h' : IRow w lo' a' n c' l) (hn : n ≤ 1048576) :
    Calls Try.prog 18 #[.slice a n c, .slice a' n c'] w fun e w' => e = .returned (.bool true) ∧ ∃ m, w' = w.drewN m := by
  have H := Lib.hid h
  have H' := Lib.hid h'
  clear h h'
  go_enter Try.func18, Try.ntmps18
  go_wp2
  go_loopw [5] (fun i wr => ∃ k m : Nat, k ≤ n ∧ i = .int .i64 k ∧ wr = w.drewN m) (fun i _ => n - (intOf i).toNat)
  case atStart => exact ⟨0, 0, Nat.zero_le _, rfl, rfl⟩
  case round =>
    obtain ⟨k, m, hk, rfl, rfl⟩ := hrel
    by_cases hlt : k < n
    · obtain ⟨g, off, rfl, _, hg, hcell⟩ := H.out.at_ hlt
      obtain ⟨g', off', rfl, _, hg', hcell'⟩ := H'.out.at_ hlt
      go_wp2
      go_quiet (fail)
      go_wp2
      go_roundw
      case rel => exact ⟨k + 1, _, by omega, by go_num, rfl⟩
      case measure => simp [intOf]; omega
    · obtain rfl : k = n := by omega
      go_wp2
      go_ret
      exact ⟨rfl, m, rfl⟩

set_option maxHeartbeats 400000 in
theorem sameInts_yes (a a' : Option Addr) (n c c' lo lo' : Nat) (l : List Int) (w : World) (h : IRow w lo a n c l) (h' : IRow w lo' a' n c' l) (hn : n ≤ 1048576) :
    Calls Try.prog 34 #[.slice a n c, .slice a' n c'] w fun e w' => e = .returned (.bool true) ∧ ∃ m, w' = w.drewN m := by
  have H := Lib.hid h
  have H' := Lib.hid h'
  clear h h'
  go_enter Try.func34, Try.ntmps34
  go_wp2
  go_loopw [5] (fun i wr => ∃ k m : Nat, k ≤ n ∧ i = .int .i64 k ∧ wr = w.drewN m) (fun i _ => n - (intOf i).toNat)
  case atStart => exact ⟨0, 0, Nat.zero_le _, rfl, rfl⟩
  case round =>
    obtain ⟨k, m, hk, rfl, rfl⟩ := hrel
    by_cases hlt : k < n
    · obtain ⟨g, off, rfl, _, hg, hcell⟩ := H.out.at_ hlt
      obtain ⟨g', off', rfl, _, hg', hcell'⟩ := H'.out.at_ hlt
      go_wp2
      go_quiet (fail)
      go_wp2
      go_roundw
      case rel => exact ⟨k + 1, _, by omega, by go_num, rfl⟩
      case measure => simp [intOf]; omega
    · obtain rfl : k = n := by omega
      go_wp2
      go_ret
      exact ⟨rfl, m, rfl⟩

end Go.Proofs.Ytkbhogajdjnfnaa
