/- Walks of the functions on rows that only read: isRow, l13Row, the sums, the roughness, the ranges. -/
import Derived.Test.YtkbhogajdjnfnaaBase
import Derived.Test.YtkbhogajdjnfnaaSmoothPlain
namespace Go.Proofs.Ytkbhogajdjnfnaa
open Go.RowKit

def RowTo (l : List Int) (k : Nat) : Prop := ∀ j, j < k → -10000 ≤ nth l j ∧ nth l j ≤ 10000
theorem RowTo.succ {l : List Int} {k : Nat} (h : RowTo l k) (h1 : -10000 ≤ nth l k) (h2 : nth l k ≤ 10000) : RowTo l (k + 1) := fun j hj => by
  by_cases e : j = k
  · subst e; exact ⟨h1, h2⟩
  · exact h j (by omega)

set_option maxHeartbeats 400000 in
theorem isRow_any (a : Option Addr) (n c lo : Nat) (l : List Int) (w : World) (h : IRow w lo a n c l) (hn : n ≤ 1048576) :
    Calls Try.prog 36 #[.slice a n c] w fun e w' => e = .returned (.bool (okRow l)) ∧ w = w' := by
  have H := Lib.hid h
  clear h
  go_enter Try.func36, Try.ntmps36
  go_wp2
  go_loop [7] (fun i => ∃ k : Nat, k ≤ n ∧ i = .int .i64 k ∧ RowTo l k) (fun i => n - (intOf i).toNat)
  case atStart => exact ⟨0, Nat.zero_le _, rfl, fun j hj => by omega⟩
  case round =>
    obtain ⟨k, hk, rfl, hs⟩ := hrel
    by_cases hlt : k < n
    · obtain ⟨g, off, rfl, _, hg, hcell⟩ := H.out.at_ hlt
      by_cases h1 : nth l k < -10000
      · have HN := Lib.hid (okRow_no_at k (by rw [H.out.len]; exact hlt) (by omega))
        go_wp2
        go_ret
        exact ⟨ret_bool HN.out.symm, rfl⟩
      · by_cases h2 : 10000 < nth l k
        · have HN := Lib.hid (okRow_no_at k (by rw [H.out.len]; exact hlt) (by omega))
          go_wp2
          go_ret
          exact ⟨ret_bool HN.out.symm, rfl⟩
        · go_wp2
          go_round
          case rel => exact ⟨k + 1, by omega, by go_num, hs.succ (by omega) (by omega)⟩
          case measure => simp [intOf]; omega
    · obtain rfl : k = n := by omega
      by_cases h1 : 1 ≤ k
      · by_cases h2 : k ≤ 20
        · have HN := Lib.hid (okRow_mk (l := l) (by rw [H.out.len]; exact h1) (by rw [H.out.len]; exact h2) (fun j hj => hs j (by rwa [H.out.len] at hj)))
          go_wp2
          go_ret
          exact ⟨ret_bool (by rw [HN.out]; simp; omega), rfl⟩
        · have HN := Lib.hid (okRow_no_len (l := l) (by rw [H.out.len]; omega))
          have h3 : 20 < k := by omega
          go_wp2
          go_ret
          exact ⟨ret_bool (by rw [HN.out]; simp; omega), rfl⟩
      · have HN := Lib.hid (okRow_no_len (l := l) (by rw [H.out.len]; omega))
        have h3 : k < 1 := by omega
        go_wp2
        go_ret
        exact ⟨ret_bool HN.out.symm, rfl⟩
theorem isRow_is {a : Option Addr} {n c lo : Nat} {l : List Int} {w : World} {b : Bool} (hb : okRow l = b) (h : IRow w lo a n c l) (hn : n ≤ 1048576) :
    Calls Try.prog 36 #[.slice a n c] w fun e w' => e = .returned (.bool b) ∧ w = w' := by
  subst hb; exact isRow_any a n c lo l w h hn

set_option maxHeartbeats 400000 in
theorem l13Row_any (a : Option Addr) (n c lo : Nat) (l : List Int) (w : World) (h : IRow w lo a n c l) (hn : n ≤ 1048576) :
    Calls Try.prog 35 #[.slice a n c] w fun e w' => e = .returned (.bool (okRow l)) ∧ w = w' := by
  have H := Lib.hid h
  clear h
  go_enter Try.func35, Try.ntmps35
  go_wp2
  go_loop [3] (fun i => ∃ k : Nat, k ≤ n ∧ i = .int .i64 k ∧ RowTo l k) (fun i => n - (intOf i).toNat)
  case atStart => exact ⟨0, Nat.zero_le _, rfl, fun j hj => by omega⟩
  case round =>
    obtain ⟨k, hk, rfl, hs⟩ := hrel
    by_cases hlt : k < n
    · obtain ⟨g, off, rfl, _, hg, hcell⟩ := H.out.at_ hlt
      by_cases h1 : -10000 ≤ nth l k ∧ nth l k ≤ 10000
      · obtain ⟨h1, h2⟩ := h1
        go_wp2_with (go_at_call 43; refine (in_yes _ _ _ _ h1 h2).mono ?_; rintro e w' ⟨rfl, rfl⟩)
        go_round
        case rel => exact ⟨k + 1, by omega, by go_num, hs.succ h1 h2⟩
        case measure => simp [intOf]; omega
      · have HN := Lib.hid (okRow_no_at k (by rw [H.out.len]; exact hlt) h1)
        have H1 := Lib.hid h1
        clear h1
        go_wp2_with (go_at_call 43; refine (in_no _ _ _ _ H1.out).mono ?_; rintro e w' ⟨rfl, rfl⟩)
        go_ret
        exact ⟨ret_bool HN.out.symm, rfl⟩
    · obtain rfl : k = n := by omega
      by_cases h1 : 1 ≤ k ∧ k ≤ 20
      · have HN := Lib.hid (okRow_mk (l := l) (by rw [H.out.len]; exact h1.1) (by rw [H.out.len]; exact h1.2) (fun j hj => hs j (by rwa [H.out.len] at hj)))
        obtain ⟨h1, h2⟩ := h1
        go_wp2_with (go_at_call 43; refine (in_yes _ _ _ _ (by omega) (by omega)).mono ?_; rintro e w' ⟨rfl, rfl⟩)
        go_ret
        exact ⟨ret_bool HN.out.symm, rfl⟩
      · have HN := Lib.hid (okRow_no_len (l := l) (by rw [H.out.len]; exact h1))
        have H1 := Lib.hid h1
        clear h1
        go_wp2_with (go_at_call 43; refine (in_no _ _ _ _ (by have := H1.out; omega)).mono ?_; rintro e w' ⟨rfl, rfl⟩)
        go_ret
        exact ⟨ret_bool HN.out.symm, rfl⟩
theorem l13Row_is {a : Option Addr} {n c lo : Nat} {l : List Int} {w : World} {b : Bool} (hb : okRow l = b) (h : IRow w lo a n c l) (hn : n ≤ 1048576) :
    Calls Try.prog 35 #[.slice a n c] w fun e w' => e = .returned (.bool b) ∧ w = w' := by
  subst hb; exact l13Row_any a n c lo l w h hn

theorem sum_bd {l : List Int} (h : okRow l = true) (k : Nat) : -(10000 * k) ≤ sumF (nth l) k ∧ sumF (nth l) k ≤ 10000 * k := by
  induction k with
  | zero => simp [sumF]
  | succ k ih =>
    have := okRow_nth h k
    rw [sumF]
    omega
theorem gap_bd {l : List Int} (h : okRow l = true) (k : Nat) : 0 ≤ gap l k ∧ gap l k ≤ 20000 := by
  have a := okRow_nth h k
  have b := okRow_nth h (k + 1)
  unfold gap absI
  omega
theorem rough_bd {l : List Int} (h : okRow l = true) (k : Nat) : 0 ≤ sumF (gap l) k ∧ sumF (gap l) k ≤ 20000 * k := by
  induction k with
  | zero => simp [sumF]
  | succ k ih =>
    have := gap_bd h k
    rw [sumF]
    omega

set_option maxHeartbeats 400000 in
theorem implSum_ok (a : Option Addr) (n c lo : Nat) (l : List Int) (w : World) (h : IRow w lo a n c l) (ho : okRow l = true) :
    Calls Try.prog 17 #[.slice a n c] w fun e w' => e = .returned (.tuple #[.int .i64 (total l), .bool true]) ∧ w = w' := by
  have hn := okRow_len ho
  rw [h.len] at hn
  have H := Lib.hid h
  have HO := Lib.hid ho
  have HT : Hid (total l = sumF (nth l) n) := by show total l = _; unfold total; rw [h.len]
  clear h ho
  rw [HT.out]
  go_enter Try.func17, Try.ntmps17
  go_wp2_with fail
  refine (isRow_is HO.out H.out (by omega)).mono ?_
  rintro e w' ⟨rfl, rfl⟩
  go_wp2_with fail
  go_loop [4, 12] (fun s i => ∃ k : Nat, k ≤ n ∧ i = .int .i64 k ∧ s = .int .i64 (sumF (nth l) k)) (fun _ i => n - (intOf i).toNat)
  case atStart => exact ⟨0, Nat.zero_le _, rfl, rfl⟩
  case round =>
    obtain ⟨k, hk, rfl, rfl⟩ := hrel
    have hb := sum_bd HO.out k
    have hv := okRow_nth HO.out k
    by_cases hlt : k < n
    · obtain ⟨g, off, rfl, _, hg, hcell⟩ := H.out.at_ hlt
      go_wp2_with fail
      go_round
      case rel => exact ⟨k + 1, by omega, by go_num, rfl⟩
      case measure => simp [intOf]; omega
    · obtain rfl : k = n := by omega
      go_wp2_with fail
      go_ret2
      exact ⟨rfl, rfl⟩
theorem implSum_no (a : Option Addr) (n c lo : Nat) (l : List Int) (w : World) (h : IRow w lo a n c l) (hn : n ≤ 1048576) (ho : okRow l = false) :
    Calls Try.prog 17 #[.slice a n c] w fun e w' => e = .returned (.tuple #[.int .i64 0, .bool false]) ∧ w = w' := by
  have HO := Lib.hid ho
  clear ho
  go_enter Try.func17, Try.ntmps17
  go_wp2_with fail
  refine (isRow_is HO.out h (by omega)).mono ?_
  rintro e w' ⟨rfl, rfl⟩
  go_wp2_with fail
  go_ret2
  exact ⟨rfl, rfl⟩

set_option maxHeartbeats 400000 in
theorem specSum_ok (a : Option Addr) (n c lo : Nat) (l : List Int) (w : World) (h : IRow w lo a n c l) (ho : okRow l = true) :
    Calls Try.prog 15 #[.slice a n c] w fun e w' => e = .returned (.tuple #[.int .i64 (total l), .bool true]) ∧ w = w' := by
  have hn := okRow_len ho
  rw [h.len] at hn
  have H := Lib.hid h
  have HO := Lib.hid ho
  have HT : Hid (total l = sumF (nth l) n) := by show total l = _; unfold total; rw [h.len]
  clear h ho
  rw [HT.out]
  go_enter Try.func15, Try.ntmps15
  go_wp2_with fail
  refine (l13Row_is HO.out H.out (by omega)).mono ?_
  rintro e w' ⟨rfl, rfl⟩
  go_wp2_with fail
  go_loop [4, 5] (fun s i => ∃ k : Nat, k ≤ n ∧ i = .int .i64 k ∧ s = .int .i64 (sumF (nth l) k)) (fun _ i => n - (intOf i).toNat)
  case atStart => exact ⟨0, Nat.zero_le _, rfl, rfl⟩
  case round =>
    obtain ⟨k, hk, rfl, rfl⟩ := hrel
    have hb := sum_bd HO.out k
    have hv := okRow_nth HO.out k
    by_cases hlt : k < n
    · obtain ⟨g, off, rfl, _, hg, hcell⟩ := H.out.at_ hlt
      go_wp2_with fail
      go_round
      case rel => exact ⟨k + 1, by omega, by go_num, rfl⟩
      case measure => simp [intOf]; omega
    · obtain rfl : k = n := by omega
      go_wp2_with fail
      go_ret2
      exact ⟨rfl, rfl⟩
theorem specSum_no (a : Option Addr) (n c lo : Nat) (l : List Int) (w : World) (h : IRow w lo a n c l) (hn : n ≤ 1048576) (ho : okRow l = false) :
    Calls Try.prog 15 #[.slice a n c] w fun e w' => e = .returned (.tuple #[.int .i64 0, .bool false]) ∧ w = w' := by
  have HO := Lib.hid ho
  clear ho
  go_enter Try.func15, Try.ntmps15
  go_wp2_with fail
  refine (l13Row_is HO.out h (by omega)).mono ?_
  rintro e w' ⟨rfl, rfl⟩
  go_wp2_with fail
  go_ret2
  exact ⟨rfl, rfl⟩

set_option maxHeartbeats 400000 in
theorem implRough_ok (a : Option Addr) (n c lo : Nat) (l : List Int) (w : World) (h : IRow w lo a n c l) (ho : okRow l = true) :
    Calls Try.prog 20 #[.slice a n c] w fun e w' => e = .returned (.int .i64 (rough l)) ∧ ∃ m, w' = w.drewN m := by
  have hn := okRow_len ho
  rw [h.len] at hn
  have H := Lib.hid h
  have HO := Lib.hid ho
  have HT : Hid (rough l = sumF (gap l) (n - 1)) := by show rough l = _; unfold rough; rw [h.len]
  clear h ho
  rw [HT.out]
  go_enter Try.func20, Try.ntmps20
  go_wp2_with fail
  refine (isRow_is HO.out H.out (by omega)).mono ?_
  rintro e w' ⟨rfl, rfl⟩
  go_wp2_with fail
  go_loopw [3, 4] (fun s i wr => ∃ k m : Nat, k + 1 ≤ n ∧ i = .int .i64 ((k : Int) + 1) ∧ s = .int .i64 (sumF (gap l) k) ∧ wr = w.drewN m) (fun _ i _ => n - (intOf i).toNat)
  case atStart => exact ⟨0, 0, by omega, rfl, rfl, rfl⟩
  case round =>
    obtain ⟨k, m, hk, rfl, rfl, rfl⟩ := hrel
    have hb := rough_bd HO.out k
    have hv := okRow_nth HO.out k
    have hv' := okRow_nth HO.out (k + 1)
    by_cases hlt : k + 1 < n
    · obtain ⟨g, off, rfl, _, hg, hcell'⟩ := H.out.at_ hlt
      have hcell : w.cell? ⟨g, off + k, none⟩ = some (.int .i64 (nth l k)) := by
        obtain ⟨g', off', e, _, _, hc⟩ := H.out.at_ (show k < n by omega)
        injection e with e
        injection e with e1 e2 _
        subst e1 e2
        exact hc
      obtain ⟨x, hx⟩ : ∃ x, nth l k = x := ⟨_, rfl⟩
      obtain ⟨y, hy⟩ : ∃ y, nth l (k + 1) = y := ⟨_, rfl⟩
      have E : Hid (sumF (gap l) (k + 1) = sumF (gap l) k + absI (y - x)) := by
        show sumF (gap l) k + gap l k = _
        unfold gap; rw [hx, hy]
      rw [hx] at hv hcell
      rw [hy] at hv' hcell'
      clear hx hy
      go_wp2_with fail
      go_quiet (fail)
      go_wp2_with fail
      go_roundw
      case rel => exact ⟨k + 1, _, by omega, by go_num, by rw [E.out]; unfold absI; go_num, rfl⟩
      case measure => simp [intOf]; omega
    · obtain rfl : n = k + 1 := by omega
      go_wp2_with fail
      go_ret
      exact ⟨rfl, m, rfl⟩
theorem implRough_no (a : Option Addr) (n c lo : Nat) (l : List Int) (w : World) (h : IRow w lo a n c l) (hn : n ≤ 1048576) (ho : okRow l = false) :
    Calls Try.prog 20 #[.slice a n c] w fun e w' => e = .returned (.int .i64 (-1)) ∧ w = w' := by
  have HO := Lib.hid ho
  clear ho
  go_enter Try.func20, Try.ntmps20
  go_wp2_with fail
  refine (isRow_is HO.out h (by omega)).mono ?_
  rintro e w' ⟨rfl, rfl⟩
  go_wp2_with fail
  go_ret
  exact ⟨rfl, rfl⟩

theorem l2Abs_any (x : Int) (w : World) (h1 : -1000000 ≤ x) (h2 : x ≤ 1000000) : Calls Try.prog 37 #[.int .i64 x] w fun e w' => e = .returned (.int .i64 (absI x)) ∧ w' = w := by
  go_enter Try.func37, Try.ntmps37
  go_wp2
  all_goals
    go_ret
    exact ⟨ret_int (by unfold absI; omega), rfl⟩
theorem quiet_add_same {P : Program} {f : FuncId} {args : Array Value} {w : World} {a n : Nat} {v : Value}
    (h : Calls P f args (w.drewN (a + n)) fun e w' => e = .returned v ∧ w' = w.drewN (a + n)) :
    Calls P f args (w.drewN (a + n)) fun e w'' => e = .returned v ∧ ∃ m, w'' = w.drewN (a + m) :=
  h.mono fun _ _ ⟨he, hm⟩ => ⟨he, n, hm⟩

set_option maxHeartbeats 400000 in
theorem specRough_ok (a : Option Addr) (n c lo : Nat) (l : List Int) (w : World) (h : IRow w lo a n c l) (ho : okRow l = true) :
    Calls Try.prog 19 #[.slice a n c] w fun e w' => e = .returned (.int .i64 (rough l)) ∧ ∃ m, w' = w.drewN m := by
  have hn := okRow_len ho
  rw [h.len] at hn
  have H := Lib.hid h
  have HO := Lib.hid ho
  have HT : Hid (rough l = sumF (gap l) (n - 1)) := by show rough l = _; unfold rough; rw [h.len]
  clear h ho
  rw [HT.out]
  go_enter Try.func19, Try.ntmps19
  go_wp2_with fail
  refine (l13Row_is HO.out H.out (by omega)).mono ?_
  rintro e w' ⟨rfl, rfl⟩
  go_wp2_with fail
  go_loopw [3, 4] (fun s i wr => ∃ k m : Nat, k + 1 ≤ n ∧ i = .int .i64 ((k : Int) + 1) ∧ s = .int .i64 (sumF (gap l) k) ∧ wr = w.drewN m) (fun _ i _ => n - (intOf i).toNat)
  case atStart => exact ⟨0, 0, by omega, rfl, rfl, rfl⟩
  case round =>
    obtain ⟨k, m, hk, rfl, rfl, rfl⟩ := hrel
    have hb := rough_bd HO.out k
    have hv := okRow_nth HO.out k
    have hv' := okRow_nth HO.out (k + 1)
    by_cases hlt : k + 1 < n
    · obtain ⟨g, off, rfl, _, hg, hcell'⟩ := H.out.at_ hlt
      have hcell : w.cell? ⟨g, off + k, none⟩ = some (.int .i64 (nth l k)) := by
        obtain ⟨g', off', e, _, _, hc⟩ := H.out.at_ (show k < n by omega)
        injection e with e
        injection e with e1 e2 _
        subst e1 e2
        exact hc
      obtain ⟨x, hx⟩ : ∃ x, nth l k = x := ⟨_, rfl⟩
      obtain ⟨y, hy⟩ : ∃ y, nth l (k + 1) = y := ⟨_, rfl⟩
      obtain ⟨s, hs⟩ : ∃ s, sumF (gap l) k = s := ⟨_, rfl⟩
      have E : Hid (sumF (gap l) (k + 1) = s + absI (y - x)) := by
        have e : gap l k = absI (y - x) := by unfold gap; rw [hx, hy]
        show sumF (gap l) k + gap l k = _
        rw [hs, e]
      rw [hx] at hv hcell
      rw [hy] at hv' hcell'
      rw [hs] at hb ⊢
      clear hx hy hs
      have hab := absI_bd (y - x)
      obtain ⟨z, hz⟩ : ∃ z, absI (y - x) = z := ⟨_, rfl⟩
      rw [hz] at hab E
      have HZ : Hid (∀ W : World, Calls Try.prog 37 #[.int .i64 (y - x)] W fun e w' => e = .returned (.int .i64 z) ∧ w' = W) := fun W => by rw [← hz]; exact l2Abs_any _ _ (by omega) (by omega)
      clear hz
      have s1 : IntKind.i64.wrap (y - x) = y - x := IntWalk.i64_in _ (by omega)
      have s2 : IntKind.i64.wrap (s + z) = s + z := IntWalk.i64_in _ (by omega)
      have s3 : IntKind.i64.wrap ((k : Int) + 1 - 1) = (k : Int) := by rw [IntWalk.i64_in _ (by omega)]; omega
      have n1 : (0 : Int) ≤ (k : Int) + 1 := by omega
      have n2 : (k : Int) + 1 < (n : Int) := by omega
      have n3 : (k : Int) < (n : Int) := by omega
      have n4 : ((k : Int) + 1).toNat = k + 1 := by omega
      go_wp2_with fail
      go_quiet ((go_at_call 37; exact quiet_add_same (HZ.out _)))
      clear s1 s2 s3 n1 n2 n3 n4
      go_wp2_with fail
      go_roundw
      case rel => exact ⟨k + 1, _, by omega, by go_num, by rw [E.out], rfl⟩
      case measure => simp [intOf]; omega
    · obtain rfl : n = k + 1 := by omega
      go_wp2_with fail
      go_ret
      exact ⟨rfl, m, rfl⟩
theorem specRough_no (a : Option Addr) (n c lo : Nat) (l : List Int) (w : World) (h : IRow w lo a n c l) (hn : n ≤ 1048576) (ho : okRow l = false) :
    Calls Try.prog 19 #[.slice a n c] w fun e w' => e = .returned (.int .i64 (-1)) ∧ w = w' := by
  have HO := Lib.hid ho
  clear ho
  go_enter Try.func19, Try.ntmps19
  go_wp2_with fail
  refine (l13Row_is HO.out h (by omega)).mono ?_
  rintro e w' ⟨rfl, rfl⟩
  go_wp2_with fail
  go_ret
  exact ⟨rfl, rfl⟩

set_option maxHeartbeats 400000 in
theorem slicesMin_any (a : Option Addr) (n c lo : Nat) (l : List Int) (w : World) (h : IRow w lo a n c l) (h1 : 1 ≤ n) (hn : n ≤ 1048576) :
    Calls Try.prog 38 #[.slice a n c] w fun e w' => e = .returned (.int .i64 (minTo l n)) ∧ w = w' := by
  have H := Lib.hid h
  clear h
  obtain ⟨g, off, rfl, _, hg, hcell0⟩ := H.out.at_ (show 0 < n by omega)
  have hc0 : w.cell? ⟨g, off, none⟩ = some (.int .i64 (nth l 0)) := hcell0
  clear hcell0
  have E0 : Hid (nth l 0 = minTo l 1) := by show nth l 0 = min (nth l 0) (nth l 0); omega
  go_enter Try.func38, Try.ntmps38
  go_wp2_with fail
  clear hc0
  go_loop [3, 4] (fun s i => ∃ k : Nat, k + 1 ≤ n ∧ i = .int .i64 ((k : Int) + 1) ∧ s = .int .i64 (minTo l (k + 1))) (fun _ i => n - (intOf i).toNat)
  case atStart => exact ⟨0, by omega, rfl, by rw [E0.out]⟩
  case round =>
    obtain ⟨k, hk, rfl, rfl⟩ := hrel
    by_cases hlt : k + 1 < n
    · have hcell : w.cell? ⟨g, off + (k + 1), none⟩ = some (.int .i64 (nth l (k + 1))) := by
        obtain ⟨g', off', e, _, _, hc⟩ := H.out.at_ hlt
        injection e with e
        injection e with e1 e2 _
        subst e1 e2
        exact hc
      obtain ⟨x, hx⟩ : ∃ x, minTo l (k + 1) = x := ⟨_, rfl⟩
      obtain ⟨y, hy⟩ : ∃ y, nth l (k + 1) = y := ⟨_, rfl⟩
      have E : Hid (minTo l (k + 1 + 1) = min x y) := by
        show min (minTo l (k + 1)) (nth l (k + 1)) = _
        rw [hx, hy]
      rw [hy] at hcell
      rw [hx]
      clear hx hy
      go_wp2_with fail
      go_round
      case rel => exact ⟨k + 1, by omega, by go_num, by rw [E.out]; go_num⟩
      case measure => simp [intOf]; omega
    · obtain rfl : n = k + 1 := by omega
      go_wp2_with fail
      go_ret
      exact ⟨rfl, rfl⟩
set_option maxHeartbeats 400000 in
theorem slicesMax_any (a : Option Addr) (n c lo : Nat) (l : List Int) (w : World) (h : IRow w lo a n c l) (h1 : 1 ≤ n) (hn : n ≤ 1048576) :
    Calls Try.prog 39 #[.slice a n c] w fun e w' => e = .returned (.int .i64 (maxTo l n)) ∧ w = w' := by
  have H := Lib.hid h
  clear h
  obtain ⟨g, off, rfl, _, hg, hcell0⟩ := H.out.at_ (show 0 < n by omega)
  have hc0 : w.cell? ⟨g, off, none⟩ = some (.int .i64 (nth l 0)) := hcell0
  clear hcell0
  have E0 : Hid (nth l 0 = maxTo l 1) := by show nth l 0 = max (nth l 0) (nth l 0); omega
  go_enter Try.func39, Try.ntmps39
  go_wp2_with fail
  clear hc0
  go_loop [3, 4] (fun s i => ∃ k : Nat, k + 1 ≤ n ∧ i = .int .i64 ((k : Int) + 1) ∧ s = .int .i64 (maxTo l (k + 1))) (fun _ i => n - (intOf i).toNat)
  case atStart => exact ⟨0, by omega, rfl, by rw [E0.out]⟩
  case round =>
    obtain ⟨k, hk, rfl, rfl⟩ := hrel
    by_cases hlt : k + 1 < n
    · have hcell : w.cell? ⟨g, off + (k + 1), none⟩ = some (.int .i64 (nth l (k + 1))) := by
        obtain ⟨g', off', e, _, _, hc⟩ := H.out.at_ hlt
        injection e with e
        injection e with e1 e2 _
        subst e1 e2
        exact hc
      obtain ⟨x, hx⟩ : ∃ x, maxTo l (k + 1) = x := ⟨_, rfl⟩
      obtain ⟨y, hy⟩ : ∃ y, nth l (k + 1) = y := ⟨_, rfl⟩
      have E : Hid (maxTo l (k + 1 + 1) = max x y) := by
        show max (maxTo l (k + 1)) (nth l (k + 1)) = _
        rw [hx, hy]
      rw [hy] at hcell
      rw [hx]
      clear hx hy
      go_wp2_with fail
      go_round
      case rel => exact ⟨k + 1, by omega, by go_num, by rw [E.out]; go_num⟩
      case measure => simp [intOf]; omega
    · obtain rfl : n = k + 1 := by omega
      go_wp2_with fail
      go_ret
      exact ⟨rfl, rfl⟩

theorem implRange_ok (a : Option Addr) (n c lo : Nat) (l : List Int) (w : World) (h : IRow w lo a n c l) (ho : okRow l = true) :
    Calls Try.prog 22 #[.slice a n c] w fun e w' => e = .returned (.tuple #[.int .i64 (low l), .int .i64 (high l), .bool true]) ∧ w = w' := by
  have hn := okRow_len ho
  rw [h.len] at hn
  have HO := Lib.hid ho
  have E1 : Hid (low l = minTo l n) := by show minTo l l.length = _; rw [h.len]
  have E2 : Hid (high l = maxTo l n) := by show maxTo l l.length = _; rw [h.len]
  rw [E1.out, E2.out]
  clear ho
  go_enter Try.func22, Try.ntmps22
  go_wp2_with fail
  refine (isRow_is HO.out h (by omega)).mono ?_
  rintro e w' ⟨rfl, rfl⟩
  go_wp2_with fail
  refine (slicesMin_any _ _ _ _ _ _ h (by omega) (by omega)).mono ?_
  rintro e w' ⟨rfl, rfl⟩
  go_wp2_with fail
  refine (slicesMax_any _ _ _ _ _ _ h (by omega) (by omega)).mono ?_
  rintro e w' ⟨rfl, rfl⟩
  go_wp2_with fail
  go_ret3
  exact ⟨rfl, rfl⟩
theorem implRange_no (a : Option Addr) (n c lo : Nat) (l : List Int) (w : World) (h : IRow w lo a n c l) (hn : n ≤ 1048576) (ho : okRow l = false) :
    Calls Try.prog 22 #[.slice a n c] w fun e w' => e = .returned (.tuple #[.int .i64 0, .int .i64 0, .bool false]) ∧ w = w' := by
  have HO := Lib.hid ho
  clear ho
  go_enter Try.func22, Try.ntmps22
  go_wp2_with fail
  refine (isRow_is HO.out h (by omega)).mono ?_
  rintro e w' ⟨rfl, rfl⟩
  go_wp2_with fail
  go_ret3
  exact ⟨rfl, rfl⟩

set_option maxHeartbeats 400000 in
theorem specRange_ok (a : Option Addr) (n c lo : Nat) (l : List Int) (w : World) (h : IRow w lo a n c l) (ho : okRow l = true) :
    Calls Try.prog 21 #[.slice a n c] w fun e w' => e = .returned (.tuple #[.int .i64 (low l), .int .i64 (high l), .bool true]) ∧ w = w' := by
  have hn := okRow_len ho
  rw [h.len] at hn
  have H := Lib.hid h
  have HO := Lib.hid ho
  have E1 : Hid (low l = minTo l n) := by show minTo l l.length = _; rw [h.len]
  have E2 : Hid (high l = maxTo l n) := by show maxTo l l.length = _; rw [h.len]
  rw [E1.out, E2.out]
  clear h ho
  obtain ⟨g, off, rfl, _, hg, hcell0⟩ := H.out.at_ (show 0 < n by omega)
  have hc0 : w.cell? ⟨g, off, none⟩ = some (.int .i64 (nth l 0)) := hcell0
  clear hcell0
  go_enter Try.func21, Try.ntmps21
  go_wp2_with fail
  refine (l13Row_is HO.out H.out (by omega)).mono ?_
  rintro e w' ⟨rfl, rfl⟩
  go_wp2_with fail
  clear hc0
  go_loop [5, 6, 7] (fun s t i => ∃ k : Nat, k ≤ n ∧ i = .int .i64 (k : Int) ∧ s = .int .i64 (minTo l k) ∧ t = .int .i64 (maxTo l k)) (fun _ _ i => n - (intOf i).toNat)
  case atStart => exact ⟨0, by omega, rfl, rfl, rfl⟩
  case round =>
    obtain ⟨k, hk, rfl, rfl, rfl⟩ := hrel
    by_cases hlt : k < n
    · have hcell : w.cell? ⟨g, off + k, none⟩ = some (.int .i64 (nth l k)) := by
        obtain ⟨g', off', e, _, _, hc⟩ := H.out.at_ hlt
        injection e with e
        injection e with e1 e2 _
        subst e1 e2
        exact hc
      obtain ⟨x, hx⟩ : ∃ x, minTo l k = x := ⟨_, rfl⟩
      obtain ⟨z, hz⟩ : ∃ z, maxTo l k = z := ⟨_, rfl⟩
      obtain ⟨y, hy⟩ : ∃ y, nth l k = y := ⟨_, rfl⟩
      have F1 : Hid (minTo l (k + 1) = min x y) := by show min (minTo l k) (nth l k) = _; rw [hx, hy]
      have F2 : Hid (maxTo l (k + 1) = max z y) := by show max (maxTo l k) (nth l k) = _; rw [hz, hy]
      rw [hy] at hcell
      rw [hx, hz]
      clear hx hy hz
      go_wp2_with fail
      go_round
      case rel => exact ⟨k + 1, by omega, by go_num, by rw [F1.out]; go_num, by rw [F2.out]; go_num⟩
      case measure => simp [intOf]; omega
    · obtain rfl : k = n := by omega
      go_wp2_with fail
      go_ret3
      exact ⟨rfl, rfl⟩
theorem specRange_no (a : Option Addr) (n c lo : Nat) (l : List Int) (w : World) (h : IRow w lo a n c l) (hn : n ≤ 1048576) (ho : okRow l = false) :
    Calls Try.prog 21 #[.slice a n c] w fun e w' => e = .returned (.tuple #[.int .i64 0, .int .i64 0, .bool false]) ∧ w = w' := by
  have HO := Lib.hid ho
  clear ho
  go_enter Try.func21, Try.ntmps21
  go_wp2_with fail
  refine (l13Row_is HO.out h (by omega)).mono ?_
  rintro e w' ⟨rfl, rfl⟩
  go_wp2_with fail
  go_ret3
  exact ⟨rfl, rfl⟩

end Go.Proofs.Ytkbhogajdjnfnaa
