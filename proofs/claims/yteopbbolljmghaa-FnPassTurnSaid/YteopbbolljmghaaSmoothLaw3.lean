/- The walks of the laws over one pass. -/
import Derived.Test.YteopbbolljmghaaSmooth4
import Derived.Test.YteopbbolljmghaaInts
import Derived.Test.YteopbbolljmghaaDrawRow
namespace Go.Proofs.Yteopbbolljmghaa
open Go.RowKit

set_option maxRecDepth 100000 in
set_option maxHeartbeats 2000000 in
theorem pass_walk (a : Option Addr) (len c : Nat) (w : World) (h : BRow w w.heap.size a len) (hc : len ≤ c) (hn : len ≤ 9223372036854775807) :
    Calls Try.prog 9 #[.slice a len c] w fun e w' => e = .returned (.bool true) ∧ Below w.heap.size w w' := by
  by_cases hlen : 1048576 < len
  · go_enter Try.func9, Try.ntmps9
    go_wp2_with fail
    go_ret
    exact ⟨rfl, Below.refl _ _⟩
  go_enter Try.func9, Try.ntmps9
  go_wp2_with fail
  refine (drawPass_any _ _ _ _ h hc hn).mono ?_
  rintro e w1 ⟨a1, n1, c1, l, hn1, hd, rfl, r1, f1, b1⟩
  cases ho : okRow l with
  | false =>
    have HO := Lib.hid ho
    clear ho
    go_wp2_with fail
    refine (implPass_no _ _ _ _ _ _ r1 (by omega) HO.out).mono ?_
    rintro e w2 ⟨a2, n2, c2, rfl, r2, f2, b2⟩
    go_wp2_with fail
    refine (specPass_no _ _ _ _ _ _ (r1.keep b2) (by omega) HO.out).mono ?_
    rintro e w3 ⟨a3, n3, c3, rfl, r3, f3, b3⟩
    obtain rfl : n3 = n2 := by rw [← r3.len, r2.len]
    have hn3 : n3 ≤ 1048576 := by rw [← r3.len]; exact Nat.zero_le _
    go_wp2_with fail
    refine (sameInts_yes _ _ _ _ _ _ _ _ _ (r2.keep b3) r3 (by omega)).mono ?_
    rintro e w4 ⟨rfl, m4, hw4⟩
    have b4 : Below w3.heap.size w3 w4 := by rw [hw4]; exact below_new _ _
    clear hw4
    go_wp2_with fail
    refine (sameInts_yes _ _ _ _ _ _ _ _ _ ((r2.keep b3).keep b4) (r3.keep b4) (by omega)).mono ?_
    rintro e w5 ⟨rfl, m5, hw5⟩
    have b5 : Below w4.heap.size w4 w5 := by rw [hw5]; exact below_new _ _
    clear hw5
    go_wp2_with fail
    go_ret
    exact ⟨rfl, below2 (below2 (below2 (below2 b1 b2) b3) b4) b5⟩
  | true =>
    have hl1 := (okRow_len ho).1
    rw [r1.len] at hl1
    have HO := Lib.hid ho
    clear ho
    go_wp2_with fail
    refine (implPass_ok _ _ _ _ _ _ r1 HO.out).mono ?_
    rintro e w2 ⟨a2, n2, c2, rfl, r2, f2, b2⟩
    obtain rfl : n2 = n1 := by rw [← r2.len, length_pass, r1.len]
    go_wp2_with fail
    refine (specPass_ok _ _ _ _ _ _ (r1.keep b2) HO.out).mono ?_
    rintro e w3 ⟨a3, n3, c3, rfl, r3, f3, b3⟩
    obtain rfl : n3 = n2 := by rw [← r3.len, r2.len]
    go_wp2_with fail
    refine (sameInts_yes _ _ _ _ _ _ _ _ _ (r2.keep b3) r3 (by omega)).mono ?_
    rintro e w4 ⟨rfl, m4, hw4⟩
    have b4 : Below w3.heap.size w3 w4 := by rw [hw4]; exact below_new _ _
    clear hw4
    have B4 := below2 (below2 (below2 b1 b2) b3) b4
    have q1 := ((r1.keep b2).keep b3).keep b4
    have q2 := (r2.keep b3).keep b4
    obtain ⟨n, hnn⟩ : ∃ n, n = n3 := ⟨_, rfl⟩
    subst hnn
    clear r1 r2 r3 b1 b2 b3 b4 f1 f2 f3
    obtain ⟨s, hs⟩ : ∃ s, total l = s := ⟨_, rfl⟩
    have E : Hid (total (pass l) = 4 * s) := by show total (pass l) = _; rw [total_pass, hs]
    have hsb : -(10000 * n) ≤ s ∧ s ≤ 10000 * n := by rw [← hs]; unfold total; rw [q1.len]; exact sum_bd HO.out n
    have HS := Lib.hid hs
    clear hs
    have HB : Hid (Big (pass l)) := fun k => by have := pass_bd (b := 10000) (fun k => okRow_nth HO.out k) k; omega
    go_wp2_with fail
    refine (implSum_ok _ _ _ _ _ _ q1 HO.out).mono ?_
    rw [HS.out]
    rintro e w' ⟨rfl, rfl⟩
    go_wp2_with fail
    refine (sumOf_any _ _ _ _ _ _ q2 (by omega) HB.out).mono ?_
    rw [E.out]
    rintro e w' ⟨rfl, rfl⟩
    go_wp2_with fail
    go_ret
    exact ⟨rfl, B4⟩

set_option maxRecDepth 100000 in
set_option maxHeartbeats 2000000 in
theorem passRough_walk (a : Option Addr) (len c : Nat) (w : World) (h : BRow w w.heap.size a len) (hc : len ≤ c) (hn : len ≤ 9223372036854775807) :
    Calls Try.prog 10 #[.slice a len c] w fun e w' => e = .returned (.bool true) ∧ Below w.heap.size w w' := by
  by_cases hlen : 1048576 < len
  · go_enter Try.func10, Try.ntmps10
    go_wp2_with fail
    go_ret
    exact ⟨rfl, Below.refl _ _⟩
  go_enter Try.func10, Try.ntmps10
  go_wp2_with fail
  refine (drawPass_any _ _ _ _ h hc hn).mono ?_
  rintro e w1 ⟨a1, n1, c1, l, hn1, hd, rfl, r1, f1, b1⟩
  cases ho : okRow l with
  | false =>
    have HO := Lib.hid ho
    clear ho
    go_wp2_with fail
    refine (implPass_no _ _ _ _ _ _ r1 (by omega) HO.out).mono ?_
    rintro e w2 ⟨a2, n2, c2, rfl, r2, f2, b2⟩
    go_wp2_with fail
    refine (specPass_no _ _ _ _ _ _ (r1.keep b2) (by omega) HO.out).mono ?_
    rintro e w3 ⟨a3, n3, c3, rfl, r3, f3, b3⟩
    obtain rfl : n3 = n2 := by rw [← r3.len, r2.len]
    have hn3 : n3 ≤ 1048576 := by rw [← r3.len]; exact Nat.zero_le _
    go_wp2_with fail
    refine (sameInts_yes _ _ _ _ _ _ _ _ _ (r2.keep b3) r3 (by omega)).mono ?_
    rintro e w4 ⟨rfl, m4, hw4⟩
    have b4 : Below w3.heap.size w3 w4 := by rw [hw4]; exact below_new _ _
    clear hw4
    go_wp2_with fail
    refine (sameInts_yes _ _ _ _ _ _ _ _ _ ((r2.keep b3).keep b4) (r3.keep b4) (by omega)).mono ?_
    rintro e w5 ⟨rfl, m5, hw5⟩
    have b5 : Below w4.heap.size w4 w5 := by rw [hw5]; exact below_new _ _
    clear hw5
    go_wp2_with fail
    go_ret
    exact ⟨rfl, below2 (below2 (below2 (below2 b1 b2) b3) b4) b5⟩
  | true =>
    have hl1 := (okRow_len ho).1
    rw [r1.len] at hl1
    have HO := Lib.hid ho
    clear ho
    go_wp2_with fail
    refine (implPass_ok _ _ _ _ _ _ r1 HO.out).mono ?_
    rintro e w2 ⟨a2, n2, c2, rfl, r2, f2, b2⟩
    obtain rfl : n2 = n1 := by rw [← r2.len, length_pass, r1.len]
    go_wp2_with fail
    refine (specPass_ok _ _ _ _ _ _ (r1.keep b2) HO.out).mono ?_
    rintro e w3 ⟨a3, n3, c3, rfl, r3, f3, b3⟩
    obtain rfl : n3 = n2 := by rw [← r3.len, r2.len]
    go_wp2_with fail
    refine (sameInts_yes _ _ _ _ _ _ _ _ _ (r2.keep b3) r3 (by omega)).mono ?_
    rintro e w4 ⟨rfl, m4, hw4⟩
    have b4 : Below w3.heap.size w3 w4 := by rw [hw4]; exact below_new _ _
    clear hw4
    have B4 := below2 (below2 (below2 b1 b2) b3) b4
    have q1 := ((r1.keep b2).keep b3).keep b4
    have q2 := (r2.keep b3).keep b4
    obtain ⟨n, hnn⟩ : ∃ n, n = n3 := ⟨_, rfl⟩
    subst hnn
    clear r1 r2 r3 b1 b2 b3 b4 f1 f2 f3
    have hle := rough_pass l
    obtain ⟨r, hr⟩ : ∃ r, rough l = r := ⟨_, rfl⟩
    obtain ⟨s, hs⟩ : ∃ s, rough (pass l) = s := ⟨_, rfl⟩
    have hrb : 0 ≤ r ∧ r ≤ 20000 * ((n - 1 : Nat) : Int) := by rw [← hr]; unfold rough; rw [q1.len]; exact rough_bd HO.out (n - 1)
    rw [hr, hs] at hle
    have HR := Lib.hid hr
    have HS := Lib.hid hs
    clear hr hs
    have HB : Hid (Big (pass l)) := fun k => by have := pass_bd (b := 10000) (fun k => okRow_nth HO.out k) k; omega
    go_wp2_with fail
    refine (roughOf_any _ _ _ _ _ _ q2 (by omega) (by omega) HB.out).mono ?_
    rw [HS.out]
    rintro e w5 ⟨rfl, m5, hw5⟩
    have b5 : Below w4.heap.size w4 w5 := by rw [hw5]; exact below_new _ _
    clear hw5
    go_wp2_with fail
    refine (implRough_ok _ _ _ _ _ _ (q1.keep b5) HO.out).mono ?_
    rw [HR.out]
    rintro e w6 ⟨rfl, m6, hw6⟩
    have b6 : Below w5.heap.size w5 w6 := by rw [hw6]; exact below_new _ _
    clear hw6
    go_wp2_with fail
    go_ret
    exact ⟨rfl, below2 (below2 B4 b5) b6⟩

set_option maxRecDepth 100000 in
set_option maxHeartbeats 2000000 in
theorem passRange_walk (a : Option Addr) (len c : Nat) (w : World) (h : BRow w w.heap.size a len) (hc : len ≤ c) (hn : len ≤ 9223372036854775807) :
    Calls Try.prog 12 #[.slice a len c] w fun e w' => e = .returned (.bool true) ∧ Below w.heap.size w w' := by
  by_cases hlen : 1048576 < len
  · go_enter Try.func12, Try.ntmps12
    go_wp2_with fail
    go_ret
    exact ⟨rfl, Below.refl _ _⟩
  go_enter Try.func12, Try.ntmps12
  go_wp2_with fail
  refine (drawPass_any _ _ _ _ h hc hn).mono ?_
  rintro e w1 ⟨a1, n1, c1, l, hn1, hd, rfl, r1, f1, b1⟩
  cases ho : okRow l with
  | false =>
    have HO := Lib.hid ho
    clear ho
    go_wp2_with fail
    refine (implPass_no _ _ _ _ _ _ r1 (by omega) HO.out).mono ?_
    rintro e w2 ⟨a2, n2, c2, rfl, r2, f2, b2⟩
    go_wp2_with fail
    refine (specPass_no _ _ _ _ _ _ (r1.keep b2) (by omega) HO.out).mono ?_
    rintro e w3 ⟨a3, n3, c3, rfl, r3, f3, b3⟩
    obtain rfl : n3 = n2 := by rw [← r3.len, r2.len]
    have hn3 : n3 ≤ 1048576 := by rw [← r3.len]; exact Nat.zero_le _
    go_wp2_with fail
    refine (sameInts_yes _ _ _ _ _ _ _ _ _ (r2.keep b3) r3 (by omega)).mono ?_
    rintro e w4 ⟨rfl, m4, hw4⟩
    have b4 : Below w3.heap.size w3 w4 := by rw [hw4]; exact below_new _ _
    clear hw4
    go_wp2_with fail
    refine (sameInts_yes _ _ _ _ _ _ _ _ _ ((r2.keep b3).keep b4) (r3.keep b4) (by omega)).mono ?_
    rintro e w5 ⟨rfl, m5, hw5⟩
    have b5 : Below w4.heap.size w4 w5 := by rw [hw5]; exact below_new _ _
    clear hw5
    go_wp2_with fail
    go_ret
    exact ⟨rfl, below2 (below2 (below2 (below2 b1 b2) b3) b4) b5⟩
  | true =>
    have hl1 := (okRow_len ho).1
    rw [r1.len] at hl1
    have HO := Lib.hid ho
    clear ho
    go_wp2_with fail
    refine (implPass_ok _ _ _ _ _ _ r1 HO.out).mono ?_
    rintro e w2 ⟨a2, n2, c2, rfl, r2, f2, b2⟩
    obtain rfl : n2 = n1 := by rw [← r2.len, length_pass, r1.len]
    go_wp2_with fail
    refine (specPass_ok _ _ _ _ _ _ (r1.keep b2) HO.out).mono ?_
    rintro e w3 ⟨a3, n3, c3, rfl, r3, f3, b3⟩
    obtain rfl : n3 = n2 := by rw [← r3.len, r2.len]
    go_wp2_with fail
    refine (sameInts_yes _ _ _ _ _ _ _ _ _ (r2.keep b3) r3 (by omega)).mono ?_
    rintro e w4 ⟨rfl, m4, hw4⟩
    have b4 : Below w3.heap.size w3 w4 := by rw [hw4]; exact below_new _ _
    clear hw4
    have B4 := below2 (below2 (below2 b1 b2) b3) b4
    have q1 := ((r1.keep b2).keep b3).keep b4
    have q2 := (r2.keep b3).keep b4
    obtain ⟨n, hnn⟩ : ∃ n, n = n3 := ⟨_, rfl⟩
    subst hnn
    clear r1 r2 r3 b1 b2 b3 b4 f1 f2 f3
    obtain ⟨p, hp⟩ : ∃ p, low l = p := ⟨_, rfl⟩
    obtain ⟨q, hq⟩ : ∃ q, high l = q := ⟨_, rfl⟩
    have HV : Hid (∀ k, k < n → 4 * p ≤ nth (pass l) k ∧ nth (pass l) k ≤ 4 * q) := fun k hk => by
      rw [← hp, ← hq]
      exact pass_range (fun k hk => ⟨low_le l k hk, high_ge l k hk⟩) k (by rw [q1.len]; exact hk)
    have hpb : -10000 ≤ p ∧ p ≤ 10000 := by
      obtain ⟨k, _, e⟩ := low_at l (by rw [q1.len]; omega)
      rw [← hp, ← e]; exact okRow_nth HO.out k
    have hqb : -10000 ≤ q ∧ q ≤ 10000 := by
      obtain ⟨k, _, e⟩ := high_at l (by rw [q1.len]; omega)
      rw [← hq, ← e]; exact okRow_nth HO.out k
    have HP := Lib.hid hp
    have HQ := Lib.hid hq
    clear hp hq
    go_wp2_with fail
    refine (implRange_ok _ _ _ _ _ _ q1 HO.out).mono ?_
    rw [HP.out, HQ.out]
    rintro e w' ⟨rfl, rfl⟩
    have Q2 := Lib.hid q2
    clear q1 q2
    go_wp2_with fail
    go_loop [11] (fun i => ∃ k : Nat, k ≤ n ∧ i = .int .i64 k) (fun i => n - (intOf i).toNat)
    case atStart => exact ⟨0, Nat.zero_le _, rfl⟩
    case round =>
      obtain ⟨k, hk, rfl⟩ := hrel
      by_cases hlt : k < n
      · obtain ⟨g, off, rfl, _, hg, hcell⟩ := Q2.out.at_ hlt
        have hv := HV.out k hlt
        obtain ⟨x, hx⟩ : ∃ x, nth (pass l) k = x := ⟨_, rfl⟩
        rw [hx] at hv hcell
        clear hx
        obtain ⟨hv1, hv2⟩ := hv
        go_wp2_with fail
        go_round
        case rel => exact ⟨k + 1, by omega, by go_num⟩
        case measure => simp [intOf]; omega
      · obtain rfl : k = n := by omega
        go_wp2_with fail
        go_ret
        exact ⟨rfl, B4⟩

set_option maxRecDepth 100000 in
set_option maxHeartbeats 2000000 in
theorem passTurn_walk (a : Option Addr) (len c : Nat) (w : World) (h : BRow w w.heap.size a len) (hc : len ≤ c) (hn : len ≤ 9223372036854775807) :
    Calls Try.prog 6 #[.slice a len c] w fun e w' => e = .returned (.bool true) ∧ Below w.heap.size w w' := by
  by_cases hlen : 1048576 < len
  · go_enter Try.func6, Try.ntmps6
    go_wp2_with fail
    go_ret
    exact ⟨rfl, Below.refl _ _⟩
  go_enter Try.func6, Try.ntmps6
  go_wp2_with fail
  refine (drawPass_any _ _ _ _ h hc hn).mono ?_
  rintro e w1 ⟨a1, n1, c1, l, hn1, hd, rfl, r1, f1, b1⟩
  cases ho : okRow l with
  | false =>
    have HO := Lib.hid ho
    clear ho
    go_wp2_with fail
    refine (implPass_no _ _ _ _ _ _ r1 (by omega) HO.out).mono ?_
    rintro e w2 ⟨a2, n2, c2, rfl, r2, f2, b2⟩
    go_wp2_with fail
    refine (specPass_no _ _ _ _ _ _ (r1.keep b2) (by omega) HO.out).mono ?_
    rintro e w3 ⟨a3, n3, c3, rfl, r3, f3, b3⟩
    obtain rfl : n3 = n2 := by rw [← r3.len, r2.len]
    have hn3 : n3 ≤ 1048576 := by rw [← r3.len]; exact Nat.zero_le _
    go_wp2_with fail
    refine (sameInts_yes _ _ _ _ _ _ _ _ _ (r2.keep b3) r3 (by omega)).mono ?_
    rintro e w4 ⟨rfl, m4, hw4⟩
    have b4 : Below w3.heap.size w3 w4 := by rw [hw4]; exact below_new _ _
    clear hw4
    go_wp2_with fail
    refine (sameInts_yes _ _ _ _ _ _ _ _ _ ((r2.keep b3).keep b4) (r3.keep b4) (by omega)).mono ?_
    rintro e w5 ⟨rfl, m5, hw5⟩
    have b5 : Below w4.heap.size w4 w5 := by rw [hw5]; exact below_new _ _
    clear hw5
    go_wp2_with fail
    go_ret
    exact ⟨rfl, below2 (below2 (below2 (below2 b1 b2) b3) b4) b5⟩
  | true =>
    have hl1 := (okRow_len ho).1
    rw [r1.len] at hl1
    have HO := Lib.hid ho
    clear ho
    go_wp2_with fail
    refine (implPass_ok _ _ _ _ _ _ r1 HO.out).mono ?_
    rintro e w2 ⟨a2, n2, c2, rfl, r2, f2, b2⟩
    obtain rfl : n2 = n1 := by rw [← r2.len, length_pass, r1.len]
    go_wp2_with fail
    refine (specPass_ok _ _ _ _ _ _ (r1.keep b2) HO.out).mono ?_
    rintro e w3 ⟨a3, n3, c3, rfl, r3, f3, b3⟩
    obtain rfl : n3 = n2 := by rw [← r3.len, r2.len]
    go_wp2_with fail
    refine (sameInts_yes _ _ _ _ _ _ _ _ _ (r2.keep b3) r3 (by omega)).mono ?_
    rintro e w4 ⟨rfl, m4, hw4⟩
    have b4 : Below w3.heap.size w3 w4 := by rw [hw4]; exact below_new _ _
    clear hw4
    have B4 := below2 (below2 (below2 b1 b2) b3) b4
    have q1 := ((r1.keep b2).keep b3).keep b4
    have q2 := (r2.keep b3).keep b4
    obtain ⟨n, hnn⟩ : ∃ n, n = n3 := ⟨_, rfl⟩
    subst hnn
    clear r1 r2 r3 b1 b2 b3 b4 f1 f2 f3
    have HO' := Lib.hid (okRow_reverse HO.out)
    go_wp2_with fail
    refine (reversed_any _ _ _ _ _ _ q1 (by omega)).mono ?_
    rintro e w5 ⟨a5, n5, c5, rfl, r5, f5, b5⟩
    go_wp2_with fail
    refine (implPass_ok _ _ _ _ _ _ r5 HO'.out).mono ?_
    rintro e w6 ⟨a6, n6, c6, rfl, r6, f6, b6⟩
    have q2 := (q2.keep b5).keep b6
    go_wp2_with fail
    refine (reversed_any _ _ _ _ _ _ q2 (by omega)).mono ?_
    rintro e w7 ⟨a7, n7, c7, rfl, r7, f7, b7⟩
    rw [pass_reverse] at r6
    obtain rfl : n6 = n := by rw [← r6.len, List.length_reverse, q2.len]
    obtain rfl : n7 = n6 := by rw [← r7.len, ← r6.len]
    go_wp2_with fail
    refine (sameInts_yes _ _ _ _ _ _ _ _ _ (r6.keep b7) r7 (by omega)).mono ?_
    rintro e w8 ⟨rfl, m8, hw8⟩
    have b8 : Below w7.heap.size w7 w8 := by rw [hw8]; exact below_new _ _
    clear hw8
    go_wp2_with fail
    go_ret
    exact ⟨rfl, below2 (below2 (below2 (below2 B4 b5) b6) b7) b8⟩

end Go.Proofs.Yteopbbolljmghaa
