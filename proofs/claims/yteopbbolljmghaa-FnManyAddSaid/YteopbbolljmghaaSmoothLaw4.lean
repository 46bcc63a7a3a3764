/- The walks of the laws over many passes. -/
import Derived.Test.YteopbbolljmghaaSmooth4
import Derived.Test.YteopbbolljmghaaInts
import Derived.Test.YteopbbolljmghaaDrawRow
namespace Go.Proofs.Yteopbbolljmghaa
open Go.RowKit

def addOne (l : List Int) (k : Nat) : Int := nth l k + 1

set_option maxRecDepth 100000 in
set_option maxHeartbeats 2000000 in
theorem many_walk (a : Option Addr) (len c : Nat) (w : World) (h : BRow w w.heap.size a len) (hc : len ≤ c) (hn : len ≤ 9223372036854775807) :
    Calls Try.prog 11 #[.slice a len c] w fun e w' => e = .returned (.bool true) ∧ Below w.heap.size w w' := by
  by_cases hlen : 1048576 < len
  · go_enter Try.func11, Try.ntmps11
    go_wp2_with fail
    go_ret
    exact ⟨rfl, Below.refl _ _⟩
  go_enter Try.func11, Try.ntmps11
  go_wp2_with fail
  refine (drawMany_any _ _ _ _ h hc hn).mono ?_
  rintro e w1 ⟨a1, n1, c1, l, t, hn1, hd, ht1, ht2, rfl, r1, f1, b1⟩
  by_cases ho : okRow l = true ∧ 0 ≤ t ∧ t ≤ 8
  · obtain ⟨ho, h1, h2⟩ := ho
    obtain ⟨t, rfl⟩ := Int.eq_ofNat_of_zero_le h1
    have ht : t ≤ 8 := by omega
    have hl1 := (okRow_len ho).1
    rw [r1.len] at hl1
    have HO := Lib.hid ho
    clear ho h1 h2 ht1 ht2
    go_wp2_with fail
    refine (implMany_ok _ _ _ _ t _ _ r1 HO.out ht).mono ?_
    rintro e w2 ⟨a2, n2, c2, rfl, r2, f2, b2⟩
    obtain rfl : n2 = n1 := by rw [← r2.len, length_many, r1.len]
    go_wp2_with fail
    refine (specMany_ok _ _ _ _ t _ _ (r1.keep b2) HO.out ht).mono ?_
    rintro e w3 ⟨a3, n3, c3, rfl, r3, f3, b3⟩
    obtain rfl : n3 = n2 := by rw [← r3.len, r2.len]
    go_wp2_with fail
    refine (sameInts_yes _ _ _ _ _ _ _ _ _ (r2.keep b3) r3 (by omega)).mono ?_
    rintro e w4 ⟨rfl, m4, hw4⟩
    have b4 : Below w3.heap.size w3 w4 := by rw [hw4]; exact below_new _ _
    clear hw4
    have B4 := below2 (below2 (below2 b1 b2) b3) b4
    have q1 := ((r1.keep b2).keep b3).keep b4
    have q2 := (r2.keep b3).keep b4
    obtain ⟨n, hnn⟩ : ∃ n, n = n3 := ⟨_, rfl⟩
    subst hnn
    clear r1 r2 r3 b1 b2 b3 b4 f1 f2 f3
    have HB := Lib.hid (big_many HO.out t ht)
    go_wp2_with fail
    refine (implMany_ok _ _ _ _ 0 _ _ q1 HO.out (by omega)).mono ?_
    rintro e w5 ⟨a5, n5, c5, rfl, r5, f5, b5⟩
    obtain rfl : n5 = n := by rw [← r5.len, length_many, q1.len]
    have q1 := q1.keep b5
    have q2 := q2.keep b5
    have B5 := below2 B4 b5
    go_wp2_with fail
    refine (implMany_ok _ _ _ _ 1 _ _ q1 HO.out (by omega)).mono ?_
    rintro e w6 ⟨a6, n6, c6, rfl, r6, f6, b6⟩
    obtain rfl : n6 = n5 := by rw [← r6.len, length_many, q1.len]
    have q1 := q1.keep b6
    have q2 := q2.keep b6
    have r5 := r5.keep b6
    have B6 := below2 B5 b6
    go_wp2_with fail
    refine (implPass_ok _ _ _ _ _ _ q1 HO.out).mono ?_
    rintro e w7 ⟨a7, n7, c7, rfl, r7, f7, b7⟩
    obtain rfl : n7 = n6 := by rw [← r7.len, length_pass, q1.len]
    have q1 := q1.keep b7
    have q2 := q2.keep b7
    have r5 := r5.keep b7
    have r6 := r6.keep b7
    have B7 := below2 B6 b7
    obtain ⟨s, hs⟩ : ∃ s, total l = s := ⟨_, rfl⟩
    have HS := Lib.hid hs
    clear hs
    go_wp2_with fail
    refine (implSum_ok _ _ _ _ _ _ q1 HO.out).mono ?_
    rw [HS.out]
    rintro e w' ⟨rfl, rfl⟩

    go_wp2_with fail
    go_loop [17, 18] (fun p k => ∃ j : Nat, j ≤ t ∧ k = .int .i64 j ∧ p = .int .i64 ((4 : Int) ^ j)) (fun _ k => 9 - (intOf k).toNat)
    case atStart => exact ⟨0, Nat.zero_le _, rfl, rfl⟩
    case round =>
      obtain ⟨j, hj, rfl, rfl⟩ := hrel
      have hpb := four_pow_bd j (by omega)
      by_cases hlt : j < t
      · have EP : Hid ((4 : Int) ^ (j + 1) = 4 * (4 : Int) ^ j) := by
          show (4 : Int) ^ (j + 1) = 4 * (4 : Int) ^ j
          rw [Int.pow_succ, Int.mul_comm]
        obtain ⟨P, hP⟩ : ∃ P, (4 : Int) ^ j = P := ⟨_, rfl⟩
        rw [hP] at hpb EP
        rw [hP]
        clear hP
        go_wp2_with fail
        go_round
        case rel => exact ⟨j + 1, by omega, by go_num, by rw [EP.out]⟩
        case measure => simp [intOf]; omega
      · obtain rfl : t = j := by omega
        obtain ⟨P, hP⟩ : ∃ P, (4 : Int) ^ t = P := ⟨_, rfl⟩
        rw [hP] at hpb
        rw [hP]
        have HP := Lib.hid hP
        clear hP hlt hj
        have hE : total (many l t) = P * s := by rw [total_many, HS.out, HP.out]
        have hEb : -(1000000000 * n7) ≤ P * s ∧ P * s ≤ 1000000000 * n7 := by rw [← hE]; unfold total; rw [length_many, q1.len]; exact big_sum HB.out n7
        have HE := Lib.hid hE
        clear hE
        go_wp2_with fail
        refine (sameInts_yes _ _ _ _ _ _ _ _ _ r5 q1 (by omega)).mono ?_
        rintro e w8 ⟨rfl, m8, hw8⟩
        have b8 : Below w7.heap.size w7 w8 := by rw [hw8]; exact below_new _ _
        clear hw8
        go_wp2_with fail
        refine (sameInts_yes _ _ _ _ _ _ _ _ _ (r6.keep b8) (r7.keep b8) (by omega)).mono ?_
        rintro e w9 ⟨rfl, m9, hw9⟩
        have b9 : Below w8.heap.size w8 w9 := by rw [hw9]; exact below_new _ _
        clear hw9
        have B9 := below2 (below2 B7 b8) b9
        go_wp2_with fail
        refine (sumOf_any _ _ _ _ _ _ ((q2.keep b8).keep b9) (by omega) HB.out).mono ?_
        rw [HE.out]
        rintro e w' ⟨rfl, rfl⟩
        go_wp2_with fail
        go_ret
        exact ⟨rfl, B9⟩
  · have HO : Hid (okRow l = false ∨ ¬ (0 ≤ t ∧ t ≤ 8)) := by
      show okRow l = false ∨ ¬ (0 ≤ t ∧ t ≤ 8)
      cases e : okRow l with
      | false => exact .inl rfl
      | true => exact .inr (fun hh => ho ⟨e, hh⟩)
    clear ho
    go_wp2_with fail
    refine (implMany_no _ _ _ _ t _ _ r1 (by omega) HO.out).mono ?_
    rintro e w2 ⟨a2, n2, c2, rfl, r2, f2, b2⟩
    go_wp2_with fail
    refine (specMany_no _ _ _ _ t _ _ (r1.keep b2) (by omega) HO.out).mono ?_
    rintro e w3 ⟨a3, n3, c3, rfl, r3, f3, b3⟩
    obtain rfl : n3 = n2 := by rw [← r3.len, r2.len]
    have hn3 : n3 ≤ 1048576 := by rw [← r3.len]; exact Nat.zero_le _
    go_wp2_with fail
    refine (sameInts_yes _ _ _ _ _ _ _ _ _ (r2.keep b3) r3 (by omega)).mono ?_
    rintro e w4 ⟨rfl, m4, hw4⟩
    have b4 : Below w3.heap.size w3 w4 := by rw [hw4]; exact below_new _ _
    clear hw4
    go_wp2_with fail
    refine (sameInts_yes _ _ _ _ _ _ _ _ _ ((r2.keep b3).keep b4) (r3.keep b4) (by omega)).mono ?_
    rintro e w5 ⟨rfl, m5, hw5⟩
    have b5 : Below w4.heap.size w4 w5 := by rw [hw5]; exact below_new _ _
    clear hw5
    go_wp2_with fail
    go_ret
    exact ⟨rfl, below2 (below2 (below2 (below2 b1 b2) b3) b4) b5⟩

set_option maxRecDepth 100000 in
set_option maxHeartbeats 2000000 in
theorem manyRange_walk (a : Option Addr) (len c : Nat) (w : World) (h : BRow w w.heap.size a len) (hc : len ≤ c) (hn : len ≤ 9223372036854775807) :
    Calls Try.prog 3 #[.slice a len c] w fun e w' => e = .returned (.bool true) ∧ Below w.heap.size w w' := by
  by_cases hlen : 1048576 < len
  · go_enter Try.func3, Try.ntmps3
    go_wp2_with fail
    go_ret
    exact ⟨rfl, Below.refl _ _⟩
  go_enter Try.func3, Try.ntmps3
  go_wp2_with fail
  refine (drawMany_any _ _ _ _ h hc hn).mono ?_
  rintro e w1 ⟨a1, n1, c1, l, t, hn1, hd, ht1, ht2, rfl, r1, f1, b1⟩
  by_cases ho : okRow l = true ∧ 0 ≤ t ∧ t ≤ 8
  · obtain ⟨ho, h1, h2⟩ := ho
    obtain ⟨t, rfl⟩ := Int.eq_ofNat_of_zero_le h1
    have ht : t ≤ 8 := by omega
    have hl1 := (okRow_len ho).1
    rw [r1.len] at hl1
    have HO := Lib.hid ho
    clear ho h1 h2 ht1 ht2
    go_wp2_with fail
    refine (implMany_ok _ _ _ _ t _ _ r1 HO.out ht).mono ?_
    rintro e w2 ⟨a2, n2, c2, rfl, r2, f2, b2⟩
    obtain rfl : n2 = n1 := by rw [← r2.len, length_many, r1.len]
    go_wp2_with fail
    refine (specMany_ok _ _ _ _ t _ _ (r1.keep b2) HO.out ht).mono ?_
    rintro e w3 ⟨a3, n3, c3, rfl, r3, f3, b3⟩
    obtain rfl : n3 = n2 := by rw [← r3.len, r2.len]
    go_wp2_with fail
    refine (sameInts_yes _ _ _ _ _ _ _ _ _ (r2.keep b3) r3 (by omega)).mono ?_
    rintro e w4 ⟨rfl, m4, hw4⟩
    have b4 : Below w3.heap.size w3 w4 := by rw [hw4]; exact below_new _ _
    clear hw4
    have B4 := below2 (below2 (below2 b1 b2) b3) b4
    have q1 := ((r1.keep b2).keep b3).keep b4
    have q2 := (r2.keep b3).keep b4
    obtain ⟨n, hnn⟩ : ∃ n, n = n3 := ⟨_, rfl⟩
    subst hnn
    clear r1 r2 r3 b1 b2 b3 b4 f1 f2 f3
    have HB := Lib.hid (big_many HO.out t ht)
    have hrr := row_range HO.out
    have HV : Hid (∀ k, k < n → 4 ^ t * low l ≤ nth (many l t) k ∧ nth (many l t) k ≤ 4 ^ t * high l) := fun k hk =>
      many_range (fun k hk => ⟨low_le l k hk, high_ge l k hk⟩) t k (by rw [q1.len]; exact hk)
    have HR := Lib.hid (rough_many l t)
    obtain ⟨r, hr⟩ : ∃ r, rough l = r := ⟨_, rfl⟩
    have hrb : 0 ≤ r ∧ r ≤ 20000 * ((n - 1 : Nat) : Int) := by rw [← hr]; unfold rough; rw [q1.len]; exact rough_bd HO.out (n - 1)
    rw [hr] at HR
    have HRL := Lib.hid hr
    obtain ⟨p, hp⟩ : ∃ p, low l = p := ⟨_, rfl⟩
    obtain ⟨q, hq⟩ : ∃ q, high l = q := ⟨_, rfl⟩
    rw [hp, hq] at HV hrr
    have HPL := Lib.hid hp
    have HQL := Lib.hid hq
    clear hp hq hr
    go_wp2_with fail
    refine (implRange_ok _ _ _ _ _ _ q1 HO.out).mono ?_
    rw [HPL.out, HQL.out]
    rintro e w' ⟨rfl, rfl⟩
    have Q1 := Lib.hid q1
    have Q2 := Lib.hid q2
    clear q1 q2

    go_wp2_with fail
    go_loop [12, 13] (fun p k => ∃ j : Nat, j ≤ t ∧ k = .int .i64 j ∧ p = .int .i64 ((4 : Int) ^ j)) (fun _ k => 9 - (intOf k).toNat)
    case atStart => exact ⟨0, Nat.zero_le _, rfl, rfl⟩
    case round =>
      obtain ⟨j, hj, rfl, rfl⟩ := hrel
      have hpb := four_pow_bd j (by omega)
      by_cases hlt : j < t
      · have EP : Hid ((4 : Int) ^ (j + 1) = 4 * (4 : Int) ^ j) := by
          show (4 : Int) ^ (j + 1) = 4 * (4 : Int) ^ j
          rw [Int.pow_succ, Int.mul_comm]
        obtain ⟨P, hP⟩ : ∃ P, (4 : Int) ^ j = P := ⟨_, rfl⟩
        rw [hP] at hpb EP
        rw [hP]
        clear hP
        go_wp2_with fail
        go_round
        case rel => exact ⟨j + 1, by omega, by go_num, by rw [EP.out]⟩
        case measure => simp [intOf]; omega
      · obtain rfl : t = j := by omega
        obtain ⟨P, hP⟩ : ∃ P, (4 : Int) ^ t = P := ⟨_, rfl⟩
        rw [hP] at hpb
        rw [hP]
        have HP := Lib.hid hP
        clear hP hlt hj
        rw [HP.out] at HV HR
        have hm1 := mul_in P p 10000 hpb.1 hpb.2 hrr.1 hrr.2.1 (by omega)
        have hm2 := mul_in P q 10000 hpb.1 hpb.2 hrr.2.2.1 hrr.2.2.2 (by omega)
        have hm3 := mul_in P r 200000 hpb.1 hpb.2 (by omega) (by omega) (by omega)
        go_wp2_with fail
        go_loop [14] (fun i => ∃ k : Nat, k ≤ n ∧ i = .int .i64 k) (fun i => n - (intOf i).toNat)
        case atStart => exact ⟨0, Nat.zero_le _, rfl⟩
        case round =>
          obtain ⟨k, hk, rfl⟩ := hrel
          by_cases hlt : k < n
          · obtain ⟨g, off, rfl, _, hg, hcell⟩ := Q2.out.at_ hlt
            have hv := HV.out k hlt
            obtain ⟨x, hx⟩ : ∃ x, nth (many l t) k = x := ⟨_, rfl⟩
            rw [hx] at hv hcell
            clear hx
            obtain ⟨hv1, hv2⟩ := hv
            go_wp2_with fail
            go_round
            case rel => exact ⟨k + 1, by omega, by go_num⟩
            case measure => simp [intOf]; omega
          · obtain rfl : n = k := by omega
            obtain ⟨s, hs⟩ : ∃ s, rough (many l t) = s := ⟨_, rfl⟩
            have hle : s ≤ P * r := by rw [← hs]; exact HR.out
            have HSL := Lib.hid hs
            clear hs
            go_wp2_with fail
            refine (roughOf_any _ _ _ _ _ _ Q2.out (by omega) (by omega) HB.out).mono ?_
            rw [HSL.out]
            rintro e w5 ⟨rfl, m5, hw5⟩
            have b5 : Below w4.heap.size w4 w5 := by rw [hw5]; exact below_new _ _
            clear hw5
            go_wp2_with fail
            refine (implRough_ok _ _ _ _ _ _ (Q1.out.keep b5) HO.out).mono ?_
            rw [HRL.out]
            rintro e w6 ⟨rfl, m6, hw6⟩
            have b6 : Below w5.heap.size w5 w6 := by rw [hw6]; exact below_new _ _
            clear hw6
            go_wp2_with fail
            go_ret
            exact ⟨rfl, below2 (below2 B4 b5) b6⟩
  · have HO : Hid (okRow l = false ∨ ¬ (0 ≤ t ∧ t ≤ 8)) := by
      show okRow l = false ∨ ¬ (0 ≤ t ∧ t ≤ 8)
      cases e : okRow l with
      | false => exact .inl rfl
      | true => exact .inr (fun hh => ho ⟨e, hh⟩)
    clear ho
    go_wp2_with fail
    refine (implMany_no _ _ _ _ t _ _ r1 (by omega) HO.out).mono ?_
    rintro e w2 ⟨a2, n2, c2, rfl, r2, f2, b2⟩
    go_wp2_with fail
    refine (specMany_no _ _ _ _ t _ _ (r1.keep b2) (by omega) HO.out).mono ?_
    rintro e w3 ⟨a3, n3, c3, rfl, r3, f3, b3⟩
    obtain rfl : n3 = n2 := by rw [← r3.len, r2.len]
    have hn3 : n3 ≤ 1048576 := by rw [← r3.len]; exact Nat.zero_le _
    go_wp2_with fail
    refine (sameInts_yes _ _ _ _ _ _ _ _ _ (r2.keep b3) r3 (by omega)).mono ?_
    rintro e w4 ⟨rfl, m4, hw4⟩
    have b4 : Below w3.heap.size w3 w4 := by rw [hw4]; exact below_new _ _
    clear hw4
    go_wp2_with fail
    refine (sameInts_yes _ _ _ _ _ _ _ _ _ ((r2.keep b3).keep b4) (r3.keep b4) (by omega)).mono ?_
    rintro e w5 ⟨rfl, m5, hw5⟩
    have b5 : Below w4.heap.size w4 w5 := by rw [hw5]; exact below_new _ _
    clear hw5
    go_wp2_with fail
    go_ret
    exact ⟨rfl, below2 (below2 (below2 (below2 b1 b2) b3) b4) b5⟩

set_option maxRecDepth 100000 in
set_option maxHeartbeats 2000000 in
theorem manyAdd_walk (a : Option Addr) (len c : Nat) (w : World) (h : BRow w w.heap.size a len) (hc : len ≤ c) (hn : len ≤ 9223372036854775807) :
    Calls Try.prog 4 #[.slice a len c] w fun e w' => e = .returned (.bool true) ∧ Below w.heap.size w w' := by
  by_cases hlen : 1048576 < len
  · go_enter Try.func4, Try.ntmps4
    go_wp2_with fail
    go_ret
    exact ⟨rfl, Below.refl _ _⟩
  go_enter Try.func4, Try.ntmps4
  go_wp2_with fail
  refine (drawMany_any _ _ _ _ h hc hn).mono ?_
  rintro e w1 ⟨a1, n1, c1, l, t, hn1, hd, ht1, ht2, rfl, r1, f1, b1⟩
  by_cases ho : okRow l = true ∧ 0 ≤ t ∧ t ≤ 8
  · obtain ⟨ho, h1, h2⟩ := ho
    obtain ⟨t, rfl⟩ := Int.eq_ofNat_of_zero_le h1
    have ht : t ≤ 8 := by omega
    have hl1 := (okRow_len ho).1
    rw [r1.len] at hl1
    have HO := Lib.hid ho
    clear ho h1 h2 ht1 ht2
    go_wp2_with fail
    refine (implMany_ok _ _ _ _ t _ _ r1 HO.out ht).mono ?_
    rintro e w2 ⟨a2, n2, c2, rfl, r2, f2, b2⟩
    obtain rfl : n2 = n1 := by rw [← r2.len, length_many, r1.len]
    go_wp2_with fail
    refine (specMany_ok _ _ _ _ t _ _ (r1.keep b2) HO.out ht).mono ?_
    rintro e w3 ⟨a3, n3, c3, rfl, r3, f3, b3⟩
    obtain rfl : n3 = n2 := by rw [← r3.len, r2.len]
    go_wp2_with fail
    refine (sameInts_yes _ _ _ _ _ _ _ _ _ (r2.keep b3) r3 (by omega)).mono ?_
    rintro e w4 ⟨rfl, m4, hw4⟩
    have b4 : Below w3.heap.size w3 w4 := by rw [hw4]; exact below_new _ _
    clear hw4
    have B4 := below2 (below2 (below2 b1 b2) b3) b4
    have q1 := ((r1.keep b2).keep b3).keep b4
    have q2 := (r2.keep b3).keep b4
    obtain ⟨n, hnn⟩ : ∃ n, n = n3 := ⟨_, rfl⟩
    subst hnn
    clear r1 r2 r3 b1 b2 b3 b4 f1 f2 f3
    have Q1 := Lib.hid q1
    have Q2 := Lib.hid q2
    clear q1 q2

    go_wp2_with fail
    go_loopw [9, 10] (fun v i wr => ∃ k : Nat, k ≤ n ∧ i = .int .i64 k ∧ wr.ownsRow w4.heap.size 3 1 v k ((mapTo (addOne l) k).map (Value.int .i64)) ∧ Below w4.heap.size w4 wr) (fun _ i _ => n - (intOf i).toNat)
    case atStart => exact ⟨0, Nat.zero_le _, rfl, World.ownsRow_lit w4 _ 0 (Nat.le_refl _) (by unfold maxLen; omega) rfl, (Below.refl _ _).alloc (Nat.le_refl _) _⟩
    case round =>
      obtain ⟨k, hk, rfl, hown, hbr⟩ := hrel
      by_cases hlt : k < n
      · obtain ⟨g, off, rfl, _, hg, hcell⟩ := (Q1.out.keep hbr).at_ hlt
        have hv := okRow_nth HO.out k
        obtain ⟨x, hx⟩ : ∃ x, nth l k = x := ⟨_, rfl⟩
        have EV : Hid (addOne l k = x + 1) := by show nth l k + 1 = _; rw [hx]
        rw [hx] at hv hcell
        clear hx
        go_wp2_with (at_builtin; refine wpList_append_int _ rfl _ _ rfl w4.heap.size _ _ _ rfl (x + 1) wr.heap.size rfl (hown.alloc _) (by simp) (by omega) (by have := hbr.size; simp; omega) ?_; intro v' w5 hown5 hgrow5)
        go_roundw
        case rel => exact ⟨k + 1, by omega, by go_num, by rw [mapTo_succ, EV.out]; exact hown5, below_append hbr hbr.size hown hgrow5⟩
        case measure => simp [intOf]; omega
      · obtain rfl : n = k := by omega
        obtain ⟨ax, cx, hvx, rx, fx⟩ := IRow.of_own hown
        subst hvx
        obtain ⟨wx, hwx⟩ : ∃ wx : World, wx = wr := ⟨_, rfl⟩
        subst hwx
        clear hlt hk hown
        have HX : Hid (∀ k, k < n → nth (mapTo (addOne l) n) k = nth l k + 1) := fun k hk => nth_mapTo _ _ _ hk
        have HXL : Hid ((mapTo (addOne l) n).length = l.length) := by show (mapTo (addOne l) n).length = l.length; rw [mapTo_len, Q1.out.len]
        obtain ⟨X, hX⟩ : ∃ X, mapTo (addOne l) n = X := ⟨_, rfl⟩
        rw [hX] at HX HXL rx
        clear hX
        cases hox : okRow X with
        | false =>
          have HOX := Lib.hid hox
          clear hox
          go_wp2_with fail
          refine (implMany_no _ _ _ _ t _ _ rx (by omega) (.inl HOX.out)).mono ?_
          rintro e w6 ⟨a6, n6, c6, rfl, r6, f6, b6⟩
          obtain rfl : n6 = 0 := r6.len.symm
          have B6 := below2 (below2 B4 hbr) b6
          go_wp2_with fail
          go_loop [13, 14] (fun p k => ∃ j : Nat, j ≤ t ∧ k = .int .i64 j ∧ p = .int .i64 ((4 : Int) ^ j)) (fun _ k => 9 - (intOf k).toNat)
          case atStart => exact ⟨0, Nat.zero_le _, rfl, rfl⟩
          case round =>
            obtain ⟨j, hj, rfl, rfl⟩ := hrel
            have hpb := four_pow_bd j (by omega)
            by_cases hlt : j < t
            · have EP : Hid ((4 : Int) ^ (j + 1) = 4 * (4 : Int) ^ j) := by
                show (4 : Int) ^ (j + 1) = 4 * (4 : Int) ^ j
                rw [Int.pow_succ, Int.mul_comm]
              obtain ⟨P, hP⟩ : ∃ P, (4 : Int) ^ j = P := ⟨_, rfl⟩
              rw [hP] at hpb EP
              rw [hP]
              clear hP
              go_wp2_with fail
              go_round
              case rel => exact ⟨j + 1, by omega, by go_num, by rw [EP.out]⟩
              case measure => simp [intOf]; omega
            · obtain rfl : t = j := by omega
              obtain ⟨P, hP⟩ : ∃ P, (4 : Int) ^ t = P := ⟨_, rfl⟩
              rw [hP] at hpb
              rw [hP]
              have HP := Lib.hid hP
              clear hP hlt hj
              go_wp2_with fail
              go_loop [15] (fun i => i = .int .i64 0) (fun _ => 0)
              case atStart => rfl
              case round =>
                subst hrel
                go_wp2_with fail
                go_ret
                exact ⟨rfl, B6⟩
        | true =>
          have HOX := Lib.hid hox
          clear hox
          go_wp2_with fail
          refine (implMany_ok _ _ _ _ t _ _ rx HOX.out ht).mono ?_
          rintro e w6 ⟨a6, n6, c6, rfl, r6, f6, b6⟩
          obtain rfl : n6 = n := by rw [← r6.len, length_many, HXL.out, Q1.out.len]
          have B6 := below2 (below2 B4 hbr) b6
          have q2 := (Q2.out.keep hbr).keep b6
          have Q6 := Lib.hid q2
          have R6 := Lib.hid r6
          have HS6 := Lib.hid (small_many HO.out t ht)
          clear q2 r6
          go_wp2_with fail
          go_loop [13, 14] (fun p k => ∃ j : Nat, j ≤ t ∧ k = .int .i64 j ∧ p = .int .i64 ((4 : Int) ^ j)) (fun _ k => 9 - (intOf k).toNat)
          case atStart => exact ⟨0, Nat.zero_le _, rfl, rfl⟩
          case round =>
            obtain ⟨j, hj, rfl, rfl⟩ := hrel
            have hpb := four_pow_bd j (by omega)
            by_cases hlt : j < t
            · have EP : Hid ((4 : Int) ^ (j + 1) = 4 * (4 : Int) ^ j) := by
                show (4 : Int) ^ (j + 1) = 4 * (4 : Int) ^ j
                rw [Int.pow_succ, Int.mul_comm]
              obtain ⟨P, hP⟩ : ∃ P, (4 : Int) ^ j = P := ⟨_, rfl⟩
              rw [hP] at hpb EP
              rw [hP]
              clear hP
              go_wp2_with fail
              go_round
              case rel => exact ⟨j + 1, by omega, by go_num, by rw [EP.out]⟩
              case measure => simp [intOf]; omega
            · obtain rfl : t = j := by omega
              obtain ⟨P, hP⟩ : ∃ P, (4 : Int) ^ t = P := ⟨_, rfl⟩
              rw [hP] at hpb
              rw [hP]
              have HP := Lib.hid hP
              clear hP hlt hj
              have HM : Hid (∀ k, k < n6 → nth (many X t) k = nth (many l t) k + P) := fun k hk => by
                rw [← HP.out]
                exact many_shift l X HXL.out (fun k hk => HX.out k (by rw [← Q1.out.len]; exact hk)) t k (by rw [Q1.out.len]; exact hk)
              go_wp2_with fail
              go_loopw [15] (fun i wr => ∃ k m : Nat, k ≤ n6 ∧ i = .int .i64 k ∧ wr = w6.drewN m) (fun i _ => n6 - (intOf i).toNat)
              case atStart => exact ⟨0, 0, Nat.zero_le _, rfl, rfl⟩
              case round =>
                obtain ⟨k, m, hk, rfl, rfl⟩ := hrel
                by_cases hlt : k < n6
                · obtain ⟨g, off, rfl, _, hg, hcell⟩ := R6.out.at_ hlt
                  obtain ⟨g', off', rfl, _, hg', hcell'⟩ := Q6.out.at_ hlt
                  rw [HM.out k hlt] at hcell
                  have hv := HS6.out k
                  obtain ⟨x, hx⟩ : ∃ x, nth (many l t) k = x := ⟨_, rfl⟩
                  rw [hx] at hv hcell hcell'
                  clear hx
                  have s1 : IntKind.i64.wrap (x + P) = x + P := IntWalk.i64_in _ (by omega)
                  have n1 : (0 : Int) ≤ k := by omega
                  have n2 : (k : Int) < n6 := by omega
                  go_wp2_with fail
                  go_quiet (fail)
                  clear s1 n1 n2
                  go_wp2_with fail
                  go_roundw
                  case rel => exact ⟨k + 1, _, by omega, by go_num, rfl⟩
                  case measure => simp [intOf]; omega
                · obtain rfl : n6 = k := by omega
                  go_wp2_with fail
                  go_ret
                  exact ⟨rfl, below_drewN B6 m⟩
  · have HO : Hid (okRow l = false ∨ ¬ (0 ≤ t ∧ t ≤ 8)) := by
      show okRow l = false ∨ ¬ (0 ≤ t ∧ t ≤ 8)
      cases e : okRow l with
      | false => exact .inl rfl
      | true => exact .inr (fun hh => ho ⟨e, hh⟩)
    clear ho
    go_wp2_with fail
    refine (implMany_no _ _ _ _ t _ _ r1 (by omega) HO.out).mono ?_
    rintro e w2 ⟨a2, n2, c2, rfl, r2, f2, b2⟩
    go_wp2_with fail
    refine (specMany_no _ _ _ _ t _ _ (r1.keep b2) (by omega) HO.out).mono ?_
    rintro e w3 ⟨a3, n3, c3, rfl, r3, f3, b3⟩
    obtain rfl : n3 = n2 := by rw [← r3.len, r2.len]
    have hn3 : n3 ≤ 1048576 := by rw [← r3.len]; exact Nat.zero_le _
    go_wp2_with fail
    refine (sameInts_yes _ _ _ _ _ _ _ _ _ (r2.keep b3) r3 (by omega)).mono ?_
    rintro e w4 ⟨rfl, m4, hw4⟩
    have b4 : Below w3.heap.size w3 w4 := by rw [hw4]; exact below_new _ _
    clear hw4
    go_wp2_with fail
    refine (sameInts_yes _ _ _ _ _ _ _ _ _ ((r2.keep b3).keep b4) (r3.keep b4) (by omega)).mono ?_
    rintro e w5 ⟨rfl, m5, hw5⟩
    have b5 : Below w4.heap.size w4 w5 := by rw [hw5]; exact below_new _ _
    clear hw5
    go_wp2_with fail
    go_ret
    exact ⟨rfl, below2 (below2 (below2 (below2 b1 b2) b3) b4) b5⟩

end Go.Proofs.Yteopbbolljmghaa
