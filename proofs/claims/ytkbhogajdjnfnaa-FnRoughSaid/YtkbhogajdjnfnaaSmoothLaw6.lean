/- The walks of the laws on sums, ranges and roughness. -/
import Derived.Test.YtkbhogajdjnfnaaSmooth4
import Derived.Test.YtkbhogajdjnfnaaInts
import Derived.Test.YtkbhogajdjnfnaaDrawRow
namespace Go.Proofs.Ytkbhogajdjnfnaa
open Go.RowKit

/-- Is z among the first k numbers? -/
def seen (l : List Int) (z : Int) : Nat → Bool
  | 0 => false
  | k + 1 => seen l z k || nth l k == z
theorem seen_at (l : List Int) (z : Int) (n k : Nat) (hk : k < n) (e : nth l k = z) : seen l z n = true := by
  induction n with
  | zero => omega
  | succ n ih =>
    rw [seen]
    by_cases h : k = n
    · subst h; simp [e]
    · rw [ih (by omega)]; rfl

set_option maxRecDepth 100000 in
set_option maxHeartbeats 2000000 in
theorem sum_walk (a : Option Addr) (len c : Nat) (w : World) (h : BRow w w.heap.size a len) (hc : len ≤ c) (hn : len ≤ 9223372036854775807) :
    Calls Try.prog 8 #[.slice a len c] w fun e w' => e = .returned (.bool true) ∧ Below w.heap.size w w' := by
  by_cases hlen : 1048576 < len
  · go_enter Try.func8, Try.ntmps8
    go_wp2_with fail
    go_ret
    exact ⟨rfl, Below.refl _ _⟩
  go_enter Try.func8, Try.ntmps8
  go_wp2_with fail
  refine (drawSum_any _ _ _ _ h hc hn).mono ?_
  rintro e w1 ⟨a1, n1, c1, l, hn1, hd, rfl, r1, f1, b1⟩
  cases ho : okRow l with
  | false =>
    have HO := Lib.hid ho
    clear ho
    go_wp2_with fail
    refine (implSum_no _ _ _ _ _ _ r1 (by omega) HO.out).mono ?_
    rintro e w' ⟨rfl, rfl⟩
    go_wp2_with fail
    refine (specSum_no _ _ _ _ _ _ r1 (by omega) HO.out).mono ?_
    rintro e w' ⟨rfl, rfl⟩
    go_wp2_with fail
    go_ret
    exact ⟨rfl, b1⟩
  | true =>
    have hl1 := (okRow_len ho).1
    rw [r1.len] at hl1
    obtain ⟨s, hs⟩ : ∃ s, total l = s := ⟨_, rfl⟩
    have hsb : -(10000 * n1) ≤ s ∧ s ≤ 10000 * n1 := by rw [← hs]; unfold total; rw [r1.len]; exact sum_bd ho n1
    have HEQ : Hid (total l = s) := hs
    clear hs
    have HO := Lib.hid ho
    clear ho
    go_wp2_with fail
    refine (implSum_ok _ _ _ _ _ _ r1 HO.out).mono ?_
    rw [HEQ.out]
    rintro e w' ⟨rfl, rfl⟩
    go_wp2_with fail
    refine (specSum_ok _ _ _ _ _ _ r1 HO.out).mono ?_
    rw [HEQ.out]
    rintro e w' ⟨rfl, rfl⟩
    obtain ⟨n, hnn⟩ : ∃ n, n = n1 := ⟨_, rfl⟩
    subst hnn
    have HO' := Lib.hid (okRow_reverse HO.out)
    have HT' : Hid (total l.reverse = s) := by show total l.reverse = s; rw [total_reverse]; exact HEQ.out
    have hrr := row_range HO.out
    have htr := total_range l
    rw [HEQ.out, r1.len] at htr
    obtain ⟨p, hp⟩ : ∃ p, low l = p := ⟨_, rfl⟩
    obtain ⟨q, hq⟩ : ∃ q, high l = q := ⟨_, rfl⟩
    rw [hp, hq] at hrr htr
    have HPL := Lib.hid hp
    have HQL := Lib.hid hq
    clear hp hq
    obtain ⟨htr1, htr2⟩ := htr
    have hm1 : -70000 ≤ p * n ∧ p * n ≤ 70000 := by
      have a := Int.mul_le_mul_of_nonneg_right hrr.1 (show (0 : Int) ≤ n by omega)
      have b := Int.mul_le_mul_of_nonneg_right hrr.2.1 (show (0 : Int) ≤ n by omega)
      omega
    have hm2 : -70000 ≤ q * n ∧ q * n ≤ 70000 := by
      have a := Int.mul_le_mul_of_nonneg_right hrr.2.2.1 (show (0 : Int) ≤ n by omega)
      have b := Int.mul_le_mul_of_nonneg_right hrr.2.2.2 (show (0 : Int) ≤ n by omega)
      omega
    go_wp2_with fail
    refine (reversed_any _ _ _ _ _ _ r1 (by omega)).mono ?_
    rintro e w5 ⟨a5, n5, c5, rfl, r5, f5, b5⟩
    go_wp2_with fail
    refine (implSum_ok _ _ _ _ _ _ r5 HO'.out).mono ?_
    rw [HT'.out]
    rintro e w' ⟨rfl, rfl⟩
    go_wp2_with fail
    refine (implRange_ok _ _ _ _ _ _ (r1.keep b5) HO.out).mono ?_
    rw [HPL.out, HQL.out]
    rintro e w' ⟨rfl, rfl⟩
    go_wp2_with fail
    go_ret
    exact ⟨rfl, below2 b1 b5⟩

set_option maxRecDepth 100000 in
set_option maxHeartbeats 2000000 in
theorem range_walk (a : Option Addr) (len c : Nat) (w : World) (h : BRow w w.heap.size a len) (hc : len ≤ c) (hn : len ≤ 9223372036854775807) :
    Calls Try.prog 7 #[.slice a len c] w fun e w' => e = .returned (.bool true) ∧ Below w.heap.size w w' := by
  by_cases hlen : 1048576 < len
  · go_enter Try.func7, Try.ntmps7
    go_wp2_with fail
    go_ret
    exact ⟨rfl, Below.refl _ _⟩
  go_enter Try.func7, Try.ntmps7
  go_wp2_with fail
  refine (drawRange_any _ _ _ _ h hc hn).mono ?_
  rintro e w1 ⟨a1, n1, c1, l, hn1, hd, rfl, r1, f1, b1⟩
  cases ho : okRow l with
  | false =>
    have HO := Lib.hid ho
    clear ho
    go_wp2_with fail
    refine (implRange_no _ _ _ _ _ _ r1 (by omega) HO.out).mono ?_
    rintro e w' ⟨rfl, rfl⟩
    go_wp2_with fail
    refine (specRange_no _ _ _ _ _ _ r1 (by omega) HO.out).mono ?_
    rintro e w' ⟨rfl, rfl⟩
    go_wp2_with fail
    go_ret
    exact ⟨rfl, b1⟩
  | true =>
    have hl1 := (okRow_len ho).1
    rw [r1.len] at hl1
    obtain ⟨p, hp⟩ : ∃ p, low l = p := ⟨_, rfl⟩
    obtain ⟨q, hq⟩ : ∃ q, high l = q := ⟨_, rfl⟩
    have HEQ : Hid (low l = p ∧ high l = q) := ⟨hp, hq⟩
    have hrr := row_range ho
    rw [hp, hq] at hrr
    clear hp hq
    have HO := Lib.hid ho
    clear ho
    go_wp2_with fail
    refine (implRange_ok _ _ _ _ _ _ r1 HO.out).mono ?_
    rw [HEQ.out.1, HEQ.out.2]
    rintro e w' ⟨rfl, rfl⟩
    go_wp2_with fail
    refine (specRange_ok _ _ _ _ _ _ r1 HO.out).mono ?_
    rw [HEQ.out.1, HEQ.out.2]
    rintro e w' ⟨rfl, rfl⟩
    obtain ⟨n, hnn⟩ : ∃ n, n = n1 := ⟨_, rfl⟩
    subst hnn
    have HV : Hid (∀ k, k < n → p ≤ nth l k ∧ nth l k ≤ q) := fun k hk => by
      rw [← HEQ.out.1, ← HEQ.out.2]
      exact ⟨low_le l k (by rw [r1.len]; exact hk), high_ge l k (by rw [r1.len]; exact hk)⟩
    have HL : Hid (∃ k, k < n ∧ nth l k = p) := by
      obtain ⟨k, hk, e⟩ := low_at l (by rw [r1.len]; omega)
      exact ⟨k, by rw [← r1.len]; exact hk, by rw [e]; exact HEQ.out.1⟩
    have HH : Hid (∃ k, k < n ∧ nth l k = q) := by
      obtain ⟨k, hk, e⟩ := high_at l (by rw [r1.len]; omega)
      exact ⟨k, by rw [← r1.len]; exact hk, by rw [e]; exact HEQ.out.2⟩
    have R1 := Lib.hid r1
    clear r1
    go_wp2_with fail
    go_loop [10, 11, 12] (fun x y i => ∃ k : Nat, k ≤ n ∧ i = .int .i64 k ∧ x = .bool (seen l p k) ∧ y = .bool (seen l q k)) (fun _ _ i => n - (intOf i).toNat)
    case atStart => exact ⟨0, Nat.zero_le _, rfl, rfl, rfl⟩
    case round =>
      obtain ⟨k, hk, rfl, rfl, rfl⟩ := hrel
      by_cases hlt : k < n
      · obtain ⟨g, off, rfl, _, hg, hcell⟩ := R1.out.at_ hlt
        have hv := HV.out k hlt
        have F1 : Hid (seen l p (k + 1) = (seen l p k || nth l k == p)) := rfl
        have F2 : Hid (seen l q (k + 1) = (seen l q k || nth l k == q)) := rfl
        obtain ⟨x, hx⟩ : ∃ x, nth l k = x := ⟨_, rfl⟩
        rw [hx] at hv hcell F1 F2
        clear hx
        obtain ⟨hv1, hv2⟩ := hv
        cases hb1 : seen l p k with
        | true =>
          rw [hb1] at F1
          cases hb2 : seen l q k with
          | true =>
            rw [hb2] at F2
            clear hb1 hb2
            go_wp2_with fail
            go_round
            case rel => exact ⟨k + 1, by omega, by go_num, by rw [F1.out]; rfl, by rw [F2.out]; rfl⟩
            case measure => simp [intOf]; omega
          | false =>
            rw [hb2] at F2
            clear hb1 hb2
            cases hc2 : (x == q)
            all_goals
              rw [hc2] at F2
              go_wp2_with fail
              go_round
              case rel => exact ⟨k + 1, by omega, by go_num, by rw [F1.out]; rfl, by rw [F2.out]; rfl⟩
              case measure => simp [intOf]; omega
        | false =>
          rw [hb1] at F1
          cases hb2 : seen l q k with
          | true =>
            rw [hb2] at F2
            clear hb1 hb2
            cases hc1 : (x == p)
            all_goals
              rw [hc1] at F1
              go_wp2_with fail
              go_round
              case rel => exact ⟨k + 1, by omega, by go_num, by rw [F1.out]; rfl, by rw [F2.out]; rfl⟩
              case measure => simp [intOf]; omega
          | false =>
            rw [hb2] at F2
            clear hb1 hb2
            cases hc1 : (x == p)
            all_goals
              cases hc2 : (x == q)
              all_goals
                rw [hc1] at F1
                rw [hc2] at F2
                go_wp2_with fail
                go_round
                case rel => exact ⟨k + 1, by omega, by go_num, by rw [F1.out]; rfl, by rw [F2.out]; rfl⟩
                case measure => simp [intOf]; omega
      · obtain rfl : n = k := by omega
        have e1 : seen l p n = true := by obtain ⟨k, hk, e⟩ := HL.out; exact seen_at l p n k hk e
        have e2 : seen l q n = true := by obtain ⟨k, hk, e⟩ := HH.out; exact seen_at l q n k hk e
        rw [e1, e2]
        clear e1 e2
        go_wp2_with fail
        go_ret
        exact ⟨rfl, b1⟩

set_option maxRecDepth 100000 in
set_option maxHeartbeats 2000000 in
theorem rough_walk (a : Option Addr) (len c : Nat) (w : World) (h : BRow w w.heap.size a len) (hc : len ≤ c) (hn : len ≤ 9223372036854775807) :
    Calls Try.prog 9 #[.slice a len c] w fun e w' => e = .returned (.bool true) ∧ Below w.heap.size w w' := by
  by_cases hlen : 1048576 < len
  · go_enter Try.func9, Try.ntmps9
    go_wp2_with fail
    go_ret
    exact ⟨rfl, Below.refl _ _⟩
  go_enter Try.func9, Try.ntmps9
  go_wp2_with fail
  refine (drawRough_any _ _ _ _ h hc hn).mono ?_
  rintro e w1 ⟨a1, n1, c1, l, hn1, hd, rfl, r1, f1, b1⟩
  cases ho : okRow l with
  | false =>
    have HO := Lib.hid ho
    clear ho
    go_wp2_with fail
    refine (implRough_no _ _ _ _ _ _ r1 (by omega) HO.out).mono ?_
    rintro e w' ⟨rfl, rfl⟩
    go_wp2_with fail
    refine (specRough_no _ _ _ _ _ _ r1 (by omega) HO.out).mono ?_
    rintro e w' ⟨rfl, rfl⟩
    go_wp2_with fail
    go_ret
    exact ⟨rfl, b1⟩
  | true =>
    have hl1 := (okRow_len ho).1
    rw [r1.len] at hl1
    obtain ⟨r, hr⟩ : ∃ r, rough l = r := ⟨_, rfl⟩
    have hrb : 0 ≤ r ∧ r ≤ 20000 * ((n1 - 1 : Nat) : Int) := by rw [← hr]; unfold rough; rw [r1.len]; exact rough_bd ho (n1 - 1)
    have HR := Lib.hid hr
    have HO := Lib.hid ho
    clear ho hr
    go_wp2_with fail
    refine (implRough_ok _ _ _ _ _ _ r1 HO.out).mono ?_
    rw [HR.out]
    rintro e w2 ⟨rfl, m2, hw2⟩
    have b2 : Below w1.heap.size w1 w2 := by rw [hw2]; exact below_new _ _
    clear hw2
    go_wp2_with fail
    refine (specRough_ok _ _ _ _ _ _ (r1.keep b2) HO.out).mono ?_
    rw [HR.out]
    rintro e w4 ⟨rfl, m3, hw3⟩
    have b3 : Below w2.heap.size w2 w4 := by rw [hw3]; exact below_new _ _
    clear hw3
    have B4 := below2 (below2 b1 b2) b3
    have q1 := (r1.keep b2).keep b3
    obtain ⟨n, hnn⟩ : ∃ n, n = n1 := ⟨_, rfl⟩
    subst hnn
    clear r1 b1 b2 b3 f1
    have hrg := rough_range l (by rw [q1.len]; omega)
    rw [HR.out] at hrg
    have hrr := row_range HO.out
    obtain ⟨p, hp⟩ : ∃ p, low l = p := ⟨_, rfl⟩
    obtain ⟨q, hq⟩ : ∃ q, high l = q := ⟨_, rfl⟩
    rw [hp, hq] at hrg hrr
    have HPL := Lib.hid hp
    have HQL := Lib.hid hq
    clear hp hq
    have HO' := Lib.hid (okRow_reverse HO.out)
    have HR' : Hid (rough l.reverse = r) := by show rough l.reverse = r; rw [rough_reverse]; exact HR.out
    obtain ⟨hg1, hg2, hg3⟩ := hrg
    have HG := Lib.hid hg2
    clear hg2
    go_wp2_with fail
    refine (implRange_ok _ _ _ _ _ _ q1 HO.out).mono ?_
    rw [HPL.out, HQL.out]
    rintro e w' ⟨rfl, rfl⟩
    by_cases hz : r = 0
    · have d1 : (r == 0) = true := by simpa using hz
      have d2 : (p == q) = true := by have := HG.out.1 hz; simpa using this
      clear hz
      go_wp2_with fail
      refine (reversed_any _ _ _ _ _ _ q1 (by omega)).mono ?_
      rintro e w5 ⟨a5, n5, c5, rfl, r5, f5, b5⟩
      go_wp2_with fail
      refine (implRough_ok _ _ _ _ _ _ r5 HO'.out).mono ?_
      rw [HR'.out]
      rintro e w6 ⟨rfl, m6, hw6⟩
      have b6 : Below w5.heap.size w5 w6 := by rw [hw6]; exact below_new _ _
      clear hw6
      go_wp2_with fail
      go_ret
      exact ⟨rfl, below2 (below2 B4 b5) b6⟩
    · have d1 : (r == 0) = false := by simpa using hz
      have d2 : (p == q) = false := by have := fun e => hz (HG.out.2 e); simpa using this
      clear hz
      go_wp2_with fail
      refine (reversed_any _ _ _ _ _ _ q1 (by omega)).mono ?_
      rintro e w5 ⟨a5, n5, c5, rfl, r5, f5, b5⟩
      go_wp2_with fail
      refine (implRough_ok _ _ _ _ _ _ r5 HO'.out).mono ?_
      rw [HR'.out]
      rintro e w6 ⟨rfl, m6, hw6⟩
      have b6 : Below w5.heap.size w5 w6 := by rw [hw6]; exact below_new _ _
      clear hw6
      go_wp2_with fail
      go_ret
      exact ⟨rfl, below2 (below2 B4 b5) b6⟩

end Go.Proofs.Ytkbhogajdjnfnaa
