/- Contracts of the laws' helpers over rows: reversed, roughOf, sumOf. -/
import Derived.Test.YtkbhogajdjnfnaaSmooth3
namespace Go.Proofs.Ytkbhogajdjnfnaa
open Go.RowKit

def revTo (l : List Int) (k : Nat) : List Int := (List.range k).map (fun j => nth l (l.length - 1 - j))
theorem revTo_succ (l : List Int) (k : Nat) : revTo l (k + 1) = revTo l k ++ [nth l (l.length - 1 - k)] := by
  unfold revTo; rw [List.range_succ, List.map_append]; rfl
theorem revTo_all (l : List Int) : revTo l l.length = l.reverse := by
  refine nth_ext (by simp [revTo]) fun k hk => ?_
  have hk' : k < l.length := by simpa [revTo] using hk
  unfold revTo
  rw [nth_map_range _ _ _ hk', nth_reverse _ _ hk']

set_option maxHeartbeats 400000 in
theorem reversed_any (a : Option Addr) (n c lo : Nat) (l : List Int) (w : World) (h : IRow w lo a n c l) (hn : n ≤ 1048576) :
    Calls Try.prog 25 #[.slice a n c] w (RetInts l.reverse w) := by
  have H := Lib.hid h
  clear h
  go_enter Try.func25, Try.ntmps25
  go_wp2_with fail
  go_loopw [3, 4] (fun v i wr => ∃ k : Nat, k ≤ n ∧ i = .int .i64 ((n : Int) - 1 - k) ∧ wr.ownsRow w.heap.size 3 1 v k ((revTo l k).map (Value.int .i64)) ∧ Below w.heap.size w wr) (fun _ i _ => (intOf i + 1).toNat)
  case atStart => exact ⟨0, Nat.zero_le _, by simp, World.ownsRow_lit w _ 0 (Nat.le_refl _) (by unfold maxLen; omega) rfl, (Below.refl _ _).alloc (Nat.le_refl _) _⟩
  case round =>
    obtain ⟨k, hk, rfl, hown, hb⟩ := hrel
    by_cases hlt : k < n
    · obtain ⟨q, hq⟩ : ∃ q : Nat, (n : Int) - 1 - k = (q : Int) := ⟨n - 1 - k, by omega⟩
      have hqn : q < n := by omega
      obtain ⟨g, off, rfl, _, hg, hcell⟩ := (H.out.keep hb).at_ hqn
      have E : Hid (revTo l (k + 1) = revTo l k ++ [nth l q]) := by
        show revTo l (k + 1) = _
        rw [revTo_succ, H.out.len, show n - 1 - k = q by omega]
      have Q : Hid ((n : Int) - 1 - ((k + 1 : Nat) : Int) = (q : Int) - 1) := by show (n : Int) - 1 - ((k + 1 : Nat) : Int) = _; omega
      have hqb : (q : Int) + 1 + k = n := by omega
      have hqb1 : q ≤ 1048576 := by omega
      rw [hq]
      clear hq hqb
      go_wp2_with (at_builtin; refine wpList_append_int _ rfl _ _ rfl w.heap.size _ _ _ rfl (nth l q) wr.heap.size rfl (hown.alloc _) (by simp) (by omega) (by have := hb.size; simp; omega) ?_; intro v' w1 hown1 hgrow1)
      go_roundw
      case rel => exact ⟨k + 1, by omega, by rw [Q.out], by rw [E.out]; exact hown1, below_append hb hb.size hown hgrow1⟩
      case measure => simp [intOf]
    · obtain rfl : k = n := by omega
      obtain ⟨a', c', hv, hr, hf⟩ := IRow.of_own hown
      have E : Hid (revTo l k = l.reverse) := by show revTo l k = _; rw [← revTo_all, H.out.len]
      rw [E.out] at hr
      subst hv
      rw [show (k : Int) - 1 - k = -1 by omega]
      go_wp2_with fail
      go_ret
      exact ⟨_, _, _, rfl, hr, hf, hb⟩

def Big (l : List Int) : Prop := ∀ k, -1000000000 ≤ nth l k ∧ nth l k ≤ 1000000000
theorem big_sum {l : List Int} (h : Big l) (k : Nat) : -(1000000000 * k) ≤ sumF (nth l) k ∧ sumF (nth l) k ≤ 1000000000 * k := by
  induction k with
  | zero => simp [sumF]
  | succ k ih =>
    have := h k
    rw [sumF]
    omega
theorem big_gap {l : List Int} (h : Big l) (k : Nat) : 0 ≤ gap l k ∧ gap l k ≤ 2000000000 := by
  have a := h k
  have b := h (k + 1)
  unfold gap absI
  omega
theorem big_rough {l : List Int} (h : Big l) (k : Nat) : 0 ≤ sumF (gap l) k ∧ sumF (gap l) k ≤ 2000000000 * k := by
  induction k with
  | zero => simp [sumF]
  | succ k ih =>
    have := big_gap h k
    rw [sumF]
    omega



def mapTo (f : Nat → Int) (k : Nat) : List Int := (List.range k).map f
theorem mapTo_succ (f : Nat → Int) (k : Nat) : mapTo f (k + 1) = mapTo f k ++ [f k] := by
  unfold mapTo; rw [List.range_succ, List.map_append]; rfl
theorem mapTo_len (f : Nat → Int) (k : Nat) : (mapTo f k).length = k := by simp [mapTo]
theorem nth_mapTo (f : Nat → Int) (n k : Nat) (h : k < n) : nth (mapTo f n) k = f k := nth_map_range _ _ _ h
theorem four_pow_bd (j : Nat) (h : j ≤ 8) : 1 ≤ (4 : Int) ^ j ∧ (4 : Int) ^ j ≤ 65536 := by
  have a : (4 : Nat) ^ j ≤ 4 ^ 8 := Nat.pow_le_pow_right (by omega) h
  have b : 1 ≤ (4 : Nat) ^ j := Nat.one_le_pow _ _ (by omega)
  have e : (((4 : Nat) ^ j : Nat) : Int) = (4 : Int) ^ j := by simp
  have e2 : (4 : Nat) ^ 8 = 65536 := by decide
  omega
theorem mul_in (P p M : Int) (h1 : 1 ≤ P) (h2 : P ≤ 65536) (h3 : -M ≤ p) (h4 : p ≤ M) (hM : 0 ≤ M) : -(65536 * M) ≤ P * p ∧ P * p ≤ 65536 * M := by
  have a := Int.mul_le_mul_of_nonneg_left h4 (show 0 ≤ P by omega)
  have b := Int.mul_le_mul_of_nonneg_left h3 (show 0 ≤ P by omega)
  have c := Int.mul_le_mul_of_nonneg_right h2 hM
  rw [Int.mul_neg] at b
  omega
theorem big_many {l : List Int} (h : okRow l = true) (t : Nat) (ht : t ≤ 8) : Big (many l t) := fun k => by
  have := small_many h t ht k; omega
theorem row_range {l : List Int} (h : okRow l = true) : -10000 ≤ low l ∧ low l ≤ 10000 ∧ -10000 ≤ high l ∧ high l ≤ 10000 := by
  have hn := (okRow_len h).1
  obtain ⟨k, _, e⟩ := low_at l (by omega)
  obtain ⟨j, _, e'⟩ := high_at l (by omega)
  have a := okRow_nth h k
  have b := okRow_nth h j
  omega

end Go.Proofs.Ytkbhogajdjnfnaa
