/- Contracts of the laws' helpers over rows: reversed, roughOf, sumOf. -/
import Derived.Test.YteopbbolljmghaaSmooth3
namespace Go.Proofs.Yteopbbolljmghaa
open Go.RowKit

def revTo (l : List Int) (k : Nat) : List Int := (List.range k).map (fun j => nth l (l.length - 1 - j))
theorem revTo_succ (l : List Int) (k : Nat) : revTo l (k + 1) = revTo l k ++ [nth l (l.length - 1 - k)] := by
  unfold revTo; rw [List.range_succ, List.map_append]; rfl
theorem revTo_all (l : List Int) : revTo l l.length = l.reverse := by
  refine nth_ext (by simp [revTo]) fun k hk => ?_
  have hk' : k < l.length := by simpa [revTo] using hk
  unfold revTo
  rw [nth_map_range _ _ _ hk', nth_reverse _ _ hk']

set_option maxHeartbeats 400000 in
theorem reversed_any (a : Option Addr) (n c lo : Nat) (l : List Int) (w : World) (h : IRow w lo a n c l) (hn : n ≤ 1048576) :
    Calls Try.prog 23 #[.slice a n c] w (RetInts l.reverse w) := by
  have H := Lib.hid h
  clear h
  go_enter Try.func23, Try.ntmps23
  go_wp2_with fail
  go_loopw [3, 4] (fun v i wr => ∃ k : Nat, k ≤ n ∧ i = .int .i64 ((n : Int) - 1 - k) ∧ wr.ownsRow w.heap.size 3 1 v k ((revTo l k).map (Value.int .i64)) ∧ Below w.heap.size w wr) (fun _ i _ => (intOf i + 1).toNat)
  case atStart => exact ⟨0, Nat.zero_le _, by simp, World.ownsRow_lit w _ 0 (Nat.le_refl _) (by unfold maxLen; omega) rfl, (Below.refl _ _).alloc (Nat.le_refl _) _⟩
  case round =>
    obtain ⟨k, hk, rfl, hown, hb⟩ := hrel
    by_cases hlt : k < n
    · obtain ⟨q, hq⟩ : ∃ q : Nat, (n : Int) - 1 - k = (q : Int) := ⟨n - 1 - k, by omega⟩
      have hqn : q < n := by omega
      obtain ⟨g, off, rfl, _, hg, hcell⟩ := (H.out.keep hb).at_ hqn
      have E : Hid (revTo l (k + 1) = revTo l k ++ [nth l q]) := by
        show revTo l (k + 1) = _
        rw [revTo_succ, H.out.len, show n - 1 - k = q by omega]
      have Q : Hid ((n : Int) - 1 - ((k + 1 : Nat) : Int) = (q : Int) - 1) := by show (n : Int) - 1 - ((k + 1 : Nat) : Int) = _; omega
      have hqb : (q : Int) + 1 + k = n := by omega
      have hqb1 : q ≤ 1048576 := by omega
      rw [hq]
      clear hq hqb
      go_wp2_with (at_builtin; refine wpList_append_int _ rfl _ _ rfl w.heap.size _ _ _ rfl (nth l q) wr.heap.size rfl (hown.alloc _) (by simp) (by omega) (by have := hb.size; simp; omega) ?_; intro v' w1 hown1 hgrow1)
      go_roundw
      case rel => exact ⟨k + 1, by omega, by rw [Q.out], by rw [E.out]; exact hown1, below_append hb hb.size hown hgrow1⟩
      case measure => simp [intOf]
    · obtain rfl : k = n := by omega
      obtain ⟨a', c', hv, hr, hf⟩ := IRow.of_own hown
      have E : Hid (revTo l k = l.reverse) := by show revTo l k = _; rw [← revTo_all, H.out.len]
      rw [E.out] at hr
      subst hv
      rw [show (k : Int) - 1 - k = -1 by omega]
      go_wp2_with fail
      go_ret
      exact ⟨_, _, _, rfl, hr, hf, hb⟩

def Big (l : List Int) : Prop := ∀ k, -1000000000 ≤ nth l k ∧ nth l k ≤ 1000000000
theorem big_sum {l : List Int} (h : Big l) (k : Nat) : -(1000000000 * k) ≤ sumF (nth l) k ∧ sumF (nth l) k ≤ 1000000000 * k := by
  induction k with
  | zero => simp [sumF]
  | succ k ih =>
    have := h k
    rw [sumF]
    omega
theorem big_gap {l : List Int} (h : Big l) (k : Nat) : 0 ≤ gap l k ∧ gap l k ≤ 2000000000 := by
  have a := h k
  have b := h (k + 1)
  unfold gap absI
  omega
theorem big_rough {l : List Int} (h : Big l) (k : Nat) : 0 ≤ sumF (gap l) k ∧ sumF (gap l) k ≤ 2000000000 * k := by
  induction k with
  | zero => simp [sumF]
  | succ k ih =>
    have := big_gap h k
    rw [sumF]
    omega

set_option maxHeartbeats 400000 in
theorem sumOf_any (a : Option Addr) (n c lo : Nat) (l : List Int) (w : World) (h : IRow w lo a n c l) (hn : n ≤ 1000) (hs : Big l) :
    Calls Try.prog 27 #[.slice a n c] w fun e w' => e = .returned (.int .i64 (total l)) ∧ w = w' := by
  have H := Lib.hid h
  have HS := Lib.hid hs
  have HT : Hid (total l = sumF (nth l) n) := by show total l = _; unfold total; rw [h.len]
  clear h hs
  rw [HT.out]
  go_enter Try.func27, Try.ntmps27
  go_wp2_with fail
  go_loop [3, 4] (fun s i => ∃ k : Nat, k ≤ n ∧ i = .int .i64 k ∧ s = .int .i64 (sumF (nth l) k)) (fun _ i => n - (intOf i).toNat)
  case atStart => exact ⟨0, Nat.zero_le _, rfl, rfl⟩
  case round =>
    obtain ⟨k, hk, rfl, rfl⟩ := hrel
    have hb := big_sum HS.out k
    have hv := HS.out k
    by_cases hlt : k < n
    · obtain ⟨g, off, rfl, _, hg, hcell⟩ := H.out.at_ hlt
      go_wp2_with fail
      go_round
      case rel => exact ⟨k + 1, by omega, by go_num, rfl⟩
      case measure => simp [intOf]; omega
    · obtain rfl : k = n := by omega
      go_wp2_with fail
      go_ret
      exact ⟨rfl, rfl⟩

set_option maxHeartbeats 1000000 in
theorem roughOf_any (a : Option Addr) (n c lo : Nat) (l : List Int) (w : World) (h : IRow w lo a n c l) (h1 : 1 ≤ n) (hn : n ≤ 1000) (hs : Big l) :
    Calls Try.prog 18 #[.slice a n c] w fun e w' => e = .returned (.int .i64 (rough l)) ∧ ∃ m, w' = w.drewN m := by
  have H := Lib.hid h
  have HS := Lib.hid hs
  have HT : Hid (rough l = sumF (gap l) (n - 1)) := by show rough l = _; unfold rough; rw [h.len]
  clear h hs
  rw [HT.out]
  go_enter Try.func18, Try.ntmps18
  go_wp2_with fail
  go_loopw [3, 4] (fun s i wr => ∃ k m : Nat, k + 1 ≤ n ∧ i = .int .i64 ((k : Int) + 1) ∧ s = .int .i64 (sumF (gap l) k) ∧ wr = w.drewN m) (fun _ i _ => n - (intOf i).toNat)
  case atStart => exact ⟨0, 0, by omega, rfl, rfl, rfl⟩
  case round =>
    obtain ⟨k, m, hk, rfl, rfl, rfl⟩ := hrel
    have hb := big_rough HS.out k
    have hv := HS.out k
    have hv' := HS.out (k + 1)
    by_cases hlt : k + 1 < n
    · obtain ⟨g, off, rfl, _, hg, hcell'⟩ := H.out.at_ hlt
      have hcell := H.out.cellAt (show k < n by omega)
      obtain ⟨x, hx⟩ : ∃ x, nth l k = x := ⟨_, rfl⟩
      obtain ⟨y, hy⟩ : ∃ y, nth l (k + 1) = y := ⟨_, rfl⟩
      obtain ⟨s, hs⟩ : ∃ s, sumF (gap l) k = s := ⟨_, rfl⟩
      have E : Hid (sumF (gap l) (k + 1) = s + absI (y - x)) := by
        have e : gap l k = absI (y - x) := by unfold gap; rw [hx, hy]
        show sumF (gap l) k + gap l k = _
        rw [hs, e]
      rw [hx] at hv hcell
      rw [hy] at hv' hcell'
      rw [hs] at hb ⊢
      clear hx hy hs
      have hab := absI_bd (y - x)
      obtain ⟨z, hz⟩ : ∃ z, absI (y - x) = z := ⟨_, rfl⟩
      have e1 : (if y - x < x - y then x - y else y - x) = z := by rw [← hz]; unfold absI; split <;> omega
      rw [hz] at hab E
      clear hz
      have s1 : IntKind.i64.wrap (y - x) = y - x := IntWalk.i64_in _ (by omega)
      have s2 : IntKind.i64.wrap (x - y) = x - y := IntWalk.i64_in _ (by omega)
      have s3 : IntKind.i64.wrap ((k : Int) + 1 - 1) = (k : Int) := by rw [IntWalk.i64_in _ (by omega)]; omega
      have s4 : IntKind.i64.wrap (s + z) = s + z := IntWalk.i64_in _ (by omega)
      have n1 : (0 : Int) ≤ (k : Int) + 1 := by omega
      have n2 : (k : Int) + 1 < (n : Int) := by omega
      have n3 : (k : Int) < (n : Int) := by omega
      have n4 : ((k : Int) + 1).toNat = k + 1 := by omega
      go_wp2_with fail
      go_quiet (fail)
      clear s1 s2 s3 s4 n1 n2 n3 n4 e1
      go_wp2_with fail
      go_roundw
      case rel => exact ⟨k + 1, _, by omega, by go_num, by rw [E.out], rfl⟩
      case measure => simp [intOf]; omega
    · obtain rfl : n = k + 1 := by omega
      go_wp2_with fail
      go_ret
      exact ⟨rfl, m, rfl⟩

def mapTo (f : Nat → Int) (k : Nat) : List Int := (List.range k).map f
theorem mapTo_succ (f : Nat → Int) (k : Nat) : mapTo f (k + 1) = mapTo f k ++ [f k] := by
  unfold mapTo; rw [List.range_succ, List.map_append]; rfl
theorem mapTo_len (f : Nat → Int) (k : Nat) : (mapTo f k).length = k := by simp [mapTo]
theorem nth_mapTo (f : Nat → Int) (n k : Nat) (h : k < n) : nth (mapTo f n) k = f k := nth_map_range _ _ _ h
theorem four_pow_bd (j : Nat) (h : j ≤ 8) : 1 ≤ (4 : Int) ^ j ∧ (4 : Int) ^ j ≤ 65536 := by
  have a : (4 : Nat) ^ j ≤ 4 ^ 8 := Nat.pow_le_pow_right (by omega) h
  have b : 1 ≤ (4 : Nat) ^ j := Nat.one_le_pow _ _ (by omega)
  have e : (((4 : Nat) ^ j : Nat) : Int) = (4 : Int) ^ j := by simp
  have e2 : (4 : Nat) ^ 8 = 65536 := by decide
  omega
theorem mul_in (P p M : Int) (h1 : 1 ≤ P) (h2 : P ≤ 65536) (h3 : -M ≤ p) (h4 : p ≤ M) (hM : 0 ≤ M) : -(65536 * M) ≤ P * p ∧ P * p ≤ 65536 * M := by
  have a := Int.mul_le_mul_of_nonneg_left h4 (show 0 ≤ P by omega)
  have b := Int.mul_le_mul_of_nonneg_left h3 (show 0 ≤ P by omega)
  have c := Int.mul_le_mul_of_nonneg_right h2 hM
  rw [Int.mul_neg] at b
  omega
theorem big_many {l : List Int} (h : okRow l = true) (t : Nat) (ht : t ≤ 8) : Big (many l t) := fun k => by
  have := small_many h t ht k; omega
theorem row_range {l : List Int} (h : okRow l = true) : -10000 ≤ low l ∧ low l ≤ 10000 ∧ -10000 ≤ high l ∧ high l ≤ 10000 := by
  have hn := (okRow_len h).1
  obtain ⟨k, _, e⟩ := low_at l (by omega)
  obtain ⟨j, _, e'⟩ := high_at l (by omega)
  have a := okRow_nth h k
  have b := okRow_nth h j
  omega

end Go.Proofs.Yteopbbolljmghaa
