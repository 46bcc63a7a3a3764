/- The plain mathematics of smoothing. No program in sight. -/
import Derived.Test.YtkbhogajdjnfnaaList
namespace Go.Proofs.Ytkbhogajdjnfnaa

/-- A row: 1 to 20 numbers from -10000 to 10000. -/
def okRow (l : List Int) : Bool := decide (1 ≤ l.length ∧ l.length ≤ 20 ∧ ∀ x ∈ l, -10000 ≤ x ∧ x ≤ 10000)

def passAt (l : List Int) (k : Nat) : Int := nth l (k - 1) + 2 * nth l k + nth l (min (l.length - 1) (k + 1))
def pass (l : List Int) : List Int := (List.range l.length).map (passAt l)
def many (l : List Int) : Nat → List Int
  | 0 => l
  | n + 1 => pass (many l n)
def absI (x : Int) : Int := max x (-x)
def total (l : List Int) : Int := sumF (nth l) l.length
def gap (l : List Int) (k : Nat) : Int := absI (nth l (k + 1) - nth l k)
def rough (l : List Int) : Int := sumF (gap l) (l.length - 1)
def minTo (l : List Int) : Nat → Int
  | 0 => nth l 0
  | k + 1 => min (minTo l k) (nth l k)
def maxTo (l : List Int) : Nat → Int
  | 0 => nth l 0
  | k + 1 => max (maxTo l k) (nth l k)
def low (l : List Int) : Int := minTo l l.length
def high (l : List Int) : Int := maxTo l l.length

theorem absI_bd (x : Int) : x ≤ absI x ∧ -x ≤ absI x ∧ 0 ≤ absI x ∧ (absI x = x ∨ absI x = -x) := by unfold absI; omega
theorem absI_neg (x : Int) : absI (-x) = absI x := by unfold absI; omega
theorem length_pass (l : List Int) : (pass l).length = l.length := by simp [pass]
theorem nth_pass (l : List Int) (k : Nat) (h : k < l.length) : nth (pass l) k = passAt l k := nth_map_range _ _ _ h
theorem length_many (l : List Int) (n : Nat) : (many l n).length = l.length := by
  induction n with
  | zero => rfl
  | succ n ih => rw [many, length_pass, ih]

theorem okRow_len {l : List Int} (h : okRow l = true) : 1 ≤ l.length ∧ l.length ≤ 20 := by
  have := of_decide_eq_true h; exact ⟨this.1, this.2.1⟩
theorem okRow_nth {l : List Int} (h : okRow l = true) (k : Nat) : -10000 ≤ nth l k ∧ nth l k ≤ 10000 := by
  have := of_decide_eq_true h
  by_cases hk : k < l.length
  · exact this.2.2 _ (nth_mem hk)
  · unfold nth
    rw [List.getElem?_eq_none (by omega)]
    simp
theorem okRow_mk {l : List Int} (h1 : 1 ≤ l.length) (h2 : l.length ≤ 20) (h : ∀ k, k < l.length → -10000 ≤ nth l k ∧ nth l k ≤ 10000) : okRow l = true := by
  refine decide_eq_true ⟨h1, h2, fun x hx => ?_⟩
  obtain ⟨k, hk, rfl⟩ := nth_of_mem hx
  exact h k hk
theorem okRow_no_at {l : List Int} (k : Nat) (hk : k < l.length) (h : ¬ (-10000 ≤ nth l k ∧ nth l k ≤ 10000)) : okRow l = false := by
  refine decide_eq_false fun hh => h (hh.2.2 _ (nth_mem hk))
theorem okRow_no_len {l : List Int} (h : ¬ (1 ≤ l.length ∧ l.length ≤ 20)) : okRow l = false :=
  decide_eq_false fun hh => h ⟨hh.1, hh.2.1⟩

/-- Numbers behind n passes are at most 4^n times as great. -/
theorem passAt_bd {l : List Int} {b : Int} (hb : ∀ k, -b ≤ nth l k ∧ nth l k ≤ b) (k : Nat) : -(4 * b) ≤ passAt l k ∧ passAt l k ≤ 4 * b := by
  have a1 := hb (k - 1)
  have a2 := hb k
  have a3 := hb (min (l.length - 1) (k + 1))
  unfold passAt
  omega
theorem nth_out {l : List Int} {k : Nat} (h : l.length ≤ k) : nth l k = 0 := by
  unfold nth; rw [List.getElem?_eq_none h]; rfl
theorem pass_bd {l : List Int} {b : Int} (hb : ∀ k, -b ≤ nth l k ∧ nth l k ≤ b) (k : Nat) : -(4 * b) ≤ nth (pass l) k ∧ nth (pass l) k ≤ 4 * b := by
  by_cases h : k < l.length
  · rw [nth_pass l k h]; exact passAt_bd hb k
  · rw [nth_out (by rw [length_pass]; omega)]
    have := hb 0
    omega
theorem many_bd {l : List Int} {b : Int} (hb : ∀ k, -b ≤ nth l k ∧ nth l k ≤ b) (n k : Nat) : -(4 ^ n * b) ≤ nth (many l n) k ∧ nth (many l n) k ≤ 4 ^ n * b := by
  induction n generalizing k with
  | zero => simpa [many] using hb k
  | succ n ih =>
    have := pass_bd (b := 4 ^ n * b) (fun k => ih k) k
    rw [many, Int.pow_succ, Int.mul_comm (4 ^ n) 4, Int.mul_assoc]
    exact this

/-! sums -/
theorem sum_pass_to (l : List Int) (m : Nat) (hm : m + 1 ≤ l.length) : sumF (passAt l) m = 4 * sumF (nth l) m + nth l m - nth l (m - 1) := by
  induction m with
  | zero => simp [sumF]
  | succ m ih =>
    rw [sumF, sumF, ih (by omega)]
    unfold passAt
    have e1 : min (l.length - 1) (m + 1) = m + 1 := by omega
    have e2 : m + 1 - 1 = m := by omega
    rw [e1, e2]
    omega
theorem total_pass (l : List Int) : total (pass l) = 4 * total l := by
  unfold total
  rw [length_pass, sumF_congr (h := passAt l) (fun k hk => nth_pass l k hk)]
  cases hn : l.length with
  | zero => rfl
  | succ n =>
    rw [sumF, sumF, sum_pass_to l n (by omega)]
    unfold passAt
    have e1 : min (l.length - 1) (n + 1) = n := by omega
    rw [e1]
    omega
theorem total_many (l : List Int) (n : Nat) : total (many l n) = 4 ^ n * total l := by
  induction n with
  | zero => simp [many]
  | succ n ih => rw [many, total_pass, ih, Int.pow_succ, Int.mul_comm (4 ^ n) 4, Int.mul_assoc]

/-! ranges -/
theorem minTo_le (l : List Int) (m k : Nat) (h : k < m) : minTo l m ≤ nth l k := by
  induction m with
  | zero => omega
  | succ m ih =>
    rw [minTo]
    by_cases e : k = m
    · subst e; omega
    · have := ih (by omega); omega
theorem maxTo_ge (l : List Int) (m k : Nat) (h : k < m) : nth l k ≤ maxTo l m := by
  induction m with
  | zero => omega
  | succ m ih =>
    rw [maxTo]
    by_cases e : k = m
    · subst e; omega
    · have := ih (by omega); omega
theorem minTo_at (l : List Int) (m : Nat) (h : 0 < l.length) (hm : m ≤ l.length) : ∃ k, k < l.length ∧ nth l k = minTo l m := by
  induction m with
  | zero => exact ⟨0, h, rfl⟩
  | succ m ih =>
    obtain ⟨k, hk, e⟩ := ih (by omega)
    rw [minTo]
    by_cases c : minTo l m ≤ nth l m
    · exact ⟨k, hk, by omega⟩
    · exact ⟨m, by omega, by omega⟩
theorem maxTo_at (l : List Int) (m : Nat) (h : 0 < l.length) (hm : m ≤ l.length) : ∃ k, k < l.length ∧ nth l k = maxTo l m := by
  induction m with
  | zero => exact ⟨0, h, rfl⟩
  | succ m ih =>
    obtain ⟨k, hk, e⟩ := ih (by omega)
    rw [maxTo]
    by_cases c : nth l m ≤ maxTo l m
    · exact ⟨k, hk, by omega⟩
    · exact ⟨m, by omega, by omega⟩
theorem low_le (l : List Int) (k : Nat) (h : k < l.length) : low l ≤ nth l k := minTo_le l _ k h
theorem high_ge (l : List Int) (k : Nat) (h : k < l.length) : nth l k ≤ high l := maxTo_ge l _ k h
theorem low_at (l : List Int) (h : 0 < l.length) : ∃ k, k < l.length ∧ nth l k = low l := minTo_at l _ h (Nat.le_refl _)
theorem high_at (l : List Int) (h : 0 < l.length) : ∃ k, k < l.length ∧ nth l k = high l := maxTo_at l _ h (Nat.le_refl _)

theorem pass_range {l : List Int} {a b : Int} (h : ∀ k, k < l.length → a ≤ nth l k ∧ nth l k ≤ b) (k : Nat) (hk : k < l.length) : 4 * a ≤ nth (pass l) k ∧ nth (pass l) k ≤ 4 * b := by
  rw [nth_pass l k hk]
  have a1 := h (k - 1) (by omega)
  have a2 := h k hk
  have a3 := h (min (l.length - 1) (k + 1)) (by omega)
  unfold passAt
  omega
theorem many_range {l : List Int} {a b : Int} (h : ∀ k, k < l.length → a ≤ nth l k ∧ nth l k ≤ b) (n k : Nat) (hk : k < l.length) : 4 ^ n * a ≤ nth (many l n) k ∧ nth (many l n) k ≤ 4 ^ n * b := by
  induction n generalizing k with
  | zero => simpa [many] using h k hk
  | succ n ih =>
    have := pass_range (l := many l n) (a := 4 ^ n * a) (b := 4 ^ n * b) (fun k hk => ih k (by rwa [length_many] at hk)) k (by rwa [length_many])
    rw [many, Int.pow_succ, Int.mul_comm (4 ^ n) 4, Int.mul_assoc, Int.mul_assoc]
    exact this

/-! roughness -/
theorem gap_nonneg (l : List Int) (k : Nat) : 0 ≤ gap l k := (absI_bd _).2.2.1
theorem rough_nonneg (l : List Int) : 0 ≤ rough l := by
  have := sumF_le (g := fun _ => 0) (h := gap l) (n := l.length - 1) (fun k _ => gap_nonneg l k)
  rw [sumF_const] at this
  unfold rough
  omega
/-- The gaps, none behind the end. -/
def gapE (l : List Int) (k : Nat) : Int := if k + 1 < l.length then gap l k else 0
theorem gap_pass (l : List Int) (k : Nat) (h : k + 1 < l.length) : gap (pass l) k ≤ gapE l (k + 1) + 2 * gap l k + (if k = 0 then 0 else gap l (k - 1)) := by
  unfold gap
  rw [nth_pass l (k + 1) h, nth_pass l k (by omega)]
  unfold passAt gapE gap
  have e1 : k + 1 - 1 = k := by omega
  have e2 : min (l.length - 1) (k + 1) = k + 1 := by omega
  rw [e1, e2]
  have b2 := absI_bd (nth l (k + 1) - nth l k)
  by_cases hk : k = 0
  · subst hk
    rw [if_pos rfl]
    by_cases h2 : 0 + 1 + 1 < l.length
    · rw [if_pos h2]
      have e3 : min (l.length - 1) (0 + 1 + 1) = 0 + 1 + 1 := by omega
      rw [e3]
      have b1 := absI_bd (nth l (0 + 1 + 1) - nth l (0 + 1))
      have b4 := absI_bd (nth l 0 + 2 * nth l (0 + 1) + nth l (0 + 1 + 1) - (nth l (0 - 1) + 2 * nth l 0 + nth l (0 + 1)))
      simp only [Nat.zero_sub] at *
      omega
    · rw [if_neg h2]
      have e3 : min (l.length - 1) (0 + 1 + 1) = 0 + 1 := by omega
      rw [e3]
      have b4 := absI_bd (nth l 0 + 2 * nth l (0 + 1) + nth l (0 + 1) - (nth l (0 - 1) + 2 * nth l 0 + nth l (0 + 1)))
      simp only [Nat.zero_sub] at *
      omega
  · rw [if_neg hk]
    obtain ⟨j, rfl⟩ : ∃ j, k = j + 1 := ⟨k - 1, by omega⟩
    have e4 : j + 1 - 1 = j := by omega
    rw [e4]
    have b3 := absI_bd (nth l (j + 1) - nth l j)
    by_cases h2 : j + 1 + 1 + 1 < l.length
    · rw [if_pos h2]
      have e3 : min (l.length - 1) (j + 1 + 1 + 1) = j + 1 + 1 + 1 := by omega
      rw [e3]
      have b1 := absI_bd (nth l (j + 1 + 1 + 1) - nth l (j + 1 + 1))
      have b4 := absI_bd (nth l (j + 1) + 2 * nth l (j + 1 + 1) + nth l (j + 1 + 1 + 1) - (nth l j + 2 * nth l (j + 1) + nth l (j + 1 + 1)))
      omega
    · rw [if_neg h2]
      have e3 : min (l.length - 1) (j + 1 + 1 + 1) = j + 1 + 1 := by omega
      rw [e3]
      have b4 := absI_bd (nth l (j + 1) + 2 * nth l (j + 1 + 1) + nth l (j + 1 + 1) - (nth l j + 2 * nth l (j + 1) + nth l (j + 1 + 1)))
      omega
theorem rough_pass_to (l : List Int) (m : Nat) (hm : m + 2 ≤ l.length) : sumF (gap (pass l)) (m + 1) + gap l 0 + gap l m ≤ 4 * sumF (gap l) (m + 1) + gapE l (m + 1) := by
  induction m with
  | zero =>
    have := gap_pass l 0 (by omega)
    rw [if_pos rfl] at this
    have b := gap_nonneg l 0
    simp only [sumF]
    omega
  | succ m ih =>
    have a := ih (by omega)
    have b := gap_pass l (m + 1) (by omega)
    rw [if_neg (by omega)] at b
    have e : m + 1 - 1 = m := by omega
    rw [e] at b
    have c : gapE l (m + 1) = gap l (m + 1) := by unfold gapE; rw [if_pos (by omega)]
    rw [c] at a
    have e1 : sumF (gap (pass l)) (m + 1 + 1) = sumF (gap (pass l)) (m + 1) + gap (pass l) (m + 1) := rfl
    have e2 : sumF (gap l) (m + 1 + 1) = sumF (gap l) (m + 1) + gap l (m + 1) := rfl
    rw [e1, e2]
    omega
theorem rough_pass (l : List Int) : rough (pass l) ≤ 4 * rough l := by
  unfold rough
  rw [length_pass]
  by_cases h : l.length < 2
  · have e : l.length - 1 = 0 := by omega
    rw [e]; simp [sumF]
  · obtain ⟨m, hm⟩ : ∃ m, l.length = m + 2 := ⟨l.length - 2, by omega⟩
    have a := rough_pass_to l m (by omega)
    have e : gapE l (m + 1) = 0 := by unfold gapE; rw [if_neg (by omega)]
    rw [e] at a
    have e2 : l.length - 1 = m + 1 := by omega
    rw [e2]
    have b := gap_nonneg l 0
    have c := gap_nonneg l m
    omega
theorem rough_many (l : List Int) (n : Nat) : rough (many l n) ≤ 4 ^ n * rough l := by
  induction n with
  | zero => simp [many]
  | succ n ih =>
    have := rough_pass (many l n)
    rw [many, Int.pow_succ, Int.mul_comm (4 ^ n) 4, Int.mul_assoc]
    omega

theorem steps (l : List Int) (i d : Nat) : nth l (i + d) - nth l i ≤ sumF (gap l) (i + d) - sumF (gap l) i ∧ nth l i - nth l (i + d) ≤ sumF (gap l) (i + d) - sumF (gap l) i := by
  induction d with
  | zero => simp
  | succ d ih =>
    have b := absI_bd (nth l (i + d + 1) - nth l (i + d))
    have e : i + (d + 1) = i + d + 1 := by omega
    rw [e, sumF]
    unfold gap at ih ⊢
    omega
theorem sumF_mono_to {g : Nat → Int} (h : ∀ k, 0 ≤ g k) {m n : Nat} (hm : m ≤ n) : sumF g m ≤ sumF g n := by
  induction n with
  | zero => obtain rfl : m = 0 := by omega
            exact Int.le_refl _
  | succ n ih =>
    by_cases e : m = n + 1
    · subst e; exact Int.le_refl _
    · have := ih (by omega)
      have := h n
      rw [sumF]; omega
theorem rough_ge (l : List Int) (i j : Nat) (hi : i < l.length) (hj : j < l.length) : nth l i - nth l j ≤ rough l := by
  unfold rough
  have p := gap_nonneg l
  rcases Nat.le_total i j with h | h
  · obtain ⟨d, rfl⟩ : ∃ d, j = i + d := ⟨j - i, by omega⟩
    have a := steps l i d
    have b := sumF_mono_to p (show i + d ≤ l.length - 1 by omega)
    have c := sumF_mono_to p (show 0 ≤ i by omega)
    simp only [sumF] at c
    omega
  · obtain ⟨d, rfl⟩ : ∃ d, i = j + d := ⟨i - j, by omega⟩
    have a := steps l j d
    have b := sumF_mono_to p (show j + d ≤ l.length - 1 by omega)
    have c := sumF_mono_to p (show 0 ≤ j by omega)
    simp only [sumF] at c
    omega
theorem rough_range (l : List Int) (h : 0 < l.length) : high l - low l ≤ rough l ∧ (rough l = 0 ↔ low l = high l) ∧ low l ≤ high l := by
  obtain ⟨i, hi, ei⟩ := high_at l h
  obtain ⟨j, hj, ej⟩ := low_at l h
  have a := rough_ge l i j hi hj
  have b := low_le l i hi
  rw [ei, ej] at a
  refine ⟨a, ⟨fun e => ?_, fun e => ?_⟩, by omega⟩
  · omega
  · unfold rough
    have c : sumF (gap l) (l.length - 1) = sumF (fun _ => 0) (l.length - 1) := sumF_congr fun k hk => by
      have a1 := low_le l k (by omega)
      have a2 := high_ge l k (by omega)
      have a3 := low_le l (k + 1) (by omega)
      have a4 := high_ge l (k + 1) (by omega)
      unfold gap absI
      omega
    rw [c, sumF_const]
    simp

/-! the opposite order -/
theorem nth_reverse (l : List Int) (k : Nat) (h : k < l.length) : nth l.reverse k = nth l (l.length - 1 - k) := by
  unfold nth
  rw [List.getElem?_reverse h]
theorem pass_reverse (l : List Int) : pass l.reverse = (pass l).reverse := by
  refine nth_ext (by simp [length_pass]) fun k hk => ?_
  have hk' : k < l.length := by simpa [length_pass] using hk
  rw [nth_pass _ _ (by simpa using hk'), nth_reverse _ _ (by rw [length_pass]; exact hk'), length_pass, nth_pass _ _ (by omega)]
  unfold passAt
  rw [List.length_reverse, nth_reverse _ _ (by omega), nth_reverse _ _ hk', nth_reverse _ _ (by omega)]
  have e1 : nth l (l.length - 1 - (k - 1)) = nth l (min (l.length - 1) (l.length - 1 - k + 1)) := congrArg (nth l) (by omega)
  have e2 : nth l (l.length - 1 - min (l.length - 1) (k + 1)) = nth l (l.length - 1 - k - 1) := congrArg (nth l) (by omega)
  omega
theorem many_reverse (l : List Int) (n : Nat) : many l.reverse n = (many l n).reverse := by
  induction n with
  | zero => rfl
  | succ n ih => rw [many, ih, pass_reverse, many]
theorem total_reverse (l : List Int) : total l.reverse = total l := by
  unfold total
  rw [List.length_reverse, sumF_congr (fun k hk => nth_reverse l k hk)]
  exact sumF_rev (nth l) l.length
theorem rough_reverse (l : List Int) : rough l.reverse = rough l := by
  unfold rough
  rw [List.length_reverse, ← sumF_rev (gap l)]
  refine sumF_congr fun k hk => ?_
  unfold gap
  rw [nth_reverse _ _ (by omega), nth_reverse _ _ (by omega)]
  have e1 : l.length - 1 - (k + 1) = l.length - 1 - 1 - k := by omega
  have e2 : l.length - 1 - k = l.length - 1 - 1 - k + 1 := by omega
  rw [e1, e2, ← absI_neg]
  congr 1
  omega
theorem okRow_reverse {l : List Int} (h : okRow l = true) : okRow l.reverse = true := by
  have := of_decide_eq_true h
  refine decide_eq_true ⟨by simpa using this.1, by simpa using this.2.1, fun x hx => this.2.2 x (by simpa using hx)⟩

/-! a pass is linear -/
theorem pass_lin (l m r : List Int) (c : Int) (h1 : m.length = l.length) (h2 : r.length = l.length) (h : ∀ k, k < l.length → nth r k = nth l k + c * nth m k) (k : Nat) (hk : k < l.length) :
    nth (pass r) k = nth (pass l) k + c * nth (pass m) k := by
  rw [nth_pass _ _ (by omega), nth_pass _ _ hk, nth_pass _ _ (by omega)]
  unfold passAt
  rw [h1, h2, h (k - 1) (by omega), h k hk, h (min (l.length - 1) (k + 1)) (by omega)]
  have e : c * (nth m (k - 1) + 2 * nth m k + nth m (min (l.length - 1) (k + 1))) = c * nth m (k - 1) + 2 * (c * nth m k) + c * nth m (min (l.length - 1) (k + 1)) := by
    rw [Int.mul_add, Int.mul_add, Int.mul_left_comm]
  rw [e]
  omega
theorem pass_mono (l r : List Int) (h2 : r.length = l.length) (h : ∀ k, k < l.length → nth l k ≤ nth r k) (k : Nat) (hk : k < l.length) : nth (pass l) k ≤ nth (pass r) k := by
  rw [nth_pass _ _ hk, nth_pass _ _ (by omega)]
  have a := h (k - 1) (by omega)
  have b := h k hk
  have c := h (min (l.length - 1) (k + 1)) (by omega)
  unfold passAt
  rw [h2]
  omega
theorem pass_flat (l : List Int) (c : Int) (h : ∀ k, k < l.length → nth l k = c) (k : Nat) (hk : k < l.length) : nth (pass l) k = 4 * c := by
  rw [nth_pass _ _ hk]
  unfold passAt
  rw [h (k - 1) (by omega), h k hk, h (min (l.length - 1) (k + 1)) (by omega)]
  omega
theorem many_flat (l : List Int) (c : Int) (h : ∀ k, k < l.length → nth l k = c) (n k : Nat) (hk : k < l.length) : nth (many l n) k = 4 ^ n * c := by
  induction n generalizing k with
  | zero => simpa [many] using h k hk
  | succ n ih =>
    rw [many, pass_flat (many l n) (4 ^ n * c) (fun k hk => ih k (by rwa [length_many] at hk)) k (by rwa [length_many]), Int.pow_succ, Int.mul_comm (4 ^ n) 4, Int.mul_assoc]
theorem many_shift (l r : List Int) (h2 : r.length = l.length) (h : ∀ k, k < l.length → nth r k = nth l k + 1) (n k : Nat) (hk : k < l.length) : nth (many r n) k = nth (many l n) k + 4 ^ n := by
  induction n generalizing k with
  | zero => simpa [many] using h k hk
  | succ n ih =>
    rw [many, many, nth_pass _ _ (by rw [length_many]; omega), nth_pass _ _ (by rwa [length_many])]
    unfold passAt
    rw [length_many, length_many, h2, ih (k - 1) (by omega), ih k hk, ih (min (l.length - 1) (k + 1)) (by omega), Int.pow_succ]
    omega
theorem many_neg (l r : List Int) (h2 : r.length = l.length) (h : ∀ k, k < l.length → nth r k = 0 - nth l k) (n k : Nat) (hk : k < l.length) : nth (many r n) k = 0 - nth (many l n) k := by
  induction n generalizing k with
  | zero => simpa [many] using h k hk
  | succ n ih =>
    rw [many, many, nth_pass _ _ (by rw [length_many]; omega), nth_pass _ _ (by rwa [length_many])]
    unfold passAt
    rw [length_many, length_many, h2, ih (k - 1) (by omega), ih k hk, ih (min (l.length - 1) (k + 1)) (by omega)]
    omega

theorem total_range (l : List Int) : low l * l.length ≤ total l ∧ total l ≤ high l * l.length := by
  unfold total
  rw [← sumF_const, ← sumF_const]
  exact ⟨sumF_le fun k hk => low_le l k hk, sumF_le fun k hk => high_ge l k hk⟩
theorem total_snoc (l : List Int) (z : Int) : total (l ++ [z]) = total l + z := by
  unfold total
  rw [List.length_append, List.length_singleton, sumF, nth_snoc, sumF_congr (fun k hk => nth_append_left l [z] k hk)]

end Go.Proofs.Ytkbhogajdjnfnaa
