/- The plain mathematics of the cuts: the numbers of ways, as lists; no program in sight. -/
namespace Go.Proofs.Ytlelnnooemachaa.Plain

/-- The sum over d = least, least + 1, .. (j of them) of l at k - d. -/
def sumW (l : List Int) (k least : Nat) : Nat → Int
  | 0 => 0
  | j + 1 => sumW l k least j + (l[k - (least + j)]?).getD 0

/-- The numbers of ways for 0 to k places. -/
def waysL (least most : Nat) : Nat → List Int
  | 0 => [1]
  | k + 1 => waysL least most k ++ [sumW (waysL least most k) (k + 1) least (min most (k + 1) + 1 - least)]

def ways (least most n : Nat) : Int := ((waysL least most n)[n]?).getD 0

theorem length_waysL (least most k : Nat) : (waysL least most k).length = k + 1 := by
  induction k with
  | zero => rfl
  | succ k ih => simp [waysL, ih]

theorem waysL_bd (least most : Nat) (h1 : 1 ≤ least) (k : Nat) : ∀ i : Nat, 0 ≤ ((waysL least most k)[i]?).getD 0 ∧ ((waysL least most k)[i]?).getD 0 ≤ 2 ^ i := by
  induction k with
  | zero =>
    intro i
    match i with
    | 0 => simp [waysL]
    | i + 1 =>
      have : (0 : Int) ≤ 2 ^ (i + 1) := Int.pow_nonneg (by omega)
      simp [waysL, this]
  | succ k ih =>
    have hs : ∀ j, least + j ≤ k + 2 → 0 ≤ sumW (waysL least most k) (k + 1) least j ∧ sumW (waysL least most k) (k + 1) least j ≤ 2 ^ (k + 2 - least) - 2 ^ (k + 2 - least - j) := by
      intro j
      induction j with
      | zero => intro _; simp [sumW]
      | succ j ihj =>
        intro hj
        have a := ihj (by omega)
        have b := ih (k + 1 - (least + j))
        have e : k + 2 - least - j = (k + 1 - (least + j)) + 1 := by omega
        have e2 : k + 2 - least - (j + 1) = k + 1 - (least + j) := by omega
        rw [e, Int.pow_succ] at a
        rw [e2]
        simp only [sumW]
        omega
    intro i
    rcases Nat.lt_trichotomy i (k + 1) with h | h | h
    · have : ((waysL least most (k + 1))[i]?).getD 0 = ((waysL least most k)[i]?).getD 0 := by
        simp only [waysL]
        rw [List.getElem?_append_left (by rw [length_waysL]; exact h)]
      rw [this]; exact ih i
    · subst h
      have e : ((waysL least most (k + 1))[k + 1]?).getD 0 = sumW (waysL least most k) (k + 1) least (min most (k + 1) + 1 - least) := by
        simp only [waysL]
        rw [List.getElem?_append_right (by rw [length_waysL]; exact Nat.le_refl _)]
        simp [length_waysL]
      rw [e]
      by_cases hl : least ≤ min most (k + 1) + 1
      · have a := hs (min most (k + 1) + 1 - least) (by omega)
        have b : (2 : Int) ^ (k + 2 - least) ≤ 2 ^ (k + 1) := by
          have : (2 : Nat) ^ (k + 2 - least) ≤ 2 ^ (k + 1) := Nat.pow_le_pow_right (by omega) (by omega)
          exact_mod_cast this
        have c : (0 : Int) ≤ 2 ^ (k + 2 - least - (min most (k + 1) + 1 - least)) := Int.pow_nonneg (by omega)
        omega
      · have : min most (k + 1) + 1 - least = 0 := by omega
        rw [this]
        have : (0 : Int) ≤ 2 ^ (k + 1) := Int.pow_nonneg (by omega)
        simp [sumW, this]
    · have : ((waysL least most (k + 1))[i]?).getD 0 = 0 := by
        rw [List.getElem?_eq_none (by rw [length_waysL]; omega)]
        rfl
      rw [this]
      exact ⟨Int.le_refl _, Int.pow_nonneg (by omega)⟩

theorem waysL_le (least most : Nat) (h1 : 1 ≤ least) (k i : Nat) (hi : i ≤ 16) : 0 ≤ ((waysL least most k)[i]?).getD 0 ∧ ((waysL least most k)[i]?).getD 0 ≤ 65536 := by
  have a := waysL_bd least most h1 k i
  have b : (2 : Int) ^ i ≤ 65536 := by
    have h : (2 : Nat) ^ i ≤ 2 ^ 16 := Nat.pow_le_pow_right (by omega) hi
    have e : (2 : Nat) ^ 16 = 65536 := by decide
    rw [e] at h
    have h2 := Int.ofNat_le.2 h
    rw [Int.natCast_pow] at h2
    exact h2
  omega

theorem sumW_le (l : List Int) (k least : Nat) (hl : ∀ i : Nat, i ≤ 16 → 0 ≤ (l[i]?).getD 0 ∧ (l[i]?).getD 0 ≤ 65536) (hk : k ≤ 16) (j : Nat) : 0 ≤ sumW l k least j ∧ sumW l k least j ≤ 65536 * j := by
  induction j with
  | zero => simp [sumW]
  | succ j ih =>
    have := hl (k - (least + j)) (by omega)
    simp only [sumW]
    omega

theorem waysL_at (l m j x : Nat) (h : x ≤ j) : ((waysL l m j)[x]?).getD 0 = ways l m x := by
  induction j with
  | zero => obtain rfl : x = 0 := by omega
            rfl
  | succ j ih =>
    by_cases hx : x ≤ j
    · rw [← ih hx]
      simp only [waysL]
      rw [List.getElem?_append_left (by rw [length_waysL]; omega)]
    · obtain rfl : x = j + 1 := by omega
      rfl

theorem ways_succ (l m j : Nat) : ways l m (j + 1) = sumW (waysL l m j) (j + 1) l (min m (j + 1) + 1 - l) := by
  simp only [ways, waysL]
  rw [List.getElem?_append_right (by rw [length_waysL]; exact Nat.le_refl _)]
  simp [length_waysL]

/-- What the program's table holds at the head of round k. -/
def tab (l m k x : Nat) : Int := if x < max k 1 then ways l m x else 0
/-- .. and inside round k, behind i distances. -/
def tabIn (l m k i x : Nat) : Int := if x = k ∧ 0 < k then sumW (waysL l m (k - 1)) k l i else tab l m k x

theorem tabIn_zero (l m k x : Nat) : tabIn l m k 0 x = tab l m k x := by
  unfold tabIn tab
  by_cases h : x = k ∧ 0 < k
  · rw [if_pos h, if_neg (by omega)]; rfl
  · rw [if_neg h]

theorem tabIn_end (l m k i x : Nat) (hi : i = min m k + 1 - l) : tabIn l m k i x = tab l m (k + 1) x := by
  unfold tabIn tab
  by_cases h : x = k ∧ 0 < k
  · obtain ⟨rfl, h0⟩ := h
    rw [if_pos ⟨rfl, h0⟩, if_pos (by omega)]
    obtain ⟨j, rfl⟩ : ∃ j, x = j + 1 := ⟨x - 1, by omega⟩
    rw [ways_succ, hi]; rfl
  · rw [if_neg h]
    by_cases h1 : x < max k 1
    · rw [if_pos h1, if_pos (by omega)]
    · rw [if_neg h1, if_neg (by omega)]

theorem tabIn_step (l m k i x : Nat) (hl : 1 ≤ l) (h1 : l + i ≤ k) : tabIn l m k (i + 1) x = if x = k then tabIn l m k i k + tabIn l m k i (k - (l + i)) else tabIn l m k i x := by
  by_cases h : x = k
  · subst h
    rw [if_pos rfl]
    have a : tabIn l m x i (x - (l + i)) = ((waysL l m (x - 1))[x - (l + i)]?).getD 0 := by
      rw [waysL_at _ _ _ _ (by omega)]
      unfold tabIn tab
      rw [if_neg (by omega), if_pos (by omega)]
    rw [a]
    unfold tabIn
    rw [if_pos ⟨rfl, by omega⟩, if_pos ⟨rfl, by omega⟩]
    rfl
  · rw [if_neg h]
    unfold tabIn
    rw [if_neg (by omega), if_neg (by omega)]

theorem tab_bd (l m k x : Nat) (hl : 1 ≤ l) (hx : x ≤ 16) : 0 ≤ tab l m k x ∧ tab l m k x ≤ 65536 := by
  unfold tab
  by_cases h : x < max k 1
  · rw [if_pos h]; exact waysL_le l m hl x x hx
  · rw [if_neg h]; omega

theorem tabIn_bd (l m k i x : Nat) (hl : 1 ≤ l) (hk : k ≤ 16) (hi : i ≤ 17) (hx : x ≤ 16) : 0 ≤ tabIn l m k i x ∧ tabIn l m k i x ≤ 1200000 := by
  unfold tabIn
  by_cases h : x = k ∧ 0 < k
  · rw [if_pos h]
    have := sumW_le (waysL l m (k - 1)) k l (fun i hi => waysL_le l m hl (k - 1) i hi) hk i
    omega
  · rw [if_neg h]
    have := tab_bd l m k x hl hx
    omega

end Go.Proofs.Ytlelnnooemachaa.Plain
