/- Plain lists of integers by their places; sums over places. No program in sight. -/
namespace Go.Proofs.Ytdcmlmdoiekdfaa

/-- The k-th number of a list. -/
def nth (l : List Int) (k : Nat) : Int := (l[k]?).getD 0

theorem nth_append_left (l m : List Int) (k : Nat) (h : k < l.length) : nth (l ++ m) k = nth l k := by
  unfold nth; rw [List.getElem?_append_left h]
theorem nth_snoc (l : List Int) (z : Int) : nth (l ++ [z]) l.length = z := by
  unfold nth; simp
theorem nth_cons_zero (z : Int) (l : List Int) : nth (z :: l) 0 = z := rfl
theorem nth_cons_succ (z : Int) (l : List Int) (k : Nat) : nth (z :: l) (k + 1) = nth l k := rfl
theorem nth_mem {l : List Int} {k : Nat} (h : k < l.length) : nth l k ∈ l := by
  unfold nth; rw [List.getElem?_eq_getElem h]; exact List.getElem_mem h
theorem nth_of_mem {l : List Int} {z : Int} (h : z ∈ l) : ∃ k, k < l.length ∧ nth l k = z := by
  obtain ⟨k, hk, e⟩ := List.getElem_of_mem h
  exact ⟨k, hk, by unfold nth; rw [List.getElem?_eq_getElem hk, ← e]; rfl⟩
theorem nth_ext {l m : List Int} (h : l.length = m.length) (hn : ∀ k, k < l.length → nth l k = nth m k) : l = m := by
  refine List.ext_getElem h fun k hk hm => ?_
  have := hn k hk
  unfold nth at this
  rw [List.getElem?_eq_getElem hk, List.getElem?_eq_getElem hm] at this
  exact this
theorem nth_map_range (f : Nat → Int) (n k : Nat) (h : k < n) : nth ((List.range n).map f) k = f k := by
  unfold nth; simp [h]


/-- The sum of g over the places below n. -/
def sumF (g : Nat → Int) : Nat → Int
  | 0 => 0
  | n + 1 => sumF g n + g n

theorem sumF_congr {g h : Nat → Int} {n : Nat} (e : ∀ k, k < n → g k = h k) : sumF g n = sumF h n := by
  induction n with
  | zero => rfl
  | succ n ih => rw [sumF, sumF, ih (fun k hk => e k (by omega)), e n (by omega)]
theorem sumF_le {g h : Nat → Int} {n : Nat} (e : ∀ k, k < n → g k ≤ h k) : sumF g n ≤ sumF h n := by
  induction n with
  | zero => exact Int.le_refl _
  | succ n ih =>
    have a := ih (fun k hk => e k (by omega))
    have b := e n (by omega)
    simp only [sumF]; omega
theorem sumF_const (c : Int) (n : Nat) : sumF (fun _ => c) n = c * n := by
  induction n with
  | zero => simp [sumF]
  | succ n ih => rw [sumF, ih, Int.natCast_add, Int.mul_add]; simp
theorem sumF_shift (g : Nat → Int) (n : Nat) : sumF g (n + 1) = g 0 + sumF (fun k => g (k + 1)) n := by
  induction n with
  | zero => simp [sumF]
  | succ n ih => rw [sumF, ih, sumF]; omega
theorem sumF_rev (g : Nat → Int) (n : Nat) : sumF (fun k => g (n - 1 - k)) n = sumF g n := by
  induction n with
  | zero => rfl
  | succ n ih =>
    rw [sumF_shift, sumF]
    have e : sumF (fun k => g (n + 1 - 1 - (k + 1))) n = sumF (fun k => g (n - 1 - k)) n := sumF_congr fun k hk => by
      have : n + 1 - 1 - (k + 1) = n - 1 - k := by omega
      rw [this]
    rw [e, ih]
    have : n + 1 - 1 - 0 = n := by omega
    rw [this]; omega
theorem sumF_add (g h : Nat → Int) (n : Nat) : sumF (fun k => g k + h k) n = sumF g n + sumF h n := by
  induction n with
  | zero => rfl
  | succ n ih => simp only [sumF, ih]; omega
theorem sumF_mul (c : Int) (g : Nat → Int) (n : Nat) : sumF (fun k => c * g k) n = c * sumF g n := by
  induction n with
  | zero => simp [sumF]
  | succ n ih => simp only [sumF, ih, Int.mul_add]

end Go.Proofs.Ytdcmlmdoiekdfaa
