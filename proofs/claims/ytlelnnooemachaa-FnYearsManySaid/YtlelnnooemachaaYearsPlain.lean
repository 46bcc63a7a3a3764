/- The plain mathematics of the numbers of cuts, and of allowed cuts. No program in sight. -/
import Derived.Test.YtlelnnooemachaaCutsPlain
import Derived.Test.YtlelnnooemachaaList
namespace Go.Proofs.Ytlelnnooemachaa.Plain

/-- If there is a way to cut n places, some number of cuts fits. -/
theorem sumW_pos (L : List Int) (k l j : Nat) (h : 0 < sumW L k l j) : ∃ i, i < j ∧ 0 < (L[k - (l + i)]?).getD 0 := by
  induction j with
  | zero => simp [sumW] at h
  | succ j ih =>
    rw [sumW] at h
    by_cases c : 0 < (L[k - (l + j)]?).getD 0
    · exact ⟨j, by omega, c⟩
    · obtain ⟨i, hi, e⟩ := ih (by omega)
      exact ⟨i, by omega, e⟩
theorem ways_fit (l m : Nat) (hl : 1 ≤ l) : ∀ n : Nat, 0 < ways l m n → ∃ k, k * l ≤ n ∧ n ≤ k * m := by
  intro n
  induction n using Nat.strongRecOn with
  | _ n ih =>
    intro h
    match n, h, ih with
    | 0, _, _ => exact ⟨0, by omega, by omega⟩
    | n + 1, h, ih =>
      rw [ways_succ] at h
      obtain ⟨i, hi, e⟩ := sumW_pos _ _ _ _ h
      rw [waysL_at _ _ _ _ (by omega)] at e
      obtain ⟨k, h1, h2⟩ := ih _ (by omega) e
      refine ⟨k + 1, ?_, ?_⟩
      · rw [Nat.add_mul]; omega
      · rw [Nat.add_mul]; omega

/-- The least and the greatest number of cuts. -/
def yLow (n m : Nat) : Nat := (n + m - 1) / m
def yHigh (n l : Nat) : Nat := n / l
theorem yLow_le (n m k : Nat) (hm : 1 ≤ m) : yLow n m ≤ k ↔ n ≤ k * m := by
  unfold yLow
  rw [Nat.div_le_iff_le_mul (by omega)]
  omega
theorem yHigh_ge (n l k : Nat) (hl : 1 ≤ l) : k ≤ yHigh n l ↔ k * l ≤ n := by
  unfold yHigh
  rw [Nat.le_div_iff_mul_le (by omega)]
theorem years_fit (l m n : Nat) (hl : 1 ≤ l) (hm : 1 ≤ m) (h : 0 < ways l m n) : yLow n m ≤ yHigh n l := by
  obtain ⟨k, h1, h2⟩ := ways_fit l m hl n h
  exact Nat.le_trans ((yLow_le n m k hm).2 h2) ((yHigh_ge n l k hl).2 h1)
theorem yLow_pos (n m : Nat) (hn : 1 ≤ n) (hm : 1 ≤ m) : 1 ≤ yLow n m := by
  rcases Nat.eq_zero_or_pos (yLow n m) with h | h
  · have := (yLow_le n m 0 hm).1 (by omega)
    omega
  · exact h
theorem yHigh_le (n l : Nat) : yHigh n l ≤ n := Nat.div_le_self _ _

/-- What the reference has found behind k rounds. -/
def loAt (n m k : Nat) : Nat := if yLow n m ≤ k then yLow n m else 0
def hiAt (n l m k : Nat) : Nat := if yLow n m ≤ k then min k (yHigh n l) else 0

end Go.Proofs.Ytlelnnooemachaa.Plain
namespace Go.Proofs.Ytlelnnooemachaa

/-- A signal: 1 to 16 costs from 0 to 1000. -/
def okSig (l : List Int) : Bool := decide (1 ≤ l.length ∧ l.length ≤ 16 ∧ ∀ x ∈ l, 0 ≤ x ∧ x ≤ 1000)
theorem okSig_len {l : List Int} (h : okSig l = true) : 1 ≤ l.length ∧ l.length ≤ 16 := by
  have := of_decide_eq_true h; exact ⟨this.1, this.2.1⟩
theorem okSig_nth {l : List Int} (h : okSig l = true) (k : Nat) (hk : k < l.length) : 0 ≤ nth l k ∧ nth l k ≤ 1000 := (of_decide_eq_true h).2.2 _ (nth_mem hk)
theorem okSig_mk {l : List Int} (h1 : 1 ≤ l.length) (h2 : l.length ≤ 16) (h : ∀ k, k < l.length → 0 ≤ nth l k ∧ nth l k ≤ 1000) : okSig l = true := by
  refine decide_eq_true ⟨h1, h2, fun x hx => ?_⟩
  obtain ⟨k, hk, rfl⟩ := nth_of_mem hx
  exact h k hk
theorem okSig_no_at {l : List Int} (k : Nat) (hk : k < l.length) (h : ¬ (0 ≤ nth l k ∧ nth l k ≤ 1000)) : okSig l = false :=
  decide_eq_false fun hh => h (hh.2.2 _ (nth_mem hk))
theorem okSig_no_len {l : List Int} (h : ¬ (1 ≤ l.length ∧ l.length ≤ 16)) : okSig l = false :=
  decide_eq_false fun hh => h ⟨hh.1, hh.2.1⟩

/-- The cut ahead of the k-th. -/
def prev (cuts : List Int) (k : Nat) : Int := if k = 0 then -1 else nth cuts (k - 1)
/-- The first k cuts have allowed distances. -/
def Chain (cuts : List Int) (l m : Int) (k : Nat) : Prop := ∀ j, j < k → prev cuts j + l ≤ nth cuts j ∧ nth cuts j ≤ prev cuts j + m
theorem Chain.succ {cuts : List Int} {l m : Int} {k : Nat} (h : Chain cuts l m k) (h1 : prev cuts k + l ≤ nth cuts k) (h2 : nth cuts k ≤ prev cuts k + m) : Chain cuts l m (k + 1) := fun j hj => by
  by_cases e : j = k
  · subst e; exact ⟨h1, h2⟩
  · exact h j (by omega)
theorem Chain.prev_bd {cuts : List Int} {l m : Int} {k : Nat} (h : Chain cuts l m k) (hl : 1 ≤ l) (hm : m ≤ 16) (i : Nat) (hi : i ≤ k) : -1 ≤ prev cuts i ∧ prev cuts i ≤ 16 * i := by
  induction i with
  | zero => simp [prev]
  | succ i ih =>
    have a := ih (by omega)
    have b := h i (by omega)
    have e : prev cuts (i + 1) = nth cuts i := by simp [prev]
    rw [e]
    omega
theorem Chain.rise {cuts : List Int} {l m : Int} {k : Nat} (h : Chain cuts l m k) (hl : 1 ≤ l) (i d : Nat) (hi : i + d < k) : nth cuts i ≤ nth cuts (i + d) := by
  induction d with
  | zero => exact Int.le_refl _
  | succ d ih =>
    have a := ih (by omega)
    have b := (h (i + (d + 1)) hi).1
    have e : prev cuts (i + (d + 1)) = nth cuts (i + d) := by
      unfold prev
      rw [if_neg (by omega)]
      rfl
    rw [e] at b
    omega
instance (cuts : List Int) (l m : Int) (k : Nat) : Decidable (Chain cuts l m k) := by unfold Chain; infer_instance
/-- Allowed cuts. -/
def okCuts (costs : List Int) (l m : Int) (cuts : List Int) : Bool :=
  decide (okSig costs = true ∧ 1 ≤ l ∧ l ≤ m ∧ m ≤ 16 ∧ Chain cuts l m cuts.length ∧ 0 < cuts.length ∧ nth cuts (cuts.length - 1) = costs.length - 1)
theorem okCuts_no_sig {costs cuts : List Int} {l m : Int} (h : okSig costs = false) : okCuts costs l m cuts = false := by
  unfold okCuts; rw [decide_eq_false_iff_not]; rintro ⟨h1, _⟩; rw [h] at h1; cases h1
theorem okCuts_no_lim {costs cuts : List Int} {l m : Int} (h : ¬ (1 ≤ l ∧ l ≤ m ∧ m ≤ 16)) : okCuts costs l m cuts = false := by
  unfold okCuts; rw [decide_eq_false_iff_not]; rintro ⟨_, h1, h2, h3, _⟩; exact h ⟨h1, h2, h3⟩
theorem okCuts_no_nil {costs cuts : List Int} {l m : Int} (h : cuts.length = 0) : okCuts costs l m cuts = false := by
  unfold okCuts; rw [decide_eq_false_iff_not]; rintro ⟨_, _, _, _, _, h1, _⟩; omega
theorem okCuts_no_last {costs cuts : List Int} {l m : Int} (h : nth cuts (cuts.length - 1) ≠ costs.length - 1) : okCuts costs l m cuts = false := by
  unfold okCuts; rw [decide_eq_false_iff_not]; rintro ⟨_, _, _, _, _, _, h1⟩; exact h h1
theorem okCuts_no_at {costs cuts : List Int} {l m : Int} (k : Nat) (hk : k < cuts.length) (h : ¬ (prev cuts k + l ≤ nth cuts k ∧ nth cuts k ≤ prev cuts k + m)) : okCuts costs l m cuts = false := by
  unfold okCuts; rw [decide_eq_false_iff_not]; rintro ⟨_, _, _, _, hc, _, _⟩; exact h (hc k hk)
theorem okCuts_no_far {costs cuts : List Int} {l m : Int} (k : Nat) (hk : k < cuts.length) (h : (costs.length : Int) ≤ nth cuts k) : okCuts costs l m cuts = false := by
  unfold okCuts; rw [decide_eq_false_iff_not]; rintro ⟨_, h1, _, _, hc, _, he⟩
  have := hc.rise h1 k (cuts.length - 1 - k) (by omega)
  rw [show k + (cuts.length - 1 - k) = cuts.length - 1 by omega, he] at this
  omega
theorem okCuts_yes {costs cuts : List Int} {l m : Int} (h1 : okSig costs = true) (h2 : 1 ≤ l) (h3 : l ≤ m) (h4 : m ≤ 16) (h5 : Chain cuts l m cuts.length) (h6 : prev cuts cuts.length = costs.length - 1) : okCuts costs l m cuts = true := by
  unfold okCuts
  rw [decide_eq_true_iff]
  have hn : 0 < cuts.length := by
    rcases Nat.eq_zero_or_pos cuts.length with h | h
    · rw [h] at h6
      have := (okSig_len h1).1
      simp [prev] at h6
      omega
    · exact h
  refine ⟨h1, h2, h3, h4, h5, hn, ?_⟩
  rw [← h6]
  unfold prev
  rw [if_neg (by omega)]
theorem okCuts_parts {costs cuts : List Int} {l m : Int} (h : okCuts costs l m cuts = true) : okSig costs = true ∧ 1 ≤ l ∧ l ≤ m ∧ m ≤ 16 ∧ Chain cuts l m cuts.length ∧ 0 < cuts.length ∧ nth cuts (cuts.length - 1) = costs.length - 1 := by
  unfold okCuts at h; exact of_decide_eq_true h
/-- Each allowed cut is a place of the signal. -/
theorem okCuts_in {costs cuts : List Int} {l m : Int} (h : okCuts costs l m cuts = true) (k : Nat) (hk : k < cuts.length) : 0 ≤ nth cuts k ∧ nth cuts k < costs.length := by
  obtain ⟨h1, h2, h3, h4, h5, h6, h7⟩ := okCuts_parts h
  have a := h5.rise h2 k (cuts.length - 1 - k) (by omega)
  rw [show k + (cuts.length - 1 - k) = cuts.length - 1 by omega, h7] at a
  have b := h5.rise h2 0 k (by omega)
  have c := (h5 0 h6).1
  simp [prev] at c
  rw [Nat.zero_add] at b
  omega
/-- There are at most as many cuts as places. -/
theorem okCuts_many {costs cuts : List Int} {l m : Int} (h : okCuts costs l m cuts = true) : cuts.length ≤ 16 := by
  obtain ⟨h1, h2, h3, h4, h5, h6, h7⟩ := okCuts_parts h
  have key : ∀ k : Nat, k < cuts.length → (k : Int) ≤ nth cuts k := by
    intro k
    induction k with
    | zero => intro hk; have := (h5 0 hk).1; simp [prev] at this; omega
    | succ k ih =>
      intro hk
      have a := ih (by omega)
      have b := (h5 (k + 1) hk).1
      have e : prev cuts (k + 1) = nth cuts k := by simp [prev]
      rw [e] at b
      omega
  have := key (cuts.length - 1) (by omega)
  have := (okSig_len h1).2
  omega
def costAt (costs cuts : List Int) (k : Nat) : Int := nth costs (nth cuts k).toNat
def costTo (costs cuts : List Int) (k : Nat) : Int := sumF (costAt costs cuts) k

end Go.Proofs.Ytlelnnooemachaa
