/- Depths of sure layers, and their differences, in plain terms. -/
import Derived.Test.YtabbclfodlhikaaLayPlain
namespace Go.Proofs.Ytabbclfodlhikaa

def sdT (l : List Lay) (k : Nat) : List Int := sureD (l.take k)
theorem sdT_zero (l : List Lay) : sdT l 0 = [] := rfl
theorem sdT_sure {l : List Lay} {k : Nat} (h : k < l.length) (hs : sur l k = true) : sdT l (k + 1) = sdT l k ++ [dep l k] := by
  unfold sdT sureD
  rw [List.take_add_one, lay_getElem h, hs]; simp
theorem sdT_un {l : List Lay} {k : Nat} (h : k < l.length) (hs : sur l k = false) : sdT l (k + 1) = sdT l k := by
  unfold sdT sureD
  rw [List.take_add_one, lay_getElem h, hs]; simp
theorem sdT_all {l : List Lay} {k : Nat} (h : l.length ≤ k) : sdT l k = sureD l := by unfold sdT; rw [List.take_of_length_le h]
theorem sdT_split (l : List Lay) (k : Nat) : sureD l = sdT l k ++ sureD (l.drop k) := by
  unfold sdT sureD; rw [← List.map_append, ← List.filter_append, List.take_append_drop]
theorem sdT_len (l : List Lay) (k : Nat) : (sdT l k).length ≤ k := by
  unfold sdT sureD
  rw [List.length_map]
  exact Nat.le_trans (List.length_filter_le _ _) (by rw [List.length_take]; omega)
theorem sureD_len (l : List Lay) : (sureD l).length ≤ l.length := by
  unfold sureD; rw [List.length_map]; exact List.length_filter_le _ _
theorem sdT_le (l : List Lay) (k : Nat) : (sdT l k).length ≤ (sureD l).length := by
  rw [sdT_split l k, List.length_append]; omega
theorem nth_sdT {l : List Lay} {k j : Nat} (h : j < (sdT l k).length) : nth (sureD l) j = nth (sdT l k) j := by
  rw [sdT_split l k, nth_append_left _ _ _ h]
theorem sureD_mem {l : List Lay} (h : okL l = true) : ∀ x ∈ sureD l, 0 ≤ x ∧ x ≤ 30000 := by
  intro x hx
  obtain ⟨y, hy, rfl⟩ := List.mem_map.1 hx
  exact okL_mem h y (List.mem_filter.1 hy).1
theorem sureD_bd {l : List Lay} (h : okL l = true) (j : Nat) : 0 ≤ nth (sureD l) j ∧ nth (sureD l) j ≤ 30000 := by
  by_cases hj : j < (sureD l).length
  · exact sureD_mem h _ (nth_mem hj)
  · unfold nth; rw [List.getElem?_eq_none (by omega)]; simp
theorem sureD_rise {l : List Lay} (h : okL l = true) : (sureD l).Pairwise (· < ·) := by
  unfold sureD
  rw [List.pairwise_map]
  exact (okL_rise h).filter _
theorem nth_get {l : List Int} {k : Nat} (h : k < l.length) : nth l k = l[k] := by
  unfold nth; rw [List.getElem?_eq_getElem h]; rfl
theorem rise_lt {s : List Int} (h : s.Pairwise (· < ·)) {i j : Nat} (hij : i < j) (hj : j < s.length) : nth s i < nth s j := by
  have := List.pairwise_iff_getElem.1 h i j (by omega) hj hij
  rwa [nth_get (by omega), nth_get hj]

/-- What a list of layers has of sure depths: none if they are no layers. -/
def sdV (l : List Lay) : List Int := if okL l = true then sureD l else []
theorem sdV_ok {l : List Lay} (h : okL l = true) : sdV l = sureD l := if_pos h
theorem sdV_no {l : List Lay} (h : okL l = false) : sdV l = [] := if_neg (by rw [h]; simp)

theorem nth_map_range' (g : Nat → Int) (n k : Nat) (h : k < n) : nth ((List.range n).map g) k = g k := by
  unfold nth; rw [List.getElem?_map, List.getElem?_range h]; rfl
theorem length_diffs (s : List Int) : (diffs s).length = s.length - 1 := by simp [diffs]
theorem nth_diffs {s : List Int} {k : Nat} (h : k < s.length - 1) : nth (diffs s) k = nth s (k + 1) - nth s k := nth_map_range' _ _ _ h
theorem diffs_short {s : List Int} (h : s.length ≤ 1) : diffs s = [] := by
  unfold diffs; rw [show s.length - 1 = 0 by omega]; rfl
theorem diffs_snoc {s : List Int} {m : Nat} (h : s.length = m + 1) (x : Int) : diffs (s ++ [x]) = diffs s ++ [x - nth s m] := by
  unfold diffs
  rw [List.length_append, List.length_singleton, h]
  rw [show m + 1 + 1 - 1 = m + 1 by omega, show m + 1 - 1 = m by omega, List.range_succ, List.map_append]
  congr 1
  · refine List.map_congr_left fun k hk => ?_
    have := List.mem_range.1 hk
    rw [nth_append_left _ _ _ (by omega), nth_append_left _ _ _ (by omega)]
  · have e : nth (s ++ [x]) (m + 1) = x := by rw [← h]; exact nth_snoc s x
    rw [List.map_singleton, e, nth_append_left _ _ _ (by omega)]
theorem take_snoc {s : List Int} {k : Nat} (h : k < s.length) : s.take (k + 1) = s.take k ++ [nth s k] := by
  rw [List.take_add_one, List.getElem?_eq_getElem h, nth_get h]; rfl
theorem nth_take {s : List Int} {j k : Nat} (h : j < k) : nth (s.take k) j = nth s j := by
  unfold nth; rw [List.getElem?_take, if_pos h]
theorem diffs_take {s : List Int} {k : Nat} (h : k + 1 < s.length) : diffs (s.take (k + 2)) = diffs (s.take (k + 1)) ++ [nth s (k + 1) - nth s k] := by
  rw [take_snoc h, diffs_snoc (m := k) (by rw [List.length_take]; omega), nth_take (by omega)]

/-- The last one, -1 if there is none. -/
def lastD (s : List Int) : Int := if s.length = 0 then -1 else nth s (s.length - 1)
theorem lastD_nil : lastD [] = -1 := rfl
theorem lastD_snoc (s : List Int) (x : Int) : lastD (s ++ [x]) = x := by
  unfold lastD
  rw [if_neg (by simp), List.length_append, List.length_singleton, show s.length + 1 - 1 = s.length by omega, nth_snoc]
theorem lastD_neg {s : List Int} (hm : ∀ x ∈ s, 0 ≤ x) (h : lastD s < 0) : s = [] := by
  unfold lastD at h
  by_cases e : s.length = 0
  · exact List.length_eq_zero_iff.1 e
  · rw [if_neg e] at h
    have := hm _ (nth_mem (l := s) (k := s.length - 1) (by omega))
    omega
theorem lastD_pos {s : List Int} (h : 0 ≤ lastD s) : ∃ m, s.length = m + 1 ∧ lastD s = nth s m := by
  unfold lastD at h ⊢
  by_cases e : s.length = 0
  · rw [if_pos e] at h; omega
  · exact ⟨s.length - 1, by omega, by rw [if_neg e]⟩

/-! counts of sure layers, over the sure depths -/
theorem sureTo_count {l : List Lay} (t b : Int) : ∀ k, k ≤ l.length → sureTo l t b k = (((sdT l k).countP fun x => decide (t ≤ x ∧ x < b)) : Nat) := by
  intro k
  induction k with
  | zero => intro _; rfl
  | succ k ih =>
    intro hk
    have e : sureTo l t b (k + 1) = sureTo l t b k + inS l t b k := rfl
    rw [e, ih (by omega)]
    cases hs : sur l k with
    | true =>
      rw [sdT_sure (by omega) hs, List.countP_append, List.countP_singleton]
      unfold inS
      by_cases c : t ≤ dep l k ∧ dep l k < b
      · rw [if_pos ⟨c, hs⟩, if_pos (decide_eq_true c)]; omega
      · rw [if_neg (fun h => c h.1), if_neg (by rw [decide_eq_false c]; simp)]; omega
    | false =>
      rw [sdT_un (by omega) hs]
      unfold inS
      rw [hs, if_neg (by simp)]; omega
theorem cSure_count (l : List Lay) (t b : Int) : cSure l t b = (((sureD l).countP fun x => decide (t ≤ x ∧ x < b)) : Nat) := by
  have := sureTo_count (l := l) t b l.length (Nat.le_refl _)
  rw [sdT_all (Nat.le_refl _)] at this
  exact this
theorem count_cut {s : List Int} {b : Int} {j : Nat} (hj : j ≤ s.length) (h0 : ∀ x ∈ s, 0 ≤ x) (h1 : ∀ i, i < j → nth s i < b) (h2 : ∀ i, j ≤ i → i < s.length → b ≤ nth s i) : s.countP (fun x => decide (0 ≤ x ∧ x < b)) = j := by
  have e : s.countP (fun x => decide (0 ≤ x ∧ x < b)) = (s.take j).countP (fun x => decide (0 ≤ x ∧ x < b)) + (s.drop j).countP (fun x => decide (0 ≤ x ∧ x < b)) := by
    rw [← List.countP_append, List.take_append_drop]
  have a : (s.take j).countP (fun x => decide (0 ≤ x ∧ x < b)) = (s.take j).length := by
    rw [List.countP_eq_length]
    intro x hx
    obtain ⟨i, hi, rfl⟩ := List.getElem_of_mem hx
    rw [List.length_take] at hi
    have := h1 i (by omega)
    rw [nth_get (by omega)] at this
    have h0' := h0 _ (List.getElem_mem (l := s) (n := i) (by omega))
    rw [List.getElem_take]
    exact decide_eq_true ⟨h0', this⟩
  have c : (s.drop j).countP (fun x => decide (0 ≤ x ∧ x < b)) = 0 := by
    rw [List.countP_eq_zero]
    intro x hx
    obtain ⟨i, hi, rfl⟩ := List.getElem_of_mem hx
    rw [List.length_drop] at hi
    have := h2 (j + i) (by omega) (by omega)
    rw [nth_get (by omega)] at this
    rw [List.getElem_drop]
    simp
    intro _
    omega
  rw [e, a, c, List.length_take]; omega
theorem cSure_at {l : List Lay} (h : okL l = true) {j : Nat} (hj : j < (sureD l).length) : cSure l 0 (nth (sureD l) j) = j ∧ cSure l 0 (nth (sureD l) j + 1) = j + 1 := by
  have hr := sureD_rise h
  have h0 : ∀ x ∈ sureD l, 0 ≤ x := fun x hx => (sureD_mem h x hx).1
  rw [cSure_count, cSure_count]
  refine ⟨?_, ?_⟩
  · rw [count_cut (j := j) (by omega) h0 (fun i hi => rise_lt hr hi hj) (fun i hi hl => ?_)]
    by_cases e : i = j
    · subst e; exact Int.le_refl _
    · have := rise_lt hr (show j < i by omega) hl; omega
  · rw [count_cut (j := j + 1) (by omega) h0 (fun i hi => ?_) (fun i hi hl => ?_)]
    · simp
    · by_cases e : i = j
      · subst e; omega
      · have := rise_lt hr (show i < j by omega) hj; omega
    · have := rise_lt hr (show j < i by omega) hl; omega
theorem cSure_le (l : List Lay) (t b : Int) : cSure l t b ≤ (sureD l).length := by
  rw [cSure_count]; exact_mod_cast List.countP_le_length
theorem sum_diffs (s : List Int) (m : Nat) (h : m < s.length) : sumF (nth (diffs s)) m = nth s m - nth s 0 := by
  induction m with
  | zero => simp [sumF]
  | succ m ih =>
    rw [sumF, ih (by omega), nth_diffs (by omega)]; omega
theorem sureD_filter (l : List Lay) : sureD (l.filter (·.2)) = sureD l := by
  unfold sureD; rw [List.filter_filter]; simp
theorem sureD_filter_len (l : List Lay) : (sureD l).length = (l.filter (·.2)).length := by unfold sureD; simp

end Go.Proofs.Ytabbclfodlhikaa
