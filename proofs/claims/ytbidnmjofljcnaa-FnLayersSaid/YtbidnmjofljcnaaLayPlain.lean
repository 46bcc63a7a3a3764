/- The plain mathematics of layers: a layer is a depth and whether it is sure. No program in sight. -/
import Derived.Test.YtbidnmjofljcnaaList
namespace Go.Proofs.Ytbidnmjofljcnaa

abbrev Lay := Int × Bool
def dep (l : List Lay) (k : Nat) : Int := ((l[k]?).getD (0, false)).1
def sur (l : List Lay) (k : Nat) : Bool := ((l[k]?).getD (0, false)).2

/-- Layers: at most 40, depths from 0 to 30000 that rise. -/
def okL (l : List Lay) : Bool := decide (l.length ≤ 40 ∧ ∀ k, k < l.length → (0 ≤ dep l k ∧ dep l k ≤ 30000 ∧ (0 < k → dep l (k - 1) < dep l k)))

theorem okL_len {l : List Lay} (h : okL l = true) : l.length ≤ 40 := (of_decide_eq_true h).1
theorem okL_at {l : List Lay} (h : okL l = true) (k : Nat) (hk : k < l.length) : 0 ≤ dep l k ∧ dep l k ≤ 30000 := by
  have := (of_decide_eq_true h).2 k hk; exact ⟨this.1, this.2.1⟩
theorem dep_out {l : List Lay} {k : Nat} (h : l.length ≤ k) : dep l k = 0 := by
  unfold dep; rw [List.getElem?_eq_none h]; rfl
theorem sur_out {l : List Lay} {k : Nat} (h : l.length ≤ k) : sur l k = false := by
  unfold sur; rw [List.getElem?_eq_none h]; rfl
theorem okL_bd {l : List Lay} (h : okL l = true) (k : Nat) : 0 ≤ dep l k ∧ dep l k ≤ 30000 := by
  by_cases hk : k < l.length
  · exact okL_at h k hk
  · rw [dep_out (by omega)]; omega
theorem okL_mk {l : List Lay} (h1 : l.length ≤ 40) (h : ∀ k, k < l.length → (0 ≤ dep l k ∧ dep l k ≤ 30000 ∧ (0 < k → dep l (k - 1) < dep l k))) : okL l = true := decide_eq_true ⟨h1, h⟩
theorem okL_no_at {l : List Lay} (k : Nat) (hk : k < l.length) (h : ¬ (0 ≤ dep l k ∧ dep l k ≤ 30000 ∧ (0 < k → dep l (k - 1) < dep l k))) : okL l = false := decide_eq_false fun hh => h (hh.2 k hk)
theorem okL_no_len {l : List Lay} (h : ¬ l.length ≤ 40) : okL l = false := decide_eq_false fun hh => h hh.1

theorem dep_cons_zero (x : Lay) (l : List Lay) : dep (x :: l) 0 = x.1 := rfl
theorem dep_cons_succ (x : Lay) (l : List Lay) (k : Nat) : dep (x :: l) (k + 1) = dep l k := rfl
theorem sur_cons_zero (x : Lay) (l : List Lay) : sur (x :: l) 0 = x.2 := rfl
theorem sur_cons_succ (x : Lay) (l : List Lay) (k : Nat) : sur (x :: l) (k + 1) = sur l k := rfl
theorem dep_append_left (l m : List Lay) (k : Nat) (h : k < l.length) : dep (l ++ m) k = dep l k := by
  unfold dep; rw [List.getElem?_append_left h]
theorem sur_append_left (l m : List Lay) (k : Nat) (h : k < l.length) : sur (l ++ m) k = sur l k := by
  unfold sur; rw [List.getElem?_append_left h]
theorem dep_snoc (l : List Lay) (z : Lay) : dep (l ++ [z]) l.length = z.1 := by unfold dep; simp
theorem sur_snoc (l : List Lay) (z : Lay) : sur (l ++ [z]) l.length = z.2 := by unfold sur; simp
theorem lay_ext {l m : List Lay} (h : l.length = m.length) (hd : ∀ k, k < l.length → dep l k = dep m k) (hs : ∀ k, k < l.length → sur l k = sur m k) : l = m := by
  refine List.ext_getElem h fun k hk hm => ?_
  have a := hd k hk
  have b := hs k hk
  unfold dep at a
  unfold sur at b
  rw [List.getElem?_eq_getElem hk, List.getElem?_eq_getElem hm] at a b
  exact Prod.ext a b
theorem lay_getElem {l : List Lay} {k : Nat} (h : k < l.length) : l[k]? = some (dep l k, sur l k) := by
  unfold dep sur; rw [List.getElem?_eq_getElem h]; rfl

/-! rising -/
def Rise (l : List Lay) : Prop := l.Pairwise (fun x y => x.1 < y.1)
theorem okL_rise {l : List Lay} (h : okL l = true) : Rise l := by
  have h2 := (of_decide_eq_true h).2
  clear h
  induction l with
  | nil => exact List.Pairwise.nil
  | cons x l ih =>
    have h' : ∀ k, k < l.length → (0 ≤ dep l k ∧ dep l k ≤ 30000 ∧ (0 < k → dep l (k - 1) < dep l k)) := fun k hk => by
      have := h2 (k + 1) (by simpa using hk)
      rw [dep_cons_succ] at this
      refine ⟨this.1, this.2.1, fun h0 => ?_⟩
      have c := this.2.2 (by omega)
      obtain ⟨j, rfl⟩ : ∃ j, k = j + 1 := ⟨k - 1, by omega⟩
      exact c
    have r := ih h'
    refine List.Pairwise.cons (fun y hy => ?_) r
    cases l with
    | nil => cases hy
    | cons z l =>
      have c := (h2 1 (by simp)).2.2 (by omega)
      have c' : x.1 < z.1 := c
      rcases List.mem_cons.1 hy with rfl | hy
      · exact c'
      · have := (List.pairwise_cons.1 r).1 y hy
        omega
theorem rise_okL {l : List Lay} (h1 : l.length ≤ 40) (h2 : ∀ x ∈ l, 0 ≤ x.1 ∧ x.1 ≤ 30000) (h3 : Rise l) : okL l = true := by
  refine okL_mk h1 fun k hk => ?_
  have e := lay_getElem hk
  have m := h2 _ (List.mem_of_getElem? e)
  refine ⟨m.1, m.2, fun h0 => ?_⟩
  have hk1 : k - 1 < l.length := by omega
  have p := List.pairwise_iff_getElem.1 h3 (k - 1) k hk1 hk (by omega)
  have e1 := lay_getElem hk1
  rw [List.getElem?_eq_getElem hk] at e
  rw [List.getElem?_eq_getElem hk1] at e1
  injection e with e
  injection e1 with e1
  rw [e, e1] at p
  exact p
theorem okL_mem {l : List Lay} (h : okL l = true) : ∀ x ∈ l, 0 ≤ x.1 ∧ x.1 ≤ 30000 := by
  intro x hx
  obtain ⟨k, hk, rfl⟩ := List.getElem_of_mem hx
  have := okL_at h k hk
  unfold dep at this
  rw [List.getElem?_eq_getElem hk] at this
  exact this
theorem okL_iff {l : List Lay} : okL l = true ↔ l.length ≤ 40 ∧ (∀ x ∈ l, 0 ≤ x.1 ∧ x.1 ≤ 30000) ∧ Rise l :=
  ⟨fun h => ⟨okL_len h, okL_mem h, okL_rise h⟩, fun h => rise_okL h.1 h.2.1 h.2.2⟩
theorem okL_sub {l m : List Lay} (h : okL l = true) (hs : m.Sublist l) : okL m = true := by
  obtain ⟨h1, h2, h3⟩ := okL_iff.1 h
  exact okL_iff.2 ⟨Nat.le_trans hs.length_le h1, fun x hx => h2 x (hs.subset hx), h3.sublist hs⟩

/-! counts -/
def inR (l : List Lay) (top bottom : Int) (k : Nat) : Int := if top ≤ dep l k ∧ dep l k < bottom then 1 else 0
def inS (l : List Lay) (top bottom : Int) (k : Nat) : Int := if (top ≤ dep l k ∧ dep l k < bottom) ∧ sur l k = true then 1 else 0
def allTo (l : List Lay) (top bottom : Int) (k : Nat) : Int := sumF (inR l top bottom) k
def sureTo (l : List Lay) (top bottom : Int) (k : Nat) : Int := sumF (inS l top bottom) k
def cAll (l : List Lay) (top bottom : Int) : Int := allTo l top bottom l.length
def cSure (l : List Lay) (top bottom : Int) : Int := sureTo l top bottom l.length

theorem allTo_bd (l : List Lay) (t b : Int) (k : Nat) : 0 ≤ allTo l t b k ∧ allTo l t b k ≤ k := by
  induction k with
  | zero => simp [allTo, sumF]
  | succ k ih =>
    unfold allTo at ih ⊢
    rw [sumF]
    unfold inR at ih ⊢
    split <;> omega
theorem sureTo_bd (l : List Lay) (t b : Int) (k : Nat) : 0 ≤ sureTo l t b k ∧ sureTo l t b k ≤ allTo l t b k := by
  induction k with
  | zero => simp [allTo, sureTo, sumF]
  | succ k ih =>
    unfold allTo sureTo at ih ⊢
    rw [sumF, sumF]
    have : 0 ≤ inS l t b k ∧ inS l t b k ≤ inR l t b k := by
      unfold inS inR
      by_cases h1 : t ≤ dep l k ∧ dep l k < b
      · by_cases h2 : sur l k = true
        · rw [if_pos ⟨h1, h2⟩, if_pos h1]; omega
        · rw [if_neg (fun h => h2 h.2), if_pos h1]; omega
      · rw [if_neg (fun h => h1 h.1), if_neg h1]; omega
    omega
theorem cAll_bd (l : List Lay) (t b : Int) : 0 ≤ cAll l t b ∧ cAll l t b ≤ l.length := allTo_bd l t b _
theorem cSure_bd (l : List Lay) (t b : Int) : 0 ≤ cSure l t b ∧ cSure l t b ≤ cAll l t b := sureTo_bd l t b _
theorem cAll_split (l : List Lay) (t d b : Int) (h1 : t ≤ d) (h2 : d ≤ b) : cAll l t d + cAll l d b = cAll l t b := by
  unfold cAll allTo
  rw [← sumF_add]
  refine sumF_congr fun k _ => ?_
  unfold inR
  by_cases c1 : dep l k < d
  · by_cases c2 : t ≤ dep l k
    · rw [if_pos ⟨c2, c1⟩, if_neg (by omega), if_pos (by omega)]; rfl
    · rw [if_neg (by omega), if_neg (by omega), if_neg (by omega)]; rfl
  · by_cases c2 : dep l k < b
    · rw [if_neg (by omega), if_pos (by omega), if_pos (by omega)]; rfl
    · rw [if_neg (by omega), if_neg (by omega), if_neg (by omega)]; rfl
theorem cSure_split (l : List Lay) (t d b : Int) (h1 : t ≤ d) (h2 : d ≤ b) : cSure l t d + cSure l d b = cSure l t b := by
  unfold cSure sureTo
  rw [← sumF_add]
  refine sumF_congr fun k _ => ?_
  unfold inS
  by_cases hs : sur l k = true
  · by_cases c1 : dep l k < d
    · by_cases c2 : t ≤ dep l k
      · rw [if_pos ⟨⟨c2, c1⟩, hs⟩, if_neg (by omega), if_pos ⟨⟨c2, by omega⟩, hs⟩]; rfl
      · rw [if_neg (by omega), if_neg (by omega), if_neg (by omega)]; rfl
    · by_cases c2 : dep l k < b
      · rw [if_neg (by omega), if_pos ⟨⟨by omega, c2⟩, hs⟩, if_pos ⟨⟨by omega, c2⟩, hs⟩]; rfl
      · rw [if_neg (by omega), if_neg (by omega), if_neg (by omega)]; rfl
  · rw [if_neg (fun h => hs h.2), if_neg (fun h => hs h.2), if_neg (fun h => hs h.2)]; rfl
theorem cAll_none (l : List Lay) (b : Int) : cAll l b b = 0 := by
  have := cAll_split l b b b (Int.le_refl _) (Int.le_refl _); omega
theorem cSure_none (l : List Lay) (b : Int) : cSure l b b = 0 := by
  have := cSure_split l b b b (Int.le_refl _) (Int.le_refl _); omega
theorem cAll_wider (l : List Lay) (t b t' b' : Int) (h0 : t ≤ b) (h1 : t' ≤ t) (h2 : b ≤ b') : cAll l t b ≤ cAll l t' b' := by
  have a := cAll_split l t' t b' h1 (by omega)
  have c := cAll_split l t b b' h0 h2
  have d := (cAll_bd l t' t).1
  have e := (cAll_bd l b b').1
  omega
theorem cSure_wider (l : List Lay) (t b t' b' : Int) (h0 : t ≤ b) (h1 : t' ≤ t) (h2 : b ≤ b') : cSure l t b ≤ cSure l t' b' := by
  have a := cSure_split l t' t b' h1 (by omega)
  have c := cSure_split l t b b' h0 h2
  have d := (cSure_bd l t' t).1
  have e := (cSure_bd l b b').1
  omega

/-- All layers sure, or none. -/
def setS (s : Bool) (l : List Lay) : List Lay := l.map (fun x => (x.1, s))
theorem dep_setS (s : Bool) (l : List Lay) (k : Nat) : dep (setS s l) k = dep l k := by
  unfold dep setS
  rw [List.getElem?_map]
  cases l[k]? <;> rfl
theorem sur_setS (s : Bool) (l : List Lay) (k : Nat) (h : k < l.length) : sur (setS s l) k = s := by
  unfold sur setS
  rw [List.getElem?_map, List.getElem?_eq_getElem h]
  rfl
theorem length_setS (s : Bool) (l : List Lay) : (setS s l).length = l.length := by simp [setS]
theorem okL_setS {l : List Lay} (s : Bool) (h : okL l = true) : okL (setS s l) = true := by
  have := of_decide_eq_true h
  refine okL_mk (by rw [length_setS]; exact this.1) fun k hk => ?_
  rw [dep_setS, dep_setS]
  exact this.2 k (by rwa [length_setS] at hk)
theorem cAll_setS (s : Bool) (l : List Lay) (t b : Int) : cAll (setS s l) t b = cAll l t b := by
  unfold cAll allTo
  rw [length_setS]
  refine sumF_congr fun k _ => ?_
  unfold inR
  rw [dep_setS]
theorem cSure_true (l : List Lay) (t b : Int) : cSure (setS true l) t b = cAll l t b := by
  unfold cSure cAll sureTo allTo
  rw [length_setS]
  refine sumF_congr fun k hk => ?_
  unfold inR inS
  rw [dep_setS, sur_setS _ _ _ hk]
  simp
theorem cSure_false (l : List Lay) (t b : Int) : cSure (setS false l) t b = 0 := by
  unfold cSure sureTo
  rw [length_setS, sumF_congr (h := fun _ => 0), sumF_const]
  · simp
  · intro k hk
    unfold inS
    rw [sur_setS _ _ _ hk]
    simp

/-! one more depth: at most one layer more -/
theorem cAll_one (l : List Lay) (h : Rise l) (d : Int) : cAll l d (d + 1) ≤ 1 := by
  have key : ∀ n, n ≤ l.length → allTo l d (d + 1) n ≤ 1 ∧ (0 < allTo l d (d + 1) n → ∃ j, j < n ∧ dep l j = d) := by
    intro n
    induction n with
    | zero => intro _; simp [allTo, sumF]
    | succ n ih =>
      intro hn
      obtain ⟨a, b⟩ := ih (by omega)
      have nn := (allTo_bd l d (d + 1) n).1
      have e : allTo l d (d + 1) (n + 1) = allTo l d (d + 1) n + inR l d (d + 1) n := rfl
      rw [e]
      unfold inR
      by_cases c : d ≤ dep l n ∧ dep l n < d + 1
      · rw [if_pos c]
        by_cases z : 0 < allTo l d (d + 1) n
        · obtain ⟨j, hj, ej⟩ := b z
          have p := List.pairwise_iff_getElem.1 h j n (by omega) (by omega) hj
          have e1 := lay_getElem (l := l) (k := j) (by omega)
          have e2 := lay_getElem (l := l) (k := n) (by omega)
          rw [List.getElem?_eq_getElem (by omega)] at e1 e2
          injection e1 with e1
          injection e2 with e2
          rw [e1, e2] at p
          simp at p
          omega
        · exact ⟨by omega, fun _ => ⟨n, by omega, by omega⟩⟩
      · rw [if_neg c]
        exact ⟨by omega, fun z => by obtain ⟨j, hj, ej⟩ := b (by omega); exact ⟨j, by omega, ej⟩⟩
  exact (key _ (Nat.le_refl _)).1

/-! sure depths -/
def sureD (l : List Lay) : List Int := (l.filter (·.2)).map (·.1)
def diffs (l : List Int) : List Int := (List.range (l.length - 1)).map fun k => nth l (k + 1) - nth l k

end Go.Proofs.Ytbidnmjofljcnaa
