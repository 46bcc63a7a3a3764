/- Merging layers, in plain terms. -/
import Derived.Test.YtabbclfodlhikaaLayPlain2
namespace Go.Proofs.Ytabbclfodlhikaa

/-- One layer ahead of a merge that is known. -/
def mrgIn (x : Lay) (f : List Lay → List Lay) : List Lay → List Lay
  | [] => x :: f []
  | y :: b => if x.1 < y.1 then x :: f (y :: b) else if y.1 < x.1 then y :: mrgIn x f b else (x.1, x.2 || y.2) :: f b
/-- The merge: the upper layer first; layers at one depth become one. -/
def mrg (a : List Lay) : List Lay → List Lay := match a with
  | [] => fun b => b
  | x :: a => mrgIn x (mrg a)

theorem mrg_nil_left (b : List Lay) : mrg [] b = b := rfl
theorem mrg_nil_right (a : List Lay) : mrg a [] = a := by
  induction a with
  | nil => rfl
  | cons x a ih => show x :: mrg a [] = x :: a; rw [ih]
theorem mrg_lt {x y : Lay} {a b : List Lay} (h : x.1 < y.1) : mrg (x :: a) (y :: b) = x :: mrg a (y :: b) := by
  show mrgIn x (mrg a) (y :: b) = _
  rw [mrgIn, if_pos h]
theorem mrg_gt {x y : Lay} {a b : List Lay} (h : y.1 < x.1) : mrg (x :: a) (y :: b) = y :: mrg (x :: a) b := by
  show mrgIn x (mrg a) (y :: b) = y :: mrgIn x (mrg a) b
  rw [mrgIn, if_neg (by omega), if_pos h]
theorem mrg_eq {x y : Lay} {a b : List Lay} (h1 : ¬ x.1 < y.1) (h2 : ¬ y.1 < x.1) : mrg (x :: a) (y :: b) = (x.1, x.2 || y.2) :: mrg a b := by
  show mrgIn x (mrg a) (y :: b) = _
  rw [mrgIn, if_neg h1, if_neg h2]

/-- Induction along a merge. -/
theorem mrg_ind {P : List Lay → List Lay → List Lay → Prop} (h1 : ∀ b, P [] b b) (h2 : ∀ x a, P (x :: a) [] (x :: a))
    (h3 : ∀ x a y b, x.1 < y.1 → P a (y :: b) (mrg a (y :: b)) → P (x :: a) (y :: b) (x :: mrg a (y :: b)))
    (h4 : ∀ x a y b, y.1 < x.1 → P (x :: a) b (mrg (x :: a) b) → P (x :: a) (y :: b) (y :: mrg (x :: a) b))
    (h5 : ∀ x a y b, x.1 = y.1 → P a b (mrg a b) → P (x :: a) (y :: b) ((x.1, x.2 || y.2) :: mrg a b)) : ∀ a b, P a b (mrg a b) := by
  intro a
  induction a with
  | nil => intro b; rw [mrg_nil_left]; exact h1 b
  | cons x a iha =>
    intro b
    induction b with
    | nil => rw [mrg_nil_right]; exact h2 x a
    | cons y b ihb =>
      by_cases c1 : x.1 < y.1
      · rw [mrg_lt c1]; exact h3 x a y b c1 (iha (y :: b))
      · by_cases c2 : y.1 < x.1
        · rw [mrg_gt c2]; exact h4 x a y b c2 ihb
        · rw [mrg_eq c1 c2]; exact h5 x a y b (by omega) (iha b)

theorem mrg_len (a b : List Lay) : (mrg a b).length ≤ a.length + b.length := by
  refine mrg_ind (P := fun a b m => m.length ≤ a.length + b.length) ?_ ?_ ?_ ?_ ?_ a b
  · intro b; simp
  · intro x a; simp
  · intro x a y b _ h; simp only [List.length_cons] at h ⊢; omega
  · intro x a y b _ h; simp only [List.length_cons] at h ⊢; omega
  · intro x a y b _ h; simp only [List.length_cons] at h ⊢; omega
/-- Each depth of the merge is one of the two lists'. -/
theorem mrg_mem (a b : List Lay) : ∀ z ∈ mrg a b, ∃ u, (u ∈ a ∨ u ∈ b) ∧ u.1 = z.1 := by
  refine mrg_ind (P := fun a b m => ∀ z ∈ m, ∃ u, (u ∈ a ∨ u ∈ b) ∧ u.1 = z.1) ?_ ?_ ?_ ?_ ?_ a b
  · intro b z hz; exact ⟨z, .inr hz, rfl⟩
  · intro x a z hz; exact ⟨z, .inl hz, rfl⟩
  · intro x a y b _ h z hz
    rcases List.mem_cons.1 hz with rfl | hz
    · exact ⟨z, .inl (List.mem_cons_self ..), rfl⟩
    · obtain ⟨u, hu, e⟩ := h z hz
      exact ⟨u, hu.imp (fun h => List.mem_cons_of_mem _ h) id, e⟩
  · intro x a y b _ h z hz
    rcases List.mem_cons.1 hz with rfl | hz
    · exact ⟨z, .inr (List.mem_cons_self ..), rfl⟩
    · obtain ⟨u, hu, e⟩ := h z hz
      exact ⟨u, hu.imp id (fun h => List.mem_cons_of_mem _ h), e⟩
  · intro x a y b _ h z hz
    rcases List.mem_cons.1 hz with rfl | hz
    · exact ⟨x, .inl (List.mem_cons_self ..), rfl⟩
    · obtain ⟨u, hu, e⟩ := h z hz
      exact ⟨u, hu.imp (fun h => List.mem_cons_of_mem _ h) (fun h => List.mem_cons_of_mem _ h), e⟩
theorem rise_cons {x : Lay} {l : List Lay} : Rise (x :: l) ↔ (∀ y ∈ l, x.1 < y.1) ∧ Rise l := List.pairwise_cons
theorem mrg_rise (a b : List Lay) : Rise a → Rise b → Rise (mrg a b) := by
  refine mrg_ind (P := fun a b m => Rise a → Rise b → Rise m) ?_ ?_ ?_ ?_ ?_ a b
  · intro b _ h; exact h
  · intro x a h _; exact h
  · intro x a y b c h ha hb
    obtain ⟨ha1, ha2⟩ := rise_cons.1 ha
    have hb1 := (rise_cons.1 hb).1
    refine rise_cons.2 ⟨fun z hz => ?_, h ha2 hb⟩
    obtain ⟨u, hu, e⟩ := mrg_mem _ _ z hz
    rcases hu with hu | hu
    · have := ha1 u hu; omega
    · rcases List.mem_cons.1 hu with rfl | hu
      · omega
      · have := hb1 u hu; omega
  · intro x a y b c h ha hb
    obtain ⟨hb1, hb2⟩ := rise_cons.1 hb
    have ha1 := (rise_cons.1 ha).1
    refine rise_cons.2 ⟨fun z hz => ?_, h ha hb2⟩
    obtain ⟨u, hu, e⟩ := mrg_mem _ _ z hz
    rcases hu with hu | hu
    · rcases List.mem_cons.1 hu with rfl | hu
      · omega
      · have := ha1 u hu; omega
    · have := hb1 u hu; omega
  · intro x a y b c h ha hb
    obtain ⟨ha1, ha2⟩ := rise_cons.1 ha
    obtain ⟨hb1, hb2⟩ := rise_cons.1 hb
    refine rise_cons.2 ⟨fun z hz => ?_, h ha2 hb2⟩
    obtain ⟨u, hu, e⟩ := mrg_mem _ _ z hz
    show x.1 < z.1
    rcases hu with hu | hu
    · have := ha1 u hu; omega
    · have := hb1 u hu; omega
theorem mrg_ok {a b : List Lay} (ha : okL a = true) (hb : okL b = true) (hl : (mrg a b).length ≤ 40) : okL (mrg a b) = true := by
  refine rise_okL hl (fun z hz => ?_) (mrg_rise a b (okL_rise ha) (okL_rise hb))
  obtain ⟨u, hu, e⟩ := mrg_mem a b z hz
  rw [← e]
  rcases hu with hu | hu
  · exact okL_mem ha u hu
  · exact okL_mem hb u hu

/-! by depths -/
def look (l : List Lay) (d : Int) : Option Bool := match l with
  | [] => none
  | x :: l => if x.1 = d then some x.2 else look l d
def comb : Option Bool → Option Bool → Option Bool
  | none, q => q
  | some p, none => some p
  | some p, some q => some (p || q)
theorem look_none {l : List Lay} {d : Int} (h : ∀ y ∈ l, d < y.1) : look l d = none := by
  induction l with
  | nil => rfl
  | cons x l ih =>
    rw [look, if_neg (by have := h x (List.mem_cons_self ..); omega)]
    exact ih fun y hy => h y (List.mem_cons_of_mem _ hy)
theorem comb_none_right (p : Option Bool) : comb p none = p := by cases p <;> rfl
theorem look_mrg (a b : List Lay) (d : Int) : Rise a → Rise b → look (mrg a b) d = comb (look a d) (look b d) := by
  refine mrg_ind (P := fun a b m => Rise a → Rise b → look m d = comb (look a d) (look b d)) ?_ ?_ ?_ ?_ ?_ a b
  · intro b _ _; rfl
  · intro x a _ _; rw [show look [] d = none from rfl, comb_none_right]
  · intro x a y b c h ha hb
    obtain ⟨ha1, ha2⟩ := rise_cons.1 ha
    have hb1 := (rise_cons.1 hb).1
    by_cases e : x.1 = d
    · have : look (y :: b) d = none := look_none fun z hz => by
        rcases List.mem_cons.1 hz with rfl | hz
        · omega
        · have := hb1 z hz; omega
      rw [this, comb_none_right, look, look, if_pos e, if_pos e]
    · rw [look, if_neg e, h ha2 hb]
      rw [show look (x :: a) d = look a d by rw [look, if_neg e]]
  · intro x a y b c h ha hb
    obtain ⟨hb1, hb2⟩ := rise_cons.1 hb
    have ha1 := (rise_cons.1 ha).1
    by_cases e : y.1 = d
    · have : look (x :: a) d = none := look_none fun z hz => by
        rcases List.mem_cons.1 hz with rfl | hz
        · omega
        · have := ha1 z hz; omega
      rw [this, look, if_pos e]
      show some y.2 = look (y :: b) d
      rw [look, if_pos e]
    · rw [look, if_neg e, h ha hb2]
      rw [show look (y :: b) d = look b d by rw [look, if_neg e]]
  · intro x a y b c h ha hb
    obtain ⟨ha1, ha2⟩ := rise_cons.1 ha
    obtain ⟨hb1, hb2⟩ := rise_cons.1 hb
    by_cases e : x.1 = d
    · rw [look, if_pos e, look, if_pos e, look, if_pos (by omega)]; rfl
    · rw [look, if_neg e, h ha2 hb2, show look (x :: a) d = look a d by rw [look, if_neg e], show look (y :: b) d = look b d by rw [look, if_neg (by omega)]]
theorem look_ext : ∀ {l m : List Lay}, Rise l → Rise m → (∀ d, look l d = look m d) → l = m
  | [], [], _, _, _ => rfl
  | [], y :: m, _, _, h => by have := h y.1; rw [look, look, if_pos rfl] at this; cases this
  | x :: l, [], _, _, h => by have := h x.1; rw [look, look, if_pos rfl] at this; cases this
  | x :: l, y :: m, hl, hm, h => by
    obtain ⟨hl1, hl2⟩ := rise_cons.1 hl
    obtain ⟨hm1, hm2⟩ := rise_cons.1 hm
    have e1 : x.1 = y.1 := by
      rcases Int.lt_trichotomy x.1 y.1 with c | c | c
      · have := h x.1
        rw [look, if_pos rfl, look_none (l := y :: m)] at this
        · cases this
        · intro z hz
          rcases List.mem_cons.1 hz with rfl | hz
          · exact c
          · have := hm1 z hz; omega
      · exact c
      · have := h y.1
        rw [look_none (l := x :: l), look, if_pos rfl] at this
        · cases this
        · intro z hz
          rcases List.mem_cons.1 hz with rfl | hz
          · exact c
          · have := hl1 z hz; omega
    have e2 : x.2 = y.2 := by
      have := h x.1
      rw [look, if_pos rfl, look, if_pos e1.symm] at this
      injection this
    have e : x = y := Prod.ext e1 e2
    subst e
    congr 1
    refine look_ext hl2 hm2 fun d => ?_
    by_cases c : x.1 = d
    · subst c
      rw [look_none hl1, look_none hm1]
    · have := h d
      rw [look, if_neg c, look, if_neg c] at this
      exact this
theorem comb_comm (p q : Option Bool) : comb p q = comb q p := by cases p <;> cases q <;> simp [comb, Bool.or_comm]
theorem comb_idem (p : Option Bool) : comb p p = p := by cases p <;> simp [comb]
theorem comb_assoc (p q r : Option Bool) : comb (comb p q) r = comb p (comb q r) := by cases p <;> cases q <;> cases r <;> simp [comb, Bool.or_assoc]
theorem mrg_comm {a b : List Lay} (ha : Rise a) (hb : Rise b) : mrg b a = mrg a b :=
  look_ext (mrg_rise _ _ hb ha) (mrg_rise _ _ ha hb) fun d => by rw [look_mrg _ _ d hb ha, look_mrg _ _ d ha hb, comb_comm]
theorem mrg_idem {a : List Lay} (ha : Rise a) : mrg a a = a :=
  look_ext (mrg_rise _ _ ha ha) ha fun d => by rw [look_mrg _ _ d ha ha, comb_idem]
theorem mrg_assoc {a b c : List Lay} (ha : Rise a) (hb : Rise b) (hc : Rise c) : mrg (mrg a b) c = mrg a (mrg b c) :=
  look_ext (mrg_rise _ _ (mrg_rise _ _ ha hb) hc) (mrg_rise _ _ ha (mrg_rise _ _ hb hc)) fun d => by
    rw [look_mrg _ _ d (mrg_rise _ _ ha hb) hc, look_mrg _ _ d ha hb, look_mrg _ _ d ha (mrg_rise _ _ hb hc), look_mrg _ _ d hb hc, comb_assoc]
theorem mrg_again_left {a b : List Lay} (ha : Rise a) (hb : Rise b) : mrg (mrg a b) a = mrg a b := by
  rw [mrg_comm ha (mrg_rise _ _ ha hb), ← mrg_assoc ha ha hb, mrg_idem ha]
theorem mrg_again_right {a b : List Lay} (ha : Rise a) (hb : Rise b) : mrg b (mrg a b) = mrg a b := by
  rw [mrg_comm (mrg_rise _ _ ha hb) hb, mrg_assoc ha hb hb, mrg_idem hb]

/-! counts -/
def one (t b : Int) (x : Lay) : Int := if t ≤ x.1 ∧ x.1 < b then 1 else 0
def oneS (t b : Int) (x : Lay) : Int := if (t ≤ x.1 ∧ x.1 < b) ∧ x.2 = true then 1 else 0
theorem cAll_cons (x : Lay) (l : List Lay) (t b : Int) : cAll (x :: l) t b = one t b x + cAll l t b := by
  unfold cAll allTo
  rw [List.length_cons, sumF_shift]; rfl
theorem cSure_cons (x : Lay) (l : List Lay) (t b : Int) : cSure (x :: l) t b = oneS t b x + cSure l t b := by
  unfold cSure sureTo
  rw [List.length_cons, sumF_shift]; rfl
theorem one_bd (t b : Int) (x : Lay) : 0 ≤ one t b x ∧ one t b x ≤ 1 := by unfold one; split <;> omega
theorem oneS_bd (t b : Int) (x : Lay) : 0 ≤ oneS t b x ∧ oneS t b x ≤ 1 := by unfold oneS; split <;> omega
theorem mrg_cAll (a b : List Lay) (t u : Int) : cAll a t u ≤ cAll (mrg a b) t u ∧ cAll b t u ≤ cAll (mrg a b) t u ∧ cAll (mrg a b) t u ≤ cAll a t u + cAll b t u := by
  refine mrg_ind (P := fun a b m => cAll a t u ≤ cAll m t u ∧ cAll b t u ≤ cAll m t u ∧ cAll m t u ≤ cAll a t u + cAll b t u) ?_ ?_ ?_ ?_ ?_ a b
  · intro b; have := (cAll_bd b t u).1; have e : cAll [] t u = 0 := rfl; omega
  · intro x a; have := (cAll_bd (x :: a) t u).1; have e : cAll [] t u = 0 := rfl; omega
  · intro x a y b _ h
    have o := one_bd t u x
    rw [cAll_cons x a, cAll_cons x (mrg a (y :: b))]; omega
  · intro x a y b _ h
    have o := one_bd t u y
    rw [cAll_cons y b, cAll_cons y (mrg (x :: a) b)]; omega
  · intro x a y b e h
    have o := one_bd t u x
    have e1 : one t u y = one t u x := by unfold one; rw [e]
    have e2 : one t u (x.1, x.2 || y.2) = one t u x := rfl
    rw [cAll_cons x a, cAll_cons y b, cAll_cons (x.1, x.2 || y.2), e1, e2]; omega
theorem mrg_cSure (a b : List Lay) (t u : Int) : cSure a t u ≤ cSure (mrg a b) t u ∧ cSure b t u ≤ cSure (mrg a b) t u ∧ cSure (mrg a b) t u ≤ cSure a t u + cSure b t u := by
  refine mrg_ind (P := fun a b m => cSure a t u ≤ cSure m t u ∧ cSure b t u ≤ cSure m t u ∧ cSure m t u ≤ cSure a t u + cSure b t u) ?_ ?_ ?_ ?_ ?_ a b
  · intro b; have := (cSure_bd b t u).1; have e : cSure [] t u = 0 := rfl; omega
  · intro x a; have := (cSure_bd (x :: a) t u).1; have e : cSure [] t u = 0 := rfl; omega
  · intro x a y b _ h
    have o := oneS_bd t u x
    rw [cSure_cons x a, cSure_cons x (mrg a (y :: b))]; omega
  · intro x a y b _ h
    have o := oneS_bd t u y
    rw [cSure_cons y b, cSure_cons y (mrg (x :: a) b)]; omega
  · intro x a y b e h
    have o : oneS t u x ≤ oneS t u (x.1, x.2 || y.2) ∧ oneS t u y ≤ oneS t u (x.1, x.2 || y.2) ∧ oneS t u (x.1, x.2 || y.2) ≤ oneS t u x + oneS t u y := by
      unfold oneS
      rw [← e]
      by_cases c : t ≤ x.1 ∧ x.1 < u
      · cases hx : x.2 <;> cases hy : y.2 <;> simp [c]
      · simp [c]
    rw [cSure_cons x a, cSure_cons y b, cSure_cons (x.1, x.2 || y.2)]; omega

/-! one sure layer more -/
theorem sureD_cons (x : Lay) (l : List Lay) : sureD (x :: l) = if x.2 = true then x.1 :: sureD l else sureD l := by
  unfold sureD; rw [List.filter_cons]; split <;> rfl
theorem sureD_up {l : List Lay} {d : Int} (h : ∀ y ∈ l, d < y.1) : (sureD l).filter (fun z => decide (d < z)) = sureD l ∧ (sureD l).filter (fun z => decide (z < d)) = [] := by
  have h' : ∀ z ∈ sureD l, d < z := fun z hz => by
    obtain ⟨y, hy, rfl⟩ := List.mem_map.1 hz
    exact h y (List.mem_filter.1 hy).1
  exact ⟨List.filter_eq_self.2 fun z hz => decide_eq_true (h' z hz), List.filter_eq_nil_iff.2 fun z hz => by have := h' z hz; simp; omega⟩
theorem sureD_ins : ∀ {l : List Lay} {d : Int}, Rise l → sureD (mrg l [(d, true)]) = (sureD l).filter (fun z => decide (z < d)) ++ d :: (sureD l).filter (fun z => decide (d < z))
  | [], d, _ => by rw [mrg_nil_left]; rfl
  | x :: l, d, h => by
    obtain ⟨h1, h2⟩ := rise_cons.1 h
    rcases Int.lt_trichotomy x.1 d with c | c | c
    · rw [mrg_lt (y := (d, true)) c, sureD_cons, sureD_ins h2, sureD_cons]
      cases hx : x.2 with
      | true => rw [if_pos rfl, if_pos rfl, List.filter_cons_of_pos (by simpa using c), List.filter_cons_of_neg (by simp; omega)]; rfl
      | false => rw [if_neg (by simp), if_neg (by simp)]
    · obtain ⟨u1, u2⟩ := sureD_up (l := l) (d := d) (fun y hy => by have := h1 y hy; omega)
      rw [mrg_eq (x := x) (y := (d, true)) (by show ¬ x.1 < d; omega) (by show ¬ d < x.1; omega), mrg_nil_right, sureD_cons, if_pos (by simp), sureD_cons]
      cases hx : x.2 with
      | true => rw [if_pos rfl, List.filter_cons_of_neg (by simp; omega), List.filter_cons_of_neg (by simp; omega), u1, u2, ← c]; rfl
      | false => rw [if_neg (by simp), u1, u2, ← c]; rfl
    · obtain ⟨u1, u2⟩ := sureD_up (l := x :: l) (d := d) (fun y hy => by
        rcases List.mem_cons.1 hy with rfl | hy
        · exact c
        · have := h1 y hy; omega)
      rw [mrg_gt (y := (d, true)) c, mrg_nil_right, u1, u2, sureD_cons (d, true), if_pos rfl]; rfl
theorem sureD_between {l : List Lay} {d p q : Int} {r : List Int} (hl : Rise l) (hs : sureD l = p :: q :: r) (hr : (sureD l).Pairwise (· < ·)) (h1 : p < d) (h2 : d < q) : sureD (mrg l [(d, true)]) = p :: d :: q :: r := by
  rw [hs] at hr
  obtain ⟨_, hr⟩ := List.pairwise_cons.1 hr
  obtain ⟨hq, _⟩ := List.pairwise_cons.1 hr
  rw [sureD_ins hl, hs, List.filter_cons_of_pos (by simpa using h1), List.filter_cons_of_neg (by simp; omega), List.filter_cons_of_neg (by simp; omega), List.filter_cons_of_pos (by simpa using h2)]
  rw [List.filter_eq_nil_iff.2 (fun z hz => by have := hq z hz; simp; omega), List.filter_eq_self.2 (fun z hz => by have := hq z hz; simp; omega)]
  rfl

end Go.Proofs.Ytabbclfodlhikaa
