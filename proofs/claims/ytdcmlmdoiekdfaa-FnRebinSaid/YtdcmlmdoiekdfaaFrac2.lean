/- FracOf and FracAdd of both versions, at numbers that are not negative. -/
import Derived.Test.YtdcmlmdoiekdfaaFrac
import Derived.Test.YtdcmlmdoiekdfaaTake
namespace Go.Proofs.Ytdcmlmdoiekdfaa
open Go.RowKit

/-- What the walks of FracOf need of a quotient in lowest terms. -/
theorem red_facts {a b : Int} (ha : 0 ≤ a) (hb : 0 < b) {o : Option Fr} (ho : ofF a b = o) : ∃ g p q : Int, ∃ r : Bool, ((Int.gcd a b : Nat) : Int) = g ∧ 0 < g ∧ Int.tdiv a g = p ∧ Int.tdiv b g = q ∧ 0 ≤ p ∧ p ≤ a ∧ 1 ≤ q ∧ q ≤ b ∧ okF (p, q) = r ∧ (r = true → o = some (p, q)) ∧ (r = false → o = none) := by
  have g0 := gcd_pos (a := a) hb
  have pn := red_num (a := a) hb ha
  have qn := red_den (a := a) hb
  refine ⟨_, (redF a b).1, (redF a b).2, _, rfl, by omega, ?_, ?_, pn.1, pn.2, qn.1, qn.2, rfl, fun h => ?_, fun h => ?_⟩
  · rw [Int.tdiv_eq_ediv_of_nonneg ha]; rfl
  · rw [Int.tdiv_eq_ediv_of_nonneg (by omega)]; rfl
  · rw [← ho]; unfold ofF; exact if_pos h
  · rw [← ho]; unfold ofF; exact if_neg (by rw [show redF a b = ((redF a b).1, (redF a b).2) from rfl, h]; simp)

set_option maxHeartbeats 1000000 in
theorem implFO {a b : Int} {o : Option Fr} {w : World} (ho : ofF a b = o) (ha : 0 ≤ a) (ha' : a ≤ 4000000000000000000) (hb : 0 < b) (hb' : b ≤ 4000000000000000000) :
    Calls Try.prog 19 #[.int .i64 a, .int .i64 b] w fun e w' => e = .returned (frV o) ∧ Below w.heap.size w w' := by
  obtain ⟨g, p, q, r, hg, g0, t1, t2, p0, p1, q0, q1, hr, hy, hn⟩ := red_facts ha hb ho
  have HG := Lib.hid hg
  have HR := Lib.hid hr
  have HY := Lib.hid hy
  have HN := Lib.hid hn
  have dg : (g == 0) = false := beq_eq_false_iff_ne.2 (by omega)
  have dg0 : ¬ g = 0 := by omega
  have db : (b == 0) = false := beq_eq_false_iff_ne.2 (by omega)
  have wp : IntKind.i64.wrap p = p := IntWalk.i64_in _ (by omega)
  have wq : IntKind.i64.wrap q = q := IntWalk.i64_in _ (by omega)
  have hA : Two (w.alloc (.cells #[.int .i64 0, .int .i64 0] 31)) w.heap.size 0 0 := Two.new _ _ _ _
  have B : Below w.heap.size w (w.alloc (.cells #[.int .i64 0, .int .i64 0] 31)) := (Below.refl _ _).alloc (Nat.le_refl _) _
  clear hg hr hy hn ho
  go_enter Try.func19, Try.ntmps19
  go_wp2_with fail
  refine (implGcd_is ha ha' (by omega) hb').mono ?_
  rw [HG.out]
  rintro e w2 ⟨rfl, b2⟩
  replace hA := hA.next b2
  replace B := below2 B b2
  clear b2
  go_wp2_with fail
  go_region_held3 (fun _ => True) (trivial) (fail)
  go_wp2_with fail
  refine (implFV HR.out p0 (by omega) (by omega) (by omega)).mono ?_
  rintro e w3 ⟨rfl, b3⟩
  have bF : Below w2.heap.size w2 (w2.alloc (.cells #[.int .i64 p, .int .i64 q] 31)) := (Below.refl _ _).alloc (Nat.le_refl _) _
  have hF : Two w3 w2.heap.size p q := Two.keep (w := w2.alloc (.cells #[.int .i64 p, .int .i64 q] 31)) (Two.new w2 p q _) (below2 (Below.refl _ _).drew b3) (by simp)
  replace hA : Two w3 w.heap.size 0 0 := (hA.next bF).next (below2 (Below.refl _ _).drew b3)
  replace B : Below w.heap.size w w3 := below2 (below2 B bF) (below2 (Below.refl _ _).drew b3)
  clear b3 bF
  obtain ⟨a1, a2, a3, a4, a5⟩ := hA
  obtain ⟨f1, f2, f3, _, _⟩ := hF
  cases r with
  | true =>
    have E := HY.out rfl
    subst E
    have hT := Two.set (w := w3) ⟨a1, a2, a3, a4, a5⟩ p q
    have BT := (B.setCell (p := ⟨w.heap.size, 0, none⟩) (Nat.le_refl _) (.int .i64 p)).setCell (p := ⟨w.heap.size, 1, none⟩) (Nat.le_refl _) (.int .i64 q)
    go_wp2_with fail
    refine bodyPost_ret (results_frac Try.results19 _ _ rfl hT.2.1 hT.2.2.1) rfl ⟨rfl, BT⟩
  | false =>
    have E := HN.out rfl
    subst E
    have hT := Two.set (w := w3) ⟨a1, a2, a3, a4, a5⟩ 0 0
    have BT := (B.setCell (p := ⟨w.heap.size, 0, none⟩) (Nat.le_refl _) (.int .i64 0)).setCell (p := ⟨w.heap.size, 1, none⟩) (Nat.le_refl _) (.int .i64 0)
    go_wp2_with fail
    refine bodyPost_ret (results_frac Try.results19 _ _ rfl hT.2.1 hT.2.2.1) rfl ⟨rfl, BT⟩

set_option maxHeartbeats 1000000 in
theorem specFO {a b : Int} {o : Option Fr} {w : World} (ho : ofF a b = o) (ha : 0 ≤ a) (ha' : a ≤ 4000000000000000000) (hb : 0 < b) (hb' : b ≤ 4000000000000000000) :
    Calls Try.prog 27 #[.int .i64 a, .int .i64 b] w fun e w' => e = .returned (frV o) ∧ Below w.heap.size w w' := by
  obtain ⟨g, p, q, r, hg, g0, t1, t2, p0, p1, q0, q1, hr, hy, hn⟩ := red_facts ha hb ho
  have HG := Lib.hid hg
  have HR := Lib.hid hr
  have HY := Lib.hid hy
  have HN := Lib.hid hn
  have dg : (g == 0) = false := beq_eq_false_iff_ne.2 (by omega)
  have dg0 : ¬ g = 0 := by omega
  have db : (b == 0) = false := beq_eq_false_iff_ne.2 (by omega)
  have wp : IntKind.i64.wrap p = p := IntWalk.i64_in _ (by omega)
  have wq : IntKind.i64.wrap q = q := IntWalk.i64_in _ (by omega)
  have hA : Two (w.alloc (.cells #[.int .i64 0, .int .i64 0] 31)) w.heap.size 0 0 := Two.new _ _ _ _
  have B : Below w.heap.size w (w.alloc (.cells #[.int .i64 0, .int .i64 0] 31)) := (Below.refl _ _).alloc (Nat.le_refl _) _
  clear hg hr hy hn ho
  go_enter Try.func27, Try.ntmps27
  go_wp2_with fail
  refine (in_yes _ _ _ _ (by omega) ha').mono ?_
  rintro e w' ⟨rfl, rfl⟩
  go_wp2_with fail
  refine (in_yes _ _ _ _ (by omega) hb').mono ?_
  rintro e w' ⟨rfl, rfl⟩
  go_wp2_with fail
  refine (abs_is ha ha').mono ?_
  rintro e w' ⟨rfl, rfl⟩
  go_wp2_with fail
  refine (specGcd_is ha ha' (by omega) hb').mono ?_
  rw [HG.out]
  rintro e w1 ⟨rfl, hw1⟩
  obtain ⟨w2, hw2⟩ : ∃ w2, w1 = w2 := ⟨_, rfl⟩
  rw [← hw1, hw2] at hA B
  rw [hw2]
  clear hw1 hw2
  go_wp2_with fail
  go_region_held3 (fun _ => True) (trivial) (fail)
  go_wp2_with fail
  refine (specFV HR.out p0 (by omega) (by omega) (by omega)).mono ?_
  rintro e w3 ⟨rfl, b3⟩
  have bF : Below w2.heap.size w2 (w2.alloc (.cells #[.int .i64 p, .int .i64 q] 31)) := (Below.refl _ _).alloc (Nat.le_refl _) _
  have hF : Two w3 w2.heap.size p q := Two.keep (w := w2.alloc (.cells #[.int .i64 p, .int .i64 q] 31)) (Two.new w2 p q _) (below2 (Below.refl _ _).drew b3) (by simp)
  replace hA : Two w3 w.heap.size 0 0 := (hA.next bF).next (below2 (Below.refl _ _).drew b3)
  replace B : Below w.heap.size w w3 := below2 (below2 B bF) (below2 (Below.refl _ _).drew b3)
  clear b3 bF
  obtain ⟨a1, a2, a3, a4, a5⟩ := hA
  obtain ⟨f1, f2, f3, _, _⟩ := hF
  cases r with
  | true =>
    have E := HY.out rfl
    subst E
    have hT := Two.set (w := w3) ⟨a1, a2, a3, a4, a5⟩ p q
    have BT := (B.setCell (p := ⟨w.heap.size, 0, none⟩) (Nat.le_refl _) (.int .i64 p)).setCell (p := ⟨w.heap.size, 1, none⟩) (Nat.le_refl _) (.int .i64 q)
    go_wp2_with fail
    refine bodyPost_ret (results_frac Try.results27 _ _ rfl hT.2.1 hT.2.2.1) rfl ⟨rfl, BT⟩
  | false =>
    have E := HN.out rfl
    subst E
    have hT := Two.set (w := w3) ⟨a1, a2, a3, a4, a5⟩ 0 0
    have BT := (B.setCell (p := ⟨w.heap.size, 0, none⟩) (Nat.le_refl _) (.int .i64 0)).setCell (p := ⟨w.heap.size, 1, none⟩) (Nat.le_refl _) (.int .i64 0)
    go_wp2_with fail
    refine bodyPost_ret (results_frac Try.results27 _ _ rfl hT.2.1 hT.2.2.1) rfl ⟨rfl, BT⟩


theorem fr_in {f : Fr} (h0 : 0 ≤ f.1) (h : okF f = true) : 0 ≤ f.1 ∧ f.1 ≤ 1000000000 ∧ 1 ≤ f.2 ∧ f.2 ≤ 1000000000 := by
  have := okF_bd h; omega
/-- What the walks of FracAdd need. -/
theorem add_facts {x y : Fr} (hx0 : 0 ≤ x.1) (hy0 : 0 ≤ y.1) (hx : okF x = true) (hy : okF y = true) : 0 ≤ x.1 * y.2 ∧ x.1 * y.2 ≤ 1000000000000000000 ∧ 0 ≤ y.1 * x.2 ∧ y.1 * x.2 ≤ 1000000000000000000 ∧ 0 < x.2 * y.2 ∧ x.2 * y.2 ≤ 1000000000000000000 := by
  have a := fr_in hx0 hx
  have b := fr_in hy0 hy
  have m : ∀ u v : Int, 0 ≤ u → u ≤ 1000000000 → 0 ≤ v → v ≤ 1000000000 → 0 ≤ u * v ∧ u * v ≤ 1000000000000000000 := fun u v h1 h2 h3 h4 => by
    have := Int.mul_le_mul h2 h4 h3 (by omega : (0 : Int) ≤ 1000000000)
    exact ⟨Int.mul_nonneg h1 h3, by omega⟩
  have m1 := m x.1 y.2 (by omega) (by omega) (by omega) (by omega)
  have m2 := m y.1 x.2 (by omega) (by omega) (by omega) (by omega)
  have m3 := m x.2 y.2 (by omega) (by omega) (by omega) (by omega)
  exact ⟨m1.1, m1.2, m2.1, m2.2, Int.mul_pos (by omega) (by omega), m3.2⟩

set_option maxHeartbeats 1000000 in
theorem implFA {x1 x2 y1 y2 : Int} {o : Option Fr} {w : World} (ho : addF (x1, x2) (y1, y2) = o) (hx0 : 0 ≤ x1) (hy0 : 0 ≤ y1) (hx : okF (x1, x2) = true) (hy : okF (y1, y2) = true) :
    Calls Try.prog 17 #[.agg #[.int .i64 x1, .int .i64 x2], .agg #[.int .i64 y1, .int .i64 y2]] w fun e w' => e = .returned (frV o) ∧ Below w.heap.size w w' := by
  obtain ⟨p0, p1, q0, q1, d0, d1⟩ := add_facts (x := (x1, x2)) (y := (y1, y2)) hx0 hy0 hx hy
  have bx := fr_in (f := (x1, x2)) hx0 hx
  have by_ := fr_in (f := (y1, y2)) hy0 hy
  simp only at p0 p1 q0 q1 d0 d1 bx by_
  obtain ⟨P, hP⟩ : ∃ P, x1 * y2 = P := ⟨_, rfl⟩
  obtain ⟨Q, hQ⟩ : ∃ Q, y1 * x2 = Q := ⟨_, rfl⟩
  obtain ⟨D, hD⟩ : ∃ D, x2 * y2 = D := ⟨_, rfl⟩
  have hO : ofF (P + Q) D = o := by rw [← ho, ← hP, ← hQ, ← hD]; rfl
  rw [hP] at p0 p1
  rw [hQ] at q0 q1
  rw [hD] at d0 d1
  have m1 : IntKind.i64.wrap (x1 * y2) = P := by rw [hP]; exact IntWalk.i64_in _ (by omega)
  have m2 : IntKind.i64.wrap (y1 * x2) = Q := by rw [hQ]; exact IntWalk.i64_in _ (by omega)
  have m3 : IntKind.i64.wrap (x2 * y2) = D := by rw [hD]; exact IntWalk.i64_in _ (by omega)
  have m4 : IntKind.i64.wrap (P + Q) = P + Q := IntWalk.i64_in _ (by omega)
  have HO := Lib.hid hO
  have HX := Lib.hid hx
  have HY := Lib.hid hy
  clear hx hy hP hQ hD hO ho
  have X : Two (((w.alloc (.cells #[.int .i64 x1, .int .i64 x2] 31)).alloc (.cells #[.int .i64 y1, .int .i64 y2] 31)).alloc (.cells #[.int .i64 0, .int .i64 0] 31)) w.heap.size x1 x2 := ((Two.new w x1 x2 _).next ((Below.refl _ _).alloc (Nat.le_refl _) _)).next ((Below.refl _ _).alloc (Nat.le_refl _) _)
  have Y : Two (((w.alloc (.cells #[.int .i64 x1, .int .i64 x2] 31)).alloc (.cells #[.int .i64 y1, .int .i64 y2] 31)).alloc (.cells #[.int .i64 0, .int .i64 0] 31)) (w.heap.size + 1) y1 y2 := by
    have := (Two.new (w.alloc (.cells #[.int .i64 x1, .int .i64 x2] 31)) y1 y2 31).next ((Below.refl _ _).alloc (Nat.le_refl _) (.cells #[.int .i64 0, .int .i64 0] 31))
    simpa using this
  have R : Two (((w.alloc (.cells #[.int .i64 x1, .int .i64 x2] 31)).alloc (.cells #[.int .i64 y1, .int .i64 y2] 31)).alloc (.cells #[.int .i64 0, .int .i64 0] 31)) (w.heap.size + 1 + 1) 0 0 := by
    have := Two.new ((w.alloc (.cells #[.int .i64 x1, .int .i64 x2] 31)).alloc (.cells #[.int .i64 y1, .int .i64 y2] 31)) 0 0 31
    simpa using this
  have B : Below w.heap.size w (((w.alloc (.cells #[.int .i64 x1, .int .i64 x2] 31)).alloc (.cells #[.int .i64 y1, .int .i64 y2] 31)).alloc (.cells #[.int .i64 0, .int .i64 0] 31)) := (((Below.refl _ _).alloc (Nat.le_refl _) _).alloc (by simp) _).alloc (by simp; omega) _
  go_enter Try.func17, Try.ntmps17
  go_wp2_with fail
  refine (implFV HX.out (by omega) (by omega) (by omega) (by omega)).mono ?_
  rintro e w2 ⟨rfl, b2⟩
  replace X := X.next b2
  replace Y := Y.next b2
  replace R := R.next b2
  replace B := below2 B b2
  clear b2
  obtain ⟨u1, u2, u3, _, _⟩ := X
  obtain ⟨v1, v2, v3, _, _⟩ := Y
  go_wp2_with fail
  refine (implFV HY.out (by omega) (by omega) (by omega) (by omega)).mono ?_
  rintro e w3 ⟨rfl, b3⟩
  have u4 := (b3.cell (p := ⟨w.heap.size, 0, none⟩) u1).trans u2
  have u5 := (b3.cell (p := ⟨w.heap.size, 1, none⟩) u1).trans u3
  have v4 := (b3.cell (p := ⟨w.heap.size + 1, 0, none⟩) v1).trans v2
  have v5 := (b3.cell (p := ⟨w.heap.size + 1, 1, none⟩) v1).trans v3
  replace R := R.next b3
  replace B := below2 B b3
  clear b3 u1 u2 u3 v1 v2 v3
  go_wp2_with fail
  refine (implFO HO.out (by omega) (by omega) d0 (by omega)).mono ?_
  rintro e w4 ⟨rfl, b4⟩
  replace R := R.next b4
  replace B := below2 B b4
  clear b4
  obtain ⟨a1, a2, a3, a4, a5⟩ := R
  have hle : w.heap.size ≤ w.heap.size + 1 + 1 := by omega
  cases o with
  | some f =>
    have hT := Two.set (w := w4) ⟨a1, a2, a3, a4, a5⟩ f.1 f.2
    have BT := (B.setCell (p := ⟨w.heap.size + 1 + 1, 0, none⟩) hle (.int .i64 f.1)).setCell (p := ⟨w.heap.size + 1 + 1, 1, none⟩) hle (.int .i64 f.2)
    unfold frV
    go_wp2_with fail
    refine bodyPost_ret (results_frac Try.results17 _ _ rfl hT.2.1 hT.2.2.1) rfl ⟨rfl, BT⟩
  | none =>
    have hT := Two.set (w := w4) ⟨a1, a2, a3, a4, a5⟩ 0 0
    have BT := (B.setCell (p := ⟨w.heap.size + 1 + 1, 0, none⟩) hle (.int .i64 0)).setCell (p := ⟨w.heap.size + 1 + 1, 1, none⟩) hle (.int .i64 0)
    unfold frV
    go_wp2_with fail
    refine bodyPost_ret (results_frac Try.results17 _ _ rfl hT.2.1 hT.2.2.1) rfl ⟨rfl, BT⟩

theorem two_is {x1 x2 y1 y2 : Int} {w : World} (hx0 : 0 ≤ x1) (hy0 : 0 ≤ y1) (hx : okF (x1, x2) = true) (hy : okF (y1, y2) = true) :
    Calls Try.prog 34 #[.agg #[.int .i64 x1, .int .i64 x2], .agg #[.int .i64 y1, .int .i64 y2]] w fun e w' => e = .returned (.bool true) ∧ Below w.heap.size w w' := by
  have bx := fr_in (f := (x1, x2)) hx0 hx
  have by_ := fr_in (f := (y1, y2)) hy0 hy
  simp only at bx by_
  have HX := Lib.hid hx
  have HY := Lib.hid hy
  clear hx hy
  have Y : Two ((w.alloc (.cells #[.int .i64 x1, .int .i64 x2] 31)).alloc (.cells #[.int .i64 y1, .int .i64 y2] 31)) (w.heap.size + 1) y1 y2 := by
    have := Two.new (w.alloc (.cells #[.int .i64 x1, .int .i64 x2] 31)) y1 y2 31
    simpa using this
  have B : Below w.heap.size w ((w.alloc (.cells #[.int .i64 x1, .int .i64 x2] 31)).alloc (.cells #[.int .i64 y1, .int .i64 y2] 31)) := ((Below.refl _ _).alloc (Nat.le_refl _) _).alloc (by simp) _
  go_enter Try.func34, Try.ntmps34
  go_wp2_with fail
  refine (specFV HX.out (by omega) (by omega) (by omega) (by omega)).mono ?_
  rintro e w2 ⟨rfl, b2⟩
  replace Y := Y.next b2
  replace B := below2 B b2
  clear b2
  obtain ⟨v1, v2, v3, _, _⟩ := Y
  go_wp2_with fail
  refine (specFV HY.out (by omega) (by omega) (by omega) (by omega)).mono ?_
  rintro e w3 ⟨rfl, b3⟩
  go_wp2_with fail
  go_ret
  exact ⟨rfl, below2 B b3⟩

set_option maxHeartbeats 1000000 in
theorem specFA {x1 x2 y1 y2 : Int} {o : Option Fr} {w : World} (ho : addF (x1, x2) (y1, y2) = o) (hx0 : 0 ≤ x1) (hy0 : 0 ≤ y1) (hx : okF (x1, x2) = true) (hy : okF (y1, y2) = true) :
    Calls Try.prog 28 #[.agg #[.int .i64 x1, .int .i64 x2], .agg #[.int .i64 y1, .int .i64 y2]] w fun e w' => e = .returned (frV o) ∧ Below w.heap.size w w' := by
  obtain ⟨p0, p1, q0, q1, d0, d1⟩ := add_facts (x := (x1, x2)) (y := (y1, y2)) hx0 hy0 hx hy
  have bx := fr_in (f := (x1, x2)) hx0 hx
  have by_ := fr_in (f := (y1, y2)) hy0 hy
  simp only at p0 p1 q0 q1 d0 d1 bx by_
  obtain ⟨P, hP⟩ : ∃ P, x1 * y2 = P := ⟨_, rfl⟩
  obtain ⟨Q, hQ⟩ : ∃ Q, y1 * x2 = Q := ⟨_, rfl⟩
  obtain ⟨D, hD⟩ : ∃ D, x2 * y2 = D := ⟨_, rfl⟩
  have hO : ofF (P + Q) D = o := by rw [← ho, ← hP, ← hQ, ← hD]; rfl
  rw [hP] at p0 p1
  rw [hQ] at q0 q1
  rw [hD] at d0 d1
  have m1 : IntKind.i64.wrap (x1 * y2) = P := by rw [hP]; exact IntWalk.i64_in _ (by omega)
  have m2 : IntKind.i64.wrap (y1 * x2) = Q := by rw [hQ]; exact IntWalk.i64_in _ (by omega)
  have m3 : IntKind.i64.wrap (x2 * y2) = D := by rw [hD]; exact IntWalk.i64_in _ (by omega)
  have m4 : IntKind.i64.wrap (P + Q) = P + Q := IntWalk.i64_in _ (by omega)
  have HO := Lib.hid hO
  have HX := Lib.hid hx
  have HY := Lib.hid hy
  clear hx hy hP hQ hD hO ho
  have X : Two (((w.alloc (.cells #[.int .i64 x1, .int .i64 x2] 31)).alloc (.cells #[.int .i64 y1, .int .i64 y2] 31)).alloc (.cells #[.int .i64 0, .int .i64 0] 31)) w.heap.size x1 x2 := ((Two.new w x1 x2 _).next ((Below.refl _ _).alloc (Nat.le_refl _) _)).next ((Below.refl _ _).alloc (Nat.le_refl _) _)
  have Y : Two (((w.alloc (.cells #[.int .i64 x1, .int .i64 x2] 31)).alloc (.cells #[.int .i64 y1, .int .i64 y2] 31)).alloc (.cells #[.int .i64 0, .int .i64 0] 31)) (w.heap.size + 1) y1 y2 := by
    have := (Two.new (w.alloc (.cells #[.int .i64 x1, .int .i64 x2] 31)) y1 y2 31).next ((Below.refl _ _).alloc (Nat.le_refl _) (.cells #[.int .i64 0, .int .i64 0] 31))
    simpa using this
  have R : Two (((w.alloc (.cells #[.int .i64 x1, .int .i64 x2] 31)).alloc (.cells #[.int .i64 y1, .int .i64 y2] 31)).alloc (.cells #[.int .i64 0, .int .i64 0] 31)) (w.heap.size + 1 + 1) 0 0 := by
    have := Two.new ((w.alloc (.cells #[.int .i64 x1, .int .i64 x2] 31)).alloc (.cells #[.int .i64 y1, .int .i64 y2] 31)) 0 0 31
    simpa using this
  have B : Below w.heap.size w (((w.alloc (.cells #[.int .i64 x1, .int .i64 x2] 31)).alloc (.cells #[.int .i64 y1, .int .i64 y2] 31)).alloc (.cells #[.int .i64 0, .int .i64 0] 31)) := (((Below.refl _ _).alloc (Nat.le_refl _) _).alloc (by simp) _).alloc (by simp; omega) _
  go_enter Try.func28, Try.ntmps28
  go_wp2_with fail
  refine (two_is hx0 hy0 HX.out HY.out).mono ?_
  rintro e w3 ⟨rfl, b3⟩
  obtain ⟨u1, u2, u3, _, _⟩ := X
  obtain ⟨v1, v2, v3, _, _⟩ := Y
  have u4 := (b3.cell (p := ⟨w.heap.size, 0, none⟩) u1).trans u2
  have u5 := (b3.cell (p := ⟨w.heap.size, 1, none⟩) u1).trans u3
  have v4 := (b3.cell (p := ⟨w.heap.size + 1, 0, none⟩) v1).trans v2
  have v5 := (b3.cell (p := ⟨w.heap.size + 1, 1, none⟩) v1).trans v3
  replace R := R.next b3
  replace B := below2 B b3
  clear b3 u1 u2 u3 v1 v2 v3
  go_wp2_with fail
  refine (specFO HO.out (by omega) (by omega) d0 (by omega)).mono ?_
  rintro e w4 ⟨rfl, b4⟩
  replace R := R.next b4
  replace B := below2 B b4
  clear b4
  obtain ⟨a1, a2, a3, a4, a5⟩ := R
  have hle : w.heap.size ≤ w.heap.size + 1 + 1 := by omega
  cases o with
  | some f =>
    have hT := Two.set (w := w4) ⟨a1, a2, a3, a4, a5⟩ f.1 f.2
    have BT := (B.setCell (p := ⟨w.heap.size + 1 + 1, 0, none⟩) hle (.int .i64 f.1)).setCell (p := ⟨w.heap.size + 1 + 1, 1, none⟩) hle (.int .i64 f.2)
    unfold frV
    go_wp2_with fail
    refine bodyPost_ret (results_frac Try.results28 _ _ rfl hT.2.1 hT.2.2.1) rfl ⟨rfl, BT⟩
  | none =>
    have hT := Two.set (w := w4) ⟨a1, a2, a3, a4, a5⟩ 0 0
    have BT := (B.setCell (p := ⟨w.heap.size + 1 + 1, 0, none⟩) hle (.int .i64 0)).setCell (p := ⟨w.heap.size + 1 + 1, 1, none⟩) hle (.int .i64 0)
    unfold frV
    go_wp2_with fail
    refine bodyPost_ret (results_frac Try.results28 _ _ rfl hT.2.1 hT.2.2.1) rfl ⟨rfl, BT⟩

theorem results_frac1 {fn : Func} {t : Tmp} (h : fn.results = #[.cell t 31]) (tmps : Array Value) (w : World) {b : Nat} {x y : Int} (ht : tmps[t]?.getD undef = .pointer (some ⟨b, 0, none⟩)) (h0 : w.cell? ⟨b, 0, none⟩ = some (.int .i64 x)) (h1 : w.cell? ⟨b, 1, none⟩ = some (.int .i64 y)) :
    (results fn tmps).run Try.prog w = .ok (.agg #[.int .i64 x, .int .i64 y]) w := by
  simp [results, h, ht, go_sem, h0, h1]
theorem whole_is {x : Int} {w : World} : Calls Try.prog 26 #[.int .i64 x] w fun e w' => e = .returned (.agg #[.int .i64 x, .int .i64 1]) ∧ Below w.heap.size w w' := by
  have hA := Two.new w x 1 31
  go_enter Try.func26, Try.ntmps26
  go_wp2_with fail
  exact bodyPost_ret (results_frac1 Try.results26 _ _ rfl hA.2.1 hA.2.2.1) rfl ⟨rfl, (Below.refl _ _).alloc (Nat.le_refl _) _⟩
theorem frac_is {x : Int} {w : World} : Calls Try.prog 16 #[.int .i64 x] w fun e w' => e = .returned (.agg #[.int .i64 x, .int .i64 1]) ∧ Below w.heap.size w w' := by
  have hA := Two.new w x 1 31
  go_enter Try.func16, Try.ntmps16
  go_wp2_with fail
  exact bodyPost_ret (results_frac1 Try.results16 _ _ rfl hA.2.1 hA.2.2.1) rfl ⟨rfl, (Below.refl _ _).alloc (Nat.le_refl _) _⟩
theorem overlap_is {e0 e1 t b : Int} {w : World} (h1 : 0 ≤ e0) (h2 : e0 ≤ 30000) (h3 : 0 ≤ e1) (h4 : e1 ≤ 30000) (h5 : 0 ≤ t) (h6 : t ≤ 30000) (h7 : 0 ≤ b) (h8 : b ≤ 30000) :
    Calls Try.prog 20 #[.agg #[.int .i64 e0, .int .i64 e1], .agg #[.int .i64 t, .int .i64 b]] w fun e w' => e = .returned (.int .i64 (ov e0 e1 t b)) ∧ Below w.heap.size w w' := by
  have B : Below w.heap.size w ((w.alloc (.cells #[.int .i64 e0, .int .i64 e1] 46)).alloc (.cells #[.int .i64 t, .int .i64 b] 46)) := ((Below.refl _ _).alloc (Nat.le_refl _) _).alloc (by simp) _
  go_enter Try.func20, Try.ntmps20
  go_wp2_with fail
  all_goals
    go_ret
    refine ⟨ret_int ?_, B⟩
    unfold ov
    omega

end Go.Proofs.Ytdcmlmdoiekdfaa
