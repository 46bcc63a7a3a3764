/- gcd, FracValid, FracOf, FracAdd of both versions, at numbers that are not negative. -/
import Derived.Test.YtdcmlmdoiekdfaaEdge
namespace Go.Proofs.Ytdcmlmdoiekdfaa
open Go.RowKit

/-- Block b is a variable that holds the fraction (x, y). -/
def Two (w : World) (b : Nat) (x y : Int) : Prop := b < w.heap.size ∧ w.cell? ⟨b, 0, none⟩ = some (.int .i64 x) ∧ w.cell? ⟨b, 1, none⟩ = some (.int .i64 y) ∧ w.frozen? ⟨b, 0, none⟩ = false ∧ w.frozen? ⟨b, 1, none⟩ = false
theorem Two.keep {w w' : World} {b B : Nat} {x y : Int} (h : Two w b x y) (hb : Below B w w') (hB : b < B) : Two w' b x y :=
  ⟨Nat.lt_of_lt_of_le h.1 hb.size, (hb.cell (p := ⟨b, 0, none⟩) hB).trans h.2.1, (hb.cell (p := ⟨b, 1, none⟩) hB).trans h.2.2.1, (hb.frozen (p := ⟨b, 0, none⟩) hB).trans h.2.2.2.1, (hb.frozen (p := ⟨b, 1, none⟩) hB).trans h.2.2.2.2⟩
theorem Two.next {w w' : World} {b : Nat} {x y : Int} (h : Two w b x y) (hb : Below w.heap.size w w') : Two w' b x y := h.keep hb h.1
theorem Two.new (w : World) (x y : Int) (t : TypeId) : Two (w.alloc (.cells #[.int .i64 x, .int .i64 y] t)) w.heap.size x y := by
  refine ⟨by simp, ?_, ?_, ?_, ?_⟩ <;> simp [go_sem]
theorem Two.set {w : World} {b : Nat} {x y : Int} (h : Two w b x y) (x' y' : Int) : Two ((w.setCell ⟨b, 0, none⟩ (.int .i64 x')).setCell ⟨b, 1, none⟩ (.int .i64 y')) b x' y' := by
  obtain ⟨h1, h2, h3, h4, h5⟩ := h
  refine ⟨by simpa [World.setCell] using h1, ?_, ?_, ?_, ?_⟩
  · rw [World.cell?_setCell_other _ _ _ _ (by simp)]; exact World.cell?_setCell_same _ _ _ h2
  · have : (w.setCell ⟨b, 0, none⟩ (.int .i64 x')).cell? ⟨b, 1, none⟩ = some (.int .i64 y) := by rw [World.cell?_setCell_other _ _ _ _ (by simp)]; exact h3
    exact World.cell?_setCell_same _ _ _ this
  · simpa [World.frozen?_setCell] using h4
  · simpa [World.frozen?_setCell] using h5

theorem results_frac {fn : Func} {t u : Tmp} (h : fn.results = #[.cell t 31, .tmp u]) (tmps : Array Value) (w : World) {b : Nat} {x y : Int} (ht : tmps[t]?.getD undef = .pointer (some ⟨b, 0, none⟩)) (h0 : w.cell? ⟨b, 0, none⟩ = some (.int .i64 x)) (h1 : w.cell? ⟨b, 1, none⟩ = some (.int .i64 y)) :
    (results fn tmps).run Try.prog w = .ok (.tuple #[.agg #[.int .i64 x, .int .i64 y], tmps.getD u undef]) w := by
  simp [results, h, ht, go_sem, h0, h1]

/-- What a function returns that gives a fraction and whether there is one. -/
def frV : Option Fr → Value
  | some f => .tuple #[.agg #[.int .i64 f.1, .int .i64 f.2], .bool true]
  | none => .tuple #[.agg #[.int .i64 0, .int .i64 0], .bool false]

theorem gcd_step (x y : Nat) : Nat.gcd y (x % y) = Nat.gcd x y := by
  rw [Nat.gcd_comm, ← Nat.gcd_rec, Nat.gcd_comm]

set_option maxHeartbeats 1000000 in
theorem implGcd_nat (a b : Nat) (w : World) (ha : a ≤ 4000000000000000000) (hb : b ≤ 4000000000000000000) :
    Calls Try.prog 30 #[.int .i64 a, .int .i64 b] w fun e w' => e = .returned (.int .i64 (Nat.gcd a b : Nat)) ∧ ∃ m, w' = w.drewN m := by
  go_enter Try.func30, Try.ntmps30
  go_wp2_with fail
  go_loopw [0, 1] (fun va vb wr => ∃ x y m : Nat, va = .int .i64 x ∧ vb = .int .i64 y ∧ x ≤ 4000000000000000000 ∧ y ≤ 4000000000000000000 ∧ Hid (Nat.gcd x y = Nat.gcd a b) ∧ wr = w.drewN m) (fun _ vb _ => (intOf vb).toNat)
  case atStart => exact ⟨a, b, 0, rfl, rfl, ha, hb, rfl, rfl⟩
  case round =>
    obtain ⟨x, y, m, rfl, rfl, hx, hy, hg, rfl⟩ := hrel
    by_cases h0 : y = 0
    · subst h0
      have e : Hid (x = Nat.gcd a b) := by have := hg.out; rwa [Nat.gcd_zero_right] at this
      go_wp2_with fail
      go_ret
      exact ⟨ret_int (by rw [← e.out]), m, rfl⟩
    · have d0 : ((y : Int) == 0) = false := by simpa using h0
      obtain ⟨r, hr⟩ : ∃ r, x % y = r := ⟨_, rfl⟩
      have hr1 : r < y := by rw [← hr]; exact Nat.mod_lt _ (by omega)
      have t1 : Int.tmod (x : Int) (y : Int) = (r : Int) := by rw [← hr, Int.natCast_emod]; exact Int.tmod_eq_emod_of_nonneg (by omega)
      have hg' : Hid (Nat.gcd y r = Nat.gcd a b) := by show _ = _; rw [← hr, gcd_step]; exact hg.out
      clear hr hg
      go_wp2_with fail
      go_quiet (fail)
      go_wp2_with fail
      go_roundw
      case rel => exact ⟨y, r, _, rfl, rfl, hy, by omega, hg', World.drewN_drewN _ _ _⟩
      case measure => simp [intOf]; omega
theorem implGcd_is {a b : Int} {w : World} (ha : 0 ≤ a) (ha' : a ≤ 4000000000000000000) (hb : 0 ≤ b) (hb' : b ≤ 4000000000000000000) :
    Calls Try.prog 30 #[.int .i64 a, .int .i64 b] w fun e w' => e = .returned (.int .i64 (Int.gcd a b : Nat)) ∧ Below w.heap.size w w' := by
  obtain ⟨a, rfl⟩ := Int.eq_ofNat_of_zero_le ha
  obtain ⟨b, rfl⟩ := Int.eq_ofNat_of_zero_le hb
  exact (implGcd_nat a b w (by omega) (by omega)).mono fun _ _ ⟨he, m, hw⟩ => ⟨he, by rw [hw]; exact below_new _ _⟩

set_option maxHeartbeats 1000000 in
theorem specGcd_nat (a b : Nat) (w : World) (ha : a ≤ 4000000000000000000) (hb : b ≤ 4000000000000000000) :
    Calls Try.prog 31 #[.int .i64 a, .int .i64 b] w fun e w' => e = .returned (.int .i64 (Nat.gcd a b : Nat)) ∧ w' = w := by
  go_enter Try.func31, Try.ntmps31
  go_wp2_with fail
  go_loopw [0, 1] (fun va vb wr => ∃ x y : Nat, va = .int .i64 x ∧ vb = .int .i64 y ∧ x ≤ 4000000000000000000 ∧ y ≤ 4000000000000000000 ∧ Hid (Nat.gcd x y = Nat.gcd a b) ∧ wr = w) (fun _ vb _ => (intOf vb).toNat)
  case atStart => exact ⟨a, b, rfl, rfl, ha, hb, rfl, rfl⟩
  case round =>
    obtain ⟨x, y, rfl, rfl, hx, hy, hg, rfl⟩ := hrel
    by_cases h0 : y = 0
    · subst h0
      have e : Hid (x = Nat.gcd a b) := by have := hg.out; rwa [Nat.gcd_zero_right] at this
      go_wp2_with fail
      go_ret
      exact ⟨ret_int (by rw [← e.out]), rfl⟩
    · have d0 : ((y : Int) == 0) = false := by simpa using h0
      obtain ⟨r, hr⟩ : ∃ r, x % y = r := ⟨_, rfl⟩
      have hr1 : r < y := by rw [← hr]; exact Nat.mod_lt _ (by omega)
      have t1 : Int.tmod (x : Int) (y : Int) = (r : Int) := by rw [← hr, Int.natCast_emod]; exact Int.tmod_eq_emod_of_nonneg (by omega)
      have hg' : Hid (Nat.gcd y r = Nat.gcd a b) := by show _ = _; rw [← hr, gcd_step]; exact hg.out
      clear hr hg
      go_wp2_with fail
      go_roundw
      case rel => exact ⟨y, r, rfl, rfl, hy, by omega, hg', trivial⟩
      case measure => simp [intOf]; omega
theorem specGcd_is {a b : Int} {w : World} (ha : 0 ≤ a) (ha' : a ≤ 4000000000000000000) (hb : 0 ≤ b) (hb' : b ≤ 4000000000000000000) :
    Calls Try.prog 31 #[.int .i64 a, .int .i64 b] w fun e w' => e = .returned (.int .i64 (Int.gcd a b : Nat)) ∧ w' = w := by
  obtain ⟨a, rfl⟩ := Int.eq_ofNat_of_zero_le ha
  obtain ⟨b, rfl⟩ := Int.eq_ofNat_of_zero_le hb
  exact specGcd_nat a b w (by omega) (by omega)
theorem abs_is {a : Int} {w : World} (ha : 0 ≤ a) (ha' : a ≤ 4000000000000000000) :
    Calls Try.prog 32 #[.int .i64 a] w fun e w' => e = .returned (.int .i64 a) ∧ w' = w := by
  go_enter Try.func32, Try.ntmps32
  go_wp2_with fail
  go_ret
  exact ⟨ret_int (by omega), rfl⟩

theorem okF_eq {x y : Int} (h1 : 1 ≤ y) (h2 : y ≤ 1000000000) (h3 : 0 ≤ x) (h4 : x ≤ 1000000000) : okF (x, y) = (((Int.gcd x y : Nat) : Int) == 1) := by
  unfold okF
  by_cases h : Int.gcd x y = 1
  · rw [decide_eq_true ⟨h1, h2, (by show (-1000000000 : Int) ≤ x; omega), h4, h⟩]; simp [h]
  · rw [decide_eq_false (fun hh => h hh.2.2.2.2)]; symm; rw [beq_eq_false_iff_ne]; omega
theorem okF_no {x y : Int} (h : ¬ (1 ≤ y ∧ y ≤ 1000000000 ∧ x ≤ 1000000000)) : okF (x, y) = false := decide_eq_false fun hh => h ⟨hh.1, hh.2.1, hh.2.2.2.1⟩

set_option maxHeartbeats 1000000 in
theorem implFV {x y : Int} {r : Bool} {w : World} (hr : okF (x, y) = r) (hx : 0 ≤ x) (hx' : x ≤ 4000000000000000000) (hy : 0 ≤ y) (hy' : y ≤ 4000000000000000000) :
    Calls Try.prog 29 #[.agg #[.int .i64 x, .int .i64 y]] w fun e w' => e = .returned (.bool r) ∧ Below w.heap.size w w' := by
  have bA : Below w.heap.size w (w.alloc (.cells #[.int .i64 x, .int .i64 y] 31)) := (Below.refl _ _).alloc (Nat.le_refl _) _
  by_cases h1 : 1 ≤ y
  · by_cases h2 : y ≤ 1000000000
    · by_cases h3 : x ≤ 1000000000
      · have E : Hid ((((Int.gcd x y : Nat) : Int) == 1) = r) := by rw [okF_eq h1 h2 hx h3] at hr; exact hr
        clear hr
        go_enter Try.func29, Try.ntmps29
        go_wp2_with fail
        refine (implGcd_is hx hx' hy hy').mono ?_
        rintro e w2 ⟨rfl, b2⟩
        go_wp2_with fail
        go_ret
        exact ⟨ret_bool E.out, below2 bA b2⟩
      · rw [okF_no (fun h => h3 h.2.2)] at hr
        subst hr
        go_enter Try.func29, Try.ntmps29
        go_wp2_with fail
        go_ret
        exact ⟨rfl, bA⟩
    · rw [okF_no (fun h => h2 h.2.1)] at hr
      subst hr
      go_enter Try.func29, Try.ntmps29
      go_wp2_with fail
      go_ret
      exact ⟨rfl, bA⟩
  · rw [okF_no (fun h => h1 h.1)] at hr
    subst hr
    go_enter Try.func29, Try.ntmps29
    go_wp2_with fail
    go_ret
    exact ⟨rfl, bA⟩

set_option maxHeartbeats 1000000 in
theorem specFV {x y : Int} {r : Bool} {w : World} (hr : okF (x, y) = r) (hx : 0 ≤ x) (hx' : x ≤ 4000000000000000000) (hy : 0 ≤ y) (hy' : y ≤ 4000000000000000000) :
    Calls Try.prog 33 #[.agg #[.int .i64 x, .int .i64 y]] w fun e w' => e = .returned (.bool r) ∧ Below w.heap.size w w' := by
  have bA : Below w.heap.size w (w.alloc (.cells #[.int .i64 x, .int .i64 y] 31)) := (Below.refl _ _).alloc (Nat.le_refl _) _
  by_cases h1 : 1 ≤ y ∧ y ≤ 1000000000
  · by_cases h3 : x ≤ 1000000000
    · have E : Hid ((((Int.gcd x y : Nat) : Int) == 1) = r) := by rw [okF_eq h1.1 h1.2 hx h3] at hr; exact hr
      obtain ⟨h1, h2⟩ := h1
      clear hr
      go_enter Try.func33, Try.ntmps33
      go_wp2_with fail
      refine (in_yes _ _ _ _ h1 h2).mono ?_
      rintro e w2 ⟨rfl, rfl⟩
      go_wp2_with fail
      refine (in_yes _ _ _ _ (by omega) h3).mono ?_
      rintro e w2 ⟨rfl, rfl⟩
      go_wp2_with fail
      go_quiet (first
        | (go_at_call 31; exact Calls.quiet_of_same (specGcd_is hx hx' hy hy'))
        | (go_at_call 32; exact Calls.quiet_of_same (abs_is hx hx')))
      go_wp2_with fail
      go_ret
      exact ⟨ret_bool E.out, below_drewN bA _⟩
    · rw [okF_no (fun h => h3 h.2.2)] at hr
      subst hr
      obtain ⟨h1, h2⟩ := h1
      go_enter Try.func33, Try.ntmps33
      go_wp2_with fail
      refine (in_yes _ _ _ _ h1 h2).mono ?_
      rintro e w2 ⟨rfl, rfl⟩
      go_wp2_with fail
      refine (in_no _ _ _ _ (by omega)).mono ?_
      rintro e w2 ⟨rfl, rfl⟩
      go_wp2_with fail
      go_ret
      exact ⟨rfl, bA⟩
  · rw [okF_no (fun h => h1 ⟨h.1, h.2.1⟩)] at hr
    subst hr
    have H1 := Lib.hid h1
    clear h1
    go_enter Try.func33, Try.ntmps33
    go_wp2_with fail
    refine (in_no _ _ _ _ H1.out).mono ?_
    rintro e w2 ⟨rfl, rfl⟩
    go_wp2_with fail
    go_ret
    exact ⟨rfl, bA⟩

end Go.Proofs.Ytdcmlmdoiekdfaa
