/- Fractions in lowest terms, parts of bins, records in other bins: the plain mathematics. No program in sight. -/
import Derived.Test.YtdcmlmdoiekdfaaList
namespace Go.Proofs.Ytdcmlmdoiekdfaa

/-- A numerator and a denominator. -/
abbrev Fr := Int × Int
def okF (f : Fr) : Bool := decide (1 ≤ f.2 ∧ f.2 ≤ 1000000000 ∧ -1000000000 ≤ f.1 ∧ f.1 ≤ 1000000000 ∧ Int.gcd f.1 f.2 = 1)
def redF (a b : Int) : Fr := (a / (Int.gcd a b : Nat), b / (Int.gcd a b : Nat))
def ofF (a b : Int) : Option Fr := if okF (redF a b) = true then some (redF a b) else none
def addF (x y : Fr) : Option Fr := ofF (x.1 * y.2 + y.1 * x.2) (x.2 * y.2)
/-- Its value. -/
def val (f : Fr) : Rat := (f.1 : Rat) / (f.2 : Rat)

theorem okF_bd {f : Fr} (h : okF f = true) : 1 ≤ f.2 ∧ f.2 ≤ 1000000000 ∧ -1000000000 ≤ f.1 ∧ f.1 ≤ 1000000000 := by
  have := of_decide_eq_true h; exact ⟨this.1, this.2.1, this.2.2.1, this.2.2.2.1⟩
theorem okF_gcd {f : Fr} (h : okF f = true) : Int.gcd f.1 f.2 = 1 := (of_decide_eq_true h).2.2.2.2
theorem rat_ne {n : Int} (h : n ≠ 0) : (n : Rat) ≠ 0 := fun e => h (by exact_mod_cast e)
theorem gcd_pos {a b : Int} (hb : 0 < b) : 0 < Int.gcd a b := Int.gcd_pos_of_ne_zero_right _ (by omega)
theorem red_mul {a b : Int} : ((Int.gcd a b : Nat) : Int) * (redF a b).1 = a ∧ ((Int.gcd a b : Nat) : Int) * (redF a b).2 = b :=
  ⟨Int.mul_ediv_cancel' (Int.gcd_dvd_left ..), Int.mul_ediv_cancel' (Int.gcd_dvd_right ..)⟩
theorem red_den {a b : Int} (hb : 0 < b) : 1 ≤ (redF a b).2 ∧ (redF a b).2 ≤ b := by
  have g := gcd_pos (a := a) hb
  have e := (red_mul (a := a) (b := b)).2
  obtain ⟨q, hq⟩ : ∃ q, (redF a b).2 = q := ⟨_, rfl⟩
  rw [hq] at e ⊢
  obtain ⟨m, hm⟩ : ∃ m : Int, ((Int.gcd a b : Nat) : Int) = m := ⟨_, rfl⟩
  have hm1 : 1 ≤ m := by omega
  rw [hm] at e
  have q1 : 1 ≤ q := by
    apply Classical.byContradiction
    intro h
    have : m * q ≤ m * 0 := Int.mul_le_mul_of_nonneg_left (by omega) (by omega)
    omega
  refine ⟨q1, ?_⟩
  have : 1 * q ≤ m * q := Int.mul_le_mul_of_nonneg_right hm1 (by omega)
  omega
theorem red_num {a b : Int} (_hb : 0 < b) (h0 : 0 ≤ a) : 0 ≤ (redF a b).1 ∧ (redF a b).1 ≤ a := by
  unfold redF
  refine ⟨Int.ediv_nonneg h0 (by omega), ?_⟩
  exact Int.ediv_le_self _ h0
theorem red_gcd {a b : Int} (hb : 0 < b) : Int.gcd (redF a b).1 (redF a b).2 = 1 := by
  have g := gcd_pos (a := a) hb
  unfold redF
  rw [Int.gcd_ediv (Int.gcd_dvd_left ..) (Int.gcd_dvd_right ..)]
  rw [Int.natAbs_natCast]
  exact Nat.div_self g
theorem val_red {a b : Int} (hb : 0 < b) : val (redF a b) = (a : Rat) / (b : Rat) := by
  obtain ⟨e1, e2⟩ := red_mul (a := a) (b := b)
  have d := (red_den (a := a) hb).1
  have g := gcd_pos (a := a) hb
  unfold val
  generalize (redF a b).1 = p at e1 ⊢
  generalize (redF a b).2 = q at e2 d ⊢
  obtain ⟨m, hm⟩ : ∃ m : Int, ((Int.gcd a b : Nat) : Int) = m := ⟨_, rfl⟩
  rw [hm] at e1 e2
  have hq0 := rat_ne (n := q) (by omega)
  have hm0 := rat_ne (n := m) (by omega)
  rw [← e1, ← e2, Rat.intCast_mul, Rat.intCast_mul]
  grind
theorem ofF_val {a b : Int} {f : Fr} (hb : 0 < b) (h : ofF a b = some f) : okF f = true ∧ val f = (a : Rat) / (b : Rat) := by
  unfold ofF at h
  split at h
  · injection h with h; subst h; exact ⟨by assumption, val_red hb⟩
  · cases h
theorem addF_val {x y f : Fr} (hx : okF x = true) (hy : okF y = true) (h : addF x y = some f) : okF f = true ∧ val f = val x + val y := by
  have bx := okF_bd hx
  have by_ := okF_bd hy
  obtain ⟨o, v⟩ := ofF_val (Int.mul_pos (by omega) (by omega)) h
  refine ⟨o, ?_⟩
  rw [v]
  unfold val
  have h1 := rat_ne (n := x.2) (by omega)
  have h2 := rat_ne (n := y.2) (by omega)
  rw [Rat.intCast_mul, Rat.intCast_add, Rat.intCast_mul, Rat.intCast_mul]
  grind
theorem cop_dvd {n d m : Int} (h : Int.gcd n d = 1) (hd : d ∣ n * m) : d ∣ m := by
  have h1 : d.natAbs ∣ n.natAbs * m.natAbs := by rw [← Int.natAbs_mul]; exact Int.natAbs_dvd_natAbs.2 hd
  have h2 : Nat.Coprime d.natAbs n.natAbs := Nat.Coprime.symm h
  exact Int.natAbs_dvd_natAbs.1 (h2.dvd_of_dvd_mul_left h1)
theorem val_inj {f g : Fr} (hf : okF f = true) (hg : okF g = true) (h : val f = val g) : f = g := by
  have bf := okF_bd hf
  have bg := okF_bd hg
  have h1 := rat_ne (n := f.2) (by omega)
  have h2 := rat_ne (n := g.2) (by omega)
  have e : f.1 * g.2 = g.1 * f.2 := by
    have : (f.1 : Rat) * (g.2 : Rat) = (g.1 : Rat) * (f.2 : Rat) := by unfold val at h; grind
    rw [← Rat.intCast_mul, ← Rat.intCast_mul] at this
    exact Rat.intCast_inj.1 this
  have d1 : f.2 ∣ g.2 := cop_dvd (okF_gcd hf) (by rw [e]; exact Int.dvd_mul_left ..)
  have d2 : g.2 ∣ f.2 := cop_dvd (okF_gcd hg) (by rw [← e]; exact Int.dvd_mul_left ..)
  have l1 := Int.le_of_dvd (by omega) d1
  have l2 := Int.le_of_dvd (by omega) d2
  have e2 : f.2 = g.2 := by omega
  rw [e2] at e
  exact Prod.ext (Int.eq_of_mul_eq_mul_right (by omega) e) e2

/-! sums of values -/
def sumR (g : Nat → Rat) : Nat → Rat
  | 0 => 0
  | n + 1 => sumR g n + g n
theorem sumR_congr {g h : Nat → Rat} {n : Nat} (e : ∀ k, k < n → g k = h k) : sumR g n = sumR h n := by
  induction n with
  | zero => rfl
  | succ n ih => rw [sumR, sumR, ih (fun k hk => e k (by omega)), e n (by omega)]
theorem sumR_add (g h : Nat → Rat) (n : Nat) : sumR (fun k => g k + h k) n = sumR g n + sumR h n := by
  induction n with
  | zero => simp only [sumR]; grind
  | succ n ih => simp only [sumR, ih]; grind
theorem sumR_zero (n : Nat) : sumR (fun _ => 0) n = 0 := by
  induction n with
  | zero => rfl
  | succ n ih => rw [sumR, ih]; grind

/-! records -/
/-- How much of the bin from e0 to e1 lies from t to b. -/
def ov (e0 e1 t b : Int) : Int := max 0 (min b e1 - max t e0)
def okE (es : List Int) : Bool := decide (2 ≤ es.length ∧ es.length ≤ 21 ∧ ∀ k, k < es.length → (0 ≤ nth es k ∧ nth es k ≤ 30000 ∧ (0 < k → nth es (k - 1) < nth es k)))
def okA (as : List Int) : Bool := decide (∀ k, k < as.length → 0 ≤ nth as k ∧ nth as k ≤ 10000)
def okR (es as : List Int) : Bool := decide (okE es = true ∧ as.length + 1 = es.length ∧ okA as = true)
theorem okE_bd {es : List Int} (h : okE es = true) : 2 ≤ es.length ∧ es.length ≤ 21 := by
  have := of_decide_eq_true h; exact ⟨this.1, this.2.1⟩
theorem okE_at {es : List Int} (h : okE es = true) {k : Nat} (hk : k < es.length) : 0 ≤ nth es k ∧ nth es k ≤ 30000 := by
  have := (of_decide_eq_true h).2.2 k hk; exact ⟨this.1, this.2.1⟩
theorem okE_lt {es : List Int} (h : okE es = true) {k : Nat} (hk : k + 1 < es.length) : nth es k < nth es (k + 1) :=
  ((of_decide_eq_true h).2.2 (k + 1) hk).2.2 (by omega)
theorem okE_mk {es : List Int} (h1 : 2 ≤ es.length) (h2 : es.length ≤ 21) (h : ∀ k, k < es.length → (0 ≤ nth es k ∧ nth es k ≤ 30000 ∧ (0 < k → nth es (k - 1) < nth es k))) : okE es = true := decide_eq_true ⟨h1, h2, h⟩
theorem okE_no_at {es : List Int} (k : Nat) (hk : k < es.length) (h : ¬ (0 ≤ nth es k ∧ nth es k ≤ 30000 ∧ (0 < k → nth es (k - 1) < nth es k))) : okE es = false := decide_eq_false fun hh => h (hh.2.2 k hk)
theorem okE_no_len {es : List Int} (h : ¬ (2 ≤ es.length ∧ es.length ≤ 21)) : okE es = false := decide_eq_false fun hh => h ⟨hh.1, hh.2.1⟩
theorem okA_at {as : List Int} (h : okA as = true) {k : Nat} (hk : k < as.length) : 0 ≤ nth as k ∧ nth as k ≤ 10000 := of_decide_eq_true h k hk
theorem okR_parts {es as : List Int} (h : okR es as = true) : okE es = true ∧ as.length + 1 = es.length ∧ okA as = true := of_decide_eq_true h
theorem okR_mk {es as : List Int} (h1 : okE es = true) (h2 : as.length + 1 = es.length) (h3 : okA as = true) : okR es as = true := decide_eq_true ⟨h1, h2, h3⟩

def partF (es as : List Int) (t b : Int) (k : Nat) : Fr := redF (nth as k * ov (nth es k) (nth es (k + 1)) t b) (nth es (k + 1) - nth es k)
def betT (es as : List Int) (t b : Int) : Nat → Option Fr
  | 0 => some (0, 1)
  | k + 1 => (betT es as t b k).bind fun s => addF s (partF es as t b k)
def bet (es as : List Int) (t b : Int) : Option Fr := betT es as t b as.length

theorem ov_bd (e0 e1 t b : Int) (h : e0 ≤ e1) : 0 ≤ ov e0 e1 t b ∧ ov e0 e1 t b ≤ e1 - e0 := by unfold ov; omega
theorem ov_add (e0 e1 t b c : Int) (h0 : e0 ≤ e1) (h1 : t ≤ b) (h2 : b ≤ c) : ov e0 e1 t b + ov e0 e1 b c = ov e0 e1 t c := by unfold ov; omega
theorem part_num {es as : List Int} (h : okR es as = true) (t b : Int) {k : Nat} (hk : k < as.length) :
    0 ≤ nth as k * ov (nth es k) (nth es (k + 1)) t b ∧ nth as k * ov (nth es k) (nth es (k + 1)) t b ≤ 300000000 ∧ 1 ≤ nth es (k + 1) - nth es k ∧ nth es (k + 1) - nth es k ≤ 30000 := by
  obtain ⟨h1, h2, h3⟩ := okR_parts h
  have e0 := okE_at h1 (k := k) (by omega)
  have e1 := okE_at h1 (k := k + 1) (by omega)
  have lt := okE_lt h1 (k := k) (by omega)
  have o := ov_bd (nth es k) (nth es (k + 1)) t b (by omega)
  have a := okA_at h3 hk
  refine ⟨Int.mul_nonneg a.1 o.1, ?_, by omega, by omega⟩
  have := Int.mul_le_mul a.2 (show ov (nth es k) (nth es (k + 1)) t b ≤ 30000 by omega) o.1 (by omega)
  omega
theorem part_ok {es as : List Int} (h : okR es as = true) (t b : Int) {k : Nat} (hk : k < as.length) : okF (partF es as t b k) = true := by
  obtain ⟨p1, p2, p3, p4⟩ := part_num h t b hk
  unfold partF
  have d := red_den (a := nth as k * ov (nth es k) (nth es (k + 1)) t b) (b := nth es (k + 1) - nth es k) (by omega)
  have n := red_num (a := nth as k * ov (nth es k) (nth es (k + 1)) t b) (b := nth es (k + 1) - nth es k) (by omega) p1
  have g := red_gcd (a := nth as k * ov (nth es k) (nth es (k + 1)) t b) (b := nth es (k + 1) - nth es k) (by omega)
  exact decide_eq_true ⟨d.1, by omega, by omega, by omega, g⟩
theorem part_of {es as : List Int} (h : okR es as = true) (t b : Int) {k : Nat} (hk : k < as.length) : ofF (nth as k * ov (nth es k) (nth es (k + 1)) t b) (nth es (k + 1) - nth es k) = some (partF es as t b k) := by
  unfold ofF
  exact if_pos (part_ok h t b hk)

/-- The value of a part of a bin. -/
def vp (es as : List Int) (t b : Int) (k : Nat) : Rat := ((nth as k * ov (nth es k) (nth es (k + 1)) t b : Int) : Rat) / ((nth es (k + 1) - nth es k : Int) : Rat)
theorem betT_val {es as : List Int} (h : okR es as = true) (t b : Int) : ∀ k, k ≤ as.length → ∀ f, betT es as t b k = some f → okF f = true ∧ val f = sumR (vp es as t b) k
  | 0, _, f, e => by
    injection e with e
    subst e
    refine ⟨by decide, ?_⟩
    unfold val sumR
    simp only
    grind
  | k + 1, hk, f, e => by
    rw [betT] at e
    obtain ⟨s, hs, e⟩ := Option.bind_eq_some_iff.1 e
    obtain ⟨o, v⟩ := betT_val h t b k (by omega) s hs
    obtain ⟨o', v'⟩ := addF_val o (part_ok h t b (k := k) (by omega)) e
    refine ⟨o', ?_⟩
    rw [v', v, sumR]
    congr 1
    exact val_red (by have := (part_num h t b (k := k) (by omega)).2.2.1; omega)
theorem bet_val {es as : List Int} (h : okR es as = true) {t b : Int} {f : Fr} (e : bet es as t b = some f) : okF f = true ∧ val f = sumR (vp es as t b) as.length :=
  betT_val h t b _ (Nat.le_refl _) f e
theorem vp_add {es as : List Int} (h : okR es as = true) {t b c : Int} (h1 : t ≤ b) (h2 : b ≤ c) {k : Nat} (hk : k < as.length) : vp es as t b k + vp es as b c k = vp es as t c k := by
  obtain ⟨r1, r2, r3⟩ := okR_parts h
  have lt := okE_lt r1 (k := k) (by omega)
  have o := ov_add (nth es k) (nth es (k + 1)) t b c (by omega) h1 h2
  unfold vp
  rw [← o, Int.mul_add, Rat.intCast_add]
  grind
theorem sum_vp_add {es as : List Int} (h : okR es as = true) {t b c : Int} (h1 : t ≤ b) (h2 : b ≤ c) : sumR (vp es as t b) as.length + sumR (vp es as b c) as.length = sumR (vp es as t c) as.length := by
  rw [← sumR_add]
  exact sumR_congr fun k hk => vp_add h h1 h2 hk
theorem sum_vp_none {es as : List Int} (t : Int) (h : okR es as = true) : sumR (vp es as t t) as.length = 0 := by
  have := sum_vp_add h (Int.le_refl t) (Int.le_refl t)
  grind

/-! other bins -/
def nthF (l : List Fr) (k : Nat) : Fr := (l[k]?).getD (0, 0)
theorem nthF_left (l m : List Fr) (k : Nat) (h : k < l.length) : nthF (l ++ m) k = nthF l k := by unfold nthF; rw [List.getElem?_append_left h]
theorem nthF_snoc (l : List Fr) (z : Fr) : nthF (l ++ [z]) l.length = z := by unfold nthF; simp
def rebT (es as os : List Int) : Nat → Option (List Fr)
  | 0 => some []
  | k + 1 => (rebT es as os k).bind fun l => (bet es as (nth os k) (nth os (k + 1))).map fun f => l ++ [f]
def reb (es as os : List Int) : Option (List Fr) := rebT es as os (os.length - 1)
def addT (l : List Fr) : Nat → Option Fr
  | 0 => some (0, 1)
  | k + 1 => (addT l k).bind fun s => addF s (nthF l k)
def addL (l : List Fr) : Option Fr := addT l l.length

theorem rebT_at {es as os : List Int} : ∀ k l, rebT es as os k = some l → l.length = k ∧ ∀ j, j < k → bet es as (nth os j) (nth os (j + 1)) = some (nthF l j)
  | 0, l, e => by injection e with e; subst e; exact ⟨rfl, fun j hj => by omega⟩
  | k + 1, l, e => by
    rw [rebT] at e
    obtain ⟨m, hm, e⟩ := Option.bind_eq_some_iff.1 e
    obtain ⟨f, hf, e⟩ := Option.map_eq_some_iff.1 e
    obtain ⟨h1, h2⟩ := rebT_at k m hm
    subst e
    refine ⟨by simp [h1], fun j hj => ?_⟩
    by_cases c : j = k
    · subst c
      rw [hf]
      have := nthF_snoc m f
      rw [h1] at this
      rw [this]
    · rw [h2 j (by omega), nthF_left _ _ _ (by omega)]
theorem addT_val {l : List Fr} (h : ∀ k, k < l.length → okF (nthF l k) = true) : ∀ k, k ≤ l.length → ∀ f, addT l k = some f → okF f = true ∧ val f = sumR (fun j => val (nthF l j)) k
  | 0, _, f, e => by
    injection e with e
    subst e
    refine ⟨by decide, ?_⟩
    unfold val sumR
    simp only
    grind
  | k + 1, hk, f, e => by
    rw [addT] at e
    obtain ⟨s, hs, e⟩ := Option.bind_eq_some_iff.1 e
    obtain ⟨o, v⟩ := addT_val h k (by omega) s hs
    obtain ⟨o', v'⟩ := addF_val o (h k (by omega)) e
    refine ⟨o', ?_⟩
    rw [v', v, sumR]
theorem okE_le {os : List Int} (h : okE os = true) : ∀ k, k < os.length → nth os 0 ≤ nth os k
  | 0, _ => Int.le_refl _
  | k + 1, hk => by
    have a := okE_le h k (by omega)
    have b := okE_lt h hk
    omega
theorem sum_all {es as os : List Int} (h : okR es as = true) (ho : okE os = true) : ∀ k, k < os.length → sumR (fun j => sumR (vp es as (nth os j) (nth os (j + 1))) as.length) k = sumR (vp es as (nth os 0) (nth os k)) as.length
  | 0, _ => by rw [sum_vp_none _ h]; rfl
  | k + 1, hk => by
    rw [sumR, sum_all h ho k (by omega)]
    exact sum_vp_add h (okE_le ho k (by omega)) (by have := okE_lt ho hk; omega)
/-- The law: the amounts of other bins add up to the amount between their outer edges. -/
theorem rebin_law {es as os : List Int} {l : List Fr} {s x : Fr} (h : okR es as = true) (ho : okE os = true) (hl : reb es as os = some l) (hs : addL l = some s) (hx : bet es as (nth os 0) (nth os (os.length - 1)) = some x) : s = x := by
  have b := okE_bd ho
  obtain ⟨h1, h2⟩ := rebT_at _ _ hl
  have ok : ∀ k, k < l.length → okF (nthF l k) = true := fun k hk => (bet_val h (h2 k (by omega))).1
  obtain ⟨o1, v1⟩ := addT_val ok _ (Nat.le_refl _) s hs
  obtain ⟨o2, v2⟩ := bet_val h hx
  refine val_inj o1 o2 ?_
  rw [v1, v2, h1, ← sum_all h ho (os.length - 1) (by omega)]
  exact sumR_congr fun j hj => (bet_val h (h2 j hj)).2
theorem reb_len {es as os : List Int} {l : List Fr} (hl : reb es as os = some l) : l.length = os.length - 1 := (rebT_at _ _ hl).1

end Go.Proofs.Ytdcmlmdoiekdfaa
