/- The walk of FnThickMerge. -/
import Derived.Test.YtabbclfodlhikaaDrawLay4
import Derived.Test.YtabbclfodlhikaaLay4
import Derived.Test.YtabbclfodlhikaaInts
import Derived.Test.YtabbclfodlhikaaMrgLaw1
namespace Go.Proofs.Ytabbclfodlhikaa
open Go.RowKit

theorem mrgV_lenT {l l' : List Lay} : (mrgV l l').length ≤ 1048576 := by have := mrgV_len (l := l) (l' := l'); omega
theorem two_cons {s : List Int} {j : Nat} (h : s.length = j + 2) : s = nth s 0 :: nth s 1 :: s.drop 2 := by
  match s, h with
  | p :: q :: r, _ => rfl
theorem one_rowT (w : World) (d : Int) (s : Bool) : LRow (w.alloc (.cells #[.int .i64 d, .bool s] 48)) w.heap.size (some ⟨w.heap.size, 0, none⟩) 1 1 [(d, s)] := by
  refine ⟨rfl, Nat.le_refl _, fun _ => ⟨w.heap.size, 0, rfl, Nat.le_refl _, by simp, fun j hj => ?_⟩⟩
  obtain rfl : j = 0 := by omega
  constructor
  · simp [go_sem]; rfl
  · simp [go_sem]; rfl

set_option maxRecDepth 100000 in
set_option maxHeartbeats 2000000 in
theorem thickMerge_walk (a : Option Addr) (len c : Nat) (w : World) (h : BRow w w.heap.size a len) (hc : len ≤ c) (hn : len ≤ 9223372036854775807) :
    Calls Try.prog 10 #[.slice a len c] w fun e w' => e = .returned (.bool true) ∧ Below w.heap.size w w' := by
  by_cases hlen : 1048576 < len
  · go_enter Try.func10, Try.ntmps10
    go_wp2_with fail
    go_ret
    exact ⟨rfl, Below.refl _ _⟩
  go_enter Try.func10, Try.ntmps10
  go_wp2_with fail
  refine (drawThick_any _ _ _ _ h hc hn).mono ?_
  rintro e w1 ⟨a1, n, c1, l, hn1, hd, rfl, r1, f1, b1⟩
  have hln := r1.len
  have hsl := sdV_len l
  have hdl := length_diffs (sdV l)
  go_wp2_with fail
  refine (implThick_any _ _ _ _ _ _ r1 (by omega)).mono ?_
  rintro e w2 ⟨a2, n2, c2, rfl, r2, f2, b2⟩
  obtain rfl : (sdV l).length - 1 = n2 := by rw [← r2.len, length_diffs]
  obtain ⟨n2, hn2⟩ : ∃ n2, (sdV l).length - 1 = n2 := ⟨_, rfl⟩
  rw [hn2] at r2 f2 ⊢
  go_wp2_with fail
  refine (specThick_any _ _ _ _ _ _ (r1.keep b2) (by omega)).mono ?_
  rintro e w3 ⟨a3, n3, c3, rfl, r3, f3, b3⟩
  obtain rfl : n2 = n3 := by rw [← r3.len, r2.len]
  go_wp2_with fail
  refine (sameInts_yes _ _ _ _ _ _ _ _ _ (r2.keep b3) r3 (by omega)).mono ?_
  rintro e w4 ⟨rfl, m4, hw4⟩
  have b4 : Below w3.heap.size w3 w4 := by rw [hw4]; exact below_new _ _
  clear hw4
  by_cases hz : n2 = 0
  · subst hz
    go_wp2_with fail
    refine (sameInts_yes _ _ _ _ _ _ _ _ _ ((r2.keep b3).keep b4) (r3.keep b4) (by omega)).mono ?_
    rintro e w5 ⟨rfl, m5, hw5⟩
    have b5 : Below w4.heap.size w4 w5 := by rw [hw5]; exact below_new _ _
    clear hw5
    go_wp2_with fail
    go_ret
    exact ⟨rfl, below2 (below2 (below2 (below2 b1 b2) b3) b4) b5⟩
  have B := below2 (below2 (below2 b1 b2) b3) b4
  replace r1 := ((r1.keep b2).keep b3).keep b4
  replace r2 := (r2.keep b3).keep b4
  clear f1 b1 b2 b3 b4 r3 f2 f3 h hc hn hd
  have hok : okL l = true := by
    cases e : okL l with
    | true => rfl
    | false => rw [sdV_no e] at hn2; simp at hn2; omega
  have HO := Lib.hid hok
  rw [sdV_ok hok] at hn2 hsl hdl r2
  obtain ⟨j, rfl⟩ : ∃ j, n2 = j + 1 := ⟨n2 - 1, by omega⟩
  have HL : Hid ((sureD l).length = j + 2) := by show _ = _; omega
  have hj9 : j + 2 ≤ 9 := by have := HL.out; have := sureD_len l; omega
  have L1 : Hid (l.length ≤ 1048576) := by show _ ≤ _; omega
  have HV := Lib.hid (sdV_ok hok)
  have va := sureD_bd hok 0
  have vb := sureD_bd hok 1
  have vlt : nth (sureD l) 0 < nth (sureD l) 1 := rise_lt (sureD_rise hok) (by omega) (by omega)
  have vs := two_cons HL.out
  have vd : nth (diffs (sureD l)) 0 = nth (sureD l) 1 - nth (sureD l) 0 := nth_diffs (by omega)
  obtain ⟨a2g, a2o, rfl, _, _, hcell⟩ := r2.at_ (show 0 < j + 1 by omega)
  clear hcell
  obtain ⟨p, hp⟩ : ∃ p, nth (sureD l) 0 = p := ⟨_, rfl⟩
  obtain ⟨q, hq⟩ : ∃ q, nth (sureD l) 1 = q := ⟨_, rfl⟩
  rw [hp] at va vlt vs vd
  rw [hq] at vb vlt vs vd
  have VS := Lib.hid vs
  have VD := Lib.hid vd
  have HP := Lib.hid hp
  have HQ := Lib.hid hq
  clear hok hn2 hdl hsl hz vs vd hp hq
  go_wp2_with fail
  refine (implDepth_ok _ _ _ _ _ _ _ r1 (by omega) 0 (by omega) (by rw [HV.out, HL.out]; omega)).mono ?_
  rw [HV.out, HP.out]
  rintro e w5 ⟨rfl, b5⟩
  replace r1 := r1.keep b5
  replace r2 := r2.keep b5
  replace B := below2 B b5
  clear b5
  go_wp2_with fail
  refine (implDepth_ok _ _ _ _ _ _ _ r1 (by omega) 1 (by omega) (by rw [HV.out, HL.out]; omega)).mono ?_
  rw [HV.out, HQ.out]
  rintro e w6 ⟨rfl, b6⟩
  replace r1 := r1.keep b6
  replace r2 := r2.keep b6
  replace B := below2 B b6
  clear b6
  obtain ⟨m, hm⟩ : ∃ m : Int, (p + q) / 2 = m := ⟨_, rfl⟩
  have hmb : p ≤ m ∧ m ≤ q := by omega
  have HM : Hid (2 ≤ q - p → p < m ∧ m < q) := fun h => by omega
  have bA : Below w6.heap.size w6 (w6.alloc (.cells #[.int .i64 m, .bool true] 48)) := (Below.refl _ _).alloc (Nat.le_refl _) _
  have r4 := one_rowT w6 m true
  have L4 : Hid ([((m : Int), true)].length ≤ 1048576) := by show _ ≤ _; simp
  replace r1 := r1.keep bA
  replace r2 := r2.keep bA
  obtain ⟨s, hs⟩ : ∃ s, mrgOk l [(m, true)] = s := ⟨_, rfl⟩
  obtain ⟨x, hx⟩ : ∃ x, mrgV l [(m, true)] = x := ⟨_, rfl⟩
  have LX : Hid (x.length ≤ 1048576) := by show _ ≤ _; rw [← hx]; exact mrgV_lenT
  have key : Hid (s = true → p < m ∧ m < q → sdV x = p :: m :: q :: (sureD l).drop 2) := fun hs1 h => by
    have h1 := hs.trans hs1
    rw [← hx, mrgV_ok h1, sdV_ok (mrgOk_iff.1 h1).2.2]
    exact sureD_between (okL_rise HO.out) VS.out (sureD_rise HO.out) h.1 h.2
  have S := Lib.hid hs
  have X := Lib.hid hx
  clear hs hx
  go_wp2_with fail
  refine (implMerge_is S.out X.out L1.out L4.out r1 r4).mono ?_
  rintro e w7 ⟨a5, n5, c5, rfl, r5, _, b7⟩
  replace r2 := r2.keep b7
  replace B := below2 (below2 B bA) b7
  clear b7 bA r1 r4
  go_wp2_with fail
  refine (implThick_any _ _ _ _ _ _ r5 (by have := r5.len; have := LX.out; omega)).mono ?_
  rintro e w8 ⟨a6, n6, c6, rfl, r6, _, b8⟩
  replace r2 := r2.keep b8
  replace B := below2 B b8
  clear b8 r5
  have c2 := r2.cellAt (show 0 < j + 1 by omega)
  rw [Nat.add_zero, VD.out] at c2
  cases s with
  | false =>
    go_wp2_with fail
    go_quiet (fail)
    go_wp2_with fail
    go_ret
    exact ⟨rfl, below2 B (below_new w8 nq)⟩
  | true =>
    by_cases h2 : 2 ≤ q - p
    · have hk := key.out rfl (HM.out h2)
      rw [hk] at r6
      have hl6 : n6 = j + 2 := by
        have h1 := r6.len
        have h3 := HL.out
        rw [length_diffs] at h1
        simp only [List.length_cons, List.length_drop] at h1
        omega
      subst hl6
      obtain ⟨g6, o6, rfl, _, _, k0⟩ := r6.at_ (show 0 < j + 2 by omega)
      have k1 := r6.cellAt (show 1 < j + 2 by omega)
      have e0 : nth (diffs (p :: m :: q :: (sureD l).drop 2)) 0 = m - p := nth_diffs (by simp)
      have e1 : nth (diffs (p :: m :: q :: (sureD l).drop 2)) 1 = q - m := nth_diffs (by simp)
      rw [Nat.add_zero, e0] at k0
      rw [e1] at k1
      have d1 : decide (q - p < 2) = false := decide_eq_false (by omega)
      have d2 : ((j : Int) + 2 == (j : Int) + 1 + 1) = true := beq_iff_eq.2 (by omega)
      have d3 : (m - p + (q - m) == q - p) = true := beq_iff_eq.2 (by omega)
      clear e0 e1 hk key
      go_wp2_with fail
      go_quiet (fail)
      go_wp2_with fail
      go_ret
      first | exact ⟨rfl, below2 B (below_new w8 nq)⟩ | exact ⟨ret_bool (decide_eq_true (by omega)), below2 B (below_new w8 nq)⟩ | exact ⟨ret_bool (beq_iff_eq.2 (by omega)), below2 B (below_new w8 nq)⟩
    · have h2' : q - p < 2 := by omega
      have d1 : decide (q - p < 2) = true := decide_eq_true h2'
      go_wp2_with fail
      go_quiet (fail)
      go_wp2_with fail
      go_ret
      exact ⟨rfl, below2 B (below_new w8 nq)⟩

end Go.Proofs.Ytabbclfodlhikaa
