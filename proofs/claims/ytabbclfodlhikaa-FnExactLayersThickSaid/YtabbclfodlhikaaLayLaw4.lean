/- FnExactLayersDepth, FnExactLayersThick and the laws of depths and thicknesses of layers. -/
import Derived.Test.YtabbclfodlhikaaDrawLay4
import Derived.Test.YtabbclfodlhikaaLay3
import Derived.Test.YtabbclfodlhikaaLay4
import Derived.Test.YtabbclfodlhikaaLMark
import Derived.Test.YtabbclfodlhikaaInts
namespace Go.Proofs.Ytabbclfodlhikaa
open Go.RowKit

theorem min_go (a b : Int) : (if b < a then b else a) = min a b := by rw [Int.min_def]; split <;> split <;> omega

set_option maxHeartbeats 1000000 in
theorem exactDepth_walk (a : Option Addr) (n c : Nat) (l : List Lay) (y : Int) (w : World) (h : LRow w 0 a n c l) (hmax : n ≤ 9223372036854775807) :
    Calls Try.prog 4 #[.slice a n c, .int .i64 y] w fun e w' => e = .returned (.bool true) ∧ Below w.heap.size w w' := by
  by_cases hn : 1048576 < n
  · go_enter Try.func4, Try.ntmps4
    go_wp2_with fail
    refine (sz_no _ _ _ _ _ (by omega) (by omega) (by omega) hmax).mono ?_
    rintro e w' ⟨rfl, rfl⟩
    go_wp2_with fail
    go_ret
    exact ⟨rfl, Below.refl _ _⟩
  · by_cases hy : 1 ≤ y ∧ y ≤ (sdV l).length
    · obtain ⟨m, hm⟩ : ∃ m : Nat, y = (m : Int) + 1 := ⟨(y - 1).toNat, by omega⟩
      have HM := Lib.hid hm
      have HL : Hid (m < (sdV l).length) := by show m < _; omega
      clear hm hy
      go_enter Try.func4, Try.ntmps4
      go_wp2_with fail
      refine (sz_ok _ _ _ _ _ (by omega) (by omega)).mono ?_
      rintro e w' ⟨rfl, rfl⟩
      go_wp2_with fail
      refine (toLayerS_any _ _ _ _ _ _ h (by omega)).mono ?_
      rintro e w1 ⟨a1, n1, c1, rfl, r1, f1, b1⟩
      obtain rfl : n1 = n := by rw [← r1.len, h.len]
      go_wp2_with fail
      refine (specDepth_is _ _ _ _ _ _ _ r1 m HM.out HL.out).mono ?_
      rintro e w2 ⟨rfl, b2⟩
      have B2 := below2 b1 b2
      go_wp2_with fail
      refine (toLayerS_any _ _ _ _ _ _ (h.keep B2) (by omega)).mono ?_
      rintro e w3 ⟨a3, n3, c3, rfl, r3, f3, b3⟩
      obtain rfl : n3 = n1 := by rw [← r3.len, h.len]
      have B3 := below2 B2 b3
      go_wp2_with fail
      refine (implDepth_ok _ _ _ _ _ _ _ r3 (by omega) m HM.out HL.out).mono ?_
      rintro e w4 ⟨rfl, b4⟩
      have B4 := below2 B3 b4
      go_wp2_with fail
      refine (toLayerS_any _ _ _ _ _ _ (h.keep B4) (by omega)).mono ?_
      rintro e w5 ⟨a5, n5, c5, rfl, r5, f5, b5⟩
      obtain rfl : n5 = n3 := by rw [← r5.len, h.len]
      go_wp2_with fail
      refine (eqLayerS_yes _ _ _ _ _ _ _ _ _ ((r3.keep b4).keep b5) r5 (by omega)).mono ?_
      rintro e w6 ⟨rfl, b6⟩
      go_wp2_with fail
      go_ret
      exact ⟨rfl, below2 (below2 B4 b5) b6⟩
    · have HY : Hid (y < 1 ∨ ((sdV l).length : Int) < y) := by show y < 1 ∨ ((sdV l).length : Int) < y; omega
      clear hy
      go_enter Try.func4, Try.ntmps4
      go_wp2_with fail
      refine (sz_ok _ _ _ _ _ (by omega) (by omega)).mono ?_
      rintro e w' ⟨rfl, rfl⟩
      go_wp2_with fail
      refine (toLayerS_any _ _ _ _ _ _ h (by omega)).mono ?_
      rintro e w1 ⟨a1, n1, c1, rfl, r1, f1, b1⟩
      obtain rfl : n1 = n := by rw [← r1.len, h.len]
      go_wp2_with fail
      refine (specDepth_no _ _ _ _ _ _ _ r1 (by omega) HY.out).mono ?_
      rintro e w2 ⟨rfl, b2⟩
      have B2 := below2 b1 b2
      go_wp2_with fail
      refine (toLayerS_any _ _ _ _ _ _ (h.keep B2) (by omega)).mono ?_
      rintro e w3 ⟨a3, n3, c3, rfl, r3, f3, b3⟩
      obtain rfl : n3 = n1 := by rw [← r3.len, h.len]
      have B3 := below2 B2 b3
      go_wp2_with fail
      refine (implDepth_no _ _ _ _ _ _ _ r3 (by omega) HY.out).mono ?_
      rintro e w4 ⟨rfl, b4⟩
      have B4 := below2 B3 b4
      go_wp2_with fail
      refine (toLayerS_any _ _ _ _ _ _ (h.keep B4) (by omega)).mono ?_
      rintro e w5 ⟨a5, n5, c5, rfl, r5, f5, b5⟩
      obtain rfl : n5 = n3 := by rw [← r5.len, h.len]
      go_wp2_with fail
      refine (eqLayerS_yes _ _ _ _ _ _ _ _ _ ((r3.keep b4).keep b5) r5 (by omega)).mono ?_
      rintro e w6 ⟨rfl, b6⟩
      go_wp2_with fail
      go_ret
      exact ⟨rfl, below2 (below2 B4 b5) b6⟩

set_option maxRecDepth 100000 in
set_option maxHeartbeats 2000000 in
theorem depthRises_walk (a : Option Addr) (len c : Nat) (w : World) (h : BRow w w.heap.size a len) (hc : len ≤ c) (hn : len ≤ 9223372036854775807) :
    Calls Try.prog 5 #[.slice a len c] w fun e w' => e = .returned (.bool true) ∧ Below w.heap.size w w' := by
  by_cases hlen : 1048576 < len
  · go_enter Try.func5, Try.ntmps5
    go_wp2_with fail
    go_ret
    exact ⟨rfl, Below.refl _ _⟩
  go_enter Try.func5, Try.ntmps5
  go_wp2_with fail
  refine (drawDepth_any _ _ _ _ h hc hn).mono ?_
  rintro e w1 ⟨a1, n, c1, l, x, hn1, hd, hx, rfl, r1, f1, b1⟩
  have hln := r1.len
  by_cases hm : 1 ≤ x ∧ x ≤ (sdV l).length
  · obtain ⟨m, rfl⟩ : ∃ m, x = m + 1 := ⟨x - 1, by omega⟩
    have hml : m < (sdV l).length := by omega
    have HML := Lib.hid hml
    have hvb := sdV_bd l m
    clear hm hml
    go_wp2_with fail
    refine (implDepth_ok _ _ _ _ _ _ _ r1 (by omega) m (by omega) HML.out).mono ?_
    rintro e w2 ⟨rfl, b2⟩
    go_wp2_with fail
    refine (specDepth_is _ _ _ _ _ _ _ (r1.keep b2) m (by omega) HML.out).mono ?_
    rintro e w3 ⟨rfl, b3⟩
    have B3 := below2 (below2 b1 b2) b3
    have q3 := (r1.keep b2).keep b3
    clear r1 f1 b1 b2 b3
    by_cases hp : m + 1 < (sdV l).length
    · have HP := Lib.hid hp
      have hgt : nth (sdV l) m < nth (sdV l) (m + 1) := by
        have hok : okL l = true := by
          cases e : okL l with
          | true => rfl
          | false => rw [sdV_no e] at hp; simp at hp
        rw [sdV_ok hok] at hp ⊢
        exact rise_lt (sureD_rise hok) (by omega) hp
      have hvb1 := sdV_bd l (m + 1)
      clear hp
      go_wp2_with fail
      refine (implDepth_ok _ _ _ _ _ _ _ q3 (by omega) (m + 1) (by omega) HP.out).mono ?_
      rintro e w4 ⟨rfl, b4⟩
      have B4 := below2 B3 b4
      have q4 := q3.keep b4
      clear q3 b4 B3
      have HQ : Hid (((sdV l).length : Int) < (n : Int) + 1) := by
        show ((sdV l).length : Int) < (n : Int) + 1
        have h1 : (sdV l).length ≤ l.length := by
          unfold sdV
          split
          · exact sureD_len l
          · simp
        omega
      go_wp2_with fail
      refine (implDepth_no _ _ _ _ _ _ _ q4 (by omega) (.inr HQ.out)).mono ?_
      rintro e w5 ⟨rfl, b5⟩
      have B5 := below2 B4 b5
      have q5 := q4.keep b5
      clear q4 b5 B4
      go_wp2_with fail
      go_ret
      first | exact ⟨rfl, B5⟩ | exact ⟨ret_bool (decide_eq_true (by omega)), B5⟩ | exact ⟨ret_bool (beq_iff_eq.2 (by omega)), B5⟩
    · have HP : Hid (((sdV l).length : Int) < (m : Int) + 1 + 1) := by show ((sdV l).length : Int) < (m : Int) + 1 + 1; omega
      clear hp
      go_wp2_with fail
      refine (implDepth_no _ _ _ _ _ _ _ q3 (by omega) (.inr (by have := HP.out; omega))).mono ?_
      rintro e w4 ⟨rfl, b4⟩
      have B4 := below2 B3 b4
      have q4 := q3.keep b4
      clear q3 b4 B3
      have HQ : Hid (((sdV l).length : Int) < (n : Int) + 1) := by
        show ((sdV l).length : Int) < (n : Int) + 1
        have h1 : (sdV l).length ≤ l.length := by
          unfold sdV
          split
          · exact sureD_len l
          · simp
        omega
      go_wp2_with fail
      refine (implDepth_no _ _ _ _ _ _ _ q4 (by omega) (.inr HQ.out)).mono ?_
      rintro e w5 ⟨rfl, b5⟩
      have B5 := below2 B4 b5
      have q5 := q4.keep b5
      clear q4 b5 B4
      go_wp2_with fail
      go_ret
      first | exact ⟨rfl, B5⟩ | exact ⟨ret_bool (decide_eq_true (by omega)), B5⟩ | exact ⟨ret_bool (beq_iff_eq.2 (by omega)), B5⟩
  · have HM : Hid ((x : Int) < 1 ∨ ((sdV l).length : Int) < (x : Int)) := by show (x : Int) < 1 ∨ ((sdV l).length : Int) < (x : Int); omega
    clear hm
    go_wp2_with fail
    refine (implDepth_no _ _ _ _ _ _ _ r1 (by omega) HM.out).mono ?_
    rintro e w2 ⟨rfl, b2⟩
    go_wp2_with fail
    refine (specDepth_no _ _ _ _ _ _ _ (r1.keep b2) (by omega) HM.out).mono ?_
    rintro e w3 ⟨rfl, b3⟩
    go_wp2_with fail
    go_ret
    exact ⟨rfl, below2 (below2 b1 b2) b3⟩

set_option maxRecDepth 100000 in
set_option maxHeartbeats 2000000 in
theorem depth_walk (a : Option Addr) (len c : Nat) (w : World) (h : BRow w w.heap.size a len) (hc : len ≤ c) (hn : len ≤ 9223372036854775807) :
    Calls Try.prog 6 #[.slice a len c] w fun e w' => e = .returned (.bool true) ∧ Below w.heap.size w w' := by
  by_cases hlen : 1048576 < len
  · go_enter Try.func6, Try.ntmps6
    go_wp2_with fail
    go_ret
    exact ⟨rfl, Below.refl _ _⟩
  go_enter Try.func6, Try.ntmps6
  go_wp2_with fail
  refine (drawDepth_any _ _ _ _ h hc hn).mono ?_
  rintro e w1 ⟨a1, n, c1, l, x, hn1, hd, hx, rfl, r1, f1, b1⟩
  have hln := r1.len
  by_cases hm : 1 ≤ x ∧ x ≤ (sdV l).length
  · obtain ⟨m, rfl⟩ : ∃ m, x = m + 1 := ⟨x - 1, by omega⟩
    have hml : m < (sdV l).length := by omega
    have HML := Lib.hid hml
    have hvb := sdV_bd l m
    clear hm hml
    go_wp2_with fail
    refine (implDepth_ok _ _ _ _ _ _ _ r1 (by omega) m (by omega) HML.out).mono ?_
    rintro e w2 ⟨rfl, b2⟩
    go_wp2_with fail
    refine (specDepth_is _ _ _ _ _ _ _ (r1.keep b2) m (by omega) HML.out).mono ?_
    rintro e w3 ⟨rfl, b3⟩
    have B3 := below2 (below2 b1 b2) b3
    have q3 := (r1.keep b2).keep b3
    clear r1 f1 b1 b2 b3
    have hok : okL l = true := by
      cases e : okL l with
      | true => rfl
      | false => have := HML.out; rw [sdV_no e] at this; simp at this
    have HO := Lib.hid hok
    have HV := Lib.hid (sdV_ok hok)
    have HA : Hid (cSure l 0 (nth (sdV l) m) = m ∧ cSure l 0 (nth (sdV l) m + 1) = m + 1) := by
      have := HML.out
      rw [HV.out] at this
      rw [HV.out]
      exact cSure_at HO.out this
    clear hok
    obtain ⟨v, hv⟩ : ∃ v, nth (sdV l) m = v := ⟨_, rfl⟩
    rw [hv] at hvb HA ⊢
    clear hv
    go_wp2_with fail
    refine (implCount_ok _ _ _ _ _ 0 v _ q3 HO.out (okSpan_mk (by omega) (by omega) (by omega))).mono ?_
    rintro e w4 ⟨rfl, b4⟩
    have B4 := below2 B3 b4
    have q4 := q3.keep b4
    clear q3 b4 B3

    rw [HA.out.1]
    by_cases hv3 : v = 30000
    · subst hv3
      go_wp2_with fail
      refine (implCount_ok _ _ _ _ _ 0 30000 _ q4 HO.out (okSpan_mk (by omega) (by omega) (by omega))).mono ?_
      rintro e w5 ⟨rfl, b5⟩
      have B5 := below2 B4 b5
      have q5 := q4.keep b5
      clear q4 b5 B4
      go_wp2_with fail
      go_ret
      first | exact ⟨rfl, B5⟩ | exact ⟨ret_bool (decide_eq_true (by omega)), B5⟩ | exact ⟨ret_bool (beq_iff_eq.2 (by omega)), B5⟩
    · have hmin : (if 30000 < v + 1 then 30000 else v + 1) = v + 1 := if_neg (by omega)
      have dv : (v == 30000) = false := beq_eq_false_iff_ne.2 hv3
      go_wp2_with fail
      refine (implCount_ok _ _ _ _ _ 0 (v + 1) _ q4 HO.out (okSpan_mk (by omega) (by omega) (by omega))).mono ?_
      rintro e w5 ⟨rfl, b5⟩
      have B5 := below2 B4 b5
      have q5 := q4.keep b5
      clear q4 b5 B4
      rw [HA.out.2]
      go_wp2_with fail
      go_ret
      first | exact ⟨rfl, B5⟩ | exact ⟨ret_bool (decide_eq_true (by omega)), B5⟩ | exact ⟨ret_bool (beq_iff_eq.2 (by omega)), B5⟩
  · have HM : Hid ((x : Int) < 1 ∨ ((sdV l).length : Int) < (x : Int)) := by show (x : Int) < 1 ∨ ((sdV l).length : Int) < (x : Int); omega
    clear hm
    go_wp2_with fail
    refine (implDepth_no _ _ _ _ _ _ _ r1 (by omega) HM.out).mono ?_
    rintro e w2 ⟨rfl, b2⟩
    go_wp2_with fail
    refine (specDepth_no _ _ _ _ _ _ _ (r1.keep b2) (by omega) HM.out).mono ?_
    rintro e w3 ⟨rfl, b3⟩
    go_wp2_with fail
    go_ret
    exact ⟨rfl, below2 (below2 b1 b2) b3⟩

set_option maxRecDepth 100000 in
set_option maxHeartbeats 2000000 in
theorem thickSure_walk (a : Option Addr) (len c : Nat) (w : World) (h : BRow w w.heap.size a len) (hc : len ≤ c) (hn : len ≤ 9223372036854775807) :
    Calls Try.prog 8 #[.slice a len c] w fun e w' => e = .returned (.bool true) ∧ Below w.heap.size w w' := by
  by_cases hlen : 1048576 < len
  · go_enter Try.func8, Try.ntmps8
    go_wp2_with fail
    go_ret
    exact ⟨rfl, Below.refl _ _⟩
  go_enter Try.func8, Try.ntmps8
  go_wp2_with fail
  refine (drawThick_any _ _ _ _ h hc hn).mono ?_
  rintro e w1 ⟨a1, n, c1, l, hn1, hd, rfl, r1, f1, b1⟩
  have hln := r1.len
  have hsl := sdV_len l
  have hdl := length_diffs (sdV l)
  go_wp2_with fail
  refine (implThick_any _ _ _ _ _ _ r1 (by omega)).mono ?_
  rintro e w2 ⟨a2, n2, c2, rfl, r2, f2, b2⟩
  obtain rfl : (sdV l).length - 1 = n2 := by rw [← r2.len, length_diffs]
  obtain ⟨n2, hn2⟩ : ∃ n2, (sdV l).length - 1 = n2 := ⟨_, rfl⟩
  rw [hn2] at r2 f2 ⊢
  go_wp2_with fail
  refine (specThick_any _ _ _ _ _ _ (r1.keep b2) (by omega)).mono ?_
  rintro e w3 ⟨a3, n3, c3, rfl, r3, f3, b3⟩
  obtain rfl : n2 = n3 := by rw [← r3.len, r2.len]
  go_wp2_with fail
  refine (sameInts_yes _ _ _ _ _ _ _ _ _ (r2.keep b3) r3 (by omega)).mono ?_
  rintro e w4 ⟨rfl, m4, hw4⟩
  have b4 : Below w3.heap.size w3 w4 := by rw [hw4]; exact below_new _ _
  clear hw4
  by_cases hz : n2 = 0
  · subst hz
    go_wp2_with fail
    refine (sameInts_yes _ _ _ _ _ _ _ _ _ ((r2.keep b3).keep b4) (r3.keep b4) (by omega)).mono ?_
    rintro e w5 ⟨rfl, m5, hw5⟩
    have b5 : Below w4.heap.size w4 w5 := by rw [hw5]; exact below_new _ _
    clear hw5
    go_wp2_with fail
    go_ret
    exact ⟨rfl, below2 (below2 (below2 (below2 b1 b2) b3) b4) b5⟩
  have B4 := below2 (below2 (below2 b1 b2) b3) b4
  have q4 := ((r1.keep b2).keep b3).keep b4
  have s4 := (r2.keep b3).keep b4
  clear r1 f1 b1 b2 b3 b4 r2 r3 f2 f3
  have hok : okL l = true := by
    cases e : okL l with
    | true => rfl
    | false => rw [sdV_no e] at hn2; simp at hn2; omega
  have HO := Lib.hid hok
  rw [sdV_ok hok] at hn2 hsl hdl s4
  have HN := Lib.hid hn2
  obtain ⟨j, rfl⟩ : ∃ j, n2 = j + 1 := ⟨n2 - 1, by omega⟩
  have HL : Hid ((sureD l).length = j + 2) := by show _ = _; omega
  have hj9 : j + 2 ≤ 9 := by have := HL.out; have := sureD_len l; omega
  clear hok hn2 hdl hsl hz
  have ho0 : (w4.alloc (.cells #[] 48)).ownsRow w4.heap.size 48 2 (.slice (some ⟨w4.heap.size, 0, none⟩) 0 0) 0 (flat ((l.take 0).filter (·.2))) := World.ownsRow_lit w4 _ 0 (Nat.le_refl _) (by unfold maxLen; omega) rfl
  have Q4 := Lib.hid q4
  have S4 := Lib.hid s4
  have HB4 := Lib.hid B4
  clear q4 s4 B4
  go_wp2_with fail
  go_loopw [6, 7] (fun v i wr => ∃ k q : Nat, k ≤ n ∧ q ≤ k ∧ i = .int .i64 k ∧ wr.ownsRow w4.heap.size 48 2 v q (flat ((l.take k).filter (·.2))) ∧ Below w4.heap.size w4 wr) (fun _ i _ => n - (intOf i).toNat)
  case atStart => exact ⟨0, 0, Nat.zero_le _, Nat.zero_le _, rfl, ho0, (Below.refl _ _).alloc (Nat.le_refl _) _⟩
  case round =>
    clear ho0
    obtain ⟨k, q, hk, hq, rfl, hown, hb⟩ := hrel
    by_cases hlt : k < n
    · obtain ⟨g, off, rfl, _, hg, hcc, hdd⟩ := (Q4.out.keep hb).at_ hlt
      cases hss : sur l k with
      | true =>
        obtain ⟨d, hdv⟩ : ∃ d, dep l k = d := ⟨_, rfl⟩
        have E : Hid ((l.take (k + 1)).filter (·.2) = (l.take k).filter (·.2) ++ [(d, true)]) := by
          show _ = _
          rw [List.take_add_one, lay_getElem (by omega), hss, hdv]; simp
        rw [hss] at hdd
        rw [hdv] at hcc
        clear hss hdv
        go_wp2_with (at_builtin; refine wpList_append_lay _ rfl _ _ rfl w4.heap.size _ _ _ rfl d true wr.heap.size rfl (hown.alloc _) (by simp) (by simp) (by omega) (by have := hb.size; simp; omega) ?_; intro v' w5 hown5 hgrow5)
        rw [← E.out] at hown5
        go_roundw
        case rel => first | exact ⟨k + 1, by omega, q + 1, by omega, by omega, hown5, below_append hb hb.size hown hgrow5⟩ | exact ⟨k + 1, q + 1, by omega, by omega, by go_num, hown5, below_append hb hb.size hown hgrow5⟩
        case measure => simp [intOf]; omega
      | false =>
        have E : Hid ((l.take (k + 1)).filter (·.2) = (l.take k).filter (·.2)) := by
          show _ = _
          rw [List.take_add_one, lay_getElem (by omega), hss]; simp
        rw [hss] at hdd
        clear hss
        go_wp2_with fail
        go_roundw
        case rel => exact ⟨k + 1, q, by omega, by omega, by go_num, by rw [E.out]; exact hown, hb⟩
        case measure => simp [intOf]; omega
    · obtain rfl : n = k := by omega
      obtain ⟨a5, c5, rfl, r5, f5⟩ := LRow.of_own hown
      rw [List.take_of_length_le (by omega)] at r5
      have EQ : q = j + 2 := by rw [← r5.len, ← sureD_filter_len, HL.out]
      subst EQ
      have B5 := below2 HB4.out hb
      have HS : Hid (sdV (l.filter (·.2)) = sureD l) := by show _ = _; rw [sdV_ok (okL_sub HO.out List.filter_sublist), sureD_filter]
      go_wp2_with fail
      refine (implThick_any _ _ _ _ _ _ r5 (by omega)).mono ?_
      rintro e w6 ⟨a6, n6, c6, rfl, r6, f6, b6⟩
      rw [HS.out] at r6
      obtain rfl : j + 1 = n6 := by rw [← r6.len, length_diffs, HL.out]; rfl
      go_wp2_with fail
      refine (sameInts_yes _ _ _ _ _ _ _ _ _ r6 ((S4.out.keep hb).keep b6) (by omega)).mono ?_
      rintro e w7 ⟨rfl, m7, hw7⟩
      have b7 : Below w6.heap.size w6 w7 := by rw [hw7]; exact below_new _ _
      clear hw7
      have B7 := below2 (below2 B5 b6) b7
      go_wp2_with fail
      go_ret
      first | exact ⟨rfl, B7⟩ | exact ⟨ret_bool (decide_eq_true (by omega)), B7⟩ | exact ⟨ret_bool (beq_iff_eq.2 (by omega)), B7⟩

theorem sumOf_any (a : Option Addr) (n c lo : Nat) (l : List Int) (w : World) (h : IRow w lo a n c l) (hn : n ≤ 40) (hs : ∀ k, k ≤ n → -1200000 ≤ sumF (nth l) k ∧ sumF (nth l) k ≤ 1200000) :
    Calls Try.prog 30 #[.slice a n c] w fun e w' => e = .returned (.int .i64 (sumF (nth l) n)) ∧ w = w' := by
  have H := Lib.hid h
  have HS := Lib.hid hs
  clear h hs
  go_enter Try.func30, Try.ntmps30
  go_wp2_with fail
  go_loop [3, 4] (fun q i => ∃ k : Nat, k ≤ n ∧ i = .int .i64 k ∧ q = .int .i64 (sumF (nth l) k)) (fun _ i => n - (intOf i).toNat)
  case atStart => exact ⟨0, Nat.zero_le _, rfl, rfl⟩
  case round =>
    obtain ⟨k, hk, rfl, rfl⟩ := hrel
    by_cases hlt : k < n
    · obtain ⟨g, off, rfl, _, hg, hc⟩ := H.out.at_ hlt
      have s1 := HS.out k hk
      have s2 := HS.out (k + 1) (by omega)
      have e : sumF (nth l) (k + 1) = sumF (nth l) k + nth l k := rfl
      rw [e] at s2
      have E := Lib.hid e
      clear e
      go_wp2_with fail
      go_round
      case rel => exact ⟨k + 1, by omega, by go_num, by rw [E.out]⟩
      case measure => simp [intOf]; omega
    · obtain rfl : n = k := by omega
      go_wp2_with fail
      go_ret
      exact ⟨rfl, rfl⟩

set_option maxRecDepth 100000 in
set_option maxHeartbeats 2000000 in
theorem thick_walk (a : Option Addr) (len c : Nat) (w : World) (h : BRow w w.heap.size a len) (hc : len ≤ c) (hn : len ≤ 9223372036854775807) :
    Calls Try.prog 9 #[.slice a len c] w fun e w' => e = .returned (.bool true) ∧ Below w.heap.size w w' := by
  by_cases hlen : 1048576 < len
  · go_enter Try.func9, Try.ntmps9
    go_wp2_with fail
    go_ret
    exact ⟨rfl, Below.refl _ _⟩
  go_enter Try.func9, Try.ntmps9
  go_wp2_with fail
  refine (drawThick_any _ _ _ _ h hc hn).mono ?_
  rintro e w1 ⟨a1, n, c1, l, hn1, hd, rfl, r1, f1, b1⟩
  have hln := r1.len
  have hsl := sdV_len l
  have hdl := length_diffs (sdV l)
  go_wp2_with fail
  refine (implThick_any _ _ _ _ _ _ r1 (by omega)).mono ?_
  rintro e w2 ⟨a2, n2, c2, rfl, r2, f2, b2⟩
  obtain rfl : (sdV l).length - 1 = n2 := by rw [← r2.len, length_diffs]
  obtain ⟨n2, hn2⟩ : ∃ n2, (sdV l).length - 1 = n2 := ⟨_, rfl⟩
  rw [hn2] at r2 f2 ⊢
  go_wp2_with fail
  refine (specThick_any _ _ _ _ _ _ (r1.keep b2) (by omega)).mono ?_
  rintro e w3 ⟨a3, n3, c3, rfl, r3, f3, b3⟩
  obtain rfl : n2 = n3 := by rw [← r3.len, r2.len]
  go_wp2_with fail
  refine (sameInts_yes _ _ _ _ _ _ _ _ _ (r2.keep b3) r3 (by omega)).mono ?_
  rintro e w4 ⟨rfl, m4, hw4⟩
  have b4 : Below w3.heap.size w3 w4 := by rw [hw4]; exact below_new _ _
  clear hw4
  by_cases hz : n2 = 0
  · subst hz
    go_wp2_with fail
    refine (sameInts_yes _ _ _ _ _ _ _ _ _ ((r2.keep b3).keep b4) (r3.keep b4) (by omega)).mono ?_
    rintro e w5 ⟨rfl, m5, hw5⟩
    have b5 : Below w4.heap.size w4 w5 := by rw [hw5]; exact below_new _ _
    clear hw5
    go_wp2_with fail
    go_ret
    exact ⟨rfl, below2 (below2 (below2 (below2 b1 b2) b3) b4) b5⟩
  have B4 := below2 (below2 (below2 b1 b2) b3) b4
  have q4 := ((r1.keep b2).keep b3).keep b4
  have s4 := (r2.keep b3).keep b4
  clear r1 f1 b1 b2 b3 b4 r2 r3 f2 f3
  have hok : okL l = true := by
    cases e : okL l with
    | true => rfl
    | false => rw [sdV_no e] at hn2; simp at hn2; omega
  have HO := Lib.hid hok
  rw [sdV_ok hok] at hn2 hsl hdl s4
  have HN := Lib.hid hn2
  obtain ⟨j, rfl⟩ : ∃ j, n2 = j + 1 := ⟨n2 - 1, by omega⟩
  have HL : Hid ((sureD l).length = j + 2) := by show _ = _; omega
  have hj9 : j + 2 ≤ 9 := by have := HL.out; have := sureD_len l; omega
  clear hok hn2 hdl hsl hz
  have HV := Lib.hid (sdV_ok HO.out)
  have HR := Lib.hid (sureD_rise HO.out)
  have hcs := cSure_le l 0 30000
  rw [HL.out] at hcs
  have hcb := (cSure_bd l 0 30000).1
  have va := sureD_bd HO.out 0
  have vb := sureD_bd HO.out (j + 1)
  go_wp2_with fail
  refine (implCount_ok _ _ _ _ _ 0 30000 _ q4 HO.out (okSpan_mk (by omega) (by omega) (by omega))).mono ?_
  rintro e w5 ⟨rfl, b5⟩
  have B5 := below2 B4 b5
  have s5 := s4.keep b5
  have q5 := q4.keep b5
  clear s4 q4 b5 B4

  go_wp2_with fail
  refine (implDepth_ok _ _ _ _ _ _ _ q5 (by omega) 0 (by omega) (by rw [HV.out, HL.out]; omega)).mono ?_
  rintro e w6 ⟨rfl, b6⟩
  rw [HV.out]
  go_wp2_with fail
  refine (implDepth_ok _ _ _ _ _ _ _ (q5.keep b6) (by omega) (j + 1) (by omega) (by rw [HV.out, HL.out]; omega)).mono ?_
  rintro e w7 ⟨rfl, b7⟩
  rw [HV.out]
  have B7 := below2 (below2 B5 b6) b7
  have S7 := Lib.hid ((s5.keep b6).keep b7)
  clear q5 s5 b6 b7 B5
  have HD : Hid (∀ k, k < j + 1 → nth (diffs (sureD l)) k = nth (sureD l) (k + 1) - nth (sureD l) k ∧ 1 ≤ nth (sureD l) (k + 1) - nth (sureD l) k) := fun k hk => by
    have h1 := rise_lt HR.out (show k < k + 1 by omega) (by rw [HL.out]; omega)
    exact ⟨nth_diffs (by rw [HL.out]; omega), by omega⟩
  have HSUM : Hid (∀ k, k ≤ j + 1 → sumF (nth (diffs (sureD l))) k = nth (sureD l) k - nth (sureD l) 0) := fun k hk => sum_diffs _ _ (by rw [HL.out]; omega)
  have HBD := Lib.hid (fun k => sureD_bd HO.out k)
  have HBN := Lib.hid hn1
  go_wp2_with fail
  go_loop [13] (fun i => ∃ k : Nat, k ≤ j + 1 ∧ i = .int .i64 k) (fun i => j + 1 - (intOf i).toNat)
  case atStart => exact ⟨0, Nat.zero_le _, rfl⟩
  case round =>
    obtain ⟨k, hk, rfl⟩ := hrel
    by_cases hlt : k < j + 1
    · obtain ⟨g, off, rfl, _, hg, hcc⟩ := S7.out.at_ hlt
      have hdk := HD.out k hlt
      obtain ⟨x, hx⟩ : ∃ x, nth (diffs (sureD l)) k = x := ⟨_, rfl⟩
      rw [hx] at hdk hcc
      have hx1 : 1 ≤ x := by omega
      clear hdk hx
      go_wp2_with fail
      go_round
      case rel => exact ⟨k + 1, by omega, by go_num⟩
      case measure => simp [intOf]; omega
    · obtain rfl : k = j + 1 := by omega
      go_wp2_with fail
      refine (sumOf_any _ _ _ _ _ _ S7.out (by have := HL.out; have := sureD_len l; have := HBN.out; omega) (fun k hk => by rw [HSUM.out k hk]; have := HBD.out k; have := HBD.out 0; omega)).mono ?_
      rintro e w8 ⟨rfl, rfl⟩
      rw [HSUM.out _ (Nat.le_refl _)]
      go_wp2_with fail
      go_ret
      first | exact ⟨rfl, B7⟩ | exact ⟨ret_bool (decide_eq_true (by omega)), B7⟩ | exact ⟨ret_bool (beq_iff_eq.2 (by omega)), B7⟩

set_option maxHeartbeats 2000000 in
theorem exactThick_walk (a : Option Addr) (n c : Nat) (l : List Lay) (w : World) (h : LRow w 0 a n c l) (hmax : n ≤ 9223372036854775807) :
    Calls Try.prog 7 #[.slice a n c] w fun e w' => e = .returned (.bool true) ∧ Below w.heap.size w w' := by
  by_cases hn : 1048576 < n
  · go_enter Try.func7, Try.ntmps7
    go_wp2_with fail
    refine (sz_no _ _ _ _ _ (by omega) (by omega) (by omega) hmax).mono ?_
    rintro e w' ⟨rfl, rfl⟩
    go_wp2_with fail
    go_ret
    exact ⟨rfl, Below.refl _ _⟩
  have H := Lib.hid h
  have hsl := sdV_len l
  have hdl := length_diffs (sdV l)
  obtain ⟨d, hd⟩ : ∃ d, diffs (sdV l) = d := ⟨_, rfl⟩
  rw [hd] at hdl
  have HD := Lib.hid hd
  have hd40 : d.length ≤ 40 := by omega
  have HD40 := Lib.hid hd40
  clear h hd hsl hdl hd40
  go_enter Try.func7, Try.ntmps7
  go_wp2_with fail
  refine (sz_ok _ _ _ _ _ (by omega) (by omega)).mono ?_
  rintro e w' ⟨rfl, rfl⟩
  go_wp2_with fail
  refine (toLayerS_any _ _ _ _ _ _ H.out (by omega)).mono ?_
  rintro e w1 ⟨a1, n1, c1, rfl, r1, f1, b1⟩
  obtain rfl : n = n1 := by rw [← r1.len, H.out.len]
  go_wp2_with fail
  refine (specThick_any _ _ _ _ _ _ r1 (by omega)).mono ?_
  rintro e w2 ⟨a2, n2, c2, rfl, r2, f2, b2⟩
  rw [HD.out] at r2
  have hn2 : n2 ≤ 40 := by rw [← r2.len]; exact HD40.out
  have B2 := below2 b1 b2
  go_wp2_with fail
  refine (toLayerS_any _ _ _ _ _ _ (H.out.keep B2) (by omega)).mono ?_
  rintro e w3 ⟨a3, n3, c3, rfl, r3, f3, b3⟩
  obtain rfl : n = n3 := by rw [← r3.len, H.out.len]
  have B3 := below2 B2 b3
  go_wp2_with fail
  refine (implThick_any _ _ _ _ _ _ r3 (by omega)).mono ?_
  rintro e w4 ⟨a4, n4, c4, rfl, r4, f4, b4⟩
  rw [HD.out] at r4
  obtain rfl : n2 = n4 := by rw [← r2.len, r4.len]
  have B4 := below2 B3 b4
  have W4 := (r2.keep b3).keep b4
  go_wp2_with fail
  refine (eqIntS_yes _ _ _ _ _ _ _ _ _ r4 W4 (by omega)).mono ?_
  rintro e w5 ⟨rfl, m5, hw5⟩
  have b5 : Below w4.heap.size w4 w5 := by rw [hw5]; exact below_new _ _
  clear hw5
  have B5 := below2 B4 b5
  go_wp2_with fail
  refine (toLayerS_any _ _ _ _ _ _ (H.out.keep B5) (by omega)).mono ?_
  rintro e w6 ⟨a6, n6, c6, rfl, r6, f6, b6⟩
  obtain rfl : n = n6 := by rw [← r6.len, H.out.len]
  have B6 := below2 B5 b6
  have x6 := ((r3.keep b4).keep b5).keep b6
  go_wp2_with fail
  refine (eqLayerS_yes _ _ _ _ _ _ _ _ _ x6 r6 (by omega)).mono ?_
  rintro e w7 ⟨rfl, b7⟩
  have B7 := below2 B6 b7
  have x7 := x6.keep b7
  have fx7 := (((f3.keep r3 b4).keep (r3.keep b4) b5).keep ((r3.keep b4).keep b5) b6).keep x6 b7
  have g7 := ((r4.keep b5).keep b6).keep b7
  have fg7 := ((f4.keep r4 b5).keep (r4.keep b5) b6).keep ((r4.keep b5).keep b6) b7
  have v7 := ((W4.keep b5).keep b6).keep b7
  have ap1 : Apart a3 n a4 n2 := apart_hl r3.high r4.low
  have ap2 : Apart a3 n a2 n2 := Apart.symm (apart_hl (fun g off e hn => r2.high g off e hn) r3.low)
  have ap3 : Apart a4 n2 a2 n2 := Apart.symm (apart_hl (fun g off e hn => (r2.keep b3).high g off e hn) r4.low)
  have lo3 : ∀ g off, a3 = some ⟨g, off, none⟩ → 0 < n → w.heap.size ≤ g := fun g off e hn => by have := r3.low g off e hn; have := B2.size; omega
  have lo4 : ∀ g off, a4 = some ⟨g, off, none⟩ → 0 < n2 → w.heap.size ≤ g := fun g off e hn => by have := r4.low g off e hn; have := B3.size; omega
  clear r1 f1 b1 r2 f2 b2 B2 r3 f3 b3 B3 r4 f4 b4 B4 W4 b5 B5 r6 f6 b6 B6 x6 b7
  go_wp2_with fail
  refine (markL_any _ _ _ _ 1 _ _ x7 fx7 (by omega) (by omega)).mono ?_
  rintro e w8 ⟨rfl, _, _, t8⟩
  have B8 := t8.below B7 lo3
  have g8 := g7.touch t8 ap1
  have fg8 := fg7.touch g7 t8 ap1
  have v8 := v7.touch t8 ap2
  clear x7 fx7 B7 g7 fg7 v7 t8
  go_wp2_with fail
  refine (eqIntS_yes _ _ _ _ _ _ _ _ _ g8 v8 (by omega)).mono ?_
  rintro e w9 ⟨rfl, m9, hw9⟩
  have b9 : Below w8.heap.size w8 w9 := by rw [hw9]; exact below_new _ _
  clear hw9
  have B9 := below2 B8 b9
  have g9 := g8.keep b9
  have fg9 := fg8.keep g8 b9
  have v9 := v8.keep b9
  clear B8 b9 g8 fg8 v8
  go_wp2_with fail
  refine (mark_any _ _ _ _ 1 _ _ g9 fg9 (by omega) (by omega)).mono ?_
  rintro e w10 ⟨rfl, g10, fg10, t10⟩
  have B10 := t10.below B9 lo4
  have v10 := v9.touch t10 ap3
  clear B9 g9 fg9 v9 t10
  go_wp2_with fail
  refine (held_any _ _ _ _ 1 _ g10 (by omega) (by omega)).mono ?_
  rintro e w' ⟨rfl, rfl⟩
  go_wp2_with fail
  refine (toLayerS_any _ _ _ _ _ _ (H.out.keep B10) (by omega)).mono ?_
  rintro e w11 ⟨a11, n11, c11, rfl, r11, f11, b11⟩
  obtain rfl : n = n11 := by rw [← r11.len, H.out.len]
  have B11 := below2 B10 b11
  go_wp2_with fail
  refine (implThick_any _ _ _ _ _ _ r11 (by omega)).mono ?_
  rintro e w12 ⟨a12, n12, c12, rfl, r12, f12, b12⟩
  rw [HD.out] at r12
  obtain rfl : n2 = n12 := by rw [← v10.len, r12.len]
  have B12 := below2 B11 b12
  go_wp2_with fail
  refine (eqIntS_yes _ _ _ _ _ _ _ _ _ r12 ((v10.keep b11).keep b12) (by omega)).mono ?_
  rintro e w13 ⟨rfl, m13, hw13⟩
  have b13 : Below w12.heap.size w12 w13 := by rw [hw13]; exact below_new _ _
  clear hw13
  have B13 := below2 B12 b13
  go_wp2_with fail
  refine (held_any _ _ _ _ 1 _ (((g10.keep b11).keep b12).keep b13) (by omega) (by omega)).mono ?_
  rintro e w' ⟨rfl, rfl⟩
  go_wp2_with fail
  go_ret
  exact ⟨rfl, B13⟩

end Go.Proofs.Ytabbclfodlhikaa
