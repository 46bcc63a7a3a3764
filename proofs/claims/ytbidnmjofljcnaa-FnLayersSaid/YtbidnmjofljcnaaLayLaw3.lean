/- The laws of counts, halves and ages of layers. -/
import Derived.Test.YtbidnmjofljcnaaDrawLay2
import Derived.Test.YtbidnmjofljcnaaLay3
namespace Go.Proofs.Ytbidnmjofljcnaa
open Go.RowKit

theorem and_true' {a b : Bool} (h : a = true) (h' : b = true) : (a && b) = true := by rw [h, h']; rfl
theorem lrow_nil (w : World) (lo : Nat) (a : Option Addr) (c : Nat) : LRow w lo a 0 c [] := ⟨rfl, Nat.zero_le _, fun h => absurd h (by omega)⟩
theorem okL_nil : okL [] = true := by decide
theorem cAll_nil (t b : Int) : cAll [] t b = 0 := rfl
theorem cSure_nil (t b : Int) : cSure [] t b = 0 := rfl

set_option maxHeartbeats 1000000 in
theorem allSure_any (a : Option Addr) (n c lo : Nat) (l : List Lay) (s : Bool) (w : World) (h : LRow w lo a n c l) (hn : n ≤ 1048576) :
    Calls Try.prog 21 #[.slice a n c, .bool s] w (RetLays (setS s l) w) := by
  have H := Lib.hid h
  have ho0 : (w.alloc (.cells #[] 32)).ownsRow w.heap.size 32 2 (.slice (some ⟨w.heap.size, 0, none⟩) 0 0) 0 (flat (setS s (l.take 0))) := World.ownsRow_lit w _ 0 (Nat.le_refl _) (by unfold maxLen; omega) rfl
  have hl := h.len
  clear h
  go_enter Try.func21, Try.ntmps21
  go_wp2_with fail
  go_loopw [5, 6] (fun v i wr => ∃ k : Nat, k ≤ n ∧ i = .int .i64 k ∧ wr.ownsRow w.heap.size 32 2 v k (flat (setS s (l.take k))) ∧ Below w.heap.size w wr) (fun _ i _ => n - (intOf i).toNat)
  case atStart => exact ⟨0, Nat.zero_le _, rfl, ho0, (Below.refl _ _).alloc (Nat.le_refl _) _⟩
  case round =>
    clear ho0
    obtain ⟨k, hk, rfl, hown, hb⟩ := hrel
    by_cases hlt : k < n
    · obtain ⟨g, off, rfl, _, hg, hcc, hdd⟩ := (H.out.keep hb).at_ hlt
      obtain ⟨d, hd⟩ : ∃ d, dep l k = d := ⟨_, rfl⟩
      have HV : Hid (setS s (l.take (k + 1)) = setS s (l.take k) ++ [(d, s)]) := by
        show _ = _
        rw [List.take_add_one, lay_getElem (by omega)]; simp [setS, hd]
      rw [hd] at hcc
      clear hd hdd
      go_wp2_with (at_builtin; refine wpList_append_lay _ rfl _ _ rfl w.heap.size _ _ _ rfl d s wr.heap.size rfl (hown.alloc _) (by simp) (by simp) (by omega) (by have := hb.size; simp; omega) ?_; intro v' w4 hown4 hgrow4)
      rw [← HV.out] at hown4
      go_roundw
      case rel => exact ⟨k + 1, by omega, by go_num, hown4, below_append hb hb.size hown hgrow4⟩
      case measure => simp [intOf]; omega
    · obtain rfl : n = k := by omega
      go_wp2_with fail
      go_ret
      obtain ⟨a', c', rfl, h1, h2⟩ := LRow.of_own hown
      rw [List.take_of_length_le (by omega)] at h1
      exact ⟨a', n, c', rfl, h1, h2, hb⟩

set_option maxRecDepth 100000 in
set_option maxHeartbeats 2000000 in
theorem count_walk (a : Option Addr) (len c : Nat) (a0 : Option Addr) (len0 c0 : Nat) (w : World) (h : BRow w w.heap.size a len) (hc : len ≤ c) (hn : len ≤ 9223372036854775807) (hn0 : len0 ≤ 9223372036854775807) :
    Calls Try.prog 8 #[.slice a len c, .slice a0 len0 c0] w fun e w' => e = .returned (.bool true) ∧ Below w.heap.size w w' := by
  by_cases hlen : 1048576 < len
  · go_enter Try.func8, Try.ntmps8
    go_wp2_with fail
    go_ret
    exact ⟨rfl, Below.refl _ _⟩
  by_cases hlen0 : 1048576 < len0
  · go_enter Try.func8, Try.ntmps8
    go_wp2_with fail
    go_ret
    exact ⟨rfl, Below.refl _ _⟩
  go_enter Try.func8, Try.ntmps8
  go_wp2_with fail
  refine (drawCount_any _ _ _ _ h hc hn).mono ?_
  rintro e w1 ⟨a1, n, c1, l, t, b, hn1, hd, ht1, ht2, hb1, hb2, rfl, r1, f1, b1⟩
  rcases ok_cases l t b with ⟨ho, hs⟩ | hno
  · have HO := Lib.hid ho
    clear ho
    go_wp2_with fail
    refine (implCount_ok _ _ _ _ _ t b _ r1 HO.out hs).mono ?_
    rintro e w2 ⟨rfl, b2⟩
    go_wp2_with fail
    refine (specCount_ok _ _ _ _ _ t b _ (r1.keep b2) HO.out hs).mono ?_
    rintro e w3 ⟨rfl, b3⟩
    have B3 := below2 (below2 b1 b2) b3
    have q1 := (r1.keep b2).keep b3
    have hln := r1.len
    clear r1 f1 b1 b2 b3
    obtain ⟨s1, s2, s3⟩ := okSpan_bd hs
    have q3 := q1
    clear q1
    have bd := c_bd HO.out t b

    obtain ⟨m, hm⟩ : ∃ m : Int, (len0 : Int) % (b - t + 1) = m := ⟨_, rfl⟩
    have hm0 : 0 ≤ m := by rw [← hm]; exact Int.emod_nonneg _ (by omega)
    have hm1 : m ≤ b - t := by have := Int.emod_lt_of_pos (len0 : Int) (show 0 < b - t + 1 by omega); omega
    have hw1 : IntKind.i64.wrap (b - t) = b - t := IntWalk.i64_in _ (by omega)
    have bd1 := c_bd HO.out t (t + m)
    have bd2 := c_bd HO.out (t + m) b
    have HA := Lib.hid (cAll_split l t (t + m) b (by omega) (by omega))
    have HS := Lib.hid (cSure_split l t (t + m) b (by omega) (by omega))
    have HB := Lib.hid (cAll_bd l t b).2
    go_wp2_with fail
    refine (implCount_ok _ _ _ _ _ t (t + m) _ q3 HO.out (okSpan_mk s1 (by omega) (by omega))).mono ?_
    rintro e w4 ⟨rfl, b4⟩
    have B4 := below2 B3 b4
    have q4 := q3.keep b4
    clear q3 b4 B3
    go_wp2_with fail
    refine (implCount_ok _ _ _ _ _ (t + m) b _ q4 HO.out (okSpan_mk (by omega) (by omega) s3)).mono ?_
    rintro e w5 ⟨rfl, b5⟩
    have B5 := below2 B4 b5
    have q5 := q4.keep b5
    clear q4 b5 B4

    have e1 := HA.out
    have e2 := HS.out
    have e3 := HB.out
    rw [hln] at e3
    go_wp2_with fail
    go_ret
    first | exact ⟨rfl, B5⟩ | exact ⟨ret_bool (decide_eq_true (by omega)), B5⟩ | exact ⟨ret_bool (beq_iff_eq.2 (by omega)), B5⟩
  · have HO := Lib.hid hno
    clear hno
    go_wp2_with fail
    refine (implCount_no _ _ _ _ _ t b _ r1 (by omega) HO.out).mono ?_
    rintro e w2 ⟨rfl, b2⟩
    go_wp2_with fail
    refine (specCount_no _ _ _ _ _ t b _ (r1.keep b2) (by omega) HO.out).mono ?_
    rintro e w3 ⟨rfl, b3⟩
    go_wp2_with fail
    go_ret
    exact ⟨rfl, below2 (below2 b1 b2) b3⟩

set_option maxRecDepth 100000 in
set_option maxHeartbeats 2000000 in
theorem countNone_walk (a : Option Addr) (len c : Nat) (w : World) (h : BRow w w.heap.size a len) (hc : len ≤ c) (hn : len ≤ 9223372036854775807) :
    Calls Try.prog 9 #[.slice a len c] w fun e w' => e = .returned (.bool true) ∧ Below w.heap.size w w' := by
  by_cases hlen : 1048576 < len
  · go_enter Try.func9, Try.ntmps9
    go_wp2_with fail
    go_ret
    exact ⟨rfl, Below.refl _ _⟩
  go_enter Try.func9, Try.ntmps9
  go_wp2_with fail
  refine (drawCount_any _ _ _ _ h hc hn).mono ?_
  rintro e w1 ⟨a1, n, c1, l, t, b, hn1, hd, ht1, ht2, hb1, hb2, rfl, r1, f1, b1⟩
  rcases ok_cases l t b with ⟨ho, hs⟩ | hno
  · have HO := Lib.hid ho
    clear ho
    go_wp2_with fail
    refine (implCount_ok _ _ _ _ _ t b _ r1 HO.out hs).mono ?_
    rintro e w2 ⟨rfl, b2⟩
    go_wp2_with fail
    refine (specCount_ok _ _ _ _ _ t b _ (r1.keep b2) HO.out hs).mono ?_
    rintro e w3 ⟨rfl, b3⟩
    have B3 := below2 (below2 b1 b2) b3
    have q1 := (r1.keep b2).keep b3
    have hln := r1.len
    clear r1 f1 b1 b2 b3
    obtain ⟨s1, s2, s3⟩ := okSpan_bd hs
    have q3 := q1
    clear q1
    have bd := c_bd HO.out t b

    go_wp2_with fail
    refine (implCount_ok _ _ _ _ _ b b _ q3 HO.out (okSpan_mk (by omega) (by omega) s3)).mono ?_
    rintro e w4 ⟨rfl, b4⟩
    have B4 := below2 B3 b4
    have q4 := q3.keep b4
    clear q3 b4 B3

    rw [cAll_none, cSure_none]
    go_wp2_with fail
    refine (implCount_ok _ _ _ 0 _ t b _ (lrow_nil _ _ _ _) okL_nil hs).mono ?_
    rintro e w5 ⟨rfl, b5⟩
    have B5 := below2 (B4.alloc B4.size _) b5
    rw [cAll_nil, cSure_nil]
    go_wp2_with fail
    go_ret
    first | exact ⟨rfl, B5⟩ | exact ⟨ret_bool (decide_eq_true (by omega)), B5⟩ | exact ⟨ret_bool (beq_iff_eq.2 (by omega)), B5⟩
  · have HO := Lib.hid hno
    clear hno
    go_wp2_with fail
    refine (implCount_no _ _ _ _ _ t b _ r1 (by omega) HO.out).mono ?_
    rintro e w2 ⟨rfl, b2⟩
    go_wp2_with fail
    refine (specCount_no _ _ _ _ _ t b _ (r1.keep b2) (by omega) HO.out).mono ?_
    rintro e w3 ⟨rfl, b3⟩
    go_wp2_with fail
    go_ret
    exact ⟨rfl, below2 (below2 b1 b2) b3⟩

set_option maxRecDepth 100000 in
set_option maxHeartbeats 2000000 in
theorem countWider_walk (a : Option Addr) (len c : Nat) (w : World) (h : BRow w w.heap.size a len) (hc : len ≤ c) (hn : len ≤ 9223372036854775807) :
    Calls Try.prog 10 #[.slice a len c] w fun e w' => e = .returned (.bool true) ∧ Below w.heap.size w w' := by
  by_cases hlen : 1048576 < len
  · go_enter Try.func10, Try.ntmps10
    go_wp2_with fail
    go_ret
    exact ⟨rfl, Below.refl _ _⟩
  go_enter Try.func10, Try.ntmps10
  go_wp2_with fail
  refine (drawCount_any _ _ _ _ h hc hn).mono ?_
  rintro e w1 ⟨a1, n, c1, l, t, b, hn1, hd, ht1, ht2, hb1, hb2, rfl, r1, f1, b1⟩
  rcases ok_cases l t b with ⟨ho, hs⟩ | hno
  · have HO := Lib.hid ho
    clear ho
    go_wp2_with fail
    refine (implCount_ok _ _ _ _ _ t b _ r1 HO.out hs).mono ?_
    rintro e w2 ⟨rfl, b2⟩
    go_wp2_with fail
    refine (specCount_ok _ _ _ _ _ t b _ (r1.keep b2) HO.out hs).mono ?_
    rintro e w3 ⟨rfl, b3⟩
    have B3 := below2 (below2 b1 b2) b3
    have q1 := (r1.keep b2).keep b3
    have hln := r1.len
    clear r1 f1 b1 b2 b3
    obtain ⟨s1, s2, s3⟩ := okSpan_bd hs
    have q3 := q1
    clear q1
    have bd := c_bd HO.out t b

    have a1 := cAll_wider l t b 0 b s2 s1 (by omega)
    have a2 := cSure_wider l t b 0 b s2 s1 (by omega)
    have a3 := cAll_wider l t b t 30000 s2 (by omega) s3
    have a4 := cSure_wider l t b t 30000 s2 (by omega) s3
    go_wp2_with fail
    refine (implCount_ok _ _ _ _ _ 0 b _ q3 HO.out (okSpan_mk (by omega) (by omega) s3)).mono ?_
    rintro e w4 ⟨rfl, b4⟩
    have B4 := below2 B3 b4
    have q4 := q3.keep b4
    clear q3 b4 B3
    go_wp2_with fail
    refine (implCount_ok _ _ _ _ _ t 30000 _ q4 HO.out (okSpan_mk s1 (by omega) (by omega))).mono ?_
    rintro e w5 ⟨rfl, b5⟩
    have B5 := below2 B4 b5
    have q5 := q4.keep b5
    clear q4 b5 B4

    go_wp2_with fail
    go_ret
    first | exact ⟨rfl, B5⟩ | exact ⟨ret_bool (decide_eq_true (by omega)), B5⟩ | exact ⟨ret_bool (beq_iff_eq.2 (by omega)), B5⟩
  · have HO := Lib.hid hno
    clear hno
    go_wp2_with fail
    refine (implCount_no _ _ _ _ _ t b _ r1 (by omega) HO.out).mono ?_
    rintro e w2 ⟨rfl, b2⟩
    go_wp2_with fail
    refine (specCount_no _ _ _ _ _ t b _ (r1.keep b2) (by omega) HO.out).mono ?_
    rintro e w3 ⟨rfl, b3⟩
    go_wp2_with fail
    go_ret
    exact ⟨rfl, below2 (below2 b1 b2) b3⟩

set_option maxRecDepth 100000 in
set_option maxHeartbeats 2000000 in
theorem countSure_walk (a : Option Addr) (len c : Nat) (w : World) (h : BRow w w.heap.size a len) (hc : len ≤ c) (hn : len ≤ 9223372036854775807) :
    Calls Try.prog 11 #[.slice a len c] w fun e w' => e = .returned (.bool true) ∧ Below w.heap.size w w' := by
  by_cases hlen : 1048576 < len
  · go_enter Try.func11, Try.ntmps11
    go_wp2_with fail
    go_ret
    exact ⟨rfl, Below.refl _ _⟩
  go_enter Try.func11, Try.ntmps11
  go_wp2_with fail
  refine (drawCount_any _ _ _ _ h hc hn).mono ?_
  rintro e w1 ⟨a1, n, c1, l, t, b, hn1, hd, ht1, ht2, hb1, hb2, rfl, r1, f1, b1⟩
  rcases ok_cases l t b with ⟨ho, hs⟩ | hno
  · have HO := Lib.hid ho
    clear ho
    go_wp2_with fail
    refine (implCount_ok _ _ _ _ _ t b _ r1 HO.out hs).mono ?_
    rintro e w2 ⟨rfl, b2⟩
    go_wp2_with fail
    refine (specCount_ok _ _ _ _ _ t b _ (r1.keep b2) HO.out hs).mono ?_
    rintro e w3 ⟨rfl, b3⟩
    have B3 := below2 (below2 b1 b2) b3
    have q1 := (r1.keep b2).keep b3
    have hln := r1.len
    clear r1 f1 b1 b2 b3
    obtain ⟨s1, s2, s3⟩ := okSpan_bd hs
    have q3 := q1
    clear q1
    have bd := c_bd HO.out t b

    go_wp2_with fail
    refine (allSure_any _ _ _ _ _ true _ q3 (by omega)).mono ?_
    rintro e w4 ⟨a4, n4, c4, rfl, r4, f4, b4⟩
    obtain rfl : n = n4 := by rw [← r4.len, length_setS, hln]
    have B4 := below2 B3 b4
    have q4 := q3.keep b4
    clear f4 b4 q3
    go_wp2_with fail
    refine (implCount_ok _ _ _ _ _ t b _ r4 (okL_setS _ HO.out) hs).mono ?_
    rintro e w5 ⟨rfl, b5⟩
    have B5 := below2 B4 b5
    have q5 := q4.keep b5
    clear q4 b5 B4
    rw [cSure_true, cAll_setS]
    go_wp2_with fail
    refine (allSure_any _ _ _ _ _ false _ q5 (by omega)).mono ?_
    rintro e w6 ⟨a6, n6, c6, rfl, r6, f6, b6⟩
    obtain rfl : n = n6 := by rw [← r6.len, length_setS, hln]
    have B6 := below2 B5 b6
    have q6 := q5.keep b6
    clear f6 b6 q5
    go_wp2_with fail
    refine (implCount_ok _ _ _ _ _ t b _ r6 (okL_setS _ HO.out) hs).mono ?_
    rintro e w7 ⟨rfl, b7⟩
    have B7 := below2 B6 b7
    have q7 := q6.keep b7
    clear q6 b7 B6

    rw [cSure_false, cAll_setS]
    go_wp2_with fail
    go_ret
    first | exact ⟨rfl, B7⟩ | exact ⟨ret_bool (decide_eq_true (by omega)), B7⟩ | exact ⟨ret_bool (beq_iff_eq.2 (by omega)), B7⟩
  · have HO := Lib.hid hno
    clear hno
    go_wp2_with fail
    refine (implCount_no _ _ _ _ _ t b _ r1 (by omega) HO.out).mono ?_
    rintro e w2 ⟨rfl, b2⟩
    go_wp2_with fail
    refine (specCount_no _ _ _ _ _ t b _ (r1.keep b2) (by omega) HO.out).mono ?_
    rintro e w3 ⟨rfl, b3⟩
    go_wp2_with fail
    go_ret
    exact ⟨rfl, below2 (below2 b1 b2) b3⟩

set_option maxRecDepth 100000 in
set_option maxHeartbeats 2000000 in
theorem half_walk (a : Option Addr) (len c : Nat) (a0 : Option Addr) (len0 c0 : Nat) (w : World) (h : BRow w w.heap.size a len) (hc : len ≤ c) (hn : len ≤ 9223372036854775807) (hn0 : len0 ≤ 9223372036854775807) :
    Calls Try.prog 14 #[.slice a len c, .slice a0 len0 c0] w fun e w' => e = .returned (.bool true) ∧ Below w.heap.size w w' := by
  by_cases hlen : 1048576 < len
  · go_enter Try.func14, Try.ntmps14
    go_wp2_with fail
    go_ret
    exact ⟨rfl, Below.refl _ _⟩
  by_cases hlen0 : 1048576 < len0
  · go_enter Try.func14, Try.ntmps14
    go_wp2_with fail
    go_ret
    exact ⟨rfl, Below.refl _ _⟩
  go_enter Try.func14, Try.ntmps14
  go_wp2_with fail
  refine (drawHalf_any _ _ _ _ h hc hn).mono ?_
  rintro e w1 ⟨a1, n, c1, l, t, b, hn1, hd, ht1, ht2, hb1, hb2, rfl, r1, f1, b1⟩
  rcases ok_cases l t b with ⟨ho, hs⟩ | hno
  · have HO := Lib.hid ho
    clear ho
    go_wp2_with fail
    refine (implHalf_ok _ _ _ _ _ t b _ r1 HO.out hs).mono ?_
    rintro e w2 ⟨rfl, b2⟩
    go_wp2_with fail
    refine (specHalf_ok _ _ _ _ _ t b _ (r1.keep b2) HO.out hs).mono ?_
    rintro e w3 ⟨rfl, b3⟩
    have B3 := below2 (below2 b1 b2) b3
    have q1 := (r1.keep b2).keep b3
    have hln := r1.len
    clear r1 f1 b1 b2 b3
    obtain ⟨s1, s2, s3⟩ := okSpan_bd hs
    have q3 := q1
    clear q1
    have bd := c_bd HO.out t b

    obtain ⟨m, hm⟩ : ∃ m : Int, (len0 : Int) % (b - t + 1) = m := ⟨_, rfl⟩
    have hm0 : 0 ≤ m := by rw [← hm]; exact Int.emod_nonneg _ (by omega)
    have hm1 : m ≤ b - t := by have := Int.emod_lt_of_pos (len0 : Int) (show 0 < b - t + 1 by omega); omega
    have hw1 : IntKind.i64.wrap (b - t) = b - t := IntWalk.i64_in _ (by omega)
    have bd1 := c_bd HO.out t (t + m)
    have bd2 := c_bd HO.out (t + m) b
    have HA := Lib.hid (cAll_split l t (t + m) b (by omega) (by omega))
    have HS := Lib.hid (cSure_split l t (t + m) b (by omega) (by omega))
    go_wp2_with fail
    refine (implCount_ok _ _ _ _ _ t b _ q3 HO.out hs).mono ?_
    rintro e w4 ⟨rfl, b4⟩
    have B4 := below2 B3 b4
    have q4 := q3.keep b4
    clear q3 b4 B3
    go_wp2_with fail
    refine (implHalf_ok _ _ _ _ _ t (t + m) _ q4 HO.out (okSpan_mk s1 (by omega) (by omega))).mono ?_
    rintro e w5 ⟨rfl, b5⟩
    have B5 := below2 B4 b5
    have q5 := q4.keep b5
    clear q4 b5 B4
    go_wp2_with fail
    refine (implHalf_ok _ _ _ _ _ (t + m) b _ q5 HO.out (okSpan_mk (by omega) (by omega) s3)).mono ?_
    rintro e w6 ⟨rfl, b6⟩
    have B6 := below2 B5 b6
    have q6 := q5.keep b6
    clear q5 b6 B5

    have e1 := HA.out
    have e2 := HS.out
    go_wp2_with fail
    go_ret
    first | exact ⟨rfl, B6⟩ | exact ⟨ret_bool (decide_eq_true (by omega)), B6⟩ | exact ⟨ret_bool (beq_iff_eq.2 (by omega)), B6⟩
  · have HO := Lib.hid hno
    clear hno
    go_wp2_with fail
    refine (implHalf_no _ _ _ _ _ t b _ r1 (by omega) HO.out).mono ?_
    rintro e w2 ⟨rfl, b2⟩
    go_wp2_with fail
    refine (specHalf_no _ _ _ _ _ t b _ (r1.keep b2) (by omega) HO.out).mono ?_
    rintro e w3 ⟨rfl, b3⟩
    go_wp2_with fail
    go_ret
    exact ⟨rfl, below2 (below2 b1 b2) b3⟩


set_option maxRecDepth 100000 in
set_option maxHeartbeats 2000000 in
theorem ageCount_walk (a : Option Addr) (len c : Nat) (a0 : Option Addr) (len0 c0 : Nat) (w : World) (h : BRow w w.heap.size a len) (hc : len ≤ c) (hn : len ≤ 9223372036854775807) (hn0 : len0 ≤ 9223372036854775807) :
    Calls Try.prog 13 #[.slice a len c, .slice a0 len0 c0] w fun e w' => e = .returned (.bool true) ∧ Below w.heap.size w w' := by
  by_cases hlen : 1048576 < len
  · go_enter Try.func13, Try.ntmps13
    go_wp2_with fail
    go_ret
    exact ⟨rfl, Below.refl _ _⟩
  by_cases hlen0 : 1048576 < len0
  · go_enter Try.func13, Try.ntmps13
    go_wp2_with fail
    go_ret
    exact ⟨rfl, Below.refl _ _⟩
  go_enter Try.func13, Try.ntmps13
  go_wp2_with fail
  refine (drawAge_any _ _ _ _ h hc hn).mono ?_
  rintro e w1 ⟨a1, n, c1, l, t, b, hn1, hd, ht1, ht2, hb1, hb2, rfl, r1, f1, b1⟩
  by_cases hno : okL l = true ∧ okSpan 0 b = true ∧ -400000 ≤ t ∧ t ≤ 400000
  · obtain ⟨ho, hs, y1, y2⟩ := hno
    have HO := Lib.hid ho
    clear ho
    go_wp2_with fail
    refine (implAge_ok _ _ _ _ _ t b _ r1 HO.out hs y1 y2).mono ?_
    rintro e w2 ⟨rfl, b2⟩
    go_wp2_with fail
    refine (specAge_ok _ _ _ _ _ t b _ (r1.keep b2) HO.out hs y1 y2).mono ?_
    rintro e w3 ⟨rfl, b3⟩
    have B3 := below2 (below2 b1 b2) b3
    have q1 := (r1.keep b2).keep b3
    have hln := r1.len
    clear r1 f1 b1 b2 b3
    obtain ⟨s1, s2, s3⟩ := okSpan_bd hs
    have q3 := q1
    clear q1
    have bd := c_bd HO.out 0 b
    obtain ⟨m, hm⟩ : ∃ m : Int, (len0 : Int) % (b + 1) = m := ⟨_, rfl⟩
    have hm0 : 0 ≤ m := by rw [← hm]; exact Int.emod_nonneg _ (by omega)
    have hm1 : m ≤ b := by have := Int.emod_lt_of_pos (len0 : Int) (show 0 < b + 1 by omega); omega
    have bd1 := c_bd HO.out 0 m
    have bd2 := c_bd HO.out m b
    have HA := Lib.hid (cAll_split l 0 m b (by omega) (by omega))
    have HS := Lib.hid (cSure_split l 0 m b (by omega) (by omega))
    go_wp2_with fail
    refine (implAge_ok _ _ _ _ _ t m _ q3 HO.out (okSpan_mk (by omega) (by omega) (by omega)) y1 y2).mono ?_
    rintro e w4 ⟨rfl, b4⟩
    have B4 := below2 B3 b4
    have q4 := q3.keep b4
    clear q3 b4 B3
    go_wp2_with fail
    refine (implCount_ok _ _ _ _ _ m b _ q4 HO.out (okSpan_mk (by omega) (by omega) s3)).mono ?_
    rintro e w5 ⟨rfl, b5⟩
    have B5 := below2 B4 b5
    have q5 := q4.keep b5
    clear q4 b5 B4

    have e1 := HA.out
    have e2 := HS.out
    go_wp2_with fail
    go_ret
    first | exact ⟨rfl, B5⟩ | exact ⟨ret_bool (decide_eq_true (by omega)), B5⟩ | exact ⟨ret_bool (beq_iff_eq.2 (by omega)), B5⟩
  · have HO := Lib.hid hno
    clear hno
    go_wp2_with fail
    refine (implAge_no _ _ _ _ _ t b _ r1 (by omega) HO.out).mono ?_
    rintro e w2 ⟨rfl, b2⟩
    go_wp2_with fail
    refine (specAge_no _ _ _ _ _ t b _ (r1.keep b2) (by omega) HO.out).mono ?_
    rintro e w3 ⟨rfl, b3⟩
    go_wp2_with fail
    go_ret
    exact ⟨rfl, below2 (below2 b1 b2) b3⟩

set_option maxRecDepth 100000 in
set_option maxHeartbeats 2000000 in
theorem age_walk (a : Option Addr) (len c : Nat) (w : World) (h : BRow w w.heap.size a len) (hc : len ≤ c) (hn : len ≤ 9223372036854775807) :
    Calls Try.prog 12 #[.slice a len c] w fun e w' => e = .returned (.bool true) ∧ Below w.heap.size w w' := by
  by_cases hlen : 1048576 < len
  · go_enter Try.func12, Try.ntmps12
    go_wp2_with fail
    go_ret
    exact ⟨rfl, Below.refl _ _⟩
  go_enter Try.func12, Try.ntmps12
  go_wp2_with fail
  refine (drawAge_any _ _ _ _ h hc hn).mono ?_
  rintro e w1 ⟨a1, n, c1, l, t, b, hn1, hd, ht1, ht2, hb1, hb2, rfl, r1, f1, b1⟩
  by_cases hno : okL l = true ∧ okSpan 0 b = true ∧ -400000 ≤ t ∧ t ≤ 400000
  · obtain ⟨ho, hs, y1, y2⟩ := hno
    have HO := Lib.hid ho
    clear ho
    go_wp2_with fail
    refine (implAge_ok _ _ _ _ _ t b _ r1 HO.out hs y1 y2).mono ?_
    rintro e w2 ⟨rfl, b2⟩
    go_wp2_with fail
    refine (specAge_ok _ _ _ _ _ t b _ (r1.keep b2) HO.out hs y1 y2).mono ?_
    rintro e w3 ⟨rfl, b3⟩
    have B3 := below2 (below2 b1 b2) b3
    have q1 := (r1.keep b2).keep b3
    have hln := r1.len
    clear r1 f1 b1 b2 b3
    obtain ⟨s1, s2, s3⟩ := okSpan_bd hs
    have q3 := q1
    clear q1
    have bd := c_bd HO.out 0 b
    have bd1 := c_bd HO.out 0 (b + 1)
    have HA := Lib.hid (cAll_split l 0 b (b + 1) (by omega) (by omega))
    have HS := Lib.hid (cSure_split l 0 b (b + 1) (by omega) (by omega))
    have H1 := Lib.hid (cAll_one l (okL_rise HO.out) b)
    have H2 := Lib.hid (cSure_bd l b (b + 1))
    go_wp2_with fail
    refine (implAge_ok _ _ _ _ _ t 0 _ q3 HO.out (okSpan_mk (by omega) (by omega) (by omega)) y1 y2).mono ?_
    rintro e w4 ⟨rfl, b4⟩
    have B4 := below2 B3 b4
    have q4 := q3.keep b4
    clear q3 b4 B3

    rw [cAll_none, cSure_none, Int.add_zero]
    by_cases hB : b + 1 ≤ 30000
    · go_wp2_with fail
      refine (implAge_ok _ _ _ _ _ t (b + 1) _ q4 HO.out (okSpan_mk (by omega) (by omega) (by omega)) y1 y2).mono ?_
      rintro e w5 ⟨rfl, b5⟩
      have B5 := below2 B4 b5
      have q5 := q4.keep b5
      clear q4 b5 B4
      have e1 := HA.out
      have e2 := HS.out
      have e3 := H1.out
      have e4 := H2.out
      by_cases hY : t + 1 ≤ 400000
      · go_wp2_with fail
        refine (implAge_ok _ _ _ _ _ (t + 1) b _ q5 HO.out hs (by omega) (by omega)).mono ?_
        rintro e w6 ⟨rfl, b6⟩
        have B6 := below2 B5 b6
        have q6 := q5.keep b6
        clear q5 b6 B5
        go_wp2_with fail
        go_ret
        first | exact ⟨rfl, B6⟩ | exact ⟨ret_bool (decide_eq_true (by omega)), B6⟩ | exact ⟨ret_bool (beq_iff_eq.2 (by omega)), B6⟩
      · go_wp2_with fail
        refine (implAge_no _ _ _ _ _ (t + 1) b _ q5 (by omega) (fun hh => by have := hh.2.2.2; omega)).mono ?_
        rintro e w6 ⟨rfl, b6⟩
        have B6 := below2 B5 b6
        have q6 := q5.keep b6
        clear q5 b6 B5
        go_wp2_with fail
        go_ret
        first | exact ⟨rfl, B6⟩ | exact ⟨ret_bool (decide_eq_true (by omega)), B6⟩ | exact ⟨ret_bool (beq_iff_eq.2 (by omega)), B6⟩
    · go_wp2_with fail
      refine (implAge_no _ _ _ _ _ t (b + 1) _ q4 (by omega) (fun hh => by have := (okSpan_bd hh.2.1).2.2; omega)).mono ?_
      rintro e w5 ⟨rfl, b5⟩
      have B5 := below2 B4 b5
      have q5 := q4.keep b5
      clear q4 b5 B4
      by_cases hY : t + 1 ≤ 400000
      · go_wp2_with fail
        refine (implAge_ok _ _ _ _ _ (t + 1) b _ q5 HO.out hs (by omega) (by omega)).mono ?_
        rintro e w6 ⟨rfl, b6⟩
        have B6 := below2 B5 b6
        have q6 := q5.keep b6
        clear q5 b6 B5
        go_wp2_with fail
        go_ret
        first | exact ⟨rfl, B6⟩ | exact ⟨ret_bool (decide_eq_true (by omega)), B6⟩ | exact ⟨ret_bool (beq_iff_eq.2 (by omega)), B6⟩
      · go_wp2_with fail
        refine (implAge_no _ _ _ _ _ (t + 1) b _ q5 (by omega) (fun hh => by have := hh.2.2.2; omega)).mono ?_
        rintro e w6 ⟨rfl, b6⟩
        have B6 := below2 B5 b6
        have q6 := q5.keep b6
        clear q5 b6 B5
        go_wp2_with fail
        go_ret
        first | exact ⟨rfl, B6⟩ | exact ⟨ret_bool (decide_eq_true (by omega)), B6⟩ | exact ⟨ret_bool (beq_iff_eq.2 (by omega)), B6⟩
  · have HO := Lib.hid hno
    clear hno
    go_wp2_with fail
    refine (implAge_no _ _ _ _ _ t b _ r1 (by omega) HO.out).mono ?_
    rintro e w2 ⟨rfl, b2⟩
    go_wp2_with fail
    refine (specAge_no _ _ _ _ _ t b _ (r1.keep b2) (by omega) HO.out).mono ?_
    rintro e w3 ⟨rfl, b3⟩
    go_wp2_with fail
    go_ret
    exact ⟨rfl, below2 (below2 b1 b2) b3⟩

end Go.Proofs.Ytbidnmjofljcnaa

