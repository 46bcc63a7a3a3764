/- The laws of counts, halves and ages of layers. -/
import Derived.Test.YtabbclfodlhikaaDrawLay2
import Derived.Test.YtabbclfodlhikaaLay3
namespace Go.Proofs.Ytabbclfodlhikaa
open Go.RowKit

theorem and_true' {a b : Bool} (h : a = true) (h' : b = true) : (a && b) = true := by rw [h, h']; rfl
theorem lrow_nil (w : World) (lo : Nat) (a : Option Addr) (c : Nat) : LRow w lo a 0 c [] := ⟨rfl, Nat.zero_le _, fun h => absurd h (by omega)⟩
theorem okL_nil : okL [] = true := by decide
theorem cAll_nil (t b : Int) : cAll [] t b = 0 := rfl
theorem cSure_nil (t b : Int) : cSure [] t b = 0 := rfl

set_option maxHeartbeats 1000000 in
theorem allSure_any (a : Option Addr) (n c lo : Nat) (l : List Lay) (s : Bool) (w : World) (h : LRow w lo a n c l) (hn : n ≤ 1048576) :
    Calls Try.prog 15 #[.slice a n c, .bool s] w (RetLays (setS s l) w) := by
  have H := Lib.hid h
  have ho0 : (w.alloc (.cells #[] 48)).ownsRow w.heap.size 48 2 (.slice (some ⟨w.heap.size, 0, none⟩) 0 0) 0 (flat (setS s (l.take 0))) := World.ownsRow_lit w _ 0 (Nat.le_refl _) (by unfold maxLen; omega) rfl
  have hl := h.len
  clear h
  go_enter Try.func15, Try.ntmps15
  go_wp2_with fail
  go_loopw [5, 6] (fun v i wr => ∃ k : Nat, k ≤ n ∧ i = .int .i64 k ∧ wr.ownsRow w.heap.size 48 2 v k (flat (setS s (l.take k))) ∧ Below w.heap.size w wr) (fun _ i _ => n - (intOf i).toNat)
  case atStart => exact ⟨0, Nat.zero_le _, rfl, ho0, (Below.refl _ _).alloc (Nat.le_refl _) _⟩
  case round =>
    clear ho0
    obtain ⟨k, hk, rfl, hown, hb⟩ := hrel
    by_cases hlt : k < n
    · obtain ⟨g, off, rfl, _, hg, hcc, hdd⟩ := (H.out.keep hb).at_ hlt
      obtain ⟨d, hd⟩ : ∃ d, dep l k = d := ⟨_, rfl⟩
      have HV : Hid (setS s (l.take (k + 1)) = setS s (l.take k) ++ [(d, s)]) := by
        show _ = _
        rw [List.take_add_one, lay_getElem (by omega)]; simp [setS, hd]
      rw [hd] at hcc
      clear hd hdd
      go_wp2_with (at_builtin; refine wpList_append_lay _ rfl _ _ rfl w.heap.size _ _ _ rfl d s wr.heap.size rfl (hown.alloc _) (by simp) (by simp) (by omega) (by have := hb.size; simp; omega) ?_; intro v' w4 hown4 hgrow4)
      rw [← HV.out] at hown4
      go_roundw
      case rel => exact ⟨k + 1, by omega, by go_num, hown4, below_append hb hb.size hown hgrow4⟩
      case measure => simp [intOf]; omega
    · obtain rfl : n = k := by omega
      go_wp2_with fail
      go_ret
      obtain ⟨a', c', rfl, h1, h2⟩ := LRow.of_own hown
      rw [List.take_of_length_le (by omega)] at h1
      exact ⟨a', n, c', rfl, h1, h2, hb⟩






set_option maxRecDepth 100000 in
set_option maxHeartbeats 2000000 in
theorem halfSure_walk (a : Option Addr) (len c : Nat) (w : World) (h : BRow w w.heap.size a len) (hc : len ≤ c) (hn : len ≤ 9223372036854775807) :
    Calls Try.prog 3 #[.slice a len c] w fun e w' => e = .returned (.bool true) ∧ Below w.heap.size w w' := by
  by_cases hlen : 1048576 < len
  · go_enter Try.func3, Try.ntmps3
    go_wp2_with fail
    go_ret
    exact ⟨rfl, Below.refl _ _⟩
  go_enter Try.func3, Try.ntmps3
  go_wp2_with fail
  refine (drawHalf_any _ _ _ _ h hc hn).mono ?_
  rintro e w1 ⟨a1, n, c1, l, t, b, hn1, hd, ht1, ht2, hb1, hb2, rfl, r1, f1, b1⟩
  rcases ok_cases l t b with ⟨ho, hs⟩ | hno
  · have HO := Lib.hid ho
    clear ho
    go_wp2_with fail
    refine (implHalf_ok _ _ _ _ _ t b _ r1 HO.out hs).mono ?_
    rintro e w2 ⟨rfl, b2⟩
    go_wp2_with fail
    refine (specHalf_ok _ _ _ _ _ t b _ (r1.keep b2) HO.out hs).mono ?_
    rintro e w3 ⟨rfl, b3⟩
    have B3 := below2 (below2 b1 b2) b3
    have q1 := (r1.keep b2).keep b3
    have hln := r1.len
    clear r1 f1 b1 b2 b3
    obtain ⟨s1, s2, s3⟩ := okSpan_bd hs
    have q3 := q1
    clear q1
    have bd := c_bd HO.out t b

    go_wp2_with fail
    refine (implCount_ok _ _ _ _ _ t b _ q3 HO.out hs).mono ?_
    rintro e w4 ⟨rfl, b4⟩
    have B4 := below2 B3 b4
    have q4 := q3.keep b4
    clear q3 b4 B3
    go_wp2_with fail
    refine (allSure_any _ _ _ _ _ true _ q4 (by omega)).mono ?_
    rintro e w5 ⟨a5, n5, c5, rfl, r5, f5, b5⟩
    obtain rfl : n = n5 := by rw [← r5.len, length_setS, hln]
    have B5 := below2 B4 b5
    have q5 := q4.keep b5
    clear f5 b5 q4
    go_wp2_with fail
    refine (implHalf_ok _ _ _ _ _ t b _ r5 (okL_setS _ HO.out) hs).mono ?_
    rintro e w6 ⟨rfl, b6⟩
    have B6 := below2 B5 b6
    have q6 := q5.keep b6
    clear q5 b6 B5
    rw [cSure_true, cAll_setS]
    go_wp2_with fail
    refine (allSure_any _ _ _ _ _ false _ q6 (by omega)).mono ?_
    rintro e w7 ⟨a7, n7, c7, rfl, r7, f7, b7⟩
    obtain rfl : n = n7 := by rw [← r7.len, length_setS, hln]
    have B7 := below2 B6 b7
    have q7 := q6.keep b7
    clear f7 b7 q6
    go_wp2_with fail
    refine (implHalf_ok _ _ _ _ _ t b _ r7 (okL_setS _ HO.out) hs).mono ?_
    rintro e w8 ⟨rfl, b8⟩
    have B8 := below2 B7 b8
    have q8 := q7.keep b8
    clear q7 b8 B7

    rw [cSure_false, cAll_setS]
    go_wp2_with fail
    go_ret
    first | exact ⟨rfl, B8⟩ | exact ⟨ret_bool (decide_eq_true (by omega)), B8⟩ | exact ⟨ret_bool (beq_iff_eq.2 (by omega)), B8⟩
  · have HO := Lib.hid hno
    clear hno
    go_wp2_with fail
    refine (implHalf_no _ _ _ _ _ t b _ r1 (by omega) HO.out).mono ?_
    rintro e w2 ⟨rfl, b2⟩
    go_wp2_with fail
    refine (specHalf_no _ _ _ _ _ t b _ (r1.keep b2) (by omega) HO.out).mono ?_
    rintro e w3 ⟨rfl, b3⟩
    go_wp2_with fail
    go_ret
    exact ⟨rfl, below2 (below2 b1 b2) b3⟩



end Go.Proofs.Ytabbclfodlhikaa

