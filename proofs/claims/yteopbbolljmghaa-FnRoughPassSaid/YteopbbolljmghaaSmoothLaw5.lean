/- The walks of the laws over many passes, second part. -/
import Derived.Test.YteopbbolljmghaaSmooth4
import Derived.Test.YteopbbolljmghaaInts
import Derived.Test.YteopbbolljmghaaDrawRow
namespace Go.Proofs.Yteopbbolljmghaa
open Go.RowKit

def flatOf (l : List Int) (_k : Nat) : Int := nth l 0
def negOf (l : List Int) (k : Nat) : Int := 0 - nth l k
def stepF (n k : Nat) : Int := if k < n / 2 then 3 else 10
theorem step_fact : ∀ n : Fin 8, 4 ≤ n.val → okRow (mapTo (stepF n.val) n.val) = true ∧ rough (pass (mapTo (stepF n.val) n.val)) = 4 * rough (mapTo (stepF n.val) n.val) := by decide +kernel

set_option maxRecDepth 100000 in
set_option maxHeartbeats 2000000 in
theorem manyFlat_walk (a : Option Addr) (len c : Nat) (w : World) (h : BRow w w.heap.size a len) (hc : len ≤ c) (hn : len ≤ 9223372036854775807) :
    Calls Try.prog 5 #[.slice a len c] w fun e w' => e = .returned (.bool true) ∧ Below w.heap.size w w' := by
  by_cases hlen : 1048576 < len
  · go_enter Try.func5, Try.ntmps5
    go_wp2_with fail
    go_ret
    exact ⟨rfl, Below.refl _ _⟩
  go_enter Try.func5, Try.ntmps5
  go_wp2_with fail
  refine (drawMany_any _ _ _ _ h hc hn).mono ?_
  rintro e w1 ⟨a1, n1, c1, l, t, hn1, hd, ht1, ht2, rfl, r1, f1, b1⟩
  by_cases ho : okRow l = true ∧ 0 ≤ t ∧ t ≤ 8
  · obtain ⟨ho, h1, h2⟩ := ho
    obtain ⟨t, rfl⟩ := Int.eq_ofNat_of_zero_le h1
    have ht : t ≤ 8 := by omega
    have hl1 := (okRow_len ho).1
    rw [r1.len] at hl1
    have HO := Lib.hid ho
    clear ho h1 h2 ht1 ht2
    go_wp2_with fail
    refine (implMany_ok _ _ _ _ t _ _ r1 HO.out ht).mono ?_
    rintro e w2 ⟨a2, n2, c2, rfl, r2, f2, b2⟩
    obtain rfl : n2 = n1 := by rw [← r2.len, length_many, r1.len]
    go_wp2_with fail
    refine (specMany_ok _ _ _ _ t _ _ (r1.keep b2) HO.out ht).mono ?_
    rintro e w3 ⟨a3, n3, c3, rfl, r3, f3, b3⟩
    obtain rfl : n3 = n2 := by rw [← r3.len, r2.len]
    go_wp2_with fail
    refine (sameInts_yes _ _ _ _ _ _ _ _ _ (r2.keep b3) r3 (by omega)).mono ?_
    rintro e w4 ⟨rfl, m4, hw4⟩
    have b4 : Below w3.heap.size w3 w4 := by rw [hw4]; exact below_new _ _
    clear hw4
    have B4 := below2 (below2 (below2 b1 b2) b3) b4
    have q1 := ((r1.keep b2).keep b3).keep b4
    have q2 := (r2.keep b3).keep b4
    obtain ⟨n, hnn⟩ : ∃ n, n = n3 := ⟨_, rfl⟩
    subst hnn
    clear r1 r2 r3 b1 b2 b3 b4 f1 f2 f3
    have Q1 := Lib.hid q1
    have Q2 := Lib.hid q2
    clear q1 q2

    go_wp2_with fail
    go_loopw [9, 10] (fun v i wr => ∃ k : Nat, k ≤ n ∧ i = .int .i64 k ∧ wr.ownsRow w4.heap.size 3 1 v k ((mapTo (flatOf l) k).map (Value.int .i64)) ∧ Below w4.heap.size w4 wr) (fun _ i _ => n - (intOf i).toNat)
    case atStart => exact ⟨0, Nat.zero_le _, rfl, World.ownsRow_lit w4 _ 0 (Nat.le_refl _) (by unfold maxLen; omega) rfl, (Below.refl _ _).alloc (Nat.le_refl _) _⟩
    case round =>
      obtain ⟨k, hk, rfl, hown, hbr⟩ := hrel
      by_cases hlt : k < n
      · obtain ⟨g, off, rfl, _, hg, hcell⟩ := (Q1.out.keep hbr).at_ (show 0 < n by omega)
        have hc0 : wr.cell? ⟨g, off, none⟩ = some (.int .i64 (nth l 0)) := hcell
        clear hcell
        obtain ⟨x, hx⟩ : ∃ x, nth l 0 = x := ⟨_, rfl⟩
        have EV : Hid (flatOf l k = x) := by show nth l 0 = _; rw [hx]
        rw [hx] at hc0
        clear hx
        go_wp2_with (at_builtin; refine wpList_append_int _ rfl _ _ rfl w4.heap.size _ _ _ rfl x wr.heap.size rfl (hown.alloc _) (by simp) (by omega) (by have := hbr.size; simp; omega) ?_; intro v' w5 hown5 hgrow5)
        go_roundw
        case rel => exact ⟨k + 1, by omega, by go_num, by rw [mapTo_succ, EV.out]; exact hown5, below_append hbr hbr.size hown hgrow5⟩
        case measure => simp [intOf]; omega
      · obtain rfl : n = k := by omega
        obtain ⟨ax, cx, hvx, rx, fx⟩ := IRow.of_own hown
        subst hvx
        obtain ⟨wx, hwx⟩ : ∃ wx : World, wx = wr := ⟨_, rfl⟩
        subst hwx
        clear hlt hk hown
        have HXL : Hid ((mapTo (flatOf l) n).length = l.length) := by show (mapTo (flatOf l) n).length = l.length; rw [mapTo_len, Q1.out.len]
        obtain ⟨x0, hx0⟩ : ∃ x0, nth l 0 = x0 := ⟨_, rfl⟩
        have hxb := okRow_nth HO.out 0
        rw [hx0] at hxb
        have HX : Hid (∀ k, k < n → nth (mapTo (flatOf l) n) k = x0) := fun k hk => by rw [nth_mapTo _ _ _ hk]; exact hx0
        have HX0 := Lib.hid hx0
        clear hx0
        obtain ⟨X, hX⟩ : ∃ X, mapTo (flatOf l) n = X := ⟨_, rfl⟩
        rw [hX] at HX HXL rx
        clear hX
        have HOX : Hid (okRow X = true) := okRow_mk (by rw [HXL.out, Q1.out.len]; omega) (by rw [HXL.out, Q1.out.len]; omega) (fun k hk => by rw [HX.out k (by rw [HXL.out, Q1.out.len] at hk; exact hk)]; exact hxb)
        go_wp2_with fail
        refine (implMany_ok _ _ _ _ t _ _ rx HOX.out ht).mono ?_
        rintro e w6 ⟨a6, n6, c6, rfl, r6, f6, b6⟩
        obtain rfl : n6 = n := by rw [← r6.len, length_many, HXL.out, Q1.out.len]
        have B6 := below2 (below2 B4 hbr) b6
        have Q6 := Lib.hid ((Q1.out.keep hbr).keep b6)
        have O6 := Lib.hid ((Q2.out.keep hbr).keep b6)
        have R6 := Lib.hid r6
        clear r6

        go_wp2_with fail
        go_loop [13, 14] (fun p k => ∃ j : Nat, j ≤ t ∧ k = .int .i64 j ∧ p = .int .i64 ((4 : Int) ^ j)) (fun _ k => 9 - (intOf k).toNat)
        case atStart => exact ⟨0, Nat.zero_le _, rfl, rfl⟩
        case round =>
          obtain ⟨j, hj, rfl, rfl⟩ := hrel
          have hpb := four_pow_bd j (by omega)
          by_cases hlt : j < t
          · have EP : Hid ((4 : Int) ^ (j + 1) = 4 * (4 : Int) ^ j) := by
              show (4 : Int) ^ (j + 1) = 4 * (4 : Int) ^ j
              rw [Int.pow_succ, Int.mul_comm]
            obtain ⟨P, hP⟩ : ∃ P, (4 : Int) ^ j = P := ⟨_, rfl⟩
            rw [hP] at hpb EP
            rw [hP]
            clear hP
            go_wp2_with fail
            go_round
            case rel => exact ⟨j + 1, by omega, by go_num, by rw [EP.out]⟩
            case measure => simp [intOf]; omega
          · obtain rfl : t = j := by omega
            obtain ⟨P, hP⟩ : ∃ P, (4 : Int) ^ t = P := ⟨_, rfl⟩
            rw [hP] at hpb
            rw [hP]
            have HP := Lib.hid hP
            clear hP hlt hj
            have HM : Hid (∀ k, k < n6 → nth (many X t) k = P * x0) := fun k hk => by
              rw [← HP.out]
              exact many_flat X x0 (fun k hk => HX.out k (by rw [← Q1.out.len, ← HXL.out]; exact hk)) t k (by rw [HXL.out, Q1.out.len]; exact hk)
            have hmb := mul_in P x0 10000 hpb.1 hpb.2 hxb.1 hxb.2 (by omega)

            go_wp2_with fail
            go_loopw [15] (fun i wr => ∃ k m : Nat, k ≤ n6 ∧ i = .int .i64 k ∧ wr = w6.drewN m) (fun i _ => n6 - (intOf i).toNat)
            case atStart => exact ⟨0, 0, Nat.zero_le _, rfl, rfl⟩
            case round =>
              obtain ⟨k, m, hk, rfl, rfl⟩ := hrel
              by_cases hlt : k < n6
              · obtain ⟨g, off, rfl, _, hg, hcell⟩ := R6.out.at_ hlt
                obtain ⟨g', off', rfl, _, hg', hcell'⟩ := Q6.out.at_ (show 0 < n6 by omega)
                have hc0 : w6.cell? ⟨g', off', none⟩ = some (.int .i64 x0) := by rw [← HX0.out]; exact hcell'
                rw [HM.out k hlt] at hcell
                clear hcell'
                have s1 : IntKind.i64.wrap (P * x0) = P * x0 := IntWalk.i64_in _ (by omega)
                have n1 : (0 : Int) ≤ k := by omega
                have n2 : (k : Int) < n6 := by omega
                have n3 : (0 : Int) < n6 := by omega
                go_wp2_with fail
                go_quiet (fail)
                clear s1 n1 n2 n3
                go_wp2_with fail
                go_roundw
                case rel => exact ⟨k + 1, _, by omega, by go_num, rfl⟩
                case measure => simp [intOf]; omega
              · obtain rfl : n6 = k := by omega
                by_cases h1 : 1 < n6
                · go_wp2_with fail
                  go_ret
                  exact ⟨rfl, below_drewN B6 m⟩
                · have e : X = l := nth_ext HXL.out (fun k hk => by
                    have hk0 : k = 0 := by rw [HXL.out, Q1.out.len] at hk; omega
                    subst hk0
                    rw [HX.out 0 (by omega), HX0.out])
                  have R7 : Hid (IRow w6 wx.heap.size a6 n6 c6 (many l t)) := by
                    show IRow w6 wx.heap.size a6 n6 c6 (many l t)
                    rw [← e]; exact R6.out
                  clear e
                  go_wp2_with fail
                  refine (sameInts_yes _ _ _ _ _ _ _ _ _ (R7.out.drewN m) (O6.out.drewN m) (by omega)).mono ?_
                  rintro e w8 ⟨rfl, m8, hw8⟩
                  have B8 : Below w.heap.size w w8 := by rw [hw8]; exact below_drewN (below_drewN B6 m) m8
                  clear hw8
                  go_wp2_with fail
                  go_ret
                  exact ⟨rfl, B8⟩
  · have HO : Hid (okRow l = false ∨ ¬ (0 ≤ t ∧ t ≤ 8)) := by
      show okRow l = false ∨ ¬ (0 ≤ t ∧ t ≤ 8)
      cases e : okRow l with
      | false => exact .inl rfl
      | true => exact .inr (fun hh => ho ⟨e, hh⟩)
    clear ho
    go_wp2_with fail
    refine (implMany_no _ _ _ _ t _ _ r1 (by omega) HO.out).mono ?_
    rintro e w2 ⟨a2, n2, c2, rfl, r2, f2, b2⟩
    go_wp2_with fail
    refine (specMany_no _ _ _ _ t _ _ (r1.keep b2) (by omega) HO.out).mono ?_
    rintro e w3 ⟨a3, n3, c3, rfl, r3, f3, b3⟩
    obtain rfl : n3 = n2 := by rw [← r3.len, r2.len]
    have hn3 : n3 ≤ 1048576 := by rw [← r3.len]; exact Nat.zero_le _
    go_wp2_with fail
    refine (sameInts_yes _ _ _ _ _ _ _ _ _ (r2.keep b3) r3 (by omega)).mono ?_
    rintro e w4 ⟨rfl, m4, hw4⟩
    have b4 : Below w3.heap.size w3 w4 := by rw [hw4]; exact below_new _ _
    clear hw4
    go_wp2_with fail
    refine (sameInts_yes _ _ _ _ _ _ _ _ _ ((r2.keep b3).keep b4) (r3.keep b4) (by omega)).mono ?_
    rintro e w5 ⟨rfl, m5, hw5⟩
    have b5 : Below w4.heap.size w4 w5 := by rw [hw5]; exact below_new _ _
    clear hw5
    go_wp2_with fail
    go_ret
    exact ⟨rfl, below2 (below2 (below2 (below2 b1 b2) b3) b4) b5⟩

set_option maxRecDepth 100000 in
set_option maxHeartbeats 2000000 in
theorem manyTurn_walk (a : Option Addr) (len c : Nat) (w : World) (h : BRow w w.heap.size a len) (hc : len ≤ c) (hn : len ≤ 9223372036854775807) :
    Calls Try.prog 8 #[.slice a len c] w fun e w' => e = .returned (.bool true) ∧ Below w.heap.size w w' := by
  by_cases hlen : 1048576 < len
  · go_enter Try.func8, Try.ntmps8
    go_wp2_with fail
    go_ret
    exact ⟨rfl, Below.refl _ _⟩
  go_enter Try.func8, Try.ntmps8
  go_wp2_with fail
  refine (drawMany_any _ _ _ _ h hc hn).mono ?_
  rintro e w1 ⟨a1, n1, c1, l, t, hn1, hd, ht1, ht2, rfl, r1, f1, b1⟩
  by_cases ho : okRow l = true ∧ 0 ≤ t ∧ t ≤ 8
  · obtain ⟨ho, h1, h2⟩ := ho
    obtain ⟨t, rfl⟩ := Int.eq_ofNat_of_zero_le h1
    have ht : t ≤ 8 := by omega
    have hl1 := (okRow_len ho).1
    rw [r1.len] at hl1
    have HO := Lib.hid ho
    clear ho h1 h2 ht1 ht2
    go_wp2_with fail
    refine (implMany_ok _ _ _ _ t _ _ r1 HO.out ht).mono ?_
    rintro e w2 ⟨a2, n2, c2, rfl, r2, f2, b2⟩
    obtain rfl : n2 = n1 := by rw [← r2.len, length_many, r1.len]
    go_wp2_with fail
    refine (specMany_ok _ _ _ _ t _ _ (r1.keep b2) HO.out ht).mono ?_
    rintro e w3 ⟨a3, n3, c3, rfl, r3, f3, b3⟩
    obtain rfl : n3 = n2 := by rw [← r3.len, r2.len]
    go_wp2_with fail
    refine (sameInts_yes _ _ _ _ _ _ _ _ _ (r2.keep b3) r3 (by omega)).mono ?_
    rintro e w4 ⟨rfl, m4, hw4⟩
    have b4 : Below w3.heap.size w3 w4 := by rw [hw4]; exact below_new _ _
    clear hw4
    have B4 := below2 (below2 (below2 b1 b2) b3) b4
    have q1 := ((r1.keep b2).keep b3).keep b4
    have q2 := (r2.keep b3).keep b4
    obtain ⟨n, hnn⟩ : ∃ n, n = n3 := ⟨_, rfl⟩
    subst hnn
    clear r1 r2 r3 b1 b2 b3 b4 f1 f2 f3
    have HO' := Lib.hid (okRow_reverse HO.out)
    go_wp2_with fail
    refine (reversed_any _ _ _ _ _ _ q1 (by omega)).mono ?_
    rintro e w5 ⟨a5, n5, c5, rfl, r5, f5, b5⟩
    go_wp2_with fail
    refine (implMany_ok _ _ _ _ t _ _ r5 HO'.out ht).mono ?_
    rintro e w6 ⟨a6, n6, c6, rfl, r6, f6, b6⟩
    rw [many_reverse] at r6
    obtain rfl : n6 = n := by rw [← r6.len, List.length_reverse, q2.len]
    have B6 := below2 (below2 B4 b5) b6
    have Q1 := Lib.hid ((q1.keep b5).keep b6)
    have Q2 := Lib.hid ((q2.keep b5).keep b6)
    have R6 := Lib.hid r6
    clear q1 q2 r5 r6
    obtain ⟨n, hnn⟩ : ∃ n, n = n6 := ⟨_, rfl⟩
    subst hnn

    go_wp2_with fail
    go_loopw [11, 12] (fun v i wr => ∃ k : Nat, k ≤ n ∧ i = .int .i64 k ∧ wr.ownsRow w6.heap.size 3 1 v k ((mapTo (negOf l) k).map (Value.int .i64)) ∧ Below w6.heap.size w6 wr) (fun _ i _ => n - (intOf i).toNat)
    case atStart => exact ⟨0, Nat.zero_le _, rfl, World.ownsRow_lit w6 _ 0 (Nat.le_refl _) (by unfold maxLen; omega) rfl, (Below.refl _ _).alloc (Nat.le_refl _) _⟩
    case round =>
      obtain ⟨k, hk, rfl, hown, hbr⟩ := hrel
      by_cases hlt : k < n
      · obtain ⟨g, off, rfl, _, hg, hcell⟩ := (Q1.out.keep hbr).at_ hlt
        have hv := okRow_nth HO.out k
        obtain ⟨x, hx⟩ : ∃ x, nth l k = x := ⟨_, rfl⟩
        have EV : Hid (negOf l k = -x) := by show 0 - nth l k = _; rw [hx]; omega
        rw [hx] at hv hcell
        clear hx
        go_wp2_with (at_builtin; refine wpList_append_int _ rfl _ _ rfl w6.heap.size _ _ _ rfl (-x) wr.heap.size rfl (hown.alloc _) (by simp) (by omega) (by have := hbr.size; simp; omega) ?_; intro v' w5 hown5 hgrow5)
        go_roundw
        case rel => exact ⟨k + 1, by omega, by go_num, by rw [mapTo_succ, EV.out]; exact hown5, below_append hbr hbr.size hown hgrow5⟩
        case measure => simp [intOf]; omega
      · obtain rfl : n = k := by omega
        obtain ⟨ax, cx, hvx, rx, fx⟩ := IRow.of_own hown
        subst hvx
        obtain ⟨wx, hwx⟩ : ∃ wx : World, wx = wr := ⟨_, rfl⟩
        subst hwx
        clear hlt hk hown
        have HX : Hid (∀ k, k < n → nth (mapTo (negOf l) n) k = 0 - nth l k) := fun k hk => nth_mapTo _ _ _ hk
        have HXL : Hid ((mapTo (negOf l) n).length = l.length) := by show (mapTo (negOf l) n).length = l.length; rw [mapTo_len, Q1.out.len]
        obtain ⟨X, hX⟩ : ∃ X, mapTo (negOf l) n = X := ⟨_, rfl⟩
        rw [hX] at HX HXL rx
        clear hX
        have HOX : Hid (okRow X = true) := okRow_mk (by rw [HXL.out, Q1.out.len]; omega) (by rw [HXL.out, Q1.out.len]; omega) (fun k hk => by rw [HX.out k (by rw [HXL.out, Q1.out.len] at hk; exact hk)]; have := okRow_nth HO.out k; omega)
        have HM : Hid (∀ k, k < n → nth (many X t) k = 0 - nth (many l t) k) := fun k hk =>
          many_neg l X HXL.out (fun k hk => HX.out k (by rw [← Q1.out.len]; exact hk)) t k (by rw [Q1.out.len]; exact hk)
        have HS6 := Lib.hid (small_many HO.out t ht)
        go_wp2_with fail
        refine (implMany_ok _ _ _ _ t _ _ rx HOX.out ht).mono ?_
        rintro e w8 ⟨a8, n8, c8, rfl, r8, f8, b8⟩
        obtain rfl : n8 = n := by rw [← r8.len, length_many, HXL.out, Q1.out.len]
        have B8 := below2 (below2 B6 hbr) b8
        have O8 := Lib.hid ((Q2.out.keep hbr).keep b8)
        have Y8 := Lib.hid ((R6.out.keep hbr).keep b8)
        have R8 := Lib.hid r8
        clear r8
        go_wp2_with fail
        go_loopw [15] (fun i wr => ∃ k m : Nat, k ≤ n8 ∧ i = .int .i64 k ∧ wr = w8.drewN m) (fun i _ => n8 - (intOf i).toNat)
        case atStart => exact ⟨0, 0, Nat.zero_le _, rfl, rfl⟩
        case round =>
          obtain ⟨k, m, hk, rfl, rfl⟩ := hrel
          by_cases hlt : k < n8
          · obtain ⟨g, off, rfl, _, hg, hcell⟩ := R8.out.at_ hlt
            obtain ⟨g', off', rfl, _, hg', hcell'⟩ := O8.out.at_ hlt
            rw [HM.out k hlt] at hcell
            have hv := HS6.out k
            obtain ⟨x, hx⟩ : ∃ x, nth (many l t) k = x := ⟨_, rfl⟩
            rw [hx] at hv hcell hcell'
            rw [Int.zero_sub] at hcell
            clear hx
            have s1 : IntKind.i64.wrap (-x) = -x := IntWalk.i64_in _ (by omega)
            have s2 : IntKind.i64.wrap (0 - x) = -x := by rw [Int.zero_sub]; exact IntWalk.i64_in _ (by omega)
            have n1 : (0 : Int) ≤ k := by omega
            have n2 : (k : Int) < n8 := by omega
            go_wp2_with fail
            go_quiet (fail)
            clear s1 s2 n1 n2
            go_wp2_with fail
            go_roundw
            case rel => exact ⟨k + 1, _, by omega, by go_num, rfl⟩
            case measure => simp [intOf]; omega
          · obtain rfl : n8 = k := by omega
            have B9 := below_drewN B8 m
            have O9 := O8.out.drewN m
            have Y9 := Y8.out.drewN m
            obtain ⟨w9, hw9⟩ : ∃ w9, w8.drewN m = w9 := ⟨_, rfl⟩
            rw [hw9] at B9 O9 Y9 ⊢
            clear hw9
            go_wp2_with fail
            refine (reversed_any _ _ _ _ _ _ O9 (by omega)).mono ?_
            rintro e w10 ⟨a10, n10, c10, rfl, r10, f10, b10⟩
            obtain rfl : n10 = n8 := by rw [← r10.len, List.length_reverse, O9.len]
            go_wp2_with fail
            refine (sameInts_yes _ _ _ _ _ _ _ _ _ (Y9.keep b10) r10 (by omega)).mono ?_
            rintro e w11 ⟨rfl, m11, hw11⟩
            have B11 : Below w.heap.size w w11 := by rw [hw11]; exact below_drewN (below2 B9 b10) m11
            clear hw11
            go_wp2_with fail
            go_ret
            exact ⟨rfl, B11⟩
  · have HO : Hid (okRow l = false ∨ ¬ (0 ≤ t ∧ t ≤ 8)) := by
      show okRow l = false ∨ ¬ (0 ≤ t ∧ t ≤ 8)
      cases e : okRow l with
      | false => exact .inl rfl
      | true => exact .inr (fun hh => ho ⟨e, hh⟩)
    clear ho
    go_wp2_with fail
    refine (implMany_no _ _ _ _ t _ _ r1 (by omega) HO.out).mono ?_
    rintro e w2 ⟨a2, n2, c2, rfl, r2, f2, b2⟩
    go_wp2_with fail
    refine (specMany_no _ _ _ _ t _ _ (r1.keep b2) (by omega) HO.out).mono ?_
    rintro e w3 ⟨a3, n3, c3, rfl, r3, f3, b3⟩
    obtain rfl : n3 = n2 := by rw [← r3.len, r2.len]
    have hn3 : n3 ≤ 1048576 := by rw [← r3.len]; exact Nat.zero_le _
    go_wp2_with fail
    refine (sameInts_yes _ _ _ _ _ _ _ _ _ (r2.keep b3) r3 (by omega)).mono ?_
    rintro e w4 ⟨rfl, m4, hw4⟩
    have b4 : Below w3.heap.size w3 w4 := by rw [hw4]; exact below_new _ _
    clear hw4
    go_wp2_with fail
    refine (sameInts_yes _ _ _ _ _ _ _ _ _ ((r2.keep b3).keep b4) (r3.keep b4) (by omega)).mono ?_
    rintro e w5 ⟨rfl, m5, hw5⟩
    have b5 : Below w4.heap.size w4 w5 := by rw [hw5]; exact below_new _ _
    clear hw5
    go_wp2_with fail
    go_ret
    exact ⟨rfl, below2 (below2 (below2 (below2 b1 b2) b3) b4) b5⟩

set_option maxRecDepth 100000 in
set_option maxHeartbeats 2000000 in
theorem roughPass_walk (a : Option Addr) (len c : Nat) (w : World) (h : BRow w w.heap.size a len) (hc : len ≤ c) (hn : len ≤ 9223372036854775807) :
    Calls Try.prog 7 #[.slice a len c] w fun e w' => e = .returned (.bool true) ∧ Below w.heap.size w w' := by
  by_cases hlen : 1048576 < len
  · go_enter Try.func7, Try.ntmps7
    go_wp2_with fail
    go_ret
    exact ⟨rfl, Below.refl _ _⟩
  go_enter Try.func7, Try.ntmps7
  go_wp2_with fail
  refine (drawRough_any _ _ _ _ h hc hn).mono ?_
  rintro e w1 ⟨a1, n1, c1, l, hn1, hd, rfl, r1, f1, b1⟩
  cases ho : okRow l with
  | false =>
    have HO := Lib.hid ho
    clear ho
    go_wp2_with fail
    refine (implRough_no _ _ _ _ _ _ r1 (by omega) HO.out).mono ?_
    rintro e w' ⟨rfl, rfl⟩
    go_wp2_with fail
    refine (specRough_no _ _ _ _ _ _ r1 (by omega) HO.out).mono ?_
    rintro e w' ⟨rfl, rfl⟩
    go_wp2_with fail
    go_ret
    exact ⟨rfl, b1⟩
  | true =>
    have hl1 := (okRow_len ho).1
    rw [r1.len] at hl1
    obtain ⟨r, hr⟩ : ∃ r, rough l = r := ⟨_, rfl⟩
    have hrb : 0 ≤ r ∧ r ≤ 20000 * ((n1 - 1 : Nat) : Int) := by rw [← hr]; unfold rough; rw [r1.len]; exact rough_bd ho (n1 - 1)
    have HR := Lib.hid hr
    have HO := Lib.hid ho
    clear ho hr
    go_wp2_with fail
    refine (implRough_ok _ _ _ _ _ _ r1 HO.out).mono ?_
    rw [HR.out]
    rintro e w2 ⟨rfl, m2, hw2⟩
    have b2 : Below w1.heap.size w1 w2 := by rw [hw2]; exact below_new _ _
    clear hw2
    go_wp2_with fail
    refine (specRough_ok _ _ _ _ _ _ (r1.keep b2) HO.out).mono ?_
    rw [HR.out]
    rintro e w4 ⟨rfl, m3, hw3⟩
    have b3 : Below w2.heap.size w2 w4 := by rw [hw3]; exact below_new _ _
    clear hw3
    have B4 := below2 (below2 b1 b2) b3
    have q1 := (r1.keep b2).keep b3
    obtain ⟨n, hnn⟩ : ∃ n, n = n1 := ⟨_, rfl⟩
    subst hnn
    clear r1 b1 b2 b3 f1
    by_cases h4 : n < 4
    · go_wp2_with fail
      go_ret
      exact ⟨rfl, B4⟩

    go_wp2_with fail
    go_loopw [6, 7] (fun v i wr => ∃ k : Nat, k ≤ n ∧ i = .int .i64 k ∧ wr.ownsRow w4.heap.size 3 1 v k ((mapTo (stepF n) k).map (Value.int .i64)) ∧ Below w4.heap.size w4 wr) (fun _ i _ => n - (intOf i).toNat)
    case atStart => exact ⟨0, Nat.zero_le _, rfl, World.ownsRow_lit w4 _ 0 (Nat.le_refl _) (by unfold maxLen; omega) rfl, (Below.refl _ _).alloc (Nat.le_refl _) _⟩
    case round =>
      obtain ⟨k, hk, rfl, hown, hbr⟩ := hrel
      by_cases hlt : k < n
      · have ta : True := trivial
        by_cases h2 : k < n / 2
        · have EV : Hid (stepF n k = 3) := by show (if k < n / 2 then (3 : Int) else 10) = 3; rw [if_pos h2]
          have h3 : (k : Int) < (n : Int) / 2 := by omega
          go_wp2_with (at_builtin; refine wpList_append_int _ rfl _ _ rfl w4.heap.size _ _ _ rfl 3 wr.heap.size rfl (hown.alloc _) (by simp) (by omega) (by have := hbr.size; simp; omega) ?_; intro v' w5 hown5 hgrow5)
          go_roundw
          case rel => exact ⟨k + 1, by omega, by go_num, by rw [mapTo_succ, EV.out]; exact hown5, below_append hbr hbr.size hown hgrow5⟩
          case measure => simp [intOf]; omega
        have EV : Hid (stepF n k = 10) := by show (if k < n / 2 then (3 : Int) else 10) = 10; rw [if_neg h2]
        have h3 : ¬ (k : Int) < (n : Int) / 2 := by omega
        go_wp2_with (at_builtin; refine wpList_append_int _ rfl _ _ rfl w4.heap.size _ _ _ rfl 10 wr.heap.size rfl (hown.alloc _) (by simp) (by omega) (by have := hbr.size; simp; omega) ?_; intro v' w5 hown5 hgrow5)
        go_roundw
        case rel => exact ⟨k + 1, by omega, by go_num, by rw [mapTo_succ, EV.out]; exact hown5, below_append hbr hbr.size hown hgrow5⟩
        case measure => simp [intOf]; omega
      · obtain rfl : n = k := by omega
        obtain ⟨ax, cx, hvx, rx, fx⟩ := IRow.of_own hown
        subst hvx
        obtain ⟨wx, hwx⟩ : ∃ wx : World, wx = wr := ⟨_, rfl⟩
        subst hwx
        clear hlt hk hown
        have hfact := step_fact ⟨n, by omega⟩ (show 4 ≤ n by omega)
        have hfl : (mapTo (stepF n) n).length = n := mapTo_len _ _
        obtain ⟨X, hX⟩ : ∃ X, mapTo (stepF n) n = X := ⟨_, rfl⟩
        have hf1 : okRow X = true := by rw [← hX]; exact hfact.1
        have hf2 : rough (pass X) = 4 * rough X := by rw [← hX]; exact hfact.2
        rw [hX] at rx hfl
        clear hX hfact
        obtain ⟨s, hs⟩ : ∃ s, rough X = s := ⟨_, rfl⟩
        have hsb : 0 ≤ s ∧ s ≤ 20000 * ((n - 1 : Nat) : Int) := by rw [← hs]; unfold rough; rw [hfl]; exact rough_bd hf1 (n - 1)
        rw [hs] at hf2
        have HF2 := Lib.hid hf2
        have HOX := Lib.hid hf1
        have HSX := Lib.hid hs
        have HFL := Lib.hid hfl
        clear hf1 hf2 hs hfl
        have HB : Hid (Big (pass X)) := fun k => by have := pass_bd (b := 10000) (fun k => okRow_nth HOX.out k) k; omega
        go_wp2_with fail
        refine (implPass_ok _ _ _ _ _ _ rx HOX.out).mono ?_
        rintro e w6 ⟨a6, n6, c6, rfl, r6, f6, b6⟩
        obtain rfl : n6 = n := by rw [← r6.len, length_pass, HFL.out]
        have B6 := below2 (below2 B4 hbr) b6
        have rx := rx.keep b6
        go_wp2_with fail
        refine (roughOf_any _ _ _ _ _ _ r6 (by omega) (by omega) HB.out).mono ?_
        rw [HF2.out]
        rintro e w7 ⟨rfl, m7, hw7⟩
        have b7 : Below w6.heap.size w6 w7 := by rw [hw7]; exact below_new _ _
        clear hw7
        go_wp2_with fail
        refine (implRough_ok _ _ _ _ _ _ (rx.keep b7) HOX.out).mono ?_
        rw [HSX.out]
        rintro e w8 ⟨rfl, m8, hw8⟩
        have b8 : Below w7.heap.size w7 w8 := by rw [hw8]; exact below_new _ _
        clear hw8
        go_wp2_with fail
        go_ret
        exact ⟨rfl, below2 (below2 B6 b7) b8⟩

end Go.Proofs.Yteopbbolljmghaa
