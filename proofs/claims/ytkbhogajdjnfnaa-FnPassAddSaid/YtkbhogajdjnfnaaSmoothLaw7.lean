/- The walks of FnPassFlat and FnPassLess. -/
import Derived.Test.YtkbhogajdjnfnaaSmooth4
import Derived.Test.YtkbhogajdjnfnaaInts
import Derived.Test.YtkbhogajdjnfnaaMark
import Derived.Test.YtkbhogajdjnfnaaDrawRow
namespace Go.Proofs.Ytkbhogajdjnfnaa
open Go.RowKit

def flatOf (l : List Int) (_k : Nat) : Int := nth l 0
theorem size_set (w : World) (p : Addr) (v : Value) : (w.setCell p v).heap.size = w.heap.size := by simp [World.setCell]
def oneAt (kk x : Nat) : Int := if x = kk then 1 else 0

set_option maxRecDepth 100000 in
set_option maxHeartbeats 2000000 in
theorem passFlat_walk (a : Option Addr) (len c : Nat) (w : World) (h : BRow w w.heap.size a len) (hc : len ≤ c) (hn : len ≤ 9223372036854775807) :
    Calls Try.prog 12 #[.slice a len c] w fun e w' => e = .returned (.bool true) ∧ Below w.heap.size w w' := by
  by_cases hlen : 1048576 < len
  · go_enter Try.func12, Try.ntmps12
    go_wp2_with fail
    go_ret
    exact ⟨rfl, Below.refl _ _⟩
  go_enter Try.func12, Try.ntmps12
  go_wp2_with fail
  refine (drawPass_any _ _ _ _ h hc hn).mono ?_
  rintro e w1 ⟨a1, n1, c1, l, hn1, hd, rfl, r1, f1, b1⟩
  cases ho : okRow l with
  | false =>
    have HO := Lib.hid ho
    clear ho
    go_wp2_with fail
    refine (implPass_no _ _ _ _ _ _ r1 (by omega) HO.out).mono ?_
    rintro e w2 ⟨a2, n2, c2, rfl, r2, f2, b2⟩
    go_wp2_with fail
    refine (specPass_no _ _ _ _ _ _ (r1.keep b2) (by omega) HO.out).mono ?_
    rintro e w3 ⟨a3, n3, c3, rfl, r3, f3, b3⟩
    obtain rfl : n3 = n2 := by rw [← r3.len, r2.len]
    have hn3 : n3 ≤ 1048576 := by rw [← r3.len]; exact Nat.zero_le _
    go_wp2_with fail
    refine (sameInts_yes _ _ _ _ _ _ _ _ _ (r2.keep b3) r3 (by omega)).mono ?_
    rintro e w4 ⟨rfl, m4, hw4⟩
    have b4 : Below w3.heap.size w3 w4 := by rw [hw4]; exact below_new _ _
    clear hw4
    go_wp2_with fail
    refine (sameInts_yes _ _ _ _ _ _ _ _ _ ((r2.keep b3).keep b4) (r3.keep b4) (by omega)).mono ?_
    rintro e w5 ⟨rfl, m5, hw5⟩
    have b5 : Below w4.heap.size w4 w5 := by rw [hw5]; exact below_new _ _
    clear hw5
    go_wp2_with fail
    go_ret
    exact ⟨rfl, below2 (below2 (below2 (below2 b1 b2) b3) b4) b5⟩
  | true =>
    have hl1 := (okRow_len ho).1
    rw [r1.len] at hl1
    have HO := Lib.hid ho
    clear ho
    go_wp2_with fail
    refine (implPass_ok _ _ _ _ _ _ r1 HO.out).mono ?_
    rintro e w2 ⟨a2, n2, c2, rfl, r2, f2, b2⟩
    obtain rfl : n2 = n1 := by rw [← r2.len, length_pass, r1.len]
    go_wp2_with fail
    refine (specPass_ok _ _ _ _ _ _ (r1.keep b2) HO.out).mono ?_
    rintro e w3 ⟨a3, n3, c3, rfl, r3, f3, b3⟩
    obtain rfl : n3 = n2 := by rw [← r3.len, r2.len]
    go_wp2_with fail
    refine (sameInts_yes _ _ _ _ _ _ _ _ _ (r2.keep b3) r3 (by omega)).mono ?_
    rintro e w4 ⟨rfl, m4, hw4⟩
    have b4 : Below w3.heap.size w3 w4 := by rw [hw4]; exact below_new _ _
    clear hw4
    have B4 := below2 (below2 (below2 b1 b2) b3) b4
    have q1 := ((r1.keep b2).keep b3).keep b4
    have q2 := (r2.keep b3).keep b4
    obtain ⟨n, hnn⟩ : ∃ n, n = n3 := ⟨_, rfl⟩
    subst hnn
    clear r1 r2 r3 b1 b2 b3 b4 f1 f2 f3
    have Q1 := Lib.hid q1
    have Q2 := Lib.hid q2
    clear q1 q2

    go_wp2_with fail
    go_loopw [8, 9] (fun v i wr => ∃ k : Nat, k ≤ n ∧ i = .int .i64 k ∧ wr.ownsRow w4.heap.size 3 1 v k ((mapTo (flatOf l) k).map (Value.int .i64)) ∧ Below w4.heap.size w4 wr) (fun _ i _ => n - (intOf i).toNat)
    case atStart => exact ⟨0, Nat.zero_le _, rfl, World.ownsRow_lit w4 _ 0 (Nat.le_refl _) (by unfold maxLen; omega) rfl, (Below.refl _ _).alloc (Nat.le_refl _) _⟩
    case round =>
      obtain ⟨k, hk, rfl, hown, hbr⟩ := hrel
      by_cases hlt : k < n
      · obtain ⟨g, off, rfl, _, hg, hcell⟩ := (Q1.out.keep hbr).at_ (show 0 < n by omega)
        have hc0 : wr.cell? ⟨g, off, none⟩ = some (.int .i64 (nth l 0)) := hcell
        clear hcell
        obtain ⟨x, hx⟩ : ∃ x, nth l 0 = x := ⟨_, rfl⟩
        have EV : Hid (flatOf l k = x) := by show nth l 0 = _; rw [hx]
        rw [hx] at hc0
        clear hx
        go_wp2_with (at_builtin; refine wpList_append_int _ rfl _ _ rfl w4.heap.size _ _ _ rfl x wr.heap.size rfl (hown.alloc _) (by simp) (by omega) (by have := hbr.size; simp; omega) ?_; intro v' w5 hown5 hgrow5)
        go_roundw
        case rel => exact ⟨k + 1, by omega, by go_num, by rw [mapTo_succ, EV.out]; exact hown5, below_append hbr hbr.size hown hgrow5⟩
        case measure => simp [intOf]; omega
      · obtain rfl : n = k := by omega
        obtain ⟨ax, cx, hvx, rx, fx⟩ := IRow.of_own hown
        subst hvx
        obtain ⟨wx, hwx⟩ : ∃ wx : World, wx = wr := ⟨_, rfl⟩
        subst hwx
        clear hlt hk hown
        have HXL : Hid ((mapTo (flatOf l) n).length = l.length) := by show (mapTo (flatOf l) n).length = l.length; rw [mapTo_len, Q1.out.len]
        obtain ⟨x0, hx0⟩ : ∃ x0, nth l 0 = x0 := ⟨_, rfl⟩
        have hxb := okRow_nth HO.out 0
        rw [hx0] at hxb
        have HX : Hid (∀ k, k < n → nth (mapTo (flatOf l) n) k = x0) := fun k hk => by rw [nth_mapTo _ _ _ hk]; exact hx0
        have HX0 := Lib.hid hx0
        clear hx0
        obtain ⟨X, hX⟩ : ∃ X, mapTo (flatOf l) n = X := ⟨_, rfl⟩
        rw [hX] at HX HXL rx
        clear hX
        have HOX : Hid (okRow X = true) := okRow_mk (by rw [HXL.out, Q1.out.len]; omega) (by rw [HXL.out, Q1.out.len]; omega) (fun k hk => by rw [HX.out k (by rw [HXL.out, Q1.out.len] at hk; exact hk)]; exact hxb)
        go_wp2_with fail
        refine (implPass_ok _ _ _ _ _ _ rx HOX.out).mono ?_
        rintro e w6 ⟨a6, n6, c6, rfl, r6, f6, b6⟩
        obtain rfl : n6 = n := by rw [← r6.len, length_pass, HXL.out, Q1.out.len]
        have B6 := below2 (below2 B4 hbr) b6
        have Q6 := Lib.hid ((Q1.out.keep hbr).keep b6)
        have R6 := Lib.hid r6
        clear r6
        have HM : Hid (∀ k, k < n6 → nth (pass X) k = 4 * x0) := fun k hk => pass_flat X x0 (fun k hk => HX.out k (by rw [← Q1.out.len, ← HXL.out]; exact hk)) k (by rw [HXL.out, Q1.out.len]; exact hk)

        go_wp2_with fail
        go_loopw [12] (fun i wr => ∃ k m : Nat, k ≤ n6 ∧ i = .int .i64 k ∧ wr = w6.drewN m) (fun i _ => n6 - (intOf i).toNat)
        case atStart => exact ⟨0, 0, Nat.zero_le _, rfl, rfl⟩
        case round =>
          obtain ⟨k, m, hk, rfl, rfl⟩ := hrel
          by_cases hlt : k < n6
          · obtain ⟨g, off, rfl, _, hg, hcell⟩ := R6.out.at_ hlt
            obtain ⟨g', off', rfl, _, hg', hcell'⟩ := Q6.out.at_ (show 0 < n6 by omega)
            have hc0 : w6.cell? ⟨g', off', none⟩ = some (.int .i64 x0) := by rw [← HX0.out]; exact hcell'
            rw [HM.out k hlt] at hcell
            clear hcell'
            have s1 : IntKind.i64.wrap (4 * x0) = 4 * x0 := IntWalk.i64_in _ (by omega)
            have n1 : (0 : Int) ≤ k := by omega
            have n2 : (k : Int) < n6 := by omega
            have n3 : (0 : Int) < n6 := by omega
            go_wp2_with fail
            go_quiet (fail)
            clear s1 n1 n2 n3
            go_wp2_with fail
            go_roundw
            case rel => exact ⟨k + 1, _, by omega, by go_num, rfl⟩
            case measure => simp [intOf]; omega
          · obtain rfl : n6 = k := by omega
            go_wp2_with fail
            go_ret
            exact ⟨rfl, below_drewN B6 m⟩

set_option maxRecDepth 100000 in
set_option maxHeartbeats 2000000 in
theorem passLess_walk (a : Option Addr) (len c : Nat) (a0 : Option Addr) (len0 c0 : Nat) (w : World) (h : BRow w w.heap.size a len) (hc : len ≤ c) (hn : len ≤ 9223372036854775807) (hn0 : len0 ≤ 9223372036854775807) :
    Calls Try.prog 13 #[.slice a len c, .slice a0 len0 c0] w fun e w' => e = .returned (.bool true) ∧ Below w.heap.size w w' := by
  by_cases hlen : 1048576 < len
  · go_enter Try.func13, Try.ntmps13
    go_wp2_with fail
    go_ret
    exact ⟨rfl, Below.refl _ _⟩
  by_cases hlen0 : 1048576 < len0
  · go_enter Try.func13, Try.ntmps13
    go_wp2_with fail
    go_ret
    exact ⟨rfl, Below.refl _ _⟩
  go_enter Try.func13, Try.ntmps13
  go_wp2_with fail
  refine (drawPass_any _ _ _ _ h hc hn).mono ?_
  rintro e w1 ⟨a1, n1, c1, l, hn1, hd, rfl, r1, f1, b1⟩
  cases ho : okRow l with
  | false =>
    have HO := Lib.hid ho
    clear ho
    go_wp2_with fail
    refine (implPass_no _ _ _ _ _ _ r1 (by omega) HO.out).mono ?_
    rintro e w2 ⟨a2, n2, c2, rfl, r2, f2, b2⟩
    go_wp2_with fail
    refine (specPass_no _ _ _ _ _ _ (r1.keep b2) (by omega) HO.out).mono ?_
    rintro e w3 ⟨a3, n3, c3, rfl, r3, f3, b3⟩
    obtain rfl : n3 = n2 := by rw [← r3.len, r2.len]
    have hn3 : n3 ≤ 1048576 := by rw [← r3.len]; exact Nat.zero_le _
    go_wp2_with fail
    refine (sameInts_yes _ _ _ _ _ _ _ _ _ (r2.keep b3) r3 (by omega)).mono ?_
    rintro e w4 ⟨rfl, m4, hw4⟩
    have b4 : Below w3.heap.size w3 w4 := by rw [hw4]; exact below_new _ _
    clear hw4
    go_wp2_with fail
    refine (sameInts_yes _ _ _ _ _ _ _ _ _ ((r2.keep b3).keep b4) (r3.keep b4) (by omega)).mono ?_
    rintro e w5 ⟨rfl, m5, hw5⟩
    have b5 : Below w4.heap.size w4 w5 := by rw [hw5]; exact below_new _ _
    clear hw5
    go_wp2_with fail
    go_ret
    exact ⟨rfl, below2 (below2 (below2 (below2 b1 b2) b3) b4) b5⟩
  | true =>
    have hl1 := (okRow_len ho).1
    rw [r1.len] at hl1
    have HO := Lib.hid ho
    clear ho
    go_wp2_with fail
    refine (implPass_ok _ _ _ _ _ _ r1 HO.out).mono ?_
    rintro e w2 ⟨a2, n2, c2, rfl, r2, f2, b2⟩
    obtain rfl : n2 = n1 := by rw [← r2.len, length_pass, r1.len]
    go_wp2_with fail
    refine (specPass_ok _ _ _ _ _ _ (r1.keep b2) HO.out).mono ?_
    rintro e w3 ⟨a3, n3, c3, rfl, r3, f3, b3⟩
    obtain rfl : n3 = n2 := by rw [← r3.len, r2.len]
    go_wp2_with fail
    refine (sameInts_yes _ _ _ _ _ _ _ _ _ (r2.keep b3) r3 (by omega)).mono ?_
    rintro e w4 ⟨rfl, m4, hw4⟩
    have b4 : Below w3.heap.size w3 w4 := by rw [hw4]; exact below_new _ _
    clear hw4
    have B4 := below2 (below2 (below2 b1 b2) b3) b4
    have q1 := ((r1.keep b2).keep b3).keep b4
    have q2 := (r2.keep b3).keep b4
    obtain ⟨n, hnn⟩ : ∃ n, n = n3 := ⟨_, rfl⟩
    subst hnn
    clear r1 r2 r3 b1 b2 b3 b4 f1 f2 f3
    obtain ⟨kk, hkk⟩ : ∃ kk, len0 % n = kk := ⟨_, rfl⟩
    have hkn : kk < n := by rw [← hkk]; exact Nat.mod_lt _ (by omega)
    have hmod : ((len0 : Int) % n) = (kk : Int) := by rw [← hkk, Int.natCast_emod]
    clear hkk
    obtain ⟨g, off, rfl, _, hg, _⟩ := q1.at_ (show 0 < n by omega)
    have Q1 := Lib.hid q1
    have Q2 := Lib.hid q2
    clear q1 q2
    go_wp2_with (at_builtin; refine wpList_append_row _ rfl _ _ rfl w4.heap.size (.slice (some ⟨w4.heap.size, 0, none⟩) 0 0) 0 [] rfl _ g off n _ l rfl (Q1.out.keep ((Below.refl _ _).alloc (Nat.le_refl _) _)) (World.ownsRow_lit w4 _ 0 (Nat.le_refl _) (by unfold maxLen; omega) rfl) (by omega) (by simp) ?_; intro v' w5 hown5 hgrow5; obtain ⟨ax, cx, hvx, rx, fx⟩ := IRow.of_own (l := l) (n := n) (by simpa using hown5); subst hvx; have hb5 : Below w4.heap.size w4 w5 := ((Below.refl _ _).alloc (Nat.le_refl _) _).grown hgrow5 (by simp) (fun k e => by simp [Value.ownBlock] at e; omega); obtain ⟨gx, ofx, rfl, hlx, hgx, hcx⟩ := rx.at_ hkn; have hfx := fx gx ofx rfl kk hkn; have hvk := okRow_nth HO.out kk; clear hown5 hgrow5)
    have rx' := rx.set_ hkn (nth l kk + 1)
    have HX : Hid (∀ k, k < n → nth (l.set kk (nth l kk + 1)) k = if k = kk then nth l kk + 1 else nth l k) := fun k hk => nth_set l kk k _ (by rw [rx.len]; exact hkn)
    have HXL : Hid ((l.set kk (nth l kk + 1)).length = n) := rx'.len
    have hbx : Below w4.heap.size w4 (w5.setCell ⟨gx, ofx + kk, none⟩ (.int .i64 (nth l kk + 1))) := hb5.setCell hlx _
    obtain ⟨wx, hwx⟩ : ∃ wx, w5.setCell ⟨gx, ofx + kk, none⟩ (.int .i64 (nth l kk + 1)) = wx := ⟨_, rfl⟩
    rw [hwx] at rx' hbx ⊢
    obtain ⟨X, hX⟩ : ∃ X, l.set kk (nth l kk + 1) = X := ⟨_, rfl⟩
    rw [hX] at rx' HX HXL
    have HLE : Hid (∀ k, k < l.length → nth l k ≤ nth X k) := fun k hk => by
      rw [Q1.out.len] at hk
      rw [HX.out k hk]
      by_cases e : k = kk
      · subst e; rw [if_pos rfl]; omega
      · rw [if_neg e]; exact Int.le_refl _
    clear hwx hX rx fx hcx hfx hvk
    have B5 := below2 B4 hbx
    cases hox : okRow X with
    | false =>
      have HOX := Lib.hid hox
      clear hox
      go_wp2_with fail
      refine (implPass_no _ _ _ _ _ _ rx' (by omega) HOX.out).mono ?_
      rintro e w6 ⟨a6, n6, c6, rfl, r6, f6, b6⟩
      obtain rfl : n6 = 0 := r6.len.symm
      have B6 := below2 B5 b6
      go_wp2_with fail
      go_loop [14] (fun i => i = .int .i64 0) (fun _ => 0)
      case atStart => rfl
      case round =>
        subst hrel
        go_wp2_with fail
        go_ret
        exact ⟨rfl, B6⟩
    | true =>
      have HOX := Lib.hid hox
      clear hox
      go_wp2_with fail
      refine (implPass_ok _ _ _ _ _ _ rx' HOX.out).mono ?_
      rintro e w6 ⟨a6, n6, c6, rfl, r6, f6, b6⟩
      obtain rfl : n6 = n := by rw [← r6.len, length_pass, HXL.out]
      have B6 := below2 B5 b6
      have Q6 := Lib.hid ((Q2.out.keep hbx).keep b6)
      have R6 := Lib.hid r6
      clear r6
      have HM : Hid (∀ k, k < n6 → nth (pass l) k ≤ nth (pass X) k) := fun k hk => pass_mono l X (by rw [HXL.out, Q1.out.len]) HLE.out k (by rw [Q1.out.len]; exact hk)
      go_wp2_with fail
      go_loopw [14] (fun i wr => ∃ k m : Nat, k ≤ n6 ∧ i = .int .i64 k ∧ wr = w6.drewN m) (fun i _ => n6 - (intOf i).toNat)
      case atStart => exact ⟨0, 0, Nat.zero_le _, rfl, rfl⟩
      case round =>
        obtain ⟨k, m, hk, rfl, rfl⟩ := hrel
        by_cases hlt : k < n6
        · obtain ⟨g1, off1, rfl, _, hg1, hcell⟩ := R6.out.at_ hlt
          obtain ⟨g2, off2, rfl, _, hg2, hcell'⟩ := Q6.out.at_ hlt
          have hle := HM.out k hlt
          obtain ⟨x, hx⟩ : ∃ x, nth (pass X) k = x := ⟨_, rfl⟩
          obtain ⟨y, hy⟩ : ∃ y, nth (pass l) k = y := ⟨_, rfl⟩
          rw [hx] at hcell hle
          rw [hy] at hcell' hle
          clear hx hy
          have n1 : (0 : Int) ≤ k := by omega
          have n2 : (k : Int) < n6 := by omega
          have n3 : decide (x < y) = false := by simp; omega
          go_wp2_with fail
          go_quiet (fail)
          clear n1 n2
          go_wp2_with fail
          go_roundw
          case rel => exact ⟨k + 1, _, by omega, by go_num, rfl⟩
          case measure => simp [intOf]; omega
        · obtain rfl : n6 = k := by omega
          go_wp2_with fail
          go_ret
          exact ⟨rfl, below_drewN B6 m⟩

set_option maxRecDepth 100000 in
set_option maxHeartbeats 2000000 in
theorem passAdd_walk (a : Option Addr) (len c : Nat) (a0 : Option Addr) (len0 c0 : Nat) (w : World) (h : BRow w w.heap.size a len) (hc : len ≤ c) (hn : len ≤ 9223372036854775807) (hn0 : len0 ≤ 9223372036854775807) :
    Calls Try.prog 14 #[.slice a len c, .slice a0 len0 c0] w fun e w' => e = .returned (.bool true) ∧ Below w.heap.size w w' := by
  by_cases hlen : 1048576 < len
  · go_enter Try.func14, Try.ntmps14
    go_wp2_with fail
    go_ret
    exact ⟨rfl, Below.refl _ _⟩
  by_cases hlen0 : 1048576 < len0
  · go_enter Try.func14, Try.ntmps14
    go_wp2_with fail
    go_ret
    exact ⟨rfl, Below.refl _ _⟩
  go_enter Try.func14, Try.ntmps14
  go_wp2_with fail
  refine (drawPass_any _ _ _ _ h hc hn).mono ?_
  rintro e w1 ⟨a1, n1, c1, l, hn1, hd, rfl, r1, f1, b1⟩
  cases ho : okRow l with
  | false =>
    have HO := Lib.hid ho
    clear ho
    go_wp2_with fail
    refine (implPass_no _ _ _ _ _ _ r1 (by omega) HO.out).mono ?_
    rintro e w2 ⟨a2, n2, c2, rfl, r2, f2, b2⟩
    go_wp2_with fail
    refine (specPass_no _ _ _ _ _ _ (r1.keep b2) (by omega) HO.out).mono ?_
    rintro e w3 ⟨a3, n3, c3, rfl, r3, f3, b3⟩
    obtain rfl : n3 = n2 := by rw [← r3.len, r2.len]
    have hn3 : n3 ≤ 1048576 := by rw [← r3.len]; exact Nat.zero_le _
    go_wp2_with fail
    refine (sameInts_yes _ _ _ _ _ _ _ _ _ (r2.keep b3) r3 (by omega)).mono ?_
    rintro e w4 ⟨rfl, m4, hw4⟩
    have b4 : Below w3.heap.size w3 w4 := by rw [hw4]; exact below_new _ _
    clear hw4
    go_wp2_with fail
    refine (sameInts_yes _ _ _ _ _ _ _ _ _ ((r2.keep b3).keep b4) (r3.keep b4) (by omega)).mono ?_
    rintro e w5 ⟨rfl, m5, hw5⟩
    have b5 : Below w4.heap.size w4 w5 := by rw [hw5]; exact below_new _ _
    clear hw5
    go_wp2_with fail
    go_ret
    exact ⟨rfl, below2 (below2 (below2 (below2 b1 b2) b3) b4) b5⟩
  | true =>
    have hl1 := (okRow_len ho).1
    rw [r1.len] at hl1
    have HO := Lib.hid ho
    clear ho
    go_wp2_with fail
    refine (implPass_ok _ _ _ _ _ _ r1 HO.out).mono ?_
    rintro e w2 ⟨a2, n2, c2, rfl, r2, f2, b2⟩
    obtain rfl : n2 = n1 := by rw [← r2.len, length_pass, r1.len]
    go_wp2_with fail
    refine (specPass_ok _ _ _ _ _ _ (r1.keep b2) HO.out).mono ?_
    rintro e w3 ⟨a3, n3, c3, rfl, r3, f3, b3⟩
    obtain rfl : n3 = n2 := by rw [← r3.len, r2.len]
    go_wp2_with fail
    refine (sameInts_yes _ _ _ _ _ _ _ _ _ (r2.keep b3) r3 (by omega)).mono ?_
    rintro e w4 ⟨rfl, m4, hw4⟩
    have b4 : Below w3.heap.size w3 w4 := by rw [hw4]; exact below_new _ _
    clear hw4
    have B4 := below2 (below2 (below2 b1 b2) b3) b4
    have q1 := ((r1.keep b2).keep b3).keep b4
    have q2 := (r2.keep b3).keep b4
    obtain ⟨n, hnn⟩ : ∃ n, n = n3 := ⟨_, rfl⟩
    subst hnn
    clear r1 r2 r3 b1 b2 b3 b4 f1 f2 f3
    obtain ⟨kk, hkk⟩ : ∃ kk, len0 % n = kk := ⟨_, rfl⟩
    have hkn : kk < n := by rw [← hkk]; exact Nat.mod_lt _ (by omega)
    have hmod : ((len0 : Int) % n) = (kk : Int) := by rw [← hkk, Int.natCast_emod]
    clear hkk
    obtain ⟨g, off, rfl, _, hg, _⟩ := q1.at_ (show 0 < n by omega)
    have Q1 := Lib.hid q1
    have Q2 := Lib.hid q2
    clear q1 q2
    have tok1 : True := trivial
    go_wp2_with (first | (at_builtin; have _t := tok1; refine wpList_append_row _ rfl _ _ rfl w4.heap.size (.slice (some ⟨w4.heap.size, 0, none⟩) 0 0) 0 [] rfl _ g off n _ l rfl (Q1.out.keep ((Below.refl _ _).alloc (Nat.le_refl _) _)) (World.ownsRow_lit w4 _ 0 (Nat.le_refl _) (by unfold maxLen; omega) rfl) (by omega) (by simp) ?_; intro v' w5 hown5 hgrow5; obtain ⟨ax, cx, hvx, rx, fx⟩ := IRow.of_own (l := l) (n := n) (by simpa using hown5); subst hvx; have hb5 : Below w4.heap.size w4 w5 := ((Below.refl _ _).alloc (Nat.le_refl _) _).grown hgrow5 (by simp) (fun k e => by simp [Value.ownBlock] at e; omega); obtain ⟨gx, ofx, rfl, hlx, hgx, hcx⟩ := rx.at_ hkn; have hfx := fx gx ofx rfl kk hkn; have hvk := okRow_nth HO.out kk; have hsz5 := fun v => size_set w5 ⟨gx, ofx + kk, none⟩ v; clear hown5 hgrow5 tok1) | (at_make; refine wpList_make_ints _ rfl _ _ rfl n _ rfl rfl rfl (by omega) ?_; intro w6 hr6 hs6 hb6; rw [hsz5] at hr6 hb6 ⊢; have hc6 := hr6.cell (i := kk) hkn; have hf6 := hr6.frozen kk))
    have rx' := rx.set_ hkn (nth l kk + 1)
    have HX : Hid (∀ k, k < n → nth (l.set kk (nth l kk + 1)) k = if k = kk then nth l kk + 1 else nth l k) := fun k hk => nth_set l kk k _ (by rw [rx.len]; exact hkn)
    have HXL : Hid ((l.set kk (nth l kk + 1)).length = n) := rx'.len
    have hbx : Below w4.heap.size w4 (w5.setCell ⟨gx, ofx + kk, none⟩ (.int .i64 (nth l kk + 1))) := hb5.setCell hlx _
    obtain ⟨wx, hwx⟩ : ∃ wx, w5.setCell ⟨gx, ofx + kk, none⟩ (.int .i64 (nth l kk + 1)) = wx := ⟨_, rfl⟩
    have hszx : wx.heap.size = w5.heap.size := by rw [← hwx]; exact hsz5 _
    rw [hwx] at rx' hbx hb6
    clear hsz5
    obtain ⟨X, hX⟩ : ∃ X, l.set kk (nth l kk + 1) = X := ⟨_, rfl⟩
    rw [hX] at rx' HX HXL
    have HLE : Hid (∀ k, k < l.length → nth l k ≤ nth X k) := fun k hk => by
      rw [Q1.out.len] at hk
      rw [HX.out k hk]
      by_cases e : k = kk
      · subst e; rw [if_pos rfl]; omega
      · rw [if_neg e]; exact Int.le_refl _
    clear hwx hX rx fx hcx hfx hvk
    have B5 := below2 B4 hbx
    rw [← hszx] at hr6 hb6
    rw [show w5.heap.size = wx.heap.size from hszx.symm]
    have b6 := (hb6 wx.heap.size wx (Below.refl _ _) (Nat.le_refl _)).setCell (p := ⟨wx.heap.size, kk, none⟩) (Nat.le_refl _) (.int .i64 1)
    have h6 : (w6.setCell ⟨wx.heap.size, kk, none⟩ (.int .i64 1)).rowIs wx.heap.size 3 n (fun x => .int .i64 (oneAt kk x)) := (hr6.set kk (.int .i64 1)).congr (fun x _ => by
      unfold oneAt
      by_cases e : x = kk
      · rw [if_pos e, if_pos e]
      · rw [if_neg e, if_neg e])
    have ry := (IRow.of_rowIs (lo := wx.heap.size) h6 (Nat.le_refl _)).1
    obtain ⟨wy, hwy⟩ : ∃ wy, w6.setCell ⟨wx.heap.size, kk, none⟩ (.int .i64 1) = wy := ⟨_, rfl⟩
    rw [hwy] at ry b6 ⊢
    have HO1 : Hid (∀ k, k < n → nth ((List.range n).map (oneAt kk)) k = if k = kk then 1 else 0) := fun k hk => nth_map_range _ _ _ hk
    have HO1L : Hid (((List.range n).map (oneAt kk)).length = n) := by show ((List.range n).map (oneAt kk)).length = n; simp
    obtain ⟨O, hO⟩ : ∃ O, (List.range n).map (oneAt kk) = O := ⟨_, rfl⟩
    rw [hO] at ry HO1 HO1L
    clear hwy hO h6 hr6 hs6 hb6 hc6 hf6 hszx
    have HOO : Hid (okRow O = true) := okRow_mk (by rw [HO1L.out]; omega) (by rw [HO1L.out]; omega) (fun k hk => by
      rw [HO1.out k (by rw [← HO1L.out]; exact hk)]
      by_cases e : k = kk
      · rw [if_pos e]; omega
      · rw [if_neg e]; omega)
    have HLIN : Hid (∀ k, k < l.length → nth X k = nth l k + 1 * nth O k) := fun k hk => by
      rw [Q1.out.len] at hk
      rw [HX.out k hk, HO1.out k hk]
      by_cases e : k = kk
      · subst e; rw [if_pos rfl, if_pos rfl]; omega
      · rw [if_neg e, if_neg e]; omega
    have B5 := below2 B5 b6
    have rx' := rx'.keep b6
    cases hox : okRow X with
    | false =>
      have HOX := Lib.hid hox
      clear hox
      go_wp2_with fail
      refine (implPass_no _ _ _ _ _ _ rx' (by omega) HOX.out).mono ?_
      rintro e w7 ⟨a7, n7, c7, rfl, r7, f7, b7⟩
      obtain rfl : n7 = 0 := r7.len.symm
      have B7 := below2 B5 b7
      go_wp2_with fail
      refine (implPass_ok _ _ _ _ _ _ (ry.keep b7) HOO.out).mono ?_
      rintro e w8 ⟨a8, n8, c8, rfl, r8, f8, b8⟩
      have B8 := below2 B7 b8
      go_wp2_with fail
      go_loop [17] (fun i => i = .int .i64 0) (fun _ => 0)
      case atStart => rfl
      case round =>
        subst hrel
        go_wp2_with fail
        go_ret
        exact ⟨rfl, B8⟩
    | true =>
      have HOX := Lib.hid hox
      clear hox
      go_wp2_with fail
      refine (implPass_ok _ _ _ _ _ _ rx' HOX.out).mono ?_
      rintro e w7 ⟨a7, n7, c7, rfl, r7, f7, b7⟩
      obtain rfl : n7 = n := by rw [← r7.len, length_pass, HXL.out]
      have B7 := below2 B5 b7
      go_wp2_with fail
      refine (implPass_ok _ _ _ _ _ _ (ry.keep b7) HOO.out).mono ?_
      rintro e w8 ⟨a8, n8, c8, rfl, r8, f8, b8⟩
      obtain rfl : n8 = n7 := by rw [← r8.len, length_pass, HO1L.out]
      have B8 := below2 B7 b8
      have Q8 := Lib.hid ((((Q2.out.keep hbx).keep b6).keep b7).keep b8)
      have R8 := Lib.hid (r7.keep b8)
      have Z8 := Lib.hid r8
      clear r7 r8
      have HM : Hid (∀ k, k < n8 → nth (pass X) k = nth (pass l) k + nth (pass O) k) := fun k hk => by
        have := pass_lin l O X 1 (by rw [HO1L.out, Q1.out.len]) (by rw [HXL.out, Q1.out.len]) HLIN.out k (by rw [Q1.out.len]; exact hk)
        omega
      have HB1 : Hid (∀ k, -40000 ≤ nth (pass l) k ∧ nth (pass l) k ≤ 40000) := fun k => by have := pass_bd (b := 10000) (fun k => okRow_nth HO.out k) k; omega
      have HB2 : Hid (∀ k, -40000 ≤ nth (pass O) k ∧ nth (pass O) k ≤ 40000) := fun k => by have := pass_bd (b := 10000) (fun k => okRow_nth HOO.out k) k; omega
      go_wp2_with fail
      go_loopw [17] (fun i wr => ∃ k m : Nat, k ≤ n8 ∧ i = .int .i64 k ∧ wr = w8.drewN m) (fun i _ => n8 - (intOf i).toNat)
      case atStart => exact ⟨0, 0, Nat.zero_le _, rfl, rfl⟩
      case round =>
        obtain ⟨k, m, hk, rfl, rfl⟩ := hrel
        by_cases hlt : k < n8
        · obtain ⟨g1, off1, rfl, _, hg1, hcell⟩ := R8.out.at_ hlt
          obtain ⟨g2, off2, rfl, _, hg2, hcell'⟩ := Q8.out.at_ hlt
          obtain ⟨g3, off3, rfl, _, hg3, hcell''⟩ := Z8.out.at_ hlt
          have hv1 := HB1.out k
          have hv2 := HB2.out k
          rw [HM.out k hlt] at hcell
          obtain ⟨x, hx⟩ : ∃ x, nth (pass l) k = x := ⟨_, rfl⟩
          obtain ⟨y, hy⟩ : ∃ y, nth (pass O) k = y := ⟨_, rfl⟩
          rw [hx] at hcell hcell' hv1
          rw [hy] at hcell hcell'' hv2
          clear hx hy
          have s1 : IntKind.i64.wrap (x + y) = x + y := IntWalk.i64_in _ (by omega)
          have n1 : (0 : Int) ≤ k := by omega
          have n2 : (k : Int) < n8 := by omega
          go_wp2_with fail
          go_quiet (fail)
          clear n1 n2 s1
          go_wp2_with fail
          go_roundw
          case rel => exact ⟨k + 1, _, by omega, by go_num, rfl⟩
          case measure => simp [intOf]; omega
        · obtain rfl : n8 = k := by omega
          go_wp2_with fail
          go_ret
          exact ⟨rfl, below_drewN B8 m⟩

set_option maxRecDepth 100000 in
set_option maxHeartbeats 2000000 in
theorem sumRange_walk (a : Option Addr) (len c : Nat) (w : World) (h : BRow w w.heap.size a len) (hc : len ≤ c) (hn : len ≤ 9223372036854775807) :
    Calls Try.prog 6 #[.slice a len c] w fun e w' => e = .returned (.bool true) ∧ Below w.heap.size w w' := by
  by_cases hlen : 1048576 < len
  · go_enter Try.func6, Try.ntmps6
    go_wp2_with fail
    go_ret
    exact ⟨rfl, Below.refl _ _⟩
  go_enter Try.func6, Try.ntmps6
  go_wp2_with fail
  refine (drawSum_any _ _ _ _ h hc hn).mono ?_
  rintro e w1 ⟨a1, n1, c1, l, hn1, hd, rfl, r1, f1, b1⟩
  cases ho : okRow l with
  | false =>
    have HO := Lib.hid ho
    clear ho
    go_wp2_with fail
    refine (implSum_no _ _ _ _ _ _ r1 (by omega) HO.out).mono ?_
    rintro e w' ⟨rfl, rfl⟩
    go_wp2_with fail
    refine (specSum_no _ _ _ _ _ _ r1 (by omega) HO.out).mono ?_
    rintro e w' ⟨rfl, rfl⟩
    go_wp2_with fail
    go_ret
    exact ⟨rfl, b1⟩
  | true =>
    have hl1 := (okRow_len ho).1
    rw [r1.len] at hl1
    obtain ⟨s, hs⟩ : ∃ s, total l = s := ⟨_, rfl⟩
    have hsb : -(10000 * n1) ≤ s ∧ s ≤ 10000 * n1 := by rw [← hs]; unfold total; rw [r1.len]; exact sum_bd ho n1
    have HEQ : Hid (total l = s) := hs
    clear hs
    have HO := Lib.hid ho
    clear ho
    go_wp2_with fail
    refine (implSum_ok _ _ _ _ _ _ r1 HO.out).mono ?_
    rw [HEQ.out]
    rintro e w' ⟨rfl, rfl⟩
    go_wp2_with fail
    refine (specSum_ok _ _ _ _ _ _ r1 HO.out).mono ?_
    rw [HEQ.out]
    rintro e w' ⟨rfl, rfl⟩
    obtain ⟨n, hnn⟩ : ∃ n, n = n1 := ⟨_, rfl⟩
    subst hnn
    obtain ⟨g, off, rfl, _, hg, hcell⟩ := r1.at_ (show 0 < n by omega)
    have hc0 : w1.cell? ⟨g, off, none⟩ = some (.int .i64 (nth l 0)) := hcell
    clear hcell
    have hcap := r1.2.1
    have R1 := Lib.hid r1
    have HO1 : Hid (okRow (l ++ [0]) = true) := okRow_mk (by simp) (by rw [List.length_append, r1.len]; simp; omega) (fun k hk => by
      rcases Nat.lt_or_ge k l.length with c | c
      · rw [nth_append_left _ _ _ c]; exact okRow_nth HO.out k
      · have e : k = l.length := by simp at hk; omega
        subst e; rw [nth_snoc]; omega)
    have HT1 : Hid (total (l ++ [0]) = s) := by show total (l ++ [0]) = s; rw [total_snoc, HEQ.out]; omega
    have hlen1 : (l.take 1).length = 1 := by rw [List.length_take, r1.len]; omega
    have hnt : nth (l.take 1) 0 = nth l 0 := by unfold nth; rw [List.getElem?_take, if_pos (by omega)]
    have HO2 : Hid (okRow (l.take 1) = true) := okRow_mk (by omega) (by omega) (fun k hk => by
      obtain rfl : k = 0 := by omega
      rw [hnt]; exact okRow_nth HO.out 0)
    have HT2 : Hid (total (l.take 1) = nth l 0) := by
      show total (l.take 1) = nth l 0
      unfold total
      rw [hlen1, sumF, sumF, hnt]; omega
    obtain ⟨x0, hx0⟩ : ∃ x0, nth l 0 = x0 := ⟨_, rfl⟩
    rw [hx0] at HT2 hc0
    clear hx0 hlen1 hnt
    have d20 : ((n : Int) == 20) = false := by simp; omega
    have tok1 : True := trivial
    clear r1
    go_wp2_with (first | (at_builtin; have _t := tok1; refine wpList_append_row _ rfl _ _ rfl w1.heap.size (.slice (some ⟨w1.heap.size, 0, none⟩) 0 0) 0 [] rfl _ g off n _ l rfl (R1.out.keep ((Below.refl _ _).alloc (Nat.le_refl _) _)) (World.ownsRow_lit w1 _ 0 (Nat.le_refl _) (by unfold maxLen; omega) rfl) (by omega) (by simp) ?_; intro v5 w5 hown5 hgrow5; have hb5 : Below w1.heap.size w1 w5 := ((Below.refl _ _).alloc (Nat.le_refl _) _).grown hgrow5 (by simp) (fun k e => by simp [Value.ownBlock] at e; omega); clear tok1) | (at_builtin; refine wpList_append_int _ rfl _ _ rfl w1.heap.size _ (0 + n) ([] ++ l) rfl 0 w5.heap.size rfl (hown5.alloc _) (by simp) (by omega) (by have := hb5.size; simp; omega) ?_; intro v6 w6 hown6 hgrow6))
    have b6 : Below w1.heap.size w1 w6 := below_append hb5 hb5.size hown5 hgrow6
    obtain ⟨a6, c6, hv6, r6, f6⟩ := IRow.of_own (l := l ++ [0]) (n := n + 1) (by simpa using hown6)
    subst hv6
    clear hown5 hgrow5 hown6 hgrow6 hb5
    refine (implSum_ok _ _ _ _ _ _ r6 HO1.out).mono ?_
    rw [HT1.out]
    rintro e w' ⟨rfl, rfl⟩
    have hc6 : w6.cell? ⟨g, off, none⟩ = some (.int .i64 x0) := (b6.cell (p := ⟨g, off, none⟩) hg).trans hc0
    have hcapi : (1 : Int) ≤ (c1 : Int) := by omega
    go_wp2_with fail
    refine (implSum_ok _ _ _ _ _ _ ((R1.out.keep b6).take (by omega)) HO2.out).mono ?_
    rw [HT2.out]
    rintro e w' ⟨rfl, rfl⟩
    go_wp2_with fail
    go_ret
    exact ⟨rfl, below2 b1 b6⟩

end Go.Proofs.Ytkbhogajdjnfnaa
