/- Walks of the two versions of LayersCount, LayersHalf and LayersAge. -/
import Derived.Test.YtbidnmjofljcnaaLay1
namespace Go.Proofs.Ytbidnmjofljcnaa
open Go.RowKit

def okSpan (t b : Int) : Bool := decide (0 ≤ t ∧ t ≤ b ∧ b ≤ 30000)
theorem okSpan_bd {t b : Int} (h : okSpan t b = true) : 0 ≤ t ∧ t ≤ b ∧ b ≤ 30000 := of_decide_eq_true h
theorem okSpan_mk {t b : Int} (h1 : 0 ≤ t) (h2 : t ≤ b) (h3 : b ≤ 30000) : okSpan t b = true := decide_eq_true ⟨h1, h2, h3⟩

theorem isSpan_any (t b : Int) (w : World) : Calls Try.prog 39 #[.int .i64 t, .int .i64 b] w fun e w' => e = .returned (.bool (okSpan t b)) ∧ w = w' := by
  by_cases h1 : 0 ≤ t ∧ t ≤ 30000
  · have H1 : Hid (∀ W : World, Calls Try.prog 33 #[.int .i64 t] W fun e w' => e = .returned (.bool true) ∧ W = w') := fun W => by
      have := isDepth_is (x := t) (w := W); rw [decide_eq_true h1] at this; exact this.mono fun _ _ ⟨a, b⟩ => ⟨a, b.symm⟩
    by_cases h2 : 0 ≤ b ∧ b ≤ 30000
    · have H2 : Hid (∀ W : World, Calls Try.prog 33 #[.int .i64 b] W fun e w' => e = .returned (.bool true) ∧ W = w') := fun W => by
        have := isDepth_is (x := b) (w := W); rw [decide_eq_true h2] at this; exact this.mono fun _ _ ⟨a, b⟩ => ⟨a, b.symm⟩
      have e : okSpan t b = decide (t ≤ b) := by unfold okSpan; by_cases h : t ≤ b <;> simp [h] <;> omega
      rw [e]
      clear h1 h2 e
      go_enter Try.func39, Try.ntmps39
      go_wp2_with fail
      refine (H1.out _).mono ?_
      rintro e w' ⟨rfl, rfl⟩
      go_wp2_with fail
      refine (H2.out _).mono ?_
      rintro e w' ⟨rfl, rfl⟩
      go_wp2_with fail
      go_ret
      exact ⟨rfl, rfl⟩
    · have H2 : Hid (∀ W : World, Calls Try.prog 33 #[.int .i64 b] W fun e w' => e = .returned (.bool false) ∧ W = w') := fun W => by
        have := isDepth_is (x := b) (w := W); rw [decide_eq_false h2] at this; exact this.mono fun _ _ ⟨a, b⟩ => ⟨a, b.symm⟩
      have e : okSpan t b = false := decide_eq_false (by omega)
      rw [e]
      clear h1 h2 e
      go_enter Try.func39, Try.ntmps39
      go_wp2_with fail
      refine (H1.out _).mono ?_
      rintro e w' ⟨rfl, rfl⟩
      go_wp2_with fail
      refine (H2.out _).mono ?_
      rintro e w' ⟨rfl, rfl⟩
      go_wp2_with fail
      go_ret
      exact ⟨rfl, rfl⟩
  · have H1 : Hid (∀ W : World, Calls Try.prog 33 #[.int .i64 t] W fun e w' => e = .returned (.bool false) ∧ W = w') := fun W => by
      have := isDepth_is (x := t) (w := W); rw [decide_eq_false h1] at this; exact this.mono fun _ _ ⟨a, b⟩ => ⟨a, b.symm⟩
    have e : okSpan t b = false := decide_eq_false (by omega)
    rw [e]
    clear h1 e
    go_enter Try.func39, Try.ntmps39
    go_wp2_with fail
    refine (H1.out _).mono ?_
    rintro e w' ⟨rfl, rfl⟩
    go_wp2_with fail
    go_ret
    exact ⟨rfl, rfl⟩
theorem isSpan_is {t b : Int} {w : World} {r : Bool} (hr : okSpan t b = r) : Calls Try.prog 39 #[.int .i64 t, .int .i64 b] w fun e w' => e = .returned (.bool r) ∧ w = w' := by
  subst hr; exact isSpan_any t b w

theorem inR_out {l : List Lay} {t b : Int} {k : Nat} (h : ¬ (t ≤ dep l k ∧ dep l k < b)) : allTo l t b (k + 1) = allTo l t b k ∧ sureTo l t b (k + 1) = sureTo l t b k := by
  have e1 : allTo l t b (k + 1) = allTo l t b k + inR l t b k := rfl
  have e2 : sureTo l t b (k + 1) = sureTo l t b k + inS l t b k := rfl
  have a : inR l t b k = 0 := by unfold inR; rw [if_neg h]
  have c : inS l t b k = 0 := by unfold inS; rw [if_neg (fun hh => h hh.1)]
  omega
theorem inR_sure {l : List Lay} {t b : Int} {k : Nat} (h : t ≤ dep l k ∧ dep l k < b) (hs : sur l k = true) : allTo l t b (k + 1) = allTo l t b k + 1 ∧ sureTo l t b (k + 1) = sureTo l t b k + 1 := by
  have e1 : allTo l t b (k + 1) = allTo l t b k + inR l t b k := rfl
  have e2 : sureTo l t b (k + 1) = sureTo l t b k + inS l t b k := rfl
  have a : inR l t b k = 1 := by unfold inR; rw [if_pos h]
  have c : inS l t b k = 1 := by unfold inS; rw [if_pos ⟨h, hs⟩]
  omega
theorem inR_unsure {l : List Lay} {t b : Int} {k : Nat} (h : t ≤ dep l k ∧ dep l k < b) (hs : sur l k = false) : allTo l t b (k + 1) = allTo l t b k + 1 ∧ sureTo l t b (k + 1) = sureTo l t b k := by
  have e1 : allTo l t b (k + 1) = allTo l t b k + inR l t b k := rfl
  have e2 : sureTo l t b (k + 1) = sureTo l t b k + inS l t b k := rfl
  have a : inR l t b k = 1 := by unfold inR; rw [if_pos h]
  have c : inS l t b k = 0 := by unfold inS; rw [if_neg (fun hh => by rw [hs] at hh; exact absurd hh.2 (by simp))]
  omega

set_option maxHeartbeats 1000000 in
theorem implCount_ok (a : Option Addr) (n c lo : Nat) (l : List Lay) (t b : Int) (w : World) (h : LRow w lo a n c l) (ho : okL l = true) (hs : okSpan t b = true) :
    Calls Try.prog 23 #[.slice a n c, .int .i64 t, .int .i64 b] w fun e w' => e = .returned (.tuple #[.int .i64 (cSure l t b), .int .i64 (cAll l t b), .bool true]) ∧ Below w.heap.size w w' := by
  have hn := okL_len ho
  rw [h.len] at hn
  have H := Lib.hid h
  have HO := Lib.hid ho
  have HS := Lib.hid hs
  have E1 : Hid (cSure l t b = sureTo l t b n) := by show sureTo l t b l.length = _; rw [h.len]
  have E2 : Hid (cAll l t b = allTo l t b n) := by show allTo l t b l.length = _; rw [h.len]
  rw [E1.out, E2.out]
  clear h ho hs
  go_enter Try.func23, Try.ntmps23
  go_wp2_with fail
  refine (implValid_is HO.out H.out (by omega)).mono ?_
  rintro e w1 ⟨rfl, b1⟩
  go_wp2_with fail
  refine (isSpan_is HS.out).mono ?_
  rintro e w' ⟨rfl, rfl⟩
  go_wp2_with fail
  go_loopw [9, 10, 24] (fun s x i wr => ∃ k : Nat, k ≤ n ∧ i = .int .i64 k ∧ s = .int .i64 (sureTo l t b k) ∧ x = .int .i64 (allTo l t b k) ∧ Below w.heap.size w wr) (fun _ _ i _ => n - (intOf i).toNat)
  case atStart => exact ⟨0, Nat.zero_le _, rfl, rfl, rfl, b1⟩
  case round =>
    clear b1
    obtain ⟨k, hk, rfl, rfl, rfl, hb⟩ := hrel
    have bd1 := allTo_bd l t b k
    have bd2 := sureTo_bd l t b k
    by_cases hlt : k < n
    · obtain ⟨g, off, rfl, _, hg, hc, hd⟩ := (H.out.keep hb).at_ hlt
      have hb' := fun o => hb.alloc hb.size o
      have HB := Lib.hid hb'
      clear hb'
      by_cases c1 : dep l k < t
      · have E := Lib.hid (inR_out (l := l) (t := t) (b := b) (k := k) (by omega))
        go_wp2_with fail
        go_roundw
        case rel => exact ⟨k + 1, by omega, by go_num, by rw [E.out.2], by rw [E.out.1], HB.out _⟩
        case measure => simp [intOf]; omega
      · by_cases c2 : dep l k < b
        · cases hss : sur l k with
          | true =>
            have E := Lib.hid (inR_sure (l := l) (t := t) (b := b) (k := k) ⟨by omega, c2⟩ hss)
            rw [hss] at hd
            clear hss
            go_wp2_with fail
            go_roundw
            case rel => exact ⟨k + 1, by omega, by go_num, by rw [E.out.2], by rw [E.out.1], HB.out _⟩
            case measure => simp [intOf]; omega
          | false =>
            have E := Lib.hid (inR_unsure (l := l) (t := t) (b := b) (k := k) ⟨by omega, c2⟩ hss)
            rw [hss] at hd
            clear hss
            go_wp2_with fail
            go_roundw
            case rel => exact ⟨k + 1, by omega, by go_num, by rw [E.out.2], by rw [E.out.1], HB.out _⟩
            case measure => simp [intOf]; omega
        · have E := Lib.hid (inR_out (l := l) (t := t) (b := b) (k := k) (by omega))
          go_wp2_with fail
          go_roundw
          case rel => exact ⟨k + 1, by omega, by go_num, by rw [E.out.2], by rw [E.out.1], HB.out _⟩
          case measure => simp [intOf]; omega
    · obtain rfl : n = k := by omega
      go_wp2_with fail
      go_ret3
      exact ⟨rfl, hb⟩
theorem implCount_no (a : Option Addr) (n c lo : Nat) (l : List Lay) (t b : Int) (w : World) (h : LRow w lo a n c l) (hn : n ≤ 1048576) (ho : okL l = false ∨ okSpan t b = false) :
    Calls Try.prog 23 #[.slice a n c, .int .i64 t, .int .i64 b] w fun e w' => e = .returned (.tuple #[.int .i64 0, .int .i64 0, .bool false]) ∧ Below w.heap.size w w' := by
  cases hb : okL l with
  | false =>
    have HO := Lib.hid hb
    clear ho hb
    go_enter Try.func23, Try.ntmps23
    go_wp2_with fail
    refine (implValid_is HO.out h (by omega)).mono ?_
    rintro e w1 ⟨rfl, b1⟩
    go_wp2_with fail
    go_ret3
    exact ⟨rfl, b1⟩
  | true =>
    have HS : Hid (okSpan t b = false) := by
      rcases ho with h | h
      · rw [hb] at h; cases h
      · exact h
    have HO := Lib.hid hb
    clear ho hb
    go_enter Try.func23, Try.ntmps23
    go_wp2_with fail
    refine (implValid_is HO.out h (by omega)).mono ?_
    rintro e w1 ⟨rfl, b1⟩
    go_wp2_with fail
    refine (isSpan_is HS.out).mono ?_
    rintro e w' ⟨rfl, rfl⟩
    go_wp2_with fail
    go_ret3
    exact ⟨rfl, b1⟩

set_option maxHeartbeats 1000000 in
theorem specCount_ok (a : Option Addr) (n c lo : Nat) (l : List Lay) (t b : Int) (w : World) (h : LRow w lo a n c l) (ho : okL l = true) (hs : okSpan t b = true) :
    Calls Try.prog 22 #[.slice a n c, .int .i64 t, .int .i64 b] w fun e w' => e = .returned (.tuple #[.int .i64 (cSure l t b), .int .i64 (cAll l t b), .bool true]) ∧ Below w.heap.size w w' := by
  have hn := okL_len ho
  rw [h.len] at hn
  obtain ⟨hs1, hs2, hs3⟩ := okSpan_bd hs
  have H := Lib.hid h
  have HO := Lib.hid ho
  have E1 : Hid (cSure l t b = sureTo l t b n) := by show sureTo l t b l.length = _; rw [h.len]
  have E2 : Hid (cAll l t b = allTo l t b n) := by show allTo l t b l.length = _; rw [h.len]
  rw [E1.out, E2.out]
  clear h ho hs
  go_enter Try.func22, Try.ntmps22
  go_wp2_with fail
  refine (specValid_is HO.out H.out (by omega)).mono ?_
  rintro e w1 ⟨rfl, b1⟩
  go_wp2_with fail
  refine (depth_yes _ _ hs1 (by omega)).mono ?_
  rintro e w' ⟨rfl, rfl⟩
  go_wp2_with fail
  refine (in_yes _ _ _ _ hs2 hs3).mono ?_
  rintro e w' ⟨rfl, rfl⟩
  have H1 := Lib.hid (H.out.keep b1)
  go_wp2_with fail
  go_loop [9, 10, 11] (fun s x i => ∃ k : Nat, k ≤ n ∧ i = .int .i64 k ∧ s = .int .i64 (sureTo l t b k) ∧ x = .int .i64 (allTo l t b k)) (fun _ _ i => n - (intOf i).toNat)
  case atStart => exact ⟨0, Nat.zero_le _, rfl, rfl, rfl⟩
  case round =>
    obtain ⟨k, hk, rfl, rfl, rfl⟩ := hrel
    have bd1 := allTo_bd l t b k
    have bd2 := sureTo_bd l t b k
    by_cases hlt : k < n
    · obtain ⟨g, off, rfl, _, hg, hc, hd⟩ := H1.out.at_ hlt
      by_cases c1 : dep l k < t
      · have E := Lib.hid (inR_out (l := l) (t := t) (b := b) (k := k) (by omega))
        go_wp2_with fail
        go_round
        case rel => exact ⟨k + 1, by omega, by go_num, by rw [E.out.2], by rw [E.out.1]⟩
        case measure => simp [intOf]; omega
      · by_cases c2 : dep l k < b
        · cases hss : sur l k with
          | true =>
            have E := Lib.hid (inR_sure (l := l) (t := t) (b := b) (k := k) ⟨by omega, c2⟩ hss)
            rw [hss] at hd
            clear hss
            go_wp2_with fail
            go_round
            case rel => exact ⟨k + 1, by omega, by go_num, by rw [E.out.2], by rw [E.out.1]⟩
            case measure => simp [intOf]; omega
          | false =>
            have E := Lib.hid (inR_unsure (l := l) (t := t) (b := b) (k := k) ⟨by omega, c2⟩ hss)
            rw [hss] at hd
            clear hss
            go_wp2_with fail
            go_round
            case rel => exact ⟨k + 1, by omega, by go_num, by rw [E.out.2], by rw [E.out.1]⟩
            case measure => simp [intOf]; omega
        · have E := Lib.hid (inR_out (l := l) (t := t) (b := b) (k := k) (by omega))
          go_wp2_with fail
          go_round
          case rel => exact ⟨k + 1, by omega, by go_num, by rw [E.out.2], by rw [E.out.1]⟩
          case measure => simp [intOf]; omega
    · obtain rfl : n = k := by omega
      go_wp2_with fail
      go_ret3
      exact ⟨rfl, b1⟩
theorem specCount_no (a : Option Addr) (n c lo : Nat) (l : List Lay) (t b : Int) (w : World) (h : LRow w lo a n c l) (hn : n ≤ 1048576) (ho : okL l = false ∨ okSpan t b = false) :
    Calls Try.prog 22 #[.slice a n c, .int .i64 t, .int .i64 b] w fun e w' => e = .returned (.tuple #[.int .i64 0, .int .i64 0, .bool false]) ∧ Below w.heap.size w w' := by
  cases hb : okL l with
  | false =>
    have HO := Lib.hid hb
    clear ho hb
    go_enter Try.func22, Try.ntmps22
    go_wp2_with fail
    refine (specValid_is HO.out h (by omega)).mono ?_
    rintro e w1 ⟨rfl, b1⟩
    go_wp2_with fail
    go_ret3
    exact ⟨rfl, b1⟩
  | true =>
    have hs : okSpan t b = false := by
      rcases ho with h | h
      · rw [hb] at h; cases h
      · exact h
    have HO := Lib.hid hb
    clear ho hb
    have hs' : ¬ (0 ≤ t ∧ t ≤ b ∧ b ≤ 30000) := of_decide_eq_false hs
    by_cases h1 : 0 ≤ t ∧ t ≤ 30000
    · have HI : Hid (¬ (t ≤ b ∧ b ≤ 30000)) := fun hh => hs' ⟨h1.1, hh.1, hh.2⟩
      obtain ⟨h1, h2⟩ := h1
      clear hs hs'
      go_enter Try.func22, Try.ntmps22
      go_wp2_with fail
      refine (specValid_is HO.out h (by omega)).mono ?_
      rintro e w1 ⟨rfl, b1⟩
      go_wp2_with fail
      refine (depth_yes _ _ h1 h2).mono ?_
      rintro e w' ⟨rfl, rfl⟩
      go_wp2_with fail
      refine (in_no _ _ _ _ HI.out).mono ?_
      rintro e w' ⟨rfl, rfl⟩
      go_wp2_with fail
      go_ret3
      exact ⟨rfl, b1⟩
    · have HI := Lib.hid h1
      clear hs hs' h1
      go_enter Try.func22, Try.ntmps22
      go_wp2_with fail
      refine (specValid_is HO.out h (by omega)).mono ?_
      rintro e w1 ⟨rfl, b1⟩
      go_wp2_with fail
      refine (depth_no _ _ HI.out).mono ?_
      rintro e w' ⟨rfl, rfl⟩
      go_wp2_with fail
      go_ret3
      exact ⟨rfl, b1⟩

theorem ok_cases (l : List Lay) (t b : Int) : (okL l = true ∧ okSpan t b = true) ∨ (okL l = false ∨ okSpan t b = false) := by
  cases okL l <;> cases okSpan t b <;> simp
theorem c_bd {l : List Lay} (h : okL l = true) (t b : Int) : 0 ≤ cSure l t b ∧ cSure l t b ≤ cAll l t b ∧ cAll l t b ≤ 40 := by
  have a := cAll_bd l t b
  have c := cSure_bd l t b
  have d := okL_len h
  omega


theorem implHalf_ok (a : Option Addr) (n c lo : Nat) (l : List Lay) (t b : Int) (w : World) (h : LRow w lo a n c l) (ho : okL l = true) (hs : okSpan t b = true) :
    Calls Try.prog 25 #[.slice a n c, .int .i64 t, .int .i64 b] w fun e w' => e = .returned (.tuple #[.int .i64 (cSure l t b + cAll l t b), .bool true]) ∧ Below w.heap.size w w' := by
  have hbd := c_bd ho t b
  go_enter Try.func25, Try.ntmps25
  go_wp2_with fail
  refine (implCount_ok _ _ _ _ _ _ _ _ h ho hs).mono ?_
  rintro e w1 ⟨rfl, b1⟩
  go_wp2_with fail
  go_ret2
  exact ⟨rfl, b1⟩
theorem implHalf_no (a : Option Addr) (n c lo : Nat) (l : List Lay) (t b : Int) (w : World) (h : LRow w lo a n c l) (hn : n ≤ 1048576) (ho : okL l = false ∨ okSpan t b = false) :
    Calls Try.prog 25 #[.slice a n c, .int .i64 t, .int .i64 b] w fun e w' => e = .returned (.tuple #[.int .i64 0, .bool false]) ∧ Below w.heap.size w w' := by
  have HO := Lib.hid ho
  clear ho
  go_enter Try.func25, Try.ntmps25
  go_wp2_with fail
  refine (implCount_no _ _ _ _ _ _ _ _ h hn HO.out).mono ?_
  rintro e w1 ⟨rfl, b1⟩
  go_wp2_with fail
  go_ret2
  exact ⟨rfl, b1⟩

theorem specHalf_ok (a : Option Addr) (n c lo : Nat) (l : List Lay) (t b : Int) (w : World) (h : LRow w lo a n c l) (ho : okL l = true) (hs : okSpan t b = true) :
    Calls Try.prog 24 #[.slice a n c, .int .i64 t, .int .i64 b] w fun e w' => e = .returned (.tuple #[.int .i64 (cSure l t b + cAll l t b), .bool true]) ∧ Below w.heap.size w w' := by
  have hbd := c_bd ho t b
  go_enter Try.func24, Try.ntmps24
  go_wp2_with fail
  refine (specCount_ok _ _ _ _ _ _ _ _ h ho hs).mono ?_
  rintro e w1 ⟨rfl, b1⟩
  go_wp2_with fail
  go_ret2
  exact ⟨rfl, b1⟩
theorem specHalf_no (a : Option Addr) (n c lo : Nat) (l : List Lay) (t b : Int) (w : World) (h : LRow w lo a n c l) (hn : n ≤ 1048576) (ho : okL l = false ∨ okSpan t b = false) :
    Calls Try.prog 24 #[.slice a n c, .int .i64 t, .int .i64 b] w fun e w' => e = .returned (.tuple #[.int .i64 0, .bool false]) ∧ Below w.heap.size w w' := by
  have HO := Lib.hid ho
  clear ho
  go_enter Try.func24, Try.ntmps24
  go_wp2_with fail
  refine (specCount_no _ _ _ _ _ _ _ _ h hn HO.out).mono ?_
  rintro e w1 ⟨rfl, b1⟩
  go_wp2_with fail
  go_ret2
  exact ⟨rfl, b1⟩

theorem implAge_ok (a : Option Addr) (n c lo : Nat) (l : List Lay) (y d : Int) (w : World) (h : LRow w lo a n c l) (ho : okL l = true) (hs : okSpan 0 d = true) (h1 : -400000 ≤ y) (h2 : y ≤ 400000) :
    Calls Try.prog 27 #[.slice a n c, .int .i64 y, .int .i64 d] w fun e w' => e = .returned (.tuple #[.int .i64 (y + cSure l 0 d), .int .i64 (y + cAll l 0 d), .bool true]) ∧ Below w.heap.size w w' := by
  have hbd := c_bd ho 0 d
  go_enter Try.func27, Try.ntmps27
  go_wp2_with fail
  refine (implCount_ok _ _ _ _ _ 0 d _ h ho hs).mono ?_
  rintro e w1 ⟨rfl, b1⟩
  go_wp2_with fail
  go_ret3
  exact ⟨rfl, b1⟩
theorem implAge_no (a : Option Addr) (n c lo : Nat) (l : List Lay) (y d : Int) (w : World) (h : LRow w lo a n c l) (hn : n ≤ 1048576) (hno : ¬ (okL l = true ∧ okSpan 0 d = true ∧ -400000 ≤ y ∧ y ≤ 400000)) :
    Calls Try.prog 27 #[.slice a n c, .int .i64 y, .int .i64 d] w fun e w' => e = .returned (.tuple #[.int .i64 0, .int .i64 0, .bool false]) ∧ Below w.heap.size w w' := by
  rcases ok_cases l 0 d with ⟨ho, hs⟩ | ho
  · have hy : ¬ (-400000 ≤ y ∧ y ≤ 400000) := fun hh => hno ⟨ho, hs, hh⟩
    clear hno
    by_cases hy1 : y < -400000
    · clear hy
      go_enter Try.func27, Try.ntmps27
      go_wp2_with fail
      refine (implCount_ok _ _ _ _ _ 0 d _ h ho hs).mono ?_
      rintro e w1 ⟨rfl, b1⟩
      go_wp2_with fail
      go_ret3
      exact ⟨rfl, b1⟩
    · have hy2 : 400000 < y := by omega
      clear hy
      go_enter Try.func27, Try.ntmps27
      go_wp2_with fail
      refine (implCount_ok _ _ _ _ _ 0 d _ h ho hs).mono ?_
      rintro e w1 ⟨rfl, b1⟩
      go_wp2_with fail
      go_ret3
      exact ⟨rfl, b1⟩
  · have HO := Lib.hid ho
    clear ho hno
    go_enter Try.func27, Try.ntmps27
    go_wp2_with fail
    refine (implCount_no _ _ _ _ _ 0 d _ h hn HO.out).mono ?_
    rintro e w1 ⟨rfl, b1⟩
    go_wp2_with fail
    go_ret3
    exact ⟨rfl, b1⟩

theorem specAge_ok (a : Option Addr) (n c lo : Nat) (l : List Lay) (y d : Int) (w : World) (h : LRow w lo a n c l) (ho : okL l = true) (hs : okSpan 0 d = true) (h1 : -400000 ≤ y) (h2 : y ≤ 400000) :
    Calls Try.prog 26 #[.slice a n c, .int .i64 y, .int .i64 d] w fun e w' => e = .returned (.tuple #[.int .i64 (y + cSure l 0 d), .int .i64 (y + cAll l 0 d), .bool true]) ∧ Below w.heap.size w w' := by
  have hbd := c_bd ho 0 d
  go_enter Try.func26, Try.ntmps26
  go_wp2_with fail
  refine (specCount_ok _ _ _ _ _ 0 d _ h ho hs).mono ?_
  rintro e w1 ⟨rfl, b1⟩
  go_wp2_with fail
  refine (in_yes _ _ _ _ h1 h2).mono ?_
  rintro e w' ⟨rfl, rfl⟩
  go_wp2_with fail
  go_ret3
  exact ⟨rfl, b1⟩
theorem specAge_no (a : Option Addr) (n c lo : Nat) (l : List Lay) (y d : Int) (w : World) (h : LRow w lo a n c l) (hn : n ≤ 1048576) (hno : ¬ (okL l = true ∧ okSpan 0 d = true ∧ -400000 ≤ y ∧ y ≤ 400000)) :
    Calls Try.prog 26 #[.slice a n c, .int .i64 y, .int .i64 d] w fun e w' => e = .returned (.tuple #[.int .i64 0, .int .i64 0, .bool false]) ∧ Below w.heap.size w w' := by
  rcases ok_cases l 0 d with ⟨ho, hs⟩ | ho
  · have hy : ¬ (-400000 ≤ y ∧ y ≤ 400000) := fun hh => hno ⟨ho, hs, hh⟩
    clear hno
    have HI := Lib.hid hy
    clear hy
    go_enter Try.func26, Try.ntmps26
    go_wp2_with fail
    refine (specCount_ok _ _ _ _ _ 0 d _ h ho hs).mono ?_
    rintro e w1 ⟨rfl, b1⟩
    go_wp2_with fail
    refine (in_no _ _ _ _ HI.out).mono ?_
    rintro e w' ⟨rfl, rfl⟩
    go_wp2_with fail
    go_ret3
    exact ⟨rfl, b1⟩
  · have HO := Lib.hid ho
    clear ho hno
    go_enter Try.func26, Try.ntmps26
    go_wp2_with fail
    refine (specCount_no _ _ _ _ _ 0 d _ h hn HO.out).mono ?_
    rintro e w1 ⟨rfl, b1⟩
    go_wp2_with fail
    go_ret3
    exact ⟨rfl, b1⟩

end Go.Proofs.Ytbidnmjofljcnaa
