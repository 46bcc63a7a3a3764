/- The two checks of records. -/
import Derived.Test.YtdcmlmdoiekdfaaEdge
namespace Go.Proofs.Ytdcmlmdoiekdfaa
open Go.RowKit

theorem okR_no1 {es am : List Int} (h : okE es = false) : okR es am = false := decide_eq_false fun hh => by rw [h] at hh; exact absurd hh.1 (by simp)
theorem okR_no2 {es am : List Int} (h : ¬ am.length + 1 = es.length) : okR es am = false := decide_eq_false fun hh => h hh.2.1
theorem okR_no3 {es am : List Int} {k : Nat} (hk : k < am.length) (h : ¬ (0 ≤ nth am k ∧ nth am k ≤ 10000)) : okR es am = false := decide_eq_false fun hh => h (okA_at hh.2.2 hk)
def AmTo (l : List Int) (k : Nat) : Prop := ∀ j, j < k → 0 ≤ nth l j ∧ nth l j ≤ 10000
theorem AmTo.succ {l : List Int} {k : Nat} (h : AmTo l k) (h1 : 0 ≤ nth l k) (h2 : nth l k ≤ 10000) : AmTo l (k + 1) := fun j hj => by
  by_cases e : j = k
  · subst e; exact ⟨h1, h2⟩
  · exact h j (by omega)

set_option maxHeartbeats 1000000 in
theorem implRV_any (a : Option Addr) (n c lo : Nat) (es : List Int) (a' : Option Addr) (n' c' lo' : Nat) (am : List Int) (w : World) (h : IRow w lo a n c es) (h' : IRow w lo' a' n' c' am) (hn : n ≤ 1048576) (hn' : n' ≤ 1048576) :
    Calls Try.prog 12 #[.slice a n c, .slice a' n' c'] w fun e w' => e = .returned (.bool (okR es am)) ∧ Below w.heap.size w w' := by
  have H := Lib.hid h
  have H' := Lib.hid h'
  have hl := h.len
  have hl' := h'.len
  clear h h'
  cases ho : okE es with
  | false =>
    have HO := Lib.hid ho
    rw [okR_no1 ho]
    clear ho
    go_enter Try.func12, Try.ntmps12
    go_wp2_with fail
    refine (implEdges_is HO.out H.out hn).mono ?_
    rintro e w1 ⟨rfl, b1⟩
    go_wp2_with fail
    go_ret
    exact ⟨rfl, b1⟩
  | true =>
    have HO := Lib.hid ho
    clear ho
    by_cases hlen : n' + 1 = n
    · subst hlen
      have HL : Hid (am.length + 1 = es.length) := by show _ = _; omega
      clear hl
      have dl : ((n' : Int) == (n' : Int) + 1 - 1) = true := beq_iff_eq.2 (by omega)
      go_enter Try.func12, Try.ntmps12
      go_wp2_with fail
      refine (implEdges_is HO.out H.out hn).mono ?_
      rintro e w1 ⟨rfl, b1⟩
      go_wp2_with fail
      go_loopw [20] (fun i wr => ∃ k : Nat, k ≤ n' ∧ i = .int .i64 k ∧ AmTo am k ∧ Below w.heap.size w wr) (fun i _ => n' - (intOf i).toNat)
      case atStart => exact ⟨0, Nat.zero_le _, rfl, fun j hj => by omega, b1⟩
      case round =>
        clear b1
        obtain ⟨k, hk, rfl, hto, hb⟩ := hrel
        by_cases hlt : k < n'
        · obtain ⟨g, off, rfl, _, hg, hc⟩ := (H'.out.keep hb).at_ hlt
          obtain ⟨z, hz⟩ : ∃ z, nth am k = z := ⟨_, rfl⟩
          by_cases hd : 0 ≤ nth am k ∧ nth am k ≤ 10000
          · have hs := hto.succ hd.1 hd.2
            rw [hz] at hc hd
            obtain ⟨z0, z1⟩ := hd
            clear hz
            go_wp2_with fail
            go_roundw
            case rel => exact ⟨k + 1, by omega, by go_num, hs, hb⟩
            case measure => simp [intOf]; omega
          · have HN := Lib.hid (okR_no3 (es := es) (am := am) (k := k) (by rw [hl']; exact hlt) hd)
            rw [hz] at hc hd
            clear hz
            by_cases z0 : 0 ≤ z
            · have z1 : 10000 < z := by omega
              clear hd
              go_wp2_with fail
              go_ret
              exact ⟨ret_bool HN.out.symm, hb⟩
            · clear hd
              go_wp2_with fail
              go_ret
              exact ⟨ret_bool HN.out.symm, hb⟩
        · obtain rfl : n' = k := by omega
          have HN := Lib.hid (okR_mk HO.out HL.out (decide_eq_true (fun j hj => hto j (by rwa [hl'] at hj))))
          go_wp2_with fail
          go_ret
          exact ⟨ret_bool HN.out.symm, hb⟩
    · rw [okR_no2 (by omega)]
      have dl : ((n' : Int) == (n : Int) - 1) = false := beq_eq_false_iff_ne.2 (by omega)
      clear hl hl'
      go_enter Try.func12, Try.ntmps12
      go_wp2_with fail
      refine (implEdges_is HO.out H.out hn).mono ?_
      rintro e w1 ⟨rfl, b1⟩
      go_wp2_with fail
      go_ret
      exact ⟨rfl, b1⟩
theorem implRV_is {a : Option Addr} {n c lo : Nat} {es : List Int} {a' : Option Addr} {n' c' lo' : Nat} {am : List Int} {w : World} {r : Bool} (hr : okR es am = r) (h : IRow w lo a n c es) (h' : IRow w lo' a' n' c' am) (hn : n ≤ 1048576) (hn' : n' ≤ 1048576) :
    Calls Try.prog 12 #[.slice a n c, .slice a' n' c'] w fun e w' => e = .returned (.bool r) ∧ Below w.heap.size w w' := by
  subst hr; exact implRV_any _ _ _ _ _ _ _ _ _ _ _ h h' hn hn'

set_option maxHeartbeats 1000000 in
theorem specRV_any (a : Option Addr) (n c lo : Nat) (es : List Int) (a' : Option Addr) (n' c' lo' : Nat) (am : List Int) (w : World) (h : IRow w lo a n c es) (h' : IRow w lo' a' n' c' am) (hn : n ≤ 1048576) (hn' : n' ≤ 1048576) :
    Calls Try.prog 25 #[.slice a n c, .slice a' n' c'] w fun e w' => e = .returned (.bool (okR es am)) ∧ Below w.heap.size w w' := by
  have H := Lib.hid h
  have H' := Lib.hid h'
  have hl := h.len
  have hl' := h'.len
  clear h h'
  cases ho : okE es with
  | false =>
    have HO := Lib.hid ho
    rw [okR_no1 ho]
    clear ho
    go_enter Try.func25, Try.ntmps25
    go_wp2_with fail
    refine (specEdges_is HO.out H.out hn).mono ?_
    rintro e w1 ⟨rfl, b1⟩
    go_wp2_with fail
    go_ret
    exact ⟨rfl, b1⟩
  | true =>
    have HO := Lib.hid ho
    clear ho
    by_cases hlen : n' + 1 = n
    · subst hlen
      have HL : Hid (am.length + 1 = es.length) := by show _ = _; omega
      clear hl
      have dl : ((n' : Int) == (n' : Int) + 1 - 1) = true := beq_iff_eq.2 (by omega)
      go_enter Try.func25, Try.ntmps25
      go_wp2_with fail
      refine (specEdges_is HO.out H.out hn).mono ?_
      rintro e w1 ⟨rfl, b1⟩
      go_wp2_with fail
      go_loopw [5] (fun i wr => ∃ k : Nat, k ≤ n' ∧ i = .int .i64 k ∧ AmTo am k ∧ Below w.heap.size w wr) (fun i _ => n' - (intOf i).toNat)
      case atStart => exact ⟨0, Nat.zero_le _, rfl, fun j hj => by omega, b1⟩
      case round =>
        clear b1
        obtain ⟨k, hk, rfl, hto, hb⟩ := hrel
        by_cases hlt : k < n'
        · obtain ⟨g, off, rfl, _, hg, hc⟩ := (H'.out.keep hb).at_ hlt
          obtain ⟨z, hz⟩ : ∃ z, nth am k = z := ⟨_, rfl⟩
          by_cases hd : 0 ≤ nth am k ∧ nth am k ≤ 10000
          · have hs := hto.succ hd.1 hd.2
            rw [hz] at hc hd
            clear hz
            go_wp2_with fail
            refine (in_yes _ _ _ _ hd.1 hd.2).mono ?_
            rintro e w2 ⟨rfl, rfl⟩
            go_wp2_with fail
            go_roundw
            case rel => exact ⟨k + 1, by omega, by go_num, hs, hb⟩
            case measure => simp [intOf]; omega
          · have HN := Lib.hid (okR_no3 (es := es) (am := am) (k := k) (by rw [hl']; exact hlt) hd)
            rw [hz] at hc hd
            have HD := Lib.hid hd
            clear hz hd
            go_wp2_with fail
            refine (in_no _ _ _ _ HD.out).mono ?_
            rintro e w2 ⟨rfl, rfl⟩
            go_wp2_with fail
            go_ret
            exact ⟨ret_bool HN.out.symm, hb⟩
        · obtain rfl : n' = k := by omega
          have HN := Lib.hid (okR_mk HO.out HL.out (decide_eq_true (fun j hj => hto j (by rwa [hl'] at hj))))
          go_wp2_with fail
          go_ret
          exact ⟨ret_bool HN.out.symm, hb⟩
    · rw [okR_no2 (by omega)]
      have dl : ((n' : Int) == (n : Int) - 1) = false := beq_eq_false_iff_ne.2 (by omega)
      clear hl hl'
      go_enter Try.func25, Try.ntmps25
      go_wp2_with fail
      refine (specEdges_is HO.out H.out hn).mono ?_
      rintro e w1 ⟨rfl, b1⟩
      go_wp2_with fail
      go_ret
      exact ⟨rfl, b1⟩
theorem specRV_is {a : Option Addr} {n c lo : Nat} {es : List Int} {a' : Option Addr} {n' c' lo' : Nat} {am : List Int} {w : World} {r : Bool} (hr : okR es am = r) (h : IRow w lo a n c es) (h' : IRow w lo' a' n' c' am) (hn : n ≤ 1048576) (hn' : n' ≤ 1048576) :
    Calls Try.prog 25 #[.slice a n c, .slice a' n' c'] w fun e w' => e = .returned (.bool r) ∧ Below w.heap.size w w' := by
  subst hr; exact specRV_any _ _ _ _ _ _ _ _ _ _ _ h h' hn hn'

end Go.Proofs.Ytdcmlmdoiekdfaa
