/- The walks of FnManyCuts, FnManyCutsFree, FnManyCutsLess. -/
import Derived.Test.YtlelnnooemachaaDraw2
import Derived.Test.YtlelnnooemachaaCutsLaw3
namespace Go.Proofs.Ytlelnnooemachaa
open Go.RowKit

/-- The narrow table of all cases that the draws reach, by reckoning. -/
def freeOk (n l m : Nat) : Bool := (Plain.ways 1 16 n == 2 ^ (n - 1)) && (Plain.ways l l n == (if n % l = 0 then 1 else 0)) && decide (Plain.ways l m n ≤ Plain.ways l (m + 1) n) && decide (Plain.ways (l + 1) m n ≤ Plain.ways l m n)
theorem free_all : ∀ n : Fin 17, ∀ l : Fin 4, ∀ m : Fin 7, 1 ≤ n.val → 1 ≤ l.val → l.val ≤ m.val → freeOk n.val l.val m.val = true := by decide +kernel
theorem free_at (n l m : Nat) (h1 : 1 ≤ n) (h2 : n ≤ 16) (h3 : 1 ≤ l) (h4 : l ≤ 3) (h5 : l ≤ m) (h6 : m ≤ 6) :
    Plain.ways 1 16 n = 2 ^ (n - 1) ∧ Plain.ways l l n = (if n % l = 0 then 1 else 0) ∧ Plain.ways l m n ≤ Plain.ways l (m + 1) n ∧ Plain.ways (l + 1) m n ≤ Plain.ways l m n := by
  have := free_all ⟨n, by omega⟩ ⟨l, by omega⟩ ⟨m, by omega⟩ h1 h3 h5
  simpa [freeOk, and_assoc] using this

theorem cm_none_neg {n l m : Int} (h : ¬ Plain.cm n l m < 0) : 1 ≤ n ∧ n ≤ 16 ∧ 1 ≤ l ∧ l ≤ m ∧ m ≤ 16 := by
  by_cases c : 1 ≤ n ∧ n ≤ 16 ∧ 1 ≤ l ∧ l ≤ m ∧ m ≤ 16
  · exact c
  · rw [Plain.cm_no _ _ _ c] at h; omega

theorem sumW_at (n l m i : Nat) (hl : 1 ≤ l) (h : l + i ≤ n + 1) : Plain.sumW (Plain.waysL l m n) (n + 1) l (i + 1) = Plain.sumW (Plain.waysL l m n) (n + 1) l i + Plain.ways l m (n + 1 - (l + i)) := by
  rw [Plain.sumW, Plain.waysL_at _ _ _ _ (by omega)]

set_option maxHeartbeats 1000000 in
theorem manyCuts_walk (a : Option Addr) (len c : Nat) (w : World) (h : BRow w w.heap.size a len) (hc : len ≤ c) (hn : len ≤ 9223372036854775807) :
    Calls Try.prog 6 #[.slice a len c] w fun e w' => e = .returned (.bool true) ∧ Below w.heap.size w w' := by
  by_cases hlen : 1048576 < len
  · go_enter Try.func6, Try.ntmps6
    go_wp2_with fail
    go_ret
    exact ⟨rfl, Below.refl _ _⟩
  · go_enter Try.func6, Try.ntmps6
    go_wp2_with fail
    refine (drawCuts_any _ _ _ _ h hc hn).mono ?_
    rintro e w1 ⟨n, l, m, h0, hl1, hl2, hm, rfl, b1⟩
    obtain ⟨r, hr⟩ : ∃ r, Plain.cm n l m = r := ⟨_, rfl⟩
    by_cases hneg : r < 0
    · have HR := Lib.hid hr
      clear hr
      go_wp2_with fail
      refine (implMany_is HR.out).mono ?_
      rintro e w2 ⟨rfl, b2⟩
      go_wp2_with fail
      refine (specMany_is HR.out).mono ?_
      rintro e w3 ⟨rfl, b3⟩
      go_wp2_with fail
      go_ret
      exact ⟨rfl, below2 (below2 b1 b2) b3⟩
    · obtain ⟨v1, v2, v3, v4, v5⟩ := cm_none_neg (n := n) (l := l) (m := m) (by rw [hr]; exact hneg)
      have HR := Lib.hid hr
      clear hr
      obtain ⟨q, rfl⟩ : ∃ q, n = q + 1 := ⟨n - 1, by omega⟩
      go_wp2_with fail
      refine (implMany_is HR.out).mono ?_
      rintro e w2 ⟨rfl, b2⟩
      go_wp2_with fail
      refine (specMany_is HR.out).mono ?_
      rintro e w3 ⟨rfl, b3⟩
      have b4 := below2 (below2 b1 b2) b3
      clear b1 b2 b3
      go_wp2_with fail
      go_loopw [8, 9] (fun s d wr => ∃ i : Nat, i ≤ min m (q + 1) + 1 - l ∧ s = .int .i64 (Plain.sumW (Plain.waysL l m q) (q + 1) l i) ∧ d = .int .i64 ((l : Int) + i) ∧ Below w.heap.size w wr) (fun _ d _ => 18 - (intOf d).toNat)
      case atStart => exact ⟨0, Nat.zero_le _, rfl, by simp, b4⟩
      case round =>
        clear b4
        obtain ⟨i, hi, rfl, rfl, hb⟩ := hrel
        have hs := Plain.sumW_le (Plain.waysL l m q) (q + 1) l (fun i hi => Plain.waysL_le l m (by omega) q i hi) (by omega) i
        by_cases hcn : l + i ≤ m ∧ l + i ≤ q + 1
        · obtain ⟨hc1, hc2⟩ := hcn
          have E := Lib.hid (sumW_at q l m i hl1 hc2)
          by_cases he : l + i = q + 1
          · have de : ((l : Int) + i == (q : Int) + 1) = true := by simp; omega
            have E2 : Hid (Plain.ways l m (q + 1 - (l + i)) = 1) := by
              show Plain.ways l m (q + 1 - (l + i)) = 1
              rw [he, Nat.sub_self]; rfl
            clear he
            go_wp2_with fail
            go_roundw
            case rel => exact ⟨i + 1, by omega, by rw [E.out, E2.out], by go_num, hb⟩
            case measure => simp [intOf]; omega
          · have de : ((l : Int) + i == (q : Int) + 1) = false := by simp; omega
            have HC : Hid (Plain.cm ((q : Int) + 1 - ((l : Int) + i)) l m = Plain.ways l m (q + 1 - (l + i))) := by
              show Plain.cm ((q : Int) + 1 - ((l : Int) + i)) l m = _
              rw [show ((q : Int) + 1 - ((l : Int) + i)) = ((q + 1 - (l + i) : Nat) : Int) by omega]
              exact Plain.cm_ok _ _ _ (by omega) (by omega) (by omega) (by omega) (by omega)
            have hwb := Plain.waysL_le l m hl1 (q + 1 - (l + i)) (q + 1 - (l + i)) (by omega)
            obtain ⟨x, hx⟩ : ∃ x, Plain.ways l m (q + 1 - (l + i)) = x := ⟨_, rfl⟩
            have hwb2 : 0 ≤ x ∧ x ≤ 65536 := by rw [← hx]; exact hwb
            rw [hx] at HC E
            clear hx hwb
            go_wp2_with fail
            refine (implMany_is HC.out).mono ?_
            rintro e w5 ⟨rfl, b5⟩
            have hb5 := hb.trans (b5.mono hb.size)
            go_wp2_with fail
            go_roundw
            case rel => exact ⟨i + 1, by omega, by rw [E.out], by go_num, hb5⟩
            case measure => simp [intOf]; omega
        · have e1 : i = min m (q + 1) + 1 - l := by omega
          have E : Hid (Plain.sumW (Plain.waysL l m q) (q + 1) l i = r) := by
            show Plain.sumW (Plain.waysL l m q) (q + 1) l i = r
            rw [← HR.out, e1, ← Plain.ways_succ]
            exact (Plain.cm_ok (q + 1) l m (by omega) (by omega) (by omega) (by omega) (by omega)).symm
          rw [E.out]
          clear e1
          by_cases hc1 : l + i ≤ m
          all_goals
            go_wp2_with fail
            go_ret
            exact ⟨rfl, hb⟩

set_option maxHeartbeats 1000000 in
theorem manyCutsLess_walk (a : Option Addr) (len c : Nat) (w : World) (h : BRow w w.heap.size a len) (hc : len ≤ c) (hn : len ≤ 9223372036854775807) :
    Calls Try.prog 8 #[.slice a len c] w fun e w' => e = .returned (.bool true) ∧ Below w.heap.size w w' := by
  by_cases hlen : 1048576 < len
  · go_enter Try.func8, Try.ntmps8
    go_wp2_with fail
    go_ret
    exact ⟨rfl, Below.refl _ _⟩
  · go_enter Try.func8, Try.ntmps8
    go_wp2_with fail
    refine (drawCuts_any _ _ _ _ h hc hn).mono ?_
    rintro e w1 ⟨n, l, m, h0, hl1, hl2, hm, rfl, b1⟩
    obtain ⟨r, hr⟩ : ∃ r, Plain.cm n l m = r := ⟨_, rfl⟩
    by_cases hneg : r < 0
    · have HR := Lib.hid hr
      clear hr
      go_wp2_with fail
      refine (implMany_is HR.out).mono ?_
      rintro e w2 ⟨rfl, b2⟩
      go_wp2_with fail
      refine (specMany_is HR.out).mono ?_
      rintro e w3 ⟨rfl, b3⟩
      go_wp2_with fail
      go_ret
      exact ⟨rfl, below2 (below2 b1 b2) b3⟩
    · obtain ⟨v1, v2, v3, v4, v5⟩ := cm_none_neg (n := n) (l := l) (m := m) (by rw [hr]; exact hneg)
      have HR := Lib.hid hr
      obtain ⟨x, hx⟩ : ∃ x, Plain.cm n ((l : Int) + 1) m = x := ⟨_, rfl⟩
      have hle : x ≤ r := by
        have f := (free_at n l m (by omega) (by omega) hl1 hl2 (by omega) (by omega)).2.2.2
        rw [← hx, ← hr, Plain.cm_ok n l m (by omega) (by omega) (by omega) (by omega) (by omega)]
        by_cases hlm : l < m
        · rw [show ((l : Int) + 1) = ((l + 1 : Nat) : Int) by omega, Plain.cm_ok n (l + 1) m (by omega) (by omega) (by omega) (by omega) (by omega)]
          exact f
        · rw [Plain.cm_no _ _ _ (by omega)]
          have := (Plain.waysL_le l m hl1 n n (by omega)).1
          have e : Plain.ways l m n = ((Plain.waysL l m n)[n]?).getD 0 := rfl
          omega
      have hlast : l < m ∨ x = -1 := by
        by_cases hlm : l < m
        · exact .inl hlm
        · refine .inr ?_
          rw [← hx, Plain.cm_no _ _ _ (by omega)]
      have HX := Lib.hid hx
      clear hr hx
      go_wp2_with fail
      refine (implMany_is HR.out).mono ?_
      rintro e w2 ⟨rfl, b2⟩
      go_wp2_with fail
      refine (specMany_is HR.out).mono ?_
      rintro e w3 ⟨rfl, b3⟩
      go_wp2_with fail
      refine (implMany_is HX.out).mono ?_
      rintro e w4 ⟨rfl, b4⟩
      have b5 := below2 (below2 (below2 b1 b2) b3) b4
      by_cases hlm : l < m
      · clear hlast
        go_wp2_with fail
        go_ret
        exact ⟨rfl, b5⟩
      · obtain rfl : x = -1 := by omega
        clear hlast
        go_wp2_with fail
        go_ret
        exact ⟨rfl, b5⟩

end Go.Proofs.Ytlelnnooemachaa
