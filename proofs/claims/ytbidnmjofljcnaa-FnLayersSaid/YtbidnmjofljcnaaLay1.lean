/- Walks of the two versions of LayersValid. -/
import Derived.Test.YtbidnmjofljcnaaLBase
namespace Go.Proofs.Ytbidnmjofljcnaa
open Go.RowKit

theorem quiet_add_same {P : Program} {f : FuncId} {args : Array Value} {w : World} {a n : Nat} {v : Value}
    (h : Calls P f args (w.drewN (a + n)) fun e w' => e = .returned v ∧ w' = w.drewN (a + n)) :
    Calls P f args (w.drewN (a + n)) fun e w'' => e = .returned v ∧ ∃ m, w'' = w.drewN (a + m) :=
  h.mono fun _ _ ⟨he, hm⟩ => ⟨he, n, hm⟩

def LayTo (l : List Lay) (k : Nat) : Prop := ∀ j, j < k → 0 ≤ dep l j ∧ dep l j ≤ 30000 ∧ (0 < j → dep l (j - 1) < dep l j)
theorem LayTo.succ {l : List Lay} {k : Nat} (h : LayTo l k) (h1 : 0 ≤ dep l k) (h2 : dep l k ≤ 30000) (h3 : 0 < k → dep l (k - 1) < dep l k) : LayTo l (k + 1) := fun j hj => by
  by_cases e : j = k
  · subst e; exact ⟨h1, h2, h3⟩
  · exact h j (by omega)

set_option maxHeartbeats 1000000 in
theorem specValid_any (a : Option Addr) (n c lo : Nat) (l : List Lay) (w : World) (h : LRow w lo a n c l) (hn : n ≤ 1048576) :
    Calls Try.prog 16 #[.slice a n c] w fun e w' => e = .returned (.bool (okL l)) ∧ ∃ m, w' = w.drewN m := by
  have H := Lib.hid h
  clear h
  go_enter Try.func16, Try.ntmps16
  go_wp2_with fail
  go_loopw [3] (fun i wr => ∃ k m : Nat, k ≤ n ∧ i = .int .i64 k ∧ LayTo l k ∧ wr = w.drewN m) (fun i _ => n - (intOf i).toNat)
  case atStart => exact ⟨0, 0, Nat.zero_le _, rfl, fun j hj => by omega, rfl⟩
  case round =>
    obtain ⟨k, m, hk, rfl, hto, rfl⟩ := hrel
    by_cases hlt : k < n
    · obtain ⟨g, off, rfl, _, hg, hc, hc'⟩ := H.out.at_ hlt
      have n1 : (0 : Int) ≤ k := by omega
      have n2 : (k : Int) < n := by omega
      by_cases hd : 0 ≤ dep l k ∧ dep l k ≤ 30000
      · have HD : Hid (∀ W : World, Calls Try.prog 31 #[.int .i64 (dep l k)] W fun e w' => e = .returned (.bool true) ∧ w' = W) := fun W => by
          have := depth_is (x := dep l k) (w := W); rw [decide_eq_true hd] at this; exact this
        by_cases h0 : k = 0
        · subst h0
          have hc0 : w.cell? ⟨g, off, none⟩ = some (.int .i64 (dep l 0)) := by simpa using hc
          have hs := hto.succ hd.1 hd.2 (fun h => absurd h (by omega))
          clear hd
          go_wp2_with fail
          go_quiet ((go_at_call 31; exact quiet_add_same (HD.out _)))
          clear n1 n2
          go_wp2_with fail
          go_roundw
          case rel => exact ⟨0 + 1, _, by omega, by go_num, hs, rfl⟩
          case measure => simp [intOf]; omega
        · obtain ⟨j, rfl⟩ : ∃ j, k = j + 1 := ⟨k - 1, by omega⟩
          have hp := (H.out.cellAt (k := j) (by omega)).1
          have d0 : decide ((0 : Int) < (j : Int) + 1) = true := decide_eq_true (by omega)
          have n3 : (0 : Int) ≤ j := by omega
          have n4 : (j : Int) < n := by omega
          have s3 : IntKind.i64.wrap ((j : Int) + 1 - 1) = (j : Int) := by rw [IntWalk.i64_in _ (by omega)]; omega
          have s4 : ((j : Int) + 1).toNat = j + 1 := by omega
          have s5 : (0 : Int) < (j : Int) + 1 := by omega
          obtain ⟨x, hx⟩ : ∃ x, dep l (j + 1) = x := ⟨_, rfl⟩
          obtain ⟨y, hy⟩ : ∃ y, dep l j = y := ⟨_, rfl⟩
          by_cases hlt2 : dep l j < dep l (j + 1)
          · have hs := hto.succ hd.1 hd.2 (fun _ => hlt2)
            rw [hx] at hc HD hlt2
            rw [hy] at hp hlt2
            have d1 : decide (x ≤ y) = false := by simp; omega
            clear hd hx hy h0
            go_wp2_with fail
            go_quiet ((go_at_call 31; exact quiet_add_same (HD.out _)))
            clear n1 n2 n3 n4 s3 s4 s5 d0 d1
            go_wp2_with fail
            go_roundw
            case rel => exact ⟨j + 1 + 1, _, by omega, by go_num, hs, rfl⟩
            case measure => simp [intOf]; omega
          · have HN := Lib.hid (okL_no_at (l := l) (j + 1) (by rw [H.out.len]; exact hlt) (fun h => hlt2 (h.2.2 (by omega))))
            rw [hx] at hc HD hlt2
            rw [hy] at hp hlt2
            have d1 : decide (x ≤ y) = true := by simp; omega
            clear hd hx hy h0
            go_wp2_with fail
            go_quiet ((go_at_call 31; exact quiet_add_same (HD.out _)))
            clear n1 n2 n3 n4 s3 s4 s5 d0
            go_wp2_with fail
            go_ret
            exact ⟨ret_bool HN.out.symm, _, World.drewN_drewN _ _ _⟩
      · have HD : Hid (∀ W : World, Calls Try.prog 31 #[.int .i64 (dep l k)] W fun e w' => e = .returned (.bool false) ∧ w' = W) := fun W => by
          have := depth_is (x := dep l k) (w := W); rw [decide_eq_false hd] at this; exact this
        have HN := Lib.hid (okL_no_at (l := l) k (by rw [H.out.len]; exact hlt) (fun h => hd ⟨h.1, h.2.1⟩))
        clear hd
        go_wp2_with fail
        go_quiet ((go_at_call 31; exact quiet_add_same (HD.out _)))
        clear n1 n2
        go_wp2_with fail
        go_ret
        exact ⟨ret_bool HN.out.symm, _, World.drewN_drewN _ _ _⟩
    · obtain rfl : n = k := by omega
      by_cases h1 : n ≤ 40
      · have HN := Lib.hid (okL_mk (l := l) (by rw [H.out.len]; exact h1) (fun j hj => hto j (by rwa [H.out.len] at hj)))
        go_wp2_with fail
        go_ret
        exact ⟨ret_bool (by rw [HN.out]; simp; omega), m, rfl⟩
      · have HN := Lib.hid (okL_no_len (l := l) (by rw [H.out.len]; exact h1))
        go_wp2_with fail
        go_ret
        exact ⟨ret_bool (by rw [HN.out]; simp; omega), m, rfl⟩

theorem specValid_is {a : Option Addr} {n c lo : Nat} {l : List Lay} {w : World} {b : Bool} (hb : okL l = b) (h : LRow w lo a n c l) (hn : n ≤ 1048576) :
    Calls Try.prog 16 #[.slice a n c] w fun e w' => e = .returned (.bool b) ∧ Below w.heap.size w w' := by
  subst hb
  exact (specValid_any a n c lo l w h hn).mono fun _ _ ⟨he, m, hw⟩ => ⟨he, by rw [hw]; exact below_new _ _⟩

set_option maxHeartbeats 1000000 in
theorem implValid_any (a : Option Addr) (n c lo : Nat) (l : List Lay) (w : World) (h : LRow w lo a n c l) (hn : n ≤ 1048576) :
    Calls Try.prog 18 #[.slice a n c] w fun e w' => e = .returned (.bool (okL l)) ∧ Below w.heap.size w w' := by
  have H := Lib.hid h
  clear h
  go_enter Try.func18, Try.ntmps18
  go_wp2_with fail
  go_loopw [7] (fun i wr => ∃ k : Nat, k ≤ n ∧ i = .int .i64 k ∧ LayTo l k ∧ Below w.heap.size w wr) (fun i _ => n - (intOf i).toNat)
  case atStart => exact ⟨0, Nat.zero_le _, rfl, fun j hj => by omega, Below.refl _ _⟩
  case round =>
    obtain ⟨k, hk, rfl, hto, hb⟩ := hrel
    by_cases hlt : k < n
    · obtain ⟨g, off, rfl, _, hg, hc, hc'⟩ := (H.out.keep hb).at_ hlt
      have n1 : (0 : Int) ≤ k := by omega
      have n2 : (k : Int) < n := by omega
      by_cases hd : 0 ≤ dep l k ∧ dep l k ≤ 30000
      · have HD : Hid (∀ W : World, Calls Try.prog 33 #[.int .i64 (dep l k)] W fun e w' => e = .returned (.bool true) ∧ w' = W) := fun W => by
          have := isDepth_is (x := dep l k) (w := W); rw [decide_eq_true hd] at this; exact this
        by_cases h0 : k = 0
        · have hs := hto.succ hd.1 hd.2 (fun h => absurd h (by omega))
          have d0 : decide ((0 : Int) < (k : Int)) = false := decide_eq_false (by omega)
          have d0' : decide (0 < k) = false := decide_eq_false (by omega)
          clear hd h0
          go_wp2_with fail
          go_quiet ((go_at_call 33; exact Calls.quiet_of_same (HD.out _)))
          clear n1 n2 d0 d0'
          go_wp2_with fail
          go_roundw
          case rel => exact ⟨k + 1, by omega, by go_num, hs, below_drewN (hb.alloc hb.size _) _⟩
          case measure => simp [intOf]; omega
        · obtain ⟨j, rfl⟩ : ∃ j, k = j + 1 := ⟨k - 1, by omega⟩
          have hp := ((H.out.keep hb).cellAt (k := j) (by omega)).1
          have d0 : decide ((0 : Int) < (j : Int) + 1) = true := decide_eq_true (by omega)
          have n3 : (0 : Int) ≤ j := by omega
          have n4 : (j : Int) < n := by omega
          have s3 : IntKind.i64.wrap ((j : Int) + 1 - 1) = (j : Int) := by rw [IntWalk.i64_in _ (by omega)]; omega
          have s4 : ((j : Int) + 1).toNat = j + 1 := by omega
          have s5 : (0 : Int) < (j : Int) + 1 := by omega
          obtain ⟨x, hx⟩ : ∃ x, dep l (j + 1) = x := ⟨_, rfl⟩
          obtain ⟨y, hy⟩ : ∃ y, dep l j = y := ⟨_, rfl⟩
          have hp' : (wr.alloc (.cells #[.int .i64 (dep l (j + 1)), .bool (sur l (j + 1))] 32)).cell? ⟨g, off + j * 2, none⟩ = some (.int .i64 (dep l j)) := (World.cell?_alloc_lt wr _ ⟨g, off + j * 2, none⟩ hg).trans hp
          by_cases hlt2 : dep l j < dep l (j + 1)
          · have hs := hto.succ hd.1 hd.2 (fun _ => hlt2)
            rw [hx] at hc HD hlt2 hp'
            rw [hy] at hp hlt2 hp'
            have d1 : decide (x ≤ y) = false := by simp; omega
            clear hd hx hy h0
            go_wp2_with fail
            go_quiet ((go_at_call 33; exact Calls.quiet_of_same (HD.out _)))
            clear n1 n2 n3 n4 s3 s4 s5 d0 d1 hp hp'
            go_wp2_with fail
            go_roundw
            case rel => exact ⟨j + 1 + 1, by omega, by go_num, hs, below_drewN (hb.alloc hb.size _) _⟩
            case measure => simp [intOf]; omega
          · have HN := Lib.hid (okL_no_at (l := l) (j + 1) (by rw [H.out.len]; exact hlt) (fun h => hlt2 (h.2.2 (by omega))))
            rw [hx] at hc HD hlt2 hp'
            rw [hy] at hp hlt2 hp'
            have d1 : decide (x ≤ y) = true := by simp; omega
            clear hd hx hy h0
            go_wp2_with fail
            go_quiet ((go_at_call 33; exact Calls.quiet_of_same (HD.out _)))
            clear n1 n2 n3 n4 s3 s4 s5 d0 hp hp'
            go_wp2_with fail
            go_ret
            exact ⟨ret_bool HN.out.symm, below_drewN (hb.alloc hb.size _) _⟩
      · have HD : Hid (∀ W : World, Calls Try.prog 33 #[.int .i64 (dep l k)] W fun e w' => e = .returned (.bool false) ∧ w' = W) := fun W => by
          have := isDepth_is (x := dep l k) (w := W); rw [decide_eq_false hd] at this; exact this
        have HN := Lib.hid (okL_no_at (l := l) k (by rw [H.out.len]; exact hlt) (fun h => hd ⟨h.1, h.2.1⟩))
        clear hd
        go_wp2_with fail
        go_quiet ((go_at_call 33; exact Calls.quiet_of_same (HD.out _)))
        clear n1 n2
        go_wp2_with fail
        go_ret
        exact ⟨ret_bool HN.out.symm, below_drewN (hb.alloc hb.size _) _⟩
    · obtain rfl : n = k := by omega
      by_cases h1 : n ≤ 40
      · have HN := Lib.hid (okL_mk (l := l) (by rw [H.out.len]; exact h1) (fun j hj => hto j (by rwa [H.out.len] at hj)))
        go_wp2_with fail
        go_ret
        exact ⟨ret_bool (by rw [HN.out]; simp; omega), hb⟩
      · have HN := Lib.hid (okL_no_len (l := l) (by rw [H.out.len]; exact h1))
        go_wp2_with fail
        go_ret
        exact ⟨ret_bool (by rw [HN.out]; simp; omega), hb⟩
theorem implValid_is {a : Option Addr} {n c lo : Nat} {l : List Lay} {w : World} {b : Bool} (hb : okL l = b) (h : LRow w lo a n c l) (hn : n ≤ 1048576) :
    Calls Try.prog 18 #[.slice a n c] w fun e w' => e = .returned (.bool b) ∧ Below w.heap.size w w' := by
  subst hb; exact implValid_any a n c lo l w h hn

end Go.Proofs.Ytbidnmjofljcnaa
