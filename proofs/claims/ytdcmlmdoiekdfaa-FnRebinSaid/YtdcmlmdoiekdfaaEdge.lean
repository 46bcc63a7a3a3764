/- The two checks of edges; of depths and spans. -/
import Derived.Test.YtdcmlmdoiekdfaaBase
import Derived.Test.YtdcmlmdoiekdfaaFracPlain
namespace Go.Proofs.Ytdcmlmdoiekdfaa
open Go.RowKit

theorem quiet_add_same {P : Program} {f : FuncId} {args : Array Value} {w : World} {a n : Nat} {v : Value}
    (h : Calls P f args (w.drewN (a + n)) fun e w' => e = .returned v ∧ w' = w.drewN (a + n)) :
    Calls P f args (w.drewN (a + n)) fun e w'' => e = .returned v ∧ ∃ m, w'' = w.drewN (a + m) :=
  h.mono fun _ _ ⟨he, hm⟩ => ⟨he, n, hm⟩

theorem depth_yes (x : Int) (w : World) (h1 : 0 ≤ x) (h2 : x ≤ 30000) : Calls Try.prog 23 #[.int .i64 x] w fun e w' => e = .returned (.bool true) ∧ w = w' := by
  go_enter Try.func23, Try.ntmps23
  go_wp2_with fail
  refine (in_yes _ _ _ _ h1 h2).mono ?_
  rintro e w' ⟨rfl, rfl⟩
  go_wp2_with fail
  go_ret
  exact ⟨rfl, rfl⟩
theorem depth_no (x : Int) (w : World) (h : ¬ (0 ≤ x ∧ x ≤ 30000)) : Calls Try.prog 23 #[.int .i64 x] w fun e w' => e = .returned (.bool false) ∧ w = w' := by
  have H := Lib.hid h
  clear h
  go_enter Try.func23, Try.ntmps23
  go_wp2_with fail
  refine (in_no _ _ _ _ H.out).mono ?_
  rintro e w' ⟨rfl, rfl⟩
  go_wp2_with fail
  go_ret
  exact ⟨rfl, rfl⟩
theorem depth_is {x : Int} {w : World} : Calls Try.prog 23 #[.int .i64 x] w fun e w' => e = .returned (.bool (decide (0 ≤ x ∧ x ≤ 30000))) ∧ w' = w := by
  by_cases h : 0 ≤ x ∧ x ≤ 30000
  · rw [decide_eq_true h]; exact (depth_yes x w h.1 h.2).mono fun _ _ ⟨a, b⟩ => ⟨a, b.symm⟩
  · rw [decide_eq_false h]; exact (depth_no x w h).mono fun _ _ ⟨a, b⟩ => ⟨a, b.symm⟩
theorem isDepth_is {x : Int} {w : World} : Calls Try.prog 22 #[.int .i64 x] w fun e w' => e = .returned (.bool (decide (0 ≤ x ∧ x ≤ 30000))) ∧ w' = w := by
  by_cases h1 : 0 ≤ x
  · by_cases h2 : x ≤ 30000
    · rw [decide_eq_true ⟨h1, h2⟩]
      go_enter Try.func22, Try.ntmps22
      go_wp2_with fail
      go_ret
      exact ⟨rfl, rfl⟩
    · rw [decide_eq_false (fun h => h2 h.2)]
      go_enter Try.func22, Try.ntmps22
      go_wp2_with fail
      go_ret
      exact ⟨rfl, rfl⟩
  · rw [decide_eq_false (fun h => h1 h.1)]
    go_enter Try.func22, Try.ntmps22
    go_wp2_with fail
    go_ret
    exact ⟨rfl, rfl⟩

def okSpan (t b : Int) : Bool := decide (0 ≤ t ∧ t ≤ b ∧ b ≤ 30000)
theorem okSpan_bd {t b : Int} (h : okSpan t b = true) : 0 ≤ t ∧ t ≤ b ∧ b ≤ 30000 := of_decide_eq_true h
theorem okSpan_mk {t b : Int} (h1 : 0 ≤ t) (h2 : t ≤ b) (h3 : b ≤ 30000) : okSpan t b = true := decide_eq_true ⟨h1, h2, h3⟩

theorem isSpan_any (t b : Int) (w : World) : Calls Try.prog 18 #[.int .i64 t, .int .i64 b] w fun e w' => e = .returned (.bool (okSpan t b)) ∧ w = w' := by
  by_cases h1 : 0 ≤ t ∧ t ≤ 30000
  · have H1 : Hid (∀ W : World, Calls Try.prog 22 #[.int .i64 t] W fun e w' => e = .returned (.bool true) ∧ W = w') := fun W => by
      have := isDepth_is (x := t) (w := W); rw [decide_eq_true h1] at this; exact this.mono fun _ _ ⟨a, b⟩ => ⟨a, b.symm⟩
    by_cases h2 : 0 ≤ b ∧ b ≤ 30000
    · have H2 : Hid (∀ W : World, Calls Try.prog 22 #[.int .i64 b] W fun e w' => e = .returned (.bool true) ∧ W = w') := fun W => by
        have := isDepth_is (x := b) (w := W); rw [decide_eq_true h2] at this; exact this.mono fun _ _ ⟨a, b⟩ => ⟨a, b.symm⟩
      have e : okSpan t b = decide (t ≤ b) := by unfold okSpan; by_cases h : t ≤ b <;> simp [h] <;> omega
      rw [e]
      clear h1 h2 e
      go_enter Try.func18, Try.ntmps18
      go_wp2_with fail
      refine (H1.out _).mono ?_
      rintro e w' ⟨rfl, rfl⟩
      go_wp2_with fail
      refine (H2.out _).mono ?_
      rintro e w' ⟨rfl, rfl⟩
      go_wp2_with fail
      go_ret
      exact ⟨rfl, rfl⟩
    · have H2 : Hid (∀ W : World, Calls Try.prog 22 #[.int .i64 b] W fun e w' => e = .returned (.bool false) ∧ W = w') := fun W => by
        have := isDepth_is (x := b) (w := W); rw [decide_eq_false h2] at this; exact this.mono fun _ _ ⟨a, b⟩ => ⟨a, b.symm⟩
      have e : okSpan t b = false := decide_eq_false (by omega)
      rw [e]
      clear h1 h2 e
      go_enter Try.func18, Try.ntmps18
      go_wp2_with fail
      refine (H1.out _).mono ?_
      rintro e w' ⟨rfl, rfl⟩
      go_wp2_with fail
      refine (H2.out _).mono ?_
      rintro e w' ⟨rfl, rfl⟩
      go_wp2_with fail
      go_ret
      exact ⟨rfl, rfl⟩
  · have H1 : Hid (∀ W : World, Calls Try.prog 22 #[.int .i64 t] W fun e w' => e = .returned (.bool false) ∧ W = w') := fun W => by
      have := isDepth_is (x := t) (w := W); rw [decide_eq_false h1] at this; exact this.mono fun _ _ ⟨a, b⟩ => ⟨a, b.symm⟩
    have e : okSpan t b = false := decide_eq_false (by omega)
    rw [e]
    clear h1 e
    go_enter Try.func18, Try.ntmps18
    go_wp2_with fail
    refine (H1.out _).mono ?_
    rintro e w' ⟨rfl, rfl⟩
    go_wp2_with fail
    go_ret
    exact ⟨rfl, rfl⟩
theorem isSpan_is {t b : Int} {w : World} {r : Bool} (hr : okSpan t b = r) : Calls Try.prog 18 #[.int .i64 t, .int .i64 b] w fun e w' => e = .returned (.bool r) ∧ w = w' := by
  subst hr; exact isSpan_any t b w

def EdgTo (l : List Int) (k : Nat) : Prop := ∀ j, j < k → 0 ≤ nth l j ∧ nth l j ≤ 30000 ∧ (0 < j → nth l (j - 1) < nth l j)
theorem EdgTo.succ {l : List Int} {k : Nat} (h : EdgTo l k) (h1 : 0 ≤ nth l k) (h2 : nth l k ≤ 30000) (h3 : 0 < k → nth l (k - 1) < nth l k) : EdgTo l (k + 1) := fun j hj => by
  by_cases e : j = k
  · subst e; exact ⟨h1, h2, h3⟩
  · exact h j (by omega)

set_option maxHeartbeats 1000000 in
theorem specEdges_any (a : Option Addr) (n c lo : Nat) (l : List Int) (w : World) (h : IRow w lo a n c l) (hn : n ≤ 1048576) :
    Calls Try.prog 14 #[.slice a n c] w fun e w' => e = .returned (.bool (okE l)) ∧ ∃ m, w' = w.drewN m := by
  have H := Lib.hid h
  clear h
  go_enter Try.func14, Try.ntmps14
  go_wp2_with fail
  go_loopw [3] (fun i wr => ∃ k m : Nat, k ≤ n ∧ i = .int .i64 k ∧ EdgTo l k ∧ wr = w.drewN m) (fun i _ => n - (intOf i).toNat)
  case atStart => exact ⟨0, 0, Nat.zero_le _, rfl, fun j hj => by omega, rfl⟩
  case round =>
    obtain ⟨k, m, hk, rfl, hto, rfl⟩ := hrel
    by_cases hlt : k < n
    · obtain ⟨g, off, rfl, _, hg, hc⟩ := H.out.at_ hlt
      have n1 : (0 : Int) ≤ k := by omega
      have n2 : (k : Int) < n := by omega
      by_cases hd : 0 ≤ nth l k ∧ nth l k ≤ 30000
      · have HD : Hid (∀ W : World, Calls Try.prog 23 #[.int .i64 (nth l k)] W fun e w' => e = .returned (.bool true) ∧ w' = W) := fun W => by
          have := depth_is (x := nth l k) (w := W); rw [decide_eq_true hd] at this; exact this
        by_cases h0 : k = 0
        · subst h0
          have hc0 : w.cell? ⟨g, off, none⟩ = some (.int .i64 (nth l 0)) := by simpa using hc
          have hs := hto.succ hd.1 hd.2 (fun h => absurd h (by omega))
          clear hd
          go_wp2_with fail
          go_quiet ((go_at_call 23; exact quiet_add_same (HD.out _)))
          clear n1 n2
          go_wp2_with fail
          go_roundw
          case rel => exact ⟨0 + 1, _, by omega, by go_num, hs, rfl⟩
          case measure => simp [intOf]; omega
        · obtain ⟨j, rfl⟩ : ∃ j, k = j + 1 := ⟨k - 1, by omega⟩
          have hp := H.out.cellAt (k := j) (by omega)
          have d0 : decide ((0 : Int) < (j : Int) + 1) = true := decide_eq_true (by omega)
          have n3 : (0 : Int) ≤ j := by omega
          have n4 : (j : Int) < n := by omega
          have s3 : IntKind.i64.wrap ((j : Int) + 1 - 1) = (j : Int) := by rw [IntWalk.i64_in _ (by omega)]; omega
          have s4 : ((j : Int) + 1).toNat = j + 1 := by omega
          have s5 : (0 : Int) < (j : Int) + 1 := by omega
          obtain ⟨x, hx⟩ : ∃ x, nth l (j + 1) = x := ⟨_, rfl⟩
          obtain ⟨y, hy⟩ : ∃ y, nth l j = y := ⟨_, rfl⟩
          by_cases hlt2 : nth l j < nth l (j + 1)
          · have hs := hto.succ hd.1 hd.2 (fun _ => hlt2)
            rw [hx] at hc HD hlt2
            rw [hy] at hp hlt2
            have d1 : decide (x ≤ y) = false := by simp; omega
            clear hd hx hy h0
            go_wp2_with fail
            go_quiet ((go_at_call 23; exact quiet_add_same (HD.out _)))
            clear n1 n2 n3 n4 s3 s4 s5 d0 d1
            go_wp2_with fail
            go_roundw
            case rel => exact ⟨j + 1 + 1, _, by omega, by go_num, hs, rfl⟩
            case measure => simp [intOf]; omega
          · have HN := Lib.hid (okE_no_at (es := l) (j + 1) (by rw [H.out.len]; exact hlt) (fun h => hlt2 (h.2.2 (by omega))))
            rw [hx] at hc HD hlt2
            rw [hy] at hp hlt2
            have d1 : decide (x ≤ y) = true := by simp; omega
            clear hd hx hy h0
            go_wp2_with fail
            go_quiet ((go_at_call 23; exact quiet_add_same (HD.out _)))
            clear n1 n2 n3 n4 s3 s4 s5 d0
            go_wp2_with fail
            go_ret
            exact ⟨ret_bool HN.out.symm, _, World.drewN_drewN _ _ _⟩
      · have HD : Hid (∀ W : World, Calls Try.prog 23 #[.int .i64 (nth l k)] W fun e w' => e = .returned (.bool false) ∧ w' = W) := fun W => by
          have := depth_is (x := nth l k) (w := W); rw [decide_eq_false hd] at this; exact this
        have HN := Lib.hid (okE_no_at (es := l) k (by rw [H.out.len]; exact hlt) (fun h => hd ⟨h.1, h.2.1⟩))
        clear hd
        go_wp2_with fail
        go_quiet ((go_at_call 23; exact quiet_add_same (HD.out _)))
        clear n1 n2
        go_wp2_with fail
        go_ret
        exact ⟨ret_bool HN.out.symm, _, World.drewN_drewN _ _ _⟩
    · obtain rfl : n = k := by omega
      by_cases h1 : 2 ≤ n ∧ n ≤ 21
      · have HN := Lib.hid (okE_mk (es := l) (by rw [H.out.len]; exact h1.1) (by rw [H.out.len]; exact h1.2) (fun j hj => hto j (by rwa [H.out.len] at hj)))
        obtain ⟨h1, h2⟩ := h1
        go_wp2_with fail
        refine (in_yes _ _ _ _ (by omega) (by omega)).mono ?_
        rintro e w' ⟨rfl, rfl⟩
        go_wp2_with fail
        go_ret
        exact ⟨ret_bool HN.out.symm, m, rfl⟩
      · have HN := Lib.hid (okE_no_len (es := l) (by rw [H.out.len]; exact h1))
        have H1 := Lib.hid h1
        clear h1
        go_wp2_with fail
        refine (in_no _ _ _ _ (by have := H1.out; omega)).mono ?_
        rintro e w' ⟨rfl, rfl⟩
        go_wp2_with fail
        go_ret
        exact ⟨ret_bool HN.out.symm, m, rfl⟩

theorem specEdges_is {a : Option Addr} {n c lo : Nat} {l : List Int} {w : World} {b : Bool} (hb : okE l = b) (h : IRow w lo a n c l) (hn : n ≤ 1048576) :
    Calls Try.prog 14 #[.slice a n c] w fun e w' => e = .returned (.bool b) ∧ Below w.heap.size w w' := by
  subst hb
  exact (specEdges_any a n c lo l w h hn).mono fun _ _ ⟨he, m, hw⟩ => ⟨he, by rw [hw]; exact below_new _ _⟩

set_option maxHeartbeats 1000000 in
theorem implEdges_any (a : Option Addr) (n c lo : Nat) (l : List Int) (w : World) (h : IRow w lo a n c l) (hn : n ≤ 1048576) :
    Calls Try.prog 13 #[.slice a n c] w fun e w' => e = .returned (.bool (okE l)) ∧ Below w.heap.size w w' := by
  have H := Lib.hid h
  clear h
  go_enter Try.func13, Try.ntmps13
  go_wp2_with fail
  go_loopw [7] (fun i wr => ∃ k : Nat, k ≤ n ∧ i = .int .i64 k ∧ EdgTo l k ∧ Below w.heap.size w wr) (fun i _ => n - (intOf i).toNat)
  case atStart => exact ⟨0, Nat.zero_le _, rfl, fun j hj => by omega, Below.refl _ _⟩
  case round =>
    obtain ⟨k, hk, rfl, hto, hb⟩ := hrel
    by_cases hlt : k < n
    · obtain ⟨g, off, rfl, _, hg, hc⟩ := (H.out.keep hb).at_ hlt
      have n1 : (0 : Int) ≤ k := by omega
      have n2 : (k : Int) < n := by omega
      by_cases hd : 0 ≤ nth l k ∧ nth l k ≤ 30000
      · have HD : Hid (∀ W : World, Calls Try.prog 22 #[.int .i64 (nth l k)] W fun e w' => e = .returned (.bool true) ∧ w' = W) := fun W => by
          have := isDepth_is (x := nth l k) (w := W); rw [decide_eq_true hd] at this; exact this
        by_cases h0 : k = 0
        · have hs := hto.succ hd.1 hd.2 (fun h => absurd h (by omega))
          have d0 : decide ((0 : Int) < (k : Int)) = false := decide_eq_false (by omega)
          have d0' : decide (0 < k) = false := decide_eq_false (by omega)
          clear hd h0
          go_wp2_with fail
          refine (HD.out _).mono ?_
          rintro e w3 ⟨rfl, rfl⟩
          go_wp2_with fail
          go_roundw
          case rel => exact ⟨k + 1, by omega, by go_num, hs, hb⟩
          case measure => simp [intOf]; omega
        · obtain ⟨j, rfl⟩ : ∃ j, k = j + 1 := ⟨k - 1, by omega⟩
          have hp := (H.out.keep hb).cellAt (k := j) (by omega)
          have d0 : decide ((0 : Int) < (j : Int) + 1) = true := decide_eq_true (by omega)
          have n3 : (0 : Int) ≤ j := by omega
          have n4 : (j : Int) < n := by omega
          have s3 : IntKind.i64.wrap ((j : Int) + 1 - 1) = (j : Int) := by rw [IntWalk.i64_in _ (by omega)]; omega
          have s4 : ((j : Int) + 1).toNat = j + 1 := by omega
          have s5 : (0 : Int) < (j : Int) + 1 := by omega
          obtain ⟨x, hx⟩ : ∃ x, nth l (j + 1) = x := ⟨_, rfl⟩
          obtain ⟨y, hy⟩ : ∃ y, nth l j = y := ⟨_, rfl⟩
          by_cases hlt2 : nth l j < nth l (j + 1)
          · have hs := hto.succ hd.1 hd.2 (fun _ => hlt2)
            rw [hx] at hc HD hlt2
            rw [hy] at hp hlt2
            have d1 : decide (x ≤ y) = false := by simp; omega
            clear hd hx hy h0
            go_wp2_with fail
            refine (HD.out _).mono ?_
            rintro e w3 ⟨rfl, rfl⟩
            go_wp2_with fail
            go_roundw
            case rel => exact ⟨j + 1 + 1, by omega, by go_num, hs, hb⟩
            case measure => simp [intOf]; omega
          · have HN := Lib.hid (okE_no_at (es := l) (j + 1) (by rw [H.out.len]; exact hlt) (fun h => hlt2 (h.2.2 (by omega))))
            rw [hx] at hc HD hlt2
            rw [hy] at hp hlt2
            have d1 : decide (x ≤ y) = true := by simp; omega
            clear hd hx hy h0
            go_wp2_with fail
            refine (HD.out _).mono ?_
            rintro e w3 ⟨rfl, rfl⟩
            go_wp2_with fail
            go_ret
            exact ⟨ret_bool HN.out.symm, hb⟩
      · have HD : Hid (∀ W : World, Calls Try.prog 22 #[.int .i64 (nth l k)] W fun e w' => e = .returned (.bool false) ∧ w' = W) := fun W => by
          have := isDepth_is (x := nth l k) (w := W); rw [decide_eq_false hd] at this; exact this
        have HN := Lib.hid (okE_no_at (es := l) k (by rw [H.out.len]; exact hlt) (fun h => hd ⟨h.1, h.2.1⟩))
        clear hd
        go_wp2_with fail
        refine (HD.out _).mono ?_
        rintro e w3 ⟨rfl, rfl⟩
        go_wp2_with fail
        go_ret
        exact ⟨ret_bool HN.out.symm, hb⟩
    · obtain rfl : n = k := by omega
      by_cases h1 : 2 ≤ n
      · by_cases h2 : n ≤ 21
        · have HN := Lib.hid (okE_mk (es := l) (by rw [H.out.len]; exact h1) (by rw [H.out.len]; exact h2) (fun j hj => hto j (by rwa [H.out.len] at hj)))
          go_wp2_with fail
          go_ret
          exact ⟨ret_bool (by first | exact HN.out.symm | (rw [HN.out]; simp <;> omega)), hb⟩
        · have HN := Lib.hid (okE_no_len (es := l) (by rw [H.out.len]; omega))
          go_wp2_with fail
          go_ret
          exact ⟨ret_bool (by first | exact HN.out.symm | (rw [HN.out]; simp <;> omega)), hb⟩
      · have HN := Lib.hid (okE_no_len (es := l) (by rw [H.out.len]; omega))
        go_wp2_with fail
        go_ret
        exact ⟨ret_bool (by first | exact HN.out.symm | (rw [HN.out]; simp <;> omega)), hb⟩
theorem implEdges_is {a : Option Addr} {n c lo : Nat} {l : List Int} {w : World} {b : Bool} (hb : okE l = b) (h : IRow w lo a n c l) (hn : n ≤ 1048576) :
    Calls Try.prog 13 #[.slice a n c] w fun e w' => e = .returned (.bool b) ∧ Below w.heap.size w w' := by
  subst hb; exact implEdges_any a n c lo l w h hn


end Go.Proofs.Ytdcmlmdoiekdfaa
