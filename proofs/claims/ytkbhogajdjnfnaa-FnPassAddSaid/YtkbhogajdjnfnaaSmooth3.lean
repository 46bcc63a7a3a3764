/- Walks of the two versions of SmoothMany and SmoothPass. -/
import Derived.Test.YtkbhogajdjnfnaaSmooth2
namespace Go.Proofs.Ytkbhogajdjnfnaa
open Go.RowKit

/-- The value v is a row of the call's own that reads as l. -/
def OwnI (w : World) (lo n : Nat) (v : Value) (l : List Int) : Prop := ∃ a c, v = .slice a n c ∧ IRow w lo a n c l ∧ IFree w a n

theorem small_many {l : List Int} (h : okRow l = true) (n : Nat) (hn : n ≤ 8) : ∀ k, -655360000 ≤ nth (many l n) k ∧ nth (many l n) k ≤ 655360000 := fun k => by
  have a := many_bd (b := 10000) (fun k => okRow_nth h k) n k
  have b : (4 : Int) ^ n ≤ 65536 := by
    have h1 : (4 : Nat) ^ n ≤ 4 ^ 8 := Nat.pow_le_pow_right (by omega) hn
    have e : (((4 : Nat) ^ n : Nat) : Int) = (4 : Int) ^ n := by simp
    have e2 : (4 : Nat) ^ 8 = 65536 := by decide
    omega
  omega

theorem specPass_ok (a : Option Addr) (n c lo : Nat) (l : List Int) (w : World) (h : IRow w lo a n c l) (ho : okRow l = true) :
    Calls Try.prog 27 #[.slice a n c] w (RetIntsB (pass l) true w) := by
  have hn := okRow_len ho
  rw [h.len] at hn
  have HS : Hid (Small l) := fun k => by have := okRow_nth ho k; omega
  have HO := Lib.hid ho
  clear ho
  go_enter Try.func27, Try.ntmps27
  go_wp2_with fail
  refine (l13Row_is HO.out h (by omega)).mono ?_
  rintro e w' ⟨rfl, rfl⟩
  go_wp2_with fail
  refine (l13Pass_any _ _ _ _ _ _ h (by omega) HS.out).mono ?_
  rintro e w1 ⟨a1, n1, c1, rfl, r1, f1, b1⟩
  go_wp2_with fail
  go_ret2
  exact ⟨_, _, _, rfl, r1, f1, b1⟩
theorem specPass_no (a : Option Addr) (n c lo : Nat) (l : List Int) (w : World) (h : IRow w lo a n c l) (hn : n ≤ 1048576) (ho : okRow l = false) :
    Calls Try.prog 27 #[.slice a n c] w (RetIntsB [] false w) := by
  have HO := Lib.hid ho
  clear ho
  go_enter Try.func27, Try.ntmps27
  go_wp2_with fail
  refine (l13Row_is HO.out h (by omega)).mono ?_
  rintro e w' ⟨rfl, rfl⟩
  go_wp2_with fail
  go_ret2
  exact ⟨_, 0, _, rfl, ⟨rfl, Nat.le_refl _, fun h => absurd h (by omega)⟩, fun _ _ _ j hj => absurd hj (by omega), (Below.refl _ _).alloc (Nat.le_refl _) _⟩

set_option maxHeartbeats 1000000 in
theorem specMany_ok (a : Option Addr) (n c lo t : Nat) (l : List Int) (w : World) (h : IRow w lo a n c l) (ho : okRow l = true) (ht : t ≤ 8) :
    Calls Try.prog 31 #[.slice a n c, .int .i64 t] w (RetIntsB (many l t) true w) := by
  have hn := okRow_len ho
  rw [h.len] at hn
  have HO := Lib.hid ho
  obtain ⟨g, off, rfl, _, hg, _⟩ := h.at_ (show 0 < n by omega)
  have H := Lib.hid h
  clear ho h
  go_enter Try.func31, Try.ntmps31
  go_wp2_with fail
  refine (l13Row_is HO.out H.out (by omega)).mono ?_
  rintro e w' ⟨rfl, rfl⟩
  go_wp2_with fail
  refine (in_yes _ _ _ _ (by omega) (by omega)).mono ?_
  rintro e w' ⟨rfl, rfl⟩
  go_wp2_with (at_builtin; refine wpList_append_row _ rfl _ _ rfl w.heap.size (.slice (some ⟨w.heap.size, 0, none⟩) 0 0) 0 [] rfl lo g off n c l rfl (H.out.keep ((Below.refl _ _).alloc (Nat.le_refl _) _)) (World.ownsRow_lit w _ 0 (Nat.le_refl _) (by unfold maxLen; omega) rfl) (by omega) (by simp) ?_; intro v' w1 hown1 hgrow1)
  have hst : OwnI w1 w.heap.size n v' l := by
    obtain ⟨a', c', hv, hr, hf⟩ := IRow.of_own (l := l) (n := n) (by simpa using hown1)
    exact ⟨a', c', hv, hr, hf⟩
  have hb : Below w.heap.size w w1 := ((Below.refl _ _).alloc (Nat.le_refl _) _).grown hgrow1 (by simp) (fun k e => by simp [Value.ownBlock] at e; omega)
  clear hown1 hgrow1
  go_loopw [6, 7] (fun v i wr => ∃ k : Nat, k ≤ t ∧ i = .int .i64 k ∧ OwnI wr w.heap.size n v (many l k) ∧ Below w.heap.size w wr) (fun _ i _ => 9 - (intOf i).toNat)
  case atStart => exact ⟨0, Nat.zero_le _, rfl, hst, hb⟩
  case round =>
    clear hst hb
    obtain ⟨k, hk, rfl, ⟨a2, c2, hv, hr, hf⟩, hb⟩ := hrel
    subst hv
    by_cases hlt : k < t
    · have HS : Hid (Small (many l k)) := fun j => by have := small_many HO.out k (by omega) j; omega
      go_wp2_with fail
      refine (l13Pass_any _ _ _ _ _ _ hr (by omega) HS.out).mono ?_
      rintro e w3 ⟨a3, n3, c3, rfl, r3, f3, b3⟩
      obtain rfl : n3 = n := by have h1 := r3.len; rw [length_pass, length_many, H.out.len] at h1; exact h1.symm
      have b3' := hb.trans (b3.mono hb.size)
      have r3' : OwnI w3 w.heap.size n3 (.slice a3 n3 c3) (many l (k + 1)) := ⟨a3, c3, rfl, r3.lower hb.size, f3⟩
      clear r3 f3 b3
      go_wp2_with fail
      go_roundw
      case rel => exact ⟨k + 1, by omega, by go_num, r3', b3'⟩
      case measure => simp [intOf]; omega
    · obtain rfl : k = t := by omega
      go_wp2_with fail
      go_ret2
      exact ⟨_, _, _, rfl, hr, hf, hb⟩
theorem specMany_no (a : Option Addr) (n c lo : Nat) (t : Int) (l : List Int) (w : World) (h : IRow w lo a n c l) (hn : n ≤ 1048576) (ho : okRow l = false ∨ ¬ (0 ≤ t ∧ t ≤ 8)) :
    Calls Try.prog 31 #[.slice a n c, .int .i64 t] w (RetIntsB [] false w) := by
  cases hb : okRow l with
  | false =>
    have HO := Lib.hid hb
    clear ho hb
    go_enter Try.func31, Try.ntmps31
    go_wp2_with fail
    refine (l13Row_is HO.out h (by omega)).mono ?_
    rintro e w' ⟨rfl, rfl⟩
    go_wp2_with fail
    go_ret2
    exact ⟨_, 0, _, rfl, ⟨rfl, Nat.le_refl _, fun h => absurd h (by omega)⟩, fun _ _ _ j hj => absurd hj (by omega), (Below.refl _ _).alloc (Nat.le_refl _) _⟩
  | true =>
    have HT : Hid (¬ (0 ≤ t ∧ t ≤ 8)) := by
      rcases ho with h | h
      · rw [hb] at h; cases h
      · exact h
    have HO := Lib.hid hb
    clear ho hb
    go_enter Try.func31, Try.ntmps31
    go_wp2_with fail
    refine (l13Row_is HO.out h (by omega)).mono ?_
    rintro e w' ⟨rfl, rfl⟩
    go_wp2_with fail
    refine (in_no _ _ _ _ HT.out).mono ?_
    rintro e w' ⟨rfl, rfl⟩
    go_wp2_with fail
    go_ret2
    exact ⟨_, 0, _, rfl, ⟨rfl, Nat.le_refl _, fun h => absurd h (by omega)⟩, fun _ _ _ j hj => absurd hj (by omega), (Below.refl _ _).alloc (Nat.le_refl _) _⟩

theorem keep_other {w : World} {b o g f : Nat} {u v : Value} (hne : g ≠ b) (h : w.cell? ⟨g, f, none⟩ = some u) : (w.setCell ⟨b, o, none⟩ v).drew.cell? ⟨g, f, none⟩ = some u :=
  (World.cell?_setCell_other w ⟨b, o, none⟩ ⟨g, f, none⟩ v (by intro e; injection e with e1 _ _; exact hne e1.symm)).trans h
theorem rowIs_step {w : World} {b n j : Nat} {f : Nat → Int} {v : Int} (h : w.rowIs b 3 n (fun x => .int .i64 (if x < j then f x else 0))) (hv : v = f j) :
    (w.setCell ⟨b, j, none⟩ (.int .i64 v)).rowIs b 3 n (fun x => .int .i64 (if x < j + 1 then f x else 0)) := by
  refine (h.set j _).congr (fun x _ => ?_)
  by_cases e : x = j
  · subst e; rw [if_pos rfl, if_pos (by omega), hv]
  · rw [if_neg e]
    by_cases e2 : x < j
    · rw [if_pos e2, if_pos (by omega)]
    · rw [if_neg e2, if_neg (by omega)]

set_option maxHeartbeats 2000000 in
theorem implMany_ok (a : Option Addr) (n c lo t : Nat) (l : List Int) (w : World) (h : IRow w lo a n c l) (ho : okRow l = true) (ht : t ≤ 8) :
    Calls Try.prog 32 #[.slice a n c, .int .i64 t] w (RetIntsB (many l t) true w) := by
  have hn := okRow_len ho
  rw [h.len] at hn
  have HO := Lib.hid ho
  have HL := Lib.hid h.len
  clear ho
  go_enter Try.func32, Try.ntmps32
  go_wp2_with fail
  refine (isRow_is HO.out h (by omega)).mono ?_
  rintro e w' ⟨rfl, rfl⟩
  go_wp2_with fail
  refine (clone_any _ _ _ _ _ _ h (by omega) (by omega)).mono ?_
  rintro e w1 ⟨a1, n1, c1, rfl, r1, f1, b1⟩
  obtain rfl : n1 = n := by rw [← r1.len, h.len]
  have hst : OwnI w1 w.heap.size n1 (.slice a1 n1 c1) (many l 0) := ⟨a1, c1, rfl, r1, f1⟩
  clear r1 f1
  go_wp2_with fail
  go_loopw [6, 24] (fun v i wr => ∃ k : Nat, k ≤ t ∧ i = .int .i64 k ∧ OwnI wr w.heap.size n1 v (many l k) ∧ Below w.heap.size w wr) (fun _ i _ => 9 - (intOf i).toNat)
  case atStart => exact ⟨0, Nat.zero_le _, rfl, hst, b1⟩
  case round =>
    clear hst b1
    obtain ⟨k, hk, rfl, ⟨a2, c2, hv, hr, hf⟩, hb⟩ := hrel
    subst hv
    by_cases hlt : k < t
    · have HS := Lib.hid (small_many HO.out k (by omega))
      have HN : Hid ((many l k).length = n1) := hr.len
      obtain ⟨L, hL⟩ : ∃ L, many l k = L := ⟨_, rfl⟩
      have HM : Hid (many l (k + 1) = pass L) := by show pass (many l k) = pass L; rw [hL]
      rw [hL] at HS HN hr
      clear hL
      obtain ⟨g, off, rfl, _, hg, _⟩ := hr.at_ (show 0 < n1 by omega)
      have HR := Lib.hid hr
      clear hr
      obtain ⟨wo, hwo⟩ : ∃ wo : World, wo = wr := ⟨_, rfl⟩
      subst hwo
      go_wp2_with (at_make; refine wpList_make_ints _ rfl _ _ rfl n1 _ rfl rfl rfl (by omega) ?_; intro w3 hr3 hs3 hb3)
      have hb3' := hb3 wo.heap.size wo (Below.refl _ _) (Nat.le_refl _)
      have hst : w3.rowIs wo.heap.size 3 n1 (fun x => .int .i64 (if x < 0 then passAt L x else 0)) := hr3.congr (fun x _ => by simp)
      clear hs3 hb3 hr3
      go_loopw [31] (fun i wi => ∃ j : Nat, j ≤ n1 ∧ i = .int .i64 j ∧ wi.rowIs wo.heap.size 3 n1 (fun x => .int .i64 (if x < j then passAt L x else 0)) ∧ Below wo.heap.size wo wi) (fun i _ => n1 - (intOf i).toNat)
      case atStart => exact ⟨0, Nat.zero_le _, rfl, hst, hb3'⟩
      case round =>
        clear hst hb3'
        obtain ⟨j, hj, rfl, hrow, hbi⟩ := hrel
        by_cases hlt2 : j < n1
        · obtain ⟨p, hp⟩ : ∃ p, j - 1 = p := ⟨_, rfl⟩
          obtain ⟨q, hq⟩ : ∃ q, min (n1 - 1) (j + 1) = q := ⟨_, rfl⟩
          have hc := (HR.out.keep hbi).cellAt (k := j) hlt2
          have hc0 := (HR.out.keep hbi).cellAt (k := p) (by omega)
          have hc2 := (HR.out.keep hbi).cellAt (k := q) (by omega)
          have hv := HS.out j
          have hv0 := HS.out p
          have hv2 := HS.out q
          have E : Hid (passAt L j = nth L p + 2 * nth L j + nth L q) := by show passAt L j = _; unfold passAt; rw [HN.out, hp, hq]
          obtain ⟨x, hx⟩ : ∃ x, nth L j = x := ⟨_, rfl⟩
          obtain ⟨y, hy⟩ : ∃ y, nth L p = y := ⟨_, rfl⟩
          obtain ⟨z, hz⟩ : ∃ z, nth L q = z := ⟨_, rfl⟩
          rw [hx] at hc hv E
          rw [hy] at hc0 hv0 E
          rw [hz] at hc2 hv2 E
          clear hx hy hz
          have m1 : (0 : Int) ≤ j := by omega
          have m2 : (j : Int) < n1 := by omega
          have m3 : (0 : Int) ≤ p := by omega
          have m4 : (p : Int) < n1 := by omega
          have m5 : (0 : Int) ≤ q := by omega
          have m6 : (q : Int) < n1 := by omega
          have e1 : (if (j : Int) - 1 < 0 then 0 else (j : Int) - 1) = (p : Int) := by split <;> omega
          have e2 : (if (j : Int) < 1 then 0 else (j : Int) - 1) = (p : Int) := by split <;> omega
          have e3 : (if (n1 : Int) - 1 < (j : Int) + 1 then (n1 : Int) - 1 else (j : Int) + 1) = (q : Int) := by split <;> omega
          have s0 : IntKind.i64.wrap ((j : Int) - 1) = (j : Int) - 1 := IntWalk.i64_in _ (by omega)
          have s5 : IntKind.i64.wrap ((j : Int) + 1) = (j : Int) + 1 := IntWalk.i64_in _ (by omega)
          have s1 : IntKind.i64.wrap (2 * x) = 2 * x := IntWalk.i64_in _ (by omega)
          have s2 : IntKind.i64.wrap (2 * x + y) = 2 * x + y := IntWalk.i64_in _ (by omega)
          have s3 : IntKind.i64.wrap (2 * x + y + z) = 2 * x + y + z := IntWalk.i64_in _ (by omega)
          have s4 : IntKind.i64.wrap ((n1 : Int) - 1) = (n1 : Int) - 1 := IntWalk.i64_in _ (by omega)
          have hd := hrow.cell (i := j) hlt2
          have hfz := hrow.frozen j
          obtain ⟨u, hu⟩ : ∃ u : Int, (if j < j then passAt L j else 0) = u := ⟨_, rfl⟩
          rw [hu] at hd
          have hne : g ≠ wo.heap.size := by omega
          clear hp hq hu
          go_wp2_with fail
          go_region_held3 (fun w' => w'.cell? ⟨g, off + j, none⟩ = some (.int .i64 x) ∧ w'.cell? ⟨g, off + p, none⟩ = some (.int .i64 y) ∧ w'.cell? ⟨g, off + q, none⟩ = some (.int .i64 z)) (first | exact ⟨keep_other hne hc, keep_other hne hc0, keep_other hne hc2⟩ | go_keep) (first | fail)
          all_goals
            clear s0 s1 s2 s3 s4 s5 e1 e2 e3 m1 m2 m3 m4 m5 m6 hd
            go_wp2_with fail
            go_roundw
            case rel => exact ⟨j + 1, by omega, by go_num, rowIs_step hrow (by rw [E.out]; omega), (hbi.setCell (Nat.le_refl _) _).drew⟩
            case measure => simp [intOf]; omega
        · obtain rfl : j = n1 := by omega
          have hret := IRow.of_rowIs (lo := w.heap.size) hrow hb.size
          have E : Hid ((List.range j).map (fun x => if x < j then passAt L x else 0) = pass L) := by
            show (List.range j).map (fun x => if x < j then passAt L x else 0) = pass L
            unfold pass
            rw [HN.out]
            refine List.map_congr_left (fun x hx => ?_)
            rw [if_pos (by simpa using hx)]
          rw [E.out, ← HM.out] at hret
          have hfin : OwnI wr w.heap.size j (.slice (some ⟨wo.heap.size, 0, none⟩) j j) (many l (k + 1)) := ⟨_, _, rfl, hret.1, hret.2⟩
          have hbf : Below w.heap.size w wr := hb.trans (hbi.mono hb.size)
          clear hret hrow hbi
          go_wp2_with fail
          go_roundw
          case rel => exact ⟨k + 1, by omega, by go_num, hfin, hbf⟩
          case measure => simp [intOf]; omega
    · obtain rfl : k = t := by omega
      go_wp2_with fail
      go_ret2
      exact ⟨_, _, _, rfl, hr, hf, hb⟩
theorem implMany_no (a : Option Addr) (n c lo : Nat) (t : Int) (l : List Int) (w : World) (h : IRow w lo a n c l) (hn : n ≤ 1048576) (ho : okRow l = false ∨ ¬ (0 ≤ t ∧ t ≤ 8)) :
    Calls Try.prog 32 #[.slice a n c, .int .i64 t] w (RetIntsB [] false w) := by
  have fin : ∀ W : World, RetIntsB [] false W (.returned (.tuple #[.slice none 0 0, .bool false])) W := fun W => ⟨_, 0, _, rfl, ⟨rfl, Nat.le_refl _, fun h => absurd h (by omega)⟩, fun _ _ _ j hj => absurd hj (by omega), Below.refl _ _⟩
  have FIN := Lib.hid fin
  clear fin
  cases hb : okRow l with
  | false =>
    have HO := Lib.hid hb
    clear ho hb
    go_enter Try.func32, Try.ntmps32
    go_wp2_with fail
    refine (isRow_is HO.out h (by omega)).mono ?_
    rintro e w' ⟨rfl, rfl⟩
    go_wp2_with fail
    go_ret2
    exact FIN.out _
  | true =>
    have ht : ¬ (0 ≤ t ∧ t ≤ 8) := by
      rcases ho with h | h
      · rw [hb] at h; cases h
      · exact h
    have HO := Lib.hid hb
    clear ho hb
    by_cases h1 : t < 0
    · clear ht
      go_enter Try.func32, Try.ntmps32
      go_wp2_with fail
      refine (isRow_is HO.out h (by omega)).mono ?_
      rintro e w' ⟨rfl, rfl⟩
      go_wp2_with fail
      go_ret2
      exact FIN.out _
    · have h2 : 8 < t := by omega
      clear ht
      go_enter Try.func32, Try.ntmps32
      go_wp2_with fail
      refine (isRow_is HO.out h (by omega)).mono ?_
      rintro e w' ⟨rfl, rfl⟩
      go_wp2_with fail
      go_ret2
      exact FIN.out _

theorem implPass_ok (a : Option Addr) (n c lo : Nat) (l : List Int) (w : World) (h : IRow w lo a n c l) (ho : okRow l = true) :
    Calls Try.prog 28 #[.slice a n c] w (RetIntsB (pass l) true w) := by
  have HO := Lib.hid ho
  clear ho
  go_enter Try.func28, Try.ntmps28
  go_wp2_with fail
  refine (implMany_ok a n c lo 1 l w h HO.out (by omega)).mono ?_
  rintro e w1 ⟨a1, n1, c1, rfl, r1, f1, b1⟩
  go_wp2_with fail
  go_ret2
  exact ⟨_, _, _, rfl, r1, f1, b1⟩
theorem implPass_no (a : Option Addr) (n c lo : Nat) (l : List Int) (w : World) (h : IRow w lo a n c l) (hn : n ≤ 1048576) (ho : okRow l = false) :
    Calls Try.prog 28 #[.slice a n c] w (RetIntsB [] false w) := by
  have HO := Lib.hid ho
  clear ho
  go_enter Try.func28, Try.ntmps28
  go_wp2_with fail
  refine (implMany_no a n c lo 1 l w h hn (.inl HO.out)).mono ?_
  rintro e w1 ⟨a1, n1, c1, rfl, r1, f1, b1⟩
  go_wp2_with fail
  go_ret2
  exact ⟨_, _, _, rfl, r1, f1, b1⟩

end Go.Proofs.Ytkbhogajdjnfnaa
