/- The contracts of the sure depths: sureDepths, LayersDepth, LayersThick of the program and of the reference. -/
import Derived.Test.YtabbclfodlhikaaLay1
import Derived.Test.YtabbclfodlhikaaLayPlain2
namespace Go.Proofs.Ytabbclfodlhikaa
open Go.RowKit

theorem IRow.nil (w : World) (lo : Nat) (a : Option Addr) (c : Nat) : IRow w lo a 0 c [] := ⟨rfl, Nat.zero_le _, fun h => absurd h (by omega)⟩
theorem IFree.nil (w : World) (a : Option Addr) : IFree w a 0 := fun _ _ _ j hj => absurd hj (by omega)
theorem ret_nil {w w' : World} (a : Option Addr) (c : Nat) (hb : Below w.heap.size w w') : RetInts [] w (.returned (.slice a 0 c)) w' := ⟨a, 0, c, rfl, IRow.nil _ _ _ _, IFree.nil _ _, hb⟩

set_option maxHeartbeats 1000000 in
theorem sureDepths_ok (a : Option Addr) (n c lo : Nat) (l : List Lay) (w : World) (h : LRow w lo a n c l) (ho : okL l = true) :
    Calls Try.prog 38 #[.slice a n c] w (RetInts (sureD l) w) := by
  have hn := okL_len ho
  rw [h.len] at hn
  have H := Lib.hid h
  have HO := Lib.hid ho
  clear h ho
  go_enter Try.func38, Try.ntmps38
  go_wp2_with fail
  refine (implValid_is HO.out H.out (by omega)).mono ?_
  rintro e w1 ⟨rfl, b1⟩
  have ho0 : w1.ownsRow w.heap.size 3 1 (.slice none 0 0) 0 ((sdT l 0).map (Value.int .i64)) := World.ownsRow_nil _ _ _ _
  go_wp2_with fail
  go_loopw [3, 11] (fun v i wr => ∃ k : Nat, k ≤ n ∧ i = .int .i64 k ∧ wr.ownsRow w.heap.size 3 1 v (sdT l k).length ((sdT l k).map (Value.int .i64)) ∧ Below w.heap.size w wr) (fun _ i _ => n - (intOf i).toNat)
  case atStart => exact ⟨0, Nat.zero_le _, rfl, ho0, b1⟩
  case round =>
    clear b1 ho0
    obtain ⟨k, hk, rfl, hown, hb⟩ := hrel
    have hsl := sdT_len l k
    by_cases hlt : k < n
    · obtain ⟨g, off, rfl, _, hg, hc, hd⟩ := (H.out.keep hb).at_ hlt
      cases hss : sur l k with
      | true =>
        have E := Lib.hid (sdT_sure (l := l) (k := k) (by rw [H.out.len]; exact hlt) hss)
        rw [hss] at hd
        obtain ⟨d, hdd⟩ : ∃ d, dep l k = d := ⟨_, rfl⟩
        rw [hdd] at hc E
        clear hss hdd
        obtain ⟨m, hm⟩ : ∃ m, (sdT l k).length = m := ⟨_, rfl⟩
        have EL : Hid ((sdT l (k + 1)).length = m + 1) := by show _ = _; rw [E.out, List.length_append, hm]; rfl
        rw [hm] at hown hsl
        clear hm
        go_wp2_with (at_builtin; refine wpList_append_int _ rfl _ _ rfl w.heap.size _ _ _ rfl d _ rfl ((hown.alloc _).alloc _) (by simp) (by omega) (by have := hb.size; simp; omega) ?_; intro v' w4 hown4 hgrow4)
        have hbo := below_append (hb.alloc hb.size _) (by have := hb.size; simp; omega) (hown.alloc _) hgrow4
        rw [← E.out] at hown4
        go_roundw
        case rel => exact ⟨k + 1, by omega, by go_num, by rw [EL.out]; exact hown4, hbo⟩
        case measure => simp [intOf]; omega
      | false =>
        have E := Lib.hid (sdT_un (l := l) (k := k) (by rw [H.out.len]; exact hlt) hss)
        rw [hss] at hd
        clear hss
        have hb' := Lib.hid (fun o => hb.alloc hb.size o)
        have ho' := Lib.hid (fun o => hown.alloc o)
        go_wp2_with fail
        go_roundw
        case rel => exact ⟨k + 1, by omega, by go_num, by rw [E.out]; exact ho'.out _, hb'.out _⟩
        case measure => simp [intOf]; omega
    · obtain rfl : n = k := by omega
      obtain ⟨a', c', rfl, hr, hf⟩ := IRow.of_own hown
      have E : Hid (sdT l n = sureD l) := sdT_all (by rw [H.out.len]; exact Nat.le_refl _)
      go_wp2_with fail
      go_ret
      exact ⟨a', _, c', rfl, by rw [← E.out]; exact hr, hf, hb⟩
theorem sureDepths_no (a : Option Addr) (n c lo : Nat) (l : List Lay) (w : World) (h : LRow w lo a n c l) (hn : n ≤ 1048576) (ho : okL l = false) :
    Calls Try.prog 38 #[.slice a n c] w (RetInts [] w) := by
  have HO := Lib.hid ho
  clear ho
  go_enter Try.func38, Try.ntmps38
  go_wp2_with fail
  refine (implValid_is HO.out h hn).mono ?_
  rintro e w1 ⟨rfl, b1⟩
  go_wp2_with fail
  go_ret
  exact ret_nil _ _ b1
theorem sureDepths_any (a : Option Addr) (n c lo : Nat) (l : List Lay) (w : World) (h : LRow w lo a n c l) (hn : n ≤ 1048576) :
    Calls Try.prog 38 #[.slice a n c] w (RetInts (sdV l) w) := by
  cases ho : okL l with
  | true => rw [sdV_ok ho]; exact sureDepths_ok _ _ _ _ _ _ h ho
  | false => rw [sdV_no ho]; exact sureDepths_no _ _ _ _ _ _ h hn ho

theorem sdV_len (l : List Lay) : (sdV l).length ≤ 40 := by
  unfold sdV
  split
  · next h => exact Nat.le_trans (sureD_len l) (okL_len h)
  · simp
theorem sdV_bd (l : List Lay) (j : Nat) : 0 ≤ nth (sdV l) j ∧ nth (sdV l) j ≤ 30000 := by
  unfold sdV
  split
  · next h => exact sureD_bd h j
  · simp [nth]

theorem implDepth_ok (a : Option Addr) (n c lo : Nat) (l : List Lay) (y : Int) (w : World) (h : LRow w lo a n c l) (hn : n ≤ 1048576) (m : Nat) (hy : y = (m : Int) + 1) (hm : m < (sdV l).length) :
    Calls Try.prog 19 #[.slice a n c, .int .i64 y] w fun e w' => e = .returned (.tuple #[.int .i64 (nth (sdV l) m), .bool true]) ∧ Below w.heap.size w w' := by
  subst hy
  have hl := sdV_len l
  go_enter Try.func19, Try.ntmps19
  go_wp2_with fail
  refine (sureDepths_any _ _ _ _ _ _ h hn).mono ?_
  rintro e w1 ⟨a1, n1, c1, rfl, r1, f1, b1⟩
  have hl1 := r1.len
  obtain ⟨g, off, rfl, _, hg, hc⟩ := r1.at_ (show m < n1 by omega)
  have d1 : decide ((n1 : Int) < (m : Int) + 1) = false := decide_eq_false (by omega)
  have d2 : ((m : Int) < n1) := by omega
  go_wp2_with fail
  go_ret2
  exact ⟨rfl, b1⟩
theorem implDepth_no (a : Option Addr) (n c lo : Nat) (l : List Lay) (y : Int) (w : World) (h : LRow w lo a n c l) (hn : n ≤ 1048576) (hy : y < 1 ∨ ((sdV l).length : Int) < y) :
    Calls Try.prog 19 #[.slice a n c, .int .i64 y] w fun e w' => e = .returned (.tuple #[.int .i64 0, .bool false]) ∧ Below w.heap.size w w' := by
  have HY := Lib.hid hy
  clear hy
  go_enter Try.func19, Try.ntmps19
  go_wp2_with fail
  refine (sureDepths_any _ _ _ _ _ _ h hn).mono ?_
  rintro e w1 ⟨a1, n1, c1, rfl, r1, f1, b1⟩
  have hl1 := r1.len
  by_cases h1 : y < 1
  · go_wp2_with fail
    go_ret2
    exact ⟨rfl, b1⟩
  · have h2 : (n1 : Int) < y := by rcases HY.out with h | h <;> omega
    go_wp2_with fail
    go_ret2
    exact ⟨rfl, b1⟩

set_option maxHeartbeats 1000000 in
theorem specDepth_ok (a : Option Addr) (n c lo : Nat) (l : List Lay) (y : Int) (w : World) (h : LRow w lo a n c l) (m : Nat) (hy : y = (m : Int) + 1) (ho : okL l = true) (hm : m < (sureD l).length) :
    Calls Try.prog 17 #[.slice a n c, .int .i64 y] w fun e w' => e = .returned (.tuple #[.int .i64 (nth (sureD l) m), .bool true]) ∧ Below w.heap.size w w' := by
  subst hy
  have hn := okL_len ho
  rw [h.len] at hn
  have H := Lib.hid h
  have HO := Lib.hid ho
  have HM := Lib.hid hm
  clear h ho hm
  go_enter Try.func17, Try.ntmps17
  go_wp2_with fail
  go_loopw [6, 7] (fun s i wr => ∃ k q : Nat, k ≤ n ∧ i = .int .i64 k ∧ s = .int .i64 q ∧ q ≤ m ∧ Hid ((sdT l k).length = q) ∧ Below w.heap.size w wr) (fun _ i _ => n - (intOf i).toNat)
  case atStart => exact ⟨0, 0, Nat.zero_le _, rfl, rfl, Nat.zero_le _, rfl, Below.refl _ _⟩
  case round =>
    obtain ⟨k, q, hk, rfl, rfl, hq, HQ, hb⟩ := hrel
    have hsl := sdT_len l k
    rw [HQ.out] at hsl
    by_cases hlt : k < n
    · go_wp2_with fail
      refine (specValid_is HO.out (H.out.keep hb) (by omega)).mono ?_
      rintro e w1 ⟨rfl, b1⟩
      have hb1 := below2 hb b1
      clear b1
      obtain ⟨g, off, rfl, _, hg, hc, hd⟩ := (H.out.keep hb1).at_ hlt
      cases hss : sur l k with
      | true =>
        have E := Lib.hid (sdT_sure (l := l) (k := k) (by rw [H.out.len]; exact hlt) hss)
        have EL : Hid ((sdT l (k + 1)).length = q + 1) := by show _ = _; rw [E.out, List.length_append, HQ.out]; rfl
        rw [hss] at hd
        clear hss
        by_cases hqm : q = m
        · subst hqm
          have EV : Hid (nth (sureD l) q = dep l k) := by
            show _ = _
            rw [nth_sdT (k := k + 1) (by rw [EL.out]; omega), E.out, ← HQ.out, nth_snoc]
          go_wp2_with fail
          go_ret2
          exact ⟨ret_ib EV.out.symm, hb1⟩
        · have d1 : ((q : Int) + 1 == (m : Int) + 1) = false := beq_eq_false_iff_ne.2 (by omega)
          have d2 : ((q : Int) == (m : Int)) = false := beq_eq_false_iff_ne.2 (by omega)
          go_wp2_with fail
          go_roundw
          case rel => exact ⟨k + 1, q + 1, by omega, by go_num, by go_num, by omega, EL, hb1⟩
          case measure => simp [intOf]; omega
      | false =>
        have E := Lib.hid (sdT_un (l := l) (k := k) (by rw [H.out.len]; exact hlt) hss)
        have EL : Hid ((sdT l (k + 1)).length = q) := by show _ = _; rw [E.out, HQ.out]
        rw [hss] at hd
        clear hss
        go_wp2_with fail
        go_roundw
        case rel => exact ⟨k + 1, q, by omega, by go_num, rfl, hq, EL, hb1⟩
        case measure => simp [intOf]; omega
    · exfalso
      have e := sdT_all (l := l) (k := k) (by rw [H.out.len]; omega)
      have := HQ.out
      rw [e] at this
      have := HM.out
      omega
theorem specDepth_bad (a : Option Addr) (n c lo : Nat) (l : List Lay) (y : Int) (w : World) (h : LRow w lo a n c l) (hn : n ≤ 1048576) (ho : okL l = false) :
    Calls Try.prog 17 #[.slice a n c, .int .i64 y] w fun e w' => e = .returned (.tuple #[.int .i64 0, .bool false]) ∧ Below w.heap.size w w' := by
  have HO := Lib.hid ho
  have H := Lib.hid h
  clear ho h
  go_enter Try.func17, Try.ntmps17
  go_wp2_with fail
  go_loop [6, 7] (fun s i => s = .int .i64 0 ∧ i = .int .i64 0) (fun _ _ => 0)
  case atStart => exact ⟨rfl, rfl⟩
  case round =>
    obtain ⟨rfl, rfl⟩ := hrel
    by_cases h0 : 0 < n
    · go_wp2_with fail
      refine (specValid_is HO.out H.out (by omega)).mono ?_
      rintro e w1 ⟨rfl, b1⟩
      go_wp2_with fail
      go_ret2
      exact ⟨rfl, b1⟩
    · obtain rfl : n = 0 := by omega
      go_wp2_with fail
      go_ret2
      exact ⟨rfl, Below.refl _ _⟩
set_option maxHeartbeats 1000000 in
theorem specDepth_none (a : Option Addr) (n c lo : Nat) (l : List Lay) (y : Int) (w : World) (h : LRow w lo a n c l) (ho : okL l = true) (hy : y < 1 ∨ ((sureD l).length : Int) < y) :
    Calls Try.prog 17 #[.slice a n c, .int .i64 y] w fun e w' => e = .returned (.tuple #[.int .i64 0, .bool false]) ∧ Below w.heap.size w w' := by
  have hn := okL_len ho
  rw [h.len] at hn
  have H := Lib.hid h
  have HO := Lib.hid ho
  have HY := Lib.hid hy
  clear h ho hy
  go_enter Try.func17, Try.ntmps17
  go_wp2_with fail
  go_loopw [6, 7] (fun s i wr => ∃ k q : Nat, k ≤ n ∧ i = .int .i64 k ∧ s = .int .i64 q ∧ Hid ((sdT l k).length = q) ∧ Below w.heap.size w wr) (fun _ i _ => n - (intOf i).toNat)
  case atStart => exact ⟨0, 0, Nat.zero_le _, rfl, rfl, rfl, Below.refl _ _⟩
  case round =>
    obtain ⟨k, q, hk, rfl, rfl, HQ, hb⟩ := hrel
    have hsl := sdT_len l k
    rw [HQ.out] at hsl
    by_cases hlt : k < n
    · go_wp2_with fail
      refine (specValid_is HO.out (H.out.keep hb) (by omega)).mono ?_
      rintro e w1 ⟨rfl, b1⟩
      have hb1 := below2 hb b1
      clear b1
      obtain ⟨g, off, rfl, _, hg, hc, hd⟩ := (H.out.keep hb1).at_ hlt
      cases hss : sur l k with
      | true =>
        have E := Lib.hid (sdT_sure (l := l) (k := k) (by rw [H.out.len]; exact hlt) hss)
        have EL : Hid ((sdT l (k + 1)).length = q + 1) := by show _ = _; rw [E.out, List.length_append, HQ.out]; rfl
        rw [hss] at hd
        clear hss
        have d1 : ((q : Int) + 1 == y) = false := beq_eq_false_iff_ne.2 (by
          have := sdT_le l (k + 1)
          rw [EL.out] at this
          rcases HY.out with h | h <;> omega)
        go_wp2_with fail
        go_roundw
        case rel => exact ⟨k + 1, q + 1, by omega, by go_num, by go_num, EL, hb1⟩
        case measure => simp [intOf]; omega
      | false =>
        have E := Lib.hid (sdT_un (l := l) (k := k) (by rw [H.out.len]; exact hlt) hss)
        have EL : Hid ((sdT l (k + 1)).length = q) := by show _ = _; rw [E.out, HQ.out]
        rw [hss] at hd
        clear hss
        go_wp2_with fail
        go_roundw
        case rel => exact ⟨k + 1, q, by omega, by go_num, rfl, EL, hb1⟩
        case measure => simp [intOf]; omega
    · obtain rfl : n = k := by omega
      go_wp2_with fail
      go_ret2
      exact ⟨rfl, hb⟩
theorem specDepth_is (a : Option Addr) (n c lo : Nat) (l : List Lay) (y : Int) (w : World) (h : LRow w lo a n c l) (m : Nat) (hy : y = (m : Int) + 1) (hm : m < (sdV l).length) :
    Calls Try.prog 17 #[.slice a n c, .int .i64 y] w fun e w' => e = .returned (.tuple #[.int .i64 (nth (sdV l) m), .bool true]) ∧ Below w.heap.size w w' := by
  cases ho : okL l with
  | true => rw [sdV_ok ho] at hm ⊢; exact specDepth_ok _ _ _ _ _ _ _ h m hy ho hm
  | false => rw [sdV_no ho] at hm; simp at hm
theorem specDepth_no (a : Option Addr) (n c lo : Nat) (l : List Lay) (y : Int) (w : World) (h : LRow w lo a n c l) (hn : n ≤ 1048576) (hy : y < 1 ∨ ((sdV l).length : Int) < y) :
    Calls Try.prog 17 #[.slice a n c, .int .i64 y] w fun e w' => e = .returned (.tuple #[.int .i64 0, .bool false]) ∧ Below w.heap.size w w' := by
  cases ho : okL l with
  | true => rw [sdV_ok ho] at hy; exact specDepth_none _ _ _ _ _ _ _ h ho hy
  | false => exact specDepth_bad _ _ _ _ _ _ _ h hn ho

set_option maxHeartbeats 1000000 in
theorem implThick_any (a : Option Addr) (n c lo : Nat) (l : List Lay) (w : World) (h : LRow w lo a n c l) (hn : n ≤ 1048576) :
    Calls Try.prog 23 #[.slice a n c] w (RetInts (diffs (sdV l)) w) := by
  have hl := sdV_len l
  have hbd := Lib.hid (sdV_bd l)
  obtain ⟨s, hs⟩ : ∃ s, sdV l = s := ⟨_, rfl⟩
  rw [hs] at hl hbd ⊢
  have HS := Lib.hid hs
  clear hs
  go_enter Try.func23, Try.ntmps23
  go_wp2_with fail
  refine (sureDepths_any _ _ _ _ _ _ h hn).mono ?_
  rintro e w1 ⟨a1, n1, c1, rfl, r1, f1, b1⟩
  rw [HS.out] at r1
  have hl1 := r1.len
  clear h f1
  have R1 := Lib.hid r1
  have B1 := Lib.hid b1
  have hsz := b1.size
  clear r1 b1
  have ho0 : w1.ownsRow w1.heap.size 3 1 (.slice none 0 0) 0 ((diffs (s.take (0 + 1))).map (Value.int .i64)) := by
    rw [diffs_short (by rw [List.length_take]; omega)]; exact World.ownsRow_nil _ _ _ _
  by_cases h0 : n1 = 0
  · subst h0
    clear ho0
    have E : Hid (diffs s = []) := diffs_short (by omega)
    go_wp2_with fail
    go_loop [4, 5] (fun v i => v = .slice none 0 0 ∧ i = .int .i64 1) (fun _ _ => 0)
    case atStart => exact ⟨rfl, rfl⟩
    case round =>
      obtain ⟨rfl, rfl⟩ := hrel
      go_wp2_with fail
      go_ret
      rw [E.out]
      exact ret_nil _ _ B1.out
  go_wp2_with fail
  go_loopw [4, 5] (fun v i wr => ∃ k : Nat, k + 1 ≤ n1 ∧ i = .int .i64 ((k : Int) + 1) ∧ wr.ownsRow w1.heap.size 3 1 v k ((diffs (s.take (k + 1))).map (Value.int .i64)) ∧ Below w1.heap.size w1 wr) (fun _ i _ => n1 - (intOf i).toNat)
  case atStart => exact ⟨0, by omega, rfl, ho0, Below.refl _ _⟩
  case round =>
    clear ho0
    obtain ⟨k, hk, rfl, hown, hb⟩ := hrel
    by_cases hlt : k + 1 < n1
    · obtain ⟨g, off, rfl, _, hg0, hc1⟩ := R1.out.at_ hlt
      have hg := Nat.lt_of_lt_of_le hg0 hb.size
      have hc := (R1.out.keep hb).cellAt (k := k + 1) hlt
      have hd := (R1.out.keep hb).cellAt (k := k) (by omega)
      have E := Lib.hid (diffs_take (s := s) (k := k) (by omega))
      have hv1 := hbd.out (k + 1)
      have hv0 := hbd.out k
      obtain ⟨x, hx⟩ : ∃ x, nth s (k + 1) = x := ⟨_, rfl⟩
      obtain ⟨y, hy⟩ : ∃ y, nth s k = y := ⟨_, rfl⟩
      rw [hx] at hc E hv1
      rw [hy] at hd E hv0
      clear hx hy hc1
      have n1' : (0 : Int) ≤ (k : Int) + 1 := by omega
      have n2 : (k : Int) + 1 < n1 := by omega
      have n3 : (0 : Int) ≤ (k : Int) := by omega
      have n4 : (k : Int) < n1 := by omega
      have s0 : IntKind.i64.wrap ((k : Int) + 1 - 1) = (k : Int) := (IntWalk.i64_in _ (by omega)).trans (by omega)
      have s0' : IntKind.i64.wrap (k : Int) = (k : Int) := IntWalk.i64_in _ (by omega)
      have s1 : IntKind.i64.wrap (x - y) = x - y := IntWalk.i64_in _ (by omega)
      have hsz1 := hb.size
      have hne := own_ne hown hg0
      go_wp2_with fail
      go_region_held3 (fun w' => w'.cell? ⟨g, off + (k + 1), none⟩ = some (.int .i64 x) ∧ w'.cell? ⟨g, off + k, none⟩ = some (.int .i64 y))
        (first
          | go_keep
          | (refine ⟨?_, ?_⟩
             · (rw [hgrow1.cell_far _ (by simp; omega) (own_ne hown hg0)]; go_keep)
             · (rw [hgrow1.cell_far _ (by simp; omega) (own_ne hown hg0)]; go_keep)))
        ((refine step_append_int _ (by rfl) _ _ (by rfl) w1.heap.size _ _ _ (by rfl) (x - y) wr.heap.size (by rfl) ((hown.alloc _).drew) (by go_simp) (by omega) (by simp; omega) ?_; intro v' w2 hown1 hgrow1))
      all_goals
        clear s0 s0' s1 n1' n2 n3 n4
        go_wp2_with fail
        go_roundw
        case rel => exact ⟨k + 1, by omega, by go_num, by rw [E.out]; exact hown1, below_append hb hb.size hown (grown_drew hgrow1)⟩
        case measure => simp [intOf]; omega
    · obtain rfl : n1 = k + 1 := by omega
      obtain ⟨a', c', rfl, hr, hf⟩ := IRow.of_own hown
      rw [List.take_of_length_le (by omega)] at hr
      go_wp2_with fail
      go_ret
      exact ⟨_, _, _, rfl, hr.lower hsz, hf, below2 B1.out hb⟩

theorem specThick_no (a : Option Addr) (n c lo : Nat) (l : List Lay) (w : World) (h : LRow w lo a n c l) (hn : n ≤ 1048576) (ho : okL l = false) :
    Calls Try.prog 22 #[.slice a n c] w (RetInts [] w) := by
  have HO := Lib.hid ho
  have H := Lib.hid h
  clear ho h
  go_enter Try.func22, Try.ntmps22
  go_wp2_with fail
  go_loopw [3, 4, 5] (fun v s i wr => v = .slice (some ⟨w.heap.size, 0, none⟩) 0 0 ∧ s = .int .i64 (-1) ∧ i = .int .i64 0 ∧ Below w.heap.size w wr) (fun _ _ _ _ => 0)
  case atStart => exact ⟨rfl, rfl, rfl, (Below.refl _ _).alloc (Nat.le_refl _) _⟩
  case round =>
    obtain ⟨rfl, rfl, rfl, hb⟩ := hrel
    by_cases h0 : 0 < n
    · go_wp2_with fail
      refine (specValid_is HO.out (H.out.keep hb) (by omega)).mono ?_
      rintro e w1 ⟨rfl, b1⟩
      go_wp2_with fail
      go_ret
      exact ret_nil _ _ (below2 hb b1)
    · obtain rfl : n = 0 := by omega
      go_wp2_with fail
      go_ret
      exact ret_nil _ _ hb
set_option maxHeartbeats 1000000 in
theorem specThick_ok (a : Option Addr) (n c lo : Nat) (l : List Lay) (w : World) (h : LRow w lo a n c l) (ho : okL l = true) :
    Calls Try.prog 22 #[.slice a n c] w (RetInts (diffs (sureD l)) w) := by
  have hn := okL_len ho
  rw [h.len] at hn
  have H := Lib.hid h
  have HO := Lib.hid ho
  clear h ho
  have ho0 : (w.alloc (.cells #[] 3)).ownsRow w.heap.size 3 1 (.slice (some ⟨w.heap.size, 0, none⟩) 0 0) 0 ((diffs (sdT l 0)).map (Value.int .i64)) := World.ownsRow_lit w _ 0 (Nat.le_refl _) (by unfold maxLen; omega) rfl
  go_enter Try.func22, Try.ntmps22
  go_wp2_with fail
  go_loopw [3, 4, 5] (fun v s i wr => ∃ k q : Nat, k ≤ n ∧ q ≤ k ∧ i = .int .i64 k ∧ s = .int .i64 (lastD (sdT l k)) ∧ wr.ownsRow w.heap.size 3 1 v q ((diffs (sdT l k)).map (Value.int .i64)) ∧ Below w.heap.size w wr) (fun _ _ i _ => n - (intOf i).toNat)
  case atStart => exact ⟨0, 0, Nat.zero_le _, Nat.zero_le _, rfl, rfl, ho0, (Below.refl _ _).alloc (Nat.le_refl _) _⟩
  case round =>
    clear ho0
    obtain ⟨k, q, hk, hqk, rfl, rfl, hown, hb⟩ := hrel
    by_cases hlt : k < n
    · go_wp2_with fail
      refine (specValid_any _ _ _ _ _ _ (H.out.keep hb) (by omega)).mono ?_
      rw [HO.out]
      rintro e w1 ⟨rfl, m1, hw1⟩
      have b1 : Below wr.heap.size wr w1 := by rw [hw1]; exact below_new _ _
      have hown1 := hown
      change (wr.drewN m1).ownsRow _ _ _ _ _ _ at hown1
      rw [← hw1] at hown1
      clear hw1 hown
      have hb1 := below2 hb b1
      clear b1 hb
      obtain ⟨g, off, rfl, _, hg, hc, hd⟩ := (H.out.keep hb1).at_ hlt
      have hmem : ∀ x ∈ sdT l k, 0 ≤ x ∧ x ≤ 30000 := fun x hx => sureD_mem HO.out x (by rw [sdT_split l k]; exact List.mem_append_left _ hx)
      cases hss : sur l k with
      | true =>
        have E := Lib.hid (sdT_sure (l := l) (k := k) (by rw [H.out.len]; exact hlt) hss)
        rw [hss] at hd
        have hdb := okL_bd HO.out k
        obtain ⟨d, hdd⟩ : ∃ d, dep l k = d := ⟨_, rfl⟩
        rw [hdd] at hc E hdb
        have HD := Lib.hid hdd
        clear hss hdd
        have EL : Hid (lastD (sdT l (k + 1)) = d) := by show _ = _; rw [E.out, lastD_snoc]
        by_cases hz : lastD (sdT l k) < 0
        · have e0 := lastD_neg (fun x hx => (hmem x hx).1) hz
          have ED : Hid (diffs (sdT l (k + 1)) = diffs (sdT l k)) := by show _ = _; rw [E.out, e0]; rfl
          clear e0 hmem
          obtain ⟨z, hzz⟩ : ∃ z, lastD (sdT l k) = z := ⟨_, rfl⟩
          rw [hzz] at hz ⊢
          clear hzz
          go_wp2_with fail
          go_roundw
          case rel => exact ⟨k + 1, q, by omega, by omega, by go_num, by rw [EL.out], by rw [ED.out]; exact hown1, hb1⟩
          case measure => simp [intOf]; omega
        · obtain ⟨mm, hm1, hm2⟩ := lastD_pos (s := sdT l k) (by omega)
          have hzb : lastD (sdT l k) ≤ 30000 := by rw [hm2]; exact (hmem _ (nth_mem (by omega))).2
          have ED : Hid (diffs (sdT l (k + 1)) = diffs (sdT l k) ++ [d - lastD (sdT l k)]) := by show _ = _; rw [E.out, diffs_snoc hm1, hm2]
          clear hm1 hm2 hmem
          obtain ⟨z, hzz⟩ : ∃ z, lastD (sdT l k) = z := ⟨_, rfl⟩
          rw [hzz] at hz hzb ED ⊢
          clear hzz
          go_wp2_with (at_builtin; refine wpList_append_int _ rfl _ _ rfl w.heap.size _ _ _ rfl (d - z) _ rfl (hown1.alloc _) (by simp) (by omega) (by have := hb1.size; simp; omega) ?_; intro v' w4 hown4 hgrow4; have hbo := below_append hb1 hb1.size hown1 hgrow4; have hc4 := ((H.out.keep hbo).cellAt hlt).1; rw [HD.out] at hc4)
          rw [← ED.out] at hown4
          go_roundw
          case rel => exact ⟨k + 1, q + 1, by omega, by omega, by go_num, by rw [EL.out], hown4, hbo⟩
          case measure => simp [intOf]; omega
      | false =>
        have E := Lib.hid (sdT_un (l := l) (k := k) (by rw [H.out.len]; exact hlt) hss)
        rw [hss] at hd
        clear hss hmem
        obtain ⟨z, hzz⟩ : ∃ z, lastD (sdT l k) = z := ⟨_, rfl⟩
        rw [hzz]
        go_wp2_with fail
        go_roundw
        case rel => exact ⟨k + 1, q, by omega, by omega, by go_num, by rw [E.out, hzz], by rw [E.out]; exact hown1, hb1⟩
        case measure => simp [intOf]; omega
    · obtain rfl : n = k := by omega
      have E : Hid (sdT l n = sureD l) := sdT_all (by rw [H.out.len]; exact Nat.le_refl _)
      obtain ⟨a', c', rfl, hr, hf⟩ := IRow.of_own hown
      go_wp2_with fail
      go_ret
      rw [E.out] at hr
      exact ⟨a', _, c', rfl, hr, hf, hb⟩
theorem specThick_any (a : Option Addr) (n c lo : Nat) (l : List Lay) (w : World) (h : LRow w lo a n c l) (hn : n ≤ 1048576) :
    Calls Try.prog 22 #[.slice a n c] w (RetInts (diffs (sdV l)) w) := by
  cases ho : okL l with
  | true => rw [sdV_ok ho]; exact specThick_ok _ _ _ _ _ _ h ho
  | false => rw [sdV_no ho]; exact specThick_no _ _ _ _ _ _ h hn ho

end Go.Proofs.Ytabbclfodlhikaa
