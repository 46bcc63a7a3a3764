/- Walks of the functions on cuts: what l15Ways, the reference's CutsMany and the program's CutsMany return. -/
import Derived.Test.YtlelnnooemachaaBase
import Derived.Test.YtlelnnooemachaaWays
namespace Go.Proofs.Ytlelnnooemachaa
open Go.RowKit

theorem waysL_cell {w : World} {base g cap l m j : Nat} (h : w.ownsRow base 3 1 (.slice (some ⟨g, 0, none⟩) (j + 1) cap) (j + 1) ((Plain.waysL l m j).map (Value.int .i64))) (i : Nat) (hi : i ≤ j) :
    w.cell? ⟨g, i, none⟩ = some (.int .i64 (((Plain.waysL l m j)[i]?).getD 0)) := by
  rw [h.cellAt i (by omega), List.getElem?_map, List.getElem?_eq_getElem (by rw [Plain.length_waysL]; omega)]
  rfl

set_option maxHeartbeats 1000000 in
theorem ways_any (n l m : Nat) (w : World) (hn : n ≤ 16) (hl : 1 ≤ l) (hm : m ≤ 16) :
    Calls Try.prog 26 #[.int .i64 n, .int .i64 l, .int .i64 m] w fun e w' => e = .returned (.int .i64 (Plain.ways l m n)) ∧ Below w.heap.size w w' := by
  go_enter Try.func26, Try.ntmps26
  go_wp2
  go_loopw [7, 8] (fun v k wr => ∃ j : Nat, j ≤ n ∧ k = .int .i64 ((j : Int) + 1) ∧ wr.ownsRow w.heap.size 3 1 v (j + 1) ((Plain.waysL l m j).map (Value.int .i64)) ∧ Below w.heap.size w wr) (fun _ k _ => 17 - (intOf k).toNat)
  case atStart => exact ⟨0, Nat.zero_le _, rfl, World.ownsRow_lit w _ 1 (Nat.le_refl _) (by unfold maxLen; omega) rfl, (Below.refl _ _).alloc (Nat.le_refl _) _⟩
  case round =>
    obtain ⟨j, hj, rfl, hown, hb⟩ := hrel
    obtain ⟨g, cap, hv, hg, hglt⟩ := hown.form (by omega)
    subst hv
    have hcells := waysL_cell hown
    by_cases hlt : j < n
    · go_wp2
      go_loop [9, 10] (fun s d => ∃ i : Nat, i ≤ min m (j + 1) + 1 - l ∧ s = .int .i64 (Plain.sumW (Plain.waysL l m j) (j + 1) l i) ∧ d = .int .i64 ((l : Int) + i)) (fun _ d => 18 - (intOf d).toNat)
      case atStart => exact ⟨0, Nat.zero_le _, rfl, by simp⟩
      case round =>
        obtain ⟨i, hi, rfl, rfl⟩ := hrel
        have hb1 := Plain.sumW_le (Plain.waysL l m j) (j + 1) l (fun i hi => Plain.waysL_le l m hl j i hi) (by omega) i
        by_cases hc : l + i ≤ m ∧ l + i ≤ j + 1
        · obtain ⟨hc1, hc2⟩ := hc
          have hcell := hcells (j + 1 - (l + i)) (by omega)
          have hb2 := Plain.waysL_le l m hl j (j + 1 - (l + i)) (by omega)
          clear hcells
          go_wp2
          go_round
          case rel => exact ⟨i + 1, by omega, by simp [Plain.sumW], by go_num⟩
          case measure => simp [intOf]; omega
        · have e1 : i = min m (j + 1) + 1 - l := by omega
          have e2 : Plain.waysL l m (j + 1) = Plain.waysL l m j ++ [Plain.sumW (Plain.waysL l m j) (j + 1) l i] := by rw [e1]; rfl
          have E2 := Lib.hid e2
          clear e1 e2 hcells
          by_cases hc1 : l + i ≤ m
          all_goals
            go_wp2_with (at_builtin; refine wpList_append_int _ rfl _ _ rfl w.heap.size _ _ _ rfl (Plain.sumW (Plain.waysL l m j) (j + 1) l i) wr.heap.size rfl (hown.alloc _) (by simp) (by omega) (by have := hb.size; simp; omega) ?_; intro v' w1 hown1 hgrow1)
            go_roundw
            case rel => exact ⟨j + 1, by omega, by go_num, by rw [E2.out]; exact hown1, below_append hb hb.size hown hgrow1⟩
            case measure => simp [intOf]; omega
    · obtain rfl : j = n := by omega
      have hcell := hcells j (Nat.le_refl _)
      clear hcells
      go_wp2
      go_ret
      exact ⟨rfl, hb⟩

theorem dist_yes (l m : Int) (w : World) (h1 : 1 ≤ l) (h2 : l ≤ m) (h3 : m ≤ 16) : Calls Try.prog 27 #[.int .i64 l, .int .i64 m] w fun e w' => e = .returned (.bool true) ∧ w = w' := by
  go_enter Try.func27, Try.ntmps27
  go_wp2
  go_ret
  exact ⟨rfl, rfl⟩
theorem dist_no (l m : Int) (w : World) (h : ¬ (1 ≤ l ∧ l ≤ m ∧ m ≤ 16)) : Calls Try.prog 27 #[.int .i64 l, .int .i64 m] w fun e w' => e = .returned (.bool false) ∧ w = w' := by
  by_cases h1 : 1 ≤ l
  · by_cases h2 : l ≤ m
    · have h3 : ¬ m ≤ 16 := fun h3 => h ⟨h1, h2, h3⟩
      clear h
      go_enter Try.func27, Try.ntmps27
      go_wp2
      go_ret
      exact ⟨rfl, rfl⟩
    · clear h
      go_enter Try.func27, Try.ntmps27
      go_wp2
      go_ret
      exact ⟨rfl, rfl⟩
  · clear h
    go_enter Try.func27, Try.ntmps27
    go_wp2
    go_ret
    exact ⟨rfl, rfl⟩

set_option maxHeartbeats 1000000 in
theorem implMany_ok (n l m : Nat) (w : World) (h1 : 1 ≤ n) (hn : n ≤ 16) (hl : 1 ≤ l) (hlm : l ≤ m) (hm : m ≤ 16) :
    Calls Try.prog 13 #[.int .i64 n, .int .i64 l, .int .i64 m] w fun e w' => e = .returned (.int .i64 (Plain.ways l m n)) ∧ Below w.heap.size w w' := by
  have d1 : decide ((n : Int) < 1) = false := by simp; omega
  have d2 : decide ((16 : Int) < n) = false := by simp; omega
  go_enter Try.func13, Try.ntmps13
  go_wp2_with (first | (at_make; refine wpList_make_ints _ rfl _ _ rfl (n + 1) _ rfl rfl (by simp) (by omega) ?_; intro w1 hr1 hs1 hb1; have hc1 := hr1.cell (i := 0) (by omega); have hf1 := hr1.frozen 0) | (go_at_call 27; refine (dist_yes _ _ _ (by omega) (by omega) (by omega)).mono ?_; rintro e w' ⟨rfl, rfl⟩))
  obtain ⟨g, hg⟩ : ∃ g, g = w.heap.size := ⟨_, rfl⟩
  have hst : (w1.setCell ⟨w.heap.size, 0, none⟩ (.int .i64 1)).rowIs w.heap.size 3 (n + 1) (fun x => .int .i64 (Plain.tab l m 0 x)) := (hr1.set 0 (.int .i64 1)).congr (fun x _ => by
    unfold Plain.tab
    by_cases h : x = 0
    · subst h; rfl
    · rw [if_neg h, if_neg (by omega)])
  have hbb : Below w.heap.size w (w1.setCell ⟨w.heap.size, 0, none⟩ (.int .i64 1)) := (hb1 _ _ (Below.refl _ _) (Nat.le_refl _)).setCell (Nat.le_refl _) _
  clear hr1 hs1 hb1 hc1 hf1
  go_loopw [29] (fun k wr => ∃ j : Nat, j ≤ n + 1 ∧ k = .int .i64 (j : Int) ∧ wr.rowIs w.heap.size 3 (n + 1) (fun x => .int .i64 (Plain.tab l m j x)) ∧ Below w.heap.size w wr) (fun k _ => 18 - (intOf k).toNat)
  case atStart => exact ⟨0, Nat.zero_le _, rfl, hst, hbb⟩
  case round =>
    clear hst hbb
    obtain ⟨k, hk, rfl, hrow, hb⟩ := hrel
    by_cases hlt : k < n + 1
    · have d3 : decide ((k : Int) < (n : Int) + 1) = true := by simp; omega
      go_wp2
      obtain ⟨wo, hwo⟩ : ∃ wo : World, wo = wr := ⟨_, rfl⟩
      clear hwo
      go_loopw [9] (fun d wi => ∃ i : Nat, i ≤ min m k + 1 - l ∧ d = .int .i64 ((l : Int) + i) ∧ wi.rowIs w.heap.size 3 (n + 1) (fun x => .int .i64 (Plain.tabIn l m k i x)) ∧ Below w.heap.size w wi) (fun d _ => 18 - (intOf d).toNat)
      case atStart => exact ⟨0, Nat.zero_le _, by simp, hrow.congr (fun x _ => by rw [Plain.tabIn_zero]), hb⟩
      case round =>
        clear hrow hb
        obtain ⟨i, hi, rfl, hrow, hb⟩ := hrel
        by_cases hc : l + i ≤ m ∧ l + i ≤ k
        · obtain ⟨hc1, hc2⟩ := hc
          have ca := hrow.cell (i := k) (by omega)
          have fa := hrow.frozen k
          have cb := hrow.cell (i := k - (l + i)) (by omega)
          have ba := Plain.tabIn_bd l m k i k hl (by omega) (by omega) (by omega)
          have bb := Plain.tabIn_bd l m k i (k - (l + i)) hl (by omega) (by omega) (by omega)
          have hstep : (wr.setCell ⟨w.heap.size, k, none⟩ (.int .i64 (Plain.tabIn l m k i k + Plain.tabIn l m k i (k - (l + i))))).rowIs w.heap.size 3 (n + 1) (fun x => .int .i64 (Plain.tabIn l m k (i + 1) x)) := (hrow.set k _).congr (fun x _ => by
            rw [Plain.tabIn_step l m k i x hl hc2]
            by_cases hx : x = k
            · rw [if_pos hx, if_pos hx]
            · rw [if_neg hx, if_neg hx])
          obtain ⟨A, hA⟩ : ∃ A, A = Plain.tabIn l m k i k := ⟨_, rfl⟩
          obtain ⟨D, hD⟩ : ∃ D, D = Plain.tabIn l m k i (k - (l + i)) := ⟨_, rfl⟩
          rw [← hA] at ca ba hstep
          rw [← hD] at cb bb hstep
          have Hstep := Lib.hid hstep
          have HB := Lib.hid hb
          clear hstep hrow hb hA hD
          have e1 : IntKind.i64.wrap ((k : Int) - ((l : Int) + i)) = (k : Int) - ((l : Int) + i) := IntWalk.i64_in ((k : Int) - ((l : Int) + i)) (by omega)
          have e2 : ((k : Int) - ((l : Int) + i)).toNat = k - (l + i) := by omega
          have e3 : IntKind.i64.wrap (A + D) = A + D := IntWalk.i64_in (A + D) (by omega)
          by_cases hkm : k < m
          all_goals
            go_wp2
            go_region
            clear e1 e2 e3
            go_wp2
            go_roundw
            case rel => exact ⟨i + 1, by omega, by go_num, Hstep.out.drew, (HB.out.setCell (Nat.le_refl _) _).drew⟩
            case measure => simp [intOf]; omega
        · have hend : wr.rowIs w.heap.size 3 (n + 1) (fun x => .int .i64 (Plain.tab l m (k + 1) x)) := hrow.congr (fun x _ => by rw [Plain.tabIn_end l m k i x (by omega)])
          clear hrow
          have Hend := Lib.hid hend
          clear hend
          go_wp2
          go_roundw
          case rel => exact ⟨k + 1, by omega, by go_num, Hend.out, hb⟩
          case measure => simp [intOf]; omega
    · obtain rfl : k = n + 1 := by omega
      have hcell := hrow.cell (i := n) (by omega)
      have hres : Plain.tab l m (n + 1) n = Plain.ways l m n := by unfold Plain.tab; rw [if_pos (by omega)]
      rw [hres] at hcell
      clear hrow hres
      go_wp2
      go_ret
      exact ⟨rfl, hb⟩

end Go.Proofs.Ytlelnnooemachaa
