/- The draw of two lists of layers; sameLayers. -/
import Derived.Test.YtgfdplkgcnciiaaDrawLay2
import Derived.Test.YtgfdplkgcnciiaaMrg1
namespace Go.Proofs.Ytgfdplkgcnciiaa
open Go.RowKit

/-- Two lists of layers have been drawn out of a code. -/
def DrawnMrg (w : World) (e : Ending) (w' : World) : Prop :=
  ∃ (a : Option Addr) (n c : Nat) (l : List Lay) (b : Option Addr) (m d : Nat) (l' : List Lay), n ≤ 9 ∧ m ≤ 9 ∧ LDrw l ∧ e = .returned (.tuple #[.slice a n c, .slice b m d]) ∧ LRow w' w.heap.size a n c l ∧ LRow w' w.heap.size b m d l' ∧ Below w.heap.size w w'

set_option maxHeartbeats 2000000 in
theorem drawMerge_any (a : Option Addr) (n c : Nat) (w : World) (h : BRow w w.heap.size a n) (hc : n ≤ c) (hn : n ≤ 9223372036854775807) :
    Calls Try.prog 9 #[.slice a n c] w (DrawnMrg w) := by
  go_enter Try.func9, Try.ntmps9
  go_wp2_with fail
  refine (l6Open_any _ _ _ _ h hc hn).mono ?_
  rintro e w1 ⟨b, rfl, hb, r1, b1⟩
  have hbl : b < w1.heap.size := r1.1
  have hlow := b1.size
  go_wp2_with fail
  refine (l92Layers_any b 0 _ r1 (by omega)).mono ?_
  rintro e w2 ⟨a2, n2, c2, l2, hn2, hd2, rfl, i2, f2, r2, g2⟩
  have b2 := below_grown' b1 g2 hb
  have hbl2 : b < w2.heap.size := r2.1
  have hlow2 := b2.size
  go_wp2_with fail
  refine (l92Layers_any b 20 _ r2 (by omega)).mono ?_
  rintro e w3 ⟨a3, n3, c3, l3, hn3, hd3, rfl, i3, f3, r3, g3⟩
  have b3 := below_grown' b2 g3 hb
  have i23 := i2.grown g3 hbl
  go_wp2_with fail
  refine (pick_any b 40 2 _ r3 (by omega) (by omega) (by omega)).mono ?_
  rintro e w4 ⟨y, hy, rfl, r4, g4⟩
  have b4 := below_grown' b3 g4 hb
  have i24 := i23.grown g4 hbl
  have i34 := i3.grown g4 hbl2
  clear i2 f2 r2 g2 b2 i3 f3 r3 g3 b3 g4 i23 r1 b1
  by_cases h0 : y = 0
  · subst h0
    have hb5 : Below w.heap.size w (w4.alloc (.cells #[] 32)) := b4.alloc b4.size _
    have r5 : Rdr (w4.alloc (.cells #[] 32)) b 41 := r4.keep ((Below.refl w4.heap.size _).alloc (Nat.le_refl _) _) r4.1
    have i5 := Lib.hid (i24.keep (w' := w4.alloc (.cells #[] 32)) ((Below.refl w4.heap.size _).alloc (Nat.le_refl _) _))
    have ho0 : (w4.alloc (.cells #[] 32)).ownsRow w4.heap.size 32 2 (.slice (some ⟨w4.heap.size, 0, none⟩) 0 0) 0 (flat []) := World.ownsRow_lit w4 _ 0 (Nat.le_refl _) (by unfold maxLen; omega) rfl
    have g5 : w4.grownBy (w4.alloc (.cells #[] 32)) (some b) := grown_below ((Below.refl _ _).alloc (Nat.le_refl _) _) _
    have hbw4 := r4.1
    clear i34 hb5 i5
    go_wp2_with fail
    go_loopw [6, 7] (fun v i wr => ∃ (k j : Nat) (L : List Lay), k ≤ n2 ∧ j ≤ k ∧ i = .int .i64 k ∧ wr.ownsRow w4.heap.size 32 2 v j (flat L) ∧ Rdr wr b (41 + 3 * k) ∧ w4.grownBy wr (some b)) (fun _ i _ => n2 - (intOf i).toNat)
    case atStart => exact ⟨0, 0, [], Nat.zero_le _, Nat.le_refl _, rfl, ho0, r5, g5⟩
    case round =>
      clear ho0 r5 g5
      obtain ⟨k, j, L, hk, hj, rfl, hown, hr, hg⟩ := hrel
      by_cases hlt : k < n2
      · go_wp2_with fail
        refine (pick_any b (41 + 3 * k) 2 _ hr (by omega) (by omega) (by omega)).mono ?_
        rintro e w5 ⟨y, hy, rfl, r5, g5⟩
        have G5 := grown_trans hg g5
        have ho5 := own_pick hown g5 hbw4
        clear hown hr hg g5
        by_cases h0 : y = 0
        · subst h0
          obtain ⟨g, off, rfl, hgl, hgs, hcc, _⟩ := (i24.grown G5 hbl).at_ hlt
          have hdz := hd2 k
          obtain ⟨dz, hz0⟩ : ∃ dz, dep l2 k = dz := ⟨_, rfl⟩
          rw [hz0] at hcc hdz
          clear hz0
          have n1 : (0 : Int) ≤ k := by omega
          have n2' : (k : Int) < n2 := by omega
          have hgb : g ≠ b := by omega
          have hg4 : g < w4.heap.size := i24.high g off rfl (by omega)
          have hsz5 := G5.size
          go_wp2_with fail
          go_region_held3 (fun w' => w'.cell? ⟨g, off + k * 2, none⟩ = some (.int .i64 dz))
            (first
              | go_keep
              | (rw [hgrow4.cell_far _ (by simp; omega) (own_ne hoB hg4)]; go_keep)
              | (rw [grown_cell gB (p := ⟨g, off + k * 2, none⟩) (Nat.lt_of_lt_of_le hgs gA.size) hgb]; assumption)
              | (rw [grown_cell gA (p := ⟨g, off + k * 2, none⟩) hgs hgb]; assumption))
            (first
              | (refine step_append_lay _ (by rfl) _ _ (by rfl) w4.heap.size _ _ _ (by rfl) (dz + (u : Int)) ((z : Int) == 0) wB.heap.size (by rfl) (hoB.alloc _) (by go_simp) (by go_simp) (by omega) (by have := gC.size; simp; omega) ?_; intro v' w6 hown4 hgrow4)
              | (go_at_call 25; refine (pick_any b (41 + 3 * k + 2) 2 _ ?_ (by omega) (by omega) (by omega)).mono ?_; exact rA; rintro e wB ⟨z, hz, rfl, rB, gB⟩; have gC := grown_trans (grown_trans G5 (grown_drew gA)) gB; have hsC := gC.size; have hoB := own_pick (own_pick ho5 (grown_drew gA) hbw4) gB hbw4)
              | (go_at_call 25; refine (pick_any b (41 + 3 * k + 1) 2 _ ?_ (by omega) (by omega) (by omega)).mono ?_; exact r5; rintro e wA ⟨u, hu, rfl, rA, gA⟩; have hwr : IntKind.i64.wrap (dz + (u : Int)) = dz + (u : Int) := IntWalk.i64_in _ (by omega)))
          all_goals
            go_wp2_with fail
            go_roundw
            case rel => exact ⟨k + 1, j + 1, L ++ [(dz + (u : Int), ((z : Int) == 0))], by omega, by omega, by go_num, hown4, (rdr_append rB hbw4 gC.size hoB hgrow4).more (by omega), grown_append gC rfl hoB hgrow4⟩
            case measure => simp [intOf]; omega
        · have d0 : ((y : Int) == 0) = false := by simpa using h0
          go_wp2_with fail
          go_roundw
          case rel => exact ⟨k + 1, j, L, by omega, by omega, by go_num, ho5, r5.more (by omega), G5⟩
          case measure => simp [intOf]; omega
      · obtain rfl : n2 = k := by omega
        obtain ⟨a', c', rfl, hrow, hfree⟩ := LRow.of_own hown
        have b5 := below_grown' b4 hg hb
        have i25 := (i24.grown hg hbl).lower hlow
        have hsz4 := b4.size
        go_wp2_with fail
        go_ret2
        exact ⟨a2, n2, c2, l2, a', j, c', L, hn2, by omega, hd2, rfl, i25, hrow.lower hsz4, b5⟩
  · have d0 : ((y : Int) == 0) = false := by simpa using h0
    go_wp2_with fail
    go_ret2
    exact ⟨a2, n2, c2, l2, a3, n3, c3, l3, hn2, hn3, hd2, rfl, i24.lower hlow, i34.lower hlow2, b4⟩

set_option maxHeartbeats 400000 in
theorem sameLays_yes (a a' : Option Addr) (n c c' lo lo' : Nat) (l : List Lay) (w : World) (h : LRow w lo a n c l) (h' : LRow w lo' a' n c' l) (hn : n ≤ 1048576) :
    Calls Try.prog 12 #[.slice a n c, .slice a' n c'] w fun e w' => e = .returned (.bool true) ∧ Below w.heap.size w w' := by
  have H := Lib.hid h
  have H' := Lib.hid h'
  clear h h'
  go_enter Try.func12, Try.ntmps12
  go_wp2_with fail
  go_loopw [5] (fun i wr => ∃ k : Nat, k ≤ n ∧ i = .int .i64 k ∧ Below w.heap.size w wr) (fun i _ => n - (intOf i).toNat)
  case atStart => exact ⟨0, Nat.zero_le _, rfl, Below.refl _ _⟩
  case round =>
    obtain ⟨k, hk, rfl, hb⟩ := hrel
    by_cases hlt : k < n
    · obtain ⟨g, off, rfl, _, hg, hc, hd⟩ := (H.out.keep hb).at_ hlt
      obtain ⟨g', off', rfl, _, hg', hc', hd'⟩ := (H'.out.keep hb).at_ hlt
      have n1 : (0 : Int) ≤ k := by omega
      have n2 : (k : Int) < n := by omega
      go_wp2_with fail
      go_quiet (fail)
      have hb2 := below2 hb (below_new wr nq)
      go_wp2_with fail
      go_roundw
      case rel => exact ⟨k + 1, by omega, by go_num, hb2⟩
      case measure => simp [intOf]; omega
    · obtain rfl : n = k := by omega
      go_wp2_with fail
      go_ret
      exact ⟨rfl, hb⟩

end Go.Proofs.Ytgfdplkgcnciiaa
