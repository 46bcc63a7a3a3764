/- The draw of layers that may be wrong. -/
import Derived.Test.YtbidnmjofljcnaaDrawLay2
namespace Go.Proofs.Ytbidnmjofljcnaa
open Go.RowKit

/-- Layers have been drawn out of a code; nothing is said of their depths. -/
def DrawnLay0 (w : World) (e : Ending) (w' : World) : Prop :=
  ∃ (a : Option Addr) (n c : Nat) (l : List Lay), n ≤ 9 ∧ e = .returned (.slice a n c) ∧ LRow w' w.heap.size a n c l ∧ LFree w' a n ∧ Below w.heap.size w w'
theorem drawnLay0_mk {w w' : World} {e : Ending} {a : Option Addr} {n c : Nat} {l : List Lay} (h1 : n ≤ 9) (he : e = .returned (.slice a n c)) (h2 : LRow w' w.heap.size a n c l) (h3 : LFree w' a n) (h4 : Below w.heap.size w w') : DrawnLay0 w e w' := ⟨a, n, c, l, h1, he, h2, h3, h4⟩
theorem LRow.set0 {w : World} {lo n c g off : Nat} {l : List Lay} (h : LRow w lo (some ⟨g, off, none⟩) n c l) (hi : 0 < n) (d : Int) :
    LRow (w.setCell ⟨g, off, none⟩ (.int .i64 d)) lo (some ⟨g, off, none⟩) n c (l.set 0 (d, sur l 0)) := by
  refine ⟨by rw [List.length_set]; exact h.1, h.2.1, fun hn => ?_⟩
  obtain ⟨g', off', e, h1, h2, h3⟩ := h.2.2 hn
  refine ⟨g', off', e, h1, by simpa [World.setCell] using h2, fun j hj => ?_⟩
  injection e with e
  injection e with e1 e2 _
  subst e1 e2
  rw [dep_set _ _ _ _ (by rw [h.1]; exact hi), sur_set _ _ _ _ (by rw [h.1]; exact hi)]
  by_cases e : j = 0
  · subst e
    rw [if_pos rfl, if_pos rfl]
    have h0 := h3 0 hj
    rw [Nat.zero_mul, Nat.add_zero] at h0 ⊢
    refine ⟨World.cell?_setCell_same _ _ _ h0.1, ?_⟩
    rw [World.cell?_setCell_other _ _ _ _ (by intro hh; injection hh with _ h5 _; omega)]
    exact h0.2
  · rw [if_neg e, if_neg e]
    refine ⟨?_, ?_⟩
    · rw [World.cell?_setCell_other _ _ _ _ (by intro hh; injection hh with _ h5 _; omega)]; exact (h3 j hj).1
    · rw [World.cell?_setCell_other _ _ _ _ (by intro hh; injection hh with _ h5 _; omega)]; exact (h3 j hj).2

set_option maxHeartbeats 1000000 in
theorem drawValid_any (a : Option Addr) (n c : Nat) (w : World) (h : BRow w w.heap.size a n) (hc : n ≤ c) (hn : n ≤ 9223372036854775807) :
    Calls Try.prog 20 #[.slice a n c] w (DrawnLay0 w) := by
  go_enter Try.func20, Try.ntmps20
  go_wp2_with fail
  refine (l6Open_any _ _ _ _ h hc hn).mono ?_
  rintro e w1 ⟨b, rfl, hb, r1, b1⟩
  have hbl : b < w1.heap.size := r1.1
  have hlow := b1.size
  go_wp2_with fail
  refine (l92Layers_any b 0 _ r1 (by omega)).mono ?_
  rintro e w2 ⟨a2, n2, c2, l2, hn2, hd2, rfl, i2, f2, r2, g2⟩
  have b2 := below_grown' b1 g2 hb
  by_cases hn1 : 1 < n2
  · go_wp2_with fail
    refine (pick_any b 20 6 _ r2 (by omega) (by omega) (by omega)).mono ?_
    rintro e w3 ⟨y, hy, rfl, r3, g3⟩
    have b3 := below_grown' b2 g3 hb
    have f3 := f2.grown i2 g3 hbl
    have i3 := i2.grown g3 hbl
    by_cases h0 : y = 0
    · subst h0
      obtain ⟨g, off, rfl, hgl, hg, hcc, _⟩ := i3.at_ (show 0 < n2 by omega)
      have hc0 : w3.cell? ⟨g, off, none⟩ = some (.int .i64 (dep l2 0)) := by rw [Nat.zero_mul, Nat.add_zero] at hcc; exact hcc
      have hf0 : w3.frozen? ⟨g, off, none⟩ = false := f3 g off rfl 0 (by omega)
      have hdb := hd2 0
      obtain ⟨dz, hdz⟩ : ∃ dz, dep l2 0 = dz := ⟨_, rfl⟩
      rw [hdz] at hc0 hdb
      have hgb : g ≠ b := by omega
      have n1 : (0 : Int) < (n2 : Int) := by omega
      have n0 : 0 < n2 := by omega
      clear hcc hdz
      go_wp2_with fail
      go_region_with ((go_at_call 37; refine (pick_any b 21 20 _ ?_ (by omega) (by omega) (by omega)).mono ?_; exact r3; rintro e w4 ⟨z, hz, rfl, r4, g4⟩; have hc4 : w4.cell? ⟨g, off, none⟩ = some (.int .i64 dz) := (grown_cell g4 (p := ⟨g, off, none⟩) hg hgb).trans hc0; have hf4 : w4.frozen? ⟨g, off, none⟩ = false := (World.frozen?_of_block (a := ⟨g, off, none⟩) (g4.block g hg (fun e => by injection e with e; exact hgb e))).trans hf0))
      all_goals
        go_wp2_with fail
        go_ret
        have b4 := below_grown' b3 (grown_drew g4) hb
        have f4 := f3.grown i3 (grown_drew g4) hbl
        have i4 := i3.grown (grown_drew g4) hbl
        exact drawnLay0_mk hn2 rfl ((i4.set0 (by omega) _).lower hlow) (f4.set_ _ _) (b4.setCell (show w.heap.size ≤ g by omega) _)
    · have d0 : ((y : Int) == 0) = false := by simpa using h0
      go_wp2_with fail
      go_ret
      exact ⟨_, _, _, l2, hn2, rfl, i3.lower hlow, f3, b3⟩
  · go_wp2_with fail
    go_ret
    exact ⟨_, _, _, l2, hn2, rfl, i2.lower hlow, f2, b2⟩

end Go.Proofs.Ytbidnmjofljcnaa
