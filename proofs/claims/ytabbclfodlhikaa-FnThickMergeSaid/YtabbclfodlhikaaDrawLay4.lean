/- The draws for depths and thicknesses of layers. -/
import Derived.Test.YtabbclfodlhikaaDrawLay2
namespace Go.Proofs.Ytabbclfodlhikaa
open Go.RowKit

def DrawnLayN (w : World) (e : Ending) (w' : World) : Prop :=
  ∃ (a : Option Addr) (n c : Nat) (l : List Lay) (x : Nat), n ≤ 9 ∧ LDrw l ∧ x < 6 ∧ e = .returned (.tuple #[.slice a n c, .int .i64 x]) ∧ LRow w' w.heap.size a n c l ∧ LFree w' a n ∧ Below w.heap.size w w'
theorem drawDepth_any (a : Option Addr) (n c : Nat) (w : World) (h : BRow w w.heap.size a n) (hc : n ≤ c) (hn : n ≤ 9223372036854775807) :
    Calls Try.prog 21 #[.slice a n c] w (DrawnLayN w) := by
  go_enter Try.func21, Try.ntmps21
  go_wp2_with fail
  refine (l6Open_any _ _ _ _ h hc hn).mono ?_
  rintro e w1 ⟨b, rfl, hb, r1, b1⟩
  have hbl : b < w1.heap.size := r1.1
  have hlow := b1.size
  go_wp2_with fail
  refine (l92Layers_any b 0 _ r1 (by omega)).mono ?_
  rintro e w2 ⟨a2, n2, c2, l2, hn2, hd2, rfl, i2, f2, r2, g2⟩
  have b2 := below_grown' b1 g2 hb
  go_wp2_with fail
  refine (pick_any b 20 6 _ r2 (by omega) (by omega) (by omega)).mono ?_
  rintro e w3 ⟨y, hy, rfl, r3, g3⟩
  have b3 := below_grown' b2 g3 hb
  have f3 := f2.grown i2 g3 hbl
  have i3 := (i2.grown g3 hbl).lower hlow
  go_wp2_with fail
  go_ret2
  exact ⟨a2, n2, c2, l2, y, hn2, hd2, hy, rfl, i3, f3, b3⟩
theorem drawThick_any (a : Option Addr) (n c : Nat) (w : World) (h : BRow w w.heap.size a n) (hc : n ≤ c) (hn : n ≤ 9223372036854775807) :
    Calls Try.prog 28 #[.slice a n c] w (DrawnLay w) := by
  go_enter Try.func28, Try.ntmps28
  go_wp2_with fail
  refine (l6Open_any _ _ _ _ h hc hn).mono ?_
  rintro e w1 ⟨b, rfl, hb, r1, b1⟩
  have hbl : b < w1.heap.size := r1.1
  have hlow := b1.size
  go_wp2_with fail
  refine (l92Layers_any b 0 _ r1 (by omega)).mono ?_
  rintro e w2 ⟨a2, n2, c2, l2, hn2, hd2, rfl, i2, f2, r2, g2⟩
  have b2 := below_grown' b1 g2 hb
  go_wp2_with fail
  go_ret
  exact ⟨a2, n2, c2, l2, hn2, hd2, rfl, i2.lower hlow, f2, b2⟩

end Go.Proofs.Ytabbclfodlhikaa
