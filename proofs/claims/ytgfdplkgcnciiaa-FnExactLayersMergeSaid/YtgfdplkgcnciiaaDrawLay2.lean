/- The draws of layers out of codes. -/
import Derived.Test.YtgfdplkgcnciiaaDrawLay
import Derived.Test.YtgfdplkgcnciiaaLay2
namespace Go.Proofs.Ytgfdplkgcnciiaa
open Go.RowKit

theorem ret_ii' {k : IntKind} {a b a' b' : Int} (h : a = a') (h' : b = b') : Ending.returned (.tuple #[.int k a, .int k b]) = .returned (.tuple #[.int k a', .int k b']) := by rw [h, h']


/-- Layers and two numbers have been drawn out of a code. -/
def DrawnLay3 (w : World) (e : Ending) (w' : World) : Prop :=
  ∃ (a : Option Addr) (n c : Nat) (l : List Lay) (x y : Int), n ≤ 9 ∧ LDrw l ∧ -400001 ≤ x ∧ x ≤ 400001 ∧ -1 ≤ y ∧ y ≤ 30001 ∧ e = .returned (.tuple #[.slice a n c, .int .i64 x, .int .i64 y]) ∧ LRow w' w.heap.size a n c l ∧ LFree w' a n ∧ Below w.heap.size w w'
theorem drawnLay3_mk {w w' : World} {e : Ending} {a : Option Addr} {n c : Nat} {l : List Lay} {x y : Int} (h1 : n ≤ 9) (h2 : LDrw l) (h3 : -400001 ≤ x) (h4 : x ≤ 400001) (h5 : -1 ≤ y) (h6 : y ≤ 30001) (he : e = .returned (.tuple #[.slice a n c, .int .i64 x, .int .i64 y])) (h7 : LRow w' w.heap.size a n c l) (h8 : LFree w' a n) (h9 : Below w.heap.size w w') : DrawnLay3 w e w' := ⟨a, n, c, l, x, y, h1, h2, h3, h4, h5, h6, he, h7, h8, h9⟩
/-- Layers have been drawn out of a code. -/
def DrawnLay (w : World) (e : Ending) (w' : World) : Prop :=
  ∃ (a : Option Addr) (n c : Nat) (l : List Lay), n ≤ 9 ∧ LDrw l ∧ e = .returned (.slice a n c) ∧ LRow w' w.heap.size a n c l ∧ LFree w' a n ∧ Below w.heap.size w w'


set_option maxHeartbeats 1000000 in
theorem drawAge_any (a : Option Addr) (n c : Nat) (w : World) (h : BRow w w.heap.size a n) (hc : n ≤ c) (hn : n ≤ 9223372036854775807) :
    Calls Try.prog 20 #[.slice a n c] w (DrawnLay3 w) := by
  go_enter Try.func20, Try.ntmps20
  go_wp2_with fail
  refine (l6Open_any _ _ _ _ h hc hn).mono ?_
  rintro e w1 ⟨b, rfl, hb, r1, b1⟩
  have hbl : b < w1.heap.size := r1.1
  have hlow := b1.size
  go_wp2_with fail
  refine (l92Layers_any b 0 _ r1 (by omega)).mono ?_
  rintro e w2 ⟨a2, n2, c2, l2, hn2, hd2, rfl, i2, f2, r2, g2⟩
  have b2 := below_grown' b1 g2 hb
  go_wp2_with fail
  refine (pick_any b 20 16 _ r2 (by omega) (by omega) (by omega)).mono ?_
  rintro e w3 ⟨y, hy, rfl, r3, g3⟩
  have b3 := below_grown' b2 g3 hb
  have f3 := f2.grown i2 g3 hbl
  have i3 := i2.grown g3 hbl
  by_cases h0 : y = 0
  · subst h0
    go_wp2_with fail
    go_region_with ((go_at_call 25; refine (pick_any b 21 2 _ ?_ (by omega) (by omega) (by omega)).mono ?_; (first | exact r3 | exact r3.keep (((Below.refl w3.heap.size w3).drew.alloc (Nat.le_refl _) _)) r3.1); rintro e w4 ⟨z, hz, rfl, r4, g4⟩; have hz3 : ∀ (s t : Int) (h : z < [Value.int .i64 s, Value.int .i64 t].length), [Value.int .i64 s, Value.int .i64 t][z]'h = .int .i64 (nth [s, t] z) := fun s t h => arr_at [s, t] z h; have hz4 := fun h => g4.cell (a := ⟨w3.heap.size, z, none⟩) (v := .int .i64 (nth [-400001, 400001] z)) h (fun e => by injection e with e; have := r3.1; simp at e; omega); have hz5 : (z : Int) < 2 := by omega))
    all_goals
      go_wp2
      go_ret3
      have hzv : nth [-400001, 400001] z = -400001 ∨ nth [-400001, 400001] z = 400001 := by
        match z, hz with
        | 0, _ => exact .inl rfl
        | 1, _ => exact .inr rfl
      first
        | (have hA : Below w3.heap.size w3 (w3.alloc (.cells #[.int .i64 (-400001), .int .i64 400001] 3)) := (Below.refl _ _).alloc (Nat.le_refl _) _
           exact drawnLay3_mk hn2 hd2 (x := nth [-400001, 400001] z) (y := 5) (by omega) (by omega) (by omega) (by omega) rfl (((i3.keep hA).grown (grown_drew g4) hbl).lower hlow) ((f3.keep i3 hA).grown (i3.keep hA) (grown_drew g4) hbl) (below_grown' (b3.alloc b3.size _) (grown_drew g4) hb))
        | (have hA : Below w4.heap.size w4 (w4.alloc (.cells #[.int .i64 (-400001), .int .i64 400001] 3)) := (Below.refl _ _).alloc (Nat.le_refl _) _
           have hG := below_grown' b3 (grown_drew g4) hb
           exact drawnLay3_mk hn2 hd2 (x := nth [-400001, 400001] z) (y := 5) (by omega) (by omega) (by omega) (by omega) rfl (((i3.grown (grown_drew g4) hbl).keep hA).lower hlow) ((f3.grown i3 (grown_drew g4) hbl).keep (i3.grown (grown_drew g4) hbl) hA) (hG.alloc hG.size _))
  · have d0 : ((y : Int) == 0) = false := by simpa using h0
    go_wp2_with fail
    refine (pick_any b 21 200 _ r3 (by omega) (by omega) (by omega)).mono ?_
    rintro e w4 ⟨z, hz, rfl, r4, g4⟩
    have b4 := below_grown' b3 g4 hb
    have f4 := f3.grown i3 g4 hbl
    have i4 := i3.grown g4 hbl
    go_wp2_with fail
    refine (pick_any b 22 120 _ r4 (by omega) (by omega) (by omega)).mono ?_
    rintro e w5 ⟨u, hu, rfl, r5, g5⟩
    have b5 := below_grown' b4 g5 hb
    have f5 := f4.grown i4 g5 hbl
    have i5 := i4.grown g5 hbl
    go_wp2_with fail
    refine (pick_any b 23 20 _ r5 (by omega) (by omega) (by omega)).mono ?_
    rintro e w6 ⟨v, hv, rfl, r6, g6⟩
    have b6 := below_grown' b5 g6 hb
    have f6 := f5.grown i5 g6 hbl
    have i6 := (i5.grown g6 hbl).lower hlow
    go_wp2_with fail
    go_ret3
    exact drawnLay3_mk hn2 hd2 (x := (z : Int) - 100) (y := (u : Int) - (v : Int) / 19) (by omega) (by omega) (by omega) (by omega) rfl i6 f6 b6

end Go.Proofs.Ytgfdplkgcnciiaa
