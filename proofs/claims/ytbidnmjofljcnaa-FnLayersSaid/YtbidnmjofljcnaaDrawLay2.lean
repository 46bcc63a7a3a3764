/- The draws of layers out of codes. -/
import Derived.Test.YtbidnmjofljcnaaDrawLay
import Derived.Test.YtbidnmjofljcnaaLay2
namespace Go.Proofs.Ytbidnmjofljcnaa
open Go.RowKit

theorem ret_ii' {k : IntKind} {a b a' b' : Int} (h : a = a') (h' : b = b') : Ending.returned (.tuple #[.int k a, .int k b]) = .returned (.tuple #[.int k a', .int k b']) := by rw [h, h']

def SpanDrawn (b p : Nat) (w : World) (e : Ending) (w' : World) : Prop :=
  ∃ (t : Nat) (x : Int), t ≤ 149 ∧ -1 ≤ x ∧ x ≤ 30001 ∧ e = .returned (.tuple #[.int .i64 t, .int .i64 x]) ∧ Rdr w' b (p + 3) ∧ w.grownBy w' (some b)
theorem spanDrawn_mk {b p t : Nat} {x : Int} {w w' : World} {e : Ending} (h1 : t ≤ 149) (h2 : -1 ≤ x) (h3 : x ≤ 30001) (he : e = .returned (.tuple #[.int .i64 t, .int .i64 x])) (hr : Rdr w' b (p + 3)) (hg : w.grownBy w' (some b)) : SpanDrawn b p w e w' := ⟨t, x, h1, h2, h3, he, hr, hg⟩

set_option maxHeartbeats 1000000 in
theorem span_any (b p : Nat) (w : World) (h : Rdr w b p) (hp : p ≤ 50000) :
    Calls Try.prog 40 #[.pointer (some ⟨b, 0, none⟩)] w (SpanDrawn b p w) := by
  go_enter Try.func40, Try.ntmps40
  go_wp2_with fail
  refine (pick_any b p 150 _ h (by omega) (by omega) (by omega)).mono ?_
  rintro e w1 ⟨x, hx, rfl, r1, g1⟩
  go_wp2_with fail
  refine (pick_any b (p + 1) 16 _ r1 (by omega) (by omega) (by omega)).mono ?_
  rintro e w2 ⟨y, hy, rfl, r2, g2⟩
  by_cases h0 : y = 0
  · subst h0
    have hw1 : IntKind.i64.wrap ((x : Int) - 1) = (x : Int) - 1 := IntWalk.i64_in _ (by omega)
    go_wp2_with fail
    go_region_with ((go_at_call 37; refine (pick_any b (p + 2) 3 _ ?_ (by omega) (by omega) (by omega)).mono ?_; (first | exact r2 | exact r2.keep (((Below.refl w2.heap.size w2).drew.alloc (Nat.le_refl _) _)) r2.1); rintro e w3 ⟨z, hz, rfl, r3, g3⟩; have hz3 : ∀ (s t u : Int) (h : z < [Value.int .i64 s, Value.int .i64 t, Value.int .i64 u].length), [Value.int .i64 s, Value.int .i64 t, Value.int .i64 u][z]'h = .int .i64 (nth [s, t, u] z) := fun s t u h => arr_at [s, t, u] z h; have hz4 := fun h => g3.cell (a := ⟨w2.heap.size, z, none⟩) (v := .int .i64 (nth [(x : Int) - 1, 30001, 30000] z)) h (fun e => by injection e with e; have := r2.1; simp at e; omega); have hz5 : (z : Int) < 3 := by omega))
    all_goals
      go_wp2
      go_ret2
      have hzv := three_at ((x : Int) - 1) 30001 30000 z hz
      first
        | exact spanDrawn_mk (t := x) (x := nth [(x : Int) - 1, 30001, 30000] z) (by omega) (by omega) (by omega) rfl r3 (grown_trans (grown_trans g1 g2) (grown_trans (grown_below ((Below.refl _ _).alloc (Nat.le_refl _) _) _) (grown_drew g3)))
        | exact spanDrawn_mk (t := x) (x := nth [(x : Int) - 1, 30001, 30000] z) (by omega) (by omega) (by omega) rfl (r3.keep ((Below.refl _ _).alloc (Nat.le_refl _) _) r3.1) (grown_trans (grown_trans (grown_trans g1 g2) (grown_drew g3)) (grown_below ((Below.refl _ _).alloc (Nat.le_refl _) _) _))
  · have d0 : ((y : Int) == 0) = false := by simpa using h0
    go_wp2_with fail
    refine (pick_any b (p + 2) 120 _ r2 (by omega) (by omega) (by omega)).mono ?_
    rintro e w3 ⟨z, hz, rfl, r3, g3⟩
    go_wp2_with fail
    go_ret2
    exact spanDrawn_mk (t := x) (x := (x : Int) + z) (by omega) (by omega) (by omega) rfl r3 (grown_trans (grown_trans g1 g2) g3)

/-- Layers and two numbers have been drawn out of a code. -/
def DrawnLay3 (w : World) (e : Ending) (w' : World) : Prop :=
  ∃ (a : Option Addr) (n c : Nat) (l : List Lay) (x y : Int), n ≤ 9 ∧ LDrw l ∧ -400001 ≤ x ∧ x ≤ 400001 ∧ -1 ≤ y ∧ y ≤ 30001 ∧ e = .returned (.tuple #[.slice a n c, .int .i64 x, .int .i64 y]) ∧ LRow w' w.heap.size a n c l ∧ LFree w' a n ∧ Below w.heap.size w w'
theorem drawnLay3_mk {w w' : World} {e : Ending} {a : Option Addr} {n c : Nat} {l : List Lay} {x y : Int} (h1 : n ≤ 9) (h2 : LDrw l) (h3 : -400001 ≤ x) (h4 : x ≤ 400001) (h5 : -1 ≤ y) (h6 : y ≤ 30001) (he : e = .returned (.tuple #[.slice a n c, .int .i64 x, .int .i64 y])) (h7 : LRow w' w.heap.size a n c l) (h8 : LFree w' a n) (h9 : Below w.heap.size w w') : DrawnLay3 w e w' := ⟨a, n, c, l, x, y, h1, h2, h3, h4, h5, h6, he, h7, h8, h9⟩
/-- Layers have been drawn out of a code. -/
def DrawnLay (w : World) (e : Ending) (w' : World) : Prop :=
  ∃ (a : Option Addr) (n c : Nat) (l : List Lay), n ≤ 9 ∧ LDrw l ∧ e = .returned (.slice a n c) ∧ LRow w' w.heap.size a n c l ∧ LFree w' a n ∧ Below w.heap.size w w'

set_option maxHeartbeats 1000000 in
theorem drawCount_any (a : Option Addr) (n c : Nat) (w : World) (h : BRow w w.heap.size a n) (hc : n ≤ c) (hn : n ≤ 9223372036854775807) :
    Calls Try.prog 28 #[.slice a n c] w (DrawnLay3 w) := by
  go_enter Try.func28, Try.ntmps28
  go_wp2_with fail
  refine (l6Open_any _ _ _ _ h hc hn).mono ?_
  rintro e w1 ⟨b, rfl, hb, r1, b1⟩
  have hbl : b < w1.heap.size := r1.1
  have hlow := b1.size
  go_wp2_with fail
  refine (l92Layers_any b 0 _ r1 (by omega)).mono ?_
  rintro e w2 ⟨a2, n2, c2, l2, hn2, hd2, rfl, i2, f2, r2, g2⟩
  have b2 := below_grown' b1 g2 hb
  go_wp2_with fail
  refine (span_any b 20 _ r2 (by omega)).mono ?_
  rintro e w3 ⟨t, x, ht, hx1, hx2, rfl, r3, g3⟩
  have b3 := below_grown' b2 g3 hb
  have f3 := f2.grown i2 g3 hbl
  have i3 := (i2.grown g3 hbl).lower hlow
  go_wp2_with fail
  go_ret3
  exact drawnLay3_mk hn2 hd2 (x := (t : Int) / 3) (by omega) (by omega) hx1 hx2 rfl i3 f3 b3
theorem drawHalf_any (a : Option Addr) (n c : Nat) (w : World) (h : BRow w w.heap.size a n) (hc : n ≤ c) (hn : n ≤ 9223372036854775807) :
    Calls Try.prog 30 #[.slice a n c] w (DrawnLay3 w) := by
  go_enter Try.func30, Try.ntmps30
  go_wp2_with fail
  refine (drawCount_any _ _ _ _ h hc hn).mono ?_
  rintro e w1 ⟨a1, n1, c1, l1, x, y, h1, h2, h3, h4, h5, h6, rfl, i1, f1, b1⟩
  go_wp2_with fail
  go_ret3
  exact drawnLay3_mk h1 h2 h3 h4 h5 h6 rfl i1 f1 b1

set_option maxHeartbeats 1000000 in
theorem drawAge_any (a : Option Addr) (n c : Nat) (w : World) (h : BRow w w.heap.size a n) (hc : n ≤ c) (hn : n ≤ 9223372036854775807) :
    Calls Try.prog 29 #[.slice a n c] w (DrawnLay3 w) := by
  go_enter Try.func29, Try.ntmps29
  go_wp2_with fail
  refine (l6Open_any _ _ _ _ h hc hn).mono ?_
  rintro e w1 ⟨b, rfl, hb, r1, b1⟩
  have hbl : b < w1.heap.size := r1.1
  have hlow := b1.size
  go_wp2_with fail
  refine (l92Layers_any b 0 _ r1 (by omega)).mono ?_
  rintro e w2 ⟨a2, n2, c2, l2, hn2, hd2, rfl, i2, f2, r2, g2⟩
  have b2 := below_grown' b1 g2 hb
  go_wp2_with fail
  refine (pick_any b 20 16 _ r2 (by omega) (by omega) (by omega)).mono ?_
  rintro e w3 ⟨y, hy, rfl, r3, g3⟩
  have b3 := below_grown' b2 g3 hb
  have f3 := f2.grown i2 g3 hbl
  have i3 := i2.grown g3 hbl
  by_cases h0 : y = 0
  · subst h0
    go_wp2_with fail
    go_region_with ((go_at_call 37; refine (pick_any b 21 2 _ ?_ (by omega) (by omega) (by omega)).mono ?_; (first | exact r3 | exact r3.keep (((Below.refl w3.heap.size w3).drew.alloc (Nat.le_refl _) _)) r3.1); rintro e w4 ⟨z, hz, rfl, r4, g4⟩; have hz3 : ∀ (s t : Int) (h : z < [Value.int .i64 s, Value.int .i64 t].length), [Value.int .i64 s, Value.int .i64 t][z]'h = .int .i64 (nth [s, t] z) := fun s t h => arr_at [s, t] z h; have hz4 := fun h => g4.cell (a := ⟨w3.heap.size, z, none⟩) (v := .int .i64 (nth [-400001, 400001] z)) h (fun e => by injection e with e; have := r3.1; simp at e; omega); have hz5 : (z : Int) < 2 := by omega))
    all_goals
      go_wp2
      go_ret3
      have hzv : nth [-400001, 400001] z = -400001 ∨ nth [-400001, 400001] z = 400001 := by
        match z, hz with
        | 0, _ => exact .inl rfl
        | 1, _ => exact .inr rfl
      first
        | (have hA : Below w3.heap.size w3 (w3.alloc (.cells #[.int .i64 (-400001), .int .i64 400001] 3)) := (Below.refl _ _).alloc (Nat.le_refl _) _
           exact drawnLay3_mk hn2 hd2 (x := nth [-400001, 400001] z) (y := 5) (by omega) (by omega) (by omega) (by omega) rfl (((i3.keep hA).grown (grown_drew g4) hbl).lower hlow) ((f3.keep i3 hA).grown (i3.keep hA) (grown_drew g4) hbl) (below_grown' (b3.alloc b3.size _) (grown_drew g4) hb))
        | (have hA : Below w4.heap.size w4 (w4.alloc (.cells #[.int .i64 (-400001), .int .i64 400001] 3)) := (Below.refl _ _).alloc (Nat.le_refl _) _
           have hG := below_grown' b3 (grown_drew g4) hb
           exact drawnLay3_mk hn2 hd2 (x := nth [-400001, 400001] z) (y := 5) (by omega) (by omega) (by omega) (by omega) rfl (((i3.grown (grown_drew g4) hbl).keep hA).lower hlow) ((f3.grown i3 (grown_drew g4) hbl).keep (i3.grown (grown_drew g4) hbl) hA) (hG.alloc hG.size _))
  · have d0 : ((y : Int) == 0) = false := by simpa using h0
    go_wp2_with fail
    refine (pick_any b 21 200 _ r3 (by omega) (by omega) (by omega)).mono ?_
    rintro e w4 ⟨z, hz, rfl, r4, g4⟩
    have b4 := below_grown' b3 g4 hb
    have f4 := f3.grown i3 g4 hbl
    have i4 := i3.grown g4 hbl
    go_wp2_with fail
    refine (pick_any b 22 120 _ r4 (by omega) (by omega) (by omega)).mono ?_
    rintro e w5 ⟨u, hu, rfl, r5, g5⟩
    have b5 := below_grown' b4 g5 hb
    have f5 := f4.grown i4 g5 hbl
    have i5 := i4.grown g5 hbl
    go_wp2_with fail
    refine (pick_any b 23 20 _ r5 (by omega) (by omega) (by omega)).mono ?_
    rintro e w6 ⟨v, hv, rfl, r6, g6⟩
    have b6 := below_grown' b5 g6 hb
    have f6 := f5.grown i5 g6 hbl
    have i6 := (i5.grown g6 hbl).lower hlow
    go_wp2_with fail
    go_ret3
    exact drawnLay3_mk hn2 hd2 (x := (z : Int) - 100) (y := (u : Int) - (v : Int) / 19) (by omega) (by omega) (by omega) (by omega) rfl i6 f6 b6

end Go.Proofs.Ytbidnmjofljcnaa
