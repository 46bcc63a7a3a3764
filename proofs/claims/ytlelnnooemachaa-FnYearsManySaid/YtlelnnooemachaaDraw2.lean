/- l6Open, l92Limits, DrawCutsMany. -/
import Derived.Test.YtlelnnooemachaaDraw
namespace Go.Proofs.Ytlelnnooemachaa
open Go.RowKit

theorem brow_of_arg {w : World} {a : Option Addr} {len cap : Nat} {zs : List Int}
    (h : (a = none ∧ len = 0 ∧ cap = 0 ∧ zs = []) ∨ ∃ x, a = some x ∧ len ≤ cap ∧ cap ≤ maxLen ∧ zs.length = cap ∧ (∀ i, i < zs.length → w.cell? (x.add i) = some (.int .u8 (zs.getD i 0))) ∧ ∀ n ∈ zs, (Lit.int .u8 n).wf = true) :
    BRow w w.heap.size a len ∧ len ≤ cap ∧ len ≤ 9223372036854775807 := by
  rcases h with ⟨rfl, rfl, rfl, rfl⟩ | ⟨x, rfl, hl, hm, hz, hc, hw⟩
  · exact ⟨fun h => absurd h (by omega), Nat.le_refl _, by omega⟩
  · unfold maxLen at hm
    refine ⟨fun hn => ?_, hl, by omega⟩
    obtain ⟨b, off, rfl, hcell⟩ := ints_at hc (by omega)
    refine ⟨b, off, rfl, World.block_lt_of_cell? w _ (hcell 0 (by omega)), fun j hj => ?_⟩
    have hj' : j < zs.length := by omega
    have hb := bounds_u8 (hw (zs.getD j 0) (by rw [List.getD_eq_getElem?_getD, List.getElem?_eq_getElem hj']; exact List.getElem_mem hj'))
    exact ⟨_, hb.1, hb.2, hcell j hj'⟩

/-- A reader has been opened. -/
def Opened (w : World) (e : Ending) (w' : World) : Prop := ∃ b, e = .returned (.pointer (some ⟨b, 0, none⟩)) ∧ w.heap.size ≤ b ∧ Rdr w' b 0 ∧ Below w.heap.size w w'

theorem opened_mk (w : World) (a : Option Addr) (n c : Nat) (t : TypeId) (hn : n ≤ 2000) (hb : BRow w w.heap.size a n) :
    Opened w (.returned (.pointer (some ⟨w.heap.size, 0, none⟩))) (w.alloc (.cells #[.slice a n c, .int .i64 0] t)) := by
  have hbel := (Below.refl w.heap.size w).alloc (Nat.le_refl _) (.cells #[.slice a n c, .int .i64 0] t)
  refine ⟨w.heap.size, rfl, Nat.le_refl _, ⟨by simp, a, n, c, 0, Nat.le_refl _, hn, ?_, ?_, ?_, hb.keep hbel (Nat.le_refl _)⟩, hbel⟩
  · simp [go_sem]
  · simp [go_sem]
  · simp [go_sem]

set_option maxHeartbeats 400000 in
theorem l6Open_any (a : Option Addr) (n c : Nat) (w : World) (h : BRow w w.heap.size a n) (hc : n ≤ c) (hn : n ≤ 9223372036854775807) :
    Calls Try.prog 30 #[.slice a n c] w (Opened w) := by
  have H := Lib.hid h
  clear h
  by_cases h1 : 2000 < n
  · obtain ⟨g, off, rfl, hg, hz⟩ := H.out (by omega)
    have hb2 : BRow w w.heap.size (some ⟨g, off, none⟩) 2000 := fun _ => ⟨g, off, rfl, hg, fun j hj => hz j (by omega)⟩
    have H2 := Lib.hid hb2
    clear hz hb2
    go_enter Try.func30, Try.ntmps30
    go_wp2
    go_ret
    exact opened_mk w _ 2000 _ _ (Nat.le_refl _) H2.out
  · go_enter Try.func30, Try.ntmps30
    go_wp2
    go_ret
    exact opened_mk w _ n _ _ (by omega) H.out

theorem grown_trans {a b c : World} {row : Option Nat} (h : a.grownBy b row) (k : b.grownBy c row) : a.grownBy c row :=
  ⟨k.os.trans h.os, k.tape.trans h.tape, k.output.trans h.output, Nat.le_trans h.size k.size, fun i hi hne => (k.block i (Nat.lt_of_lt_of_le hi h.size) hne).trans (h.block i hi hne)⟩
theorem grown_drew {a b : World} {row : Option Nat} (h : a.drew.grownBy b row) : a.grownBy b row := ⟨h.os, h.tape, h.output, h.size, h.block⟩
theorem grown_below {a w : World} (h : Below a.heap.size a w) (row : Option Nat) : a.grownBy w row := ⟨h.os, h.tape, h.output, h.size, fun i hi _ => h.block i hi⟩

theorem arr_at (l : List Int) (z : Nat) (h : z < (l.map (Value.int .i64)).length) : (l.map (Value.int .i64))[z]'h = .int .i64 (nth l z) := by
  unfold nth
  have : z < l.length := by simpa using h
  simp [this]
/-- A cell outside the one row that may have turned. -/
theorem grown_cell {w w' : World} {b : Nat} (hg : w.grownBy w' (some b)) {p : Addr} (h1 : p.block < w.heap.size) (h2 : p.block ≠ b) : w'.cell? p = w.cell? p :=
  World.cell?_of_block (hg.block p.block h1 (fun e => h2 (by injection e)))
/-- Two distances have been drawn. -/
def Limits (b p : Nat) (w : World) (e : Ending) (w' : World) : Prop :=
  ∃ l m : Nat, 1 ≤ l ∧ l ≤ 3 ∧ (m ≤ 6 ∨ m = 17) ∧ e = .returned (.tuple #[.int .i64 l, .int .i64 m]) ∧ Rdr w' b (p + 3) ∧ w.grownBy w' (some b)

theorem limits_mk {b p l m : Nat} {w w' : World} {e : Ending} (h1 : 1 ≤ l) (h2 : l ≤ 3) (h3 : m ≤ 6 ∨ m = 17) (he : e = .returned (.tuple #[.int .i64 l, .int .i64 m])) (hr : Rdr w' b (p + 3)) (hg : w.grownBy w' (some b)) : Limits b p w e w' := ⟨l, m, h1, h2, h3, he, hr, hg⟩
theorem ret_ii {k : IntKind} {a b a' b' : Int} (h : a = a') (h' : b = b') : Ending.returned (.tuple #[.int k a, .int k b]) = .returned (.tuple #[.int k a', .int k b']) := by rw [h, h']
theorem two_at (s t z : Nat) (hz : z < 2) : nth [(s : Int), (t : Int)] z = ((if z = 0 then s else t : Nat) : Int) := by
  match z, hz with
  | 0, _ => rfl
  | 1, _ => rfl

set_option maxHeartbeats 1000000 in
theorem limits_any (b p : Nat) (w : World) (h : Rdr w b p) (hp : p ≤ 50000) :
    Calls Try.prog 31 #[.pointer (some ⟨b, 0, none⟩)] w (Limits b p w) := by
  go_enter Try.func31, Try.ntmps31
  go_wp2_with fail
  refine (pick_any b p 3 _ h (by omega) (by omega) (by omega)).mono ?_
  rintro e w1 ⟨x, hx, rfl, r1, g1⟩
  go_wp2_with fail
  refine (pick_any b (p + 1) 24 _ r1 (by omega) (by omega) (by omega)).mono ?_
  rintro e w2 ⟨y, hy, rfl, r2, g2⟩
  by_cases h0 : y = 0
  · subst h0
    have hw1 : IntKind.i64.wrap (1 + (x : Int) - 1) = (x : Int) := by rw [IntWalk.i64_in _ (by omega)]; omega
    go_wp2_with fail
    go_region_with ((go_at_call 32; refine (pick_any b (p + 2) 2 _ ?_ (by omega) (by omega) (by omega)).mono ?_; (first | exact r2 | exact r2.keep (((Below.refl w2.heap.size w2).drew.alloc (Nat.le_refl _) _)) r2.1); rintro e w3 ⟨z, hz, rfl, r3, g3⟩; have hz3 : ∀ (s t : Int) (h : z < [Value.int .i64 s, Value.int .i64 t].length), [Value.int .i64 s, Value.int .i64 t][z]'h = .int .i64 (nth [s, t] z) := fun s t h => arr_at [s, t] z h; have hz4 := fun h => g3.cell (a := ⟨w2.heap.size, z, none⟩) (v := .int .i64 (nth [(x : Int), 17] z)) h (fun e => by injection e with e; have := r2.1; simp at e; omega); have hz5 : (z : Int) < 2 := by omega))
    all_goals
      go_wp2
      go_ret2
      first
        | exact limits_mk (l := x + 1) (m := if z = 0 then x else 17) (by omega) (by omega) (by split <;> omega) (ret_ii (by omega) (two_at _ _ _ hz)) r3 (grown_trans (grown_trans g1 g2) (grown_trans (grown_below ((Below.refl _ _).alloc (Nat.le_refl _) _) _) (grown_drew g3)))
        | exact limits_mk (l := x + 1) (m := if z = 0 then x else 17) (by omega) (by omega) (by split <;> omega) (ret_ii (by omega) (two_at _ _ _ hz)) (r3.keep ((Below.refl _ _).alloc (Nat.le_refl _) _) r3.1) (grown_trans (grown_trans (grown_trans g1 g2) (grown_drew g3)) (grown_below ((Below.refl _ _).alloc (Nat.le_refl _) _) _))
  · have d0 : ((y : Int) == 0) = false := by simpa using h0
    go_wp2_with fail
    refine (pick_any b (p + 2) 4 _ r2 (by omega) (by omega) (by omega)).mono ?_
    rintro e w3 ⟨z, hz, rfl, r3, g3⟩
    go_wp2_with fail
    go_ret2
    exact limits_mk (l := x + 1) (m := x + 1 + z) (by omega) (by omega) (.inl (by omega)) (ret_ii (by omega) (by omega)) r3 (grown_trans (grown_trans g1 g2) g3)

/-- A number and two distances have been drawn. -/
def Drawn3 (w : World) (e : Ending) (w' : World) : Prop :=
  ∃ n l m : Nat, n ≤ 17 ∧ 1 ≤ l ∧ l ≤ 3 ∧ (m ≤ 6 ∨ m = 17) ∧ e = .returned (.tuple #[.int .i64 n, .int .i64 l, .int .i64 m]) ∧ Below w.heap.size w w'
theorem drawn3_mk {n l m : Nat} {w w' : World} {e : Ending} (h0 : n ≤ 17) (h1 : 1 ≤ l) (h2 : l ≤ 3) (h3 : m ≤ 6 ∨ m = 17) (he : e = .returned (.tuple #[.int .i64 n, .int .i64 l, .int .i64 m])) (hb : Below w.heap.size w w') : Drawn3 w e w' := ⟨n, l, m, h0, h1, h2, h3, he, hb⟩
theorem ret_iii {k : IntKind} {a a' b c : Int} (h : a = a') : Ending.returned (.tuple #[.int k a, .int k b, .int k c]) = .returned (.tuple #[.int k a', .int k b, .int k c]) := by rw [h]
theorem below_grown {a w w' : World} {b : Nat} (h : Below a.heap.size a w) (hg : w.grownBy w' (some b)) (hb : a.heap.size ≤ b) : Below a.heap.size a w' := h.grown hg h.size (fun k e => by injection e with e; omega)

set_option maxHeartbeats 1000000 in
theorem drawCuts_any (a : Option Addr) (n c : Nat) (w : World) (h : BRow w w.heap.size a n) (hc : n ≤ c) (hn : n ≤ 9223372036854775807) :
    Calls Try.prog 20 #[.slice a n c] w (Drawn3 w) := by
  go_enter Try.func20, Try.ntmps20
  go_wp2_with fail
  refine (l6Open_any _ _ _ _ h hc hn).mono ?_
  rintro e w1 ⟨b, rfl, hb, r1, b1⟩
  go_wp2_with fail
  refine (limits_any b 0 _ r1 (by omega)).mono ?_
  rintro e w2 ⟨l, m, hl1, hl2, hm, rfl, r2, g2⟩
  have b2 := below_grown b1 g2 hb
  go_wp2_with fail
  refine (pick_any b 3 16 _ r2 (by omega) (by omega) (by omega)).mono ?_
  rintro e w3 ⟨y, hy, rfl, r3, g3⟩
  have b3 := below_grown b2 g3 hb
  by_cases h0 : y = 0
  · subst h0
    go_wp2_with fail
    refine (pick_any b 4 2 _ (r3.keep ((Below.refl _ _).alloc (Nat.le_refl _) _) r3.1) (by omega) (by omega) (by omega)).mono ?_
    rintro e w4 ⟨z, hz, rfl, r4, g4⟩
    have hne : w3.heap.size ≠ b := by have := r3.1; omega
    have b4 := below_grown (b3.alloc b3.size _) g4 hb
    have hcell : w4.cell? ⟨w3.heap.size, z, none⟩ = some (.int .i64 (nth [0, 17] z)) := by
      rw [grown_cell g4 (p := ⟨w3.heap.size, z, none⟩) (by simp) hne]
      match z, hz with
      | 0, _ => simp [go_sem]; rfl
      | 1, _ => simp [go_sem]; rfl
    clear hne
    go_wp2_with fail
    go_ret3
    exact drawn3_mk (n := if z = 0 then 0 else 17) (by split <;> omega) hl1 hl2 hm (ret_iii (two_at 0 17 z hz)) b4
  · have d0 : ((y : Int) == 0) = false := by simpa using h0
    go_wp2_with fail
    refine (pick_any b 4 16 _ r3 (by omega) (by omega) (by omega)).mono ?_
    rintro e w4 ⟨z, hz, rfl, r4, g4⟩
    have b4 := below_grown b3 g4 hb
    go_wp2_with fail
    go_ret3
    exact drawn3_mk (n := z + 1) (by omega) hl1 hl2 hm (ret_iii (by omega)) b4

theorem drawYears_any (a : Option Addr) (n c : Nat) (w : World) (h : BRow w w.heap.size a n) (hc : n ≤ c) (hn : n ≤ 9223372036854775807) :
    Calls Try.prog 23 #[.slice a n c] w (Drawn3 w) := by
  go_enter Try.func23, Try.ntmps23
  go_wp2_with fail
  refine (drawCuts_any _ _ _ _ h hc hn).mono ?_
  rintro e w1 ⟨x, l, m, h0, hl1, hl2, hm, rfl, b1⟩
  go_wp2_with fail
  go_ret3
  exact drawn3_mk h0 hl1 hl2 hm rfl b1

end Go.Proofs.Ytlelnnooemachaa
