/- l91Row and the draws of rows. What is said: a row of at most 7 numbers from -10001 to 10001 has been drawn. -/
import Derived.Test.YtkbhogajdjnfnaaDraw2
namespace Go.Proofs.Ytkbhogajdjnfnaa
open Go.RowKit

theorem three_at (r s t : Int) (z : Nat) (hz : z < 3) : nth [r, s, t] z = r ∨ nth [r, s, t] z = s ∨ nth [r, s, t] z = t := by
  match z, hz with
  | 0, _ => exact .inl rfl
  | 1, _ => exact .inr (.inl rfl)
  | 2, _ => exact .inr (.inr rfl)

/-- Each number is from -10001 to 10001. -/
def Drw (l : List Int) : Prop := ∀ k, -10001 ≤ nth l k ∧ nth l k ≤ 10001
theorem Drw.snoc {l : List Int} (h : Drw l) {z : Int} (h1 : -10001 ≤ z) (h2 : z ≤ 10001) : Drw (l ++ [z]) := fun k => by
  rcases Nat.lt_trichotomy k l.length with c | c | c
  · rw [nth_append_left _ _ _ c]; exact h k
  · subst c; rw [nth_snoc]; exact ⟨h1, h2⟩
  · unfold nth
    rw [List.getElem?_eq_none (by simp; omega)]
    simp
theorem Drw.nil : Drw [] := fun k => by simp [nth]
theorem Drw.set {l : List Int} (h : Drw l) (i : Nat) (hi : i < l.length) {z : Int} (h1 : -10001 ≤ z) (h2 : z ≤ 10001) : Drw (l.set i z) := fun k => by
  unfold nth
  rw [List.getElem?_set]
  by_cases e : i = k
  · subst e; simp [hi]; exact ⟨h1, h2⟩
  · rw [if_neg e]; exact h k

/-- A row has been drawn; of what was there only the reader has turned. -/
def RowDrawn (b p : Nat) (w : World) (e : Ending) (w' : World) : Prop :=
  ∃ (a : Option Addr) (n c : Nat) (l : List Int), n ≤ 7 ∧ Drw l ∧ e = .returned (.slice a n c) ∧ IRow w' w.heap.size a n c l ∧ IFree w' a n ∧ Rdr w' b p ∧ w.grownBy w' (some b)

theorem rowDrawn_of_own {b p n : Nat} {w w' : World} {v : Value} {l : List Int} (hn : n ≤ 7) (hd : Drw l) (hown : w'.ownsRow w.heap.size 3 1 v n (l.map (Value.int .i64))) (hr : Rdr w' b p) (hg : w.grownBy w' (some b)) : RowDrawn b p w (.returned v) w' := by
  obtain ⟨a, c, rfl, h1, h2⟩ := IRow.of_own hown
  exact ⟨a, n, c, l, hn, hd, rfl, h1, h2, hr, hg⟩
/-- An append onto a row of the call's own keeps the reader and what was there. -/
theorem grown_append {b B : Nat} {w wr w1 : World} {o : Obj} {e : TypeId} {size n : Nat} {v : Value} {xs : List Value} (hg : w.grownBy wr (some b)) (hB : B = w.heap.size) (hown : wr.ownsRow B e size v n xs) (hgrow : (wr.alloc o).grownBy w1 v.ownBlock) : w.grownBy w1 (some b) := by
  subst hB
  have h1 : Below w.heap.size wr w1 := ((Below.refl w.heap.size wr).alloc hg.size o).grown hgrow (by have := hg.size; simp; omega) (fun k hk => (hown.lt k hk).1)
  exact ⟨h1.os.trans hg.os, h1.tape.trans hg.tape, h1.output.trans hg.output, Nat.le_trans hg.size h1.size, fun i hi hne => (h1.block i hi).trans (hg.block i hi hne)⟩
theorem rdr_append {b p B : Nat} {wr w1 : World} {o : Obj} {e : TypeId} {size n : Nat} {v : Value} {xs : List Value} (hr : Rdr wr b p) (hb : b < B) (hB : B ≤ wr.heap.size) (hown : wr.ownsRow B e size v n xs) (hgrow : (wr.alloc o).grownBy w1 v.ownBlock) : Rdr w1 b p :=
  hr.keep (((Below.refl B wr).alloc hB o).grown hgrow (by simp; omega) (fun k hk => (hown.lt k hk).1)) hb
theorem own_pick {b base : Nat} {w w' : World} {e : TypeId} {size n : Nat} {v : Value} {xs : List Value} (h : w.ownsRow base e size v n xs) (hg : w.grownBy w' (some b)) (hb : b < base) : w'.ownsRow base e size v n xs :=
  h.kept hg (by
    cases hv : v.ownBlock with
    | none => exact .inl rfl
    | some k => exact .inr (fun e => by injection e with e; have := (h.lt k hv).1; omega))

set_option maxHeartbeats 2000000 in
theorem l91Row_any (b p : Nat) (w : World) (h : Rdr w b p) (hp : p ≤ 50000) :
    Calls Try.prog 40 #[.pointer (some ⟨b, 0, none⟩)] w (RowDrawn b (p + 10) w) := by
  have hbw := h.1
  have h0 : Rdr (w.alloc (.cells #[] 3)) b p := h.keep ((Below.refl _ _).alloc (Nat.le_refl _) _) h.1
  have ho0 : (w.alloc (.cells #[] 3)).ownsRow w.heap.size 3 1 (.slice (some ⟨w.heap.size, 0, none⟩) 0 0) 0 (([] : List Int).map (Value.int .i64)) := World.ownsRow_lit w _ 0 (Nat.le_refl _) (by unfold maxLen; omega) rfl
  go_enter Try.func40, Try.ntmps40
  go_wp2_with fail
  refine (pick_any b p 7 _ h0 (by omega) (by omega) (by omega)).mono ?_
  rintro e w1 ⟨x, hx, rfl, r1, g1⟩
  have G1 : w.grownBy w1 (some b) := grown_trans (grown_below ((Below.refl _ _).alloc (Nat.le_refl _) _) _) g1
  have ho1 := own_pick ho0 g1 hbw
  clear h0 ho0 g1
  go_wp2_with fail
  go_loopw [3, 5] (fun v i wr => ∃ (k : Nat) (l : List Int), k ≤ x + 1 ∧ i = .int .i64 k ∧ Drw l ∧ wr.ownsRow w.heap.size 3 1 v k (l.map (Value.int .i64)) ∧ Rdr wr b (p + 1 + k) ∧ w.grownBy wr (some b)) (fun _ i _ => 9 - (intOf i).toNat)
  case atStart => exact ⟨0, [], Nat.zero_le _, rfl, Drw.nil, ho1, r1, G1⟩
  case round =>
    clear ho1 r1 G1
    obtain ⟨k, l, hk, rfl, hd, hown, hr, hg⟩ := hrel
    by_cases hlt : k < x + 1
    · go_wp2_with fail
      refine (pick_any b (p + 1 + k) 41 _ hr (by omega) (by omega) (by omega)).mono ?_
      rintro e w2 ⟨y, hy, rfl, r2, g2⟩
      have G2 := grown_trans hg g2
      have ho2 := own_pick hown g2 hbw
      go_wp2_with (at_builtin; refine wpList_append_int _ rfl _ _ rfl w.heap.size _ _ _ rfl ((y : Int) - 15) w2.heap.size rfl (ho2.alloc _) (by simp) (by omega) (by have := G2.size; simp; omega) ?_; intro v' w3 hown3 hgrow3)
      have G3 := grown_append G2 rfl ho2 hgrow3
      have r3 := rdr_append r2 hbw G2.size ho2 hgrow3
      go_roundw
      case rel => exact ⟨k + 1, l ++ [(y : Int) - 15], by omega, by go_num, hd.snoc (by omega) (by omega), hown3, r3, G3⟩
      case measure => simp [intOf]; omega
    · obtain rfl : k = x + 1 := by omega
      obtain ⟨g, cap, hv, hgb, hglt⟩ := hown.form (by omega)
      subst hv
      go_wp2_with fail
      refine (pick_any b (p + 1 + (x + 1)) 40 _ hr (by omega) (by omega) (by omega)).mono ?_
      rintro e w2 ⟨y, hy, rfl, r2, g2⟩
      have G2 := grown_trans hg g2
      have ho2 := own_pick hown g2 hbw
      by_cases y0 : y = 0
      · subst y0
        go_wp2_with fail
        refine (pick_any b (p + 1 + (x + 1) + 1) 3 _ (r2.keep ((Below.refl _ _).alloc (Nat.le_refl _) _) r2.1) (by omega) (by omega) (by omega)).mono ?_
        rintro e w3 ⟨z, hz, rfl, r3, g3⟩
        have hne : w2.heap.size ≠ b := by have := r2.1; omega
        have hcell : w3.cell? ⟨w2.heap.size, z, none⟩ = some (.int .i64 (nth [10000, 10001, -10001] z)) := by
          rw [grown_cell g3 (p := ⟨w2.heap.size, z, none⟩) (by simp) hne]
          match z, hz with
          | 0, _ => simp [go_sem]; rfl
          | 1, _ => simp [go_sem]; rfl
          | 2, _ => simp [go_sem]; rfl
        have ho3 := own_pick (ho2.alloc (.cells #[.int .i64 10000, .int .i64 10001, .int .i64 (-10001)] 3)) g3 hbw
        have G3 : w.grownBy w3 (some b) := grown_trans G2 (grown_trans (grown_below ((Below.refl _ _).alloc (Nat.le_refl _) _) _) g3)
        have hc0 := ho3.cellAt 0 (by omega)
        have hf0 := ho3.frozenAt 0
        have hl : l.length = x + 1 := by have := hown.1; simpa using this
        rw [List.getElem?_map, List.getElem?_eq_getElem (by omega)] at hc0
        obtain ⟨u, hu⟩ : ∃ u, l[0]'(by omega) = u := ⟨_, rfl⟩
        have hc0' : w3.cell? ⟨g, 0, none⟩ = some (.int .i64 u) := by rw [hc0, hu]; rfl
        clear hc0 hu
        obtain ⟨q, hq⟩ : ∃ q, nth [10000, 10001, -10001] z = q := ⟨_, rfl⟩
        have hqb : -10001 ≤ q ∧ q ≤ 10001 := by rw [← hq]; have := three_at 10000 10001 (-10001) z hz; omega
        rw [hq] at hcell
        have hsto := ho3.stored 0 (.int .i64 q)
        have hmap : (l.map (Value.int .i64)).set 0 (.int .i64 q) = (l.set 0 q).map (Value.int .i64) := by rw [List.map_set]
        have hgl := hgb
        clear hne hq
        go_wp2_with fail
        go_ret
        have hown4 := hsto.1
        rw [hmap] at hown4
        have G4 : w.grownBy (w3.setCell ⟨g, 0, none⟩ (.int .i64 q)) (some b) :=
          ⟨hsto.2.os.trans G3.os, hsto.2.tape.trans G3.tape, hsto.2.output.trans G3.output, Nat.le_trans G3.size hsto.2.size, fun i hi hne => (hsto.2.block i (Nat.lt_of_lt_of_le hi G3.size) (fun e => by injection e with e; omega)).trans (G3.block i hi hne)⟩
        have r4 : Rdr (w3.setCell ⟨g, 0, none⟩ (.int .i64 q)) b (p + 10) := (r3.keep ((Below.refl w.heap.size w3).setCell hgl _) hbw).more (by omega)
        exact rowDrawn_of_own (by omega) (hd.set 0 (by omega) hqb.1 hqb.2) hown4 r4 G4
      · by_cases y1 : y = 1
        · subst y1
          go_wp2_with fail
          go_ret
          exact rowDrawn_of_own (n := 0) (l := []) (by omega) Drw.nil (World.ownsRow_lit w2 _ 0 G2.size (by unfold maxLen; omega) rfl) ((r2.keep ((Below.refl _ _).alloc (Nat.le_refl _) _) r2.1).more (by omega)) (grown_trans G2 (grown_below ((Below.refl _ _).alloc (Nat.le_refl _) _) _))
        · have d0 : ((y : Int) == 0) = false := by simpa using y0
          have d1 : ((y : Int) == 1) = false := by simp; omega
          go_wp2_with fail
          go_ret
          exact rowDrawn_of_own (by omega) hd ho2 (r2.more (by omega)) G2

theorem IRow.grown {w w' : World} {lo n c b : Nat} {a : Option Addr} {l : List Int} (h : IRow w lo a n c l) (hg : w.grownBy w' (some b)) (hb : b < lo) : IRow w' lo a n c l := by
  refine ⟨h.1, h.2.1, fun hn => ?_⟩
  obtain ⟨g, off, e, h1, h2, h3⟩ := h.2.2 hn
  exact ⟨g, off, e, h1, Nat.lt_of_lt_of_le h2 hg.size, fun j hj => (grown_cell hg (p := ⟨g, off + j, none⟩) h2 (by show g ≠ b; omega)).trans (h3 j hj)⟩
theorem IFree.grown {w w' : World} {lo n c b : Nat} {a : Option Addr} {l : List Int} (hf : IFree w a n) (h : IRow w lo a n c l) (hg : w.grownBy w' (some b)) (hb : b < lo) : IFree w' a n := fun g off e j hj => by
  obtain ⟨g', off', e', h1, h2, _⟩ := h.2.2 (by omega)
  rw [e] at e'
  injection e' with e'
  injection e' with e1 _ _
  subst e1
  exact (World.frozen?_of_block (a := ⟨g, off + j, none⟩) (hg.block g h2 (fun e => by injection e with e; omega))).trans (hf g off e j hj)

/-- A row has been drawn out of a code. -/
def DrawnRow (w : World) (e : Ending) (w' : World) : Prop :=
  ∃ (a : Option Addr) (n c : Nat) (l : List Int), n ≤ 7 ∧ Drw l ∧ e = .returned (.slice a n c) ∧ IRow w' w.heap.size a n c l ∧ IFree w' a n ∧ Below w.heap.size w w'
/-- .. and a number. -/
def DrawnRowT (w : World) (e : Ending) (w' : World) : Prop :=
  ∃ (a : Option Addr) (n c : Nat) (l : List Int) (t : Int), n ≤ 7 ∧ Drw l ∧ -1 ≤ t ∧ t ≤ 9 ∧ e = .returned (.tuple #[.slice a n c, .int .i64 t]) ∧ IRow w' w.heap.size a n c l ∧ IFree w' a n ∧ Below w.heap.size w w'
theorem below_grown' {a w w' : World} {b : Nat} (h : Below a.heap.size a w) (hg : w.grownBy w' (some b)) (hb : a.heap.size ≤ b) : Below a.heap.size a w' := h.grown hg h.size (fun k e => by injection e with e; omega)

theorem drawPass_any (a : Option Addr) (n c : Nat) (w : World) (h : BRow w w.heap.size a n) (hc : n ≤ c) (hn : n ≤ 9223372036854775807) :
    Calls Try.prog 33 #[.slice a n c] w (DrawnRow w) := by
  go_enter Try.func33, Try.ntmps33
  go_wp2_with fail
  refine (l6Open_any _ _ _ _ h hc hn).mono ?_
  rintro e w1 ⟨b, rfl, hb, r1, b1⟩
  go_wp2_with fail
  refine (l91Row_any b 0 _ r1 (by omega)).mono ?_
  rintro e w2 ⟨a2, n2, c2, l2, hn2, hd2, rfl, i2, f2, r2, g2⟩
  have b2 := below_grown' b1 g2 hb
  have i2' := i2.lower b1.size
  go_wp2_with fail
  go_ret
  exact ⟨_, _, _, l2, hn2, hd2, rfl, i2', f2, b2⟩

theorem drawSum_any (a : Option Addr) (n c : Nat) (w : World) (h : BRow w w.heap.size a n) (hc : n ≤ c) (hn : n ≤ 9223372036854775807) :
    Calls Try.prog 23 #[.slice a n c] w (DrawnRow w) := by
  go_enter Try.func23, Try.ntmps23
  go_wp2_with fail
  refine (l6Open_any _ _ _ _ h hc hn).mono ?_
  rintro e w1 ⟨b, rfl, hb, r1, b1⟩
  go_wp2_with fail
  refine (l91Row_any b 0 _ r1 (by omega)).mono ?_
  rintro e w2 ⟨a2, n2, c2, l2, hn2, hd2, rfl, i2, f2, r2, g2⟩
  have b2 := below_grown' b1 g2 hb
  have i2' := i2.lower b1.size
  go_wp2_with fail
  go_ret
  exact ⟨_, _, _, l2, hn2, hd2, rfl, i2', f2, b2⟩

theorem drawRough_any (a : Option Addr) (n c : Nat) (w : World) (h : BRow w w.heap.size a n) (hc : n ≤ c) (hn : n ≤ 9223372036854775807) :
    Calls Try.prog 26 #[.slice a n c] w (DrawnRow w) := by
  go_enter Try.func26, Try.ntmps26
  go_wp2_with fail
  refine (l6Open_any _ _ _ _ h hc hn).mono ?_
  rintro e w1 ⟨b, rfl, hb, r1, b1⟩
  go_wp2_with fail
  refine (l91Row_any b 0 _ r1 (by omega)).mono ?_
  rintro e w2 ⟨a2, n2, c2, l2, hn2, hd2, rfl, i2, f2, r2, g2⟩
  have b2 := below_grown' b1 g2 hb
  have i2' := i2.lower b1.size
  go_wp2_with fail
  go_ret
  exact ⟨_, _, _, l2, hn2, hd2, rfl, i2', f2, b2⟩

theorem drawRange_any (a : Option Addr) (n c : Nat) (w : World) (h : BRow w w.heap.size a n) (hc : n ≤ c) (hn : n ≤ 9223372036854775807) :
    Calls Try.prog 24 #[.slice a n c] w (DrawnRow w) := by
  go_enter Try.func24, Try.ntmps24
  go_wp2_with fail
  refine (l6Open_any _ _ _ _ h hc hn).mono ?_
  rintro e w1 ⟨b, rfl, hb, r1, b1⟩
  go_wp2_with fail
  refine (l91Row_any b 0 _ r1 (by omega)).mono ?_
  rintro e w2 ⟨a2, n2, c2, l2, hn2, hd2, rfl, i2, f2, r2, g2⟩
  have b2 := below_grown' b1 g2 hb
  have i2' := i2.lower b1.size
  go_wp2_with fail
  go_ret
  exact ⟨_, _, _, l2, hn2, hd2, rfl, i2', f2, b2⟩


end Go.Proofs.Ytkbhogajdjnfnaa
