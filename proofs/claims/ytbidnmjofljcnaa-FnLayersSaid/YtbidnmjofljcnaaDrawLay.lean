/- The draws of layers. What is said: at most 9 layers of depths from 0 to 30021 have been drawn. -/
import Derived.Test.YtbidnmjofljcnaaDrawRow
import Derived.Test.YtbidnmjofljcnaaLBase
namespace Go.Proofs.Ytbidnmjofljcnaa
open Go.RowKit

/-- 'append(out, x)' of one layer onto a row of the call's own. -/
theorem wpList_append_lay {ops : Array Oper} {rest : List Oper} {o : Oper} {a : Act} {Q : Exit → Act → World → Prop} (w : World) (hgd : o.guard = none) (s x : Operand)
    (ho : o.op = .call { callee := .builtin .append, args := #[s, x], argTypes := #[25, 25] })
    (base : Nat) (v : Value) (n : Nat) (L : List Lay) (hs : a.eval s = v) (d : Int) (q : Bool) (b0 : Nat) (hx : a.eval x = .slice (some ⟨b0, 0, none⟩) 1 1)
    (hown : w.ownsRow base 32 2 v n (flat L)) (hc0 : w.cell? ⟨b0, 0, none⟩ = some (.int .i64 d)) (hc1 : w.cell? ⟨b0, 1, none⟩ = some (.bool q)) (hn : n ≤ 1000000000) (hbase : base ≤ w.heap.size)
    (h : ∀ v' w', w'.ownsRow base 32 2 v' (n + 1) (flat (L ++ [(d, q)])) → w.grownBy w' v.ownBlock → wpList Try.prog ops Q rest (a.put o.dst v') w') :
    wpList Try.prog ops Q (o :: rest) a w := by
  obtain ⟨i0, hi, hz0, hz1, hz2⟩ := info_parts Try.infoLay
  refine wpList_append_own w hgd s x 25 ho base 32 i0 _ 2 16 Try.underlying25 hi hz0 hz1 hz2 rfl (by decide) v n _ hs hown ⟨b0, 0, none⟩ 1 1 [.int .i64 d, .bool q] hx rfl ?_ ?_ (by unfold maxLen; omega) (by omega) hbase ?_
  · intro j u hj
    match j, hj with
    | 0, hj => simp at hj; subst hj; simpa [Addr.add] using hc0
    | 1, hj => simp at hj; subst hj; simpa [Addr.add] using hc1
  · intro u hu; simp at hu; rcases hu with rfl | rfl <;> rfl
  · intro v' w' h1 h2 _
    exact h v' w' (by rw [flat_snoc]; exact h1) h2

theorem flat_set (L : List Lay) (j : Nat) (h : j < L.length) (z : Int) : (flat L).set (j * 2) (.int .i64 z) = flat (L.set j (z, sur L j)) := by
  refine List.ext_getElem? fun i => ?_
  rw [List.getElem?_set]
  have hl : (L.set j (z, sur L j)).length = L.length := List.length_set ..
  by_cases hi : i < L.length * 2
  · obtain ⟨q, r, rfl, hr⟩ : ∃ q r, i = q * 2 + r ∧ r < 2 := ⟨i / 2, i % 2, by omega, by omega⟩
    have f1 := flat_at L q (by omega)
    have f2 := flat_at (L.set j (z, sur L j)) q (by omega)
    have d1 : dep (L.set j (z, sur L j)) q = if q = j then z else dep L q := by
      unfold dep
      rw [List.getElem?_set]
      by_cases e : j = q
      · subst e; simp [h]
      · rw [if_neg e, if_neg (fun h => e h.symm)]
    have d2 : sur (L.set j (z, sur L j)) q = sur L q := by
      have e0 : sur (L.set j (z, sur L j)) q = (((L.set j (z, sur L j))[q]?).getD (0, false)).2 := rfl
      rw [e0, List.getElem?_set]
      by_cases e : j = q
      · subst e; simp [h]
      · rw [if_neg e]; rfl
    rw [d1, d2] at f2
    match r, hr with
    | 0, _ =>
      rw [Nat.add_zero, f2.1]
      by_cases e : q = j
      · subst e; rw [if_pos rfl, if_pos (by rw [length_flat]; omega), if_pos rfl]
      · rw [if_neg (by omega), if_neg e, f1.1]
    | 1, _ => rw [if_neg (by omega), f1.2, f2.2]
  · rw [if_neg (by omega), List.getElem?_eq_none (by rw [length_flat]; omega), List.getElem?_eq_none (by rw [length_flat]; omega)]

/-- Each depth is from 0 to 30021. -/
def LDrw (l : List Lay) : Prop := ∀ k, 0 ≤ dep l k ∧ dep l k ≤ 30021
theorem LDrw.nil : LDrw [] := fun k => by simp [dep]
theorem LDrw.snoc {l : List Lay} (h : LDrw l) {z : Lay} (h1 : 0 ≤ z.1) (h2 : z.1 ≤ 30021) : LDrw (l ++ [z]) := fun k => by
  rcases Nat.lt_trichotomy k l.length with c | c | c
  · rw [dep_append_left _ _ _ c]; exact h k
  · subst c; rw [dep_snoc]; exact ⟨h1, h2⟩
  · rw [dep_out (by simp; omega)]; omega
theorem LDrw.set {l : List Lay} (h : LDrw l) (i : Nat) (hi : i < l.length) {z : Lay} (h1 : 0 ≤ z.1) (h2 : z.1 ≤ 30021) : LDrw (l.set i z) := fun k => by
  unfold dep
  rw [List.getElem?_set]
  by_cases e : i = k
  · subst e; simp [hi]; exact ⟨h1, h2⟩
  · rw [if_neg e]; exact h k

/-- Layers have been drawn; of what was there only the reader has turned. -/
def LaysDrawn (b p : Nat) (w : World) (e : Ending) (w' : World) : Prop :=
  ∃ (a : Option Addr) (n c : Nat) (l : List Lay), n ≤ 9 ∧ LDrw l ∧ e = .returned (.slice a n c) ∧ LRow w' w.heap.size a n c l ∧ LFree w' a n ∧ Rdr w' b p ∧ w.grownBy w' (some b)
theorem laysDrawn_of_own {b p n : Nat} {w w' : World} {v : Value} {l : List Lay} (hn : n ≤ 9) (hd : LDrw l) (hown : w'.ownsRow w.heap.size 32 2 v n (flat l)) (hr : Rdr w' b p) (hg : w.grownBy w' (some b)) : LaysDrawn b p w (.returned v) w' := by
  obtain ⟨a, c, rfl, h1, h2⟩ := LRow.of_own hown
  exact ⟨a, n, c, l, hn, hd, rfl, h1, h2, hr, hg⟩

theorem LRow.grown {w w' : World} {lo n c b : Nat} {a : Option Addr} {l : List Lay} (h : LRow w lo a n c l) (hg : w.grownBy w' (some b)) (hb : b < lo) : LRow w' lo a n c l := by
  refine ⟨h.1, h.2.1, fun hn => ?_⟩
  obtain ⟨g, off, e, h1, h2, h3⟩ := h.2.2 hn
  exact ⟨g, off, e, h1, Nat.lt_of_lt_of_le h2 hg.size, fun j hj => ⟨(grown_cell hg (p := ⟨g, off + j * 2, none⟩) h2 (by show g ≠ b; omega)).trans (h3 j hj).1, (grown_cell hg (p := ⟨g, off + j * 2 + 1, none⟩) h2 (by show g ≠ b; omega)).trans (h3 j hj).2⟩⟩
theorem LFree.grown {w w' : World} {lo n c b : Nat} {a : Option Addr} {l : List Lay} (hf : LFree w a n) (h : LRow w lo a n c l) (hg : w.grownBy w' (some b)) (hb : b < lo) : LFree w' a n := fun g off e j hj => by
  have h1 := h.low g off e (by omega)
  have h2 := h.high g off e (by omega)
  exact (World.frozen?_of_block (a := ⟨g, off + j, none⟩) (hg.block g h2 (fun e => by injection e with e; omega))).trans (hf g off e j hj)

set_option maxHeartbeats 2000000 in
theorem l92Layers_any (b p : Nat) (w : World) (h : Rdr w b p) (hp : p ≤ 50000) :
    Calls Try.prog 36 #[.pointer (some ⟨b, 0, none⟩)] w (LaysDrawn b (p + 20) w) := by
  have hbw := h.1
  have h0 : Rdr (w.alloc (.cells #[] 32)) b p := h.keep ((Below.refl _ _).alloc (Nat.le_refl _) _) h.1
  have ho0 : (w.alloc (.cells #[] 32)).ownsRow w.heap.size 32 2 (.slice (some ⟨w.heap.size, 0, none⟩) 0 0) 0 (flat []) := World.ownsRow_lit w _ 0 (Nat.le_refl _) (by unfold maxLen; omega) rfl
  go_enter Try.func36, Try.ntmps36
  go_wp2_with fail
  refine (pick_any b p 12 _ h0 (by omega) (by omega) (by omega)).mono ?_
  rintro e w1 ⟨dd, hdd, rfl, r1, g1⟩
  have G1 : w.grownBy w1 (some b) := grown_trans (grown_below ((Below.refl _ _).alloc (Nat.le_refl _) _) _) g1
  have ho1 := own_pick ho0 g1 hbw
  clear h0 ho0 g1
  go_wp2_with fail
  refine (pick_any b (p + 1) 9 _ r1 (by omega) (by omega) (by omega)).mono ?_
  rintro e w2 ⟨x, hx, rfl, r2, g2⟩
  have G2 := grown_trans G1 g2
  have ho2 := own_pick ho1 g2 hbw
  clear r1 G1 ho1 g2
  go_wp2_with fail
  go_loopw [3, 4, 6] (fun v dp i wr => ∃ (k d : Nat) (l : List Lay), k ≤ x ∧ i = .int .i64 k ∧ dp = .int .i64 d ∧ d ≤ 12 + 20 * k ∧ LDrw l ∧ wr.ownsRow w.heap.size 32 2 v k (flat l) ∧ Rdr wr b (p + 2 + k * 2) ∧ w.grownBy wr (some b)) (fun _ _ i _ => 9 - (intOf i).toNat)
  case atStart => exact ⟨0, dd, [], Nat.zero_le _, rfl, rfl, by omega, LDrw.nil, ho2, r2, G2⟩
  case round =>
    clear ho2 r2 G2
    obtain ⟨k, d, l, hk, rfl, rfl, hd, hl, hown, hr, hg⟩ := hrel
    by_cases hlt : k < x
    · go_wp2_with fail
      refine (pick_any b (p + 2 + k * 2) 3 _ hr (by omega) (by omega) (by omega)).mono ?_
      rintro e w3 ⟨y, hy, rfl, r3, g3⟩
      have G3 := grown_trans hg g3
      have ho3 := own_pick hown g3 hbw
      obtain ⟨q, hq⟩ : ∃ q : Bool, decide ((0 : Int) < (y : Int)) = q := ⟨_, rfl⟩
      have hq' : decide (0 < y) = q := by rw [← hq]; by_cases c : 0 < y <;> simp [c]
      go_wp2_with (at_builtin; refine wpList_append_lay _ rfl _ _ rfl w.heap.size _ _ _ rfl (d : Int) q w3.heap.size rfl (ho3.alloc _) (by simp) (by simp) (by omega) (by have := G3.size; simp; omega) ?_; intro v' w4 hown4 hgrow4)
      have G4 := grown_append G3 rfl ho3 hgrow4
      have r4 := rdr_append r3 hbw G3.size ho3 hgrow4
      refine (pick_any b (p + 2 + k * 2 + 1) 20 _ r4 (by omega) (by omega) (by omega)).mono ?_
      rintro e w5 ⟨z, hz, rfl, r5, g5⟩
      have G5 := grown_trans G4 g5
      have ho5 := own_pick hown4 g5 hbw
      have r5' : Rdr w5 b (p + 2 + (k + 1) * 2) := r5.more (by omega)
      clear r3 g3 ho3 hgrow4 r4 g5 hown4 G3 G4
      go_wp2_with fail
      go_roundw
      case rel => exact ⟨k + 1, d + 1 + z, l ++ [((d : Int), q)], by omega, by go_num, by go_num, by omega, hl.snoc (by show (0 : Int) ≤ d; omega) (by show (d : Int) ≤ 30021; omega), ho5, r5', G5⟩
      case measure => simp [intOf]; omega
    · obtain rfl : x = k := by omega
      by_cases hx0 : x = 0
      · subst hx0
        go_wp2_with fail
        go_ret
        exact laysDrawn_of_own (by omega) hl hown (hr.more (by omega)) hg
      · have dx : decide ((0 : Int) < (x : Int)) = true := decide_eq_true (by omega)
        obtain ⟨g, cap, hv, hgb, hglt⟩ := hown.form (by omega)
        subst hv
        obtain ⟨j, rfl⟩ : ∃ j, x = j + 1 := ⟨x - 1, by omega⟩
        have hll : l.length = j + 1 := by have := hown.1; rw [length_flat] at this; omega
        go_wp2_with fail
        refine (pick_any b (p + 2 + (j + 1) * 2) 40 _ hr (by omega) (by omega) (by omega)).mono ?_
        rintro e w3 ⟨y, hy, rfl, r3, g3⟩
        have G3 := grown_trans hg g3
        have ho3 := own_pick hown g3 hbw
        have hf := flat_at l j (by omega)
        have hc0 := (ho3.cellAt (j * 2) (by omega)).trans hf.1
        have hc1 := (ho3.cellAt (j * 2 + 1) (by omega)).trans hf.2
        have hfz := ho3.frozenAt (j * 2)
        have hdl := hl j
        obtain ⟨dl, hdl'⟩ : ∃ dl, dep l j = dl := ⟨_, rfl⟩
        obtain ⟨sl, hsl'⟩ : ∃ sl, sur l j = sl := ⟨_, rfl⟩
        rw [hdl'] at hc0 hdl
        rw [hsl'] at hc1
        by_cases y0 : y = 0
        · subst y0
          clear hdl' hsl'
          go_wp2_with (at_builtin; refine wpList_append_lay _ rfl _ _ rfl w.heap.size _ _ _ rfl dl sl w3.heap.size rfl (ho3.alloc _) (by simp) (by simp) (by omega) (by have := G3.size; simp; omega) ?_; intro v' w4 hown4 hgrow4)
          go_ret
          exact laysDrawn_of_own (by omega) (hl.snoc hdl.1 hdl.2) hown4 ((rdr_append r3 hbw G3.size ho3 hgrow4).more (by omega)) (grown_append G3 rfl ho3 hgrow4)
        · have d0 : ((y : Int) == 0) = false := by simpa using y0
          by_cases y1 : y = 1
          · subst y1
            have hsto := ho3.stored (j * 2) (.int .i64 30001)
            have HM := Lib.hid (flat_set l j (by omega) 30001)
            clear hdl' hsl'
            go_wp2_with fail
            go_ret
            have hown4 := hsto.1
            rw [HM.out] at hown4
            have G4 : w.grownBy (w3.setCell ⟨g, j * 2, none⟩ (.int .i64 30001)) (some b) :=
              ⟨hsto.2.os.trans G3.os, hsto.2.tape.trans G3.tape, hsto.2.output.trans G3.output, Nat.le_trans G3.size hsto.2.size, fun i hi hne => (hsto.2.block i (Nat.lt_of_lt_of_le hi G3.size) (fun e => by injection e with e; omega)).trans (G3.block i hi hne)⟩
            have r4 : Rdr (w3.setCell ⟨g, j * 2, none⟩ (.int .i64 30001)) b (p + 20) := (r3.keep ((Below.refl w.heap.size w3).setCell hgb _) hbw).more (by omega)
            exact laysDrawn_of_own (by omega) (hl.set j (by omega) (by simp) (by simp)) hown4 r4 G4
          · have d1 : ((y : Int) == 1) = false := by simp; omega
            go_wp2_with fail
            go_ret
            exact laysDrawn_of_own (by omega) hl ho3 (r3.more (by omega)) G3

end Go.Proofs.Ytbidnmjofljcnaa
