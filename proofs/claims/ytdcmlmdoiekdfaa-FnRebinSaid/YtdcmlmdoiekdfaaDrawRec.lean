/- The draws of records. -/
import Derived.Test.YtdcmlmdoiekdfaaDrawRow
namespace Go.Proofs.Ytdcmlmdoiekdfaa
open Go.RowKit

/-- 'append(out, z)' of one int onto a row of the call's own, and where the row lies then. -/
theorem wpList_append_intL {ops : Array Oper} {rest : List Oper} {o : Oper} {a : Act} {Q : Exit → Act → World → Prop} (w : World) (hgd : o.guard = none) (s x : Operand)
    (ho : o.op = .call { callee := .builtin .append, args := #[s, x], argTypes := #[23, 23] })
    (base : Nat) (v : Value) (n : Nat) (xs : List Int) (hs : a.eval s = v) (z : Int) (b0 : Nat) (hx : a.eval x = .slice (some ⟨b0, 0, none⟩) 1 1)
    (hown : w.ownsRow base 3 1 v n (xs.map (Value.int .i64))) (hcell : w.cell? ⟨b0, 0, none⟩ = some (.int .i64 z)) (hn : n ≤ 1000000000) (hbase : base ≤ w.heap.size)
    (h : ∀ v' w', w'.ownsRow base 3 1 v' (n + 1) ((xs ++ [z]).map (Value.int .i64)) → w.grownBy w' v.ownBlock → (∀ g, v'.ownBlock = some g → v.ownBlock = some g ∨ g = w.heap.size) → wpList Try.prog ops Q rest (a.put o.dst v') w') :
    wpList Try.prog ops Q (o :: rest) a w := by
  obtain ⟨i0, hi, hz0, hz1, hz2⟩ := info_parts Try.infoInt
  refine wpList_append_lies w hgd s x 23 ho base 3 i0 (.int .i64 0) 1 8 Try.underlying23 hi hz0 hz1 hz2 rfl (by decide) v n _ hs hown ⟨b0, 0, none⟩ 1 1 [.int .i64 z] hx rfl ?_ ?_ (by decide) (by unfold maxLen; omega) (by omega) hbase _ rfl ?_
  · intro j u hj
    match j, hj with
    | 0, hj => simp at hj; subst hj; simpa [Addr.add] using hcell
  · intro u hu; simp at hu; subst hu; rfl
  · intro g cap w' h1 h2 h3 _
    refine h _ w' (by simpa using h1) h2 fun k hk => ?_
    have e : g = k := by injection hk
    subst e
    exact h3

def Sep (v v' : Value) : Prop := ∀ g, v.ownBlock = some g → v'.ownBlock ≠ some g
theorem Sep.symm {v v' : Value} (h : Sep v v') : Sep v' v := fun g e e' => h g e' e
theorem Sep.kept {w w' : World} {base n : Nat} {v v' : Value} {xs : List Value} (h : Sep v v') (ho : w.ownsRow base 3 1 v' n xs) (hg : w.grownBy w' v.ownBlock) : w'.ownsRow base 3 1 v' n xs :=
  ho.kept hg (by
    cases e : v.ownBlock with
    | none => cases e' : v'.ownBlock with
      | none => exact .inl rfl
      | some k => exact .inr (fun e => by cases e)
    | some k => exact .inr (h k e))

/-- A record has been drawn; of what was there only the reader has turned. -/
def RecDrawn (b p : Nat) (w : World) (e : Ending) (w' : World) : Prop :=
  ∃ (a : Option Addr) (n c : Nat) (es : List Int) (a' : Option Addr) (n' c' : Nat) (am : List Int), n ≤ 8 ∧ n' ≤ 8 ∧ e = .returned (.tuple #[.slice a n c, .slice a' n' c']) ∧ IRow w' w.heap.size a n c es ∧ IRow w' w.heap.size a' n' c' am ∧ Rdr w' b p ∧ w.grownBy w' (some b)
theorem recDrawn_of_own {b p n n' : Nat} {w w' : World} {v v' : Value} {es am : List Int} (hn : n ≤ 8) (hn' : n' ≤ 8) (h : w'.ownsRow w.heap.size 3 1 v n (es.map (Value.int .i64))) (h' : w'.ownsRow w.heap.size 3 1 v' n' (am.map (Value.int .i64))) (hr : Rdr w' b p) (hg : w.grownBy w' (some b)) : RecDrawn b p w (.returned (.tuple #[v, v'])) w' := by
  obtain ⟨a, c, rfl, h1, _⟩ := IRow.of_own h
  obtain ⟨a', c', rfl, h2, _⟩ := IRow.of_own h'
  exact ⟨a, n, c, es, a', n', c', am, hn, hn', rfl, h1, h2, hr, hg⟩
theorem nine_bd (z : Nat) (hz : z < 9) : 1 ≤ nth [1, 2, 3, 4, 5, 6, 8, 10, 12] z ∧ nth [1, 2, 3, 4, 5, 6, 8, 10, 12] z ≤ 12 := by
  match z, hz with
  | 0, _ => decide
  | 1, _ => decide
  | 2, _ => decide
  | 3, _ => decide
  | 4, _ => decide
  | 5, _ => decide
  | 6, _ => decide
  | 7, _ => decide
  | 8, _ => decide

set_option maxHeartbeats 4000000 in
theorem l91Record_any (b p : Nat) (w : World) (h : Rdr w b p) (hp : p ≤ 50000) :
    Calls Try.prog 11 #[.pointer (some ⟨b, 0, none⟩)] w (RecDrawn b (p + 20) w) := by
  have hbw := h.1
  go_enter Try.func11, Try.ntmps11
  go_wp2_with fail
  refine (pick_any b p 20 _ h (by omega) (by omega) (by omega)).mono ?_
  rintro e w1 ⟨x0, hx0, rfl, r1, G1⟩
  have hs1 := G1.size
  have oe1 : (w1.alloc (.cells #[.int .i64 x0] 3)).ownsRow w.heap.size 3 1 (.slice (some ⟨w1.heap.size, 0, none⟩) 1 1) 1 ([(x0 : Int)].map (Value.int .i64)) := World.ownsRow_lit w1 _ 1 hs1 (by unfold maxLen; omega) rfl
  have oe2 := oe1.alloc (.cells #[] 3)
  have oa2 : ((w1.alloc (.cells #[.int .i64 x0] 3)).alloc (.cells #[] 3)).ownsRow w.heap.size 3 1 (.slice (some ⟨(w1.alloc (.cells #[.int .i64 x0] 3)).heap.size, 0, none⟩) 0 0) 0 (([] : List Int).map (Value.int .i64)) := World.ownsRow_lit (w1.alloc (.cells #[.int .i64 x0] 3)) _ 0 (by simp; omega) (by unfold maxLen; omega) rfl
  have b2 : Below w1.heap.size w1 ((w1.alloc (.cells #[.int .i64 x0] 3)).alloc (.cells #[] 3)) := ((Below.refl _ _).alloc (Nat.le_refl _) _).alloc (by simp) _
  have r2 := r1.keep b2 r1.1
  have G2 := grown_trans G1 (grown_below b2 (some b))
  have sep2 : Sep (.slice (some ⟨w1.heap.size, 0, none⟩) 1 1) (.slice (some ⟨w1.heap.size + 1, 0, none⟩) 0 0) := fun g e e' => by
    have e1 : w1.heap.size = g := by injection e
    have e2 : w1.heap.size + 1 = g := by injection e'
    omega
  have oa2 : ((w1.alloc (.cells #[.int .i64 x0] 3)).alloc (.cells #[] 3)).ownsRow w.heap.size 3 1 (.slice (some ⟨w1.heap.size + 1, 0, none⟩) 0 0) 0 (([] : List Int).map (Value.int .i64)) := by simpa using oa2
  clear b2 oe1
  go_wp2_with fail
  refine (pick_any b (p + 1) 5 _ r2 (by omega) (by omega) (by omega)).mono ?_
  rintro e w3 ⟨x, hx, rfl, r3, g3⟩
  have oe3 := own_pick oe2 g3 hbw
  have oa3 := own_pick oa2 g3 hbw
  have G3 := grown_trans G2 g3
  clear r1 r2 oe2 oa2 g3 G2 hs1
  go_wp2_with fail
  go_loopw [4, 5, 6, 8] (fun dv ev av i wr => ∃ (k : Nat) (d : Int) (E A : List Int), k ≤ x + 1 ∧ i = .int .i64 k ∧ dv = .int .i64 d ∧ 0 ≤ d ∧ d ≤ 20 + 12 * k ∧ wr.ownsRow w.heap.size 3 1 ev (k + 1) (E.map (Value.int .i64)) ∧ wr.ownsRow w.heap.size 3 1 av k (A.map (Value.int .i64)) ∧ Sep ev av ∧ Rdr wr b (p + 2 + k * 2) ∧ w.grownBy wr (some b)) (fun _ _ _ i _ => 9 - (intOf i).toNat)
  case atStart => exact ⟨0, x0, _, _, Nat.zero_le _, rfl, rfl, by omega, by omega, oe3, oa3, sep2, r3, G3⟩
  case round =>
    clear oe3 oa3 sep2 r3 G3
    obtain ⟨k, d, E, A, hk, rfl, rfl, hd0, hd1, he, ha, hsep, hr, hg⟩ := hrel
    by_cases hlt : k < x + 1
    · have hne : wr.heap.size ≠ b := by have := hr.1; omega
      have bL : Below wr.heap.size wr (wr.alloc (.cells #[.int .i64 1, .int .i64 2, .int .i64 3, .int .i64 4, .int .i64 5, .int .i64 6, .int .i64 8, .int .i64 10, .int .i64 12] 3)) := (Below.refl _ _).alloc (Nat.le_refl _) _
      have he := he.alloc (.cells #[.int .i64 1, .int .i64 2, .int .i64 3, .int .i64 4, .int .i64 5, .int .i64 6, .int .i64 8, .int .i64 10, .int .i64 12] 3)
      have ha := ha.alloc (.cells #[.int .i64 1, .int .i64 2, .int .i64 3, .int .i64 4, .int .i64 5, .int .i64 6, .int .i64 8, .int .i64 10, .int .i64 12] 3)
      have hr := hr.keep bL hr.1
      have hg := grown_trans hg (grown_below bL (some b))
      go_wp2_with fail
      refine (pick_any b (p + 2 + k * 2) 9 _ hr (by omega) (by omega) (by omega)).mono ?_
      rintro e w4 ⟨z, hz, rfl, r4, g4⟩
      have hcell : w4.cell? ⟨wr.heap.size, z, none⟩ = some (.int .i64 (nth [1, 2, 3, 4, 5, 6, 8, 10, 12] z)) := by
        rw [grown_cell g4 (p := ⟨wr.heap.size, z, none⟩) (by simp) hne]
        match z, hz with
        | 0, _ => simp [go_sem]; rfl
        | 1, _ => simp [go_sem]; rfl
        | 2, _ => simp [go_sem]; rfl
        | 3, _ => simp [go_sem]; rfl
        | 4, _ => simp [go_sem]; rfl
        | 5, _ => simp [go_sem]; rfl
        | 6, _ => simp [go_sem]; rfl
        | 7, _ => simp [go_sem]; rfl
        | 8, _ => simp [go_sem]; rfl
      have hqb := nine_bd z hz
      obtain ⟨q, hq⟩ : ∃ q, nth [1, 2, 3, 4, 5, 6, 8, 10, 12] z = q := ⟨_, rfl⟩
      rw [hq] at hcell hqb
      have he := own_pick he g4 hbw
      have ha := own_pick ha g4 hbw
      have hg := grown_trans hg g4
      have hzi : (z : Int) < 9 := by omega
      clear hq bL hr g4 hne
      go_wp2_with (at_builtin; refine wpList_append_intL _ rfl _ _ rfl w.heap.size _ _ _ rfl (d + q) w4.heap.size rfl (he.alloc _) (by simp) (by omega) (by have := hg.size; simp; omega) ?_; intro v5 w5 he5 hgrow5 hloc5)
      have r5 := rdr_append r4 hbw hg.size he hgrow5
      have ha5 := hsep.kept (ha.alloc _) hgrow5
      have sep5 : Sep v5 u6 := fun g e e' => by
        rcases hloc5 g e with h1 | h1
        · exact hsep g h1 e'
        · have := (ha.lt g e').2
          simp at h1
          omega
      have hg5 := grown_append hg rfl he hgrow5
      clear r4 hgrow5 hloc5 he ha hsep hg
      refine (pick_any b (p + 2 + k * 2 + 1) 60 _ r5 (by omega) (by omega) (by omega)).mono ?_
      rintro e w6 ⟨y, hy, rfl, r6, g6⟩
      have he6 := own_pick he5 g6 hbw
      have ha6 := own_pick ha5 g6 hbw
      have hg6 := grown_trans hg5 g6
      clear r5 he5 ha5 hg5 g6
      go_wp2_with (at_builtin; refine wpList_append_intL _ rfl _ _ rfl w.heap.size _ _ _ rfl (y : Int) w6.heap.size rfl (ha6.alloc _) (by simp) (by omega) (by have := hg6.size; simp; omega) ?_; intro v7 w7 ha7 hgrow7 hloc7)
      have r7 := rdr_append r6 hbw hg6.size ha6 hgrow7
      have he7 := sep5.symm.kept (he6.alloc _) hgrow7
      have sep7 : Sep v5 v7 := Sep.symm (fun g e e' => by
        rcases hloc7 g e with h1 | h1
        · exact sep5 g e' h1
        · have := (he6.lt g e').2
          simp at h1
          omega)
      have hg7 := grown_append hg6 rfl ha6 hgrow7
      have r7' : Rdr w7 b (p + 2 + (k + 1) * 2) := r7.more (by omega)
      go_roundw
      case rel => exact ⟨k + 1, d + q, _, _, by omega, by go_num, rfl, by omega, by omega, he7, ha7, sep7, r7', hg7⟩
      case measure => simp [intOf]; omega
    · obtain rfl : k = x + 1 := by omega
      have hlE : E.length = x + 2 := by have := he.1; simpa using this
      have hlA : A.length = x + 1 := by have := ha.1; simpa using this
      obtain ⟨ge, cape, rfl, hgb, hgl⟩ := he.form (by omega)
      obtain ⟨ga, capa, rfl, hab, hal⟩ := ha.form (by omega)
      have i1 : (1 : Int) < (x : Int) + 1 + 1 := by omega
      have i2 : (0 : Int) < (x : Int) + 1 := by omega
      have i3 : (0 : Int) < (x : Int) + 1 + 1 := by omega
      clear oa2 G1
      go_wp2_with fail
      refine (pick_any b (p + 2 + (x + 1) * 2) 40 _ hr (by omega) (by omega) (by omega)).mono ?_
      rintro e w4 ⟨y, hy, rfl, r4, g4⟩
      have he := own_pick he g4 hbw
      have ha := own_pick ha g4 hbw
      have hg := grown_trans hg g4
      clear g4 hr
      by_cases y0 : y = 0
      · subst y0
        have hc0 := he.cellAt 0 (by omega)
        have hc1 := he.cellAt 1 (by omega)
        rw [List.getElem?_map, List.getElem?_eq_getElem (by omega)] at hc0 hc1
        obtain ⟨v0, hv0⟩ : ∃ v0, E[0]'(by omega) = v0 := ⟨_, rfl⟩
        obtain ⟨v1, hv1⟩ : ∃ v1, E[1]'(by omega) = v1 := ⟨_, rfl⟩
        replace hc0 : w4.cell? ⟨ge, 0, none⟩ = some (.int .i64 v0) := by rw [hc0, hv0]; rfl
        replace hc1 : w4.cell? ⟨ge, 1, none⟩ = some (.int .i64 v1) := by rw [hc1, hv1]; rfl
        have hf1 := he.frozenAt 1
        have hsto := he.stored 1 (.int .i64 v0)
        have hmap : (E.map (Value.int .i64)).set 1 (.int .i64 v0) = (E.set 1 v0).map (Value.int .i64) := by rw [List.map_set]
        have he5 := hsto.1
        rw [hmap] at he5
        have ha5 := hsep.kept ha hsto.2
        have hg5 : w.grownBy (w4.setCell ⟨ge, 1, none⟩ (.int .i64 v0)) (some b) :=
          ⟨hsto.2.os.trans hg.os, hsto.2.tape.trans hg.tape, hsto.2.output.trans hg.output, Nat.le_trans hg.size hsto.2.size, fun i hi hne => (hsto.2.block i (Nat.lt_of_lt_of_le hi hg.size) (fun e => by injection e with e; omega)).trans (hg.block i hi hne)⟩
        have r5 : Rdr (w4.setCell ⟨ge, 1, none⟩ (.int .i64 v0)) b (p + 20) := (r4.keep ((Below.refl w.heap.size w4).setCell hgb _) hbw).more (by omega)
        clear hv0 hv1 hsto hmap he ha hg r4
        go_wp2_with fail
        go_ret2
        exact recDrawn_of_own (by omega) (by omega) he5 ha5 r5 hg5
      · have d0 : ((y : Int) == 0) = false := by simpa using y0
        by_cases y1 : y = 1
        · subst y1
          have bL : Below w4.heap.size w4 (w4.alloc (.cells #[.int .i64 (-1), .int .i64 10001] 3)) := (Below.refl _ _).alloc (Nat.le_refl _) _
          have hne : w4.heap.size ≠ b := by have := r4.1; omega
          have he := he.alloc (.cells #[.int .i64 (-1), .int .i64 10001] 3)
          have ha := ha.alloc (.cells #[.int .i64 (-1), .int .i64 10001] 3)
          have r4 := r4.keep bL r4.1
          have hg := grown_trans hg (grown_below bL (some b))
          go_wp2_with fail
          refine (pick_any b (p + 2 + (x + 1) * 2 + 1) 2 _ r4 (by omega) (by omega) (by omega)).mono ?_
          rintro e w5 ⟨z, hz, rfl, r5, g5⟩
          have hcell : w5.cell? ⟨w4.heap.size, z, none⟩ = some (.int .i64 (nth [-1, 10001] z)) := by
            rw [grown_cell g5 (p := ⟨w4.heap.size, z, none⟩) (by simp) hne]
            match z, hz with
            | 0, _ => simp [go_sem]; rfl
            | 1, _ => simp [go_sem]; rfl
          obtain ⟨q, hq⟩ : ∃ q, nth [-1, 10001] z = q := ⟨_, rfl⟩
          rw [hq] at hcell
          have he := own_pick he g5 hbw
          have ha := own_pick ha g5 hbw
          have hg := grown_trans hg g5
          have hzi : (z : Int) < 2 := by omega
          have hc0 := ha.cellAt 0 (by omega)
          rw [List.getElem?_map, List.getElem?_eq_getElem (by omega)] at hc0
          obtain ⟨v0, hv0⟩ : ∃ v0, A[0]'(by omega) = v0 := ⟨_, rfl⟩
          replace hc0 : w5.cell? ⟨ga, 0, none⟩ = some (.int .i64 v0) := by rw [hc0, hv0]; rfl
          have hf0 := ha.frozenAt 0
          have hsto := ha.stored 0 (.int .i64 q)
          have hmap : (A.map (Value.int .i64)).set 0 (.int .i64 q) = (A.set 0 q).map (Value.int .i64) := by rw [List.map_set]
          have ha5 := hsto.1
          rw [hmap] at ha5
          have he5 := hsep.symm.kept he hsto.2
          have hg5 : w.grownBy (w5.setCell ⟨ga, 0, none⟩ (.int .i64 q)) (some b) :=
            ⟨hsto.2.os.trans hg.os, hsto.2.tape.trans hg.tape, hsto.2.output.trans hg.output, Nat.le_trans hg.size hsto.2.size, fun i hi hne => (hsto.2.block i (Nat.lt_of_lt_of_le hi hg.size) (fun e => by injection e with e; omega)).trans (hg.block i hi hne)⟩
          have r6 : Rdr (w5.setCell ⟨ga, 0, none⟩ (.int .i64 q)) b (p + 20) := (r5.keep ((Below.refl w.heap.size w5).setCell hab _) hbw).more (by omega)
          clear hv0 hsto hmap he ha hg r4 r5 bL g5 hne hq
          go_wp2_with fail
          go_ret2
          exact recDrawn_of_own (by omega) (by omega) he5 ha5 r6 hg5
        · have d1 : ((y : Int) == 1) = false := by simp; omega
          by_cases y2 : y = 2
          · subst y2
            go_wp2_with (at_builtin; refine wpList_append_intL _ rfl _ _ rfl w.heap.size _ _ _ rfl 1 w4.heap.size rfl (ha.alloc _) (by simp) (by omega) (by have := hg.size; simp; omega) ?_; intro v7 w7 ha7 hgrow7 hloc7)
            have r7 := rdr_append r4 hbw hg.size ha hgrow7
            have he7 := hsep.symm.kept (he.alloc _) hgrow7
            have hg7 := grown_append hg rfl ha hgrow7
            go_ret2
            exact recDrawn_of_own (by omega) (by omega) he7 ha7 (r7.more (by omega)) hg7
          · have d2 : ((y : Int) == 2) = false := by simp; omega
            go_wp2_with fail
            go_ret2
            exact recDrawn_of_own (by omega) (by omega) he ha (r4.more (by omega)) hg

end Go.Proofs.Ytdcmlmdoiekdfaa
