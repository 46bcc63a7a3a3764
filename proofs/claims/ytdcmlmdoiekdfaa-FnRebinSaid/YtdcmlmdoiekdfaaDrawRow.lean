/- l91Row and the draws of rows. What is said: a row of at most 7 numbers from -10001 to 10001 has been drawn. -/
import Derived.Test.YtdcmlmdoiekdfaaDraw2
namespace Go.Proofs.Ytdcmlmdoiekdfaa
open Go.RowKit

theorem three_at (r s t : Int) (z : Nat) (hz : z < 3) : nth [r, s, t] z = r ∨ nth [r, s, t] z = s ∨ nth [r, s, t] z = t := by
  match z, hz with
  | 0, _ => exact .inl rfl
  | 1, _ => exact .inr (.inl rfl)
  | 2, _ => exact .inr (.inr rfl)

/-- Each number is from -10001 to 10001. -/
def Drw (l : List Int) : Prop := ∀ k, -10001 ≤ nth l k ∧ nth l k ≤ 10001
theorem Drw.snoc {l : List Int} (h : Drw l) {z : Int} (h1 : -10001 ≤ z) (h2 : z ≤ 10001) : Drw (l ++ [z]) := fun k => by
  rcases Nat.lt_trichotomy k l.length with c | c | c
  · rw [nth_append_left _ _ _ c]; exact h k
  · subst c; rw [nth_snoc]; exact ⟨h1, h2⟩
  · unfold nth
    rw [List.getElem?_eq_none (by simp; omega)]
    simp
theorem Drw.nil : Drw [] := fun k => by simp [nth]
theorem Drw.set {l : List Int} (h : Drw l) (i : Nat) (hi : i < l.length) {z : Int} (h1 : -10001 ≤ z) (h2 : z ≤ 10001) : Drw (l.set i z) := fun k => by
  unfold nth
  rw [List.getElem?_set]
  by_cases e : i = k
  · subst e; simp [hi]; exact ⟨h1, h2⟩
  · rw [if_neg e]; exact h k

/-- A row has been drawn; of what was there only the reader has turned. -/
def RowDrawn (b p : Nat) (w : World) (e : Ending) (w' : World) : Prop :=
  ∃ (a : Option Addr) (n c : Nat) (l : List Int), n ≤ 7 ∧ Drw l ∧ e = .returned (.slice a n c) ∧ IRow w' w.heap.size a n c l ∧ IFree w' a n ∧ Rdr w' b p ∧ w.grownBy w' (some b)

theorem rowDrawn_of_own {b p n : Nat} {w w' : World} {v : Value} {l : List Int} (hn : n ≤ 7) (hd : Drw l) (hown : w'.ownsRow w.heap.size 3 1 v n (l.map (Value.int .i64))) (hr : Rdr w' b p) (hg : w.grownBy w' (some b)) : RowDrawn b p w (.returned v) w' := by
  obtain ⟨a, c, rfl, h1, h2⟩ := IRow.of_own hown
  exact ⟨a, n, c, l, hn, hd, rfl, h1, h2, hr, hg⟩
/-- An append onto a row of the call's own keeps the reader and what was there. -/
theorem grown_append {b B : Nat} {w wr w1 : World} {o : Obj} {e : TypeId} {size n : Nat} {v : Value} {xs : List Value} (hg : w.grownBy wr (some b)) (hB : B = w.heap.size) (hown : wr.ownsRow B e size v n xs) (hgrow : (wr.alloc o).grownBy w1 v.ownBlock) : w.grownBy w1 (some b) := by
  subst hB
  have h1 : Below w.heap.size wr w1 := ((Below.refl w.heap.size wr).alloc hg.size o).grown hgrow (by have := hg.size; simp; omega) (fun k hk => (hown.lt k hk).1)
  exact ⟨h1.os.trans hg.os, h1.tape.trans hg.tape, h1.output.trans hg.output, Nat.le_trans hg.size h1.size, fun i hi hne => (h1.block i hi).trans (hg.block i hi hne)⟩
theorem rdr_append {b p B : Nat} {wr w1 : World} {o : Obj} {e : TypeId} {size n : Nat} {v : Value} {xs : List Value} (hr : Rdr wr b p) (hb : b < B) (hB : B ≤ wr.heap.size) (hown : wr.ownsRow B e size v n xs) (hgrow : (wr.alloc o).grownBy w1 v.ownBlock) : Rdr w1 b p :=
  hr.keep (((Below.refl B wr).alloc hB o).grown hgrow (by simp; omega) (fun k hk => (hown.lt k hk).1)) hb
theorem own_pick {b base : Nat} {w w' : World} {e : TypeId} {size n : Nat} {v : Value} {xs : List Value} (h : w.ownsRow base e size v n xs) (hg : w.grownBy w' (some b)) (hb : b < base) : w'.ownsRow base e size v n xs :=
  h.kept hg (by
    cases hv : v.ownBlock with
    | none => exact .inl rfl
    | some k => exact .inr (fun e => by injection e with e; have := (h.lt k hv).1; omega))


theorem IRow.grown {w w' : World} {lo n c b : Nat} {a : Option Addr} {l : List Int} (h : IRow w lo a n c l) (hg : w.grownBy w' (some b)) (hb : b < lo) : IRow w' lo a n c l := by
  refine ⟨h.1, h.2.1, fun hn => ?_⟩
  obtain ⟨g, off, e, h1, h2, h3⟩ := h.2.2 hn
  exact ⟨g, off, e, h1, Nat.lt_of_lt_of_le h2 hg.size, fun j hj => (grown_cell hg (p := ⟨g, off + j, none⟩) h2 (by show g ≠ b; omega)).trans (h3 j hj)⟩
theorem IFree.grown {w w' : World} {lo n c b : Nat} {a : Option Addr} {l : List Int} (hf : IFree w a n) (h : IRow w lo a n c l) (hg : w.grownBy w' (some b)) (hb : b < lo) : IFree w' a n := fun g off e j hj => by
  obtain ⟨g', off', e', h1, h2, _⟩ := h.2.2 (by omega)
  rw [e] at e'
  injection e' with e'
  injection e' with e1 _ _
  subst e1
  exact (World.frozen?_of_block (a := ⟨g, off + j, none⟩) (hg.block g h2 (fun e => by injection e with e; omega))).trans (hf g off e j hj)

/-- A row has been drawn out of a code. -/
def DrawnRow (w : World) (e : Ending) (w' : World) : Prop :=
  ∃ (a : Option Addr) (n c : Nat) (l : List Int), n ≤ 7 ∧ Drw l ∧ e = .returned (.slice a n c) ∧ IRow w' w.heap.size a n c l ∧ IFree w' a n ∧ Below w.heap.size w w'
/-- .. and a number. -/
def DrawnRowT (w : World) (e : Ending) (w' : World) : Prop :=
  ∃ (a : Option Addr) (n c : Nat) (l : List Int) (t : Int), n ≤ 7 ∧ Drw l ∧ -1 ≤ t ∧ t ≤ 9 ∧ e = .returned (.tuple #[.slice a n c, .int .i64 t]) ∧ IRow w' w.heap.size a n c l ∧ IFree w' a n ∧ Below w.heap.size w w'
theorem below_grown' {a w w' : World} {b : Nat} (h : Below a.heap.size a w) (hg : w.grownBy w' (some b)) (hb : a.heap.size ≤ b) : Below a.heap.size a w' := h.grown hg h.size (fun k e => by injection e with e; omega)






end Go.Proofs.Ytdcmlmdoiekdfaa
