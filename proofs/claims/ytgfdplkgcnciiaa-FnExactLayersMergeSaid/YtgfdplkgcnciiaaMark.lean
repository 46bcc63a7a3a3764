/- Contracts of markIntS and heldIntS: a row is written over, what lies elsewhere stays. -/
import Derived.Test.YtgfdplkgcnciiaaBase
namespace Go.Proofs.Ytgfdplkgcnciiaa
open Go.RowKit

def upFrom (k n : Nat) : List Int := (List.range n).map (fun j => ((k + j : Nat) : Int))
theorem nth_upFrom (k n j : Nat) (h : j < n) : nth (upFrom k n) j = ((k + j : Nat) : Int) := nth_map_range _ _ _ h
theorem length_upFrom (k n : Nat) : (upFrom k n).length = n := by simp [upFrom]
theorem nth_set (l : List Int) (i j : Nat) (z : Int) (h : i < l.length) : nth (l.set i z) j = if j = i then z else nth l j := by
  unfold nth
  rw [List.getElem?_set]
  by_cases e : j = i
  · subst e; simp [h]
  · rw [if_neg (fun h => e h.symm), if_neg e]

/-- Only the block of the row (a, n) may have turned. -/
structure Touch (w w' : World) (a : Option Addr) (n : Nat) : Prop where
  os : w'.os = w.os
  tape : w'.tape = w.tape
  output : w'.output = w.output
  size : w'.heap.size = w.heap.size
  block : ∀ i, (∀ g off, a = some ⟨g, off, none⟩ → 0 < n → i ≠ g) → w'.heap[i]? = w.heap[i]?
/-- Two rows lie in two blocks. -/
def Apart (a : Option Addr) (n : Nat) (a' : Option Addr) (n' : Nat) : Prop := ∀ g off g' off', a = some ⟨g, off, none⟩ → 0 < n → a' = some ⟨g', off', none⟩ → 0 < n' → g' ≠ g

theorem Touch.refl (w : World) (a : Option Addr) (n : Nat) : Touch w w a n := ⟨rfl, rfl, rfl, rfl, fun _ _ => rfl⟩
theorem Touch.set {w w' : World} {g off n : Nat} (h : Touch w w' (some ⟨g, off, none⟩) n) (hn : 0 < n) (o : Nat) (v : Value) : Touch w (w'.setCell ⟨g, o, none⟩ v) (some ⟨g, off, none⟩) n :=
  ⟨h.os, h.tape, h.output, by simpa [World.setCell] using h.size, fun i hi => (Below.heap_setCell w' ⟨g, o, none⟩ v i (hi g off rfl hn)).trans (h.block i hi)⟩
theorem Touch.below {B : Nat} {w0 w w' : World} {a : Option Addr} {n : Nat} (h : Touch w w' a n) (hb : Below B w0 w) (ha : ∀ g off, a = some ⟨g, off, none⟩ → 0 < n → B ≤ g) : Below B w0 w' :=
  hb.trans ⟨h.os, h.tape, h.output, by rw [h.size]; exact Nat.le_refl _, fun i hi => h.block i (fun g off e hn => by have := ha g off e hn; omega)⟩
theorem IRow.low {w : World} {lo n c : Nat} {a : Option Addr} {l : List Int} (h : IRow w lo a n c l) : ∀ g off, a = some ⟨g, off, none⟩ → 0 < n → lo ≤ g := fun g off e hn => by
  obtain ⟨g', off', e', h1, _, _⟩ := h.2.2 hn
  rw [e] at e'
  injection e' with e'
  injection e' with e1 _ _
  subst e1
  exact h1
theorem IRow.high {w : World} {lo n c : Nat} {a : Option Addr} {l : List Int} (h : IRow w lo a n c l) : ∀ g off, a = some ⟨g, off, none⟩ → 0 < n → g < w.heap.size := fun g off e hn => by
  obtain ⟨g', off', e', _, h1, _⟩ := h.2.2 hn
  rw [e] at e'
  injection e' with e'
  injection e' with e1 _ _
  subst e1
  exact h1
theorem Apart.symm {a a' : Option Addr} {n n' : Nat} (h : Apart a n a' n') : Apart a' n' a n := fun g off g' off' e hn e' hn' he => h g' off' g off e' hn' e hn he.symm
/-- A row that was there, and one that was made later. -/
theorem IRow.apart {w W : World} {lo lo' n c n' c' : Nat} {a a' : Option Addr} {l l' : List Int} (h : IRow w lo a n c l) (h' : IRow W lo' a' n' c' l') (hle : w.heap.size ≤ lo') : Apart a n a' n' := fun g off g' off' e hn e' hn' he => by
  have h1 := h.high g off e hn
  have h2 := h'.low g' off' e' hn'
  omega
theorem IRow.touch {w w' : World} {lo n c n' : Nat} {a a' : Option Addr} {l : List Int} (h : IRow w lo a n c l) (ht : Touch w w' a' n') (hp : Apart a' n' a n) : IRow w' lo a n c l := by
  refine ⟨h.1, h.2.1, fun hn => ?_⟩
  obtain ⟨g, off, e, h1, h2, h3⟩ := h.2.2 hn
  refine ⟨g, off, e, h1, by rw [ht.size]; exact h2, fun j hj => ?_⟩
  exact (World.cell?_of_block (a := ⟨g, off + j, none⟩) (ht.block g (fun g' off' e' hn' => hp g' off' g off e' hn' e hn))).trans (h3 j hj)
theorem IFree.touch {w w' : World} {lo n c n' : Nat} {a a' : Option Addr} {l : List Int} (hf : IFree w a n) (h : IRow w lo a n c l) (ht : Touch w w' a' n') (hp : Apart a' n' a n) : IFree w' a n := fun g off e j hj => by
  have hn : 0 < n := by omega
  have _ := h.low g off e hn
  exact (World.frozen?_of_block (a := ⟨g, off + j, none⟩) (ht.block g (fun g' off' e' hn' => hp g' off' g off e' hn' e hn))).trans (hf g off e j hj)
theorem IRow.set_ {w : World} {lo n c g off i : Nat} {l : List Int} (h : IRow w lo (some ⟨g, off, none⟩) n c l) (hi : i < n) (z : Int) : IRow (w.setCell ⟨g, off + i, none⟩ (.int .i64 z)) lo (some ⟨g, off, none⟩) n c (l.set i z) := by
  refine ⟨by rw [List.length_set]; exact h.1, h.2.1, fun hn => ?_⟩
  obtain ⟨g', off', e, h1, h2, h3⟩ := h.2.2 hn
  refine ⟨g', off', e, h1, by simpa [World.setCell] using h2, fun j hj => ?_⟩
  injection e with e
  injection e with e1 e2 _
  subst e1 e2
  rw [nth_set _ _ _ _ (by rw [h.1]; exact hi)]
  by_cases e : j = i
  · subst e
    rw [if_pos rfl]
    exact World.cell?_setCell_same _ _ _ (h3 j hj)
  · rw [if_neg e, World.cell?_setCell_other _ _ _ _ (by intro hh; injection hh with _ h5 _; omega)]
    exact h3 j hj
theorem IFree.set_ {w : World} {n : Nat} {a : Option Addr} (h : IFree w a n) (p : Addr) (v : Value) : IFree (w.setCell p v) a n := fun g off e j hj => by
  have := h g off e j hj
  simpa [World.frozen?_setCell] using this



end Go.Proofs.Ytgfdplkgcnciiaa
