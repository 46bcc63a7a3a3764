/- Contracts of markIntS and heldIntS: a row is written over, what lies elsewhere stays. -/
import Derived.Test.YtabbclfodlhikaaBase
namespace Go.Proofs.Ytabbclfodlhikaa
open Go.RowKit

def upFrom (k n : Nat) : List Int := (List.range n).map (fun j => ((k + j : Nat) : Int))
theorem nth_upFrom (k n j : Nat) (h : j < n) : nth (upFrom k n) j = ((k + j : Nat) : Int) := nth_map_range _ _ _ h
theorem length_upFrom (k n : Nat) : (upFrom k n).length = n := by simp [upFrom]
theorem nth_set (l : List Int) (i j : Nat) (z : Int) (h : i < l.length) : nth (l.set i z) j = if j = i then z else nth l j := by
  unfold nth
  rw [List.getElem?_set]
  by_cases e : j = i
  · subst e; simp [h]
  · rw [if_neg (fun h => e h.symm), if_neg e]

/-- Only the block of the row (a, n) may have turned. -/
structure Touch (w w' : World) (a : Option Addr) (n : Nat) : Prop where
  os : w'.os = w.os
  tape : w'.tape = w.tape
  output : w'.output = w.output
  size : w'.heap.size = w.heap.size
  block : ∀ i, (∀ g off, a = some ⟨g, off, none⟩ → 0 < n → i ≠ g) → w'.heap[i]? = w.heap[i]?
/-- Two rows lie in two blocks. -/
def Apart (a : Option Addr) (n : Nat) (a' : Option Addr) (n' : Nat) : Prop := ∀ g off g' off', a = some ⟨g, off, none⟩ → 0 < n → a' = some ⟨g', off', none⟩ → 0 < n' → g' ≠ g

theorem Touch.refl (w : World) (a : Option Addr) (n : Nat) : Touch w w a n := ⟨rfl, rfl, rfl, rfl, fun _ _ => rfl⟩
theorem Touch.set {w w' : World} {g off n : Nat} (h : Touch w w' (some ⟨g, off, none⟩) n) (hn : 0 < n) (o : Nat) (v : Value) : Touch w (w'.setCell ⟨g, o, none⟩ v) (some ⟨g, off, none⟩) n :=
  ⟨h.os, h.tape, h.output, by simpa [World.setCell] using h.size, fun i hi => (Below.heap_setCell w' ⟨g, o, none⟩ v i (hi g off rfl hn)).trans (h.block i hi)⟩
theorem Touch.below {B : Nat} {w0 w w' : World} {a : Option Addr} {n : Nat} (h : Touch w w' a n) (hb : Below B w0 w) (ha : ∀ g off, a = some ⟨g, off, none⟩ → 0 < n → B ≤ g) : Below B w0 w' :=
  hb.trans ⟨h.os, h.tape, h.output, by rw [h.size]; exact Nat.le_refl _, fun i hi => h.block i (fun g off e hn => by have := ha g off e hn; omega)⟩
theorem IRow.low {w : World} {lo n c : Nat} {a : Option Addr} {l : List Int} (h : IRow w lo a n c l) : ∀ g off, a = some ⟨g, off, none⟩ → 0 < n → lo ≤ g := fun g off e hn => by
  obtain ⟨g', off', e', h1, _, _⟩ := h.2.2 hn
  rw [e] at e'
  injection e' with e'
  injection e' with e1 _ _
  subst e1
  exact h1
theorem IRow.high {w : World} {lo n c : Nat} {a : Option Addr} {l : List Int} (h : IRow w lo a n c l) : ∀ g off, a = some ⟨g, off, none⟩ → 0 < n → g < w.heap.size := fun g off e hn => by
  obtain ⟨g', off', e', _, h1, _⟩ := h.2.2 hn
  rw [e] at e'
  injection e' with e'
  injection e' with e1 _ _
  subst e1
  exact h1
theorem Apart.symm {a a' : Option Addr} {n n' : Nat} (h : Apart a n a' n') : Apart a' n' a n := fun g off g' off' e hn e' hn' he => h g' off' g off e' hn' e hn he.symm
/-- A row that was there, and one that was made later. -/
theorem IRow.apart {w W : World} {lo lo' n c n' c' : Nat} {a a' : Option Addr} {l l' : List Int} (h : IRow w lo a n c l) (h' : IRow W lo' a' n' c' l') (hle : w.heap.size ≤ lo') : Apart a n a' n' := fun g off g' off' e hn e' hn' he => by
  have h1 := h.high g off e hn
  have h2 := h'.low g' off' e' hn'
  omega
theorem IRow.touch {w w' : World} {lo n c n' : Nat} {a a' : Option Addr} {l : List Int} (h : IRow w lo a n c l) (ht : Touch w w' a' n') (hp : Apart a' n' a n) : IRow w' lo a n c l := by
  refine ⟨h.1, h.2.1, fun hn => ?_⟩
  obtain ⟨g, off, e, h1, h2, h3⟩ := h.2.2 hn
  refine ⟨g, off, e, h1, by rw [ht.size]; exact h2, fun j hj => ?_⟩
  exact (World.cell?_of_block (a := ⟨g, off + j, none⟩) (ht.block g (fun g' off' e' hn' => hp g' off' g off e' hn' e hn))).trans (h3 j hj)
theorem IFree.touch {w w' : World} {lo n c n' : Nat} {a a' : Option Addr} {l : List Int} (hf : IFree w a n) (h : IRow w lo a n c l) (ht : Touch w w' a' n') (hp : Apart a' n' a n) : IFree w' a n := fun g off e j hj => by
  have hn : 0 < n := by omega
  have _ := h.low g off e hn
  exact (World.frozen?_of_block (a := ⟨g, off + j, none⟩) (ht.block g (fun g' off' e' hn' => hp g' off' g off e' hn' e hn))).trans (hf g off e j hj)
theorem IRow.set_ {w : World} {lo n c g off i : Nat} {l : List Int} (h : IRow w lo (some ⟨g, off, none⟩) n c l) (hi : i < n) (z : Int) : IRow (w.setCell ⟨g, off + i, none⟩ (.int .i64 z)) lo (some ⟨g, off, none⟩) n c (l.set i z) := by
  refine ⟨by rw [List.length_set]; exact h.1, h.2.1, fun hn => ?_⟩
  obtain ⟨g', off', e, h1, h2, h3⟩ := h.2.2 hn
  refine ⟨g', off', e, h1, by simpa [World.setCell] using h2, fun j hj => ?_⟩
  injection e with e
  injection e with e1 e2 _
  subst e1 e2
  rw [nth_set _ _ _ _ (by rw [h.1]; exact hi)]
  by_cases e : j = i
  · subst e
    rw [if_pos rfl]
    exact World.cell?_setCell_same _ _ _ (h3 j hj)
  · rw [if_neg e, World.cell?_setCell_other _ _ _ _ (by intro hh; injection hh with _ h5 _; omega)]
    exact h3 j hj
theorem IFree.set_ {w : World} {n : Nat} {a : Option Addr} (h : IFree w a n) (p : Addr) (v : Value) : IFree (w.setCell p v) a n := fun g off e j hj => by
  have := h g off e j hj
  simpa [World.frozen?_setCell] using this

set_option maxHeartbeats 400000 in
theorem mark_any (a : Option Addr) (n c lo k : Nat) (l : List Int) (w : World) (h : IRow w lo a n c l) (hf : IFree w a n) (hk : k ≤ 1000000) (hn : n ≤ 1048576) :
    Calls Try.prog 26 #[.slice a n c, .int .i64 k] w fun e w' => e = .returned (.int .i64 ((k : Int) + n)) ∧ IRow w' lo a n c (upFrom k n) ∧ IFree w' a n ∧ Touch w w' a n := by
  have H := Lib.hid h
  have HF := Lib.hid hf
  clear h hf
  go_enter Try.func26, Try.ntmps26
  go_wp2_with fail
  go_loopw [1, 5] (fun q i wr => ∃ (j : Nat) (L : List Int), j ≤ n ∧ i = .int .i64 j ∧ q = .int .i64 ((k : Int) + j) ∧ Hid (∀ x, x < j → nth L x = ((k + x : Nat) : Int)) ∧ IRow wr lo a n c L ∧ IFree wr a n ∧ Touch w wr a n) (fun _ i _ => n - (intOf i).toNat)
  case atStart => exact ⟨0, l, Nat.zero_le _, rfl, by simp, fun x hx => by omega, H.out, HF.out, Touch.refl _ _ _⟩
  case round =>
    obtain ⟨j, L, hj, rfl, rfl, hL, hr, hfr, ht⟩ := hrel
    by_cases hlt : j < n
    · obtain ⟨g, off, rfl, _, hg, hcell⟩ := hr.at_ hlt
      have hfz := hfr g off rfl j hlt
      have hr' := hr.set_ hlt ((k : Int) + j)
      have ht' := ht.set (by omega) (off + j) (.int .i64 ((k : Int) + j))
      have hf' := hfr.set_ ⟨g, off + j, none⟩ (.int .i64 ((k : Int) + j))
      have hL' : Hid (∀ x, x < j + 1 → nth (L.set j ((k : Int) + j)) x = ((k + x : Nat) : Int)) := fun x hx => by
        rw [nth_set _ _ _ _ (by rw [hr.len]; exact hlt)]
        by_cases e : x = j
        · subst e; rw [if_pos rfl]; omega
        · rw [if_neg e]; exact hL.out x (by omega)
      go_wp2_with fail
      go_roundw
      case rel => exact ⟨j + 1, _, by omega, by go_num, by go_num, hL', hr', hf', ht'⟩
      case measure => simp [intOf]; omega
    · obtain rfl : j = n := by omega
      have e : L = upFrom k j := nth_ext (by rw [hr.len, length_upFrom]) fun x hx => by
        rw [hr.len] at hx
        rw [nth_upFrom _ _ _ hx, hL.out x hx]
      have E := Lib.hid e
      clear e
      go_wp2_with fail
      go_ret
      exact ⟨rfl, by rw [← E.out]; exact hr, hfr, ht⟩

set_option maxHeartbeats 400000 in
theorem held_any (a : Option Addr) (n c lo k : Nat) (w : World) (h : IRow w lo a n c (upFrom k n)) (hk : k ≤ 1000000) (hn : n ≤ 1048576) :
    Calls Try.prog 27 #[.slice a n c, .int .i64 k] w fun e w' => e = .returned (.int .i64 ((k : Int) + n)) ∧ w = w' := by
  have H := Lib.hid h
  clear h
  go_enter Try.func27, Try.ntmps27
  go_wp2_with fail
  go_loop [1, 5] (fun q i => ∃ (j : Nat), j ≤ n ∧ i = .int .i64 j ∧ q = .int .i64 ((k : Int) + j)) (fun _ i => n - (intOf i).toNat)
  case atStart => exact ⟨0, Nat.zero_le _, rfl, by simp⟩
  case round =>
    obtain ⟨j, hj, rfl, rfl⟩ := hrel
    by_cases hlt : j < n
    · obtain ⟨g, off, rfl, _, hg, hcell⟩ := H.out.at_ hlt
      rw [nth_upFrom _ _ _ hlt, show ((k + j : Nat) : Int) = (k : Int) + j by omega] at hcell
      go_wp2_with fail
      go_round
      case rel => exact ⟨j + 1, by omega, by go_num, by go_num⟩
      case measure => simp [intOf]; omega
    · obtain rfl : j = n := by omega
      go_wp2_with fail
      go_ret
      exact ⟨rfl, rfl⟩

end Go.Proofs.Ytabbclfodlhikaa
