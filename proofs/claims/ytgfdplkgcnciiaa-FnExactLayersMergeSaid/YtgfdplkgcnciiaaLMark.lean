/- Marks of layers: markLayerS and heldLayerS. -/
import Derived.Test.YtgfdplkgcnciiaaMark
import Derived.Test.YtgfdplkgcnciiaaLay2
namespace Go.Proofs.Ytgfdplkgcnciiaa
open Go.RowKit

def mk3 (x : Int) : Bool := x % 3 == 0
def upL (k n : Nat) : List Lay := (List.range n).map fun j => (((k + 2 * j : Nat) : Int), mk3 ((k + 2 * j + 1 : Nat) : Int))
theorem length_upL (k n : Nat) : (upL k n).length = n := by simp [upL]
theorem at_upL (k n j : Nat) (h : j < n) : dep (upL k n) j = ((k + 2 * j : Nat) : Int) ∧ sur (upL k n) j = mk3 ((k + 2 * j + 1 : Nat) : Int) := by
  unfold dep sur upL; rw [List.getElem?_map, List.getElem?_range h]; exact ⟨rfl, rfl⟩
theorem apart_hl {a a' : Option Addr} {n n' B : Nat} (hh : ∀ g off, a = some ⟨g, off, none⟩ → 0 < n → g < B) (hl : ∀ g off, a' = some ⟨g, off, none⟩ → 0 < n' → B ≤ g) : Apart a n a' n' := fun g off g' off' e hn e' hn' he => by
  have h1 := hh g off e hn
  have h2 := hl g' off' e' hn'
  omega
theorem LRow.touch {w w' : World} {lo n c n' : Nat} {a a' : Option Addr} {l : List Lay} (h : LRow w lo a n c l) (ht : Touch w w' a' n') (hp : Apart a' n' a n) : LRow w' lo a n c l := by
  refine ⟨h.1, h.2.1, fun hn => ?_⟩
  obtain ⟨g, off, e, h1, h2, h3⟩ := h.2.2 hn
  have hbk := ht.block g (fun g' off' e' hn' => hp g' off' g off e' hn' e hn)
  exact ⟨g, off, e, h1, by rw [ht.size]; exact h2, fun j hj => ⟨(World.cell?_of_block (a := ⟨g, off + j * 2, none⟩) hbk).trans (h3 j hj).1, (World.cell?_of_block (a := ⟨g, off + j * 2 + 1, none⟩) hbk).trans (h3 j hj).2⟩⟩
theorem LFree.touch {w w' : World} {n n' : Nat} {a a' : Option Addr} (hf : LFree w a n) (ht : Touch w w' a' n') (hp : Apart a' n' a n) : LFree w' a n := fun g off e j hj => by
  exact (World.frozen?_of_block (a := ⟨g, off + j, none⟩) (ht.block g (fun g' off' e' hn' => hp g' off' g off e' hn' e (by omega)))).trans (hf g off e j hj)

set_option maxHeartbeats 1000000 in
theorem markL_any (a : Option Addr) (n c lo k : Nat) (l : List Lay) (w : World) (h : LRow w lo a n c l) (hf : LFree w a n) (hk : k ≤ 10000000) (hn : n ≤ 1048576) :
    Calls Try.prog 17 #[.slice a n c, .int .i64 k] w fun e w' => e = .returned (.int .i64 ((k : Int) + 2 * n)) ∧ LRow w' lo a n c (upL k n) ∧ LFree w' a n ∧ Touch w w' a n := by
  have H := Lib.hid h
  have HF := Lib.hid hf
  clear h hf
  go_enter Try.func17, Try.ntmps17
  go_wp2_with fail
  go_loopw [1, 5] (fun q i wr => ∃ (j p : Nat) (L : List Lay), j ≤ n ∧ p = k + 2 * j ∧ i = .int .i64 j ∧ q = .int .i64 p ∧ Hid (∀ x, x < j → dep L x = dep (upL k n) x ∧ sur L x = sur (upL k n) x) ∧ LRow wr lo a n c L ∧ LFree wr a n ∧ Touch w wr a n) (fun _ i _ => n - (intOf i).toNat)
  case atStart => exact ⟨0, k, l, Nat.zero_le _, by omega, rfl, rfl, fun x hx => by omega, H.out, HF.out, Touch.refl _ _ _⟩
  case round =>
    obtain ⟨j, p, L, hj, hp, rfl, rfl, hL, hr, hfr, ht⟩ := hrel
    by_cases hlt : j < n
    · obtain ⟨g, off, rfl, _, hg, hc, hd⟩ := hr.at_ hlt
      have hz1 := hfr g off rfl (j * 2) (by omega)
      have hz2 := hfr g off rfl (j * 2 + 1) (by omega)
      rw [show off + (j * 2 + 1) = off + j * 2 + 1 by omega] at hz2
      have hr' := hr.set_ hlt (p : Int) (((p : Int) + 1) % 3 == 0)
      have ht' := (ht.set (by omega) (off + j * 2) (.int .i64 p)).set (by omega) (off + j * 2 + 1) (.bool (((p : Int) + 1) % 3 == 0))
      have hf' := (hfr.set_ ⟨g, off + j * 2, none⟩ (.int .i64 p)).set_ ⟨g, off + j * 2 + 1, none⟩ (.bool (((p : Int) + 1) % 3 == 0))
      have hL' : Hid (∀ x, x < j + 1 → dep (L.set j ((p : Int), (((p : Int) + 1) % 3 == 0))) x = dep (upL k n) x ∧ sur (L.set j ((p : Int), (((p : Int) + 1) % 3 == 0))) x = sur (upL k n) x) := fun x hx => by
        rw [dep_set _ _ _ _ (by rw [hr.len]; exact hlt), sur_set _ _ _ _ (by rw [hr.len]; exact hlt)]
        by_cases e : x = j
        · subst e
          rw [if_pos rfl, if_pos rfl, (at_upL k n x hlt).1, (at_upL k n x hlt).2, hp]
          exact ⟨rfl, by unfold mk3; simp⟩
        · rw [if_neg e, if_neg e]; exact hL.out x (by omega)
      have HP := Lib.hid hp
      have hpb : p ≤ 20000000 := by omega
      clear hp
      go_wp2_with fail
      go_roundw
      case rel => exact ⟨j + 1, p + 2, _, by omega, by have := HP.out; omega, by go_num, by go_num, hL', hr', hf', ht'⟩
      case measure => simp [intOf]; omega
    · obtain rfl : n = j := by omega
      have e : L = upL k n := lay_ext (by rw [hr.len, length_upL]) (fun x hx => (hL.out x (by rw [hr.len] at hx; exact hx)).1) (fun x hx => (hL.out x (by rw [hr.len] at hx; exact hx)).2)
      have E := Lib.hid e
      clear e
      go_wp2_with fail
      go_ret
      exact ⟨ret_int (by omega), by rw [← E.out]; exact hr, hfr, ht⟩

set_option maxHeartbeats 1000000 in
theorem heldL_any (a : Option Addr) (n c lo k : Nat) (w : World) (h : LRow w lo a n c (upL k n)) (hk : k ≤ 10000000) (hn : n ≤ 1048576) :
    Calls Try.prog 18 #[.slice a n c, .int .i64 k] w fun e w' => e = .returned (.int .i64 ((k : Int) + 2 * n)) ∧ Below w.heap.size w w' := by
  have H := Lib.hid h
  clear h
  go_enter Try.func18, Try.ntmps18
  go_wp2_with fail
  go_loopw [1, 5] (fun q i wr => ∃ (j p : Nat), j ≤ n ∧ p = k + 2 * j ∧ i = .int .i64 j ∧ q = .int .i64 p ∧ Below w.heap.size w wr) (fun _ i _ => n - (intOf i).toNat)
  case atStart => exact ⟨0, k, Nat.zero_le _, by omega, rfl, rfl, Below.refl _ _⟩
  case round =>
    obtain ⟨j, p, hj, hp, rfl, rfl, hb⟩ := hrel
    by_cases hlt : j < n
    · obtain ⟨g, off, rfl, _, hg, hc, hd⟩ := (H.out.keep hb).at_ hlt
      rw [(at_upL k n j hlt).1, ← hp] at hc
      have e3 : mk3 ((k + 2 * j + 1 : Nat) : Int) = (((p : Int) + 1) % 3 == 0) := by unfold mk3; rw [hp]; simp
      rw [(at_upL k n j hlt).2, e3] at hd
      have HP := Lib.hid hp
      have hpb : p ≤ 20000000 := by omega
      clear e3 hp
      go_wp2_with fail
      go_roundw
      case rel => exact ⟨j + 1, p + 2, by omega, by have := HP.out; omega, by go_num, by go_num, hb⟩
      case measure => simp [intOf]; omega
    · obtain rfl : n = j := by omega
      go_wp2_with fail
      go_ret
      exact ⟨ret_int (by omega), hb⟩

end Go.Proofs.Ytgfdplkgcnciiaa
