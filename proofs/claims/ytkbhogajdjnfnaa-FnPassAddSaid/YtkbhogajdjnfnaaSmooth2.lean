/- Walks of l13Pass, slices.Clone and the two versions of SmoothMany and SmoothPass. -/
import Derived.Test.YtkbhogajdjnfnaaSmooth1
import Derived.StillTailTactics
namespace Go.Proofs.Ytkbhogajdjnfnaa
open Go.RowKit

def passTo (l : List Int) (k : Nat) : List Int := (List.range k).map (passAt l)
theorem passTo_succ (l : List Int) (k : Nat) : passTo l (k + 1) = passTo l k ++ [passAt l k] := by
  unfold passTo; rw [List.range_succ, List.map_append]; rfl
theorem passTo_len (l : List Int) (k : Nat) : (passTo l k).length = k := by simp [passTo]
def Small (l : List Int) : Prop := ∀ k, -1000000000000 ≤ nth l k ∧ nth l k ≤ 1000000000000

set_option maxHeartbeats 1000000 in
theorem l13Pass_any (a : Option Addr) (n c lo : Nat) (l : List Int) (w : World) (h : IRow w lo a n c l) (hn : n ≤ 1000) (hs : Small l) :
    Calls Try.prog 42 #[.slice a n c] w (RetInts (pass l) w) := by
  have H := Lib.hid h
  clear h
  go_enter Try.func42, Try.ntmps42
  go_wp2_with fail
  go_loopw [3, 4] (fun v i wr => ∃ k : Nat, k ≤ n ∧ i = .int .i64 k ∧ wr.ownsRow w.heap.size 3 1 v k ((passTo l k).map (Value.int .i64)) ∧ Below w.heap.size w wr) (fun _ i _ => n - (intOf i).toNat)
  case atStart => exact ⟨0, Nat.zero_le _, rfl, World.ownsRow_lit w _ 0 (Nat.le_refl _) (by unfold maxLen; omega) rfl, (Below.refl _ _).alloc (Nat.le_refl _) _⟩
  case round =>
    obtain ⟨k, hk, rfl, hown, hb⟩ := hrel
    by_cases hlt : k < n
    · obtain ⟨g, off, rfl, _, hg, hc⟩ := (H.out.keep hb).at_ hlt
      obtain ⟨p, hp⟩ : ∃ p, k - 1 = p := ⟨_, rfl⟩
      obtain ⟨q, hq⟩ : ∃ q, min (n - 1) (k + 1) = q := ⟨_, rfl⟩
      have hc0 := (H.out.keep hb).cellAt (k := p) (by omega)
      have hc2 := (H.out.keep hb).cellAt (k := q) (by omega)
      have hv := hs k
      have hv0 := hs p
      have hv2 := hs q
      have E : Hid (passAt l k = nth l p + 2 * nth l k + nth l q) := by show passAt l k = _; unfold passAt; rw [H.out.len, hp, hq]
      obtain ⟨x, hx⟩ : ∃ x, nth l k = x := ⟨_, rfl⟩
      obtain ⟨y, hy⟩ : ∃ y, nth l p = y := ⟨_, rfl⟩
      obtain ⟨z, hz⟩ : ∃ z, nth l q = z := ⟨_, rfl⟩
      rw [hx] at hc hv E
      rw [hy] at hc0 hv0 E
      rw [hz] at hc2 hv2 E
      clear hx hy hz
      have n1 : (0 : Int) ≤ k := by omega
      have n2 : (k : Int) < n := by omega
      have n3 : (0 : Int) ≤ p := by omega
      have n4 : (p : Int) < n := by omega
      have n5 : (0 : Int) ≤ q := by omega
      have n6 : (q : Int) < n := by omega
      have e1 : (if 0 < (k : Int) - 1 then (k : Int) - 1 else 0) = (p : Int) := by split <;> omega
      have e2 : (if 1 < (k : Int) then (k : Int) - 1 else 0) = (p : Int) := by split <;> omega
      have e3 : (if (k : Int) + 1 < (n : Int) - 1 then (k : Int) + 1 else (n : Int) - 1) = (q : Int) := by split <;> omega
      have s0 : IntKind.i64.wrap ((k : Int) - 1) = (k : Int) - 1 := IntWalk.i64_in _ (by omega)
      have s5 : IntKind.i64.wrap ((k : Int) + 1) = (k : Int) + 1 := IntWalk.i64_in _ (by omega)
      have s1 : IntKind.i64.wrap (2 * x) = 2 * x := IntWalk.i64_in _ (by omega)
      have s2 : IntKind.i64.wrap (y + 2 * x) = y + 2 * x := IntWalk.i64_in _ (by omega)
      have s3 : IntKind.i64.wrap (y + 2 * x + z) = y + 2 * x + z := IntWalk.i64_in _ (by omega)
      have s4 : IntKind.i64.wrap ((n : Int) - 1) = (n : Int) - 1 := IntWalk.i64_in _ (by omega)
      have hsz := hb.size
      have hgw : g < w.heap.size := by
        obtain ⟨g', off', e, _, hl, _⟩ := H.out.at_ hlt
        injection e with e
        injection e with e1 e2 _
        subst e1
        exact hl
      clear hp hq
      go_wp2_with fail
      go_region_held3 (fun w' => w'.cell? ⟨g, off + k, none⟩ = some (.int .i64 x) ∧ w'.cell? ⟨g, off + p, none⟩ = some (.int .i64 y) ∧ w'.cell? ⟨g, off + q, none⟩ = some (.int .i64 z))
        (first
          | go_keep
          | (refine ⟨?_, ?_, ?_⟩
             · (rw [hgrow1.cell_far _ (by simp; omega) (own_ne hown hgw)]; go_keep)
             · (rw [hgrow1.cell_far _ (by simp; omega) (own_ne hown hgw)]; go_keep)
             · (rw [hgrow1.cell_far _ (by simp; omega) (own_ne hown hgw)]; go_keep)))
        ((refine step_append_int _ (by rfl) _ _ (by rfl) w.heap.size _ _ _ (by rfl) (y + 2 * x + z) wr.heap.size (by rfl) ((hown.alloc _).drew) (by go_simp) (by omega) (by simp; omega) ?_; intro v' w1 hown1 hgrow1))
      all_goals
        clear s0 s1 s2 s3 s4 s5 e1 e2 e3 n1 n2 n3 n4 n5 n6
        go_wp2_with fail
        go_roundw
        case rel => exact ⟨k + 1, by omega, by go_num, by rw [passTo_succ, E.out]; exact hown1, below_append hb hb.size hown (grown_drew hgrow1)⟩
        case measure => simp [intOf]; omega
    · obtain rfl : k = n := by omega
      obtain ⟨a', c', hv, hr, hf⟩ := IRow.of_own hown
      have E : Hid (passTo l k = pass l) := by show passTo l k = pass l; unfold passTo pass; rw [H.out.len]
      rw [E.out] at hr
      subst hv
      go_wp2_with fail
      go_ret
      exact ⟨_, _, _, rfl, hr, hf, hb⟩

set_option maxHeartbeats 400000 in
theorem clone_any (a : Option Addr) (n c lo : Nat) (l : List Int) (w : World) (h : IRow w lo a n c l) (h1 : 1 ≤ n) (hn : n ≤ 1048576) :
    Calls Try.prog 44 #[.slice a n c] w (RetInts l w) := by
  obtain ⟨g, off, rfl, _, hg, _⟩ := h.at_ (show 0 < n by omega)
  have H := Lib.hid h
  clear h
  have hq : ∀ W : World, (binOp .eql 22 (.slice (some ⟨g, off, none⟩) n c) (.slice none 0 0)).run Try.prog W = .ok (.bool false) W := fun W => Lib.run_eql_slice_nil W _ _ _ _ _ _ _ Try.underlying22
  go_enter Try.func44, Try.ntmps44
  go_wp2_with (at_builtin; refine wpList_append_row _ rfl _ _ rfl w.heap.size (.slice (some ⟨w.heap.size, 0, none⟩) 0 0) 0 [] rfl lo g off n c l rfl (H.out.keep ((Below.refl _ _).alloc (Nat.le_refl _) _)) (World.ownsRow_lit w _ 0 (Nat.le_refl _) (by unfold maxLen; omega) rfl) (by omega) (by simp) ?_; intro v' w1 hown1 hgrow1)
  obtain ⟨a', c', hv, hr, hf⟩ := IRow.of_own (l := l) (by simpa using hown1)
  have hb : Below w.heap.size w w1 := ((Below.refl _ _).alloc (Nat.le_refl _) _).grown hgrow1 (by simp) (fun k e => by simp [Value.ownBlock] at e; omega)
  subst hv
  go_ret
  exact ⟨_, _, _, rfl, hr, hf, hb⟩

end Go.Proofs.Ytkbhogajdjnfnaa
