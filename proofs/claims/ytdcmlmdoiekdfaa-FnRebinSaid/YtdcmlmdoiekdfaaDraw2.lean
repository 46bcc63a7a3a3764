/- l6Open, l92Limits, DrawCutsMany. -/
import Derived.Test.YtdcmlmdoiekdfaaDraw
namespace Go.Proofs.Ytdcmlmdoiekdfaa
open Go.RowKit

theorem brow_of_arg {w : World} {a : Option Addr} {len cap : Nat} {zs : List Int}
    (h : (a = none ∧ len = 0 ∧ cap = 0 ∧ zs = []) ∨ ∃ x, a = some x ∧ len ≤ cap ∧ cap ≤ maxLen ∧ zs.length = cap ∧ (∀ i, i < zs.length → w.cell? (x.add i) = some (.int .u8 (zs.getD i 0))) ∧ ∀ n ∈ zs, (Lit.int .u8 n).wf = true) :
    BRow w w.heap.size a len ∧ len ≤ cap ∧ len ≤ 9223372036854775807 := by
  rcases h with ⟨rfl, rfl, rfl, rfl⟩ | ⟨x, rfl, hl, hm, hz, hc, hw⟩
  · exact ⟨fun h => absurd h (by omega), Nat.le_refl _, by omega⟩
  · unfold maxLen at hm
    refine ⟨fun hn => ?_, hl, by omega⟩
    obtain ⟨b, off, rfl, hcell⟩ := ints_at hc (by omega)
    refine ⟨b, off, rfl, World.block_lt_of_cell? w _ (hcell 0 (by omega)), fun j hj => ?_⟩
    have hj' : j < zs.length := by omega
    have hb := bounds_u8 (hw (zs.getD j 0) (by rw [List.getD_eq_getElem?_getD, List.getElem?_eq_getElem hj']; exact List.getElem_mem hj'))
    exact ⟨_, hb.1, hb.2, hcell j hj'⟩

/-- A reader has been opened. -/
def Opened (w : World) (e : Ending) (w' : World) : Prop := ∃ b, e = .returned (.pointer (some ⟨b, 0, none⟩)) ∧ w.heap.size ≤ b ∧ Rdr w' b 0 ∧ Below w.heap.size w w'

theorem opened_mk (w : World) (a : Option Addr) (n c : Nat) (t : TypeId) (hn : n ≤ 2000) (hb : BRow w w.heap.size a n) :
    Opened w (.returned (.pointer (some ⟨w.heap.size, 0, none⟩))) (w.alloc (.cells #[.slice a n c, .int .i64 0] t)) := by
  have hbel := (Below.refl w.heap.size w).alloc (Nat.le_refl _) (.cells #[.slice a n c, .int .i64 0] t)
  refine ⟨w.heap.size, rfl, Nat.le_refl _, ⟨by simp, a, n, c, 0, Nat.le_refl _, hn, ?_, ?_, ?_, hb.keep hbel (Nat.le_refl _)⟩, hbel⟩
  · simp [go_sem]
  · simp [go_sem]
  · simp [go_sem]

set_option maxHeartbeats 400000 in
theorem l6Open_any (a : Option Addr) (n c : Nat) (w : World) (h : BRow w w.heap.size a n) (hc : n ≤ c) (hn : n ≤ 9223372036854775807) :
    Calls Try.prog 10 #[.slice a n c] w (Opened w) := by
  have H := Lib.hid h
  clear h
  by_cases h1 : 2000 < n
  · obtain ⟨g, off, rfl, hg, hz⟩ := H.out (by omega)
    have hb2 : BRow w w.heap.size (some ⟨g, off, none⟩) 2000 := fun _ => ⟨g, off, rfl, hg, fun j hj => hz j (by omega)⟩
    have H2 := Lib.hid hb2
    clear hz hb2
    go_enter Try.func10, Try.ntmps10
    go_wp2
    go_ret
    exact opened_mk w _ 2000 _ _ (Nat.le_refl _) H2.out
  · go_enter Try.func10, Try.ntmps10
    go_wp2
    go_ret
    exact opened_mk w _ n _ _ (by omega) H.out


theorem arr_at (l : List Int) (z : Nat) (h : z < (l.map (Value.int .i64)).length) : (l.map (Value.int .i64))[z]'h = .int .i64 (nth l z) := by
  unfold nth
  have : z < l.length := by simpa using h
  simp [this]



end Go.Proofs.Ytdcmlmdoiekdfaa
