/- Rows of layers in memory, read as plain lists of pairs: two cells a layer. -/
import Derived.Test.YtbidnmjofljcnaaBase
import Derived.Test.YtbidnmjofljcnaaLayPlain
namespace Go.Proofs.Ytbidnmjofljcnaa
open Go.RowKit

/-- The slice (a, n, c) reads as the layers l; it lies in a block from lo on. -/
def LRow (w : World) (lo : Nat) (a : Option Addr) (n c : Nat) (l : List Lay) : Prop :=
  l.length = n ∧ n ≤ c ∧ (0 < n → ∃ g off, a = some ⟨g, off, none⟩ ∧ lo ≤ g ∧ g < w.heap.size ∧ ∀ j, j < n → w.cell? ⟨g, off + j * 2, none⟩ = some (.int .i64 (dep l j)) ∧ w.cell? ⟨g, off + j * 2 + 1, none⟩ = some (.bool (sur l j)))
def LFree (w : World) (a : Option Addr) (n : Nat) : Prop := ∀ g off, a = some ⟨g, off, none⟩ → ∀ j, j < n * 2 → w.frozen? ⟨g, off + j, none⟩ = false

section
variable {w w' : World} {lo n c : Nat} {a : Option Addr} {l : List Lay}
theorem LRow.len (h : LRow w lo a n c l) : l.length = n := h.1
theorem LRow.keep (h : LRow w lo a n c l) (hb : Below w.heap.size w w') : LRow w' lo a n c l := by
  refine ⟨h.1, h.2.1, fun hn => ?_⟩
  obtain ⟨g, off, e, h1, h2, h3⟩ := h.2.2 hn
  exact ⟨g, off, e, h1, Nat.lt_of_lt_of_le h2 hb.size, fun j hj => ⟨(hb.cell (p := ⟨g, off + j * 2, none⟩) h2).trans (h3 j hj).1, (hb.cell (p := ⟨g, off + j * 2 + 1, none⟩) h2).trans (h3 j hj).2⟩⟩
theorem LRow.lower {lo' : Nat} (h : LRow w lo a n c l) (hl : lo' ≤ lo) : LRow w lo' a n c l := by
  refine ⟨h.1, h.2.1, fun hn => ?_⟩
  obtain ⟨g, off, e, h1, h2, h3⟩ := h.2.2 hn
  exact ⟨g, off, e, by omega, h2, h3⟩
theorem LRow.drewN (h : LRow w lo a n c l) (k : Nat) : LRow (w.drewN k) lo a n c l := h
theorem LRow.at_ {k : Nat} (h : LRow w lo a n c l) (hk : k < n) : ∃ g off, a = some ⟨g, off, none⟩ ∧ lo ≤ g ∧ g < w.heap.size ∧ w.cell? ⟨g, off + k * 2, none⟩ = some (.int .i64 (dep l k)) ∧ w.cell? ⟨g, off + k * 2 + 1, none⟩ = some (.bool (sur l k)) := by
  obtain ⟨g, off, e, h1, h2, h3⟩ := h.2.2 (by omega)
  exact ⟨g, off, e, h1, h2, h3 k hk⟩
theorem LRow.cellAt {g off k : Nat} (h : LRow w lo (some ⟨g, off, none⟩) n c l) (hk : k < n) : w.cell? ⟨g, off + k * 2, none⟩ = some (.int .i64 (dep l k)) ∧ w.cell? ⟨g, off + k * 2 + 1, none⟩ = some (.bool (sur l k)) := by
  obtain ⟨g', off', e, _, _, hc⟩ := h.at_ hk
  injection e with e
  injection e with e1 e2 _
  subst e1 e2
  exact hc
theorem LRow.high (h : LRow w lo a n c l) : ∀ g off, a = some ⟨g, off, none⟩ → 0 < n → g < w.heap.size := fun g off e hn => by
  obtain ⟨g', off', e', _, h1, _⟩ := h.2.2 hn
  rw [e] at e'
  injection e' with e'
  injection e' with e1 _ _
  subst e1
  exact h1
theorem LRow.low (h : LRow w lo a n c l) : ∀ g off, a = some ⟨g, off, none⟩ → 0 < n → lo ≤ g := fun g off e hn => by
  obtain ⟨g', off', e', h1, _, _⟩ := h.2.2 hn
  rw [e] at e'
  injection e' with e'
  injection e' with e1 _ _
  subst e1
  exact h1
theorem LFree.keep (h : LFree w a n) (hr : LRow w lo a n c l) (hb : Below w.heap.size w w') : LFree w' a n := by
  intro g off e j hj
  have h2 := hr.high g off e (by omega)
  exact (hb.frozen (p := ⟨g, off + j, none⟩) h2).trans (h g off e j hj)
theorem LRow.take (h : LRow w lo a n c l) {k : Nat} (hk : k ≤ n) : LRow w lo a k c (l.take k) := by
  refine ⟨by rw [List.length_take, h.1]; omega, by have := h.2.1; omega, fun hn => ?_⟩
  obtain ⟨g, off, e, h1, h2, h3⟩ := h.2.2 (by omega)
  refine ⟨g, off, e, h1, h2, fun j hj => ?_⟩
  have e1 : dep (l.take k) j = dep l j := by unfold dep; rw [List.getElem?_take, if_pos hj]
  have e2 : sur (l.take k) j = sur l j := by unfold sur; rw [List.getElem?_take, if_pos hj]
  rw [e1, e2]
  exact h3 j (by omega)
end

/-- The two cells of each layer, one after the other. -/
def flat (l : List Lay) : List Value := l.flatMap fun x => [.int .i64 x.1, .bool x.2]
theorem flat_nil : flat [] = [] := rfl
theorem flat_snoc (l : List Lay) (x : Lay) : flat (l ++ [x]) = flat l ++ [.int .i64 x.1, .bool x.2] := by simp [flat]
theorem length_flat (l : List Lay) : (flat l).length = l.length * 2 := by
  induction l with
  | nil => rfl
  | cons x l ih =>
    show ([Value.int .i64 x.1, .bool x.2] ++ flat l).length = _
    rw [List.length_append, ih]
    simp
    omega
theorem flat_at (l : List Lay) (k : Nat) (h : k < l.length) : (flat l)[k * 2]? = some (.int .i64 (dep l k)) ∧ (flat l)[k * 2 + 1]? = some (.bool (sur l k)) := by
  induction l generalizing k with
  | nil => simp at h
  | cons x l ih =>
    have e : flat (x :: l) = .int .i64 x.1 :: .bool x.2 :: flat l := rfl
    rw [e]
    cases k with
    | zero => exact ⟨rfl, rfl⟩
    | succ k =>
      have := ih k (by simpa using h)
      rw [dep_cons_succ, sur_cons_succ]
      have e1 : (k + 1) * 2 = k * 2 + 2 := by omega
      rw [e1]
      exact this
theorem flat_one (l : List Lay) : ∀ u ∈ flat l, u.oneCell' = true := by
  intro u hu
  obtain ⟨x, _, hx⟩ := List.mem_flatMap.1 hu
  simp at hx
  rcases hx with rfl | rfl <;> rfl

theorem LRow.of_own {w : World} {base n : Nat} {v : Value} {l : List Lay} (h : w.ownsRow base 32 2 v n (flat l)) :
    ∃ a c, v = .slice a n c ∧ LRow w base a n c l ∧ LFree w a n := by
  have hl : l.length = n := by have := h.1; rw [length_flat] at this; omega
  rcases h.2 with ⟨rfl, rfl⟩ | ⟨g, cap, cur, rfl, hg, hh, hc, hm, hs, ht⟩
  · exact ⟨none, 0, rfl, ⟨hl, Nat.le_refl _, fun h => absurd h (by omega)⟩, fun _ _ e => by cases e⟩
  · have hlt : g < w.heap.size := (Array.getElem?_eq_some_iff.1 hh).1
    refine ⟨some ⟨g, 0, none⟩, cap, rfl, ⟨hl, hc, fun _ => ⟨g, 0, rfl, hg, hlt, fun j hj => ?_⟩⟩, ?_⟩
    · rw [Nat.zero_add, h.cellAt (j * 2) (by omega), h.cellAt (j * 2 + 1) (by omega)]
      exact flat_at l j (by omega)
    · intro g' off e j hj
      injection e with e
      injection e with e1 e2 _
      subst e1 e2
      exact h.frozenAt _

/-- The call returns a new row of layers. -/
def RetLays (l : List Lay) (w : World) (e : Ending) (w' : World) : Prop :=
  ∃ a n c, e = .returned (.slice a n c) ∧ LRow w' w.heap.size a n c l ∧ LFree w' a n ∧ Below w.heap.size w w'
def RetLaysB (l : List Lay) (b : Bool) (w : World) (e : Ending) (w' : World) : Prop :=
  ∃ a n c, e = .returned (.tuple #[.slice a n c, .bool b]) ∧ LRow w' w.heap.size a n c l ∧ LFree w' a n ∧ Below w.heap.size w w'

theorem Try.infoLay : (Try.prog.info? 32).map (fun i => (i.zero, i.size, i.bytes)) = some (some (.agg #[.int .i64 0, .bool false]), 2, 16) := by kernel_rfl

theorem depth_yes (x : Int) (w : World) (h1 : 0 ≤ x) (h2 : x ≤ 30000) : Calls Try.prog 31 #[.int .i64 x] w fun e w' => e = .returned (.bool true) ∧ w = w' := by
  go_enter Try.func31, Try.ntmps31
  go_wp2_with fail
  refine (in_yes _ _ _ _ h1 h2).mono ?_
  rintro e w' ⟨rfl, rfl⟩
  go_wp2_with fail
  go_ret
  exact ⟨rfl, rfl⟩
theorem depth_no (x : Int) (w : World) (h : ¬ (0 ≤ x ∧ x ≤ 30000)) : Calls Try.prog 31 #[.int .i64 x] w fun e w' => e = .returned (.bool false) ∧ w = w' := by
  have H := Lib.hid h
  clear h
  go_enter Try.func31, Try.ntmps31
  go_wp2_with fail
  refine (in_no _ _ _ _ H.out).mono ?_
  rintro e w' ⟨rfl, rfl⟩
  go_wp2_with fail
  go_ret
  exact ⟨rfl, rfl⟩
theorem depth_is {x : Int} {w : World} : Calls Try.prog 31 #[.int .i64 x] w fun e w' => e = .returned (.bool (decide (0 ≤ x ∧ x ≤ 30000))) ∧ w' = w := by
  by_cases h : 0 ≤ x ∧ x ≤ 30000
  · rw [decide_eq_true h]; exact (depth_yes x w h.1 h.2).mono fun _ _ ⟨a, b⟩ => ⟨a, b.symm⟩
  · rw [decide_eq_false h]; exact (depth_no x w h).mono fun _ _ ⟨a, b⟩ => ⟨a, b.symm⟩
theorem isDepth_is {x : Int} {w : World} : Calls Try.prog 33 #[.int .i64 x] w fun e w' => e = .returned (.bool (decide (0 ≤ x ∧ x ≤ 30000))) ∧ w' = w := by
  by_cases h1 : 0 ≤ x
  · by_cases h2 : x ≤ 30000
    · rw [decide_eq_true ⟨h1, h2⟩]
      go_enter Try.func33, Try.ntmps33
      go_wp2_with fail
      go_ret
      exact ⟨rfl, rfl⟩
    · rw [decide_eq_false (fun h => h2 h.2)]
      go_enter Try.func33, Try.ntmps33
      go_wp2_with fail
      go_ret
      exact ⟨rfl, rfl⟩
  · rw [decide_eq_false (fun h => h1 h.1)]
    go_enter Try.func33, Try.ntmps33
    go_wp2_with fail
    go_ret
    exact ⟨rfl, rfl⟩

end Go.Proofs.Ytbidnmjofljcnaa
