/- An argument that is a slice of layers, as the law's frame reads it. -/
import Derived.Test.YtgfdplkgcnciiaaLBase
import Derived.Deep.Slices
import Derived.Deep.Fields
import Derived.ChangeSame
namespace Go.Proofs.Ytgfdplkgcnciiaa
open Go.ChangeShapes Go.WideShapes Go.Deep

theorem lays_choose (P : Nat → Int → Bool → Prop) (n : Nat) (h : ∀ i, i < n → ∃ d s, P i d s) : ∃ l : List Lay, l.length = n ∧ ∀ i, i < n → P i (dep l i) (sur l i) := by
  induction n with
  | zero => exact ⟨[], rfl, fun i hi => by omega⟩
  | succ n ih =>
    obtain ⟨l, hl, hp⟩ := ih (fun i hi => h i (by omega))
    obtain ⟨d, s, hds⟩ := h n (by omega)
    refine ⟨l ++ [(d, s)], by simp [hl], fun i hi => ?_⟩
    by_cases e : i = n
    · subst e
      have e1 := dep_snoc l (d, s)
      have e2 := sur_snoc l (d, s)
      rw [hl] at e1 e2
      rw [e1, e2]
      exact hds
    · rw [dep_append_left _ _ _ (by omega), sur_append_left _ _ _ (by omega)]
      exact hp i (by omega)

theorem lrow_of_trod {H : Type} {enc : TypeId × Value → H} {w : World} {base : Nat} {spare : Nat → Bool} {held : Bool} {fuel : Nat} {x : DataW H × List MemPlace} {a : Option Addr} {len cap : Nat}
    (h : DataW.trod enc Try.prog w base spare held fuel 33 [.slice a len cap] = some x) : ∃ l, LRow w 0 a len cap l ∧ len ≤ 9223372036854775807 := by
  rcases open_slice Try.underlying33 h with ⟨hcs, _⟩ | ⟨ad, len', cap', m, n, D, Pl, hcs, _, hl, hm, hmm, _, hi⟩
  · simp at hcs
    obtain ⟨rfl, rfl, rfl⟩ := hcs
    exact ⟨[], ⟨rfl, Nat.le_refl _, fun h => absurd h (by omega)⟩, by omega⟩
  · simp at hcs
    obtain ⟨rfl, rfl, rfl⟩ := hcs
    unfold maxLen at hm
    have hC : Try.prog.cellsOf 49 = 2 := by kernel_rfl
    have hC3 : Try.prog.cellsOf 3 = 1 := by kernel_rfl
    have hC4 : Try.prog.cellsOf 4 = 1 := by kernel_rfl
    have hlm : len ≤ m := by rw [hmm]; split <;> omega
    have key : ∀ i, i < len → ∃ d s, w.cell? (ad.add (i * 2)) = some (.int .i64 d) ∧ w.cell? ((ad.add (i * 2)).add 1) = some (.bool s) := fun i hil => by
      obtain ⟨cs', hc, ht'⟩ := hi i (by omega)
      rw [hC] at hc
      obtain ⟨_, hcl, hat⟩ := World.cells?_some hc
      obtain ⟨y0, y1, n', _, _, h0, h1⟩ := trod_struct2 Try.underlying49 ht'
      match cs', hcl with
      | [c0, c1], _ =>
        simp only [hC3, hC4, List.drop_zero, List.drop_succ_cons, List.take_succ_cons, List.take_zero] at h0 h1
        obtain ⟨d, e0, _, _⟩ := DataW.trod_int Try.underlying3 h0
        obtain ⟨s, e1, _⟩ := DataW.trod_bool Try.underlying4 h1
        simp at e0 e1
        subst e0 e1
        have a0 := hat 0 (by omega)
        have a1 := hat 1 (by omega)
        refine ⟨d, s, ?_, a1⟩
        have e : (ad.add (i * 2)).add 0 = ad.add (i * 2) := by unfold Addr.add; simp
        rw [e] at a0
        exact a0
    obtain ⟨l, hll, hp⟩ := lays_choose (fun i d s => w.cell? (ad.add (i * 2)) = some (.int .i64 d) ∧ w.cell? ((ad.add (i * 2)).add 1) = some (.bool s)) len key
    refine ⟨l, ⟨hll, hl, fun hn => ?_⟩, by omega⟩
    have h00 := (hp 0 hn).1
    obtain ⟨b, off, spot⟩ := ad
    have hspot : spot = none := by
      have := World.cell?_spot h00
      simpa [Addr.add] using this
    subst hspot
    refine ⟨b, off, rfl, Nat.zero_le _, ?_, fun j hj => ?_⟩
    · have := World.block_lt_of_cell? w _ h00
      rwa [Go.WideShapes.add_plain] at this
    · have := hp j hj
      rw [Go.WideShapes.add_plain, Go.WideShapes.add_plain] at this
      exact this

end Go.Proofs.Ytgfdplkgcnciiaa
