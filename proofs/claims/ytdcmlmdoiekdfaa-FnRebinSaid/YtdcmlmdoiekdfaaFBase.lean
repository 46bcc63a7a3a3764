/- Rows of fractions in memory, read as plain lists of pairs: two cells a fraction. -/
import Derived.Test.YtdcmlmdoiekdfaaBase
import Derived.Test.YtdcmlmdoiekdfaaFracPlain
namespace Go.Proofs.Ytdcmlmdoiekdfaa
open Go.RowKit

theorem Try.infoFrac : (Try.prog.info? 31).map (fun i => (i.zero, i.size, i.bytes)) = some (some (.agg #[.int .i64 0, .int .i64 0]), 2, 16) := by kernel_rfl

/-- The slice (a, n, c) reads as the fractions l; it lies in a block from lo on. -/
def FRow (w : World) (lo : Nat) (a : Option Addr) (n c : Nat) (l : List Fr) : Prop :=
  l.length = n ∧ n ≤ c ∧ (0 < n → ∃ g off, a = some ⟨g, off, none⟩ ∧ lo ≤ g ∧ g < w.heap.size ∧ ∀ j, j < n → w.cell? ⟨g, off + j * 2, none⟩ = some (.int .i64 (nthF l j).1) ∧ w.cell? ⟨g, off + j * 2 + 1, none⟩ = some (.int .i64 (nthF l j).2))
def FFree (w : World) (a : Option Addr) (n : Nat) : Prop := ∀ g off, a = some ⟨g, off, none⟩ → ∀ j, j < n * 2 → w.frozen? ⟨g, off + j, none⟩ = false

section
variable {w w' : World} {lo n c : Nat} {a : Option Addr} {l : List Fr}
theorem FRow.len (h : FRow w lo a n c l) : l.length = n := h.1
theorem FRow.keep (h : FRow w lo a n c l) (hb : Below w.heap.size w w') : FRow w' lo a n c l := by
  refine ⟨h.1, h.2.1, fun hn => ?_⟩
  obtain ⟨g, off, e, h1, h2, h3⟩ := h.2.2 hn
  exact ⟨g, off, e, h1, Nat.lt_of_lt_of_le h2 hb.size, fun j hj => ⟨(hb.cell (p := ⟨g, off + j * 2, none⟩) h2).trans (h3 j hj).1, (hb.cell (p := ⟨g, off + j * 2 + 1, none⟩) h2).trans (h3 j hj).2⟩⟩
theorem FRow.lower {lo' : Nat} (h : FRow w lo a n c l) (hl : lo' ≤ lo) : FRow w lo' a n c l := by
  refine ⟨h.1, h.2.1, fun hn => ?_⟩
  obtain ⟨g, off, e, h1, h2, h3⟩ := h.2.2 hn
  exact ⟨g, off, e, by omega, h2, h3⟩
theorem FRow.drewN (h : FRow w lo a n c l) (k : Nat) : FRow (w.drewN k) lo a n c l := h
theorem FRow.at_ {k : Nat} (h : FRow w lo a n c l) (hk : k < n) : ∃ g off, a = some ⟨g, off, none⟩ ∧ lo ≤ g ∧ g < w.heap.size ∧ w.cell? ⟨g, off + k * 2, none⟩ = some (.int .i64 (nthF l k).1) ∧ w.cell? ⟨g, off + k * 2 + 1, none⟩ = some (.int .i64 (nthF l k).2) := by
  obtain ⟨g, off, e, h1, h2, h3⟩ := h.2.2 (by omega)
  exact ⟨g, off, e, h1, h2, h3 k hk⟩
theorem FRow.cellAt {g off k : Nat} (h : FRow w lo (some ⟨g, off, none⟩) n c l) (hk : k < n) : w.cell? ⟨g, off + k * 2, none⟩ = some (.int .i64 (nthF l k).1) ∧ w.cell? ⟨g, off + k * 2 + 1, none⟩ = some (.int .i64 (nthF l k).2) := by
  obtain ⟨g', off', e, _, _, hc⟩ := h.at_ hk
  injection e with e
  injection e with e1 e2 _
  subst e1 e2
  exact hc
theorem FRow.high (h : FRow w lo a n c l) : ∀ g off, a = some ⟨g, off, none⟩ → 0 < n → g < w.heap.size := fun g off e hn => by
  obtain ⟨g', off', e', _, h1, _⟩ := h.2.2 hn
  rw [e] at e'
  injection e' with e'
  injection e' with e1 _ _
  subst e1
  exact h1
theorem FRow.low (h : FRow w lo a n c l) : ∀ g off, a = some ⟨g, off, none⟩ → 0 < n → lo ≤ g := fun g off e hn => by
  obtain ⟨g', off', e', h1, _, _⟩ := h.2.2 hn
  rw [e] at e'
  injection e' with e'
  injection e' with e1 _ _
  subst e1
  exact h1
theorem FFree.keep (h : FFree w a n) (hr : FRow w lo a n c l) (hb : Below w.heap.size w w') : FFree w' a n := by
  intro g off e j hj
  have h2 := hr.high g off e (by omega)
  exact (hb.frozen (p := ⟨g, off + j, none⟩) h2).trans (h g off e j hj)
end

/-- The two cells of each fraction, one after the other. -/
def flatF (l : List Fr) : List Value := l.flatMap fun x => [.int .i64 x.1, .int .i64 x.2]
theorem flatF_nil : flatF [] = [] := rfl
theorem flatF_snoc (l : List Fr) (x : Fr) : flatF (l ++ [x]) = flatF l ++ [.int .i64 x.1, .int .i64 x.2] := by simp [flatF]
theorem length_flatF (l : List Fr) : (flatF l).length = l.length * 2 := by
  induction l with
  | nil => rfl
  | cons x l ih =>
    show ([Value.int .i64 x.1, .int .i64 x.2] ++ flatF l).length = _
    rw [List.length_append, ih]
    simp
    omega
theorem nthF_cons_succ (x : Fr) (l : List Fr) (k : Nat) : nthF (x :: l) (k + 1) = nthF l k := rfl
theorem flatF_at (l : List Fr) (k : Nat) (h : k < l.length) : (flatF l)[k * 2]? = some (.int .i64 (nthF l k).1) ∧ (flatF l)[k * 2 + 1]? = some (.int .i64 (nthF l k).2) := by
  induction l generalizing k with
  | nil => simp at h
  | cons x l ih =>
    have e : flatF (x :: l) = .int .i64 x.1 :: .int .i64 x.2 :: flatF l := rfl
    rw [e]
    cases k with
    | zero => exact ⟨rfl, rfl⟩
    | succ k =>
      have := ih k (by simpa using h)
      rw [nthF_cons_succ]
      have e1 : (k + 1) * 2 = k * 2 + 2 := by omega
      rw [e1]
      exact this
theorem flatF_one (l : List Fr) : ∀ u ∈ flatF l, u.oneCell' = true := by
  intro u hu
  obtain ⟨x, _, hx⟩ := List.mem_flatMap.1 hu
  simp at hx
  rcases hx with rfl | rfl <;> rfl

theorem FRow.of_own {w : World} {base n : Nat} {v : Value} {l : List Fr} (h : w.ownsRow base 31 2 v n (flatF l)) :
    ∃ a c, v = .slice a n c ∧ FRow w base a n c l ∧ FFree w a n := by
  have hl : l.length = n := by have := h.1; rw [length_flatF] at this; omega
  rcases h.2 with ⟨rfl, rfl⟩ | ⟨g, cap, cur, rfl, hg, hh, hc, hm, hs, ht⟩
  · exact ⟨none, 0, rfl, ⟨hl, Nat.le_refl _, fun h => absurd h (by omega)⟩, fun _ _ e => by cases e⟩
  · have hlt : g < w.heap.size := (Array.getElem?_eq_some_iff.1 hh).1
    refine ⟨some ⟨g, 0, none⟩, cap, rfl, ⟨hl, hc, fun _ => ⟨g, 0, rfl, hg, hlt, fun j hj => ?_⟩⟩, ?_⟩
    · rw [Nat.zero_add, h.cellAt (j * 2) (by omega), h.cellAt (j * 2 + 1) (by omega)]
      exact flatF_at l j (by omega)
    · intro g' off e j hj
      injection e with e
      injection e with e1 e2 _
      subst e1 e2
      exact h.frozenAt _

/-- The call returns a new row of fractions. -/
def RetFr (l : List Fr) (w : World) (e : Ending) (w' : World) : Prop :=
  ∃ a n c, e = .returned (.slice a n c) ∧ FRow w' w.heap.size a n c l ∧ FFree w' a n ∧ Below w.heap.size w w'
def RetFrB (l : List Fr) (b : Bool) (w : World) (e : Ending) (w' : World) : Prop :=
  ∃ a n c, e = .returned (.tuple #[.slice a n c, .bool b]) ∧ FRow w' w.heap.size a n c l ∧ FFree w' a n ∧ Below w.heap.size w w'

/-- 'append(out, x)' of one fraction onto a row of the call's own. -/
theorem wpList_append_frac {ops : Array Oper} {rest : List Oper} {o : Oper} {a : Act} {Q : Exit → Act → World → Prop} (w : World) (hgd : o.guard = none) (s x : Operand)
    (ho : o.op = .call { callee := .builtin .append, args := #[s, x], argTypes := #[26, 26] })
    (base : Nat) (v : Value) (n : Nat) (L : List Fr) (hs : a.eval s = v) (d : Int) (q : Int) (b0 : Nat) (hx : a.eval x = .slice (some ⟨b0, 0, none⟩) 1 1)
    (hown : w.ownsRow base 31 2 v n (flatF L)) (hc0 : w.cell? ⟨b0, 0, none⟩ = some (.int .i64 d)) (hc1 : w.cell? ⟨b0, 1, none⟩ = some (.int .i64 q)) (hn : n ≤ 1000000000) (hbase : base ≤ w.heap.size)
    (h : ∀ v' w', w'.ownsRow base 31 2 v' (n + 1) (flatF (L ++ [(d, q)])) → w.grownBy w' v.ownBlock → wpList Try.prog ops Q rest (a.put o.dst v') w') :
    wpList Try.prog ops Q (o :: rest) a w := by
  obtain ⟨i0, hi, hz0, hz1, hz2⟩ := info_parts Try.infoFrac
  refine wpList_append_own w hgd s x 26 ho base 31 i0 _ 2 16 Try.underlying26 hi hz0 hz1 hz2 rfl (by decide) v n _ hs hown ⟨b0, 0, none⟩ 1 1 [.int .i64 d, .int .i64 q] hx rfl ?_ ?_ (by unfold maxLen; omega) (by omega) hbase ?_
  · intro j u hj
    match j, hj with
    | 0, hj => simp at hj; subst hj; simpa [Addr.add] using hc0
    | 1, hj => simp at hj; subst hj; simpa [Addr.add] using hc1
  · intro u hu; simp at hu; rcases hu with rfl | rfl <;> rfl
  · intro v' w' h1 h2 _
    exact h v' w' (by rw [flatF_snoc]; exact h1) h2


end Go.Proofs.Ytdcmlmdoiekdfaa
