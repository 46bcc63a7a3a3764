/- Rows of integers in memory, read as plain lists: the words in which the contracts are said. -/
import Derived.Test.YtdcmlmdoiekdfaaProg
import Derived.Test.YtdcmlmdoiekdfaaList
import Derived.WalkKit
import Derived.Lib.Hide
import Derived.Deep.AppendLies
import Derived.Deep.OwnRows
import Derived.RegionTactic
import Derived.Deep.RegionHeld3
import Derived.ChangeAlike
import Derived.Deep.QuietTactic
import Derived.BigQuiet
import Derived.Outline
import Derived.OpenShut
import Derived.IntWalk
import Derived.Lib.SliceRun
namespace Go.Proofs.Ytdcmlmdoiekdfaa
open Go.RowKit

/-- The slice (a, n, c) reads as the list l; it lies in a block from lo on. -/
def IRow (w : World) (lo : Nat) (a : Option Addr) (n c : Nat) (l : List Int) : Prop :=
  l.length = n ∧ n ≤ c ∧ (0 < n → ∃ g off, a = some ⟨g, off, none⟩ ∧ lo ≤ g ∧ g < w.heap.size ∧ ∀ j, j < n → w.cell? ⟨g, off + j, none⟩ = some (.int .i64 (nth l j)))
/-- None of its cells is frozen. -/
def IFree (w : World) (a : Option Addr) (n : Nat) : Prop := ∀ g off, a = some ⟨g, off, none⟩ → ∀ j, j < n → w.frozen? ⟨g, off + j, none⟩ = false

section
variable {w w' : World} {lo n c : Nat} {a : Option Addr} {l : List Int}
theorem below_drewN {B : Nat} {a w : World} (h : Below B a w) (n : Nat) : Below B a (w.drewN n) := ⟨h.os, h.tape, h.output, h.size, h.block⟩
theorem below_new (w : World) (n : Nat) : Below w.heap.size w (w.drewN n) := below_drewN (Below.refl _ _) n
theorem Below.next {B : Nat} {a b c : World} (h : Below B a b) (k : Below b.heap.size b c) (hB : B ≤ b.heap.size) : Below B a c := h.trans (k.mono hB)
theorem below2 {a b c : World} (h : Below a.heap.size a b) (k : Below b.heap.size b c) : Below a.heap.size a c := h.trans (k.mono h.size)

theorem IRow.len (h : IRow w lo a n c l) : l.length = n := h.1
theorem IRow.keep (h : IRow w lo a n c l) (hb : Below w.heap.size w w') : IRow w' lo a n c l := by
  refine ⟨h.1, h.2.1, fun hn => ?_⟩
  obtain ⟨g, off, e, h1, h2, h3⟩ := h.2.2 hn
  exact ⟨g, off, e, h1, Nat.lt_of_lt_of_le h2 hb.size, fun j hj => (hb.cell (p := ⟨g, off + j, none⟩) h2).trans (h3 j hj)⟩
theorem IRow.lower {lo' : Nat} (h : IRow w lo a n c l) (hl : lo' ≤ lo) : IRow w lo' a n c l := by
  refine ⟨h.1, h.2.1, fun hn => ?_⟩
  obtain ⟨g, off, e, h1, h2, h3⟩ := h.2.2 hn
  exact ⟨g, off, e, by omega, h2, h3⟩
theorem IRow.drewN (h : IRow w lo a n c l) (k : Nat) : IRow (w.drewN k) lo a n c l := h
theorem IRow.at_ {k : Nat} (h : IRow w lo a n c l) (hk : k < n) : ∃ g off, a = some ⟨g, off, none⟩ ∧ lo ≤ g ∧ g < w.heap.size ∧ w.cell? ⟨g, off + k, none⟩ = some (.int .i64 (nth l k)) := by
  obtain ⟨g, off, e, h1, h2, h3⟩ := h.2.2 (by omega)
  exact ⟨g, off, e, h1, h2, h3 k hk⟩
theorem IRow.take (h : IRow w lo a n c l) {k : Nat} (hk : k ≤ n) : IRow w lo a k c (l.take k) := by
  refine ⟨by rw [List.length_take, h.1]; omega, by have := h.2.1; omega, fun hn => ?_⟩
  obtain ⟨g, off, e, h1, h2, h3⟩ := h.2.2 (by omega)
  refine ⟨g, off, e, h1, h2, fun j hj => ?_⟩
  rw [h3 j (by omega)]
  unfold nth
  rw [List.getElem?_take, if_pos hj]
theorem IFree.keep (h : IFree w a n) (hr : IRow w lo a n c l) (hb : Below w.heap.size w w') : IFree w' a n := by
  intro g off e j hj
  obtain ⟨g', off', e', _, h2, _⟩ := hr.2.2 (by omega)
  rw [e] at e'
  injection e' with e'
  injection e' with e1 _ _
  subst e1
  exact (hb.frozen (p := ⟨g, off + j, none⟩) h2).trans (h g off e j hj)

theorem IRow.of_own {base : Nat} {v : Value} (h : w.ownsRow base 3 1 v n (l.map (Value.int .i64))) :
    ∃ a c, v = .slice a n c ∧ IRow w base a n c l ∧ IFree w a n := by
  have hl : l.length = n := by have := h.1; simpa using this
  rcases h.2 with ⟨rfl, rfl⟩ | ⟨g, cap, cur, rfl, hg, hh, hc, hm, hs, ht⟩
  · exact ⟨none, 0, rfl, ⟨hl, Nat.le_refl _, fun h => absurd h (by omega)⟩, fun _ _ e => by cases e⟩
  · have hlt : g < w.heap.size := (Array.getElem?_eq_some_iff.1 hh).1
    refine ⟨some ⟨g, 0, none⟩, cap, rfl, ⟨hl, hc, fun _ => ⟨g, 0, rfl, hg, hlt, fun j hj => ?_⟩⟩, ?_⟩
    · rw [Nat.zero_add, h.cellAt j (by omega), List.getElem?_map, List.getElem?_eq_getElem (by omega)]
      unfold nth
      rw [List.getElem?_eq_getElem (by omega)]
      rfl
    · intro g' off e j hj
      injection e with e
      injection e with e1 e2 _
      subst e1 e2
      exact h.frozenAt _

theorem IRow.of_rowIs {b lo n : Nat} {f : Nat → Int} (h : w.rowIs b 3 n (fun i => .int .i64 (f i))) (hlo : lo ≤ b) : IRow w lo (some ⟨b, 0, none⟩) n n ((List.range n).map f) ∧ IFree w (some ⟨b, 0, none⟩) n := by
  refine ⟨⟨by simp, Nat.le_refl _, fun _ => ⟨b, 0, rfl, hlo, h.lt, fun j hj => ?_⟩⟩, ?_⟩
  · rw [Nat.zero_add, h.cell hj, nth_map_range _ _ _ hj]
  · intro g off e j hj
    injection e with e
    injection e with e1 e2 _
    subst e1 e2
    exact h.frozen _
end

theorem ret_bool {a b : Bool} (h : a = b) : Ending.returned (.bool a) = .returned (.bool b) := by rw [h]
theorem ret_int {k : IntKind} {a b : Int} (h : a = b) : Ending.returned (.int k a) = .returned (.int k b) := by rw [h]
theorem ret_iib {k : IntKind} {a b a' b' : Int} {c : Bool} (h : a = a') (h' : b = b') : Ending.returned (.tuple #[.int k a, .int k b, .bool c]) = .returned (.tuple #[.int k a', .int k b', .bool c]) := by rw [h, h']
theorem ret_ib {k : IntKind} {a a' : Int} {c : Bool} (h : a = a') : Ending.returned (.tuple #[.int k a, .bool c]) = .returned (.tuple #[.int k a', .bool c]) := by rw [h]

/-- A slice of integers as the law's frame hands it over. -/
theorem irow_of_arg {w : World} {a : Option Addr} {len cap : Nat} {zs : List Int}
    (h : (a = none ∧ len = 0 ∧ cap = 0 ∧ zs = []) ∨ ∃ x, a = some x ∧ len ≤ cap ∧ cap ≤ maxLen ∧ zs.length = cap ∧ (∀ i, i < zs.length → w.cell? (x.add i) = some (.int .i64 (zs.getD i 0))) ∧ ∀ n ∈ zs, (Lit.int .i64 n).wf = true) :
    IRow w 0 a len cap (zs.take len) := by
  rcases h with ⟨rfl, rfl, rfl, rfl⟩ | ⟨x, rfl, hl, hm, hz, hc, hw⟩
  · exact ⟨rfl, Nat.le_refl _, fun h => absurd h (by omega)⟩
  · refine ⟨by rw [List.length_take]; omega, hl, fun hn => ?_⟩
    obtain ⟨b, off, rfl, hcell⟩ := ints_at hc (by omega)
    refine ⟨b, off, rfl, Nat.zero_le _, World.block_lt_of_cell? w _ (hcell 0 (by omega)), fun j hj => ?_⟩
    rw [hcell j (by omega)]
    unfold nth
    rw [List.getElem?_take, if_pos hj, List.getD_eq_getElem?_getD]

theorem grown_trans {a b c : World} {row : Option Nat} (h : a.grownBy b row) (k : b.grownBy c row) : a.grownBy c row :=
  ⟨k.os.trans h.os, k.tape.trans h.tape, k.output.trans h.output, Nat.le_trans h.size k.size, fun i hi hne => (k.block i (Nat.lt_of_lt_of_le hi h.size) hne).trans (h.block i hi hne)⟩
theorem grown_drew {a b : World} {row : Option Nat} (h : a.drew.grownBy b row) : a.grownBy b row := ⟨h.os, h.tape, h.output, h.size, h.block⟩
theorem grown_below {a w : World} (h : Below a.heap.size a w) (row : Option Nat) : a.grownBy w row := ⟨h.os, h.tape, h.output, h.size, fun i hi _ => h.block i hi⟩
/-- A cell outside the one row that may have turned. -/
theorem grown_cell {w w' : World} {b : Nat} (hg : w.grownBy w' (some b)) {p : Addr} (h1 : p.block < w.heap.size) (h2 : p.block ≠ b) : w'.cell? p = w.cell? p :=
  World.cell?_of_block (hg.block p.block h1 (fun e => h2 (by injection e)))
theorem own_ne {w : World} {base : Nat} {e : TypeId} {size n g : Nat} {v : Value} {xs : List Value} (h : w.ownsRow base e size v n xs) (hg : g < base) : some g ≠ v.ownBlock := fun e => by
  have := (h.lt g e.symm).1; omega
theorem IRow.cellAt {w : World} {lo n c g off k : Nat} {l : List Int} (h : IRow w lo (some ⟨g, off, none⟩) n c l) (hk : k < n) : w.cell? ⟨g, off + k, none⟩ = some (.int .i64 (nth l k)) := by
  obtain ⟨g', off', e, _, _, hc⟩ := h.at_ hk
  injection e with e
  injection e with e1 e2 _
  subst e1 e2
  exact hc

/-- The call returns a new row of integers. -/
def RetInts (l : List Int) (w : World) (e : Ending) (w' : World) : Prop :=
  ∃ a n c, e = .returned (.slice a n c) ∧ IRow w' w.heap.size a n c l ∧ IFree w' a n ∧ Below w.heap.size w w'
/-- .. and a bool. -/
def RetIntsB (l : List Int) (b : Bool) (w : World) (e : Ending) (w' : World) : Prop :=
  ∃ a n c, e = .returned (.tuple #[.slice a n c, .bool b]) ∧ IRow w' w.heap.size a n c l ∧ IFree w' a n ∧ Below w.heap.size w w'

theorem Try.infoInt : (Try.prog.info? 3).map (fun i => (i.zero, i.size, i.bytes)) = some (some (.int .i64 0), 1, 8) := by kernel_rfl

/-- 'append(out, z)' of one int onto a row of the call's own. -/
theorem wpList_append_int {ops : Array Oper} {rest : List Oper} {o : Oper} {a : Act} {Q : Exit → Act → World → Prop} (w : World) (hgd : o.guard = none) (s x : Operand)
    (ho : o.op = .call { callee := .builtin .append, args := #[s, x], argTypes := #[23, 23] })
    (base : Nat) (v : Value) (n : Nat) (xs : List Int) (hs : a.eval s = v) (z : Int) (b0 : Nat) (hx : a.eval x = .slice (some ⟨b0, 0, none⟩) 1 1)
    (hown : w.ownsRow base 3 1 v n (xs.map (Value.int .i64))) (hcell : w.cell? ⟨b0, 0, none⟩ = some (.int .i64 z)) (hn : n ≤ 1000000000) (hbase : base ≤ w.heap.size)
    (h : ∀ v' w', w'.ownsRow base 3 1 v' (n + 1) ((xs ++ [z]).map (Value.int .i64)) → w.grownBy w' v.ownBlock → wpList Try.prog ops Q rest (a.put o.dst v') w') :
    wpList Try.prog ops Q (o :: rest) a w := by
  obtain ⟨i0, hi, hz0, hz1, hz2⟩ := info_parts Try.infoInt
  refine wpList_append_own w hgd s x 23 ho base 3 i0 (.int .i64 0) 1 8 Try.underlying23 hi hz0 hz1 hz2 rfl (by decide) v n _ hs hown ⟨b0, 0, none⟩ 1 1 [.int .i64 z] hx rfl ?_ ?_ (by unfold maxLen; omega) (by omega) hbase ?_
  · intro j u hj
    match j, hj with
    | 0, hj => simp at hj; subst hj; simpa [Addr.add] using hcell
  · intro u hu; simp at hu; subst hu; rfl
  · intro v' w' h1 h2 _
    exact h v' w' (by simpa using h1) h2

theorem step_append_int {ops : Array Oper} {o : Oper} {a : Act} {K : Act → World → Prop} {Q : Exit → Act → World → Prop} {E : Prop} (w : World) (hgd : o.guard = none) (s x : Operand)
    (ho : o.op = .call { callee := .builtin .append, args := #[s, x], argTypes := #[23, 23] })
    (base : Nat) (v : Value) (n : Nat) (xs : List Int) (hs : a.eval s = v) (z : Int) (b0 : Nat) (hx : a.eval x = .slice (some ⟨b0, 0, none⟩) 1 1)
    (hown : w.ownsRow base 3 1 v n (xs.map (Value.int .i64))) (hcell : w.cell? ⟨b0, 0, none⟩ = some (.int .i64 z)) (hn : n ≤ 1000000000) (hbase : base ≤ w.heap.size)
    (h : ∀ v' w', w'.ownsRow base 3 1 v' (n + 1) ((xs ++ [z]).map (Value.int .i64)) → w.grownBy w' v.ownBlock → K (a.put o.dst v') w') :
    if Region.wanted o (yielded ops a.tmps) = true then Oper.wp Try.prog o a w K Q else E := by
  obtain ⟨i0, hi, hz0, hz1, hz2⟩ := info_parts Try.infoInt
  refine step_append_lies w hgd s x 23 ho base 3 i0 (.int .i64 0) 1 8 Try.underlying23 hi hz0 hz1 hz2 rfl (by decide) v n _ hs hown ⟨b0, 0, none⟩ 1 1 [.int .i64 z] hx rfl ?_ ?_ (by decide) (by unfold maxLen; omega) (by omega) hbase _ rfl ?_
  · intro j u hj
    match j, hj with
    | 0, hj => simp at hj; subst hj; simpa [Addr.add] using hcell
  · intro u hu; simp at hu; subst hu; rfl
  · intro g cap w' h1 h2 _ _
    exact h _ w' (by simpa using h1) h2

/-- 'append(out, row...)' onto a row of the call's own. -/
theorem wpList_append_row {ops : Array Oper} {rest : List Oper} {o : Oper} {a : Act} {Q : Exit → Act → World → Prop} (w : World) (hgd : o.guard = none) (s x : Operand)
    (ho : o.op = .call { callee := .builtin .append, args := #[s, x], argTypes := #[23, 23] })
    (base : Nat) (v : Value) (k : Nat) (xs : List Int) (hs : a.eval s = v) (lo g off n c : Nat) (l : List Int) (hx : a.eval x = .slice (some ⟨g, off, none⟩) n c) (hr : IRow w lo (some ⟨g, off, none⟩) n c l)
    (hown : w.ownsRow base 3 1 v k (xs.map (Value.int .i64))) (hn : k + n ≤ 1000000000) (hbase : base ≤ w.heap.size)
    (h : ∀ v' w', w'.ownsRow base 3 1 v' (k + n) ((xs ++ l).map (Value.int .i64)) → w.grownBy w' v.ownBlock → wpList Try.prog ops Q rest (a.put o.dst v') w') :
    wpList Try.prog ops Q (o :: rest) a w := by
  obtain ⟨i0, hi, hz0, hz1, hz2⟩ := info_parts Try.infoInt
  refine wpList_append_own w hgd s x 23 ho base 3 i0 (.int .i64 0) 1 8 Try.underlying23 hi hz0 hz1 hz2 rfl (by decide) v k _ hs hown ⟨g, off, none⟩ n c (l.map (Value.int .i64)) hx (by simp [hr.len]) ?_ (ints_oneCell _ _) (by unfold maxLen; omega) (by omega) hbase ?_
  · intro j u hj
    rw [List.getElem?_map] at hj
    have hjl : j < l.length := by
      rcases Nat.lt_or_ge j l.length with h | h
      · exact h
      · rw [List.getElem?_eq_none h] at hj; cases hj
    rw [Go.WideShapes.add_plain, hr.cellAt (by rw [← hr.len]; exact hjl)]
    unfold nth
    rw [List.getElem?_eq_getElem hjl] at hj ⊢
    exact hj
  · intro v' w' h1 h2 _
    exact h v' w' (by simpa using h1) h2

theorem below_append {B : Nat} {w wr w1 : World} {o : Obj} {e : TypeId} {size n : Nat} {v : Value} {xs : List Value} (hb : Below B w wr) (hB : B ≤ wr.heap.size) (hown : wr.ownsRow B e size v n xs) (hgrow : (wr.alloc o).grownBy w1 v.ownBlock) : Below B w w1 :=
  (hb.alloc hB o).grown hgrow (by simp; omega) (fun k hk => (hown.lt k hk).1)

/-- 'make([]int, n)'. -/
theorem wpList_make_ints {ops : Array Oper} {rest : List Oper} {o : Oper} {a : Act} {Q : Exit → Act → World → Prop} (w : World) (hgd : o.guard = none) (l c : Operand) (ho : o.op = Op.makeSlice 23 l c)
    (n : Nat) (L : Int) (hl : a.eval l = .int .i64 L) (hc : a.eval c = .int .i64 L) (hL : L = (n : Int)) (hn : n ≤ 1000000000)
    (h : ∀ w', w'.rowIs w.heap.size 3 n (fun _ => .int .i64 0) → w'.heap.size = w.heap.size + 1 → (∀ B w0, Below B w0 w → B ≤ w.heap.size → Below B w0 w') → wpList Try.prog ops Q rest (a.put o.dst (.slice (some ⟨w.heap.size, 0, none⟩) n n)) w') :
    wpList Try.prog ops Q (o :: rest) a w := by
  obtain ⟨i0, hi, hz0, hz1, hz2⟩ := info_parts Try.infoInt
  subst hL
  refine wpList_make_row w hgd l c 23 ho 3 i0 (.int .i64 0) Try.underlying23 hi hz0 hz1 rfl .i64 .i64 n hl hc (by rw [hz2]; omega) (by omega) ?_
  exact h _ (World.rowIs_made w _ n 3) (by simp) (fun B w0 hb hB => hb.alloc hB _)

theorem in_yes (n lo hi : Int) (w : World) (h1 : lo ≤ n) (h2 : n ≤ hi) : Calls Try.prog 24 #[.int .i64 n, .int .i64 lo, .int .i64 hi] w fun e w' => e = .returned (.bool true) ∧ w = w' := by
  go_enter Try.func24, Try.ntmps24
  go_wp2
  go_ret
  exact ⟨rfl, rfl⟩
theorem in_no (n lo hi : Int) (w : World) (h : ¬ (lo ≤ n ∧ n ≤ hi)) : Calls Try.prog 24 #[.int .i64 n, .int .i64 lo, .int .i64 hi] w fun e w' => e = .returned (.bool false) ∧ w = w' := by
  by_cases h1 : lo ≤ n
  · have h2 : ¬ n ≤ hi := fun h2 => h ⟨h1, h2⟩
    clear h
    go_enter Try.func24, Try.ntmps24
    go_wp2
    go_ret
    exact ⟨rfl, rfl⟩
  · clear h
    go_enter Try.func24, Try.ntmps24
    go_wp2
    go_ret
    exact ⟨rfl, rfl⟩

end Go.Proofs.Ytdcmlmdoiekdfaa
