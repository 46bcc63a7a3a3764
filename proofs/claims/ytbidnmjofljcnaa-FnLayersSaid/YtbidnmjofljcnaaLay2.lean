/- Contracts of the laws' helpers over layers: toLayer, toLayerS, szLayerS, eqLayer, eqLayerS. -/
import Derived.Test.YtbidnmjofljcnaaLay1
import Derived.StillTailTactics
namespace Go.Proofs.Ytbidnmjofljcnaa
open Go.RowKit

theorem dep_set (l : List Lay) (i j : Nat) (z : Lay) (h : i < l.length) : dep (l.set i z) j = if j = i then z.1 else dep l j := by
  unfold dep
  rw [List.getElem?_set]
  by_cases e : j = i
  · subst e; simp [h]
  · rw [if_neg (fun h => e h.symm), if_neg e]
theorem sur_set (l : List Lay) (i j : Nat) (z : Lay) (h : i < l.length) : sur (l.set i z) j = if j = i then z.2 else sur l j := by
  unfold sur
  rw [List.getElem?_set]
  by_cases e : j = i
  · subst e; simp [h]
  · rw [if_neg (fun h => e h.symm), if_neg e]

theorem LRow.set_ {w : World} {lo n c g off i : Nat} {l : List Lay} (h : LRow w lo (some ⟨g, off, none⟩) n c l) (hi : i < n) (d : Int) (s : Bool) :
    LRow ((w.setCell ⟨g, off + i * 2, none⟩ (.int .i64 d)).setCell ⟨g, off + i * 2 + 1, none⟩ (.bool s)) lo (some ⟨g, off, none⟩) n c (l.set i (d, s)) := by
  refine ⟨by rw [List.length_set]; exact h.1, h.2.1, fun hn => ?_⟩
  obtain ⟨g', off', e, h1, h2, h3⟩ := h.2.2 hn
  refine ⟨g', off', e, h1, by simpa [World.setCell] using h2, fun j hj => ?_⟩
  injection e with e
  injection e with e1 e2 _
  subst e1 e2
  rw [dep_set _ _ _ _ (by rw [h.1]; exact hi), sur_set _ _ _ _ (by rw [h.1]; exact hi)]
  by_cases e : j = i
  · subst e
    rw [if_pos rfl, if_pos rfl]
    refine ⟨?_, ?_⟩
    · rw [World.cell?_setCell_other _ _ _ _ (by intro hh; injection hh with _ h5 _; omega)]
      exact World.cell?_setCell_same _ _ _ (h3 j hj).1
    · have : (w.setCell ⟨g, off + j * 2, none⟩ (.int .i64 d)).cell? ⟨g, off + j * 2 + 1, none⟩ = some (.bool (sur l j)) := by
        rw [World.cell?_setCell_other _ _ _ _ (by intro hh; injection hh with _ h5 _; omega)]
        exact (h3 j hj).2
      exact World.cell?_setCell_same _ _ _ this
  · rw [if_neg e, if_neg e]
    refine ⟨?_, ?_⟩
    · rw [World.cell?_setCell_other _ _ _ _ (by intro hh; injection hh with _ h5 _; omega), World.cell?_setCell_other _ _ _ _ (by intro hh; injection hh with _ h5 _; omega)]
      exact (h3 j hj).1
    · rw [World.cell?_setCell_other _ _ _ _ (by intro hh; injection hh with _ h5 _; omega), World.cell?_setCell_other _ _ _ _ (by intro hh; injection hh with _ h5 _; omega)]
      exact (h3 j hj).2
theorem LFree.set_ {w : World} {n : Nat} {a : Option Addr} (h : LFree w a n) (p : Addr) (v : Value) : LFree (w.setCell p v) a n := fun g off e j hj => by
  have := h g off e j hj
  simpa [World.frozen?_setCell] using this

theorem made_flat (n : Nat) : (madeCells #[.int .i64 0, .bool false] (n * 2)).toList = flat (List.replicate n ((0, false) : Lay)) := by
  refine List.ext_getElem? fun j => ?_
  by_cases hj : j < n * 2
  · obtain ⟨q, r, rfl, hr⟩ : ∃ q r, j = q * 2 + r ∧ r < 2 := ⟨j / 2, j % 2, by omega, by omega⟩
    have hq : q < (List.replicate n ((0, false) : Lay)).length := by simp; omega
    have f := flat_at _ q hq
    have e1 : dep (List.replicate n ((0, false) : Lay)) q = 0 := by unfold dep; rw [List.getElem?_replicate]; split <;> rfl
    have e2 : sur (List.replicate n ((0, false) : Lay)) q = false := by unfold sur; rw [List.getElem?_replicate]; split <;> rfl
    rw [e1, e2] at f
    have e : (madeCells #[.int .i64 0, .bool false] (n * 2)).toList[q * 2 + r]? = some ((#[.int .i64 0, .bool false] : Array Value)[(q * 2 + r) % 2]!) := by
      simp [madeCells, hj]
    rw [e]
    match r, hr with
    | 0, _ => rw [Nat.add_zero, f.1, show q * 2 % 2 = 0 by omega]; rfl
    | 1, _ => rw [f.2, show (q * 2 + 1) % 2 = 1 by omega]; rfl
  · rw [List.getElem?_eq_none (by simp [madeCells]; omega), List.getElem?_eq_none (by rw [length_flat]; simp; omega)]

/-- 'make([]impl.Layer, n)'. -/
theorem wpList_make_lays {ops : Array Oper} {rest : List Oper} {o : Oper} {a : Act} {Q : Exit → Act → World → Prop} (w : World) (hgd : o.guard = none) (l c : Operand) (ho : o.op = Op.makeSlice 25 l c)
    (n : Nat) (L : Int) (hl : a.eval l = .int .i64 L) (hc : a.eval c = .int .i64 L) (hL : L = (n : Int)) (hn : n ≤ 1000000000)
    (h : ∀ w', LRow w' w.heap.size (some ⟨w.heap.size, 0, none⟩) n n (List.replicate n ((0, false) : Lay)) → LFree w' (some ⟨w.heap.size, 0, none⟩) n → Below w.heap.size w w' → wpList Try.prog ops Q rest (a.put o.dst (.slice (some ⟨w.heap.size, 0, none⟩) n n)) w') :
    wpList Try.prog ops Q (o :: rest) a w := by
  obtain ⟨i0, hi, hz0, hz1, hz2⟩ := info_parts Try.infoLay
  refine wpList_make_full w hgd l c 25 ho w.heap.size 32 i0 (.agg #[.int .i64 0, .bool false]) 2 Try.underlying25 hi hz0 hz1 .i64 .i64 L L n hl hc hL hL (by rw [hz2]; omega) (by unfold maxLen; omega) (Nat.le_refl _) ?_
  intro w' hown hg
  have e : (madeCells (Value.agg #[.int .i64 0, .bool false]).cells (n * 2)).toList = flat (List.replicate n ((0, false) : Lay)) := made_flat n
  rw [e] at hown
  obtain ⟨a', c', hv, hr, hf⟩ := LRow.of_own hown
  injection hv with h1 h2 h3
  subst h1 h3
  exact h w' hr hf ((Below.refl _ _).grown hg (Nat.le_refl _) (fun k e => by cases e))

theorem toLayer_any (d : Int) (s : Bool) (w : World) : Calls Try.prog 32 #[.agg #[.int .i64 d, .bool s]] w fun e w' => e = .returned (.agg #[.int .i64 d, .bool s]) ∧ Below w.heap.size w w' := by
  go_enter Try.func32, Try.ntmps32
  go_wp2_with fail
  refine bodyPost_ret (v := .agg #[.int .i64 d, .bool s]) (by simp [results, Try.results32, go_sem]) rfl ⟨rfl, ?_⟩
  exact (((Below.refl _ _).alloc (Nat.le_refl _) _).alloc (by simp) _).alloc (by simp; omega) _

theorem eqLayer_yes (d : Int) (s : Bool) (w : World) : Calls Try.prog 34 #[.agg #[.int .i64 d, .bool s], .agg #[.int .i64 d, .bool s]] w fun e w' => e = .returned (.bool true) ∧ Below w.heap.size w w' := by
  go_enter Try.func34, Try.ntmps34
  go_wp2_with fail
  go_ret
  exact ⟨rfl, ((Below.refl _ _).alloc (Nat.le_refl _) _).alloc (by simp) _⟩

theorem sz_ok (a : Option Addr) (n c : Nat) (left : Int) (w : World) (h1 : (n : Int) ≤ left) (h2 : left ≤ 1048576) : Calls Try.prog 15 #[.slice a n c, .int .i64 left] w fun e w' => e = .returned (.int .i64 (left - n)) ∧ w = w' := by
  go_enter Try.func15, Try.ntmps15
  go_wp2_with fail
  go_ret
  exact ⟨rfl, rfl⟩
theorem sz_no (a : Option Addr) (n c : Nat) (left : Int) (w : World) (h0 : 0 ≤ left) (h1 : left < (n : Int)) (h2 : left ≤ 1048576) (hn : n ≤ 9223372036854775807) : Calls Try.prog 15 #[.slice a n c, .int .i64 left] w fun e w' => e = .returned (.int .i64 (-1)) ∧ w = w' := by
  go_enter Try.func15, Try.ntmps15
  go_wp2_with fail
  go_ret
  exact ⟨rfl, rfl⟩

set_option maxHeartbeats 400000 in
theorem eqLayerS_yes (a a' : Option Addr) (n c c' lo lo' : Nat) (l : List Lay) (w : World) (h : LRow w lo a n c l) (h' : LRow w lo' a' n c' l) (hn : n ≤ 1048576) :
    Calls Try.prog 19 #[.slice a n c, .slice a' n c'] w fun e w' => e = .returned (.bool true) ∧ Below w.heap.size w w' := by
  have H := Lib.hid h
  have H' := Lib.hid h'
  clear h h'
  go_enter Try.func19, Try.ntmps19
  go_wp2_with fail
  go_loopw [5] (fun i wr => ∃ k : Nat, k ≤ n ∧ i = .int .i64 k ∧ Below w.heap.size w wr) (fun i _ => n - (intOf i).toNat)
  case atStart => exact ⟨0, Nat.zero_le _, rfl, Below.refl _ _⟩
  case round =>
    obtain ⟨k, hk, rfl, hb⟩ := hrel
    by_cases hlt : k < n
    · obtain ⟨g, off, rfl, _, hg, hc, hd⟩ := (H.out.keep hb).at_ hlt
      obtain ⟨g', off', rfl, _, hg', hc', hd'⟩ := (H'.out.keep hb).at_ hlt
      have n1 : (0 : Int) ≤ k := by omega
      have n2 : (k : Int) < n := by omega
      go_wp2_with fail
      go_still_tail 8, (by kernel_rfl)
      change wpList _ _ _ _ _ wr.drew
      go_wp2_with fail
      refine (eqLayer_yes _ _ _).mono ?_
      rintro e w3 ⟨rfl, b3⟩
      have hb3 : Below w.heap.size w w3 := hb.drew.trans (b3.mono hb.size)
      clear b3 n1 n2
      go_wp2_with fail
      go_roundw
      case rel => exact ⟨k + 1, by omega, by go_num, hb3⟩
      case measure => simp [intOf]; omega
    · obtain rfl : n = k := by omega
      go_wp2_with fail
      go_ret
      exact ⟨rfl, hb⟩

set_option maxHeartbeats 1000000 in
theorem toLayerS_any (a : Option Addr) (n c lo : Nat) (l : List Lay) (w : World) (h : LRow w lo a n c l) (hn : n ≤ 1048576) :
    Calls Try.prog 17 #[.slice a n c] w (RetLays l w) := by
  have H := Lib.hid h
  clear h
  go_enter Try.func17, Try.ntmps17
  go_wp2_with (at_make; refine wpList_make_lays _ rfl _ _ rfl n _ rfl rfl rfl (by omega) ?_; intro w1 hr1 hf1 hb1)
  go_loopw [4] (fun i wr => ∃ (k : Nat) (L : List Lay), k ≤ n ∧ i = .int .i64 k ∧ Hid (∀ x, x < k → dep L x = dep l x ∧ sur L x = sur l x) ∧ LRow wr w.heap.size (some ⟨w.heap.size, 0, none⟩) n n L ∧ LFree wr (some ⟨w.heap.size, 0, none⟩) n ∧ Below w.heap.size w wr) (fun i _ => n - (intOf i).toNat)
  case atStart => exact ⟨0, _, Nat.zero_le _, rfl, fun x hx => by omega, hr1, hf1, hb1⟩
  case round =>
    clear hr1 hf1 hb1
    obtain ⟨k, L, hk, rfl, hL, hr, hf, hb⟩ := hrel
    by_cases hlt : k < n
    · obtain ⟨g, off, rfl, _, hg, hc, hd⟩ := (H.out.keep hb).at_ hlt
      obtain ⟨d, hdd⟩ : ∃ d, dep l k = d := ⟨_, rfl⟩
      obtain ⟨s, hss⟩ : ∃ s, sur l k = s := ⟨_, rfl⟩
      have HV : Hid (dep l k = d ∧ sur l k = s) := ⟨hdd, hss⟩
      rw [hdd] at hc
      rw [hss] at hd
      clear hdd hss
      go_wp2_with fail
      refine (toLayer_any _ _ _).mono ?_
      rintro e w3 ⟨rfl, b3⟩
      have hb3 : Below w.heap.size w w3 := hb.trans (b3.mono hb.size)
      have hr3 := hr.keep b3
      have hf3 := hf.keep hr b3
      have hx := hr3.cellAt hlt
      have hx1 : w3.cell? ⟨w.heap.size, k * 2, none⟩ = some (.int .i64 (dep L k)) := by have := hx.1; rwa [Nat.zero_add] at this
      have hx2 : w3.cell? ⟨w.heap.size, k * 2 + 1, none⟩ = some (.bool (sur L k)) := by have := hx.2; rwa [Nat.zero_add] at this
      have hz1 : w3.frozen? ⟨w.heap.size, k * 2, none⟩ = false := by have := hf3 _ _ rfl (k * 2) (by omega); rwa [Nat.zero_add] at this
      have hz2 : w3.frozen? ⟨w.heap.size, k * 2 + 1, none⟩ = false := by have := hf3 _ _ rfl (k * 2 + 1) (by omega); rwa [Nat.zero_add] at this
      have hr4 := hr3.set_ hlt d s
      rw [Nat.zero_add] at hr4
      have hf4 := (hf3.set_ ⟨w.heap.size, k * 2, none⟩ (.int .i64 d)).set_ ⟨w.heap.size, k * 2 + 1, none⟩ (.bool s)
      have hb4 := (hb3.setCell (p := ⟨w.heap.size, k * 2, none⟩) (Nat.le_refl _) (.int .i64 d)).setCell (p := ⟨w.heap.size, k * 2 + 1, none⟩) (Nat.le_refl _) (.bool s)
      have hL4 : Hid (∀ x, x < k + 1 → dep (L.set k (d, s)) x = dep l x ∧ sur (L.set k (d, s)) x = sur l x) := fun x hx => by
        rw [dep_set _ _ _ _ (by rw [hr.len]; exact hlt), sur_set _ _ _ _ (by rw [hr.len]; exact hlt)]
        by_cases e : x = k
        · subst e; rw [if_pos rfl, if_pos rfl]; exact ⟨HV.out.1.symm, HV.out.2.symm⟩
        · rw [if_neg e, if_neg e]; exact hL.out x (by omega)
      clear hx hr3 hf3 b3
      go_wp2_with fail
      go_roundw
      case rel => exact ⟨k + 1, _, by omega, by go_num, hL4, hr4, hf4, hb4⟩
      case measure => simp [intOf]; omega
    · obtain rfl : n = k := by omega
      have e : L = l := lay_ext (by rw [hr.len, H.out.len]) (fun x hx => (hL.out x (by rw [← hr.len]; exact hx)).1) (fun x hx => (hL.out x (by rw [← hr.len]; exact hx)).2)
      rw [e] at hr
      clear e
      go_wp2_with fail
      go_ret
      exact ⟨_, _, _, rfl, hr, hf, hb⟩

end Go.Proofs.Ytbidnmjofljcnaa
