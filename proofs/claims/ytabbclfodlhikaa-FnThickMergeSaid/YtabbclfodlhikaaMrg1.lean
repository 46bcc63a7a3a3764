/- The walks of the two versions of LayersMerge. -/
import Derived.Test.YtabbclfodlhikaaDrawLay
import Derived.Test.YtabbclfodlhikaaLay1
import Derived.Test.YtabbclfodlhikaaMrgPlain
import Derived.StillTailTactics
namespace Go.Proofs.Ytabbclfodlhikaa
open Go.RowKit

def onlyIf (r : Bool) (M : List Lay) : List Lay := match r with
  | true => M
  | false => []
theorem onlyIf_true (M : List Lay) : onlyIf true M = M := rfl
theorem onlyIf_false (M : List Lay) : onlyIf false M = [] := rfl
def slLen : Value → Nat
  | .slice _ n _ => n
  | _ => 0
theorem LRow.tail {w : World} {lo n c g off : Nat} {x : Lay} {l : List Lay} (h : LRow w lo (some ⟨g, off, none⟩) (n + 1) c (x :: l)) : LRow w lo (if c = 1 then some ⟨g, off, none⟩ else some ⟨g, off + 2, none⟩) n (c - 1) l := by
  refine ⟨by have := h.1; simpa using this, by have := h.2.1; omega, fun hn => ?_⟩
  have := h.2.1
  rw [if_neg (by omega)]
  obtain ⟨g', off', e, h1, h2, h3⟩ := h.2.2 (by omega)
  injection e with e
  injection e with e1 e2 _
  subst e1 e2
  refine ⟨g, off + 2, rfl, h1, h2, fun j hj => ?_⟩
  have := h3 (j + 1) (by omega)
  rw [show off + (j + 1) * 2 = off + 2 + j * 2 by omega] at this
  exact this
theorem LRow.head {w : World} {lo n c : Nat} {a : Option Addr} {l : List Lay} (h : LRow w lo a (n + 1) c l) : ∃ g off x m, a = some ⟨g, off, none⟩ ∧ l = x :: m ∧ lo ≤ g ∧ g < w.heap.size := by
  obtain ⟨g, off, e, h1, h2, _⟩ := h.2.2 (by omega)
  cases l with
  | nil => have := h.1; simp at this
  | cons x m => exact ⟨g, off, x, m, e, rfl, h1, h2⟩
theorem LRow.first {w : World} {lo n c g off : Nat} {x : Lay} {l : List Lay} (h : LRow w lo (some ⟨g, off, none⟩) (n + 1) c (x :: l)) : w.cell? ⟨g, off, none⟩ = some (.int .i64 x.1) ∧ w.cell? ⟨g, off + 1, none⟩ = some (.bool x.2) := h.cellAt (k := 0) (by omega)

theorem step_append_lay {ops : Array Oper} {o : Oper} {a : Act} {K : Act → World → Prop} {Q : Exit → Act → World → Prop} {E : Prop} (w : World) (hgd : o.guard = none) (s x : Operand)
    (ho : o.op = .call { callee := .builtin .append, args := #[s, x], argTypes := #[23, 23] })
    (base : Nat) (v : Value) (n : Nat) (L : List Lay) (hs : a.eval s = v) (d : Int) (q : Bool) (b0 : Nat) (hx : a.eval x = .slice (some ⟨b0, 0, none⟩) 1 1)
    (hown : w.ownsRow base 48 2 v n (flat L)) (hc0 : w.cell? ⟨b0, 0, none⟩ = some (.int .i64 d)) (hc1 : w.cell? ⟨b0, 1, none⟩ = some (.bool q)) (hn : n ≤ 1000000000) (hbase : base ≤ w.heap.size)
    (h : ∀ v' w', w'.ownsRow base 48 2 v' (n + 1) (flat (L ++ [(d, q)])) → w.grownBy w' v.ownBlock → K (a.put o.dst v') w') :
    if Region.wanted o (yielded ops a.tmps) = true then Oper.wp Try.prog o a w K Q else E := by
  obtain ⟨i0, hi, hz0, hz1, hz2⟩ := info_parts Try.infoLay
  refine step_append_lies w hgd s x 23 ho base 48 i0 _ 2 16 Try.underlying23 hi hz0 hz1 hz2 rfl (by decide) v n _ hs hown ⟨b0, 0, none⟩ 1 1 [.int .i64 d, .bool q] hx rfl ?_ ?_ (by decide) (by unfold maxLen; omega) (by omega) hbase _ rfl ?_
  · intro j u hj
    match j, hj with
    | 0, hj => simp at hj; subst hj; simpa [Addr.add] using hc0
    | 1, hj => simp at hj; subst hj; simpa [Addr.add] using hc1
  · intro u hu; simp at hu; rcases hu with rfl | rfl <;> rfl
  · intro g cap w' h1 h2 _ _
    exact h _ w' (by rw [flat_snoc]; exact h1) h2

theorem drop_at (l : List Lay) (i : Nat) (h : i < l.length) : l.drop i = (dep l i, sur l i) :: l.drop (i + 1) := by
  rw [List.drop_eq_getElem_cons h]
  congr 1
  have := lay_getElem h
  rw [List.getElem?_eq_getElem h] at this
  injection this
theorem retB_nil {w w' : World} (a : Option Addr) (c : Nat) (hb : Below w.heap.size w w') : RetLaysB [] false w (.returned (.tuple #[.slice a 0 c, .bool false])) w' :=
  ⟨a, 0, c, rfl, ⟨rfl, Nat.zero_le _, fun h => absurd h (by omega)⟩, fun _ _ _ j hj => absurd hj (by omega), hb⟩

/-- A wanted operation is taken first (the region's list is looked up as a list, so that the operation stands written out). -/
theorem takeW {P : Program} {ops : Array Oper} {Q : Exit → Act → World → Prop} {md : Region.Mode} {S : World → Prop} {oi : Oper} {v : Value} {fuel : Nat} {listed : Array Bool} {a : Act} {w : World} (i : Nat) (hi : ops.toList[i]? = some oi)
    (hs : Region.noSelect ops = true) (hf : Region.free md ops listed i = true) (hr : (Region.ready md ops listed).contains i = true)
    (hQ : ∀ c a w, Q (.panic c) (a.put oi.dst v) w → Q (.panic c) a w) (hw : Region.wanted oi (yielded ops a.tmps) = true) (hS : S w) (hy : ∀ w, S w → (execOp a.eval oi).run P w = .ok (.value v) w)
    (h : wpAnyH P md ops Q S fuel (listed.setIfInBounds i true) (a.put oi.dst v) w) : wpAnyH P md ops Q S (fuel + 1) listed a w :=
  wpAnyH_take (by rw [← hi]; simp) hs hf hr hQ (.inl ⟨hw, hy⟩) hS h
/-- An operation that is not wanted is taken first. -/
theorem takeN {P : Program} {ops : Array Oper} {Q : Exit → Act → World → Prop} {md : Region.Mode} {S : World → Prop} {oi : Oper} {fuel : Nat} {listed : Array Bool} {a : Act} {w : World} (i : Nat) (hi : ops.toList[i]? = some oi)
    (hs : Region.noSelect ops = true) (hf : Region.free md ops listed i = true) (hr : (Region.ready md ops listed).contains i = true)
    (hQ : ∀ c a w, Q (.panic c) (a.put oi.dst undef) w → Q (.panic c) a w) (hw : Region.wanted oi (yielded ops a.tmps) = false) (hS : S w)
    (h : wpAnyH P md ops Q S fuel (listed.setIfInBounds i true) (a.put oi.dst undef) w) : wpAnyH P md ops Q S (fuel + 1) listed a w :=
  wpAnyH_take (by rw [← hi]; simp) hs hf hr hQ (.inr ⟨hw, rfl⟩) hS h
/-- The one operation that may come up now. -/
theorem oneH {P : Program} {ops : Array Oper} {Q : Exit → Act → World → Prop} {md : Region.Mode} {S : World → Prop} {o : Oper} {fuel : Nat} {listed : Array Bool} {a : Act} {w : World} (i : Nat) (ho : ops.toList[i]? = some o) (hr : Region.ready md ops listed = [i])
    (h : ∀ K' : Act → World → Prop, Shut (∀ a w, S w → (S w → wpAnyH P md ops Q S fuel (listed.setIfInBounds i true) a w) → K' a w) → if Region.wanted o (yielded ops a.tmps) = true then Oper.wp P o a w K' Q else K' (a.put o.dst undef) w) :
    wpAnyH P md ops Q S (fuel + 1) listed a w :=
  wpAnyH_ready (rs := [i]) hr (by simp) (AllReadyH.cons (by rw [← ho]; simp) h AllReadyH.nil)

set_option maxRecDepth 100000 in
set_option maxHeartbeats 1600000 in
theorem implMerge_go (a : Option Addr) (n c lo : Nat) (l : List Lay) (b : Option Addr) (m d lo' : Nat) (l' : List Lay) (w : World) (h : LRow w lo a n c l) (h' : LRow w lo' b m d l') (ho : okL l = true) (ho' : okL l' = true) (r : Bool) (hr : okL (mrg l l') = r) :
    Calls Try.prog 31 #[.slice a n c, .slice b m d] w (RetLaysB (onlyIf r (mrg l l')) r w) := by
  have hn := okL_len ho
  rw [h.len] at hn
  have hm := okL_len ho'
  rw [h'.len] at hm
  have HO := Lib.hid ho
  have HO' := Lib.hid ho'
  have HR := Lib.hid hr
  clear ho ho' hr
  go_enter Try.func31, Try.ntmps31
  go_wp2_with fail
  refine (implValid_is HO.out h (by omega)).mono ?_
  rintro e w1 ⟨rfl, b1⟩
  go_wp2_with fail
  refine (implValid_is HO'.out (h'.keep b1) (by omega)).mono ?_
  rintro e w2 ⟨rfl, b2⟩
  have B2 := Lib.hid (below2 b1 b2)
  have H := (h.keep b1).keep b2
  have H' := (h'.keep b1).keep b2
  have hsz : w.heap.size ≤ w2.heap.size := B2.out.size
  clear h h' b1 b2
  have ho0 : w2.ownsRow w2.heap.size 48 2 (.slice none 0 0) 0 (flat []) := World.ownsRow_nil _ _ _ _
  go_wp2_with fail
  go_loopw [0, 1, 6] (fun va vb vo wr => ∃ (aa : Option Addr) (na ca : Nat) (A : List Lay) (bb : Option Addr) (nb cb : Nat) (B : List Lay) (k : Nat) (O : List Lay), va = .slice aa na ca ∧ vb = .slice bb nb cb ∧ k + na + nb ≤ 80 ∧ Hid (LRow w2 lo aa na ca A) ∧ Hid (LRow w2 lo' bb nb cb B) ∧ Hid (O ++ mrg A B = mrg l l') ∧ wr.ownsRow w2.heap.size 48 2 vo k (flat O) ∧ Below w2.heap.size w2 wr) (fun va vb _ _ => slLen va + slLen vb)
  case atStart => exact ⟨a, n, c, l, b, m, d, l', 0, [], rfl, rfl, by omega, H, H', rfl, ho0, Below.refl _ _⟩
  case round =>
    clear ho0 H H'
    obtain ⟨aa, na, ca, A, bb, nb, cb, B, k, O, rfl, rfl, hk, HA, HB, HE, hown, hb⟩ := hrel
    have hsz2 := hb.size
    rcases Nat.eq_zero_or_pos na with ha0 | ha0
    · subst ha0
      rcases Nat.eq_zero_or_pos nb with hb0 | hb0
      · subst hb0
        have E : Hid (O = mrg l l') := by
          have e0 : B = [] := List.length_eq_zero_iff.1 HB.out.len
          have e1 : A = [] := List.length_eq_zero_iff.1 HA.out.len
          have := HE.out
          rw [e0, e1, mrg_nil_left, List.append_nil] at this
          exact this
        obtain ⟨a', c', rfl, hrow, hfree⟩ := LRow.of_own hown
        rw [E.out] at hrow
        have B3 := below2 B2.out hb
        go_wp2_with fail
        refine (implValid_is HR.out hrow (by omega)).mono ?_
        rintro e w5 ⟨rfl, b5⟩
        cases r with
        | true =>
          go_wp2_with fail
          go_ret2
          exact ⟨a', k, c', rfl, (hrow.keep b5).lower hsz, hfree.keep hrow b5, below2 B3 b5⟩
        | false =>
          go_wp2_with fail
          go_ret2
          exact ⟨_, 0, _, rfl, ⟨rfl, Nat.zero_le _, fun h => absurd h (by omega)⟩, fun _ _ _ j hj => absurd hj (by omega), below2 B3 b5⟩
      · obtain ⟨nb, rfl⟩ : ∃ j, nb = j + 1 := ⟨nb - 1, by omega⟩
        obtain ⟨g, off, y, B, rfl, rfl, _, hg0⟩ := HB.out.head
        have dB1 : ((nb : Int) + 1 == 0) = false := beq_eq_false_iff_ne.2 (by omega)
        have dB2 : (((nb + 1 : Nat) : Int) == 0) = false := beq_eq_false_iff_ne.2 (by omega)
        have dB3 : (0 : Int) < (nb : Int) + 1 := by omega
        have dB4 : decide ((0 : Int) < (nb : Int) + 1) = true := decide_eq_true dB3
        obtain ⟨hcy, hdy⟩ := (HB.out.keep hb).first
        obtain ⟨y1, y2⟩ := y
        have HE' : Hid ((O ++ [(y1, y2)]) ++ mrg A B = mrg l l') := by
          have e0 : A = [] := List.length_eq_zero_iff.1 HA.out.len
          have := HE.out
          rw [e0, mrg_nil_left] at this
          show _ = _
          rw [← this, e0, mrg_nil_left]; simp
        have HT := Lib.hid HB.out.tail
        go_wp2_with fail
        go_quiet (fail)
        have hbq := below2 hb (below_new wr nq)
        change (wr.drewN nq).ownsRow _ _ _ _ _ _ at hown
        change (wr.drewN nq).cell? _ = _ at hcy hdy
        obtain ⟨wq, hwq⟩ : ∃ wy : World, wr.drewN nq = wy := ⟨_, rfl⟩
        rw [hwq] at hbq hown hcy hdy ⊢
        clear hwq
        go_wp2_with fail
        go_quiet (fail)
        have hbz := below2 hbq (below_new wq nq)
        change (wq.drewN nq).ownsRow _ _ _ _ _ _ at hown
        change (wq.drewN nq).cell? _ = _ at hcy hdy
        obtain ⟨wz, hwq⟩ : ∃ wy : World, wq.drewN nq = wy := ⟨_, rfl⟩
        rw [hwq] at hbz hown hcy hdy ⊢
        clear hwq
        go_wp2_with (at_builtin; refine wpList_append_lay _ rfl _ _ rfl w2.heap.size _ _ _ rfl y1 y2 wz.heap.size rfl (hown.alloc _) (by simp) (by simp) (by omega) (by have := hbz.size; simp; omega) ?_; intro v' w4 hown4 hgrow4)
        go_roundw
        case rel => exact ⟨_, 0, _, A, _, nb, _, B, k + 1, O ++ [(y1, y2)], rfl, rfl, by omega, HA, HT, HE', hown4, below_append hbz hbz.size hown hgrow4⟩
        case measure => simp [slLen]
    · obtain ⟨na, rfl⟩ : ∃ j, na = j + 1 := ⟨na - 1, by omega⟩
      obtain ⟨g, off, x, A, rfl, rfl, _, hg0⟩ := HA.out.head
      have dA1 : ((na : Int) + 1 == 0) = false := beq_eq_false_iff_ne.2 (by omega)
      have dA2 : (((na + 1 : Nat) : Int) == 0) = false := beq_eq_false_iff_ne.2 (by omega)
      have dA3 : (0 : Int) < (na : Int) + 1 := by omega
      have dA4 : decide ((0 : Int) < (na : Int) + 1) = true := decide_eq_true dA3
      obtain ⟨hcx, hdx⟩ := (HA.out.keep hb).first
      obtain ⟨x1, x2⟩ := x
      rcases Nat.eq_zero_or_pos nb with hb0 | hb0
      · subst hb0
        have HE' : Hid ((O ++ [(x1, x2)]) ++ mrg A B = mrg l l') := by
          have e0 : B = [] := List.length_eq_zero_iff.1 HB.out.len
          have := HE.out
          rw [e0, mrg_nil_right] at this
          show _ = _
          rw [← this, e0, mrg_nil_right]; simp
        have HT := Lib.hid HA.out.tail
        go_wp2_with fail
        go_quiet (fail)
        have hbq := below2 hb (below_new wr nq)
        change (wr.drewN nq).ownsRow _ _ _ _ _ _ at hown
        change (wr.drewN nq).cell? _ = _ at hcx hdx
        obtain ⟨wq, hwq⟩ : ∃ wy : World, wr.drewN nq = wy := ⟨_, rfl⟩
        rw [hwq] at hbq hown hcx hdx ⊢
        clear hwq
        go_wp2_with (at_builtin; refine wpList_append_lay _ rfl _ _ rfl w2.heap.size _ _ _ rfl x1 x2 wq.heap.size rfl (hown.alloc _) (by simp) (by simp) (by omega) (by have := hbq.size; simp; omega) ?_; intro v' w4 hown4 hgrow4)
        go_roundw
        case rel => exact ⟨_, na, _, A, _, 0, _, B, k + 1, O ++ [(x1, x2)], rfl, rfl, by omega, HT, HB, HE', hown4, below_append hbq hbq.size hown hgrow4⟩
        case measure => simp [slLen]
      · obtain ⟨nb, rfl⟩ : ∃ j, nb = j + 1 := ⟨nb - 1, by omega⟩
        obtain ⟨g', off', y, B, rfl, rfl, _, hg0'⟩ := HB.out.head
        have dB1 : ((nb : Int) + 1 == 0) = false := beq_eq_false_iff_ne.2 (by omega)
        have dB2 : (((nb + 1 : Nat) : Int) == 0) = false := beq_eq_false_iff_ne.2 (by omega)
        have dB3 : (0 : Int) < (nb : Int) + 1 := by omega
        have dB4 : decide ((0 : Int) < (nb : Int) + 1) = true := decide_eq_true dB3
        obtain ⟨hcy, hdy⟩ := (HB.out.keep hb).first
        obtain ⟨y1, y2⟩ := y
        have HTA := Lib.hid HA.out.tail
        have HTB := Lib.hid HB.out.tail
        by_cases c1 : x1 < y1
        · have HE' : Hid ((O ++ [(x1, x2)]) ++ mrg A ((y1, y2) :: B) = mrg l l') := by
            have := HE.out
            rw [mrg_lt (x := (x1, x2)) (y := (y1, y2)) c1] at this
            show _ = _
            rw [← this]; simp
          go_wp2_with fail
          go_quiet (fail)
          have hbq := below2 hb (below_new wr nq)
          change (wr.drewN nq).ownsRow _ _ _ _ _ _ at hown
          change (wr.drewN nq).cell? _ = _ at hcx hdx hcy hdy
          obtain ⟨wq, hwq⟩ : ∃ wy : World, wr.drewN nq = wy := ⟨_, rfl⟩
          rw [hwq] at hbq hown hcx hdx hcy hdy ⊢
          clear hwq
          go_wp2_with (at_builtin; refine wpList_append_lay _ rfl _ _ rfl w2.heap.size _ _ _ rfl x1 x2 wq.heap.size rfl (hown.alloc _) (by simp) (by simp) (by omega) (by have := hbq.size; simp; omega) ?_; intro v' w4 hown4 hgrow4)
          go_roundw
          case rel => exact ⟨_, na, _, A, _, nb + 1, _, _, k + 1, O ++ [(x1, x2)], rfl, rfl, by omega, HTA, HB, HE', hown4, below_append hbq hbq.size hown hgrow4⟩
          case measure => simp [slLen]
        · by_cases c2 : y1 < x1
          · have HE' : Hid ((O ++ [(y1, y2)]) ++ mrg ((x1, x2) :: A) B = mrg l l') := by
              have := HE.out
              rw [mrg_gt (x := (x1, x2)) (y := (y1, y2)) c2] at this
              show _ = _
              rw [← this]; simp
            go_wp2_with fail
            go_quiet (fail)
            have hbq := below2 hb (below_new wr nq)
            change (wr.drewN nq).ownsRow _ _ _ _ _ _ at hown
            change (wr.drewN nq).cell? _ = _ at hcx hdx hcy hdy
            obtain ⟨wq, hwq⟩ : ∃ wy : World, wr.drewN nq = wy := ⟨_, rfl⟩
            rw [hwq] at hbq hown hcx hdx hcy hdy ⊢
            clear hwq
            go_wp2_with fail
            go_quiet (fail)
            have hbz := below2 hbq (below_new wq nq)
            change (wq.drewN nq).ownsRow _ _ _ _ _ _ at hown
            change (wq.drewN nq).cell? _ = _ at hcx hdx hcy hdy
            obtain ⟨wz, hwq⟩ : ∃ wy : World, wq.drewN nq = wy := ⟨_, rfl⟩
            rw [hwq] at hbz hown hcx hdx hcy hdy ⊢
            clear hwq
            go_wp2_with (at_builtin; refine wpList_append_lay _ rfl _ _ rfl w2.heap.size _ _ _ rfl y1 y2 wz.heap.size rfl (hown.alloc _) (by simp) (by simp) (by omega) (by have := hbz.size; simp; omega) ?_; intro v' w4 hown4 hgrow4)
            go_roundw
            case rel => exact ⟨_, na + 1, _, _, _, nb, _, B, k + 1, O ++ [(y1, y2)], rfl, rfl, by omega, HA, HTB, HE', hown4, below_append hbz hbz.size hown hgrow4⟩
            case measure => simp [slLen]
          · have HE0 := mrg_eq (x := (x1, x2)) (y := (y1, y2)) (a := A) (b := B) c1 c2
            go_wp2_with fail
            go_quiet (fail)
            have hbq := below2 hb (below_new wr nq)
            change (wr.drewN nq).ownsRow _ _ _ _ _ _ at hown
            change (wr.drewN nq).cell? _ = _ at hcx hdx hcy hdy
            obtain ⟨wq, hwq⟩ : ∃ wy : World, wr.drewN nq = wy := ⟨_, rfl⟩
            rw [hwq] at hbq hown hcx hdx hcy hdy ⊢
            clear hwq
            go_wp2_with fail
            go_quiet (fail)
            have hbz := below2 hbq (below_new wq nq)
            change (wq.drewN nq).ownsRow _ _ _ _ _ _ at hown
            change (wq.drewN nq).cell? _ = _ at hcx hdx hcy hdy
            obtain ⟨wz, hwq⟩ : ∃ wy : World, wq.drewN nq = wy := ⟨_, rfl⟩
            rw [hwq] at hbz hown hcx hdx hcy hdy ⊢
            clear hwq
            have hszz := hbz.size
            cases x2 with
            | true =>
              have HE' : Hid ((O ++ [(x1, true)]) ++ mrg A B = mrg l l') := by
                have := HE.out
                rw [HE0] at this
                show _ = _
                rw [← this]; simp
              clear HE0
              go_wp2_with fail
              refine wp_region_held_drew (S := fun w' => w'.cell? ⟨g, off, none⟩ = some (.int .i64 x1) ∧ w'.cell? ⟨g, off + 1, none⟩ = some (.bool true)) (by kernel_rfl) (by (try dsimp only); go_keep) (fun hHeld => ?_)
              refine takeW (v := ?v0) 0 rfl (by kernel_rfl) (by kernel_rfl) (by kernel_rfl) (fun _ _ _ h => h) (by rfl) (by assumption) ?hy0 ?rest0
              case hy0 => (intro w hSw; (try dsimp only at hSw); go_simp; (try with_reducible rfl))
              try simp only [Act.put, List.setIfInBounds_toArray, List.set_cons_zero, List.set_cons_succ]
              refine takeW (v := ?v1) 1 rfl (by kernel_rfl) (by kernel_rfl) (by kernel_rfl) (fun _ _ _ h => h) (by rfl) (by assumption) ?hy1 ?rest1
              case hy1 => (intro w hSw; (try dsimp only at hSw); go_simp; (try with_reducible rfl))
              try simp only [Act.put, List.setIfInBounds_toArray, List.set_cons_zero, List.set_cons_succ]
              refine takeW (v := ?v2) 2 rfl (by kernel_rfl) (by kernel_rfl) (by kernel_rfl) (fun _ _ _ h => h) (by rfl) (by assumption) ?hy2 ?rest2
              case hy2 => (intro w hSw; (try dsimp only at hSw); go_simp; (try with_reducible rfl))
              try simp only [Act.put, List.setIfInBounds_toArray, List.set_cons_zero, List.set_cons_succ]
              refine takeW (v := ?v3) 3 rfl (by kernel_rfl) (by kernel_rfl) (by kernel_rfl) (fun _ _ _ h => h) (by rfl) (by assumption) ?hy3 ?rest3
              case hy3 => (intro w hSw; (try dsimp only at hSw); go_simp; (try with_reducible rfl))
              try simp only [Act.put, List.setIfInBounds_toArray, List.set_cons_zero, List.set_cons_succ]
              refine takeW (v := ?v4) 4 rfl (by kernel_rfl) (by kernel_rfl) (by kernel_rfl) (fun _ _ _ h => h) (by rfl) (by assumption) ?hy4 ?rest4
              case hy4 => (intro w hSw; (try dsimp only at hSw); go_simp; (try with_reducible rfl))
              try simp only [Act.put, List.setIfInBounds_toArray, List.set_cons_zero, List.set_cons_succ]
              refine takeW (v := ?v5) 5 rfl (by kernel_rfl) (by kernel_rfl) (by kernel_rfl) (fun _ _ _ h => h) (by rfl) (by assumption) ?hy5 ?rest5
              case hy5 => (intro w hSw; (try dsimp only at hSw); go_simp; (try with_reducible rfl))
              try simp only [Act.put, List.setIfInBounds_toArray, List.set_cons_zero, List.set_cons_succ]
              refine takeW (v := ?v6) 6 rfl (by kernel_rfl) (by kernel_rfl) (by kernel_rfl) (fun _ _ _ h => h) (by rfl) (by assumption) ?hy6 ?rest6
              case hy6 => (intro w hSw; (try dsimp only at hSw); go_simp; (try with_reducible rfl))
              try simp only [Act.put, List.setIfInBounds_toArray, List.set_cons_zero, List.set_cons_succ]
              refine takeW (v := ?v7) 7 rfl (by kernel_rfl) (by kernel_rfl) (by kernel_rfl) (fun _ _ _ h => h) (by rfl) (by assumption) ?hy7 ?rest7
              case hy7 => (intro w hSw; (try dsimp only at hSw); go_simp; (try with_reducible rfl))
              try simp only [Act.put, List.setIfInBounds_toArray, List.set_cons_zero, List.set_cons_succ]
              refine takeW (v := ?v8) 8 rfl (by kernel_rfl) (by kernel_rfl) (by kernel_rfl) (fun _ _ _ h => h) (by rfl) (by assumption) ?hy8 ?rest8
              case hy8 => (intro w hSw; (try dsimp only at hSw); go_simp; (try with_reducible rfl))
              try simp only [Act.put, List.setIfInBounds_toArray, List.set_cons_zero, List.set_cons_succ]
              refine takeW (v := ?v9) 9 rfl (by kernel_rfl) (by kernel_rfl) (by kernel_rfl) (fun _ _ _ h => h) (by rfl) (by assumption) ?hy9 ?rest9
              case hy9 => (intro w hSw; (try dsimp only at hSw); go_simp; (try with_reducible rfl))
              try simp only [Act.put, List.setIfInBounds_toArray, List.set_cons_zero, List.set_cons_succ]
              refine takeN 10 rfl (by kernel_rfl) (by kernel_rfl) (by kernel_rfl) (fun _ _ _ h => h) (by rfl) (by assumption) ?_
              try simp only [Act.put, List.setIfInBounds_toArray, List.set_cons_zero, List.set_cons_succ]
              refine takeN 11 rfl (by kernel_rfl) (by kernel_rfl) (by kernel_rfl) (fun _ _ _ h => h) (by rfl) (by assumption) ?_
              try simp only [Act.put, List.setIfInBounds_toArray, List.set_cons_zero, List.set_cons_succ]
              refine takeN 12 rfl (by kernel_rfl) (by kernel_rfl) (by kernel_rfl) (fun _ _ _ h => h) (by rfl) (by assumption) ?_
              try simp only [Act.put, List.setIfInBounds_toArray, List.set_cons_zero, List.set_cons_succ]
              refine takeN 13 rfl (by kernel_rfl) (by kernel_rfl) (by kernel_rfl) (fun _ _ _ h => h) (by rfl) (by assumption) ?_
              try simp only [Act.put, List.setIfInBounds_toArray, List.set_cons_zero, List.set_cons_succ]
              refine takeW (v := ?v14) 14 rfl (by kernel_rfl) (by kernel_rfl) (by kernel_rfl) (fun _ _ _ h => h) (by rfl) (by assumption) ?hy14 ?rest14
              case hy14 => (intro w hSw; (try dsimp only at hSw); go_simp; (try with_reducible rfl))
              try simp only [Act.put, List.setIfInBounds_toArray, List.set_cons_zero, List.set_cons_succ]
              refine takeW (v := ?v15) 15 rfl (by kernel_rfl) (by kernel_rfl) (by kernel_rfl) (fun _ _ _ h => h) (by rfl) (by assumption) ?hy15 ?rest15
              case hy15 => (intro w hSw; (try dsimp only at hSw); go_simp; (try with_reducible rfl))
              try simp only [Act.put, List.setIfInBounds_toArray, List.set_cons_zero, List.set_cons_succ]
              refine oneH 16 rfl (by kernel_rfl) (fun K hK => ?_)
              go_simp
              refine hK.out _ _ (by (try dsimp only); go_keep) (fun hHeld => ?_)
              clear hK K
              try simp only [Act.put, List.setIfInBounds_toArray, List.set_cons_zero, List.set_cons_succ]
              refine oneH 17 rfl (by kernel_rfl) (fun K hK => ?_)
              refine step_append_lay _ (by rfl) _ _ (by rfl) w2.heap.size _ _ _ (by rfl) x1 true wz.heap.size (by rfl) ((hown.alloc _).drew) (by go_simp) (by go_simp) (by omega) (by have := hbz.size; simp; omega) ?_
              intro v' w4 hown4 hgrow4
              refine hK.out _ _ ?_ (fun hHeld => ?_)
              · (try dsimp only)
                refine ⟨?_, ?_⟩
                · (rw [hgrow4.cell_far _ (by simp; omega) (by first | exact own_ne hown hg0 | exact own_ne hown hg0')]; go_keep)
                · (rw [hgrow4.cell_far _ (by simp; omega) (by first | exact own_ne hown hg0 | exact own_ne hown hg0')]; go_keep)
              clear hK K
              try simp only [Act.put, List.setIfInBounds_toArray, List.set_cons_zero, List.set_cons_succ]
              refine takeW (v := ?v18) 18 rfl (by kernel_rfl) (by kernel_rfl) (by kernel_rfl) (fun _ _ _ h => h) (by rfl) (by assumption) ?hy18 ?rest18
              case hy18 => (intro w hSw; (try dsimp only at hSw); go_simp; (try with_reducible rfl))
              try simp only [Act.put, List.setIfInBounds_toArray, List.set_cons_zero, List.set_cons_succ]
              refine wpAnyH_done (by kernel_rfl) ?_ _
              all_goals
                go_wp2_with fail
                go_quiet (fail)
                go_wp2_with fail
                go_roundw
                case rel => exact ⟨_, na, _, A, _, nb, _, B, k + 1, O ++ [(x1, true)], rfl, rfl, by omega, HTA, HTB, HE', hown4, below2 (below_append hbz hbz.size hown (grown_drew hgrow4)) (below_new _ _)⟩
                case measure => simp [slLen]; omega
            | false =>
              have HE' : Hid ((O ++ [(x1, y2)]) ++ mrg A B = mrg l l') := by
                have := HE.out
                rw [HE0] at this
                show _ = _
                rw [← this]; simp
              clear HE0
              go_wp2_with fail
              go_region_held3 (fun w' => w'.cell? ⟨g, off, none⟩ = some (.int .i64 x1) ∧ w'.cell? ⟨g, off + 1, none⟩ = some (.bool false) ∧ w'.cell? ⟨g', off' + 1, none⟩ = some (.bool y2))
                (first
                  | go_keep
                  | (refine ⟨?_, ?_, ?_⟩
                     · (rw [hgrow4.cell_far _ (by simp; omega) (by first | exact own_ne hown hg0 | exact own_ne hown hg0')]; go_keep)
                     · (rw [hgrow4.cell_far _ (by simp; omega) (by first | exact own_ne hown hg0 | exact own_ne hown hg0')]; go_keep)
                     · (rw [hgrow4.cell_far _ (by simp; omega) (by first | exact own_ne hown hg0 | exact own_ne hown hg0')]; go_keep)))
                ((refine step_append_lay _ (by rfl) _ _ (by rfl) w2.heap.size _ _ _ (by rfl) x1 y2 wz.heap.size (by rfl) ((hown.alloc _).drew) (by go_simp) (by go_simp) (by omega) (by have := hbz.size; simp; omega) ?_; intro v' w4 hown4 hgrow4))
              all_goals
                go_wp2_with fail
                go_quiet (fail)
                go_wp2_with fail
                go_roundw
                case rel => exact ⟨_, na, _, A, _, nb, _, B, k + 1, O ++ [(x1, y2)], rfl, rfl, by omega, HTA, HTB, HE', hown4, below2 (below_append hbz hbz.size hown (grown_drew hgrow4)) (below_new _ _)⟩
                case measure => simp [slLen]; omega
theorem implMerge_bad (a : Option Addr) (n c lo : Nat) (l : List Lay) (b : Option Addr) (m d lo' : Nat) (l' : List Lay) (w : World) (h : LRow w lo a n c l) (h' : LRow w lo' b m d l') (hn : n ≤ 1048576) (hm : m ≤ 1048576) (ho : okL l = false ∨ okL l' = false) :
    Calls Try.prog 31 #[.slice a n c, .slice b m d] w (RetLaysB [] false w) := by
  cases h1 : okL l with
  | false =>
    have HO := Lib.hid h1
    clear ho h1
    go_enter Try.func31, Try.ntmps31
    go_wp2_with fail
    refine (implValid_is HO.out h hn).mono ?_
    rintro e w1 ⟨rfl, b1⟩
    go_wp2_with fail
    go_ret2
    exact retB_nil _ _ b1
  | true =>
    have HO := Lib.hid h1
    have HO' : Hid (okL l' = false) := by rcases ho with h | h; exact absurd (h1.symm.trans h) (by simp); exact h
    clear ho h1
    go_enter Try.func31, Try.ntmps31
    go_wp2_with fail
    refine (implValid_is HO.out h hn).mono ?_
    rintro e w1 ⟨rfl, b1⟩
    go_wp2_with fail
    refine (implValid_is HO'.out (h'.keep b1) hm).mono ?_
    rintro e w2 ⟨rfl, b2⟩
    go_wp2_with fail
    go_ret2
    exact retB_nil _ _ (below2 b1 b2)


/-- What a merge returns. -/
def mrgOk (l l' : List Lay) : Bool := okL l && okL l' && okL (mrg l l')
def mrgV (l l' : List Lay) : List Lay := onlyIf (mrgOk l l') (mrg l l')
theorem mrgOk_iff {l l' : List Lay} : mrgOk l l' = true ↔ okL l = true ∧ okL l' = true ∧ okL (mrg l l') = true := by
  unfold mrgOk; rw [Bool.and_eq_true, Bool.and_eq_true, and_assoc]
theorem mrgV_ok {l l' : List Lay} (h : mrgOk l l' = true) : mrgV l l' = mrg l l' := by unfold mrgV; rw [h]; rfl
theorem mrgV_no {l l' : List Lay} (h : mrgOk l l' = false) : mrgV l l' = [] := by unfold mrgV; rw [h]; rfl
theorem mrgV_len {l l' : List Lay} : (mrgV l l').length ≤ 40 := by
  cases h : mrgOk l l' with
  | true => rw [mrgV_ok h]; exact okL_len (mrgOk_iff.1 h).2.2
  | false => rw [mrgV_no h]; simp

theorem implMerge_any (a : Option Addr) (n c lo : Nat) (l : List Lay) (b : Option Addr) (m d lo' : Nat) (l' : List Lay) (w : World) (h : LRow w lo a n c l) (h' : LRow w lo' b m d l') (hn : n ≤ 1048576) (hm : m ≤ 1048576) :
    Calls Try.prog 31 #[.slice a n c, .slice b m d] w (RetLaysB (mrgV l l') (mrgOk l l') w) := by
  cases h1 : okL l with
  | false =>
    have e : mrgOk l l' = false := by unfold mrgOk; rw [h1]; rfl
    rw [mrgV_no e, e]
    exact implMerge_bad _ _ _ _ _ _ _ _ _ _ _ h h' hn hm (.inl h1)
  | true =>
    cases h2 : okL l' with
    | false =>
      have e : mrgOk l l' = false := by unfold mrgOk; rw [h1, h2]; rfl
      rw [mrgV_no e, e]
      exact implMerge_bad _ _ _ _ _ _ _ _ _ _ _ h h' hn hm (.inr h2)
    | true =>
      have e : mrgOk l l' = okL (mrg l l') := by unfold mrgOk; rw [h1, h2]; rfl
      unfold mrgV
      rw [e]
      exact implMerge_go _ _ _ _ _ _ _ _ _ _ _ h h' h1 h2 _ rfl


end Go.Proofs.Ytabbclfodlhikaa
