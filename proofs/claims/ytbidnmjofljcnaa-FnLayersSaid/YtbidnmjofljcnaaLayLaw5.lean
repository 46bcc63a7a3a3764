/- The walk of FnLayers. -/
import Derived.Test.YtbidnmjofljcnaaDrawLay3
import Derived.Test.YtbidnmjofljcnaaLayLaw3
import Derived.Deep.AppendSrc
namespace Go.Proofs.Ytbidnmjofljcnaa
open Go.RowKit

theorem flat_append (l m : List Lay) : flat (l ++ m) = flat l ++ flat m := by simp [flat]
/-- 'append(out, row...)' of layers onto a row of the call's own. -/
theorem wpList_append_lrow {ops : Array Oper} {rest : List Oper} {o : Oper} {a : Act} {Q : Exit → Act → World → Prop} (w : World) (hgd : o.guard = none) (s x : Operand)
    (ho : o.op = .call { callee := .builtin .append, args := #[s, x], argTypes := #[25, 25] })
    (base : Nat) (v : Value) (k : Nat) (xs : List Lay) (hs : a.eval s = v) (lo : Nat) (ad : Addr) (n c : Nat) (l : List Lay) (hx : a.eval x = .slice (some ad) n c) (hr : LRow w lo (some ad) n c l)
    (hown : w.ownsRow base 32 2 v k (flat xs)) (hn : k + n ≤ 1000000000) (hbase : base ≤ w.heap.size)
    (h : ∀ v' w', w'.ownsRow base 32 2 v' (k + n) (flat (xs ++ l)) → w.grownBy w' v.ownBlock → wpList Try.prog ops Q rest (a.put o.dst v') w') :
    wpList Try.prog ops Q (o :: rest) a w := by
  obtain ⟨i0, hi, hz0, hz1, hz2⟩ := info_parts Try.infoLay
  refine wpList_append_own w hgd s x 25 ho base 32 i0 _ 2 16 Try.underlying25 hi hz0 hz1 hz2 rfl (by decide) v k _ hs hown ad n c (flat l) hx (by rw [length_flat, hr.len]) ?_ (flat_one l) (by unfold maxLen; omega) (by omega) hbase ?_
  · intro j u hj
    have hjl : j < l.length * 2 := by
      rcases Nat.lt_or_ge j (flat l).length with h | h
      · rwa [length_flat] at h
      · rw [List.getElem?_eq_none h] at hj; cases hj
    obtain ⟨q, r, rfl, hr2⟩ : ∃ q r, j = q * 2 + r ∧ r < 2 := ⟨j / 2, j % 2, by omega, by omega⟩
    have hq : q < l.length := by omega
    obtain ⟨g, off, e, _, _, hc, hd⟩ := hr.at_ (k := q) (by rw [← hr.len]; exact hq)
    injection e with e
    subst e
    have f := flat_at l q hq
    match r, hr2 with
    | 0, _ => rw [Nat.add_zero, f.1] at hj; rw [Go.WideShapes.add_plain, Nat.add_zero, hc]; exact hj
    | 1, _ => rw [f.2] at hj; rw [Go.WideShapes.add_plain, ← Nat.add_assoc, hd]; exact hj
  · intro v' w' h1 h2 _
    exact h v' w' (by rw [flat_append]; exact h1) h2
/-- 'append(out, nil...)'. -/
theorem wpList_append_lnone {ops : Array Oper} {rest : List Oper} {o : Oper} {a : Act} {Q : Exit → Act → World → Prop} (w : World) (hgd : o.guard = none) (s x : Operand)
    (ho : o.op = .call { callee := .builtin .append, args := #[s, x], argTypes := #[25, 25] })
    (b off k cap c : Nat) (hs : a.eval s = .slice (some ⟨b, off, none⟩) k cap) (hk : k ≤ cap) (hx : a.eval x = .slice none 0 c)
    (h : wpList Try.prog ops Q rest (a.put o.dst (.slice (some ⟨b, off, none⟩) k cap)) w) :
    wpList Try.prog ops Q (o :: rest) a w := by
  obtain ⟨i0, hi, hz0, hz1, hz2⟩ := info_parts Try.infoLay
  have hr := run_append_room_src (P := Try.prog) w 25 25 o.type 32 i0 Try.underlying25 hi b off k cap (.slice none 0 c) 0 [] (Src.ofNil w Try.underlying25 c) hk (fun j hj => absurd hj (by simp)) (fun j hj => absurd hj (by simp))
  refine wpList_plain hgd fun _ hK => ?_
  unfold Oper.wp execOp
  simp only [ho, resolve, invoke, builtin, Sem.run_bind, Sem.run_pure, Result.andThen_ok, List.map_toArray, List.map_cons, List.map_nil, hs, hx, hr]
  exact hK _ _ h

theorem twice_bad {l : List Lay} {j : Nat} (h : l.length = j + 1) : okL (l ++ [(dep l j, sur l j)]) = false := by
  refine okL_no_at (j + 1) (by simp [h]) fun hh => ?_
  have h1 := hh.2.2 (by omega)
  have e1 : dep (l ++ [(dep l j, sur l j)]) (j + 1) = dep l j := by rw [← h]; exact dep_snoc _ _
  have e2 : dep (l ++ [(dep l j, sur l j)]) (j + 1 - 1) = dep l j := dep_append_left _ _ _ (by omega)
  rw [e1, e2] at h1
  omega

set_option maxRecDepth 100000 in
set_option maxHeartbeats 2000000 in
theorem layers_walk (a : Option Addr) (len c : Nat) (a0 : Option Addr) (len0 c0 : Nat) (w : World) (h : BRow w w.heap.size a len) (hc : len ≤ c) (hn : len ≤ 9223372036854775807) (hn0 : len0 ≤ 9223372036854775807) :
    Calls Try.prog 4 #[.slice a len c, .slice a0 len0 c0] w fun e w' => e = .returned (.bool true) ∧ Below w.heap.size w w' := by
  by_cases hlen : 1048576 < len
  · go_enter Try.func4, Try.ntmps4
    go_wp2_with fail
    go_ret
    exact ⟨rfl, Below.refl _ _⟩
  by_cases hlen0 : 1048576 < len0
  · go_enter Try.func4, Try.ntmps4
    go_wp2_with fail
    go_ret
    exact ⟨rfl, Below.refl _ _⟩
  go_enter Try.func4, Try.ntmps4
  go_wp2_with fail
  refine (drawValid_any _ _ _ _ h hc hn).mono ?_
  rintro e w1 ⟨a1, n, c1, l, hn1, rfl, r1, _, B⟩
  have hln := r1.len
  clear h hc hn
  cases ho : okL l with
  | false =>
    have HO := Lib.hid ho
    clear ho
    go_wp2_with fail
    refine (implValid_is HO.out r1 (by omega)).mono ?_
    rintro e w2 ⟨rfl, b2⟩
    replace r1 := r1.keep b2
    replace B := below2 B b2
    go_wp2_with fail
    refine (specValid_is HO.out r1 (by omega)).mono ?_
    rintro e w3 ⟨rfl, b3⟩
    go_wp2_with fail
    go_ret
    exact ⟨rfl, below2 B b3⟩
  | true =>
    have HO := Lib.hid ho
    have HS := fun s => okL_setS s ho
    have HS := Lib.hid HS
    have HT := fun k => okL_sub ho (List.take_sublist k l)
    have HT := Lib.hid HT
    clear ho
    go_wp2_with fail
    refine (implValid_is HO.out r1 (by omega)).mono ?_
    rintro e w2 ⟨rfl, b2⟩
    replace r1 := r1.keep b2
    replace B := below2 B b2
    go_wp2_with fail
    refine (specValid_is HO.out r1 (by omega)).mono ?_
    rintro e w3 ⟨rfl, b3⟩
    replace r1 := r1.keep b3
    replace B := below2 B b3
    clear b2 b3
    have hm : (len0 : Int) % ((n : Int) + 1) = ((len0 % (n + 1) : Nat) : Int) := by simp
    have hmn : len0 % (n + 1) < n + 1 := Nat.mod_lt _ (by omega)
    obtain ⟨m, hm'⟩ : ∃ m, len0 % (n + 1) = m := ⟨_, rfl⟩
    rw [hm'] at hm hmn
    clear hm'
    have hmc : m ≤ c1 := by have := r1.2.1; omega
    have i1 : (0 : Int) ≤ (m : Int) := by omega
    have i2 : (m : Int) ≤ (c1 : Int) := by omega
    have bA : Below w3.heap.size w3 (w3.alloc (.cells #[] 32)) := (Below.refl _ _).alloc (Nat.le_refl _) _
    have ho0 : (w3.alloc (.cells #[] 32)).ownsRow w3.heap.size 32 2 (.slice (some ⟨w3.heap.size, 0, none⟩) 0 0) 0 (flat []) := World.ownsRow_lit w3 _ 0 (Nat.le_refl _) (by unfold maxLen; omega) rfl
    have hmn' : m ≤ n := by omega
    rcases Nat.eq_zero_or_pos n with hz | hz
    · subst hz
      obtain rfl : m = 0 := by omega
      obtain rfl : l = [] := List.length_eq_zero_iff.1 hln
      cases a1 with
      | none =>
        go_wp2_with (at_builtin; refine wpList_append_lnone _ rfl _ _ rfl w3.heap.size 0 0 0 c1 rfl (Nat.le_refl _) rfl ?_)
        have OT := Lib.hid okL_nil
        have rT := lrow_nil (w3.alloc (.cells #[] 32)) 0 (some ⟨w3.heap.size, 0, none⟩) 0
        replace r1 := r1.keep bA
        replace B := below2 B bA
        clear bA ho0
        refine (implValid_is (HT.out 0) (r1.take (Nat.le_refl _)) (by omega)).mono ?_
        rintro e w5 ⟨rfl, b5⟩
        replace r1 := r1.keep b5
        replace rT := rT.keep b5
        replace B := below2 B b5
        clear b5
        go_wp2_with fail
        refine (allSure_any _ _ _ _ _ true _ r1 (by omega)).mono ?_
        rintro e w6 ⟨a6, n6, c6, rfl, s6, _, b6⟩
        replace r1 := r1.keep b6
        replace rT := rT.keep b6
        replace B := below2 B b6
        clear b6
        go_wp2_with fail
        refine (implValid_is (HS.out true) s6 (by have := s6.len; rw [length_setS] at this; omega)).mono ?_
        rintro e w7 ⟨rfl, b7⟩
        clear s6
        replace r1 := r1.keep b7
        replace rT := rT.keep b7
        replace B := below2 B b7
        clear b7
        go_wp2_with fail
        refine (allSure_any _ _ _ _ _ false _ r1 (by omega)).mono ?_
        rintro e w8 ⟨a8, n8, c8, rfl, s8, _, b8⟩
        replace r1 := r1.keep b8
        replace rT := rT.keep b8
        replace B := below2 B b8
        clear b8
        go_wp2_with fail
        refine (implValid_is (HS.out false) s8 (by have := s8.len; rw [length_setS] at this; omega)).mono ?_
        rintro e w9 ⟨rfl, b9⟩
        clear s8
        replace r1 := r1.keep b9
        replace rT := rT.keep b9
        replace B := below2 B b9
        clear b9
        go_wp2_with fail
        refine (implValid_is OT.out rT (by omega)).mono ?_
        rintro e w10 ⟨rfl, b10⟩
        replace B := below2 B b10
        go_wp2_with fail
        go_ret
        exact ⟨rfl, B⟩
      | some ad =>
        go_wp2_with (at_builtin; refine wpList_append_lrow _ rfl _ _ rfl w3.heap.size _ 0 [] rfl 0 ad 0 c1 [] rfl (lrow_nil _ _ _ _) ho0 (by omega) (by simp) ?_; intro v' w4 hown4 hgrow4)
        have b4 : Below w3.heap.size w3 w4 := bA.grown hgrow4 (by simp) (fun k hk => (ho0.lt k hk).1)
        obtain ⟨aT, cT, rfl, rT, _⟩ := LRow.of_own hown4
        have OT : Hid (okL ([] ++ []) = true) := okL_nil
        replace r1 := r1.keep b4
        replace B := below2 B b4
        clear bA ho0 hown4 hgrow4 b4
        refine (implValid_is (HT.out 0) (r1.take (Nat.le_refl _)) (by omega)).mono ?_
        rintro e w5 ⟨rfl, b5⟩
        replace r1 := r1.keep b5
        replace rT := rT.keep b5
        replace B := below2 B b5
        clear b5
        go_wp2_with fail
        refine (allSure_any _ _ _ _ _ true _ r1 (by omega)).mono ?_
        rintro e w6 ⟨a6, n6, c6, rfl, s6, _, b6⟩
        replace r1 := r1.keep b6
        replace rT := rT.keep b6
        replace B := below2 B b6
        clear b6
        go_wp2_with fail
        refine (implValid_is (HS.out true) s6 (by have := s6.len; rw [length_setS] at this; omega)).mono ?_
        rintro e w7 ⟨rfl, b7⟩
        clear s6
        replace r1 := r1.keep b7
        replace rT := rT.keep b7
        replace B := below2 B b7
        clear b7
        go_wp2_with fail
        refine (allSure_any _ _ _ _ _ false _ r1 (by omega)).mono ?_
        rintro e w8 ⟨a8, n8, c8, rfl, s8, _, b8⟩
        replace r1 := r1.keep b8
        replace rT := rT.keep b8
        replace B := below2 B b8
        clear b8
        go_wp2_with fail
        refine (implValid_is (HS.out false) s8 (by have := s8.len; rw [length_setS] at this; omega)).mono ?_
        rintro e w9 ⟨rfl, b9⟩
        clear s8
        replace r1 := r1.keep b9
        replace rT := rT.keep b9
        replace B := below2 B b9
        clear b9
        go_wp2_with fail
        refine (implValid_is OT.out rT (by omega)).mono ?_
        rintro e w10 ⟨rfl, b10⟩
        replace B := below2 B b10
        go_wp2_with fail
        go_ret
        exact ⟨rfl, B⟩
    · obtain ⟨j, rfl⟩ : ∃ j, n = j + 1 := ⟨n - 1, by omega⟩
      obtain ⟨g, off, rfl, _, _, _⟩ := r1.at_ hz
      have hm2 : (len0 : Int) % ((j : Int) + 1 + 1) = (m : Int) := hm
      have j1 : (0 : Int) ≤ (j : Int) := by omega
      have j2 : (j : Int) < (j : Int) + 1 := by omega
      obtain ⟨dz, hdz⟩ : ∃ dz, dep l j = dz := ⟨_, rfl⟩
      obtain ⟨sz, hsz⟩ : ∃ sz, sur l j = sz := ⟨_, rfl⟩
      have OT : Hid (okL (([] ++ l) ++ [(dz, sz)]) = false) := by
        show _ = _
        rw [← hdz, ← hsz]
        exact twice_bad hln
      have HD := Lib.hid hdz
      have HZ := Lib.hid hsz
      clear hdz hsz
      go_wp2_with (first
        | (at_builtin; refine wpList_append_lrow _ rfl _ _ rfl w3.heap.size _ 0 [] rfl _ _ _ _ _ rfl (r1.keep bA) ho0 (by omega) (by simp) ?_; intro v' w4 hown4 hgrow4; have b4 : Below w3.heap.size w3 w4 := bA.grown hgrow4 (by simp) (fun k hk => (ho0.lt k hk).1); obtain ⟨hcx, hdx⟩ := (r1.keep b4).cellAt (show j < j + 1 by omega); rw [HD.out] at hcx; rw [HZ.out] at hdx)
        | (at_builtin; refine wpList_append_lay _ rfl _ _ rfl w3.heap.size _ _ _ rfl dz sz w4.heap.size rfl (hown4.alloc _) (by simp) (by simp) (by omega) (by have := b4.size; simp; omega) ?_; intro v2 w5a hown5 hgrow5))
      replace B := below2 B (below_append b4 b4.size hown4 hgrow5)
      replace r1 := r1.keep (below_append b4 b4.size hown4 hgrow5)
      rw [Nat.zero_add] at hown5
      obtain ⟨aT, cT, rfl, rT, _⟩ := LRow.of_own hown5
      clear bA ho0 hown4 hgrow4 hown5 hgrow5 b4 hcx hdx
      refine (implValid_is (HT.out m) (r1.take hmn') (by omega)).mono ?_
      rintro e w5 ⟨rfl, b5⟩
      replace r1 := r1.keep b5
      replace rT := rT.keep b5
      replace B := below2 B b5
      clear b5
      go_wp2_with fail
      refine (allSure_any _ _ _ _ _ true _ r1 (by omega)).mono ?_
      rintro e w6 ⟨a6, n6, c6, rfl, s6, _, b6⟩
      replace r1 := r1.keep b6
      replace rT := rT.keep b6
      replace B := below2 B b6
      clear b6
      go_wp2_with fail
      refine (implValid_is (HS.out true) s6 (by have := s6.len; rw [length_setS] at this; omega)).mono ?_
      rintro e w7 ⟨rfl, b7⟩
      clear s6
      replace r1 := r1.keep b7
      replace rT := rT.keep b7
      replace B := below2 B b7
      clear b7
      go_wp2_with fail
      refine (allSure_any _ _ _ _ _ false _ r1 (by omega)).mono ?_
      rintro e w8 ⟨a8, n8, c8, rfl, s8, _, b8⟩
      replace r1 := r1.keep b8
      replace rT := rT.keep b8
      replace B := below2 B b8
      clear b8
      go_wp2_with fail
      refine (implValid_is (HS.out false) s8 (by have := s8.len; rw [length_setS] at this; omega)).mono ?_
      rintro e w9 ⟨rfl, b9⟩
      clear s8
      replace r1 := r1.keep b9
      replace rT := rT.keep b9
      replace B := below2 B b9
      clear b9
      go_wp2_with fail
      refine (implValid_is OT.out rT (by omega)).mono ?_
      rintro e w10 ⟨rfl, b10⟩
      replace B := below2 B b10
      go_wp2_with fail
      go_ret
      exact ⟨rfl, B⟩

end Go.Proofs.Ytbidnmjofljcnaa
