/- The walk of the program's RecordBetween. -/
import Derived.Test.YtdcmlmdoiekdfaaFrac2
import Derived.Test.YtdcmlmdoiekdfaaRec
namespace Go.Proofs.Ytdcmlmdoiekdfaa
open Go.RowKit

theorem betT_succ {es am : List Int} {t b : Int} {k : Nat} {f : Fr} (h : betT es am t b k = some f) : betT es am t b (k + 1) = addF f (partF es am t b k) := by
  rw [betT, h]; rfl
theorem betT_none {es am : List Int} {t b : Int} {k : Nat} (h : betT es am t b k = none) : ∀ j, betT es am t b (k + j) = none
  | 0 => h
  | j + 1 => by rw [← Nat.add_assoc, betT, betT_none h j]; rfl
theorem bet_none {es am : List Int} {t b : Int} {k : Nat} (hk : k ≤ am.length) (h : betT es am t b k = none) : bet es am t b = none := by
  have := betT_none h (am.length - k)
  rwa [show k + (am.length - k) = am.length by omega] at this
theorem addF_num {x y f : Fr} (hx0 : 0 ≤ x.1) (hy0 : 0 ≤ y.1) (hx : okF x = true) (hy : okF y = true) (h : addF x y = some f) : 0 ≤ f.1 ∧ okF f = true := by
  obtain ⟨p0, _, q0, _, d0, _⟩ := add_facts hx0 hy0 hx hy
  refine ⟨?_, (addF_val hx hy h).1⟩
  have n := red_num (a := x.1 * y.2 + y.1 * x.2) (b := x.2 * y.2) d0 (by omega)
  unfold addF ofF at h
  split at h
  · injection h with h; rw [← h]; exact n.1
  · cases h
theorem part_num0 {es am : List Int} (h : okR es am = true) (t b : Int) {k : Nat} (hk : k < am.length) : 0 ≤ (partF es am t b k).1 := by
  obtain ⟨p1, p2, p3, p4⟩ := part_num h t b hk
  exact (red_num (a := nth am k * ov (nth es k) (nth es (k + 1)) t b) (b := nth es (k + 1) - nth es k) (by omega) p1).1
theorem overlap_v {e0 e1 t b v : Int} {w : World} (hv : ov e0 e1 t b = v) (h1 : 0 ≤ e0) (h2 : e0 ≤ 30000) (h3 : 0 ≤ e1) (h4 : e1 ≤ 30000) (h5 : 0 ≤ t) (h6 : t ≤ 30000) (h7 : 0 ≤ b) (h8 : b ≤ 30000) :
    Calls Try.prog 20 #[.agg #[.int .i64 e0, .int .i64 e1], .agg #[.int .i64 t, .int .i64 b]] w fun e w' => e = .returned (.int .i64 v) ∧ Below w.heap.size w w' := by
  subst hv; exact overlap_is h1 h2 h3 h4 h5 h6 h7 h8

theorem implFO_some {a b f1 f2 : Int} {w : World} (ho : ofF a b = some (f1, f2)) (ha : 0 ≤ a) (ha' : a ≤ 4000000000000000000) (hb : 0 < b) (hb' : b ≤ 4000000000000000000) :
    Calls Try.prog 19 #[.int .i64 a, .int .i64 b] w fun e w' => e = .returned (.tuple #[.agg #[.int .i64 f1, .int .i64 f2], .bool true]) ∧ Below w.heap.size w w' := implFO ho ha ha' hb hb'
theorem specFO_some {a b f1 f2 : Int} {w : World} (ho : ofF a b = some (f1, f2)) (ha : 0 ≤ a) (ha' : a ≤ 4000000000000000000) (hb : 0 < b) (hb' : b ≤ 4000000000000000000) :
    Calls Try.prog 27 #[.int .i64 a, .int .i64 b] w fun e w' => e = .returned (.tuple #[.agg #[.int .i64 f1, .int .i64 f2], .bool true]) ∧ Below w.heap.size w w' := specFO ho ha ha' hb hb'

set_option maxRecDepth 100000 in
set_option maxHeartbeats 2000000 in
theorem implRB_ok (a : Option Addr) (n c lo : Nat) (es : List Int) (a' : Option Addr) (n' c' lo' : Nat) (am : List Int) (t b : Int) (w : World) (h : IRow w lo a n c es) (h' : IRow w lo' a' n' c' am) (hok : okR es am = true) (hs : okSpan t b = true) {o : Option Fr} (ho : bet es am t b = o) :
    Calls Try.prog 9 #[.slice a n c, .slice a' n' c', .int .i64 t, .int .i64 b] w fun e w' => e = .returned (frV o) ∧ Below w.heap.size w w' := by
  obtain ⟨he, hlen, _⟩ := okR_parts hok
  have hl := h.len
  have hl' := h'.len
  have he2 := okE_bd he
  obtain rfl : n = n' + 1 := by omega
  have hn21 : n' ≤ 20 := by omega
  obtain ⟨s1, s2, s3⟩ := okSpan_bd hs
  have H := Lib.hid h
  have H' := Lib.hid h'
  have HK := Lib.hid hok
  have HE := Lib.hid he
  have HS := Lib.hid hs
  have HB := Lib.hid ho
  have HL : Hid (am.length = n') := hl'
  have HLe : Hid (es.length = n' + 1) := hl
  have R := Two.new w 0 0 31
  have B : Below w.heap.size w (w.alloc (.cells #[.int .i64 0, .int .i64 0] 31)) := (Below.refl _ _).alloc (Nat.le_refl _) _
  clear h h' hok he hs ho hl hl' hlen he2
  go_enter Try.func9, Try.ntmps9
  go_wp2_with fail
  refine (implRV_is HK.out (H.out.keep B) (H'.out.keep B) (by omega) (by omega)).mono ?_
  rintro e w1 ⟨rfl, b1⟩
  replace R := R.next b1
  replace B := below2 B b1
  clear b1
  go_wp2_with fail
  refine (isSpan_is HS.out).mono ?_
  rintro e w2 ⟨rfl, rfl⟩
  have S := Two.new w1 0 1 31
  have hsz := B.size
  have hR1 := R.1
  have bS : Below w1.heap.size w1 (w1.alloc (.cells #[.int .i64 0, .int .i64 1] 31)) := (Below.refl _ _).alloc (Nat.le_refl _) _
  replace R := R.next bS
  replace B := below2 B bS
  clear bS
  go_wp2_with fail
  go_loopw [30] (fun i wr => ∃ (k : Nat) (f1 f2 : Int), k ≤ n' ∧ i = .int .i64 k ∧ Hid (betT es am t b k = some (f1, f2)) ∧ 0 ≤ f1 ∧ Hid (okF (f1, f2) = true) ∧ Two wr w1.heap.size f1 f2 ∧ Two wr w.heap.size 0 0 ∧ Below w.heap.size w wr) (fun i _ => n' - (intOf i).toNat)
  case atStart => exact ⟨0, 0, 1, Nat.zero_le _, rfl, rfl, by omega, (by show _ = _; decide), S, R, B⟩
  case round =>
    clear S R B
    obtain ⟨k, f1, f2, hk, rfl, hf, hf0, hfo, S, R, B⟩ := hrel
    by_cases hlt : k < n'
    · have ek := okE_at HE.out (k := k) (by rw [HLe.out]; omega)
      have ek1 := okE_at HE.out (k := k + 1) (by rw [HLe.out]; omega)
      have elt := okE_lt HE.out (k := k) (by rw [HLe.out]; omega)
      have hkl : k < am.length := by rw [HL.out]; exact hlt
      have pn := part_num HK.out t b hkl
      have po := part_of HK.out t b hkl
      have pok := part_ok HK.out t b hkl
      have pz := part_num0 HK.out t b hkl
      have hnext := betT_succ hf.out
      obtain ⟨g, off, rfl, _, hg, hc0⟩ := (H.out.keep B).at_ (show k < n' + 1 by omega)
      have hc1 := (H.out.keep B).cellAt (show k + 1 < n' + 1 by omega)
      obtain ⟨g', off', rfl, _, hg', hcz⟩ := (H'.out.keep B).at_ hlt
      obtain ⟨fp, hfp⟩ : ∃ fp, partF es am t b k = fp := ⟨_, rfl⟩
      obtain ⟨p1, p2⟩ := fp
      obtain ⟨e0, he0⟩ : ∃ e0, nth es k = e0 := ⟨_, rfl⟩
      obtain ⟨e1, he1⟩ : ∃ e1, nth es (k + 1) = e1 := ⟨_, rfl⟩
      obtain ⟨z, hz⟩ : ∃ z, nth am k = z := ⟨_, rfl⟩
      rw [hfp] at po pok pz hnext
      rw [he0] at ek elt pn po hc0
      rw [he1] at ek1 elt pn po hc1
      rw [hz] at pn po hcz
      obtain ⟨v, hv⟩ : ∃ v, ov e0 e1 t b = v := ⟨_, rfl⟩
      rw [hv] at pn po
      obtain ⟨P, hP⟩ : ∃ P, z * v = P := ⟨_, rfl⟩
      rw [hP] at pn po
      have m1 : IntKind.i64.wrap (z * v) = P := by rw [hP]; exact IntWalk.i64_in _ (by omega)
      have m2 : IntKind.i64.wrap (e1 - e0) = e1 - e0 := IntWalk.i64_in _ (by omega)
      have HV := Lib.hid hv
      have PO := Lib.hid po
      have POK := Lib.hid pok
      have HN := Lib.hid hnext
      have n1 : (0 : Int) ≤ k := by omega
      have n2 : (k : Int) < n' := by omega
      have n3 : (k : Int) + 1 < (n' : Int) + 1 := by omega
      have n4 : (k : Int) < (n' : Int) + 1 := by omega
      have s4 : ((k : Int) + 1).toNat = k + 1 := by omega
      have n5 : (0 : Int) ≤ (k : Int) + 1 := by omega
      have n6 : IntKind.i64.wrap ((k : Int) + 1) = (k : Int) + 1 := IntWalk.i64_in _ (by omega)
      have pz0 : 0 ≤ p1 := pz
      obtain ⟨on, hon⟩ : ∃ on, addF (f1, f2) (p1, p2) = on := ⟨_, rfl⟩
      have HF := Lib.hid hon
      clear hfp he0 he1 hz hv hP po pok hnext pz hkl hon
      go_wp2_with fail
      have q0 := World.new_ne wr _ hc0
      have q1 := World.new_ne wr _ hc1
      go_region_held3 (fun w' => w'.cell? ⟨g, off + k, none⟩ = some (.int .i64 e0) ∧ w'.cell? ⟨g, off + (k + 1), none⟩ = some (.int .i64 e1)) (go_keep) (fail)
      clear q0 q1 hc0 hc1 hcz
      have bP : Below wr.heap.size wr (wr.alloc (.cells #[.int .i64 e0, .int .i64 e1] 46)).drew := ((Below.refl _ _).alloc (Nat.le_refl _) _).drew
      have T : Two (wr.alloc (.cells #[.int .i64 e0, .int .i64 e1] 46)).drew wr.heap.size e0 e1 := Two.new wr e0 e1 46
      replace S := S.next bP
      replace R := R.next bP
      replace B := below2 B bP
      go_wp2_with fail
      obtain ⟨wp, hwp⟩ : ∃ wp, (wr.alloc (.cells #[.int .i64 e0, .int .i64 e1] 46)).drew = wp := ⟨_, rfl⟩
      rw [hwp] at T S R B ⊢
      clear hwp bP
      go_region_held3 (fun w' => w'.cell? ⟨wr.heap.size, 0, none⟩ = some (.int .i64 e0) ∧ w'.cell? ⟨wr.heap.size, 1, none⟩ = some (.int .i64 e1))
        (first
          | exact ⟨TB.2.1, TB.2.2.1⟩
          | exact ⟨TA.2.1, TA.2.2.1⟩
          | exact ⟨T.2.1, T.2.2.1⟩
          | exact ⟨(TB.next ((Below.refl _ _).alloc (Nat.le_refl _) _)).2.1, (TB.next ((Below.refl _ _).alloc (Nat.le_refl _) _)).2.2.1⟩
          | exact ⟨(TA.next ((Below.refl _ _).alloc (Nat.le_refl _) _)).2.1, (TA.next ((Below.refl _ _).alloc (Nat.le_refl _) _)).2.2.1⟩
          | exact ⟨(T.next ((Below.refl _ _).alloc (Nat.le_refl _) _)).2.1, (T.next ((Below.refl _ _).alloc (Nat.le_refl _) _)).2.2.1⟩
          | exact ⟨(TB.keep (((Below.refl _ _).setCell leP _).setCell leP _) T.1).2.1, (TB.keep (((Below.refl _ _).setCell leP _).setCell leP _) T.1).2.2.1⟩
          | go_keep)
        (first
          | (go_at_call 19; refine (implFO_some PO.out (by omega) (by omega) (by omega) (by omega)).mono ?_; rintro e wB ⟨rfl, bB⟩; have cB : Below wp.heap.size wp wB := below2 cA bB; have TB := T.next cB; have PB := PA.next bB; have leP : wp.heap.size ≤ wp.heap.size := Nat.le_refl _; obtain ⟨_, pc0, pc1, pf0, pf1⟩ := PB; have PB := PA.next bB)
          | (go_at_call 19; refine (implFO_some PO.out (by omega) (by omega) (by omega) (by omega)).mono ?_; rintro e wB ⟨rfl, bB⟩; have cB : Below wp.heap.size wp wB := below2 cA bB; have TB := T.next cB)
          | (go_at_call 19; refine (implFO_some PO.out (by omega) (by omega) (by omega) (by omega)).mono ?_; rintro e wB ⟨rfl, bB⟩; have cB : Below wp.heap.size wp wB := below2 (below2 cA ((Below.refl _ _).alloc (Nat.le_refl _) _)) bB; have TB := T.next cB; have PB := (Two.new wA 0 0 31).next bB; have leP : wp.heap.size ≤ wA.heap.size := cA.size; obtain ⟨_, pc0, pc1, pf0, pf1⟩ := PB; have PB := (Two.new wA 0 0 31).next bB)
          | (go_at_call 20; refine (overlap_v HV.out (by omega) (by omega) (by omega) (by omega) (by omega) (by omega) (by omega) (by omega)).mono ?_; rintro e wA ⟨rfl, bA⟩; have cA : Below wp.heap.size wp wA := below2 (Below.refl _ _).drew bA; have TA := T.next cA)
          | (go_at_call 20; refine (overlap_v HV.out (by omega) (by omega) (by omega) (by omega) (by omega) (by omega) (by omega) (by omega)).mono ?_; rintro e wA ⟨rfl, bA⟩; have cA : Below wp.heap.size wp wA := below2 ((Below.refl _ _).alloc (Nat.le_refl _) _) (below2 (Below.refl _ _).drew bA); have TA := T.next cA; have PA := (Two.new wp 0 0 31).next (below2 (Below.refl _ _).drew bA)))
      all_goals
        first
          | (have TZ := PB.set p1 p2
             have cZ := (cB.setCell (p := ⟨wp.heap.size, 0, none⟩) leP (.int .i64 p1)).setCell (p := ⟨wp.heap.size, 1, none⟩) leP (.int .i64 p2)
             have TZ : Two ((wB.setCell ⟨wp.heap.size, 0, none⟩ (.int .i64 p1)).setCell ⟨wp.heap.size, 1, none⟩ (.int .i64 p2)) wp.heap.size p1 p2 := TZ
             replace S := S.next cZ
             replace R := R.next cZ
             replace B := below2 B cZ
             clear cZ pc0 pc1
             generalize (wB.setCell ⟨wp.heap.size, 0, none⟩ (.int .i64 p1)).setCell ⟨wp.heap.size, 1, none⟩ (.int .i64 p2) = wz at TZ S R B ⊢)
          | (have TZ := PB.set p1 p2
             have cZ := (cB.setCell (p := ⟨wA.heap.size, 0, none⟩) leP (.int .i64 p1)).setCell (p := ⟨wA.heap.size, 1, none⟩) leP (.int .i64 p2)
             have TZ : Two ((wB.setCell ⟨wA.heap.size, 0, none⟩ (.int .i64 p1)).setCell ⟨wA.heap.size, 1, none⟩ (.int .i64 p2)) wA.heap.size p1 p2 := TZ
             replace S := S.next cZ
             replace R := R.next cZ
             replace B := below2 B cZ
             clear cZ pc0 pc1
             generalize (wB.setCell ⟨wA.heap.size, 0, none⟩ (.int .i64 p1)).setCell ⟨wA.heap.size, 1, none⟩ (.int .i64 p2) = wz at TZ S R B ⊢)
          | (have TZ := Two.new wB p1 p2 31
             have cZ := cB.alloc cB.size (.cells #[.int .i64 p1, .int .i64 p2] 31)
             replace S := S.next cZ
             replace R := R.next cZ
             replace B := below2 B cZ
             clear cZ
             generalize wB.alloc (.cells #[.int .i64 p1, .int .i64 p2] 31) = wz at TZ S R B ⊢)
        clear bA cA TA bB cB TB T
        obtain ⟨_, z2, z3, _, _⟩ := TZ
        obtain ⟨y1, y2, y3, y4, y5⟩ := S
        have S : Two wz w1.heap.size f1 f2 := ⟨y1, y2, y3, y4, y5⟩
        go_wp2_with fail
        refine (implFA HF.out hf0 pz0 hfo.out POK.out).mono ?_
        rintro e wC ⟨rfl, bC⟩
        replace S := S.next bC
        replace R := R.next bC
        replace B := below2 B bC
        clear bC y1 y2 y3 y4 y5 z2 z3
        cases on with
        | none =>
          have e : o = none := by rw [← HB.out]; exact bet_none (k := k + 1) (by rw [HL.out]; exact hlt) (HN.out.trans HF.out)
          subst e
          have RT := R.keep (((Below.refl w1.heap.size wC).setCell (p := ⟨w1.heap.size, 0, none⟩) (Nat.le_refl _) (.int .i64 0)).setCell (p := ⟨w1.heap.size, 1, none⟩) (Nat.le_refl _) (.int .i64 0)) hR1
          have BT := (B.setCell (p := ⟨w1.heap.size, 0, none⟩) hsz (.int .i64 0)).setCell (p := ⟨w1.heap.size, 1, none⟩) hsz (.int .i64 0)
          have hT := RT.set 0 0
          have BU := (BT.setCell (p := ⟨w.heap.size, 0, none⟩) (Nat.le_refl _) (.int .i64 0)).setCell (p := ⟨w.heap.size, 1, none⟩) (Nat.le_refl _) (.int .i64 0)
          obtain ⟨a1, a2, a3, a4, a5⟩ := S
          obtain ⟨b1, b2, b3, b4, b5⟩ := RT
          clear R B BT
          unfold frV
          go_wp2_with fail
          (try simp only [Exit.inBlock, Exit.then])
          refine bodyPost_ret (results_frac Try.results9 _ _ rfl hT.2.1 hT.2.2.1) rfl ⟨rfl, BU⟩
        | some ff =>
          obtain ⟨r1, r2⟩ := ff
          have hfn : Hid (betT es am t b (k + 1) = some (r1, r2)) := HN.out.trans HF.out
          have hnum := addF_num (x := (f1, f2)) (y := (p1, p2)) hf0 pz0 hfo.out POK.out HF.out
          have hno : Hid (okF (r1, r2) = true) := hnum.2
          have hn0 : 0 ≤ r1 := hnum.1
          have ST := S.set r1 r2
          have RT := R.keep (((Below.refl w1.heap.size wC).setCell (p := ⟨w1.heap.size, 0, none⟩) (Nat.le_refl _) (.int .i64 r1)).setCell (p := ⟨w1.heap.size, 1, none⟩) (Nat.le_refl _) (.int .i64 r2)) hR1
          have BT := (B.setCell (p := ⟨w1.heap.size, 0, none⟩) hsz (.int .i64 r1)).setCell (p := ⟨w1.heap.size, 1, none⟩) hsz (.int .i64 r2)
          obtain ⟨a1, a2, a3, a4, a5⟩ := S
          clear R B hnum
          unfold frV
          go_wp2_with fail
          go_roundw
          case rel => exact ⟨k + 1, r1, r2, by omega, by go_num, hfn, hn0, hno, ST, RT, BT⟩
          case measure => simp [intOf]; omega
    · obtain rfl : n' = k := by omega
      have e : o = some (f1, f2) := by rw [← HB.out]; unfold bet; rw [HL.out]; exact hf.out
      subst e
      have hle : w.heap.size ≤ w.heap.size := Nat.le_refl _
      obtain ⟨a1, a2, a3, a4, a5⟩ := R
      obtain ⟨_, g2, g3, _, _⟩ := S
      have hT := Two.set (w := wr) ⟨a1, a2, a3, a4, a5⟩ f1 f2
      have BT := (B.setCell (p := ⟨w.heap.size, 0, none⟩) hle (.int .i64 f1)).setCell (p := ⟨w.heap.size, 1, none⟩) hle (.int .i64 f2)
      go_wp2_with fail
      (try simp only [Exit.inBlock, Exit.then])
      refine bodyPost_ret (results_frac Try.results9 _ _ rfl hT.2.1 hT.2.2.1) rfl ⟨rfl, BT⟩

end Go.Proofs.Ytdcmlmdoiekdfaa
