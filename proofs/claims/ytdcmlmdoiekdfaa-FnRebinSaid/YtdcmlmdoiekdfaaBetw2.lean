/- The walk of the reference's RecordBetween. -/
import Derived.Test.YtdcmlmdoiekdfaaBetw
import Derived.Deep.CutRange
namespace Go.Proofs.Ytdcmlmdoiekdfaa
open Go.RowKit

theorem specRB_no (a : Option Addr) (n c lo : Nat) (es : List Int) (a' : Option Addr) (n' c' lo' : Nat) (am : List Int) (t b : Int) (w : World) (h : IRow w lo a n c es) (h' : IRow w lo' a' n' c' am) (hn : n ≤ 1048576) (hn' : n' ≤ 1048576) (hok : okR es am = false) :
    Calls Try.prog 15 #[.slice a n c, .slice a' n' c', .int .i64 t, .int .i64 b] w fun e w' => e = .returned (frV none) ∧ Below w.heap.size w w' := by
  have HK := Lib.hid hok
  have H := Lib.hid h
  have H' := Lib.hid h'
  have R := Two.new w 0 0 31
  have B : Below w.heap.size w (w.alloc (.cells #[.int .i64 0, .int .i64 0] 31)) := (Below.refl _ _).alloc (Nat.le_refl _) _
  clear h h' hok
  go_enter Try.func15, Try.ntmps15
  go_wp2_with fail
  refine (specRV_is HK.out (H.out.keep B) (H'.out.keep B) hn hn').mono ?_
  rintro e w1 ⟨rfl, b1⟩
  replace R := R.next b1
  replace B := below2 B b1
  clear b1
  have hT := R.set 0 0
  have BT := (B.setCell (p := ⟨w.heap.size, 0, none⟩) (Nat.le_refl _) (.int .i64 0)).setCell (p := ⟨w.heap.size, 1, none⟩) (Nat.le_refl _) (.int .i64 0)
  obtain ⟨b1, b2, b3, b4, b5⟩ := R
  go_wp2_with fail
  refine bodyPost_ret (results_frac Try.results15 _ _ rfl hT.2.1 hT.2.2.1) rfl ⟨rfl, BT⟩

set_option maxRecDepth 100000 in
set_option maxHeartbeats 2000000 in
theorem specRB_ok (a : Option Addr) (n c lo : Nat) (es : List Int) (a' : Option Addr) (n' c' lo' : Nat) (am : List Int) (t b : Int) (w : World) (h : IRow w lo a n c es) (h' : IRow w lo' a' n' c' am) (hok : okR es am = true) (hs : okSpan t b = true) {o : Option Fr} (ho : bet es am t b = o) :
    Calls Try.prog 15 #[.slice a n c, .slice a' n' c', .int .i64 t, .int .i64 b] w fun e w' => e = .returned (frV o) ∧ Below w.heap.size w w' := by
  obtain ⟨he, hlen, _⟩ := okR_parts hok
  have hl := h.len
  have hl' := h'.len
  have he2 := okE_bd he
  obtain rfl : n = n' + 1 := by omega
  have hn21 : n' ≤ 20 := by omega
  obtain ⟨s1, s2, s3⟩ := okSpan_bd hs
  have H := Lib.hid h
  have H' := Lib.hid h'
  have HK := Lib.hid hok
  have HE := Lib.hid he
  have HB := Lib.hid ho
  have HL : Hid (am.length = n') := hl'
  have HLe : Hid (es.length = n' + 1) := hl
  have R := Two.new w 0 0 31
  have B : Below w.heap.size w (w.alloc (.cells #[.int .i64 0, .int .i64 0] 31)) := (Below.refl _ _).alloc (Nat.le_refl _) _
  clear h h' hok he hs ho hl hl' hlen he2
  go_enter Try.func15, Try.ntmps15
  go_wp2_with fail
  refine (specRV_is HK.out (H.out.keep B) (H'.out.keep B) (by omega) (by omega)).mono ?_
  rintro e w0 ⟨rfl, b0⟩
  replace R := R.next b0
  replace B := below2 B b0
  clear b0
  go_wp2_with fail
  refine (depth_yes _ _ s1 (by omega)).mono ?_
  rintro e w2 ⟨rfl, rfl⟩
  go_wp2_with fail
  refine (in_yes _ _ _ _ s2 s3).mono ?_
  rintro e w2 ⟨rfl, rfl⟩
  go_wp2_with fail
  refine whole_is.mono ?_
  rintro e w1 ⟨rfl, b1⟩
  replace R := R.next b1
  replace B := below2 B b1
  clear b1
  have S := Two.new w1 0 1 31
  have hsz := B.size
  have hR1 := R.1
  have bS : Below w1.heap.size w1 (w1.alloc (.cells #[.int .i64 0, .int .i64 1] 31)) := (Below.refl _ _).alloc (Nat.le_refl _) _
  replace R := R.next bS
  replace B := below2 B bS
  clear bS
  go_wp2_with fail
  go_loopw [11] (fun i wr => ∃ (k : Nat) (f1 f2 : Int), k ≤ n' ∧ i = .int .i64 k ∧ Hid (betT es am t b k = some (f1, f2)) ∧ 0 ≤ f1 ∧ Hid (okF (f1, f2) = true) ∧ Two wr w1.heap.size f1 f2 ∧ Two wr w.heap.size 0 0 ∧ Below w.heap.size w wr) (fun i _ => n' - (intOf i).toNat)
  case atStart => exact ⟨0, 0, 1, Nat.zero_le _, rfl, rfl, by omega, (by show _ = _; decide), S, R, B⟩
  case round =>
    clear S R B
    obtain ⟨k, f1, f2, hk, rfl, hf, hf0, hfo, S, R, B⟩ := hrel
    by_cases hlt : k < n'
    · have ek := okE_at HE.out (k := k) (by rw [HLe.out]; omega)
      have ek1 := okE_at HE.out (k := k + 1) (by rw [HLe.out]; omega)
      have elt := okE_lt HE.out (k := k) (by rw [HLe.out]; omega)
      have hkl : k < am.length := by rw [HL.out]; exact hlt
      have pn := part_num HK.out t b hkl
      have po := part_of HK.out t b hkl
      have pok := part_ok HK.out t b hkl
      have pz := part_num0 HK.out t b hkl
      have hnext := betT_succ hf.out
      obtain ⟨g, off, rfl, _, hg, hc0⟩ := (H.out.keep B).at_ (show k < n' + 1 by omega)
      have hc1 := (H.out.keep B).cellAt (show k + 1 < n' + 1 by omega)
      obtain ⟨g', off', rfl, _, hg', hcz⟩ := (H'.out.keep B).at_ hlt
      obtain ⟨fp, hfp⟩ : ∃ fp, partF es am t b k = fp := ⟨_, rfl⟩
      obtain ⟨p1, p2⟩ := fp
      obtain ⟨e0, he0⟩ : ∃ e0, nth es k = e0 := ⟨_, rfl⟩
      obtain ⟨e1, he1⟩ : ∃ e1, nth es (k + 1) = e1 := ⟨_, rfl⟩
      obtain ⟨z, hz⟩ : ∃ z, nth am k = z := ⟨_, rfl⟩
      rw [hfp] at po pok pz hnext
      rw [he0] at ek elt pn po hc0
      rw [he1] at ek1 elt pn po hc1
      rw [hz] at pn po hcz
      obtain ⟨v, hv⟩ : ∃ v, ov e0 e1 t b = v := ⟨_, rfl⟩
      rw [hv] at pn po
      obtain ⟨P, hP⟩ : ∃ P, z * v = P := ⟨_, rfl⟩
      rw [hP] at pn po
      have m1 : IntKind.i64.wrap (z * v) = P := by rw [hP]; exact IntWalk.i64_in _ (by omega)
      have m2 : IntKind.i64.wrap (e1 - e0) = e1 - e0 := IntWalk.i64_in _ (by omega)
      have HV := Lib.hid hv
      have PO := Lib.hid po
      have POK := Lib.hid pok
      have HN := Lib.hid hnext
      have n1 : (0 : Int) ≤ k := by omega
      have n2 : (k : Int) < n' := by omega
      have n3 : (k : Int) + 1 < (n' : Int) + 1 := by omega
      have n4 : (k : Int) < (n' : Int) + 1 := by omega
      have s4 : ((k : Int) + 1).toNat = k + 1 := by omega
      have n5 : (0 : Int) ≤ (k : Int) + 1 := by omega
      have n6 : IntKind.i64.wrap ((k : Int) + 1) = (k : Int) + 1 := IntWalk.i64_in _ (by omega)
      have pz0 : 0 ≤ p1 := pz
      obtain ⟨on, hon⟩ : ∃ on, addF (f1, f2) (p1, p2) = on := ⟨_, rfl⟩
      have HF := Lib.hid hon
      have HPZ := Lib.hid hP
      clear hfp he0 he1 hz hv hP po pok hnext pz hkl hon
      go_upto_region 7 with (fail)
      go_cut [12] from 34 to 88 (fun s w' => ∃ (cm : Int) (q : Nat), s = .int .i64 cm ∧ Hid (max 0 cm = v) ∧ -30000 ≤ cm ∧ cm ≤ 30000 ∧ w' = wr.drewN q)
      case first =>
        go_quiet (fail)
        all_goals
          go_wp2_with fail
        all_goals
          go_meet
          case rel => exact ⟨_, _, rfl, (by show max _ _ = v; rw [← HV.out]; unfold ov; omega), by omega, by omega, rfl⟩
      case rest =>
        obtain ⟨cm, q, rfl, hcm, hcm1, hcm2, rfl⟩ := hcut
        have S : Two (wr.drewN q) w1.heap.size f1 f2 := S
        have R : Two (wr.drewN q) w.heap.size 0 0 := R
        have B := below_drewN B q
        have hg : g < (wr.drewN q).heap.size := hg
        have hg' : g' < (wr.drewN q).heap.size := hg'
        change (wr.drewN q).cell? _ = _ at hc0 hc1 hcz
        obtain ⟨wq, hwq⟩ : ∃ wq, wr.drewN q = wq := ⟨_, rfl⟩
        rw [hwq] at S R B hg hg' hc0 hc1 hcz ⊢
        clear hwq
        have KS : Hid (∀ w' : World, Below wq.heap.size wq w' → (w'.cell? ⟨g', off' + k, none⟩ = some (.int .i64 z) ∧ w'.cell? ⟨g, off + k, none⟩ = some (.int .i64 e0) ∧ w'.cell? ⟨g, off + (k + 1), none⟩ = some (.int .i64 e1))) := fun w' hb => ⟨(hb.cell (p := ⟨g', off' + k, none⟩) hg').trans hcz, (hb.cell (p := ⟨g, off + k, none⟩) hg).trans hc0, (hb.cell (p := ⟨g, off + (k + 1), none⟩) hg).trans hc1⟩
        go_upto_region 8 with (fail)
        go_cut [13, 14] from 34 to 88 (fun s13 s14 w' => ∃ P : Nat, s13 = .pointer (some ⟨P, 0, none⟩) ∧ s14 = .bool true ∧ Two w' P p1 p2 ∧ Below wq.heap.size wq w')
        case first =>
          have hcmo := hcm.out
          by_cases hc : 0 < cm
          · obtain rfl : cm = v := by omega
            go_region_held3 (fun w' => w'.cell? ⟨g', off' + k, none⟩ = some (.int .i64 z) ∧ w'.cell? ⟨g, off + k, none⟩ = some (.int .i64 e0) ∧ w'.cell? ⟨g, off + (k + 1), none⟩ = some (.int .i64 e1))
              (first
                | exact KS.out _ (Below.refl _ _).drew
                | exact KS.out _ ((cB.setCell leP _).setCell leP _)
                | exact KS.out _ (cB.alloc cB.size _)
                | exact KS.out _ cB
                | exact KS.out _ ((Below.refl _ _).alloc (Nat.le_refl _) _).drew
                | exact KS.out _ ((Below.refl _ _).drew.alloc (Nat.le_refl _) _)
                | go_keep)
              (first
                | (go_at_call 27; refine (specFO_some PO.out (by omega) (by omega) (by omega) (by omega)).mono ?_; rintro e wB ⟨rfl, bB⟩; have cB : Below wq.heap.size wq wB := below2 (Below.refl _ _).drew bB)
                | (go_at_call 27; refine (specFO_some PO.out (by omega) (by omega) (by omega) (by omega)).mono ?_; rintro e wB ⟨rfl, bB⟩; have cB : Below wq.heap.size wq wB := below2 ((Below.refl _ _).alloc (Nat.le_refl _) _) (below2 (Below.refl _ _).drew bB); have PB := (Two.new wq 0 0 31).next (below2 (Below.refl _ _).drew bB); have leP : wq.heap.size ≤ wq.heap.size := Nat.le_refl _; obtain ⟨_, pc0, pc1, pf0, pf1⟩ := PB; have PB := (Two.new wq 0 0 31).next (below2 (Below.refl _ _).drew bB)))
            all_goals
              go_wp2_with fail
              go_meet
              case rel =>
                first
                  | exact ⟨_, rfl, rfl, PB.set p1 p2, (cB.setCell leP _).setCell leP _⟩
                  | exact ⟨_, rfl, rfl, Two.new wB p1 p2 31, cB.alloc cB.size _⟩
          · obtain rfl : v = 0 := by omega
            obtain rfl : P = 0 := by rw [← HPZ.out]; exact Int.mul_zero z
            go_region_held3 (fun w' => w'.cell? ⟨g', off' + k, none⟩ = some (.int .i64 z) ∧ w'.cell? ⟨g, off + k, none⟩ = some (.int .i64 e0) ∧ w'.cell? ⟨g, off + (k + 1), none⟩ = some (.int .i64 e1))
              (first
                | exact KS.out _ (Below.refl _ _).drew
                | exact KS.out _ ((cB.setCell leP _).setCell leP _)
                | exact KS.out _ (cB.alloc cB.size _)
                | exact KS.out _ cB
                | exact KS.out _ ((Below.refl _ _).alloc (Nat.le_refl _) _).drew
                | exact KS.out _ ((Below.refl _ _).drew.alloc (Nat.le_refl _) _)
                | go_keep)
              (first
                | (go_at_call 27; refine (specFO_some PO.out (by omega) (by omega) (by omega) (by omega)).mono ?_; rintro e wB ⟨rfl, bB⟩; have cB : Below wq.heap.size wq wB := below2 (Below.refl _ _).drew bB)
                | (go_at_call 27; refine (specFO_some PO.out (by omega) (by omega) (by omega) (by omega)).mono ?_; rintro e wB ⟨rfl, bB⟩; have cB : Below wq.heap.size wq wB := below2 ((Below.refl _ _).alloc (Nat.le_refl _) _) (below2 (Below.refl _ _).drew bB); have PB := (Two.new wq 0 0 31).next (below2 (Below.refl _ _).drew bB); have leP : wq.heap.size ≤ wq.heap.size := Nat.le_refl _; obtain ⟨_, pc0, pc1, pf0, pf1⟩ := PB; have PB := (Two.new wq 0 0 31).next (below2 (Below.refl _ _).drew bB)))
            all_goals
              go_wp2_with fail
              go_meet
              case rel =>
                first
                  | exact ⟨_, rfl, rfl, PB.set p1 p2, (cB.setCell leP _).setCell leP _⟩
                  | exact ⟨_, rfl, rfl, Two.new wB p1 p2 31, cB.alloc cB.size _⟩
        case rest =>
          obtain ⟨P', rfl, rfl, TZ, cZ⟩ := hcut
          replace S := S.next cZ
          replace R := R.next cZ
          replace B := below2 B cZ
          clear KS hc0 hc1 hcz cZ
          obtain ⟨_, z2, z3, _, _⟩ := TZ
          obtain ⟨y1, y2, y3, y4, y5⟩ := S
          have S : Two wc w1.heap.size f1 f2 := ⟨y1, y2, y3, y4, y5⟩
          go_upto_region 9 with (fail)
          go_cut [15, 16] from 34 to 88 (fun s15 s16 w' => ∃ (P2 : Nat) (r1 r2 : Int) (bo : Bool), s15 = .pointer (some ⟨P2, 0, none⟩) ∧ s16 = .bool bo ∧ Two w' P2 r1 r2 ∧ Hid (on = none ∧ bo = false ∨ on = some (r1, r2) ∧ bo = true) ∧ Below wc.heap.size wc w')
          case first =>
            go_wp2_with fail
            refine (specFA HF.out hf0 pz0 hfo.out POK.out).mono ?_
            rintro e wC ⟨rfl, bC⟩
            cases on with
            | none =>
              unfold frV
              go_wp2_with fail
              go_meet
              case rel => exact ⟨_, 0, 0, false, rfl, rfl, Two.new wC 0 0 31, (by first | exact Or.inl ⟨rfl, rfl⟩ | exact Or.inl ⟨trivial, rfl⟩ | exact Or.inl ⟨trivial, trivial⟩), bC.alloc bC.size _⟩
            | some ff =>
              obtain ⟨r1, r2⟩ := ff
              unfold frV
              go_wp2_with fail
              go_meet
              case rel => exact ⟨_, r1, r2, true, rfl, rfl, Two.new wC r1 r2 31, (by first | exact Or.inr ⟨rfl, rfl⟩ | exact Or.inr ⟨trivial, rfl⟩ | exact Or.inr ⟨trivial, trivial⟩), bC.alloc bC.size _⟩
          case rest =>
            obtain ⟨P2, r1, r2, bo, rfl, rfl, TY, hcases, cY⟩ := hcut
            clear y1 y2 y3 y4 y5 z2 z3
            replace S := S.next cY
            replace R := R.next cY
            replace B := below2 B cY
            clear cY
            obtain ⟨wz, hwz⟩ : ∃ wz, wc = wz := ⟨_, rfl⟩
            rw [hwz] at TY S R B ⊢
            clear hwz
            rcases hcases.out with ⟨h1, rfl⟩ | ⟨h1, rfl⟩
            · have e : o = none := by rw [← HB.out]; exact bet_none (k := k + 1) (by rw [HL.out]; exact hlt) (HN.out.trans (HF.out.trans h1))
              subst e
              have hT := R.set 0 0
              have BU := (B.setCell (p := ⟨w.heap.size, 0, none⟩) (Nat.le_refl _) (.int .i64 0)).setCell (p := ⟨w.heap.size, 1, none⟩) (Nat.le_refl _) (.int .i64 0)
              obtain ⟨b1, b2, b3, b4, b5⟩ := R
              clear S B h1 hcases TY
              go_wp2_with fail
              (try simp only [Exit.inBlock, Exit.then])
              refine bodyPost_ret (results_frac Try.results15 _ _ rfl hT.2.1 hT.2.2.1) rfl ⟨rfl, BU⟩
            · have hfn : Hid (betT es am t b (k + 1) = some (r1, r2)) := HN.out.trans (HF.out.trans h1)
              have hnum := addF_num (x := (f1, f2)) (y := (p1, p2)) hf0 pz0 hfo.out POK.out (HF.out.trans h1)
              have hno : Hid (okF (r1, r2) = true) := hnum.2
              have hn0 : 0 ≤ r1 := hnum.1
              have ST := S.set r1 r2
              have RT := R.keep (((Below.refl w1.heap.size wz).setCell (p := ⟨w1.heap.size, 0, none⟩) (Nat.le_refl _) (.int .i64 r1)).setCell (p := ⟨w1.heap.size, 1, none⟩) (Nat.le_refl _) (.int .i64 r2)) hR1
              have BT := (B.setCell (p := ⟨w1.heap.size, 0, none⟩) hsz (.int .i64 r1)).setCell (p := ⟨w1.heap.size, 1, none⟩) hsz (.int .i64 r2)
              obtain ⟨a1, a2, a3, a4, a5⟩ := S
              obtain ⟨_, z2, z3, _, _⟩ := TY
              clear R B hnum h1 hcases
              go_wp2_with fail
              go_roundw
              case rel => exact ⟨k + 1, r1, r2, by omega, by go_num, hfn, hn0, hno, ST, RT, BT⟩
              case measure => simp [intOf]; omega
    · obtain rfl : n' = k := by omega
      have e : o = some (f1, f2) := by rw [← HB.out]; unfold bet; rw [HL.out]; exact hf.out
      subst e
      have hle : w.heap.size ≤ w.heap.size := Nat.le_refl _
      obtain ⟨a1, a2, a3, a4, a5⟩ := R
      obtain ⟨_, g2, g3, _, _⟩ := S
      have hT := Two.set (w := wr) ⟨a1, a2, a3, a4, a5⟩ f1 f2
      have BT := (B.setCell (p := ⟨w.heap.size, 0, none⟩) hle (.int .i64 f1)).setCell (p := ⟨w.heap.size, 1, none⟩) hle (.int .i64 f2)
      go_wp2_with fail
      (try simp only [Exit.inBlock, Exit.then])
      refine bodyPost_ret (results_frac Try.results15 _ _ rfl hT.2.1 hT.2.2.1) rfl ⟨rfl, BT⟩

end Go.Proofs.Ytdcmlmdoiekdfaa
