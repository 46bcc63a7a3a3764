/- The walk of addFracs. -/
import Derived.Test.YtdcmlmdoiekdfaaReb3
namespace Go.Proofs.Ytdcmlmdoiekdfaa
open Go.RowKit

theorem implFA_some {x1 x2 y1 y2 f1 f2 : Int} {w : World} (ho : addF (x1, x2) (y1, y2) = some (f1, f2)) (hx0 : 0 ≤ x1) (hy0 : 0 ≤ y1) (hx : okF (x1, x2) = true) (hy : okF (y1, y2) = true) :
    Calls Try.prog 17 #[.agg #[.int .i64 x1, .int .i64 x2], .agg #[.int .i64 y1, .int .i64 y2]] w fun e w' => e = .returned (.tuple #[.agg #[.int .i64 f1, .int .i64 f2], .bool true]) ∧ Below w.heap.size w w' := implFA ho hx0 hy0 hx hy
theorem implFA_none {x1 x2 y1 y2 : Int} {w : World} (ho : addF (x1, x2) (y1, y2) = none) (hx0 : 0 ≤ x1) (hy0 : 0 ≤ y1) (hx : okF (x1, x2) = true) (hy : okF (y1, y2) = true) :
    Calls Try.prog 17 #[.agg #[.int .i64 x1, .int .i64 x2], .agg #[.int .i64 y1, .int .i64 y2]] w fun e w' => e = .returned (.tuple #[.agg #[.int .i64 0, .int .i64 0], .bool false]) ∧ Below w.heap.size w w' := implFA ho hx0 hy0 hx hy
theorem addT_succ {l : List Fr} {k : Nat} {f : Fr} (h : addT l k = some f) : addT l (k + 1) = addF f (nthF l k) := by
  rw [addT, h]; rfl
theorem addT_none {l : List Fr} {k : Nat} (h : addT l k = none) : ∀ j, addT l (k + j) = none
  | 0 => h
  | j + 1 => by rw [← Nat.add_assoc, addT, addT_none h j]; rfl
theorem addL_none {l : List Fr} {k : Nat} (hk : k ≤ l.length) (h : addT l k = none) : addL l = none := by
  have := addT_none h (l.length - k)
  rwa [show k + (l.length - k) = l.length by omega] at this

set_option maxRecDepth 100000 in
set_option maxHeartbeats 2000000 in
theorem addFr_is {a : Option Addr} {n c lo : Nat} {l : List Fr} {w : World} {o : Option Fr} (h : FRow w lo a n c l) (hn : n ≤ 1048576) (hp : ∀ k, k < l.length → 0 ≤ (nthF l k).1 ∧ okF (nthF l k) = true) (ho : addL l = o) :
    Calls Try.prog 8 #[.slice a n c] w fun e w' => e = .returned (frV o) ∧ Below w.heap.size w w' := by
  have H := Lib.hid h
  have HP := Lib.hid hp
  have HB := Lib.hid ho
  have HL : Hid (l.length = n) := h.len
  have R := Two.new w 0 0 31
  have B : Below w.heap.size w (w.alloc (.cells #[.int .i64 0, .int .i64 0] 31)) := (Below.refl _ _).alloc (Nat.le_refl _) _
  clear h hp ho
  go_enter Try.func8, Try.ntmps8
  go_wp2_with fail
  refine frac_is.mono ?_
  rintro e w1 ⟨rfl, b1⟩
  replace R := R.next b1
  replace B := below2 B b1
  clear b1
  have S := Two.new w1 0 1 31
  have hsz := B.size
  have hR1 := R.1
  have bS : Below w1.heap.size w1 (w1.alloc (.cells #[.int .i64 0, .int .i64 1] 31)) := (Below.refl _ _).alloc (Nat.le_refl _) _
  replace R := R.next bS
  replace B := below2 B bS
  clear bS
  go_wp2_with fail
  go_loopw [5] (fun i wr => ∃ (k : Nat) (f1 f2 : Int), k ≤ n ∧ i = .int .i64 k ∧ Hid (addT l k = some (f1, f2)) ∧ 0 ≤ f1 ∧ Hid (okF (f1, f2) = true) ∧ Two wr w1.heap.size f1 f2 ∧ Two wr w.heap.size 0 0 ∧ Below w.heap.size w wr) (fun i _ => n - (intOf i).toNat)
  case atStart => exact ⟨0, 0, 1, Nat.zero_le _, rfl, rfl, by omega, (by show _ = _; decide), S, R, B⟩
  case round =>
    clear S R B
    obtain ⟨k, f1, f2, hk, rfl, hf, hf0, hfo, S, R, B⟩ := hrel
    by_cases hlt : k < n
    · have hpk := HP.out k (by rw [HL.out]; exact hlt)
      have hnext := addT_succ hf.out
      obtain ⟨g, off, rfl, _, hg, hc0, hc1⟩ := (H.out.keep B).at_ hlt
      obtain ⟨fp, hfp⟩ : ∃ fp, nthF l k = fp := ⟨_, rfl⟩
      obtain ⟨p1, p2⟩ := fp
      rw [hfp] at hpk hnext hc0 hc1
      obtain ⟨pz0, pok⟩ := hpk
      have pz0 : 0 ≤ p1 := pz0
      have hc0 : wr.cell? ⟨g, off + k * 2, none⟩ = some (.int .i64 p1) := hc0
      have hc1 : wr.cell? ⟨g, off + k * 2 + 1, none⟩ = some (.int .i64 p2) := hc1
      have POK := Lib.hid pok
      have HN := Lib.hid hnext
      obtain ⟨on, hon⟩ : ∃ on, addF (f1, f2) (p1, p2) = on := ⟨_, rfl⟩
      have HF := Lib.hid hon
      have n1 : (0 : Int) ≤ k := by omega
      have n2 : (k : Int) < n := by omega
      have KS : Hid (∀ w' : World, Below wr.heap.size wr w' → (w'.cell? ⟨w1.heap.size, 0, none⟩ = some (.int .i64 f1) ∧ w'.cell? ⟨w1.heap.size, 1, none⟩ = some (.int .i64 f2) ∧ w'.cell? ⟨g, off + k * 2, none⟩ = some (.int .i64 p1) ∧ w'.cell? ⟨g, off + k * 2 + 1, none⟩ = some (.int .i64 p2))) := fun w' hb => ⟨(S.next hb).2.1, (S.next hb).2.2.1, (hb.cell (p := ⟨g, off + k * 2, none⟩) hg).trans hc0, (hb.cell (p := ⟨g, off + k * 2 + 1, none⟩) hg).trans hc1⟩
      obtain ⟨_, y2, y3, _, _⟩ := id S
      clear hfp hnext pok hon
      go_upto_region 5 with (fail)
      go_cut [6, 7] from 9 to 27 (fun s6 s7 w' => ∃ (P : Nat) (r1 r2 : Int) (bo : Bool), s6 = .pointer (some ⟨P, 0, none⟩) ∧ s7 = .bool bo ∧ Two w' P r1 r2 ∧ Hid (on = none ∧ bo = false ∨ on = some (r1, r2) ∧ bo = true) ∧ Below wr.heap.size wr w')
      case first =>
        cases on with
        | none =>
          go_region_held3 (fun w' => w'.cell? ⟨w1.heap.size, 0, none⟩ = some (.int .i64 f1) ∧ w'.cell? ⟨w1.heap.size, 1, none⟩ = some (.int .i64 f2) ∧ w'.cell? ⟨g, off + k * 2, none⟩ = some (.int .i64 p1) ∧ w'.cell? ⟨g, off + k * 2 + 1, none⟩ = some (.int .i64 p2))
            (first
              | exact KS.out _ (Below.refl _ _).drew
              | exact KS.out _ ((cB.setCell leP _).setCell leP _)
              | exact KS.out _ (cB.alloc cB.size _)
              | exact KS.out _ cB
              | exact KS.out _ ((Below.refl _ _).alloc (Nat.le_refl _) _).drew
              | go_keep)
            (first
              | (go_at_call 17; refine (implFA_none HF.out hf0 pz0 hfo.out POK.out).mono ?_; rintro e wB ⟨rfl, bB⟩; have cB : Below wr.heap.size wr wB := below2 (Below.refl _ _).drew bB)
              | (go_at_call 17; refine (implFA_none HF.out hf0 pz0 hfo.out POK.out).mono ?_; rintro e wB ⟨rfl, bB⟩; have cB : Below wr.heap.size wr wB := below2 ((Below.refl _ _).alloc (Nat.le_refl _) _) (below2 (Below.refl _ _).drew bB); have PB := (Two.new wr 0 0 31).next (below2 (Below.refl _ _).drew bB); have leP : wr.heap.size ≤ wr.heap.size := Nat.le_refl _; obtain ⟨_, pc0, pc1, pf0, pf1⟩ := PB; have PB := (Two.new wr 0 0 31).next (below2 (Below.refl _ _).drew bB)))
          all_goals
            go_wp2_with fail
            go_meet
            case rel =>
              first
                | exact ⟨_, 0, 0, false, rfl, rfl, PB.set 0 0, (by first | exact Or.inl ⟨rfl, rfl⟩ | exact Or.inl ⟨trivial, rfl⟩ | exact Or.inl ⟨trivial, trivial⟩), (cB.setCell leP _).setCell leP _⟩
                | exact ⟨_, 0, 0, false, rfl, rfl, Two.new wB 0 0 31, (by first | exact Or.inl ⟨rfl, rfl⟩ | exact Or.inl ⟨trivial, rfl⟩ | exact Or.inl ⟨trivial, trivial⟩), cB.alloc cB.size _⟩
        | some ff =>
          obtain ⟨q1, q2⟩ := ff
          go_region_held3 (fun w' => w'.cell? ⟨w1.heap.size, 0, none⟩ = some (.int .i64 f1) ∧ w'.cell? ⟨w1.heap.size, 1, none⟩ = some (.int .i64 f2) ∧ w'.cell? ⟨g, off + k * 2, none⟩ = some (.int .i64 p1) ∧ w'.cell? ⟨g, off + k * 2 + 1, none⟩ = some (.int .i64 p2))
            (first
              | exact KS.out _ (Below.refl _ _).drew
              | exact KS.out _ ((cB.setCell leP _).setCell leP _)
              | exact KS.out _ (cB.alloc cB.size _)
              | exact KS.out _ cB
              | exact KS.out _ ((Below.refl _ _).alloc (Nat.le_refl _) _).drew
              | go_keep)
            (first
              | (go_at_call 17; refine (implFA_some HF.out hf0 pz0 hfo.out POK.out).mono ?_; rintro e wB ⟨rfl, bB⟩; have cB : Below wr.heap.size wr wB := below2 (Below.refl _ _).drew bB)
              | (go_at_call 17; refine (implFA_some HF.out hf0 pz0 hfo.out POK.out).mono ?_; rintro e wB ⟨rfl, bB⟩; have cB : Below wr.heap.size wr wB := below2 ((Below.refl _ _).alloc (Nat.le_refl _) _) (below2 (Below.refl _ _).drew bB); have PB := (Two.new wr 0 0 31).next (below2 (Below.refl _ _).drew bB); have leP : wr.heap.size ≤ wr.heap.size := Nat.le_refl _; obtain ⟨_, pc0, pc1, pf0, pf1⟩ := PB; have PB := (Two.new wr 0 0 31).next (below2 (Below.refl _ _).drew bB)))
          all_goals
            go_wp2_with fail
            go_meet
            case rel =>
              first
                | exact ⟨_, q1, q2, true, rfl, rfl, PB.set q1 q2, (by first | exact Or.inr ⟨rfl, rfl⟩ | exact Or.inr ⟨trivial, rfl⟩ | exact Or.inr ⟨trivial, trivial⟩), (cB.setCell leP _).setCell leP _⟩
                | exact ⟨_, q1, q2, true, rfl, rfl, Two.new wB q1 q2 31, (by first | exact Or.inr ⟨rfl, rfl⟩ | exact Or.inr ⟨trivial, rfl⟩ | exact Or.inr ⟨trivial, trivial⟩), cB.alloc cB.size _⟩
      case rest =>
        obtain ⟨P2, r1, r2, bo, rfl, rfl, TY, hcases, cY⟩ := hcut
        replace S := S.next cY
        replace R := R.next cY
        replace B := below2 B cY
        clear cY KS hc0 hc1 y2 y3 n1 n2
        obtain ⟨wz, hwz⟩ : ∃ wz, wc = wz := ⟨_, rfl⟩
        rw [hwz] at TY S R B ⊢
        clear hwz
        rcases hcases.out with ⟨h1, rfl⟩ | ⟨h1, rfl⟩
        · have e : o = none := by rw [← HB.out]; exact addL_none (k := k + 1) (by rw [HL.out]; exact hlt) (HN.out.trans (HF.out.trans h1))
          subst e
          have hT := R.set 0 0
          have BU := (B.setCell (p := ⟨w.heap.size, 0, none⟩) (Nat.le_refl _) (.int .i64 0)).setCell (p := ⟨w.heap.size, 1, none⟩) (Nat.le_refl _) (.int .i64 0)
          obtain ⟨b1, b2, b3, b4, b5⟩ := R
          clear S B h1 hcases TY
          go_wp2_with fail
          (try simp only [Exit.inBlock, Exit.then])
          refine bodyPost_ret (results_frac Try.results8 _ _ rfl hT.2.1 hT.2.2.1) rfl ⟨rfl, BU⟩
        · have hfn : Hid (addT l (k + 1) = some (r1, r2)) := HN.out.trans (HF.out.trans h1)
          have hnum := addF_num (x := (f1, f2)) (y := (p1, p2)) hf0 pz0 hfo.out POK.out (HF.out.trans h1)
          have hno : Hid (okF (r1, r2) = true) := hnum.2
          have hn0 : 0 ≤ r1 := hnum.1
          have ST := S.set r1 r2
          have RT := R.keep (((Below.refl w1.heap.size wz).setCell (p := ⟨w1.heap.size, 0, none⟩) (Nat.le_refl _) (.int .i64 r1)).setCell (p := ⟨w1.heap.size, 1, none⟩) (Nat.le_refl _) (.int .i64 r2)) hR1
          have BT := (B.setCell (p := ⟨w1.heap.size, 0, none⟩) hsz (.int .i64 r1)).setCell (p := ⟨w1.heap.size, 1, none⟩) hsz (.int .i64 r2)
          obtain ⟨a1, a2, a3, a4, a5⟩ := S
          obtain ⟨_, z2, z3, _, _⟩ := TY
          clear R B hnum h1 hcases
          go_wp2_with fail
          go_roundw
          case rel => exact ⟨k + 1, r1, r2, by omega, by go_num, hfn, hn0, hno, ST, RT, BT⟩
          case measure => simp [intOf]; omega
    · obtain rfl : n = k := by omega
      have e : o = some (f1, f2) := by rw [← HB.out]; unfold addL; rw [HL.out]; exact hf.out
      subst e
      obtain ⟨a1, a2, a3, a4, a5⟩ := R
      obtain ⟨_, g2, g3, _, _⟩ := S
      have hT := Two.set (w := wr) ⟨a1, a2, a3, a4, a5⟩ f1 f2
      have BT := (B.setCell (p := ⟨w.heap.size, 0, none⟩) (Nat.le_refl _) (.int .i64 f1)).setCell (p := ⟨w.heap.size, 1, none⟩) (Nat.le_refl _) (.int .i64 f2)
      go_wp2_with fail
      (try simp only [Exit.inBlock, Exit.then])
      refine bodyPost_ret (results_frac Try.results8 _ _ rfl hT.2.1 hT.2.2.1) rfl ⟨rfl, BT⟩

end Go.Proofs.Ytdcmlmdoiekdfaa
