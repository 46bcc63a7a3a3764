/- The walk of FnRebin. -/
import Derived.Test.YtdcmlmdoiekdfaaReb4
import Derived.Test.YtdcmlmdoiekdfaaDrawRec
namespace Go.Proofs.Ytdcmlmdoiekdfaa
open Go.RowKit

/-- A record and other edges have been drawn out of a code. -/
def DrawnReb (w : World) (e : Ending) (w' : World) : Prop :=
  ∃ (a : Option Addr) (n c : Nat) (es : List Int) (a' : Option Addr) (n' c' : Nat) (am : List Int) (a'' : Option Addr) (m c'' : Nat) (os : List Int), n ≤ 8 ∧ n' ≤ 8 ∧ m ≤ 8 ∧ e = .returned (.tuple #[.slice a n c, .slice a' n' c', .slice a'' m c'']) ∧ IRow w' 0 a n c es ∧ IRow w' 0 a' n' c' am ∧ IRow w' 0 a'' m c'' os ∧ Below w.heap.size w w'

theorem drawRebin_any (a : Option Addr) (n c : Nat) (w : World) (h : BRow w w.heap.size a n) (hc : n ≤ c) (hn : n ≤ 9223372036854775807) :
    Calls Try.prog 4 #[.slice a n c] w (DrawnReb w) := by
  go_enter Try.func4, Try.ntmps4
  go_wp2_with fail
  refine (l6Open_any _ _ _ _ h hc hn).mono ?_
  rintro e w1 ⟨b, rfl, hb, r1, b1⟩
  have hbl : b < w1.heap.size := r1.1
  go_wp2_with fail
  refine (l91Record_any b 0 _ r1 (by omega)).mono ?_
  rintro e w2 ⟨a2, n2, c2, es, a3, n3, c3, am, hn2, hn3, rfl, i2, i3, r2, g2⟩
  have b2 := below_grown' b1 g2 hb
  have hbl2 : b < w2.heap.size := r2.1
  go_wp2_with fail
  refine (l91Record_any b 20 _ r2 (by omega)).mono ?_
  rintro e w3 ⟨a4, n4, c4, os, a5, n5, c5, _, hn4, hn5, rfl, i4, _, r3, g3⟩
  have b3 := below_grown' b2 g3 hb
  have i2 := (i2.grown g3 hbl).lower (Nat.zero_le _)
  have i3 := (i3.grown g3 hbl).lower (Nat.zero_le _)
  have i4 := i4.lower (Nat.zero_le _)
  go_wp2_with fail
  go_ret3
  exact ⟨a2, n2, c2, es, a3, n3, c3, am, a4, n4, c4, os, hn2, hn3, hn4, rfl, i2, i3, i4, b3⟩

theorem rebV_some {es am os : List Int} {l : List Fr} (h : rebV es am os = some l) : okR es am = true ∧ okE os = true ∧ reb es am os = some l := by
  unfold rebV at h
  split at h
  · next hh => exact ⟨hh.1, hh.2, h⟩
  · cases h
theorem betT_num {es am : List Int} {t b : Int} (h : okR es am = true) : ∀ k, k ≤ am.length → ∀ f, betT es am t b k = some f → 0 ≤ f.1 ∧ okF f = true
  | 0, _, f, e => by injection e with e; subst e; exact ⟨Int.le_refl _, by decide⟩
  | k + 1, hk, f, e => by
    rw [betT] at e
    obtain ⟨s, hs, e⟩ := Option.bind_eq_some_iff.1 e
    obtain ⟨s0, so⟩ := betT_num h k (by omega) s hs
    exact addF_num s0 (part_num0 h t b (by omega)) so (part_ok h t b (by omega)) e
theorem reb_num {es am os : List Int} {l : List Fr} (h : okR es am = true) (hl : reb es am os = some l) : ∀ k, k < l.length → 0 ≤ (nthF l k).1 ∧ okF (nthF l k) = true := by
  obtain ⟨h1, h2⟩ := rebT_at _ _ hl
  exact fun k hk => betT_num h _ (Nat.le_refl _) _ (h2 k (by omega))

set_option maxRecDepth 100000 in
set_option maxHeartbeats 4000000 in
theorem rebin_walk (a : Option Addr) (len c : Nat) (w : World) (h : BRow w w.heap.size a len) (hc : len ≤ c) (hn : len ≤ 9223372036854775807) :
    Calls Try.prog 3 #[.slice a len c] w fun e w' => e = .returned (.bool true) ∧ Below w.heap.size w w' := by
  by_cases hlen : 1048576 < len
  · go_enter Try.func3, Try.ntmps3
    go_wp2_with fail
    go_ret
    exact ⟨rfl, Below.refl _ _⟩
  go_enter Try.func3, Try.ntmps3
  go_wp2_with fail
  refine (drawRebin_any _ _ _ _ h hc hn).mono ?_
  rintro e w1 ⟨a1, n1, c1, es, a2, n2, c2, am, a3, m, c3, os, hn1, hn2, hm, rfl, q1, q2, q3, B⟩
  clear h hc hn
  cases ho : rebV es am os with
  | none =>
    have HO := Lib.hid ho
    clear ho
    go_wp2_with fail
    refine (implReb_is HO.out q1 q2 q3 (by omega) (by omega) (by omega)).mono ?_
    rintro e w2 ⟨a4, n4, c4, rfl, r4, _, b2⟩
    replace q1 := q1.keep b2
    replace q2 := q2.keep b2
    replace q3 := q3.keep b2
    replace B := below2 B b2
    clear b2
    simp only [Option.getD_none, Option.isSome_none] at r4 ⊢
    go_wp2_with fail
    refine (specReb_is HO.out q1 q2 q3 (by omega) (by omega) (by omega)).mono ?_
    rintro e w3 ⟨a5, n5, c5, rfl, r5, _, b3⟩
    replace r4 := r4.keep b3
    replace B := below2 B b3
    clear b3 q1 q2 q3
    simp only [Option.getD_none, Option.isSome_none] at r5 ⊢
    go_wp2_with fail
    refine (sameFr_is (by simp) r4 r5).mono ?_
    rintro e w4 ⟨rfl, b4⟩
    replace r4 := r4.keep b4
    replace r5 := r5.keep b4
    replace B := below2 B b4
    clear b4
    go_wp2_with fail
    refine (sameFr_is (by simp) r4 r5).mono ?_
    rintro e w5 ⟨rfl, b5⟩
    go_wp2_with fail
    go_ret
    exact ⟨rfl, below2 B b5⟩
  | some l =>
    obtain ⟨hk, he, hl⟩ := rebV_some ho
    have hm2 := (okE_bd he).1
    rw [q3.len] at hm2
    have hll := reb_len hl
    rw [q3.len] at hll
    have HO := Lib.hid ho
    have HK := Lib.hid hk
    have HE := Lib.hid he
    have HR := Lib.hid hl
    have HLL := Lib.hid hll
    have HLo : Hid (os.length = m) := q3.len
    have HNum := Lib.hid (reb_num hk hl)
    clear ho hk he hl hll
    go_wp2_with fail
    refine (implReb_is HO.out q1 q2 q3 (by omega) (by omega) (by omega)).mono ?_
    rintro e w2 ⟨a4, n4, c4, rfl, r4, _, b2⟩
    replace q1 := q1.keep b2
    replace q2 := q2.keep b2
    replace q3 := q3.keep b2
    replace B := below2 B b2
    clear b2
    simp only [Option.getD_some, Option.isSome_some] at r4 ⊢
    go_wp2_with fail
    refine (specReb_is HO.out q1 q2 q3 (by omega) (by omega) (by omega)).mono ?_
    rintro e w3 ⟨a5, n5, c5, rfl, r5, _, b3⟩
    replace q1 := q1.keep b3
    replace q2 := q2.keep b3
    replace q3 := q3.keep b3
    replace r4 := r4.keep b3
    replace B := below2 B b3
    clear b3
    simp only [Option.getD_some, Option.isSome_some] at r5 ⊢
    go_wp2_with fail
    refine (sameFr_is (by have := HLL.out; omega) r4 r5).mono ?_
    rintro e w4 ⟨rfl, b4⟩
    replace q1 := q1.keep b4
    replace q2 := q2.keep b4
    replace q3 := q3.keep b4
    replace r4 := r4.keep b4
    replace B := below2 B b4
    clear b4 r5
    have hn4 : n4 + 1 = m := by have := r4.len; have := HLL.out; omega
    obtain ⟨j, rfl⟩ : ∃ j, m = j + 2 := ⟨m - 2, by omega⟩
    obtain rfl : n4 = j + 1 := by omega
    obtain ⟨o2, ho2⟩ : ∃ o2, addL l = o2 := ⟨_, rfl⟩
    have HA := Lib.hid ho2
    clear ho2 hn4
    go_wp2_with fail
    refine (addFr_is r4 (by omega) HNum.out HA.out).mono ?_
    rintro e w5 ⟨rfl, b5⟩
    replace q1 := q1.keep b5
    replace q2 := q2.keep b5
    replace q3 := q3.keep b5
    replace B := below2 B b5
    clear b5 r4
    obtain ⟨g, off, rfl, _, hg, hc0⟩ := q3.at_ (show 0 < j + 2 by omega)
    rw [Nat.add_zero] at hc0
    have hc1 := q3.cellAt (show j + 1 < j + 2 by omega)
    have oj := okE_at HE.out (k := 0) (by rw [HLo.out]; omega)
    have oj1 := okE_at HE.out (k := j + 1) (by rw [HLo.out]; omega)
    have ole := okE_le HE.out (j + 1) (by rw [HLo.out]; omega)
    obtain ⟨t, ht⟩ : ∃ t, nth os 0 = t := ⟨_, rfl⟩
    obtain ⟨b, hb⟩ : ∃ b, nth os (j + 1) = b := ⟨_, rfl⟩
    rw [ht] at oj ole hc0
    rw [hb] at oj1 ole hc1
    have HS := Lib.hid (okSpan_mk oj.1 (by omega : t ≤ b) oj1.2)
    obtain ⟨on, hon⟩ : ∃ on, bet es am t b = on := ⟨_, rfl⟩
    have HF := Lib.hid hon
    have HLaw : Hid (∀ s x : Fr, o2 = some s → on = some x → s = x) := fun s x h1 h2 => by
      refine rebin_law HK.out HE.out HR.out (HA.out.trans h1) ?_
      rw [show os.length - 1 = j + 1 by rw [HLo.out]; omega, ht, hb]
      exact HF.out.trans h2
    have i1 : (0 : Int) < (j : Int) + 2 := by omega
    have i2 : (j : Int) + 1 < (j : Int) + 2 := by omega
    have i3 : (0 : Int) ≤ (j : Int) + 1 := by omega
    have i4 : 0 < j + 2 := by omega
    have s3 : IntKind.i64.wrap ((j : Int) + 2 - 1) = (j : Int) + 1 := by rw [IntWalk.i64_in _ (by omega)]; omega
    have s4 : ((j : Int) + 1).toNat = j + 1 := by omega
    have s5 : (j : Int) + 2 - 1 = (j : Int) + 1 := by omega
    have s6 : IntKind.i64.wrap ((j : Int) + 1) = (j : Int) + 1 := IntWalk.i64_in _ (by omega)
    clear ht hb hon
    obtain ⟨s1, s2, po, hs⟩ : ∃ (s1 s2 : Int) (po : Bool), frV o2 = .tuple #[.agg #[.int .i64 s1, .int .i64 s2], .bool po] ∧ (po = true → o2 = some (s1, s2)) := by
      cases o2 with
      | none => exact ⟨0, 0, false, rfl, fun h => by cases h⟩
      | some f => exact ⟨f.1, f.2, true, rfl, fun _ => rfl⟩
    rw [hs.1]
    have HSum := Lib.hid hs.2
    clear hs
    have bS : Below w5.heap.size w5 (w5.alloc (.cells #[.int .i64 s1, .int .i64 s2] 31)) := (Below.refl _ _).alloc (Nat.le_refl _) _
    have S := Two.new w5 s1 s2 31
    replace q1 := q1.keep bS
    replace q2 := q2.keep bS
    replace B := below2 B bS
    have hg : g < (w5.alloc (.cells #[.int .i64 s1, .int .i64 s2] 31)).heap.size := Nat.lt_of_lt_of_le hg bS.size
    replace hc0 := (bS.cell (p := ⟨g, off, none⟩) (by assumption)).trans hc0
    replace hc1 := (bS.cell (p := ⟨g, off + (j + 1), none⟩) (by assumption)).trans hc1
    clear q3
    go_upto_region 9 with (fail)
    obtain ⟨wr, hwr⟩ : ∃ wr, w5.alloc (.cells #[.int .i64 s1, .int .i64 s2] 31) = wr := ⟨_, rfl⟩
    rw [hwr] at q1 q2 B hg hc0 hc1 S ⊢
    clear hwr bS
    have KS : Hid (∀ w' : World, Below wr.heap.size wr w' → (w'.cell? ⟨g, off, none⟩ = some (.int .i64 t) ∧ w'.cell? ⟨g, off + (j + 1), none⟩ = some (.int .i64 b))) := fun w' hb => ⟨(hb.cell (p := ⟨g, off, none⟩) hg).trans hc0, (hb.cell (p := ⟨g, off + (j + 1), none⟩) hg).trans hc1⟩
    go_cut [12, 13] from 14 (fun s12 s13 w' => ∃ (P : Nat) (r1 r2 : Int) (bo : Bool), s12 = .pointer (some ⟨P, 0, none⟩) ∧ s13 = .bool bo ∧ Two w' P r1 r2 ∧ Hid (on = none ∧ bo = false ∨ on = some (r1, r2) ∧ bo = true) ∧ Below wr.heap.size wr w')
    case first =>
      cases on with
      | none =>
        go_region_held3 (fun w' => w'.cell? ⟨g, off, none⟩ = some (.int .i64 t) ∧ w'.cell? ⟨g, off + (j + 1), none⟩ = some (.int .i64 b))
          (first
            | exact KS.out _ (Below.refl _ _).drew
            | exact KS.out _ ((cB.setCell leP _).setCell leP _)
            | exact KS.out _ (cB.alloc cB.size _)
            | exact KS.out _ cB
            | exact KS.out _ ((Below.refl _ _).alloc (Nat.le_refl _) _).drew
            | go_keep)
          (first
            | (go_at_call 9; refine (implRB_none (q1.keep (Below.refl _ _).drew) (q2.keep (Below.refl _ _).drew) HK.out HS.out HF.out).mono ?_; rintro e wB ⟨rfl, bB⟩; have cB : Below wr.heap.size wr wB := below2 (Below.refl _ _).drew bB)
            | (go_at_call 9; refine (implRB_none (q1.keep ((Below.refl _ _).alloc (Nat.le_refl _) _).drew) (q2.keep ((Below.refl _ _).alloc (Nat.le_refl _) _).drew) HK.out HS.out HF.out).mono ?_; rintro e wB ⟨rfl, bB⟩; have cB : Below wr.heap.size wr wB := below2 ((Below.refl _ _).alloc (Nat.le_refl _) _) (below2 (Below.refl _ _).drew bB); have PB := (Two.new wr 0 0 31).next (below2 (Below.refl _ _).drew bB); have leP : wr.heap.size ≤ wr.heap.size := Nat.le_refl _; obtain ⟨_, pc0, pc1, pf0, pf1⟩ := PB; have PB := (Two.new wr 0 0 31).next (below2 (Below.refl _ _).drew bB)))
        all_goals
          go_wp2_with fail
          go_meet
          case rel =>
            first
              | exact ⟨_, 0, 0, false, rfl, rfl, PB.set 0 0, (by first | exact Or.inl ⟨rfl, rfl⟩ | exact Or.inl ⟨trivial, rfl⟩ | exact Or.inl ⟨trivial, trivial⟩), (cB.setCell leP _).setCell leP _⟩
              | exact ⟨_, 0, 0, false, rfl, rfl, Two.new wB 0 0 31, (by first | exact Or.inl ⟨rfl, rfl⟩ | exact Or.inl ⟨trivial, rfl⟩ | exact Or.inl ⟨trivial, trivial⟩), cB.alloc cB.size _⟩
      | some ff =>
        obtain ⟨p1, p2⟩ := ff
        go_region_held3 (fun w' => w'.cell? ⟨g, off, none⟩ = some (.int .i64 t) ∧ w'.cell? ⟨g, off + (j + 1), none⟩ = some (.int .i64 b))
          (first
            | exact KS.out _ (Below.refl _ _).drew
            | exact KS.out _ ((cB.setCell leP _).setCell leP _)
            | exact KS.out _ (cB.alloc cB.size _)
            | exact KS.out _ cB
            | exact KS.out _ ((Below.refl _ _).alloc (Nat.le_refl _) _).drew
            | go_keep)
          (first
            | (go_at_call 9; refine (implRB_some (q1.keep (Below.refl _ _).drew) (q2.keep (Below.refl _ _).drew) HK.out HS.out HF.out).mono ?_; rintro e wB ⟨rfl, bB⟩; have cB : Below wr.heap.size wr wB := below2 (Below.refl _ _).drew bB)
            | (go_at_call 9; refine (implRB_some (q1.keep ((Below.refl _ _).alloc (Nat.le_refl _) _).drew) (q2.keep ((Below.refl _ _).alloc (Nat.le_refl _) _).drew) HK.out HS.out HF.out).mono ?_; rintro e wB ⟨rfl, bB⟩; have cB : Below wr.heap.size wr wB := below2 ((Below.refl _ _).alloc (Nat.le_refl _) _) (below2 (Below.refl _ _).drew bB); have PB := (Two.new wr 0 0 31).next (below2 (Below.refl _ _).drew bB); have leP : wr.heap.size ≤ wr.heap.size := Nat.le_refl _; obtain ⟨_, pc0, pc1, pf0, pf1⟩ := PB; have PB := (Two.new wr 0 0 31).next (below2 (Below.refl _ _).drew bB)))
        all_goals
          go_wp2_with fail
          go_meet
          case rel =>
            first
              | exact ⟨_, p1, p2, true, rfl, rfl, PB.set p1 p2, (by first | exact Or.inr ⟨rfl, rfl⟩ | exact Or.inr ⟨trivial, rfl⟩ | exact Or.inr ⟨trivial, trivial⟩), (cB.setCell leP _).setCell leP _⟩
              | exact ⟨_, p1, p2, true, rfl, rfl, Two.new wB p1 p2 31, (by first | exact Or.inr ⟨rfl, rfl⟩ | exact Or.inr ⟨trivial, rfl⟩ | exact Or.inr ⟨trivial, trivial⟩), cB.alloc cB.size _⟩
    case rest =>
      obtain ⟨P, r1, r2, bo, rfl, rfl, TY, hcases, cY⟩ := hcut
      replace S := S.next cY
      replace B := below2 B cY
      have key : Hid (po = true → bo = true → s1 = r1 ∧ s2 = r2) := fun h1 h2 => by
        rcases hcases.out with ⟨_, h3⟩ | ⟨h3, _⟩
        · rw [h2] at h3; cases h3
        · have := HLaw.out _ _ (HSum.out h1) h3
          injection this with e1 e2
          exact ⟨e1, e2⟩
      obtain ⟨_, z2, z3, _, _⟩ := TY
      obtain ⟨_, y2, y3, _, _⟩ := S
      clear KS hc0 hc1 cY hcases q1 q2
      have d1 : ((j : Int) + 1 == (j : Int) + 2 - 1) = true := beq_iff_eq.2 (by omega)
      cases po with
      | false =>
        go_wp2_with fail
        go_ret
        exact ⟨rfl, B⟩
      | true =>
        cases bo with
        | false =>
          go_wp2_with fail
          go_ret
          exact ⟨rfl, B⟩
        | true =>
          obtain ⟨rfl, rfl⟩ := key.out rfl rfl
          go_wp2_with fail
          go_ret
          exact ⟨rfl, B⟩

end Go.Proofs.Ytdcmlmdoiekdfaa
