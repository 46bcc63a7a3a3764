/- The laws of merged layers. -/
import Derived.Test.YtgfdplkgcnciiaaDrawMrg
import Derived.Test.YtgfdplkgcnciiaaLay3
import Derived.Test.YtgfdplkgcnciiaaMrgLaw1
namespace Go.Proofs.Ytgfdplkgcnciiaa
open Go.RowKit

/-- One deeper, and none of them sure. -/
def dnL (l : List Lay) : List Lay := l.map fun x => (x.1 + 1, false)
theorem mrgV_len' {l l' : List Lay} : (mrgV l l').length ≤ 1048576 := by have := mrgV_len (l := l) (l' := l'); omega
theorem one_row (w : World) (d : Int) (s : Bool) : LRow (w.alloc (.cells #[.int .i64 d, .bool s] 32)) w.heap.size (some ⟨w.heap.size, 0, none⟩) 1 1 [(d, s)] := by
  refine ⟨rfl, Nat.le_refl _, fun _ => ⟨w.heap.size, 0, rfl, Nat.le_refl _, by simp, fun j hj => ?_⟩⟩
  obtain rfl : j = 0 := by omega
  constructor
  · simp [go_sem]; rfl
  · simp [go_sem]; rfl

set_option maxRecDepth 100000 in
set_option maxHeartbeats 2000000 in
theorem mergeLayersThree_walk (a : Option Addr) (len c : Nat) (w : World) (h : BRow w w.heap.size a len) (hc : len ≤ c) (hn : len ≤ 9223372036854775807) :
    Calls Try.prog 5 #[.slice a len c] w fun e w' => e = .returned (.bool true) ∧ Below w.heap.size w w' := by
  by_cases hlen : 1048576 < len
  · go_enter Try.func5, Try.ntmps5
    go_wp2_with fail
    go_ret
    exact ⟨rfl, Below.refl _ _⟩
  go_enter Try.func5, Try.ntmps5
  go_wp2_with fail
  refine (drawMerge_any _ _ _ _ h hc hn).mono ?_
  rintro e w1 ⟨a1, n1, c1, l1, a2, n2, c2, l2, hn1, hn2, hd1, rfl, r1, r2, B⟩
  have L1 : Hid (l1.length ≤ 1048576) := by show _ ≤ _; rw [r1.len]; omega
  have L2 : Hid (l2.length ≤ 1048576) := by show _ ≤ _; rw [r2.len]; omega
  clear h hc hn
  cases ho : mrgOk l1 l2 with
  | false =>
    have HO := Lib.hid ho
    have HM := Lib.hid (mrgV_no ho)
    clear ho
    go_wp2_with fail
    refine (implMerge_is HO.out HM.out L1.out L2.out r1 r2).mono ?_
    rintro e w2 ⟨a3, n3, c3, rfl, r3, _, b2⟩
    replace r1 := r1.keep b2
    replace r2 := r2.keep b2
    replace B := below2 B b2
    clear b2
    go_wp2_with fail
    refine (specMerge_is HO.out HM.out L1.out L2.out r1 r2).mono ?_
    rintro e w3 ⟨a4, n4, c4, rfl, r4, _, b3⟩
    replace r1 := r1.keep b3
    replace r2 := r2.keep b3
    replace r3 := r3.keep b3
    replace B := below2 B b3
    clear b3
    clear r1 r2
    go_wp2_with fail
    refine (sameLays_is nil_len r3 r4).mono ?_
    rintro e w4 ⟨rfl, b4⟩
    replace r3 := r3.keep b4
    replace r4 := r4.keep b4
    replace B := below2 B b4
    clear b4
    go_wp2_with fail
    refine (sameLays_is nil_len r3 r4).mono ?_
    rintro e w5 ⟨rfl, b5⟩
    replace r3 := r3.keep b5
    replace r4 := r4.keep b5
    replace B := below2 B b5
    clear b5
    go_wp2_with fail
    go_ret
    exact ⟨rfl, B⟩
  | true =>
    have HO := Lib.hid ho
    obtain ⟨ok1, ok2, okM, vM⟩ := mrg_good ho

    obtain ⟨M, hM⟩ : ∃ M, mrg l1 l2 = M := ⟨_, rfl⟩
    rw [hM] at okM vM
    have LM := Lib.hid (okL_len' okM)
    have O1 := Lib.hid ok1
    have O2 := Lib.hid ok2
    have OM := Lib.hid okM
    have VM := Lib.hid vM
    have EM := Lib.hid hM
    clear ho ok1 ok2 okM vM hM
    have HD := Lib.hid hd1
    clear hd1
    go_wp2_with fail
    refine (implMerge_is HO.out VM.out L1.out L2.out r1 r2).mono ?_
    rintro e w2 ⟨a3, n3, c3, rfl, r3, _, b2⟩
    replace r1 := r1.keep b2
    replace r2 := r2.keep b2
    replace B := below2 B b2
    clear b2
    go_wp2_with fail
    refine (specMerge_is HO.out VM.out L1.out L2.out r1 r2).mono ?_
    rintro e w3 ⟨a4, n4, c4, rfl, r4, _, b3⟩
    replace r1 := r1.keep b3
    replace r2 := r2.keep b3
    replace r3 := r3.keep b3
    replace B := below2 B b3
    clear b3
    go_wp2_with fail
    refine (sameLays_is LM.out r3 r4).mono ?_
    rintro e w4 ⟨rfl, b4⟩
    replace r1 := r1.keep b4
    replace r2 := r2.keep b4
    replace r3 := r3.keep b4
    replace r4 := r4.keep b4
    replace B := below2 B b4
    clear b4
    clear r4
    have g0 : (w4.alloc (.cells #[] 32)).ownsRow w4.heap.size 32 2 (.slice (some ⟨w4.heap.size, 0, none⟩) 0 0) 0 (flat (dnL (l1.take 0))) := World.ownsRow_lit w4 _ 0 (Nat.le_refl _) (by unfold maxLen; omega) rfl
    go_wp2_with fail
    go_loopw [9, 10] (fun v i wr => ∃ k : Nat, k ≤ n1 ∧ i = .int .i64 k ∧ wr.ownsRow w4.heap.size 32 2 v k (flat (dnL (l1.take k))) ∧ Below w4.heap.size w4 wr) (fun _ i _ => n1 - (intOf i).toNat)
    case atStart => exact ⟨0, Nat.zero_le _, rfl, g0, (Below.refl _ _).alloc (Nat.le_refl _) _⟩
    case round =>
      clear g0
      obtain ⟨k, hk, rfl, hown, hb⟩ := hrel
      by_cases hlt : k < n1
      · obtain ⟨g, off, rfl, _, hg, hcc, hdd⟩ := (r1.keep hb).at_ hlt
        have hdz := HD.out k
        obtain ⟨dz, hd⟩ : ∃ dz, dep l1 k = dz := ⟨_, rfl⟩
        have HV : Hid (dnL (l1.take (k + 1)) = dnL (l1.take k) ++ [(dz + 1, false)]) := by
          show _ = _
          rw [List.take_add_one, lay_getElem (by rw [r1.len]; exact hlt)]; simp [dnL, hd]
        rw [hd] at hcc hdz
        clear hd hdd
        go_wp2_with (at_builtin; refine wpList_append_lay _ rfl _ _ rfl w4.heap.size _ _ _ rfl (dz + 1) false wr.heap.size rfl (hown.alloc _) (by simp) (by simp) (by omega) (by have := hb.size; simp; omega) ?_; intro v' w5 hown4 hgrow4)
        rw [← HV.out] at hown4
        go_roundw
        case rel => exact ⟨k + 1, by omega, by go_num, hown4, below_append hb hb.size hown hgrow4⟩
        case measure => simp [intOf]; omega
      · obtain rfl : n1 = k := by omega
        obtain ⟨a5, c5, rfl, r5, _⟩ := LRow.of_own hown
        rw [List.take_of_length_le (by rw [r1.len]; exact Nat.le_refl _)] at r5
        replace r1 := r1.keep hb
        replace r2 := r2.keep hb
        replace r3 := r3.keep hb
        replace B := below2 B hb
        clear hb hown hlt hk
        obtain ⟨C, hC⟩ : ∃ C, dnL l1 = C := ⟨_, rfl⟩
        rw [hC] at r5
        have LC : Hid (C.length ≤ 1048576) := by show _ ≤ _; rw [← hC]; unfold dnL; rw [List.length_map]; exact L1.out
        clear hC
        obtain ⟨p, hp⟩ : ∃ p, mrgOk M C = p := ⟨_, rfl⟩
        obtain ⟨q, hq⟩ : ∃ q, mrgOk l2 C = q := ⟨_, rfl⟩
        obtain ⟨x, hx⟩ : ∃ x, mrgV M C = x := ⟨_, rfl⟩
        obtain ⟨y, hy⟩ : ∃ y, mrgV l2 C = y := ⟨_, rfl⟩
        obtain ⟨r, hr⟩ : ∃ r, mrgOk l1 y = r := ⟨_, rfl⟩
        obtain ⟨z, hz⟩ : ∃ z, mrgV l1 y = z := ⟨_, rfl⟩
        have LX : Hid (x.length ≤ 1048576) := by show _ ≤ _; rw [← hx]; exact mrgV_len'
        have LY : Hid (y.length ≤ 1048576) := by show _ ≤ _; rw [← hy]; exact mrgV_len'
        have key : Hid (p = true → q = true → r = true ∧ z = x) := fun hp1 hq1 => by
          have h1 : mrgOk (mrg l1 l2) C = true := by rw [EM.out, hp, hp1]
          have h2 : mrgOk l2 C = true := by rw [hq, hq1]
          obtain ⟨k1, k2⟩ := good_three HO.out h1 h2
          have e : mrg l2 C = y := by rw [← mrgV_ok h2, hy]
          rw [e] at k1 k2
          exact ⟨by rw [← hr, k1], by rw [← hz, k2, ← hx, mrgV_ok (by rw [hp, hp1]), EM.out]⟩
        have P := Lib.hid hp
        have Q := Lib.hid hq
        have X := Lib.hid hx
        have Y := Lib.hid hy
        clear hp hq hx hy
        cases p with
        | false =>
          have Z := Lib.hid hr
          have V := Lib.hid hz
          clear hr hz
          go_wp2_with fail
          refine (implMerge_is P.out X.out LM.out LC.out r3 r5).mono ?_
          rintro e w5 ⟨a6, n6, c6, rfl, r6, _, b5⟩
          replace r1 := r1.keep b5
          replace r2 := r2.keep b5
          replace r3 := r3.keep b5
          replace r5 := r5.keep b5
          replace B := below2 B b5
          clear b5
          go_wp2_with fail
          refine (implMerge_is Q.out Y.out L2.out LC.out r2 r5).mono ?_
          rintro e w6 ⟨a7, n7, c7, rfl, r7, _, b6⟩
          replace r1 := r1.keep b6
          replace r2 := r2.keep b6
          replace r3 := r3.keep b6
          replace r5 := r5.keep b6
          replace r6 := r6.keep b6
          replace B := below2 B b6
          clear b6
          go_wp2_with fail
          refine (implMerge_is Z.out V.out L1.out LY.out r1 r7).mono ?_
          rintro e w7 ⟨a8, n8, c8, rfl, r8, _, b7⟩
          replace r1 := r1.keep b7
          replace r2 := r2.keep b7
          replace r3 := r3.keep b7
          replace r5 := r5.keep b7
          replace r6 := r6.keep b7
          replace r7 := r7.keep b7
          replace B := below2 B b7
          clear b7
          go_wp2_with fail
          go_ret
          exact ⟨rfl, B⟩
        | true =>
          cases q with
          | false =>
            have Z := Lib.hid hr
            have V := Lib.hid hz
            clear hr hz
            go_wp2_with fail
            refine (implMerge_is P.out X.out LM.out LC.out r3 r5).mono ?_
            rintro e w5 ⟨a6, n6, c6, rfl, r6, _, b5⟩
            replace r1 := r1.keep b5
            replace r2 := r2.keep b5
            replace r3 := r3.keep b5
            replace r5 := r5.keep b5
            replace B := below2 B b5
            clear b5
            go_wp2_with fail
            refine (implMerge_is Q.out Y.out L2.out LC.out r2 r5).mono ?_
            rintro e w6 ⟨a7, n7, c7, rfl, r7, _, b6⟩
            replace r1 := r1.keep b6
            replace r2 := r2.keep b6
            replace r3 := r3.keep b6
            replace r5 := r5.keep b6
            replace r6 := r6.keep b6
            replace B := below2 B b6
            clear b6
            go_wp2_with fail
            refine (implMerge_is Z.out V.out L1.out LY.out r1 r7).mono ?_
            rintro e w7 ⟨a8, n8, c8, rfl, r8, _, b7⟩
            replace r1 := r1.keep b7
            replace r2 := r2.keep b7
            replace r3 := r3.keep b7
            replace r5 := r5.keep b7
            replace r6 := r6.keep b7
            replace r7 := r7.keep b7
            replace B := below2 B b7
            clear b7
            go_wp2_with fail
            go_ret
            exact ⟨rfl, B⟩
          | true =>
            obtain ⟨k1, k2⟩ := key.out rfl rfl
            rw [k1] at hr
            rw [k2] at hz
            have Z := Lib.hid hr
            have V := Lib.hid hz
            clear hr hz k1 k2 key
            go_wp2_with fail
            refine (implMerge_is P.out X.out LM.out LC.out r3 r5).mono ?_
            rintro e w5 ⟨a6, n6, c6, rfl, r6, _, b5⟩
            replace r1 := r1.keep b5
            replace r2 := r2.keep b5
            replace r3 := r3.keep b5
            replace r5 := r5.keep b5
            replace B := below2 B b5
            clear b5
            go_wp2_with fail
            refine (implMerge_is Q.out Y.out L2.out LC.out r2 r5).mono ?_
            rintro e w6 ⟨a7, n7, c7, rfl, r7, _, b6⟩
            replace r1 := r1.keep b6
            replace r2 := r2.keep b6
            replace r3 := r3.keep b6
            replace r5 := r5.keep b6
            replace r6 := r6.keep b6
            replace B := below2 B b6
            clear b6
            go_wp2_with fail
            refine (implMerge_is Z.out V.out L1.out LY.out r1 r7).mono ?_
            rintro e w7 ⟨a8, n8, c8, rfl, r8, _, b7⟩
            replace r1 := r1.keep b7
            replace r2 := r2.keep b7
            replace r3 := r3.keep b7
            replace r5 := r5.keep b7
            replace r6 := r6.keep b7
            replace r7 := r7.keep b7
            replace B := below2 B b7
            clear b7
            go_wp2_with fail
            refine (sameLays_is LX.out r6 r8).mono ?_
            rintro e w8 ⟨rfl, b8⟩
            replace r1 := r1.keep b8
            replace r2 := r2.keep b8
            replace r3 := r3.keep b8
            replace r5 := r5.keep b8
            replace r6 := r6.keep b8
            replace r7 := r7.keep b8
            replace r8 := r8.keep b8
            replace B := below2 B b8
            clear b8
            go_wp2_with fail
            go_ret
            exact ⟨rfl, B⟩

set_option maxRecDepth 100000 in
set_option maxHeartbeats 2000000 in
theorem ageMerge_walk (a : Option Addr) (len c : Nat) (a0 : Option Addr) (len0 c0 : Nat) (w : World) (h : BRow w w.heap.size a len) (hc : len ≤ c) (hn : len ≤ 9223372036854775807) (hn0 : len0 ≤ 9223372036854775807) :
    Calls Try.prog 8 #[.slice a len c, .slice a0 len0 c0] w fun e w' => e = .returned (.bool true) ∧ Below w.heap.size w w' := by
  by_cases hlen : 1048576 < len
  · go_enter Try.func8, Try.ntmps8
    go_wp2_with fail
    go_ret
    exact ⟨rfl, Below.refl _ _⟩
  by_cases hlen0 : 1048576 < len0
  · go_enter Try.func8, Try.ntmps8
    go_wp2_with fail
    go_ret
    exact ⟨rfl, Below.refl _ _⟩
  go_enter Try.func8, Try.ntmps8
  go_wp2_with fail
  refine (drawAge_any _ _ _ _ h hc hn).mono ?_
  rintro e w1 ⟨a1, n, c1, l, t, b, hn1, hd, ht1, ht2, hb1, hb2, rfl, r1, f1, B⟩
  have L1 : Hid (l.length ≤ 1048576) := by show _ ≤ _; rw [r1.len]; omega
  clear h hc hn hd f1
  by_cases hno : okL l = true ∧ okSpan 0 b = true ∧ -400000 ≤ t ∧ t ≤ 400000
  · obtain ⟨ho, hs, y1, y2⟩ := hno
    have HO := Lib.hid ho
    clear ho
    go_wp2_with fail
    refine (implAge_ok _ _ _ _ _ t b _ r1 HO.out hs y1 y2).mono ?_
    rintro e w2 ⟨rfl, b2⟩
    replace r1 := r1.keep b2
    replace B := below2 B b2
    go_wp2_with fail
    refine (specAge_ok _ _ _ _ _ t b _ r1 HO.out hs y1 y2).mono ?_
    rintro e w3 ⟨rfl, b3⟩
    replace r1 := r1.keep b3
    replace B := below2 B b3
    clear b2 b3
    have bd := c_bd HO.out 0 b
    obtain ⟨m, hm⟩ : ∃ m : Int, (len0 : Int) % 130 = m := ⟨_, rfl⟩
    have bA : Below w3.heap.size w3 (w3.alloc (.cells #[.int .i64 m, .bool true] 32)) := (Below.refl _ _).alloc (Nat.le_refl _) _
    have r4 := one_row w3 m true
    have L4 : Hid ([((m : Int), true)].length ≤ 1048576) := by show _ ≤ _; simp
    replace r1 := r1.keep bA
    obtain ⟨p, hp⟩ : ∃ p, mrgOk l [(m, true)] = p := ⟨_, rfl⟩
    obtain ⟨x, hx⟩ : ∃ x, mrgV l [(m, true)] = x := ⟨_, rfl⟩
    have OX : Hid (okL x = true) := by
      show _ = _
      rw [← hx]
      cases p with
      | true => rw [mrgV_ok hp]; exact (mrgOk_iff.1 hp).2.2
      | false => rw [mrgV_no hp]; decide
    have key : Hid (p = true → (cSure l 0 b ≤ cSure x 0 b ∧ cSure x 0 b ≤ cSure l 0 b + 1) ∧ cAll l 0 b ≤ cAll x 0 b ∧ cAll x 0 b ≤ cAll l 0 b + 1) := fun hp1 => by
      rw [← hx, mrgV_ok (hp.trans hp1)]
      have k1 := mrg_cAll l [(m, true)] 0 b
      have k2 := mrg_cSure l [(m, true)] 0 b
      have k3 := cAll_bd [(m, true)] 0 b
      have k4 := cSure_bd [(m, true)] 0 b
      simp only [List.length_cons, List.length_nil] at k3
      omega
    have bx := c_bd OX.out 0 b
    have P := Lib.hid hp
    have X := Lib.hid hx
    clear hp hx
    go_wp2_with fail
    refine (implMerge_is P.out X.out L1.out L4.out r1 r4).mono ?_
    rintro e w4 ⟨a5, n5, c5, rfl, r5, _, b4⟩
    replace B := below2 (below2 B bA) b4
    clear b4 bA r1 r4
    go_wp2_with fail
    refine (implAge_ok _ _ _ _ _ t b _ r5 OX.out hs y1 y2).mono ?_
    rintro e w5 ⟨rfl, b5⟩
    replace B := below2 B b5
    cases p with
    | false =>
      go_wp2_with fail
      go_ret
      exact ⟨rfl, B⟩
    | true =>
      have k := key.out rfl
      generalize cAll l 0 b = A1 at bd k ⊢
      generalize cSure l 0 b = S1 at bd k ⊢
      generalize cAll x 0 b = A2 at bx k ⊢
      generalize cSure x 0 b = S2 at bx k ⊢
      go_wp2_with fail
      all_goals
        go_ret
        first | exact ⟨rfl, B⟩ | exact ⟨ret_bool (decide_eq_true (by omega)), B⟩
  · have HO := Lib.hid hno
    clear hno
    go_wp2_with fail
    refine (implAge_no _ _ _ _ _ t b _ r1 (by omega) HO.out).mono ?_
    rintro e w2 ⟨rfl, b2⟩
    go_wp2_with fail
    refine (specAge_no _ _ _ _ _ t b _ (r1.keep b2) (by omega) HO.out).mono ?_
    rintro e w3 ⟨rfl, b3⟩
    go_wp2_with fail
    go_ret
    exact ⟨rfl, below2 (below2 B b2) b3⟩

end Go.Proofs.Ytgfdplkgcnciiaa
