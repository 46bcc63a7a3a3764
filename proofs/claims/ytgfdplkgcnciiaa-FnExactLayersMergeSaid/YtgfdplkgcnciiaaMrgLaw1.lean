/- The laws of merged layers. -/
import Derived.Test.YtgfdplkgcnciiaaDrawMrg
import Derived.Test.YtgfdplkgcnciiaaLay3
namespace Go.Proofs.Ytgfdplkgcnciiaa
open Go.RowKit

theorem implMerge_is {a : Option Addr} {n c lo : Nat} {l : List Lay} {b : Option Addr} {m d lo' : Nat} {l' : List Lay} {w : World} {r : Bool} {M : List Lay} (hr : mrgOk l l' = r) (hM : mrgV l l' = M) (hl : l.length ≤ 1048576) (hl' : l'.length ≤ 1048576) (h : LRow w lo a n c l) (h' : LRow w lo' b m d l') :
    Calls Try.prog 10 #[.slice a n c, .slice b m d] w (RetLaysB M r w) := by
  subst hr hM; exact implMerge_any _ _ _ _ _ _ _ _ _ _ _ h h' (by rw [← h.len]; exact hl) (by rw [← h'.len]; exact hl')
theorem specMerge_is {a : Option Addr} {n c lo : Nat} {l : List Lay} {b : Option Addr} {m d lo' : Nat} {l' : List Lay} {w : World} {r : Bool} {M : List Lay} (hr : mrgOk l l' = r) (hM : mrgV l l' = M) (hl : l.length ≤ 1048576) (hl' : l'.length ≤ 1048576) (h : LRow w lo a n c l) (h' : LRow w lo' b m d l') :
    Calls Try.prog 11 #[.slice a n c, .slice b m d] w (RetLaysB M r w) := by
  subst hr hM; exact specMerge_any _ _ _ _ _ _ _ _ _ _ _ h h' (by rw [← h.len]; exact hl) (by rw [← h'.len]; exact hl')
theorem sameLays_is {a a' : Option Addr} {n n' c c' lo lo' : Nat} {l : List Lay} {w : World} (hl : l.length ≤ 1048576) (h : LRow w lo a n c l) (h' : LRow w lo' a' n' c' l) :
    Calls Try.prog 12 #[.slice a n c, .slice a' n' c'] w fun e w' => e = .returned (.bool true) ∧ Below w.heap.size w w' := by
  obtain rfl : n = n' := h.len.symm.trans h'.len
  exact sameLays_yes _ _ _ _ _ _ _ _ _ h h' (by rw [← h.len]; exact hl)
theorem nil_len : ([] : List Lay).length ≤ 1048576 := by simp
theorem okL_len' {l : List Lay} (h : okL l = true) : l.length ≤ 1048576 := by have := okL_len h; omega
/-- What holds of two lists whose merge is good. -/
theorem mrg_good {l l' : List Lay} (h : mrgOk l l' = true) : okL l = true ∧ okL l' = true ∧ okL (mrg l l') = true ∧ mrgV l l' = mrg l l' := by
  have := mrgOk_iff.1 h; exact ⟨this.1, this.2.1, this.2.2, mrgV_ok h⟩
theorem mrgOk_of {l l' m : List Lay} (h1 : okL l = true) (h2 : okL l' = true) (e : mrg l l' = m) (h3 : okL m = true) : mrgOk l l' = true ∧ mrgV l l' = m := by
  have h : mrgOk l l' = true := mrgOk_iff.2 ⟨h1, h2, by rw [e]; exact h3⟩
  exact ⟨h, by rw [mrgV_ok h, e]⟩
theorem good_comm {l l' : List Lay} (h : mrgOk l l' = true) : mrgOk l' l = true ∧ mrgV l' l = mrg l l' := by
  obtain ⟨h1, h2, h3, _⟩ := mrg_good h
  exact mrgOk_of h2 h1 (mrg_comm (okL_rise h1) (okL_rise h2)) h3
theorem good_self {l : List Lay} (h : okL l = true) : mrgOk l l = true ∧ mrgV l l = l := mrgOk_of h h (mrg_idem (okL_rise h)) h
theorem good_again {l l' : List Lay} (h : mrgOk l l' = true) : (mrgOk (mrg l l') l = true ∧ mrgV (mrg l l') l = mrg l l') ∧ (mrgOk l' (mrg l l') = true ∧ mrgV l' (mrg l l') = mrg l l') := by
  obtain ⟨h1, h2, h3, _⟩ := mrg_good h
  exact ⟨mrgOk_of h3 h1 (mrg_again_left (okL_rise h1) (okL_rise h2)) h3, mrgOk_of h2 h3 (mrg_again_right (okL_rise h1) (okL_rise h2)) h3⟩
theorem good_three {l l' k : List Lay} (h : mrgOk l l' = true) (h1 : mrgOk (mrg l l') k = true) (h2 : mrgOk l' k = true) : mrgOk l (mrg l' k) = true ∧ mrgV l (mrg l' k) = mrg (mrg l l') k := by
  obtain ⟨a1, a2, a3, _⟩ := mrg_good h
  obtain ⟨_, b2, b3, _⟩ := mrg_good h1
  obtain ⟨_, _, c3, _⟩ := mrg_good h2
  exact mrgOk_of a1 c3 (mrg_assoc (okL_rise a1) (okL_rise a2) (okL_rise b2)).symm b3

set_option maxRecDepth 100000 in
set_option maxHeartbeats 2000000 in
theorem mergeLayers_walk (a : Option Addr) (len c : Nat) (w : World) (h : BRow w w.heap.size a len) (hc : len ≤ c) (hn : len ≤ 9223372036854775807) :
    Calls Try.prog 3 #[.slice a len c] w fun e w' => e = .returned (.bool true) ∧ Below w.heap.size w w' := by
  by_cases hlen : 1048576 < len
  · go_enter Try.func3, Try.ntmps3
    go_wp2_with fail
    go_ret
    exact ⟨rfl, Below.refl _ _⟩
  go_enter Try.func3, Try.ntmps3
  go_wp2_with fail
  refine (drawMerge_any _ _ _ _ h hc hn).mono ?_
  rintro e w1 ⟨a1, n1, c1, l1, a2, n2, c2, l2, hn1, hn2, hd1, rfl, r1, r2, B⟩
  have L1 : Hid (l1.length ≤ 1048576) := by show _ ≤ _; rw [r1.len]; omega
  have L2 : Hid (l2.length ≤ 1048576) := by show _ ≤ _; rw [r2.len]; omega
  clear h hc hn
  cases ho : mrgOk l1 l2 with
  | false =>
    have HO := Lib.hid ho
    have HM := Lib.hid (mrgV_no ho)
    clear ho
    go_wp2_with fail
    refine (implMerge_is HO.out HM.out L1.out L2.out r1 r2).mono ?_
    rintro e w2 ⟨a3, n3, c3, rfl, r3, _, b2⟩
    replace r1 := r1.keep b2
    replace r2 := r2.keep b2
    replace B := below2 B b2
    clear b2
    go_wp2_with fail
    refine (specMerge_is HO.out HM.out L1.out L2.out r1 r2).mono ?_
    rintro e w3 ⟨a4, n4, c4, rfl, r4, _, b3⟩
    replace r1 := r1.keep b3
    replace r2 := r2.keep b3
    replace r3 := r3.keep b3
    replace B := below2 B b3
    clear b3
    clear r1 r2
    go_wp2_with fail
    refine (sameLays_is nil_len r3 r4).mono ?_
    rintro e w4 ⟨rfl, b4⟩
    replace r3 := r3.keep b4
    replace r4 := r4.keep b4
    replace B := below2 B b4
    clear b4
    go_wp2_with fail
    refine (sameLays_is nil_len r3 r4).mono ?_
    rintro e w5 ⟨rfl, b5⟩
    replace r3 := r3.keep b5
    replace r4 := r4.keep b5
    replace B := below2 B b5
    clear b5
    go_wp2_with fail
    go_ret
    exact ⟨rfl, B⟩
  | true =>
    have HO := Lib.hid ho
    obtain ⟨ok1, ok2, okM, vM⟩ := mrg_good ho
    obtain ⟨p1, v1⟩ := good_comm ho
    obtain ⟨p2, v2⟩ := good_self ok1
    obtain ⟨M, hM⟩ : ∃ M, mrg l1 l2 = M := ⟨_, rfl⟩
    rw [hM] at okM vM v1
    have LM := Lib.hid (okL_len' okM)
    have O1 := Lib.hid ok1
    have O2 := Lib.hid ok2
    have OM := Lib.hid okM
    have VM := Lib.hid vM
    have EM := Lib.hid hM
    clear ho ok1 ok2 okM vM hM
    have P1 := Lib.hid p1
    have V1 := Lib.hid v1
    have P2 := Lib.hid p2
    have V2 := Lib.hid v2
    clear p1 v1 p2 v2
    go_wp2_with fail
    refine (implMerge_is HO.out VM.out L1.out L2.out r1 r2).mono ?_
    rintro e w2 ⟨a3, n3, c3, rfl, r3, _, b2⟩
    replace r1 := r1.keep b2
    replace r2 := r2.keep b2
    replace B := below2 B b2
    clear b2
    go_wp2_with fail
    refine (specMerge_is HO.out VM.out L1.out L2.out r1 r2).mono ?_
    rintro e w3 ⟨a4, n4, c4, rfl, r4, _, b3⟩
    replace r1 := r1.keep b3
    replace r2 := r2.keep b3
    replace r3 := r3.keep b3
    replace B := below2 B b3
    clear b3
    go_wp2_with fail
    refine (sameLays_is LM.out r3 r4).mono ?_
    rintro e w4 ⟨rfl, b4⟩
    replace r1 := r1.keep b4
    replace r2 := r2.keep b4
    replace r3 := r3.keep b4
    replace r4 := r4.keep b4
    replace B := below2 B b4
    clear b4
    clear r4
    go_wp2_with fail
    refine (implMerge_is P1.out V1.out L2.out L1.out r2 r1).mono ?_
    rintro e w5 ⟨a5, n5, c5, rfl, r5, _, b5⟩
    replace r1 := r1.keep b5
    replace r2 := r2.keep b5
    replace r3 := r3.keep b5
    replace B := below2 B b5
    clear b5
    clear r2
    go_wp2_with fail
    refine (implMerge_is P2.out V2.out L1.out L1.out r1 r1).mono ?_
    rintro e w6 ⟨a6, n6, c6, rfl, r6, _, b6⟩
    replace r1 := r1.keep b6
    replace r3 := r3.keep b6
    replace r5 := r5.keep b6
    replace B := below2 B b6
    clear b6
    go_wp2_with fail
    refine (sameLays_is LM.out r5 r3).mono ?_
    rintro e w7 ⟨rfl, b7⟩
    replace r1 := r1.keep b7
    replace r3 := r3.keep b7
    replace r5 := r5.keep b7
    replace r6 := r6.keep b7
    replace B := below2 B b7
    clear b7
    go_wp2_with fail
    refine (sameLays_is L1.out r6 r1).mono ?_
    rintro e w8 ⟨rfl, b8⟩
    replace r1 := r1.keep b8
    replace r3 := r3.keep b8
    replace r5 := r5.keep b8
    replace r6 := r6.keep b8
    replace B := below2 B b8
    clear b8
    go_wp2_with fail
    refine (implValid_is OM.out r3 (by have := r3.len; have := LM.out; omega)).mono ?_
    rintro e w9 ⟨rfl, b9⟩
    replace r1 := r1.keep b9
    replace r3 := r3.keep b9
    replace r5 := r5.keep b9
    replace r6 := r6.keep b9
    replace B := below2 B b9
    clear b9
    go_wp2_with fail
    go_ret
    exact ⟨rfl, B⟩

set_option maxRecDepth 100000 in
set_option maxHeartbeats 2000000 in
theorem mergeLayersAgain_walk (a : Option Addr) (len c : Nat) (w : World) (h : BRow w w.heap.size a len) (hc : len ≤ c) (hn : len ≤ 9223372036854775807) :
    Calls Try.prog 4 #[.slice a len c] w fun e w' => e = .returned (.bool true) ∧ Below w.heap.size w w' := by
  by_cases hlen : 1048576 < len
  · go_enter Try.func4, Try.ntmps4
    go_wp2_with fail
    go_ret
    exact ⟨rfl, Below.refl _ _⟩
  go_enter Try.func4, Try.ntmps4
  go_wp2_with fail
  refine (drawMerge_any _ _ _ _ h hc hn).mono ?_
  rintro e w1 ⟨a1, n1, c1, l1, a2, n2, c2, l2, hn1, hn2, hd1, rfl, r1, r2, B⟩
  have L1 : Hid (l1.length ≤ 1048576) := by show _ ≤ _; rw [r1.len]; omega
  have L2 : Hid (l2.length ≤ 1048576) := by show _ ≤ _; rw [r2.len]; omega
  clear h hc hn
  cases ho : mrgOk l1 l2 with
  | false =>
    have HO := Lib.hid ho
    have HM := Lib.hid (mrgV_no ho)
    clear ho
    go_wp2_with fail
    refine (implMerge_is HO.out HM.out L1.out L2.out r1 r2).mono ?_
    rintro e w2 ⟨a3, n3, c3, rfl, r3, _, b2⟩
    replace r1 := r1.keep b2
    replace r2 := r2.keep b2
    replace B := below2 B b2
    clear b2
    go_wp2_with fail
    refine (specMerge_is HO.out HM.out L1.out L2.out r1 r2).mono ?_
    rintro e w3 ⟨a4, n4, c4, rfl, r4, _, b3⟩
    replace r1 := r1.keep b3
    replace r2 := r2.keep b3
    replace r3 := r3.keep b3
    replace B := below2 B b3
    clear b3
    clear r1 r2
    go_wp2_with fail
    refine (sameLays_is nil_len r3 r4).mono ?_
    rintro e w4 ⟨rfl, b4⟩
    replace r3 := r3.keep b4
    replace r4 := r4.keep b4
    replace B := below2 B b4
    clear b4
    go_wp2_with fail
    refine (sameLays_is nil_len r3 r4).mono ?_
    rintro e w5 ⟨rfl, b5⟩
    replace r3 := r3.keep b5
    replace r4 := r4.keep b5
    replace B := below2 B b5
    clear b5
    go_wp2_with fail
    go_ret
    exact ⟨rfl, B⟩
  | true =>
    have HO := Lib.hid ho
    obtain ⟨ok1, ok2, okM, vM⟩ := mrg_good ho
    obtain ⟨⟨p1, v1⟩, ⟨p2, v2⟩⟩ := good_again ho
    obtain ⟨M, hM⟩ : ∃ M, mrg l1 l2 = M := ⟨_, rfl⟩
    rw [hM] at okM vM p1 v1 p2 v2
    have LM := Lib.hid (okL_len' okM)
    have O1 := Lib.hid ok1
    have O2 := Lib.hid ok2
    have OM := Lib.hid okM
    have VM := Lib.hid vM
    have EM := Lib.hid hM
    clear ho ok1 ok2 okM vM hM
    have P1 := Lib.hid p1
    have V1 := Lib.hid v1
    have P2 := Lib.hid p2
    have V2 := Lib.hid v2
    clear p1 v1 p2 v2
    go_wp2_with fail
    refine (implMerge_is HO.out VM.out L1.out L2.out r1 r2).mono ?_
    rintro e w2 ⟨a3, n3, c3, rfl, r3, _, b2⟩
    replace r1 := r1.keep b2
    replace r2 := r2.keep b2
    replace B := below2 B b2
    clear b2
    go_wp2_with fail
    refine (specMerge_is HO.out VM.out L1.out L2.out r1 r2).mono ?_
    rintro e w3 ⟨a4, n4, c4, rfl, r4, _, b3⟩
    replace r1 := r1.keep b3
    replace r2 := r2.keep b3
    replace r3 := r3.keep b3
    replace B := below2 B b3
    clear b3
    go_wp2_with fail
    refine (sameLays_is LM.out r3 r4).mono ?_
    rintro e w4 ⟨rfl, b4⟩
    replace r1 := r1.keep b4
    replace r2 := r2.keep b4
    replace r3 := r3.keep b4
    replace r4 := r4.keep b4
    replace B := below2 B b4
    clear b4
    clear r4
    go_wp2_with fail
    refine (implMerge_is P1.out V1.out LM.out L1.out r3 r1).mono ?_
    rintro e w5 ⟨a5, n5, c5, rfl, r5, _, b5⟩
    replace r1 := r1.keep b5
    replace r2 := r2.keep b5
    replace r3 := r3.keep b5
    replace B := below2 B b5
    clear b5
    go_wp2_with fail
    refine (implMerge_is P2.out V2.out L2.out LM.out r2 r3).mono ?_
    rintro e w6 ⟨a6, n6, c6, rfl, r6, _, b6⟩
    replace r1 := r1.keep b6
    replace r2 := r2.keep b6
    replace r3 := r3.keep b6
    replace r5 := r5.keep b6
    replace B := below2 B b6
    clear b6
    clear r1 r2
    go_wp2_with fail
    refine (sameLays_is LM.out r5 r3).mono ?_
    rintro e w7 ⟨rfl, b7⟩
    replace r3 := r3.keep b7
    replace r5 := r5.keep b7
    replace r6 := r6.keep b7
    replace B := below2 B b7
    clear b7
    go_wp2_with fail
    refine (sameLays_is LM.out r6 r3).mono ?_
    rintro e w8 ⟨rfl, b8⟩
    replace r3 := r3.keep b8
    replace r5 := r5.keep b8
    replace r6 := r6.keep b8
    replace B := below2 B b8
    clear b8
    go_wp2_with fail
    go_ret
    exact ⟨rfl, B⟩

set_option maxRecDepth 100000 in
set_option maxHeartbeats 2000000 in
theorem mergeLayersCount_walk (a : Option Addr) (len c : Nat) (a0 : Option Addr) (len0 c0 : Nat) (w : World) (h : BRow w w.heap.size a len) (hc : len ≤ c) (hn : len ≤ 9223372036854775807) (hn0 : len0 ≤ 9223372036854775807) :
    Calls Try.prog 7 #[.slice a len c, .slice a0 len0 c0] w fun e w' => e = .returned (.bool true) ∧ Below w.heap.size w w' := by
  by_cases hlen : 1048576 < len
  · go_enter Try.func7, Try.ntmps7
    go_wp2_with fail
    go_ret
    exact ⟨rfl, Below.refl _ _⟩
  by_cases hlen0 : 1048576 < len0
  · go_enter Try.func7, Try.ntmps7
    go_wp2_with fail
    go_ret
    exact ⟨rfl, Below.refl _ _⟩
  go_enter Try.func7, Try.ntmps7
  go_wp2_with fail
  refine (drawMerge_any _ _ _ _ h hc hn).mono ?_
  rintro e w1 ⟨a1, n1, c1, l1, a2, n2, c2, l2, hn1, hn2, hd1, rfl, r1, r2, B⟩
  have L1 : Hid (l1.length ≤ 1048576) := by show _ ≤ _; rw [r1.len]; omega
  have L2 : Hid (l2.length ≤ 1048576) := by show _ ≤ _; rw [r2.len]; omega
  clear h hc hn
  cases ho : mrgOk l1 l2 with
  | false =>
    have HO := Lib.hid ho
    have HM := Lib.hid (mrgV_no ho)
    clear ho
    go_wp2_with fail
    refine (implMerge_is HO.out HM.out L1.out L2.out r1 r2).mono ?_
    rintro e w2 ⟨a3, n3, c3, rfl, r3, _, b2⟩
    replace r1 := r1.keep b2
    replace r2 := r2.keep b2
    replace B := below2 B b2
    clear b2
    go_wp2_with fail
    refine (specMerge_is HO.out HM.out L1.out L2.out r1 r2).mono ?_
    rintro e w3 ⟨a4, n4, c4, rfl, r4, _, b3⟩
    replace r1 := r1.keep b3
    replace r2 := r2.keep b3
    replace r3 := r3.keep b3
    replace B := below2 B b3
    clear b3
    clear r1 r2
    go_wp2_with fail
    refine (sameLays_is nil_len r3 r4).mono ?_
    rintro e w4 ⟨rfl, b4⟩
    replace r3 := r3.keep b4
    replace r4 := r4.keep b4
    replace B := below2 B b4
    clear b4
    go_wp2_with fail
    refine (sameLays_is nil_len r3 r4).mono ?_
    rintro e w5 ⟨rfl, b5⟩
    replace r3 := r3.keep b5
    replace r4 := r4.keep b5
    replace B := below2 B b5
    clear b5
    go_wp2_with fail
    go_ret
    exact ⟨rfl, B⟩
  | true =>
    have HO := Lib.hid ho
    obtain ⟨ok1, ok2, okM, vM⟩ := mrg_good ho

    obtain ⟨M, hM⟩ : ∃ M, mrg l1 l2 = M := ⟨_, rfl⟩
    rw [hM] at okM vM
    have LM := Lib.hid (okL_len' okM)
    have O1 := Lib.hid ok1
    have O2 := Lib.hid ok2
    have OM := Lib.hid okM
    have VM := Lib.hid vM
    have EM := Lib.hid hM
    clear ho ok1 ok2 okM vM hM
    go_wp2_with fail
    refine (implMerge_is HO.out VM.out L1.out L2.out r1 r2).mono ?_
    rintro e w2 ⟨a3, n3, c3, rfl, r3, _, b2⟩
    replace r1 := r1.keep b2
    replace r2 := r2.keep b2
    replace B := below2 B b2
    clear b2
    go_wp2_with fail
    refine (specMerge_is HO.out VM.out L1.out L2.out r1 r2).mono ?_
    rintro e w3 ⟨a4, n4, c4, rfl, r4, _, b3⟩
    replace r1 := r1.keep b3
    replace r2 := r2.keep b3
    replace r3 := r3.keep b3
    replace B := below2 B b3
    clear b3
    go_wp2_with fail
    refine (sameLays_is LM.out r3 r4).mono ?_
    rintro e w4 ⟨rfl, b4⟩
    replace r1 := r1.keep b4
    replace r2 := r2.keep b4
    replace r3 := r3.keep b4
    replace r4 := r4.keep b4
    replace B := below2 B b4
    clear b4
    clear r4
    go_wp2_with fail
    refine (implCount_ok _ _ _ _ _ _ _ _ r3 OM.out (okSpan_mk (by omega) (by omega) (by omega))).mono ?_
    rintro e w5 ⟨rfl, b5⟩
    replace r1 := r1.keep b5
    replace r2 := r2.keep b5
    replace r3 := r3.keep b5
    replace B := below2 B b5
    clear b5
    go_wp2_with fail
    refine (implCount_ok _ _ _ _ _ _ _ _ r1 O1.out (okSpan_mk (by omega) (by omega) (by omega))).mono ?_
    rintro e w6 ⟨rfl, b6⟩
    replace r1 := r1.keep b6
    replace r2 := r2.keep b6
    replace r3 := r3.keep b6
    replace B := below2 B b6
    clear b6
    go_wp2_with fail
    refine (implCount_ok _ _ _ _ _ _ _ _ r2 O2.out (okSpan_mk (by omega) (by omega) (by omega))).mono ?_
    rintro e w7 ⟨rfl, b7⟩
    replace r1 := r1.keep b7
    replace r2 := r2.keep b7
    replace r3 := r3.keep b7
    replace B := below2 B b7
    clear b7
    have F1 := mrg_cAll l1 l2 ((len0 : Int) % 60) ((len0 : Int) % 60 + (len0 : Int) / 60 % 80)
    have F2 := mrg_cSure l1 l2 ((len0 : Int) % 60) ((len0 : Int) % 60 + (len0 : Int) / 60 % 80)
    have bd1 := c_bd O1.out ((len0 : Int) % 60) ((len0 : Int) % 60 + (len0 : Int) / 60 % 80)
    have bd2 := c_bd O2.out ((len0 : Int) % 60) ((len0 : Int) % 60 + (len0 : Int) / 60 % 80)
    rw [EM.out] at F1 F2
    generalize cAll M ((len0 : Int) % 60) ((len0 : Int) % 60 + (len0 : Int) / 60 % 80) = A0 at F1 ⊢
    generalize cSure M ((len0 : Int) % 60) ((len0 : Int) % 60 + (len0 : Int) / 60 % 80) = S0 at F2 ⊢
    generalize cAll l1 ((len0 : Int) % 60) ((len0 : Int) % 60 + (len0 : Int) / 60 % 80) = A1 at F1 bd1 ⊢
    generalize cSure l1 ((len0 : Int) % 60) ((len0 : Int) % 60 + (len0 : Int) / 60 % 80) = S1 at F2 bd1 ⊢
    generalize cAll l2 ((len0 : Int) % 60) ((len0 : Int) % 60 + (len0 : Int) / 60 % 80) = A2 at F1 bd2 ⊢
    generalize cSure l2 ((len0 : Int) % 60) ((len0 : Int) % 60 + (len0 : Int) / 60 % 80) = S2 at F2 bd2 ⊢
    have g1 : max S1 S2 ≤ S0 := by omega
    have g2 : max A1 A2 ≤ A0 := by omega
    have g3 : A0 ≤ A1 + A2 := by omega
    have g4 : S0 ≤ S1 + S2 := by omega
    go_wp2_with fail
    all_goals
      go_ret
      first | exact ⟨rfl, B⟩ | exact ⟨ret_bool (decide_eq_true (by omega)), B⟩

end Go.Proofs.Ytgfdplkgcnciiaa
