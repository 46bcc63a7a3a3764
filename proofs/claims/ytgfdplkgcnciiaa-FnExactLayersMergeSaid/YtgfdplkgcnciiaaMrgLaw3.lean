/- The walk of FnExactLayersMerge. -/
import Derived.Test.YtgfdplkgcnciiaaMrgLaw1
import Derived.Test.YtgfdplkgcnciiaaLMark
namespace Go.Proofs.Ytgfdplkgcnciiaa
open Go.RowKit

theorem toLays_is {a : Option Addr} {n c lo : Nat} {l : List Lay} {w : World} (hl : l.length ≤ 1048576) (h : LRow w lo a n c l) : Calls Try.prog 15 #[.slice a n c] w (RetLays l w) :=
  toLayerS_any _ _ _ _ _ _ h (by rw [← h.len]; exact hl)
theorem eqLays_is {a a' : Option Addr} {n n' c c' lo lo' : Nat} {l : List Lay} {w : World} (hl : l.length ≤ 1048576) (h : LRow w lo a n c l) (h' : LRow w lo' a' n' c' l) :
    Calls Try.prog 16 #[.slice a n c, .slice a' n' c'] w fun e w' => e = .returned (.bool true) ∧ Below w.heap.size w w' := by
  obtain rfl : n = n' := h.len.symm.trans h'.len
  exact eqLayerS_yes _ _ _ _ _ _ _ _ _ h h' (by rw [← h.len]; exact hl)
theorem markL_is {a : Option Addr} {n c lo k : Nat} {K : Int} {l : List Lay} {w : World} (hK : K = (k : Int)) (h : LRow w lo a n c l) (hf : LFree w a n) (hk : k ≤ 10000000) (hn : n ≤ 1048576) :
    Calls Try.prog 17 #[.slice a n c, .int .i64 K] w fun e w' => e = .returned (.int .i64 ((k : Int) + 2 * n)) ∧ LRow w' lo a n c (upL k n) ∧ LFree w' a n ∧ Touch w w' a n := by
  subst hK; exact markL_any _ _ _ _ _ _ _ h hf hk hn
theorem heldL_is {a : Option Addr} {n c lo k : Nat} {K : Int} {w : World} (hK : K = (k : Int)) (h : LRow w lo a n c (upL k n)) (hk : k ≤ 10000000) (hn : n ≤ 1048576) :
    Calls Try.prog 18 #[.slice a n c, .int .i64 K] w fun e w' => e = .returned (.int .i64 ((k : Int) + 2 * n)) ∧ Below w.heap.size w w' := by
  subst hK; exact heldL_any _ _ _ _ _ _ h hk hn
theorem mrgV_len3 {l l' : List Lay} : (mrgV l l').length ≤ 1048576 := by have := mrgV_len (l := l) (l' := l'); omega

set_option maxRecDepth 100000 in
set_option maxHeartbeats 2000000 in
theorem exactMerge_walk (a : Option Addr) (n c : Nat) (l : List Lay) (a' : Option Addr) (n' c' : Nat) (l' : List Lay) (w : World) (h : LRow w 0 a n c l) (hmax : n ≤ 9223372036854775807) (h' : LRow w 0 a' n' c' l') (hmax' : n' ≤ 9223372036854775807) :
    Calls Try.prog 6 #[.slice a n c, .slice a' n' c'] w fun e w' => e = .returned (.bool true) ∧ Below w.heap.size w w' := by
  by_cases hn : 1048576 < n
  · go_enter Try.func6, Try.ntmps6
    go_wp2_with fail
    refine (sz_no _ _ _ _ _ (by omega) (by omega) (by omega) hmax).mono ?_
    rintro e w' ⟨rfl, rfl⟩
    go_wp2_with fail
    go_ret
    exact ⟨rfl, Below.refl _ _⟩
  by_cases hn' : 1048576 - n < n'
  · go_enter Try.func6, Try.ntmps6
    go_wp2_with fail
    refine (sz_ok _ _ _ _ _ (by omega) (by omega)).mono ?_
    rintro e w' ⟨rfl, rfl⟩
    go_wp2_with fail
    refine (sz_no _ _ _ _ _ (by omega) (by omega) (by omega) hmax').mono ?_
    rintro e w' ⟨rfl, rfl⟩
    go_wp2_with fail
    go_ret
    exact ⟨rfl, Below.refl _ _⟩
  have H := Lib.hid h
  have H' := Lib.hid h'
  have L1 : Hid (l.length ≤ 1048576) := by show _ ≤ _; rw [h.len]; omega
  have L2 : Hid (l'.length ≤ 1048576) := by show _ ≤ _; rw [h'.len]; omega
  obtain ⟨r, hr⟩ : ∃ r, mrgOk l l' = r := ⟨_, rfl⟩
  obtain ⟨M, hM⟩ : ∃ M, mrgV l l' = M := ⟨_, rfl⟩
  have LM : Hid (M.length ≤ 1048576) := by show _ ≤ _; rw [← hM]; exact mrgV_len3
  have R := Lib.hid hr
  have V := Lib.hid hM
  have B : Below w.heap.size w w := Below.refl _ _
  clear h h' hr hM
  go_enter Try.func6, Try.ntmps6
  go_wp2_with fail
  refine (sz_ok _ _ _ _ _ (by omega) (by omega)).mono ?_
  rintro e w' ⟨rfl, rfl⟩
  go_wp2_with fail
  refine (sz_ok _ _ _ _ _ (by omega) (by omega)).mono ?_
  rintro e w' ⟨rfl, rfl⟩
  go_wp2_with fail
  refine (toLays_is L1.out (H.out.keep B)).mono ?_
  rintro e w1 ⟨ap1, np1, cp1, rfl, p1, fp1, b1⟩
  clear fp1
  replace B := below2 B b1
  clear b1
  go_wp2_with fail
  refine (toLays_is L2.out (H'.out.keep B)).mono ?_
  rintro e w2 ⟨ap2, np2, cp2, rfl, p2, fp2, b2⟩
  clear fp2
  replace p1 := p1.keep b2
  replace B := below2 B b2
  clear b2
  go_wp2_with fail
  refine (specMerge_is R.out V.out L1.out L2.out p1 p2).mono ?_
  rintro e w3 ⟨av, nv, cv, rfl, v, fv, b3⟩
  clear fv
  replace p1 := p1.keep b3
  replace p2 := p2.keep b3
  replace B := below2 B b3
  clear b3
  clear p1
  clear p2
  go_wp2_with fail
  refine (toLays_is L1.out (H.out.keep B)).mono ?_
  rintro e w4 ⟨ax, nx, cx, rfl, x, fx, b4⟩
  have lox : ∀ g off, ax = some ⟨g, off, none⟩ → 0 < nx → w.heap.size ≤ g := fun u0 off e hn => by have := x.low u0 off e hn; have := B.size; omega
  have apvx : Apart av nv ax nx := apart_hl v.high x.low
  replace v := v.keep b4
  replace B := below2 B b4
  clear b4
  go_wp2_with fail
  refine (toLays_is L2.out (H'.out.keep B)).mono ?_
  rintro e w5 ⟨ay, ny, cy, rfl, y, fy, b5⟩
  have loy : ∀ g off, ay = some ⟨g, off, none⟩ → 0 < ny → w.heap.size ≤ g := fun u0 off e hn => by have := y.low u0 off e hn; have := B.size; omega
  have apvy : Apart av nv ay ny := apart_hl v.high y.low
  have apxy : Apart ax nx ay ny := apart_hl x.high y.low
  replace v := v.keep b5
  replace fx := fx.keep x b5
  replace x := x.keep b5
  replace B := below2 B b5
  clear b5
  go_wp2_with fail
  refine (implMerge_is R.out V.out L1.out L2.out x y).mono ?_
  rintro e w6 ⟨ag, ng, cg, rfl, g, fg, b6⟩
  have log : ∀ g off, ag = some ⟨g, off, none⟩ → 0 < ng → w.heap.size ≤ g := fun u0 off e hn => by have := g.low u0 off e hn; have := B.size; omega
  have apvg : Apart av nv ag ng := apart_hl v.high g.low
  have apxg : Apart ax nx ag ng := apart_hl x.high g.low
  have apyg : Apart ay ny ag ng := apart_hl y.high g.low
  replace v := v.keep b6
  replace fx := fx.keep x b6
  replace x := x.keep b6
  replace fy := fy.keep y b6
  replace y := y.keep b6
  replace B := below2 B b6
  clear b6
  go_wp2_with fail
  refine (eqLays_is LM.out g v).mono ?_
  rintro e w7 ⟨rfl, b7⟩
  replace v := v.keep b7
  replace fx := fx.keep x b7
  replace x := x.keep b7
  replace fy := fy.keep y b7
  replace y := y.keep b7
  replace fg := fg.keep g b7
  replace g := g.keep b7
  replace B := below2 B b7
  clear b7
  go_wp2_with fail
  refine (toLays_is L1.out (H.out.keep B)).mono ?_
  rintro e w8 ⟨ap1, np1, cp1, rfl, p1, fp1, b8⟩
  clear fp1
  replace v := v.keep b8
  replace fx := fx.keep x b8
  replace x := x.keep b8
  replace fy := fy.keep y b8
  replace y := y.keep b8
  replace fg := fg.keep g b8
  replace g := g.keep b8
  replace B := below2 B b8
  clear b8
  go_wp2_with fail
  refine (eqLays_is L1.out x p1).mono ?_
  rintro e w9 ⟨rfl, b9⟩
  replace v := v.keep b9
  replace fx := fx.keep x b9
  replace x := x.keep b9
  replace fy := fy.keep y b9
  replace y := y.keep b9
  replace fg := fg.keep g b9
  replace g := g.keep b9
  replace p1 := p1.keep b9
  replace B := below2 B b9
  clear b9
  clear p1
  go_wp2_with fail
  refine (toLays_is L2.out (H'.out.keep B)).mono ?_
  rintro e w10 ⟨ap2, np2, cp2, rfl, p2, fp2, b10⟩
  clear fp2
  replace v := v.keep b10
  replace fx := fx.keep x b10
  replace x := x.keep b10
  replace fy := fy.keep y b10
  replace y := y.keep b10
  replace fg := fg.keep g b10
  replace g := g.keep b10
  replace B := below2 B b10
  clear b10
  go_wp2_with fail
  refine (eqLays_is L2.out y p2).mono ?_
  rintro e w11 ⟨rfl, b11⟩
  replace v := v.keep b11
  replace fx := fx.keep x b11
  replace x := x.keep b11
  replace fy := fy.keep y b11
  replace y := y.keep b11
  replace fg := fg.keep g b11
  replace g := g.keep b11
  replace p2 := p2.keep b11
  replace B := below2 B b11
  clear b11
  clear p2
  have lx := x.len
  have ly := y.len
  have lg := g.len
  have L1o := L1.out
  have L2o := L2.out
  have LMo := LM.out
  go_wp2_with fail
  refine (markL_is (k := 1) rfl x fx (by omega) (by have := x.len; omega)).mono ?_
  rintro e w12 ⟨rfl, x, fx, t12⟩
  replace v := v.touch t12 apvx.symm
  replace fy := fy.touch t12 apxy
  replace y := y.touch t12 apxy
  replace fg := fg.touch t12 apxg
  replace g := g.touch t12 apxg
  replace B := t12.below B lox
  clear t12
  clear x fx
  go_wp2_with fail
  refine (markL_is (k := 1 + 2 * nx) (by omega) y fy (by omega) (by have := y.len; omega)).mono ?_
  rintro e w13 ⟨rfl, y, fy, t13⟩
  replace v := v.touch t13 apvy.symm
  replace fg := fg.touch t13 apyg
  replace g := g.touch t13 apyg
  replace B := t13.below B loy
  clear t13
  clear y fy
  go_wp2_with fail
  refine (eqLays_is LM.out g v).mono ?_
  rintro e w14 ⟨rfl, b14⟩
  replace v := v.keep b14
  replace fg := fg.keep g b14
  replace g := g.keep b14
  replace B := below2 B b14
  clear b14
  go_wp2_with fail
  refine (markL_is (k := 1) rfl g fg (by omega) (by have := g.len; omega)).mono ?_
  rintro e w15 ⟨rfl, g, fg, t15⟩
  replace v := v.touch t15 apvg.symm
  replace B := t15.below B log
  clear t15
  clear fg
  go_wp2_with fail
  refine (heldL_is (k := 1) rfl g (by omega) (by omega)).mono ?_
  rintro e w16 ⟨rfl, b16⟩
  replace v := v.keep b16
  replace g := g.keep b16
  replace B := below2 B b16
  clear b16
  go_wp2_with fail
  refine (toLays_is L1.out (H.out.keep B)).mono ?_
  rintro e w17 ⟨ap1, np1, cp1, rfl, p1, fp1, b17⟩
  clear fp1
  replace v := v.keep b17
  replace g := g.keep b17
  replace B := below2 B b17
  clear b17
  go_wp2_with fail
  refine (toLays_is L2.out (H'.out.keep B)).mono ?_
  rintro e w18 ⟨ap2, np2, cp2, rfl, p2, fp2, b18⟩
  clear fp2
  replace v := v.keep b18
  replace g := g.keep b18
  replace p1 := p1.keep b18
  replace B := below2 B b18
  clear b18
  go_wp2_with fail
  refine (implMerge_is R.out V.out L1.out L2.out p1 p2).mono ?_
  rintro e w19 ⟨aq, nq, cq, rfl, q, fq, b19⟩
  clear fq
  replace v := v.keep b19
  replace g := g.keep b19
  replace p1 := p1.keep b19
  replace p2 := p2.keep b19
  replace B := below2 B b19
  clear b19
  go_wp2_with fail
  refine (eqLays_is LM.out q v).mono ?_
  rintro e w20 ⟨rfl, b20⟩
  replace v := v.keep b20
  replace g := g.keep b20
  replace p1 := p1.keep b20
  replace p2 := p2.keep b20
  replace q := q.keep b20
  replace B := below2 B b20
  clear b20
  go_wp2_with fail
  refine (heldL_is (k := 1) rfl g (by omega) (by omega)).mono ?_
  rintro e w21 ⟨rfl, b21⟩
  replace v := v.keep b21
  replace g := g.keep b21
  replace p1 := p1.keep b21
  replace p2 := p2.keep b21
  replace q := q.keep b21
  replace B := below2 B b21
  clear b21
  go_wp2_with fail
  go_ret
  exact ⟨rfl, B⟩

end Go.Proofs.Ytgfdplkgcnciiaa
