/- The laws of merged layers. -/
import Derived.Test.YtabbclfodlhikaaDrawMrg
import Derived.Test.YtabbclfodlhikaaLay3
namespace Go.Proofs.Ytabbclfodlhikaa
open Go.RowKit

theorem implMerge_is {a : Option Addr} {n c lo : Nat} {l : List Lay} {b : Option Addr} {m d lo' : Nat} {l' : List Lay} {w : World} {r : Bool} {M : List Lay} (hr : mrgOk l l' = r) (hM : mrgV l l' = M) (hl : l.length ≤ 1048576) (hl' : l'.length ≤ 1048576) (h : LRow w lo a n c l) (h' : LRow w lo' b m d l') :
    Calls Try.prog 31 #[.slice a n c, .slice b m d] w (RetLaysB M r w) := by
  subst hr hM; exact implMerge_any _ _ _ _ _ _ _ _ _ _ _ h h' (by rw [← h.len]; exact hl) (by rw [← h'.len]; exact hl')
theorem nil_len : ([] : List Lay).length ≤ 1048576 := by simp
theorem okL_len' {l : List Lay} (h : okL l = true) : l.length ≤ 1048576 := by have := okL_len h; omega
/-- What holds of two lists whose merge is good. -/
theorem mrg_good {l l' : List Lay} (h : mrgOk l l' = true) : okL l = true ∧ okL l' = true ∧ okL (mrg l l') = true ∧ mrgV l l' = mrg l l' := by
  have := mrgOk_iff.1 h; exact ⟨this.1, this.2.1, this.2.2, mrgV_ok h⟩
theorem mrgOk_of {l l' m : List Lay} (h1 : okL l = true) (h2 : okL l' = true) (e : mrg l l' = m) (h3 : okL m = true) : mrgOk l l' = true ∧ mrgV l l' = m := by
  have h : mrgOk l l' = true := mrgOk_iff.2 ⟨h1, h2, by rw [e]; exact h3⟩
  exact ⟨h, by rw [mrgV_ok h, e]⟩
theorem good_comm {l l' : List Lay} (h : mrgOk l l' = true) : mrgOk l' l = true ∧ mrgV l' l = mrg l l' := by
  obtain ⟨h1, h2, h3, _⟩ := mrg_good h
  exact mrgOk_of h2 h1 (mrg_comm (okL_rise h1) (okL_rise h2)) h3
theorem good_self {l : List Lay} (h : okL l = true) : mrgOk l l = true ∧ mrgV l l = l := mrgOk_of h h (mrg_idem (okL_rise h)) h
theorem good_again {l l' : List Lay} (h : mrgOk l l' = true) : (mrgOk (mrg l l') l = true ∧ mrgV (mrg l l') l = mrg l l') ∧ (mrgOk l' (mrg l l') = true ∧ mrgV l' (mrg l l') = mrg l l') := by
  obtain ⟨h1, h2, h3, _⟩ := mrg_good h
  exact ⟨mrgOk_of h3 h1 (mrg_again_left (okL_rise h1) (okL_rise h2)) h3, mrgOk_of h2 h3 (mrg_again_right (okL_rise h1) (okL_rise h2)) h3⟩
theorem good_three {l l' k : List Lay} (h : mrgOk l l' = true) (h1 : mrgOk (mrg l l') k = true) (h2 : mrgOk l' k = true) : mrgOk l (mrg l' k) = true ∧ mrgV l (mrg l' k) = mrg (mrg l l') k := by
  obtain ⟨a1, a2, a3, _⟩ := mrg_good h
  obtain ⟨_, b2, b3, _⟩ := mrg_good h1
  obtain ⟨_, _, c3, _⟩ := mrg_good h2
  exact mrgOk_of a1 c3 (mrg_assoc (okL_rise a1) (okL_rise a2) (okL_rise b2)).symm b3




end Go.Proofs.Ytabbclfodlhikaa
