/- Walks of the two versions of CutsCost. -/
import Derived.Test.YtlelnnooemachaaCuts4
namespace Go.Proofs.Ytlelnnooemachaa
open Go.RowKit

theorem specAllowed_is {a b : Option Addr} {n c lo n' c' lo' : Nat} {costs cuts : List Int} {l m : Int} {w : World} {r : Bool} (hr : okCuts costs l m cuts = r) (h : IRow w lo a n c costs) (h' : IRow w lo' b n' c' cuts) (hn : n ≤ 1048576) (hn' : n' ≤ 1048576) :
    Calls Try.prog 16 #[.slice a n c, .int .i64 l, .int .i64 m, .slice b n' c'] w fun e w' => e = .returned (.bool r) ∧ w = w' := by
  subst hr; exact specAllowed_any a b n c lo n' c' lo' costs cuts l m w h h' hn hn'
theorem implAllowed_is {a b : Option Addr} {n c lo n' c' lo' : Nat} {costs cuts : List Int} {l m : Int} {w : World} {r : Bool} (hr : okCuts costs l m cuts = r) (h : IRow w lo a n c costs) (h' : IRow w lo' b n' c' cuts) (hn : n ≤ 1048576) (hn' : n' ≤ 1048576) :
    Calls Try.prog 18 #[.slice a n c, .int .i64 l, .int .i64 m, .slice b n' c'] w fun e w' => e = .returned (.bool r) ∧ w = w' := by
  subst hr; exact implAllowed_any a b n c lo n' c' lo' costs cuts l m w h h' hn hn'

/-- What both versions of CutsCost return. -/
def costOf (costs : List Int) (l m : Int) (cuts : List Int) : Int := if okCuts costs l m cuts = true then costTo costs cuts cuts.length else -1
theorem costTo_bd {costs cuts : List Int} {l m : Int} (h : okCuts costs l m cuts = true) (k : Nat) (hk : k ≤ cuts.length) : 0 ≤ costTo costs cuts k ∧ costTo costs cuts k ≤ 1000 * k := by
  induction k with
  | zero => simp [costTo, sumF]
  | succ k ih =>
    have a := ih (by omega)
    have b := okCuts_in h k (by omega)
    have c := okSig_nth (okCuts_parts h).1 (nth cuts k).toNat (by omega)
    have e : costTo costs cuts (k + 1) = costTo costs cuts k + nth costs (nth cuts k).toNat := rfl
    rw [e]
    omega

set_option maxHeartbeats 1000000 in
theorem specCost_any (a b : Option Addr) (n c lo n' c' lo' : Nat) (costs cuts : List Int) (l m : Int) (w : World) (h : IRow w lo a n c costs) (h' : IRow w lo' b n' c' cuts) (hn : n ≤ 1048576) (hn' : n' ≤ 1048576) :
    Calls Try.prog 21 #[.slice a n c, .int .i64 l, .int .i64 m, .slice b n' c'] w fun e w' => e = .returned (.int .i64 (costOf costs l m cuts)) ∧ w = w' := by
  have H := Lib.hid h
  have H' := Lib.hid h'
  clear h h'
  cases hs : okCuts costs l m cuts with
  | false =>
    have e : costOf costs l m cuts = -1 := by unfold costOf; rw [hs]; rfl
    rw [e]
    clear e
    have HS := Lib.hid hs
    clear hs
    go_enter Try.func21, Try.ntmps21
    go_wp2_with fail
    refine (specAllowed_is HS.out H.out H'.out hn hn').mono ?_
    rintro e w' ⟨rfl, rfl⟩
    go_wp2_with fail
    go_ret
    exact ⟨rfl, rfl⟩
  | true =>
    have e : costOf costs l m cuts = costTo costs cuts n' := by unfold costOf; rw [hs, ← H'.out.len]; rfl
    rw [e]
    clear e
    have HS := Lib.hid hs
    clear hs
    go_enter Try.func21, Try.ntmps21
    go_wp2_with fail
    refine (specAllowed_is HS.out H.out H'.out hn hn').mono ?_
    rintro e w' ⟨rfl, rfl⟩
    go_wp2_with fail
    go_loop [9, 10] (fun s i => ∃ k : Nat, k ≤ n' ∧ i = .int .i64 k ∧ s = .int .i64 (costTo costs cuts k)) (fun _ i => n' - (intOf i).toNat)
    case atStart => exact ⟨0, Nat.zero_le _, rfl, rfl⟩
    case round =>
      obtain ⟨k, hk, rfl, rfl⟩ := hrel
      have hb := costTo_bd HS.out k (by rw [H'.out.len]; exact hk)
      by_cases hlt : k < n'
      · obtain ⟨g, off, rfl, _, hg, hcell⟩ := H'.out.at_ hlt
        have hin := okCuts_in HS.out k (by rw [H'.out.len]; exact hlt)
        rw [H.out.len] at hin
        obtain ⟨q, hq⟩ : ∃ q : Nat, nth cuts k = (q : Int) := Int.eq_ofNat_of_zero_le hin.1
        have hq2 : q < n := by omega
        obtain ⟨g', off', rfl, _, hg', hcell'⟩ := H.out.at_ hq2
        have hv := okSig_nth (okCuts_parts HS.out).1 q (by rw [H.out.len]; exact hq2)
        have HE : Hid (costTo costs cuts (k + 1) = costTo costs cuts k + nth costs q) := by
          show costTo costs cuts k + nth costs (nth cuts k).toNat = _
          rw [hq]; rfl
        rw [hq] at hcell
        clear hin hq
        go_wp2_with fail
        go_round
        case rel => exact ⟨k + 1, by omega, by go_num, by rw [HE.out]⟩
        case measure => simp [intOf]; omega
      · obtain rfl : k = n' := by omega
        go_wp2_with fail
        go_ret
        exact ⟨rfl, rfl⟩

set_option maxHeartbeats 1000000 in
theorem implCost_any (a b : Option Addr) (n c lo n' c' lo' : Nat) (costs cuts : List Int) (l m : Int) (w : World) (h : IRow w lo a n c costs) (h' : IRow w lo' b n' c' cuts) (hn : n ≤ 1048576) (hn' : n' ≤ 1048576) :
    Calls Try.prog 22 #[.slice a n c, .int .i64 l, .int .i64 m, .slice b n' c'] w fun e w' => e = .returned (.int .i64 (costOf costs l m cuts)) ∧ w = w' := by
  have H := Lib.hid h
  have H' := Lib.hid h'
  clear h h'
  cases hs : okCuts costs l m cuts with
  | false =>
    have e : costOf costs l m cuts = -1 := by unfold costOf; rw [hs]; rfl
    rw [e]
    clear e
    have HS := Lib.hid hs
    clear hs
    go_enter Try.func22, Try.ntmps22
    go_wp2_with fail
    refine (implAllowed_is HS.out H.out H'.out hn hn').mono ?_
    rintro e w' ⟨rfl, rfl⟩
    go_wp2_with fail
    go_ret
    exact ⟨rfl, rfl⟩
  | true =>
    have e : costOf costs l m cuts = costTo costs cuts n' := by unfold costOf; rw [hs, ← H'.out.len]; rfl
    rw [e]
    clear e
    have HS := Lib.hid hs
    clear hs
    go_enter Try.func22, Try.ntmps22
    go_wp2_with fail
    refine (implAllowed_is HS.out H.out H'.out hn hn').mono ?_
    rintro e w' ⟨rfl, rfl⟩
    go_wp2_with fail
    go_loop [9, 20] (fun s i => ∃ k : Nat, k ≤ n' ∧ i = .int .i64 k ∧ s = .int .i64 (costTo costs cuts k)) (fun _ i => n' - (intOf i).toNat)
    case atStart => exact ⟨0, Nat.zero_le _, rfl, rfl⟩
    case round =>
      obtain ⟨k, hk, rfl, rfl⟩ := hrel
      have hb := costTo_bd HS.out k (by rw [H'.out.len]; exact hk)
      by_cases hlt : k < n'
      · obtain ⟨g, off, rfl, _, hg, hcell⟩ := H'.out.at_ hlt
        have hin := okCuts_in HS.out k (by rw [H'.out.len]; exact hlt)
        rw [H.out.len] at hin
        obtain ⟨q, hq⟩ : ∃ q : Nat, nth cuts k = (q : Int) := Int.eq_ofNat_of_zero_le hin.1
        have hq2 : q < n := by omega
        obtain ⟨g', off', rfl, _, hg', hcell'⟩ := H.out.at_ hq2
        have hv := okSig_nth (okCuts_parts HS.out).1 q (by rw [H.out.len]; exact hq2)
        have HE : Hid (costTo costs cuts (k + 1) = costTo costs cuts k + nth costs q) := by
          show costTo costs cuts k + nth costs (nth cuts k).toNat = _
          rw [hq]; rfl
        rw [hq] at hcell
        clear hin hq
        go_wp2_with fail
        go_round
        case rel => exact ⟨k + 1, by omega, by go_num, by rw [HE.out]⟩
        case measure => simp [intOf]; omega
      · obtain rfl : k = n' := by omega
        go_wp2_with fail
        go_ret
        exact ⟨rfl, rfl⟩


theorem specCost_is {a b : Option Addr} {n c lo n' c' lo' : Nat} {costs cuts : List Int} {l m : Int} {w : World} {r : Int} (hr : costOf costs l m cuts = r) (h : IRow w lo a n c costs) (h' : IRow w lo' b n' c' cuts) (hn : n ≤ 1048576) (hn' : n' ≤ 1048576) :
    Calls Try.prog 21 #[.slice a n c, .int .i64 l, .int .i64 m, .slice b n' c'] w fun e w' => e = .returned (.int .i64 r) ∧ w = w' := by
  subst hr; exact specCost_any a b n c lo n' c' lo' costs cuts l m w h h' hn hn'

theorem implCost_is {a b : Option Addr} {n c lo n' c' lo' : Nat} {costs cuts : List Int} {l m : Int} {w : World} {r : Int} (hr : costOf costs l m cuts = r) (h : IRow w lo a n c costs) (h' : IRow w lo' b n' c' cuts) (hn : n ≤ 1048576) (hn' : n' ≤ 1048576) :
    Calls Try.prog 22 #[.slice a n c, .int .i64 l, .int .i64 m, .slice b n' c'] w fun e w' => e = .returned (.int .i64 r) ∧ w = w' := by
  subst hr; exact implCost_any a b n c lo n' c' lo' costs cuts l m w h h' hn hn'

end Go.Proofs.Ytlelnnooemachaa
