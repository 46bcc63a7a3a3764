/- Walks of the two versions of CutsAllowed and CutsCost. -/
import Derived.Test.YtlelnnooemachaaCuts3
namespace Go.Proofs.Ytlelnnooemachaa
open Go.RowKit

theorem signalValid_is {a : Option Addr} {n c lo : Nat} {l : List Int} {w : World} {b : Bool} (hb : okSig l = b) (h : IRow w lo a n c l) (hn : n ≤ 1048576) :
    Calls Try.prog 29 #[.slice a n c] w fun e w' => e = .returned (.bool b) ∧ w = w' := by
  subst hb; exact signalValid_any a n c lo l w h hn
theorem l15Signal_is {a : Option Addr} {n c lo : Nat} {l : List Int} {w : World} {b : Bool} (hb : okSig l = b) (h : IRow w lo a n c l) (hn : n ≤ 1048576) :
    Calls Try.prog 28 #[.slice a n c] w fun e w' => e = .returned (.bool b) ∧ w = w' := by
  subst hb; exact l15Signal_any a n c lo l w h hn
theorem prev_succ (cuts : List Int) (k : Nat) : prev cuts (k + 1) = nth cuts k := by simp [prev]

set_option maxHeartbeats 1000000 in
theorem specAllowed_any (a b : Option Addr) (n c lo n' c' lo' : Nat) (costs cuts : List Int) (l m : Int) (w : World) (h : IRow w lo a n c costs) (h' : IRow w lo' b n' c' cuts) (hn : n ≤ 1048576) (hn' : n' ≤ 1048576) :
    Calls Try.prog 16 #[.slice a n c, .int .i64 l, .int .i64 m, .slice b n' c'] w fun e w' => e = .returned (.bool (okCuts costs l m cuts)) ∧ w = w' := by
  have H := Lib.hid h
  have H' := Lib.hid h'
  clear h h'
  cases hs : okSig costs with
  | false =>
    rw [okCuts_no_sig hs]
    have HS := Lib.hid hs
    clear hs
    go_enter Try.func16, Try.ntmps16
    go_wp2_with fail
    refine (l15Signal_is HS.out H.out hn).mono ?_
    rintro e w' ⟨rfl, rfl⟩
    go_wp2_with fail
    go_ret
    exact ⟨rfl, rfl⟩
  | true =>
    have HS := Lib.hid hs
    clear hs
    by_cases hr : 1 ≤ l ∧ l ≤ m ∧ m ≤ 16
    · obtain ⟨hr1, hr2, hr3⟩ := hr
      go_enter Try.func16, Try.ntmps16
      go_wp2_with fail
      refine (l15Signal_is HS.out H.out hn).mono ?_
      rintro e w' ⟨rfl, rfl⟩
      go_wp2_with fail
      refine (range_yes _ _ _ hr1 hr2 hr3).mono ?_
      rintro e w' ⟨rfl, rfl⟩
      go_wp2_with fail
      go_loop [9, 10] (fun p i => ∃ k : Nat, k ≤ n' ∧ i = .int .i64 k ∧ p = .int .i64 (prev cuts k) ∧ Chain cuts l m k) (fun _ i => n' - (intOf i).toNat)
      case atStart => exact ⟨0, Nat.zero_le _, rfl, rfl, fun j hj => by omega⟩
      case round =>
        obtain ⟨k, hk, rfl, rfl, hch⟩ := hrel
        have hpb := hch.prev_bd hr1 hr3 k (Nat.le_refl _)
        by_cases hlt : k < n'
        · obtain ⟨g, off, rfl, _, hg, hcell⟩ := H'.out.at_ hlt
          by_cases h1 : prev cuts k + l ≤ nth cuts k ∧ nth cuts k ≤ prev cuts k + m
          · obtain ⟨h1, h2⟩ := h1
            by_cases h3 : (n : Int) ≤ nth cuts k
            · have HN := Lib.hid (okCuts_no_far (costs := costs) (l := l) (m := m) k (by rw [H'.out.len]; exact hlt) (by rw [H.out.len]; exact h3))
              go_wp2_with (go_at_call 24; refine (in_yes _ _ _ _ h1 h2).mono ?_; rintro e w' ⟨rfl, rfl⟩)
              go_ret
              exact ⟨ret_bool HN.out.symm, rfl⟩
            · go_wp2_with (go_at_call 24; refine (in_yes _ _ _ _ h1 h2).mono ?_; rintro e w' ⟨rfl, rfl⟩)
              go_round
              case rel => exact ⟨k + 1, by omega, by go_num, by rw [prev_succ], hch.succ h1 h2⟩
              case measure => simp [intOf]; omega
          · have HN := Lib.hid (okCuts_no_at (costs := costs) k (by rw [H'.out.len]; exact hlt) h1)
            have H1 := Lib.hid h1
            clear h1
            go_wp2_with (go_at_call 24; refine (in_no _ _ _ _ H1.out).mono ?_; rintro e w' ⟨rfl, rfl⟩)
            go_ret
            exact ⟨ret_bool HN.out.symm, rfl⟩
        · obtain rfl : k = n' := by omega
          have hsl := okSig_len HS.out
          rw [H.out.len] at hsl
          have hsl1 := hsl.1
          clear hsl
          by_cases h1 : prev cuts k = (n : Int) - 1
          · have HN := Lib.hid (okCuts_yes (cuts := cuts) HS.out hr1 hr2 hr3 (by rw [H'.out.len]; exact hch) (by rw [H'.out.len, H.out.len]; exact h1))
            have hd : (prev cuts k == (n : Int) - 1) = true := by simpa using h1
            clear h1
            go_wp2_with fail
            go_ret
            exact ⟨ret_bool HN.out.symm, rfl⟩
          · have hd : (prev cuts k == (n : Int) - 1) = false := by simpa using h1
            have HN : Hid (okCuts costs l m cuts = false) := by
              by_cases h0 : cuts.length = 0
              · exact okCuts_no_nil h0
              · refine okCuts_no_last (fun e => h1 ?_)
                have e2 : prev cuts k = nth cuts (cuts.length - 1) := by
                  unfold prev; rw [if_neg (by rw [← H'.out.len]; exact h0), H'.out.len]
                rw [e2, e, H.out.len]
            clear h1
            go_wp2_with fail
            go_ret
            exact ⟨ret_bool HN.out.symm, rfl⟩
    · rw [okCuts_no_lim hr]
      have HR := Lib.hid hr
      clear hr
      go_enter Try.func16, Try.ntmps16
      go_wp2_with fail
      refine (l15Signal_is HS.out H.out hn).mono ?_
      rintro e w' ⟨rfl, rfl⟩
      go_wp2_with fail
      refine (range_no _ _ _ HR.out).mono ?_
      rintro e w' ⟨rfl, rfl⟩
      go_wp2_with fail
      go_ret
      exact ⟨rfl, rfl⟩

set_option maxHeartbeats 1000000 in
theorem implAllowed_any (a b : Option Addr) (n c lo n' c' lo' : Nat) (costs cuts : List Int) (l m : Int) (w : World) (h : IRow w lo a n c costs) (h' : IRow w lo' b n' c' cuts) (hn : n ≤ 1048576) (hn' : n' ≤ 1048576) :
    Calls Try.prog 18 #[.slice a n c, .int .i64 l, .int .i64 m, .slice b n' c'] w fun e w' => e = .returned (.bool (okCuts costs l m cuts)) ∧ w = w' := by
  have H := Lib.hid h
  have H' := Lib.hid h'
  clear h h'
  cases hs : okSig costs with
  | false =>
    rw [okCuts_no_sig hs]
    have HS := Lib.hid hs
    clear hs
    go_enter Try.func18, Try.ntmps18
    go_wp2_with fail
    refine (signalValid_is HS.out H.out hn).mono ?_
    rintro e w' ⟨rfl, rfl⟩
    go_wp2_with fail
    go_ret
    exact ⟨rfl, rfl⟩
  | true =>
    have HS := Lib.hid hs
    have hsl := okSig_len hs
    rw [H.out.len] at hsl
    obtain ⟨hsl1, hsl2⟩ := hsl
    clear hs
    by_cases hr : 1 ≤ l ∧ l ≤ m ∧ m ≤ 16
    · obtain ⟨hr1, hr2, hr3⟩ := hr
      by_cases h0 : n' = 0
      · subst h0
        rw [okCuts_no_nil H'.out.len]
        go_enter Try.func18, Try.ntmps18
        go_wp2_with fail
        refine (signalValid_is HS.out H.out hn).mono ?_
        rintro e w' ⟨rfl, rfl⟩
        go_wp2_with fail
        refine (dist_yes _ _ _ hr1 hr2 hr3).mono ?_
        rintro e w' ⟨rfl, rfl⟩
        go_wp2_with fail
        go_ret
        exact ⟨rfl, rfl⟩
      · obtain ⟨q, rfl⟩ : ∃ q, n' = q + 1 := ⟨n' - 1, by omega⟩
        clear h0
        obtain ⟨g, off, rfl, _, hg, hcl⟩ := H'.out.at_ (k := q) (by omega)
        have d0 : ((q : Int) + 1 == 0) = false := by simp; omega
        by_cases h1 : nth cuts q = (n : Int) - 1
        · have hd : (nth cuts q != (n : Int) - 1) = false := by simpa using h1
          have H1 := Lib.hid h1
          clear h1
          go_enter Try.func18, Try.ntmps18
          go_wp2_with fail
          refine (signalValid_is HS.out H.out hn).mono ?_
          rintro e w' ⟨rfl, rfl⟩
          go_wp2_with fail
          refine (dist_yes _ _ _ hr1 hr2 hr3).mono ?_
          rintro e w' ⟨rfl, rfl⟩
          go_wp2_with fail
          clear hcl
          go_loop [9, 40] (fun p i => ∃ k : Nat, k ≤ q + 1 ∧ i = .int .i64 k ∧ p = .int .i64 (prev cuts k) ∧ Chain cuts l m k) (fun _ i => q + 1 - (intOf i).toNat)
          case atStart => exact ⟨0, Nat.zero_le _, rfl, rfl, fun j hj => by omega⟩
          case round =>
            obtain ⟨k, hk, rfl, rfl, hch⟩ := hrel
            have hpb := hch.prev_bd hr1 hr3 k (Nat.le_refl _)
            by_cases hlt : k < q + 1
            · have hcell : w.cell? ⟨g, off + k, none⟩ = some (.int .i64 (nth cuts k)) := by
                obtain ⟨g', off', e, _, _, hc⟩ := H'.out.at_ hlt
                injection e with e
                injection e with e1 e2 _
                subst e1 e2
                exact hc
              by_cases h1 : nth cuts k < prev cuts k + l
              · have HN := Lib.hid (okCuts_no_at (costs := costs) (l := l) (m := m) k (by rw [H'.out.len]; exact hlt) (by omega))
                go_wp2_with fail
                go_ret
                exact ⟨ret_bool HN.out.symm, rfl⟩
              · by_cases h2 : prev cuts k + m < nth cuts k
                · have HN := Lib.hid (okCuts_no_at (costs := costs) (l := l) (m := m) k (by rw [H'.out.len]; exact hlt) (by omega))
                  go_wp2_with fail
                  go_ret
                  exact ⟨ret_bool HN.out.symm, rfl⟩
                · go_wp2_with fail
                  go_round
                  case rel => exact ⟨k + 1, by omega, by go_num, by rw [prev_succ], hch.succ (by omega) (by omega)⟩
                  case measure => simp [intOf]; omega
            · obtain rfl : k = q + 1 := by omega
              have HN := Lib.hid (okCuts_yes (cuts := cuts) HS.out hr1 hr2 hr3 (by rw [H'.out.len]; exact hch) (by rw [H'.out.len, H.out.len, prev_succ]; exact H1.out))
              go_wp2_with fail
              go_ret
              exact ⟨ret_bool HN.out.symm, rfl⟩
        · have hd : (nth cuts q != (n : Int) - 1) = true := by simpa using h1
          rw [okCuts_no_last (by rw [H'.out.len, H.out.len]; exact h1)]
          clear h1
          go_enter Try.func18, Try.ntmps18
          go_wp2_with fail
          refine (signalValid_is HS.out H.out hn).mono ?_
          rintro e w' ⟨rfl, rfl⟩
          go_wp2_with fail
          refine (dist_yes _ _ _ hr1 hr2 hr3).mono ?_
          rintro e w' ⟨rfl, rfl⟩
          go_wp2_with fail
          go_ret
          exact ⟨rfl, rfl⟩
    · rw [okCuts_no_lim hr]
      have HR := Lib.hid hr
      clear hr
      go_enter Try.func18, Try.ntmps18
      go_wp2_with fail
      refine (signalValid_is HS.out H.out hn).mono ?_
      rintro e w' ⟨rfl, rfl⟩
      go_wp2_with fail
      refine (dist_no _ _ _ HR.out).mono ?_
      rintro e w' ⟨rfl, rfl⟩
      go_wp2_with fail
      go_ret
      exact ⟨rfl, rfl⟩

end Go.Proofs.Ytlelnnooemachaa
