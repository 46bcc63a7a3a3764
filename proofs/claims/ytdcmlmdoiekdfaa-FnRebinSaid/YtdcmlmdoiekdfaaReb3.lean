/- RecordRebin at whatever rows; sameFracs; addFracs. -/
import Derived.Test.YtdcmlmdoiekdfaaReb2
namespace Go.Proofs.Ytdcmlmdoiekdfaa
open Go.RowKit

theorem implReb_is {a : Option Addr} {n c lo : Nat} {es : List Int} {a' : Option Addr} {n' c' lo' : Nat} {am : List Int} {a'' : Option Addr} {m c'' lo'' : Nat} {os : List Int} {w : World} {o : Option (List Fr)} (ho : rebV es am os = o) (h : IRow w lo a n c es) (h' : IRow w lo' a' n' c' am) (h'' : IRow w lo'' a'' m c'' os) (hn : n ≤ 1048576) (hn' : n' ≤ 1048576) (hm : m ≤ 1048576) :
    Calls Try.prog 5 #[.slice a n c, .slice a' n' c', .slice a'' m c''] w (RetFrB (o.getD []) o.isSome w) := by
  cases h1 : okR es am with
  | false =>
    obtain rfl : none = o := (rebV_no (.inl h1)).symm.trans ho
    have HK := Lib.hid h1
    clear h1 ho
    go_enter Try.func5, Try.ntmps5
    go_wp2_with fail
    refine (implRV_is HK.out h h' hn hn').mono ?_
    rintro e w1 ⟨rfl, b1⟩
    go_wp2_with fail
    go_ret2
    exact retFr_nil _ _ b1
  | true =>
    cases h2 : okE os with
    | false =>
      obtain rfl : none = o := (rebV_no (.inr h2)).symm.trans ho
      have HK := Lib.hid h1
      have HE := Lib.hid h2
      clear h1 h2 ho
      go_enter Try.func5, Try.ntmps5
      go_wp2_with fail
      refine (implRV_is HK.out h h' hn hn').mono ?_
      rintro e w1 ⟨rfl, b1⟩
      go_wp2_with fail
      refine (implEdges_is HE.out (h''.keep b1) hm).mono ?_
      rintro e w2 ⟨rfl, b2⟩
      go_wp2_with fail
      go_ret2
      exact retFr_nil _ _ (below2 b1 b2)
    | true => exact implReb_go _ _ _ _ _ _ _ _ _ _ _ _ _ _ _ _ h h' h'' h1 h2 ((rebV_ok h1 h2).symm.trans ho)

set_option maxRecDepth 100000 in
set_option maxHeartbeats 2000000 in
theorem specReb_is {a : Option Addr} {n c lo : Nat} {es : List Int} {a' : Option Addr} {n' c' lo' : Nat} {am : List Int} {a'' : Option Addr} {m c'' lo'' : Nat} {os : List Int} {w : World} {o : Option (List Fr)} (ho : rebV es am os = o) (h : IRow w lo a n c es) (h' : IRow w lo' a' n' c' am) (h'' : IRow w lo'' a'' m c'' os) (hn : n ≤ 1048576) (hn' : n' ≤ 1048576) (hm : m ≤ 1048576) :
    Calls Try.prog 6 #[.slice a n c, .slice a' n' c', .slice a'' m c''] w (RetFrB (o.getD []) o.isSome w) := by
  have bA : Below w.heap.size w (w.alloc (.cells #[] 31)) := (Below.refl _ _).alloc (Nat.le_refl _) _
  cases h2 : okE os with
  | false =>
    obtain rfl : none = o := (rebV_no (.inr h2)).symm.trans ho
    have HE := Lib.hid h2
    clear h2 ho
    go_enter Try.func6, Try.ntmps6
    go_wp2_with fail
    refine (specEdges_is HE.out (h''.keep bA) hm).mono ?_
    rintro e w1 ⟨rfl, b1⟩
    go_wp2_with fail
    go_ret2
    exact retFr_nil _ _ (below2 bA b1)
  | true =>
    cases h1 : okR es am with
    | true => exact specReb_go _ _ _ _ _ _ _ _ _ _ _ _ _ _ _ _ h h' h'' h1 h2 ((rebV_ok h1 h2).symm.trans ho)
    | false =>
      obtain rfl : none = o := (rebV_no (.inl h1)).symm.trans ho
      have hm2 := (okE_bd h2).1
      rw [h''.len] at hm2
      have H := Lib.hid h
      have H' := Lib.hid h'
      have HX := Lib.hid h''
      have HK := Lib.hid h1
      have HE := Lib.hid h2
      clear h1 h2 ho h h' h''
      go_enter Try.func6, Try.ntmps6
      go_wp2_with fail
      refine (specEdges_is HE.out (HX.out.keep bA) hm).mono ?_
      rintro e w1 ⟨rfl, b1⟩
      have B := below2 bA b1
      clear bA b1
      go_wp2_with fail
      go_loopw [9] (fun vk wr => vk = .int .i64 1 ∧ Below w.heap.size w wr) (fun _ _ => 0)
      case atStart => exact ⟨rfl, B⟩
      case round =>
        clear B
        obtain ⟨rfl, B⟩ := hrel
        obtain ⟨g, off, rfl, _, hg, hc0⟩ := (HX.out.keep B).at_ (show 0 < m by omega)
        have hc1 := (HX.out.keep B).cellAt (show 1 < m by omega)
        rw [Nat.add_zero] at hc0
        obtain ⟨t, ht⟩ : ∃ t, nth os 0 = t := ⟨_, rfl⟩
        obtain ⟨b, hb⟩ : ∃ b, nth os 1 = b := ⟨_, rfl⟩
        rw [ht] at hc0
        rw [hb] at hc1
        have KS : Hid (∀ w' : World, Below wr.heap.size wr w' → (w'.cell? ⟨g, off, none⟩ = some (.int .i64 t) ∧ w'.cell? ⟨g, off + 1, none⟩ = some (.int .i64 b))) := fun w' hb => ⟨(hb.cell (p := ⟨g, off, none⟩) hg).trans hc0, (hb.cell (p := ⟨g, off + 1, none⟩) hg).trans hc1⟩
        have n1 : (0 : Int) < m := by omega
        have n2 : (1 : Int) < m := by omega
        have n3 : 0 < m := by omega
        have n4 : 1 < m := by omega
        have s0 : IntKind.i64.wrap (0 : Int) = 0 := IntWalk.i64_in _ (by omega)
        have s1 : IntKind.i64.wrap ((1 : Int) - 1) = 0 := IntWalk.i64_in _ (by omega)
        clear ht hb
        go_upto_region 7 with (fail)
        go_cut [10, 11] from 17 to 44 (fun s10 s11 w' => s11 = .bool false ∧ Below wr.heap.size wr w')
        case first =>
          go_region_held3 (fun w' => w'.cell? ⟨g, off, none⟩ = some (.int .i64 t) ∧ w'.cell? ⟨g, off + 1, none⟩ = some (.int .i64 b))
            (first
              | exact KS.out _ (Below.refl _ _).drew
              | exact KS.out _ ((cB.setCell leP _).setCell leP _)
              | exact KS.out _ (cB.alloc cB.size _)
              | exact KS.out _ cB
              | exact KS.out _ ((Below.refl _ _).alloc (Nat.le_refl _) _).drew
              | go_keep)
            (first
              | (go_at_call 15; refine (specRB_no _ _ _ _ _ _ _ _ _ _ _ _ _ (H.out.keep (B.drew)) (H'.out.keep (B.drew)) hn hn' HK.out).mono ?_; unfold frV; rintro e wB ⟨rfl, bB⟩; have cB : Below wr.heap.size wr wB := below2 (Below.refl _ _).drew bB)
              | (go_at_call 15; refine (specRB_no _ _ _ _ _ _ _ _ _ _ _ _ _ (H.out.keep ((B.alloc B.size _).drew)) (H'.out.keep ((B.alloc B.size _).drew)) hn hn' HK.out).mono ?_; unfold frV; rintro e wB ⟨rfl, bB⟩; have cB : Below wr.heap.size wr wB := below2 ((Below.refl _ _).alloc (Nat.le_refl _) _) (below2 (Below.refl _ _).drew bB); have PB := (Two.new wr 0 0 31).next (below2 (Below.refl _ _).drew bB); have leP : wr.heap.size ≤ wr.heap.size := Nat.le_refl _; obtain ⟨_, pc0, pc1, pf0, pf1⟩ := PB))
          all_goals
            go_wp2_with fail
            go_meet
            case rel =>
              first
                | exact ⟨rfl, (cB.setCell leP _).setCell leP _⟩
                | exact ⟨rfl, cB.alloc cB.size _⟩
        case rest =>
          obtain ⟨rfl, cY⟩ := hcut
          have B2 := below2 B cY
          go_wp2_with fail
          go_ret2
          exact retFr_nil _ _ (B2.alloc B2.size _)

set_option maxHeartbeats 400000 in
theorem sameFr_yes (a a' : Option Addr) (n c c' lo lo' : Nat) (l : List Fr) (w : World) (h : FRow w lo a n c l) (h' : FRow w lo' a' n c' l) (hn : n ≤ 1048576) :
    Calls Try.prog 7 #[.slice a n c, .slice a' n c'] w fun e w' => e = .returned (.bool true) ∧ Below w.heap.size w w' := by
  have H := Lib.hid h
  have H' := Lib.hid h'
  clear h h'
  go_enter Try.func7, Try.ntmps7
  go_wp2_with fail
  go_loopw [5] (fun i wr => ∃ k : Nat, k ≤ n ∧ i = .int .i64 k ∧ Below w.heap.size w wr) (fun i _ => n - (intOf i).toNat)
  case atStart => exact ⟨0, Nat.zero_le _, rfl, Below.refl _ _⟩
  case round =>
    obtain ⟨k, hk, rfl, hb⟩ := hrel
    by_cases hlt : k < n
    · obtain ⟨g, off, rfl, _, hg, hc, hd⟩ := (H.out.keep hb).at_ hlt
      obtain ⟨g', off', rfl, _, hg', hc', hd'⟩ := (H'.out.keep hb).at_ hlt
      have n1 : (0 : Int) ≤ k := by omega
      have n2 : (k : Int) < n := by omega
      go_wp2_with fail
      go_quiet (fail)
      have hb2 := below2 hb (below_new wr nq)
      go_wp2_with fail
      go_roundw
      case rel => exact ⟨k + 1, by omega, by go_num, hb2⟩
      case measure => simp [intOf]; omega
    · obtain rfl : n = k := by omega
      go_wp2_with fail
      go_ret
      exact ⟨rfl, hb⟩
theorem sameFr_is {a a' : Option Addr} {n n' c c' lo lo' : Nat} {l : List Fr} {w : World} (hl : l.length ≤ 1048576) (h : FRow w lo a n c l) (h' : FRow w lo' a' n' c' l) :
    Calls Try.prog 7 #[.slice a n c, .slice a' n' c'] w fun e w' => e = .returned (.bool true) ∧ Below w.heap.size w w' := by
  obtain rfl : n = n' := h.len.symm.trans h'.len
  exact sameFr_yes _ _ _ _ _ _ _ _ _ h h' (by rw [← h.len]; exact hl)

end Go.Proofs.Ytdcmlmdoiekdfaa
