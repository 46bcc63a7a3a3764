/- The walks of the two versions of RecordRebin. -/
import Derived.Test.YtdcmlmdoiekdfaaBetw2
import Derived.Test.YtdcmlmdoiekdfaaFBase
namespace Go.Proofs.Ytdcmlmdoiekdfaa
open Go.RowKit

theorem rebT_some {es am os : List Int} {j : Nat} {L : List Fr} {f : Fr} (h : rebT es am os j = some L) (hf : bet es am (nth os j) (nth os (j + 1)) = some f) : rebT es am os (j + 1) = some (L ++ [f]) := by
  rw [rebT, h, Option.bind_some, hf]; rfl
theorem rebT_no {es am os : List Int} {j : Nat} {L : List Fr} (h : rebT es am os j = some L) (hf : bet es am (nth os j) (nth os (j + 1)) = none) : rebT es am os (j + 1) = none := by
  rw [rebT, h, Option.bind_some, hf]; rfl
theorem rebT_none {es am os : List Int} {k : Nat} (h : rebT es am os k = none) : ∀ j, rebT es am os (k + j) = none
  | 0 => h
  | j + 1 => by rw [← Nat.add_assoc, rebT, rebT_none h j]; rfl
theorem reb_none {es am os : List Int} {k : Nat} (hk : k ≤ os.length - 1) (h : rebT es am os k = none) : reb es am os = none := by
  have := rebT_none h (os.length - 1 - k)
  rwa [show k + (os.length - 1 - k) = os.length - 1 by omega] at this
/-- What RecordRebin returns. -/
def rebV (es am os : List Int) : Option (List Fr) := if okR es am = true ∧ okE os = true then reb es am os else none
theorem rebV_ok {es am os : List Int} (h : okR es am = true) (h' : okE os = true) : rebV es am os = reb es am os := if_pos ⟨h, h'⟩
theorem rebV_no {es am os : List Int} (h : okR es am = false ∨ okE os = false) : rebV es am os = none := if_neg fun hh => by rcases h with h | h; rw [h] at hh; exact absurd hh.1 (by simp); rw [h] at hh; exact absurd hh.2 (by simp)
theorem own_below {w w' : World} {base : Nat} {e : TypeId} {size n : Nat} {v : Value} {xs : List Value} (h : w.ownsRow base e size v n xs) (hb : Below w.heap.size w w') : w'.ownsRow base e size v n xs :=
  h.kept (grown_below hb none) (by
    cases hv : v.ownBlock with
    | none => exact .inl rfl
    | some k => exact .inr (fun e => by cases e))
theorem retFr_nil {w w' : World} (a : Option Addr) (c : Nat) (hb : Below w.heap.size w w') : RetFrB [] false w (.returned (.tuple #[.slice a 0 c, .bool false])) w' :=
  ⟨a, 0, c, rfl, ⟨rfl, Nat.zero_le _, fun h => absurd h (by omega)⟩, fun _ _ _ j hj => absurd hj (by omega), hb⟩

theorem implRB_some {a : Option Addr} {n c lo : Nat} {es : List Int} {a' : Option Addr} {n' c' lo' : Nat} {am : List Int} {t b f1 f2 : Int} {w : World} (h : IRow w lo a n c es) (h' : IRow w lo' a' n' c' am) (hok : okR es am = true) (hs : okSpan t b = true) (ho : bet es am t b = some (f1, f2)) :
    Calls Try.prog 9 #[.slice a n c, .slice a' n' c', .int .i64 t, .int .i64 b] w fun e w' => e = .returned (.tuple #[.agg #[.int .i64 f1, .int .i64 f2], .bool true]) ∧ Below w.heap.size w w' := implRB_ok _ _ _ _ _ _ _ _ _ _ _ _ _ h h' hok hs ho
theorem implRB_none {a : Option Addr} {n c lo : Nat} {es : List Int} {a' : Option Addr} {n' c' lo' : Nat} {am : List Int} {t b : Int} {w : World} (h : IRow w lo a n c es) (h' : IRow w lo' a' n' c' am) (hok : okR es am = true) (hs : okSpan t b = true) (ho : bet es am t b = none) :
    Calls Try.prog 9 #[.slice a n c, .slice a' n' c', .int .i64 t, .int .i64 b] w fun e w' => e = .returned (.tuple #[.agg #[.int .i64 0, .int .i64 0], .bool false]) ∧ Below w.heap.size w w' := implRB_ok _ _ _ _ _ _ _ _ _ _ _ _ _ h h' hok hs ho

theorem specRB_some {a : Option Addr} {n c lo : Nat} {es : List Int} {a' : Option Addr} {n' c' lo' : Nat} {am : List Int} {t b f1 f2 : Int} {w : World} (h : IRow w lo a n c es) (h' : IRow w lo' a' n' c' am) (hok : okR es am = true) (hs : okSpan t b = true) (ho : bet es am t b = some (f1, f2)) :
    Calls Try.prog 15 #[.slice a n c, .slice a' n' c', .int .i64 t, .int .i64 b] w fun e w' => e = .returned (.tuple #[.agg #[.int .i64 f1, .int .i64 f2], .bool true]) ∧ Below w.heap.size w w' := specRB_ok _ _ _ _ _ _ _ _ _ _ _ _ _ h h' hok hs ho
theorem specRB_none {a : Option Addr} {n c lo : Nat} {es : List Int} {a' : Option Addr} {n' c' lo' : Nat} {am : List Int} {t b : Int} {w : World} (h : IRow w lo a n c es) (h' : IRow w lo' a' n' c' am) (hok : okR es am = true) (hs : okSpan t b = true) (ho : bet es am t b = none) :
    Calls Try.prog 15 #[.slice a n c, .slice a' n' c', .int .i64 t, .int .i64 b] w fun e w' => e = .returned (.tuple #[.agg #[.int .i64 0, .int .i64 0], .bool false]) ∧ Below w.heap.size w w' := specRB_ok _ _ _ _ _ _ _ _ _ _ _ _ _ h h' hok hs ho

set_option maxRecDepth 100000 in
set_option maxHeartbeats 2000000 in
theorem implReb_go (a : Option Addr) (n c lo : Nat) (es : List Int) (a' : Option Addr) (n' c' lo' : Nat) (am : List Int) (a'' : Option Addr) (m c'' lo'' : Nat) (os : List Int) (w : World) (h : IRow w lo a n c es) (h' : IRow w lo' a' n' c' am) (h'' : IRow w lo'' a'' m c'' os) (hok : okR es am = true) (hoe : okE os = true) {o : Option (List Fr)} (ho : reb es am os = o) :
    Calls Try.prog 5 #[.slice a n c, .slice a' n' c', .slice a'' m c''] w (RetFrB (o.getD []) o.isSome w) := by
  have hm := okE_bd hoe
  rw [h''.len] at hm
  obtain ⟨hm1, hm2⟩ := hm
  have hrl := (okR_parts hok).2.1
  have hel := okE_bd (okR_parts hok).1
  rw [h.len, h'.len] at hrl
  rw [h.len] at hel
  have H := Lib.hid h
  have H' := Lib.hid h'
  have HX := Lib.hid h''
  have HK := Lib.hid hok
  have HE := Lib.hid hoe
  have HB := Lib.hid ho
  have HL : Hid (os.length = m) := h''.len
  clear h h' h'' hok hoe ho
  go_enter Try.func5, Try.ntmps5
  go_wp2_with fail
  refine (implRV_is HK.out H.out H'.out (by omega) (by omega)).mono ?_
  rintro e w1 ⟨rfl, b1⟩
  go_wp2_with fail
  refine (implEdges_is HE.out (HX.out.keep b1) (by omega)).mono ?_
  rintro e w2 ⟨rfl, b2⟩
  have B := below2 b1 b2
  have b0 : Below w2.heap.size w2 w2 := Below.refl _ _
  have ho0 : w2.ownsRow w2.heap.size 31 2 (.slice none 0 0) 0 (flatF []) := World.ownsRow_nil _ _ _ _
  have hBs := B.size
  have BB := Lib.hid B
  clear b1 b2
  go_wp2_with fail
  go_loopw [8, 9] (fun vo vk wr => ∃ (j : Nat) (L : List Fr), j + 1 ≤ m ∧ vk = .int .i64 ((j : Int) + 1) ∧ Hid (rebT es am os j = some L) ∧ wr.ownsRow w2.heap.size 31 2 vo j (flatF L) ∧ Below w2.heap.size w2 wr ∧ Below w.heap.size w wr) (fun _ vk _ => m - (intOf vk).toNat)
  case atStart => exact ⟨0, [], by omega, rfl, rfl, ho0, b0, B⟩
  case round =>
    clear ho0 b0 B
    obtain ⟨j, L, hj, rfl, hL, hown, hb, BW⟩ := hrel
    by_cases hlt : j + 1 < m
    · have oj := okE_at HE.out (k := j) (by rw [HL.out]; omega)
      have oj1 := okE_at HE.out (k := j + 1) (by rw [HL.out]; omega)
      have olt := okE_lt HE.out (k := j) (by rw [HL.out]; omega)
      obtain ⟨g, off, rfl, _, hg, hc0⟩ := (HX.out.keep BW).at_ (show j < m by omega)
      have hc1 := (HX.out.keep BW).cellAt hlt
      obtain ⟨t, ht⟩ : ∃ t, nth os j = t := ⟨_, rfl⟩
      obtain ⟨b, hbb⟩ : ∃ b, nth os (j + 1) = b := ⟨_, rfl⟩
      have hsome := fun f => rebT_some (f := f) hL.out
      have hno := rebT_no hL.out
      rw [ht, hbb] at hsome hno
      rw [ht] at oj olt hc0
      rw [hbb] at oj1 olt hc1
      have HS := Lib.hid (okSpan_mk oj.1 (by omega : t ≤ b) oj1.2)
      have KS : Hid (∀ w' : World, Below wr.heap.size wr w' → (w'.cell? ⟨g, off + j, none⟩ = some (.int .i64 t) ∧ w'.cell? ⟨g, off + (j + 1), none⟩ = some (.int .i64 b))) := fun w' hb => ⟨(hb.cell (p := ⟨g, off + j, none⟩) hg).trans hc0, (hb.cell (p := ⟨g, off + (j + 1), none⟩) hg).trans hc1⟩
      obtain ⟨on, hon⟩ : ∃ on, bet es am t b = on := ⟨_, rfl⟩
      have HF := Lib.hid hon
      have HSO := Lib.hid hsome
      have HNO := Lib.hid hno
      have n1 : (0 : Int) ≤ j := by omega
      have n2 : (j : Int) + 1 < m := by omega
      have n3 : (j : Int) < m := by omega
      have n5 : (0 : Int) ≤ (j : Int) + 1 := by omega
      have s3 : IntKind.i64.wrap ((j : Int) + 1 - 1) = (j : Int) := by rw [IntWalk.i64_in _ (by omega)]; omega
      have s4 : ((j : Int) + 1).toNat = j + 1 := by omega
      have s6 : IntKind.i64.wrap (j : Int) = (j : Int) := IntWalk.i64_in _ (by omega)
      clear ht hbb hon hsome hno
      go_upto_region 7 with (fail)
      go_cut [10, 11] from 21 to 47 (fun s10 s11 w' => ∃ (P : Nat) (r1 r2 : Int) (bo : Bool), s10 = .pointer (some ⟨P, 0, none⟩) ∧ s11 = .bool bo ∧ Two w' P r1 r2 ∧ Hid (on = none ∧ bo = false ∨ on = some (r1, r2) ∧ bo = true) ∧ Below wr.heap.size wr w')
      case first =>
        cases on with
        | none =>
          go_region_held3 (fun w' => w'.cell? ⟨g, off + j, none⟩ = some (.int .i64 t) ∧ w'.cell? ⟨g, off + (j + 1), none⟩ = some (.int .i64 b))
            (first
              | exact KS.out _ (Below.refl _ _).drew
              | exact KS.out _ ((cB.setCell leP _).setCell leP _)
              | exact KS.out _ (cB.alloc cB.size _)
              | exact KS.out _ cB
              | exact KS.out _ ((Below.refl _ _).alloc (Nat.le_refl _) _).drew
              | go_keep)
            (first
              | (go_at_call 9; refine (implRB_none (H.out.keep (BW.drew)) (H'.out.keep (BW.drew)) HK.out HS.out HF.out).mono ?_; rintro e wB ⟨rfl, bB⟩; have cB : Below wr.heap.size wr wB := below2 (Below.refl _ _).drew bB)
              | (go_at_call 9; refine (implRB_none (H.out.keep ((BW.alloc BW.size _).drew)) (H'.out.keep ((BW.alloc BW.size _).drew)) HK.out HS.out HF.out).mono ?_; rintro e wB ⟨rfl, bB⟩; have cB : Below wr.heap.size wr wB := below2 ((Below.refl _ _).alloc (Nat.le_refl _) _) (below2 (Below.refl _ _).drew bB); have PB := (Two.new wr 0 0 31).next (below2 (Below.refl _ _).drew bB); have leP : wr.heap.size ≤ wr.heap.size := Nat.le_refl _; obtain ⟨_, pc0, pc1, pf0, pf1⟩ := PB; have PB := (Two.new wr 0 0 31).next (below2 (Below.refl _ _).drew bB)))
          all_goals
            go_wp2_with fail
            go_meet
            case rel =>
              first
                | exact ⟨_, 0, 0, false, rfl, rfl, PB.set 0 0, (by first | exact Or.inl ⟨rfl, rfl⟩ | exact Or.inl ⟨trivial, rfl⟩ | exact Or.inl ⟨trivial, trivial⟩), (cB.setCell leP _).setCell leP _⟩
                | exact ⟨_, 0, 0, false, rfl, rfl, Two.new wB 0 0 31, (by first | exact Or.inl ⟨rfl, rfl⟩ | exact Or.inl ⟨trivial, rfl⟩ | exact Or.inl ⟨trivial, trivial⟩), cB.alloc cB.size _⟩
        | some ff =>
          obtain ⟨p1, p2⟩ := ff
          go_region_held3 (fun w' => w'.cell? ⟨g, off + j, none⟩ = some (.int .i64 t) ∧ w'.cell? ⟨g, off + (j + 1), none⟩ = some (.int .i64 b))
            (first
              | exact KS.out _ (Below.refl _ _).drew
              | exact KS.out _ ((cB.setCell leP _).setCell leP _)
              | exact KS.out _ (cB.alloc cB.size _)
              | exact KS.out _ cB
              | exact KS.out _ ((Below.refl _ _).alloc (Nat.le_refl _) _).drew
              | go_keep)
            (first
              | (go_at_call 9; refine (implRB_some (H.out.keep (BW.drew)) (H'.out.keep (BW.drew)) HK.out HS.out HF.out).mono ?_; rintro e wB ⟨rfl, bB⟩; have cB : Below wr.heap.size wr wB := below2 (Below.refl _ _).drew bB)
              | (go_at_call 9; refine (implRB_some (H.out.keep ((BW.alloc BW.size _).drew)) (H'.out.keep ((BW.alloc BW.size _).drew)) HK.out HS.out HF.out).mono ?_; rintro e wB ⟨rfl, bB⟩; have cB : Below wr.heap.size wr wB := below2 ((Below.refl _ _).alloc (Nat.le_refl _) _) (below2 (Below.refl _ _).drew bB); have PB := (Two.new wr 0 0 31).next (below2 (Below.refl _ _).drew bB); have leP : wr.heap.size ≤ wr.heap.size := Nat.le_refl _; obtain ⟨_, pc0, pc1, pf0, pf1⟩ := PB; have PB := (Two.new wr 0 0 31).next (below2 (Below.refl _ _).drew bB)))
          all_goals
            go_wp2_with fail
            go_meet
            case rel =>
              first
                | exact ⟨_, p1, p2, true, rfl, rfl, PB.set p1 p2, (by first | exact Or.inr ⟨rfl, rfl⟩ | exact Or.inr ⟨trivial, rfl⟩ | exact Or.inr ⟨trivial, trivial⟩), (cB.setCell leP _).setCell leP _⟩
                | exact ⟨_, p1, p2, true, rfl, rfl, Two.new wB p1 p2 31, (by first | exact Or.inr ⟨rfl, rfl⟩ | exact Or.inr ⟨trivial, rfl⟩ | exact Or.inr ⟨trivial, trivial⟩), cB.alloc cB.size _⟩
      case rest =>
        obtain ⟨P, r1, r2, bo, rfl, rfl, TY, hcases, cY⟩ := hcut
        have hown := own_below hown cY
        have hb := below2 hb cY
        have BW := below2 BW cY
        have hbs := hb.size
        clear KS hc0 hc1 cY n1 n2 n3 n5 s3 s4 s6
        obtain ⟨wz, hwz⟩ : ∃ wz, wc = wz := ⟨_, rfl⟩
        rw [hwz] at TY hown hb BW hbs ⊢
        clear hwz
        obtain ⟨_, z2, z3, _, _⟩ := TY
        rcases hcases.out with ⟨h1, rfl⟩ | ⟨h1, rfl⟩
        · have e : o = none := by rw [← HB.out]; exact reb_none (k := j + 1) (by rw [HL.out]; omega) (HNO.out (HF.out.trans h1))
          subst e
          clear h1 hcases z2 z3
          go_wp2_with fail
          go_ret2
          exact retFr_nil _ _ BW
        · have hfn : Hid (rebT es am os (j + 1) = some (L ++ [(r1, r2)])) := HSO.out _ (HF.out.trans h1)
          clear h1 hcases
          go_wp2_with (at_builtin; refine wpList_append_frac _ rfl _ _ rfl w2.heap.size _ _ _ rfl r1 r2 wz.heap.size rfl (hown.alloc _) (by simp) (by simp) (by omega) (by simp; omega) ?_; intro v' w4 hown4 hgrow4)
          have b4 : Below w2.heap.size w2 w4 := below_append hb hbs hown hgrow4
          have B4 : Below w.heap.size w w4 := below2 BB.out b4
          go_roundw
          case rel => exact ⟨j + 1, L ++ [(r1, r2)], by omega, by go_num, hfn, hown4, b4, B4⟩
          case measure => simp [intOf]; omega
    · obtain rfl : m = j + 1 := by omega
      have e : o = some L := by rw [← HB.out]; unfold reb; rw [HL.out]; exact hL.out
      subst e
      obtain ⟨ax, cx, rfl, hrow, hfree⟩ := FRow.of_own hown
      go_wp2_with fail
      go_ret2
      exact ⟨ax, j, cx, rfl, hrow.lower hBs, hfree, BW⟩

end Go.Proofs.Ytdcmlmdoiekdfaa
