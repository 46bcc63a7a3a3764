/- The reader of codes: l6Open and pick. What is said of pick: it returns a number from 0 to n - 1 and turns the reader alone. -/
import Derived.Test.YtdcmlmdoiekdfaaBase
import Derived.Laws.BitsLemmas
import Derived.Deep.RegionWith
import Derived.IntWalk
namespace Go.Proofs.Ytdcmlmdoiekdfaa
open Go.RowKit

/-- A row of bytes below block hi. -/
def BRow (w : World) (hi : Nat) (a : Option Addr) (n : Nat) : Prop :=
  0 < n → ∃ g off, a = some ⟨g, off, none⟩ ∧ g < hi ∧ ∀ j, j < n → ∃ z : Int, 0 ≤ z ∧ z ≤ 255 ∧ w.cell? ⟨g, off + j, none⟩ = some (.int .u8 z)

/-- Block b is a reader that has been asked at most p times. -/
def Rdr (w : World) (b p : Nat) : Prop :=
  b < w.heap.size ∧ ∃ (a : Option Addr) (n c q : Nat), q ≤ p ∧ n ≤ 2000 ∧ w.cell? ⟨b, 0, none⟩ = some (.slice a n c) ∧ w.cell? ⟨b, 1, none⟩ = some (.int .i64 q) ∧ w.frozen? ⟨b, 1, none⟩ = false ∧ BRow w b a n

theorem BRow.keep {w w' : World} {hi n B : Nat} {a : Option Addr} (h : BRow w hi a n) (hb : Below B w w') (hB : hi ≤ B) : BRow w' hi a n := fun hn => by
  obtain ⟨g, off, e, hg, hc⟩ := h hn
  refine ⟨g, off, e, hg, fun j hj => ?_⟩
  obtain ⟨z, z0, z1, hz⟩ := hc j hj
  exact ⟨z, z0, z1, (hb.cell (p := ⟨g, off + j, none⟩) (by simp; omega)).trans hz⟩

/-- What turns no block up to b keeps the reader. -/
theorem Rdr.keep {w w' : World} {b p B : Nat} (h : Rdr w b p) (hb : Below B w w') (hB : b < B) : Rdr w' b p := by
  obtain ⟨hlt, a, n, c, q, h1, h2, h3, h4, h5, h6⟩ := h
  exact ⟨Nat.lt_of_lt_of_le hlt hb.size, a, n, c, q, h1, h2, (hb.cell (p := ⟨b, 0, none⟩) hB).trans h3, (hb.cell (p := ⟨b, 1, none⟩) hB).trans h4, (hb.frozen (p := ⟨b, 1, none⟩) hB).trans h5, h6.keep hb (by omega)⟩
theorem Rdr.more {w : World} {b p p' : Nat} (h : Rdr w b p) (hp : p ≤ p') : Rdr w b p' := by
  obtain ⟨hlt, a, n, c, q, h1, h2, h3⟩ := h
  exact ⟨hlt, a, n, c, q, by omega, h2, h3⟩

/-- The call returns a number from 0 to n - 1; of what was there only the reader has turned. -/
def Picked (n : Nat) (b p : Nat) (w : World) (e : Ending) (w' : World) : Prop :=
  ∃ x : Nat, x < n ∧ e = .returned (.int .i64 x) ∧ Rdr w' b (p + 1) ∧ w.grownBy w' (some b)

theorem xor_i64_nat (a b : Nat) (ha : a < 2 ^ 62) (hb : b < 2 ^ 62) : bits .xor .i64 (a : Int) (b : Int) = ((a ^^^ b : Nat) : Int) := by
  have h1 : (BitVec.ofInt 64 (a : Int)).toNat = a := by
    rw [BitVec.ofInt_natCast, BitVec.toNat_ofNat]; exact Nat.mod_eq_of_lt (by omega)
  have h2 : (BitVec.ofInt 64 (b : Int)).toNat = b := by
    rw [BitVec.ofInt_natCast, BitVec.toNat_ofNat]; exact Nat.mod_eq_of_lt (by omega)
  have hx : a ^^^ b < 2 ^ 62 := Nat.xor_lt_two_pow ha hb
  show IntKind.i64.wrap ((BitVec.ofInt 64 (a : Int) ^^^ BitVec.ofInt 64 (b : Int)).toNat : Int) = _
  rw [BitVec.toNat_xor, h1, h2]
  exact IntWalk.i64_in _ (by omega)

theorem grown_setCell (w : World) (b o : Nat) (v : Value) (m : Nat) : w.grownBy ((w.setCell ⟨b, o, none⟩ v).drewN m) (some b) :=
  ⟨rfl, rfl, rfl, by simp [World.setCell], fun k _ hne => Below.heap_setCell w ⟨b, o, none⟩ v k (fun e => hne (by rw [e]))⟩
theorem rdr_step {w : World} {b p q n c : Nat} {a : Option Addr} (hlt : b < w.heap.size) (h1 : q ≤ p) (h2 : n ≤ 2000) (h3 : w.cell? ⟨b, 0, none⟩ = some (.slice a n c)) (h4 : w.cell? ⟨b, 1, none⟩ = some (.int .i64 q)) (h5 : w.frozen? ⟨b, 1, none⟩ = false) (h6 : BRow w b a n) (m : Nat) :
    Rdr ((w.setCell ⟨b, 1, none⟩ (.int .i64 ((q : Int) + 1))).drewN m) b (p + 1) := by
  refine ⟨by simpa [World.setCell] using hlt, a, n, c, q + 1, by omega, h2, ?_, ?_, ?_, ?_⟩
  · show (w.setCell _ _).cell? _ = _
    rw [World.cell?_setCell_other _ _ _ _ (by simp)]; exact h3
  · show (w.setCell _ _).cell? _ = _
    rw [World.cell?_setCell_same _ _ _ h4]; simp
  · show (w.setCell _ _).frozen? _ = _
    simpa [World.frozen?_setCell] using h5
  · exact h6.keep (B := b) (below_drewN ((Below.refl b w).setCell (Nat.le_refl _) _) m) (Nat.le_refl _)

theorem Picked.mk {n b p x : Nat} {w w' : World} {e : Ending} (hx : x < n) (he : e = .returned (.int .i64 x)) (hr : Rdr w' b (p + 1)) (hg : w.grownBy w' (some b)) : Picked n b p w e w' := ⟨x, hx, he, hr, hg⟩

set_option maxRecDepth 100000 in
set_option maxHeartbeats 1000000 in
theorem pick_any (b p n : Nat) (w : World) (h : Rdr w b p) (hp : p ≤ 100000) (h1 : 1 ≤ n) (h2 : n ≤ 1000) :
    Calls Try.prog 21 #[.pointer (some ⟨b, 0, none⟩), .int .i64 n] w (Picked n b p w) := by
  obtain ⟨hlt, a, nb, c, q, hq, hnb, hc0, hc1, hf1, hbr⟩ := h
  have HR := fun m => rdr_step (p := p) hlt hq hnb hc0 hc1 hf1 hbr m
  have HR := Lib.hid HR
  have HB := Lib.hid hbr
  clear hbr
  have c0 : (w.setCell ⟨b, 1, none⟩ (.int .i64 ((q : Int) + 1))).cell? ⟨b, 0, none⟩ = some (.slice a nb c) := by
    rw [World.cell?_setCell_other _ _ _ _ (by simp)]; exact hc0
  have c1 : (w.setCell ⟨b, 1, none⟩ (.int .i64 ((q : Int) + 1))).cell? ⟨b, 1, none⟩ = some (.int .i64 ((q : Int) + 1)) := World.cell?_setCell_same _ _ _ hc1
  by_cases h0 : nb = 0
  · subst h0
    go_enter Try.func21, Try.ntmps21
    go_wp2
    go_ret
    exact Picked.mk (x := 0) (by omega) rfl (HR.out 0) (grown_setCell w b 1 _ 0)
  · obtain ⟨g, off, rfl, hg, hz⟩ := HB.out (by omega)
    have d0 : ((nb : Int) == 0) = false := by simpa using h0
    have keep : ∀ j v, w.cell? ⟨g, off + j, none⟩ = some v → (w.setCell ⟨b, 1, none⟩ (.int .i64 ((q : Int) + 1))).cell? ⟨g, off + j, none⟩ = some v := fun j v hv => by
      rw [World.cell?_setCell_other _ _ _ _ (by intro e; injection e with e1 _ _; omega)]; exact hv
    by_cases hlt2 : q < nb
    · obtain ⟨z, z0, z1, hcz⟩ := hz q hlt2
      obtain ⟨z, rfl⟩ := Int.eq_ofNat_of_zero_le z0
      have cz := keep _ _ hcz
      have HZ := Lib.hid hz
      clear hz keep hcz
      go_enter Try.func21, Try.ntmps21
      go_wp2
      go_ret
      exact Picked.mk (x := z % n) (Nat.mod_lt _ (by omega)) (ret_int (by omega)) (HR.out 0) (grown_setCell w b 1 _ 0)
    · obtain ⟨i, hi⟩ : ∃ i, i = q % nb := ⟨_, rfl⟩
      obtain ⟨j, hj⟩ : ∃ j, j = (q * 7 + 3) % nb := ⟨_, rfl⟩
      obtain ⟨d, hd⟩ : ∃ d, d = q / nb := ⟨_, rfl⟩
      have m1 : i < nb := by rw [hi]; exact Nat.mod_lt _ (by omega)
      have m2 : j < nb := by rw [hj]; exact Nat.mod_lt _ (by omega)
      have m3 : d ≤ q := by rw [hd]; exact Nat.div_le_self _ _
      have t1 : Int.tmod (q : Int) nb = (i : Int) := by rw [hi, Int.natCast_emod]; exact Int.tmod_eq_emod_of_nonneg (by omega)
      have t2 : Int.tmod ((q : Int) * 7 + 3) nb = (j : Int) := by rw [hj, Int.natCast_emod]; simp; exact Int.tmod_eq_emod_of_nonneg (by omega)
      have t3 : Int.tdiv (q : Int) nb = (d : Int) := by rw [hd, Int.natCast_ediv]; exact Int.tdiv_eq_ediv_of_nonneg (by omega)
      clear hi hj hd
      obtain ⟨x, x0, x1, hx⟩ := hz i m1
      obtain ⟨y, y0, y1, hy⟩ := hz j m2
      obtain ⟨x, rfl⟩ := Int.eq_ofNat_of_zero_le x0
      obtain ⟨y, rfl⟩ := Int.eq_ofNat_of_zero_le y0
      have cx := keep _ _ hx
      have cy := keep _ _ hy
      have HZ := Lib.hid hz
      clear hz keep hx hy x0 y0
      have n1 : (0 : Int) ≤ i := by omega
      have n2 : (i : Int) < nb := by omega
      have n3 : (0 : Int) ≤ j := by omega
      have n4 : (j : Int) < nb := by omega
      have s1 : IntKind.i64.wrap ((q : Int) * 7) = (q : Int) * 7 := IntWalk.i64_in _ (by omega)
      have s2 : IntKind.i64.wrap ((q : Int) * 7 + 3) = (q : Int) * 7 + 3 := IntWalk.i64_in _ (by omega)
      have s3 : IntKind.i64.wrap ((x : Int) * 131) = (x : Int) * 131 := IntWalk.i64_in _ (by omega)
      have s4 : IntKind.i64.wrap ((y : Int) * 1117) = (y : Int) * 1117 := IntWalk.i64_in _ (by omega)
      have s5 : IntKind.i64.wrap ((x : Int) * 131 + (y : Int) * 1117) = (x : Int) * 131 + (y : Int) * 1117 := IntWalk.i64_in _ (by omega)
      have s6 : IntKind.i64.wrap ((q : Int) * 29) = (q : Int) * 29 := IntWalk.i64_in _ (by omega)
      have s7 : IntKind.i64.wrap ((x : Int) * 131 + (y : Int) * 1117 + (q : Int) * 29) = (x : Int) * 131 + (y : Int) * 1117 + (q : Int) * 29 := IntWalk.i64_in _ (by omega)
      have s8 : IntKind.i64.wrap (d : Int) = (d : Int) := IntWalk.i64_in _ (by omega)
      have s9 : IntKind.i64.wrap ((d : Int) * 53) = (d : Int) * 53 := IntWalk.i64_in _ (by omega)
      have s10 : IntKind.i64.wrap ((x : Int) * 131 + (y : Int) * 1117 + (q : Int) * 29 + (d : Int) * 53) = (x : Int) * 131 + (y : Int) * 1117 + (q : Int) * 29 + (d : Int) * 53 := IntWalk.i64_in _ (by omega)
      have s11 : IntKind.i64.wrap (x : Int) = (x : Int) := IntWalk.i64_in _ (by omega)
      have s12 : IntKind.i64.wrap (y : Int) = (y : Int) := IntWalk.i64_in _ (by omega)
      go_enter Try.func21, Try.ntmps21
      go_wp2_with fail
      go_quiet (fail)
      obtain ⟨V, hV, hV2⟩ : ∃ V : Nat, ((x : Int) * 131 + (y : Int) * 1117 + (q : Int) * 29 + (d : Int) * 53) = V ∧ V < 100000000 := ⟨x * 131 + y * 1117 + q * 29 + d * 53, by simp, by omega⟩
      rw [hV]
      obtain ⟨X, hX, hX2⟩ : ∃ X : Nat, bits .xor .i64 (V : Int) ((V : Int) / 64) = (X : Int) ∧ X < 4611686018427387904 := by
        refine ⟨V ^^^ V / 64, ?_, Nat.xor_lt_two_pow (n := 62) (by omega) (by omega)⟩
        rw [← xor_i64_nat _ _ (by omega) (by omega)]
        simp
      clear s1 s2 s3 s4 s5 s6 s7 s8 s9 s10 s11 s12 t1 t2 t3 hV c0 c1 cx cy
      go_wp2
      go_ret
      exact Picked.mk (x := X % n) (Nat.mod_lt _ (by omega)) (ret_int (by omega)) (HR.out _) (grown_setCell w b 1 _ _)

end Go.Proofs.Ytdcmlmdoiekdfaa
