/-
  of, power; the reference's times, power.
-/
import Derived.Test.YtmajagdgpmbnhaaGa
import Derived.Test.YtmajagdgpmbnhaaRi
namespace Go.Proofs.Ytmajagdgpmbnhaa
open Go.RowKit

def RetE (x y : Int) (w : World) (e : Ending) (w' : World) : Prop := ∃ r s, e = .returned (.complex .f64 r s) ∧ Fl.Wh r x ∧ Fl.Wh s y ∧ Ext w w'
set_option maxRecDepth 100000 in
theorem ofc_any {x y : Int} (h : Mod2 (x, y)) (w : World) : Calls Try.prog 29 #[.agg #[.int .i64 x, .int .i64 y]] w (RetE x y w) := by
  obtain ⟨b1, b2, b3, b4⟩ := h
  have b1 : 0 ≤ x := b1
  have b2 : x ≤ 1048572 := b2
  have b3 : 0 ≤ y := b3
  have b4 : y ≤ 1048572 := b4
  have wx := itof x (by omega)
  have wy := itof y (by omega)
  have hx := Ext.al w (.cells #[.int .i64 x, .int .i64 y] 28)
  obtain ⟨-, c0, c1, -, -⟩ := Cel.new w x y 28
  go_enter Try.func29, Try.ntmps29
  go_wp2
  go_ret
  exact ⟨_, _, rfl, wx, wy, hx⟩

theorem and1_i64 (p : Nat) (h : p < 9223372036854775808) : bits BinOp.and IntKind.i64 (p : Int) 1 = ((p % 2 : Nat) : Int) := by
  have h2 : p &&& 1 = p % 2 := by simp
  show IntKind.i64.wrap ((BitVec.ofInt 64 (p : Int) &&& BitVec.ofInt 64 ((1 : Nat) : Int)).toNat : Int) = _
  rw [BitVec.toNat_and, ofInt_u64 p (by omega), ofInt_u64 1 (by omega), h2, IntKind.wrap_i64]
  omega

set_option maxRecDepth 100000 in
set_option maxHeartbeats 1000000 in
theorem power_any (n : Nat) (hn : n ≤ 9223372036854775807) (w : World) : Calls Try.prog 30 #[.int .i64 (n : Int)] w (RetC (tpow n).1 (tpow n).2 w) := by
  go_enter Try.func30, Try.ntmps30
  go_wp2
  go_loop [0, 3, 4] (fun i p b => ∃ (m r1 s1 r2 s2 : Nat) (x y u v : Int), m ≤ n ∧ i = .int .i64 m ∧ p = .complex .f64 r1 s1 ∧ b = .complex .f64 r2 s2 ∧ Hid (Fl.Wh r1 x ∧ Fl.Wh s1 y ∧ Fl.Wh r2 u ∧ Fl.Wh s2 v) ∧ Hid (Mod2 (x, y) ∧ Mod2 (u, v)) ∧ Hid (Pw n m (x, y) (u, v))) (fun i _ _ => (intOf i).toNat)
  case atStart => exact ⟨n, _, _, _, _, 1, 0, 3, 2, Nat.le_refl _, rfl, rfl, rfl, ⟨one_whole, zero_whole, three_whole, two_whole⟩, ⟨⟨by decide, by decide, by decide, by decide⟩, ⟨by decide, by decide, by decide, by decide⟩⟩, Pw.start n⟩
  case round =>
    obtain ⟨m, r1, s1, r2, s2, x, y, u, v, hm, rfl, rfl, rfl, HW, HB, HP⟩ := hrel
    obtain ⟨w1, w2, w3, w4⟩ := HW.out
    by_cases hlt : 0 < m
    · have ha := and1_i64 m (by omega)
      rcases Nat.mod_two_eq_zero_or_one m with h0 | h0
      · have HO := Lib.hid h0
        rw [h0] at ha
        clear h0
        go_wp2_with fail
        refine (times_whole w3 w4 w3 w4 ⟨HB.out.2.1, HB.out.2.2.1⟩ ⟨HB.out.2.2.2.1, HB.out.2.2.2.2⟩ ⟨HB.out.2.1, HB.out.2.2.1⟩ ⟨HB.out.2.2.2.1, HB.out.2.2.2.2⟩ _).mono ?_
        rintro e wz ⟨r, s, rfl, hr, hs, rfl⟩
        go_wp2
        go_round
        case rel => exact ⟨m / 2, r1, s1, r, s, x, y, _, _, by omega, by rw [Int.natCast_ediv]; rfl, rfl, rfl, ⟨w1, w2, hr, hs⟩, ⟨HB.out.1, red_bounds (gm (u, v) (u, v))⟩, HP.out.even HO.out⟩
        case measure => simp [intOf]; omega
      · have HO := Lib.hid h0
        rw [h0] at ha
        clear h0
        go_wp2_with fail
        refine (times_whole w1 w2 w3 w4 ⟨HB.out.1.1, HB.out.1.2.1⟩ ⟨HB.out.1.2.2.1, HB.out.1.2.2.2⟩ ⟨HB.out.2.1, HB.out.2.2.1⟩ ⟨HB.out.2.2.2.1, HB.out.2.2.2.2⟩ _).mono ?_
        rintro e wz ⟨r, s, rfl, hr, hs, rfl⟩
        go_wp2_with fail
        refine (times_whole w3 w4 w3 w4 ⟨HB.out.2.1, HB.out.2.2.1⟩ ⟨HB.out.2.2.2.1, HB.out.2.2.2.2⟩ ⟨HB.out.2.1, HB.out.2.2.1⟩ ⟨HB.out.2.2.2.1, HB.out.2.2.2.2⟩ _).mono ?_
        rintro e wz ⟨r3, s3, rfl, hr3, hs3, rfl⟩
        go_wp2
        go_round
        case rel => exact ⟨m / 2, r, s, r3, s3, _, _, _, _, by omega, by rw [Int.natCast_ediv]; rfl, rfl, rfl, ⟨hr, hs, hr3, hs3⟩, ⟨red_bounds (gm (x, y) (u, v)), red_bounds (gm (u, v) (u, v))⟩, HP.out.odd HO.out⟩
        case measure => simp [intOf]; omega
    · obtain rfl : m = 0 := by omega
      have hd := Lib.hid HP.out.done
      go_wp2
      go_ret
      refine ⟨r1, s1, rfl, ?_, ?_, rfl⟩
      · rw [← hd.out]
        exact w1
      · rw [← hd.out]
        exact w2

end Go.Proofs.Ytmajagdgpmbnhaa
