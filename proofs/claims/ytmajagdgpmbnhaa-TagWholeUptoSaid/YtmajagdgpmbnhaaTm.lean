/-
  math.Mod, left, small, times over whole numbers.
-/
import Derived.Test.YtmajagdgpmbnhaaMo
namespace Go.Proofs.Ytmajagdgpmbnhaa
open Go.RowKit

def RetF (z : Int) (w : World) (e : Ending) (w' : World) : Prop := ∃ r, e = .returned (.float .f64 r) ∧ Fl.Wh r z ∧ w = w'
def RetC (x y : Int) (w : World) (e : Ending) (w' : World) : Prop := ∃ r s, e = .returned (.complex .f64 r s) ∧ Fl.Wh r x ∧ Fl.Wh s y ∧ w = w'
/-- What math.Mod leaves: of the number's own sign. -/
def tm (z : Int) : Int := if z < 0 then -((z.natAbs % 1048573 : Nat) : Int) else ((z.natAbs % 1048573 : Nat) : Int)
theorem tm_left (z : Int) : (tm z < 0 → tm z + 1048573 = z % 1048573) ∧ (0 ≤ tm z → tm z = z % 1048573) ∧ -1048573 < tm z ∧ tm z < 1048573 := by
  unfold tm
  split <;> omega

theorem mod_whole {b : Nat} {z : Int} (h : Fl.Wh b z) (w : World) : Calls Try.prog 40 #[.float .f64 b, .float .f64 4697254385577623552] w (RetF (tm z) w) := by
  obtain ⟨s, n, rfl, hn, rfl⟩ := h
  rw [← Fl.prime_word]
  by_cases hs : (n : Int) = Fl.sg s n
  · refine (mod_pos hs hn w).mono ?_
    rintro e w' ⟨⟨r, rfl, hr⟩, rfl⟩
    refine ⟨r, rfl, ?_, rfl⟩
    have e : tm (Fl.sg s n) = ((n % 1048573 : Nat) : Int) := by
      rw [← hs]
      unfold tm
      rw [if_neg (by omega), Int.natAbs_natCast]
    rw [e]
    exact hr
  · cases s with
    | false => exact absurd rfl hs
    | true =>
      have h0 : n ≠ 0 := by
        rintro rfl
        exact hs rfl
      refine (mod_neg h0 hn w).mono ?_
      rintro e w' ⟨⟨r, rfl, hr⟩, rfl⟩
      refine ⟨r, rfl, ?_, rfl⟩
      have e : tm (Fl.sg true n) = -((n % 1048573 : Nat) : Int) := by
        have e1 : Fl.sg true n = -(n : Int) := rfl
        rw [e1]
        unfold tm
        rw [if_pos (by omega), Int.natAbs_neg, Int.natAbs_natCast]
      rw [e]
      exact hr

theorem Mod_whole {b : Nat} {z : Int} (h : Fl.Wh b z) (w : World) : Calls Try.prog 38 #[.float .f64 b, .float .f64 4697254385577623552] w (RetF (tm z) w) := by
  go_enter Try.func38, Try.ntmps38
  go_wp2_with fail
  refine (mod_whole h _).mono ?_
  rintro e w1 ⟨r, rfl, hr, rfl⟩
  go_wp2
  go_ret
  exact ⟨r, rfl, hr, rfl⟩

theorem left_whole {b : Nat} {z : Int} (h : Fl.Wh b z) (w : World) : Calls Try.prog 37 #[.float .f64 b] w (RetF (z % 1048573) w) := by
  obtain ⟨t1, t2, t3, t4⟩ := tm_left z
  have T2 := Lib.hid t2
  clear t2
  go_enter Try.func37, Try.ntmps37
  go_wp2_with fail
  refine (Mod_whole h _).mono ?_
  rintro e w1 ⟨r, rfl, hr, rfl⟩
  by_cases hlt : tm z < 0
  · have e0 : (FloatKind.f64.format.order r 0 == some .lt) = true := by rw [ord_lt hr zero_whole hlt]; rfl
    obtain ⟨r2, hs1, hs2⟩ := Fl.add_whole hr prime_whole (by omega)
    rw [t1 hlt] at hs2
    have hadd := fun w => run_fadd hs1 54 w
    clear hs1 t1
    go_wp2
    go_ret
    exact ⟨r2, rfl, hs2, rfl⟩
  · have e0 : (FloatKind.f64.format.order r 0 == some .lt) = false := by
      rcases Int.lt_or_eq_of_le (Int.not_lt.1 hlt) with h1 | h1
      · rw [ord_gt hr zero_whole h1]; rfl
      · rw [ord_eq hr zero_whole h1.symm]; rfl
    rw [T2.out (Int.not_lt.1 hlt)] at hr
    clear t1
    go_wp2
    go_ret
    exact ⟨r, rfl, hr, rfl⟩

theorem small_whole {a b : Nat} {x y : Int} (hx : Fl.Wh a x) (hy : Fl.Wh b y) (w : World) : Calls Try.prog 25 #[.complex .f64 a b] w (RetC (x % 1048573) (y % 1048573) w) := by
  go_enter Try.func25, Try.ntmps25
  go_wp2_with fail
  refine (left_whole hx _).mono ?_
  rintro e w1 ⟨r, rfl, hr, rfl⟩
  go_wp2_with fail
  refine (left_whole hy _).mono ?_
  rintro e w1 ⟨s, rfl, hs, rfl⟩
  go_wp2
  go_ret
  exact ⟨r, s, rfl, hr, hs, rfl⟩

theorem mul_bound {x u B C : Int} (h1 : 0 ≤ x) (h2 : x ≤ B) (h3 : 0 ≤ u) (h4 : u ≤ C) : 0 ≤ x * u ∧ x * u ≤ B * C :=
  ⟨Int.mul_nonneg h1 h3, Int.mul_le_mul h2 h4 h3 (by omega)⟩
theorem times_whole {a b c d : Nat} {x y u v : Int} (hx : Fl.Wh a x) (hy : Fl.Wh b y) (hu : Fl.Wh c u) (hv : Fl.Wh d v)
    (bx : 0 ≤ x ∧ x ≤ 1048572) (bY : 0 ≤ y ∧ y ≤ 1048572) (bu : 0 ≤ u ∧ u ≤ 1048572) (bv : 0 ≤ v ∧ v ≤ 1048572) (w : World) :
    Calls Try.prog 24 #[.complex .f64 a b, .complex .f64 c d] w (RetC ((x * u - y * v) % 1048573) ((x * v + y * u) % 1048573) w) := by
  obtain ⟨q1, q2⟩ := mul_bound bx.1 bx.2 bu.1 bu.2
  obtain ⟨q3, q4⟩ := mul_bound bY.1 bY.2 bv.1 bv.2
  obtain ⟨q5, q6⟩ := mul_bound bx.1 bx.2 bv.1 bv.2
  obtain ⟨q7, q8⟩ := mul_bound bY.1 bY.2 bu.1 bu.2
  obtain ⟨r1, m1, w1⟩ := Fl.mul_whole hx hu (by omega)
  obtain ⟨r2, m2, w2⟩ := Fl.mul_whole hy hv (by omega)
  obtain ⟨r3, m3, w3⟩ := Fl.mul_whole hx hv (by omega)
  obtain ⟨r4, m4, w4⟩ := Fl.mul_whole hy hu (by omega)
  obtain ⟨r5, m5, w5⟩ := Fl.sub_whole w1 w2 (by omega)
  obtain ⟨r6, m6, w6⟩ := Fl.add_whole w3 w4 (by omega)
  have k1 := fun w => run_fmul m1 54 w
  have k2 := fun w => run_fmul m2 54 w
  have k3 := fun w => run_fmul m3 54 w
  have k4 := fun w => run_fmul m4 54 w
  have k5 := fun w => run_fsub m5 54 w
  have k6 := fun w => run_fadd m6 54 w
  clear m1 m2 m3 m4 m5 m6 q1 q2 q3 q4 q5 q6 q7 q8 bx bY bu bv
  go_enter Try.func24, Try.ntmps24
  go_wp2_with fail
  refine (small_whole w5 w6 _).mono ?_
  rintro e w1 ⟨r, s, rfl, hr, hs, rfl⟩
  go_wp2
  go_ret
  exact ⟨r, s, rfl, hr, hs, rfl⟩

end Go.Proofs.Ytmajagdgpmbnhaa
