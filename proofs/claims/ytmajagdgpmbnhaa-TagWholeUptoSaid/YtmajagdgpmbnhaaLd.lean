/-
  ldexp of a whole number.
-/
import Derived.Test.YtmajagdgpmbnhaaMod
namespace Go.Proofs.Ytmajagdgpmbnhaa
open Go.RowKit

theorem and_i64 {E : Nat} (h : E < 2048) : bits BinOp.and IntKind.i64 (E : Int) 2047 = (E : Int) := by
  have h2 : E &&& 2047 = E := by
    have := Nat.and_two_pow_sub_one_eq_mod E 11
    rw [show 2 ^ 11 - 1 = 2047 from rfl] at this
    rw [this]
    omega
  show IntKind.i64.wrap ((BitVec.ofInt 64 (E : Int) &&& BitVec.ofInt 64 ((2047 : Nat) : Int)).toNat : Int) = _
  rw [BitVec.toNat_and, ofInt_u64 E (by omega), ofInt_u64 2047 (by omega), h2, IntKind.wrap_i64]
  omega

theorem run_fmul {a b r : Nat} (h : Fl.D.mul a b = some r) (t : TypeId) (w : World) : (binOp .mul t (.float .f64 a) (.float .f64 b)).run Try.prog w = .ok (.float .f64 r) w := by
  have h' : FloatKind.f64.format.mul a b = some r := h
  simp [binOp, Op.floatArith, h']
theorem run_fadd {a b r : Nat} (h : Fl.D.add a b = some r) (t : TypeId) (w : World) : (binOp .add t (.float .f64 a) (.float .f64 b)).run Try.prog w = .ok (.float .f64 r) w := by
  have h' : FloatKind.f64.format.add a b = some r := h
  simp [binOp, Op.floatArith, h']
theorem run_fsub {a b r : Nat} (h : Fl.D.sub a b = some r) (t : TypeId) (w : World) : (binOp .sub t (.float .f64 a) (.float .f64 b)).run Try.prog w = .ok (.float .f64 r) w := by
  have h' : FloatKind.f64.format.sub a b = some r := h
  simp [binOp, Op.floatArith, h']
set_option maxRecDepth 100000 in
theorem ldexp_gen {n E k t q r : Nat} (h0 : n ≠ 0) (hn : n < 2 ^ 53) (HE : Hid (1023 ≤ E ∧ E + k < 1076)) (H1 : Hid ((Fl.fl false n : Int) / 4503599627370496 = (E : Int)))
    (H3 : Hid (bits BinOp.andNot IntKind.u64 (Fl.fl false n : Int) 9218868437227405312 = (t : Int))) (H4 : Hid (bits BinOp.or IntKind.u64 (t : Int) (((k : Int) + ((E : Int) - 1023) + 1023) * 4503599627370496) = (q : Int)))
    (H5 : Hid (Fl.D.mul 4607182418800017408 q = some r)) (w : World) :
    Calls Try.prog 52 #[.float .f64 (Fl.fl false n), .int .i64 k] w fun e w' => e = .returned (.float .f64 r) ∧ w' = w := by
  have hz : FloatKind.f64.format.order (Fl.fl false n) 0 = some .gt := by
    have := Fl.order_whole (Fl.Wh.nat hn) (Fl.Wh.nat (n := 0) (by omega))
    rw [Fl.zero_word] at this
    rw [Int.compare_eq_gt.2 (by omega)] at this
    exact this
  have h1 := run_bits (Fl.fl false n)
  have HN := Lib.hid hn
  have HW : Hid (k < 1076) := by show _ < _; have := HE.out; omega
  clear hn
  go_enter Try.func52, Try.ntmps52
  go_wp2_with fail
  refine (isinf_any false HN.out _).mono ?_
  rintro e w1 ⟨rfl, rfl⟩
  go_wp2_with fail
  refine (isnan_any false HN.out _).mono ?_
  rintro e w2 ⟨rfl, rfl⟩
  have hk := HW.out
  go_wp2_with fail
  refine (norm_any h0 HN.out _).mono ?_
  rintro e w3 ⟨rfl, rfl⟩
  obtain ⟨hE1, hE2⟩ := HE.out
  have h2 := H1.out
  have h3 := H3.out
  have h4 := H4.out
  have h5 := run_frombits q
  have h6 := fun w => run_fmul H5.out 54 w
  have h7 := and_i64 (E := E) (by omega)
  clear HE H1 H3 H4 H5
  generalize Fl.fl false n = b at *
  go_wp2
  go_ret
  exact ⟨rfl, rfl⟩

theorem mul_pow_lt {n k : Nat} (h0 : n ≠ 0) (h : n.log2 + k < 53) : n * 2 ^ k ≠ 0 ∧ n * 2 ^ k < 2 ^ 53 ∧ (n * 2 ^ k).log2 = n.log2 + k := by
  have hp := Nat.two_pow_pos k
  have h1 : n * 2 ^ k ≠ 0 := Nat.mul_ne_zero h0 (by omega)
  have h2 := Fl.log2_mul (q := k) h0
  exact ⟨h1, (Nat.log2_lt h1).1 (by omega), h2⟩
set_option maxRecDepth 100000 in
theorem fl_pow {n k : Nat} (h0 : n ≠ 0) (h : n.log2 + k < 53) : Fl.fl false (n * 2 ^ k) = (n.log2 + k + 1023) * 2 ^ 52 + Fl.tf n := by
  obtain ⟨h1, h2, h3⟩ := mul_pow_lt h0 h
  obtain ⟨e, _, _⟩ := Fl.fl_fields false h1 h2
  rw [e, Fl.word_false, h3]
  have : Fl.tf (n * 2 ^ k) = Fl.tf n := by
    unfold Fl.tf
    rw [h3, Nat.mul_assoc, ← Nat.pow_add]
    congr 3
    omega
  rw [this]
theorem ldexp_any {n k : Nat} (h0 : n ≠ 0) (hn : n < 2 ^ 53) (h : n.log2 + k < 53) : ∃ r, Fl.Wh r ((n * 2 ^ k : Nat) : Int) ∧ ∀ w, Calls Try.prog 52 #[.float .f64 (Fl.fl false n), .int .i64 k] w fun e w' => e = .returned (.float .f64 r) ∧ w' = w := by
  obtain ⟨h1, h2, h3⟩ := mul_pow_lt h0 h
  obtain ⟨e, ht, hL⟩ := Fl.fl_fields false h0 hn
  rw [Fl.word_false] at e
  have hm := Fl.mul_whole (Fl.Wh.nat (n := 1) (by omega)) (Fl.Wh.nat h2) (by rw [Int.natCast_one, Int.one_mul, Int.natAbs_natCast]; exact h2)
  obtain ⟨r, hr1, hr2⟩ := hm
  rw [Int.natCast_one, Int.one_mul] at hr2
  rw [Fl.one_word] at hr1
  refine ⟨r, hr2, fun w => ldexp_gen (E := n.log2 + 1023) (t := Fl.tf n) (q := Fl.fl false (n * 2 ^ k)) h0 hn ⟨by omega, by omega⟩ ?_ (frac_bits h0 hn) ?_ hr1 w⟩
  · show _ = _
    rw [e]
    omega
  · show _ = _
    have hh := u64_or_nat (Fl.tf n) ((n.log2 + k + 1023) * 2 ^ 52) (by omega) (by omega)
    rw [Fl.or_field _ _ ht, ← fl_pow h0 h] at hh
    have e2 : ((k : Int) + (((n.log2 + 1023 : Nat) : Int) - 1023) + 1023) * 4503599627370496 = (((n.log2 + k + 1023) * 2 ^ 52 : Nat) : Int) := by omega
    rw [e2]
    exact hh

theorem Ldexp_any {n k : Nat} (h0 : n ≠ 0) (hn : n < 2 ^ 53) (h : n.log2 + k < 53) : ∃ r, Fl.Wh r ((n * 2 ^ k : Nat) : Int) ∧ ∀ w, Calls Try.prog 46 #[.float .f64 (Fl.fl false n), .int .i64 k] w fun e w' => e = .returned (.float .f64 r) ∧ w' = w := by
  obtain ⟨r, hr, hc⟩ := ldexp_any h0 hn h
  refine ⟨r, hr, fun w => ?_⟩
  clear hr hn h0 h
  generalize Fl.fl false n = b at *
  go_enter Try.func46, Try.ntmps46
  go_wp2_with fail
  refine (hc _).mono ?_
  rintro e w1 ⟨rfl, rfl⟩
  go_wp2
  go_ret
  exact ⟨rfl, rfl⟩

/-- Two fractions stand to each other as their numbers do. -/
theorem order_half {t u : Nat} (ht : t < 2 ^ 52) (hu : u < 2 ^ 52) : Fl.D.order (1022 * 2 ^ 52 + t) (1022 * 2 ^ 52 + u) = some (compare ((2 ^ 52 + t : Nat) : Int) ((2 ^ 52 + u : Nat) : Int)) := by
  have h1 := Fl.read_word false 1022 t (by omega) (by omega) ht
  have h2 := Fl.read_word false 1022 u (by omega) (by omega) hu
  rw [Fl.word_false] at h1 h2
  unfold Ieee.Format.order
  rw [h1, h2]
  unfold Ieee.Datum.order
  simp only [Int.min_self]
  unfold Ieee.signed
  simp

end Go.Proofs.Ytmajagdgpmbnhaa
