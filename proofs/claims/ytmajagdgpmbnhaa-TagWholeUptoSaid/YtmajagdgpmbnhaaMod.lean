/-
  math.Mod by a whole number, walked.
-/
import Derived.Test.YtmajagdgpmbnhaaBase
import Derived.Test.YtmajagdgpmbnhaaFloat
import Derived.Laws.Cover2
import Derived.Laws.Cover3
import Derived.Laws.BitsAllLaws
namespace Go.Proofs.Ytmajagdgpmbnhaa
open Go.RowKit

theorem run_bits (b : Nat) (w : World) : (callFunc 48 #[.float .f64 b]).run Try.prog w = .ok (.value (.int .u64 b)) w := by kernel_rfl
theorem run_frombits (b : Nat) (w : World) : (callFunc 47 #[.int .u64 b]).run Try.prog w = .ok (.value (.float .f64 b)) w := by kernel_rfl

theorem abs_bits {b : Nat} (hb : b < 2 ^ 64) : bits BinOp.andNot IntKind.u64 (b : Int) 9223372036854775808 = ((b % 2 ^ 63 : Nat) : Int) := by
  have h := u64_andNot_nat b 9223372036854775808 (by omega) (by omega)
  rw [show 18446744073709551615 - 9223372036854775808 = 9223372036854775807 from rfl, Fl.and_abs] at h
  exact h
theorem abs_any (s : Bool) {n : Nat} (hn : n < 2 ^ 53) (w : World) : Calls Try.prog 44 #[.float .f64 (Fl.fl s n)] w fun e w' => e = .returned (.float .f64 (Fl.fl false n)) ∧ w' = w := by
  obtain ⟨e1, e2⟩ := Fl.fl_abs s hn
  have h1 := run_bits (Fl.fl s n)
  have h2 := run_frombits (Fl.fl false n)
  have h3 := abs_bits e2
  rw [e1] at h3
  clear e1 e2
  go_enter Try.func44, Try.ntmps44
  go_wp2
  go_ret
  exact ⟨rfl, rfl⟩
theorem isnan_any (s : Bool) {n : Nat} (hn : n < 2 ^ 53) (w : World) : Calls Try.prog 42 #[.float .f64 (Fl.fl s n)] w fun e w' => e = .returned (.bool false) ∧ w' = w := by
  have h1 : FloatKind.f64.format.order (Fl.fl s n) (Fl.fl s n) = some .eq := by
    have := Fl.order_whole (Fl.Wh.mk s hn) (Fl.Wh.mk s hn)
    rw [Int.compare_eq_eq.2 rfl] at this
    exact this
  go_enter Try.func42, Try.ntmps42
  go_wp2
  go_ret
  simp
theorem isinf_any (s : Bool) {n : Nat} (hn : n < 2 ^ 53) (w : World) : Calls Try.prog 41 #[.float .f64 (Fl.fl s n), .int .i64 0] w fun e w' => e = .returned (.bool false) ∧ w' = w := by
  have h1 : FloatKind.f64.format.order (Fl.fl false n) 9218868437227405311 = some .lt := Fl.order_max false hn
  go_enter Try.func41, Try.ntmps41
  go_wp2_with fail
  refine (abs_any s hn _).mono ?_
  rintro e w1 ⟨rfl, rfl⟩
  go_wp2
  go_ret
  simp
theorem norm_any {n : Nat} (h0 : n ≠ 0) (hn : n < 2 ^ 53) (w : World) : Calls Try.prog 53 #[.float .f64 (Fl.fl false n)] w fun e w' => e = .returned (.tuple #[.float .f64 (Fl.fl false n), .int .i64 0]) ∧ w' = w := by
  have h1 : FloatKind.f64.format.order (Fl.fl false n) 4503599627370496 = some .gt := Fl.order_tiny h0 hn
  go_enter Try.func53, Try.ntmps53
  go_wp2_with fail
  refine (abs_any false hn _).mono ?_
  rintro e w1 ⟨rfl, rfl⟩
  go_wp2
  go_ret2
  exact ⟨rfl, rfl⟩

theorem exp_bits {n : Nat} (h0 : n ≠ 0) (hn : n < 2 ^ 53) : bits BinOp.and IntKind.u64 ((Fl.fl false n : Int) / 4503599627370496) 2047 = ((n.log2 + 1023 : Nat) : Int) := by
  obtain ⟨e, ht, hL⟩ := Fl.fl_fields false h0 hn
  rw [Fl.word_false] at e
  have hd : (Fl.fl false n : Int) / 4503599627370496 = ((n.log2 + 1023 : Nat) : Int) := by
    rw [e]
    omega
  rw [hd]
  have h := u64_and_nat (n.log2 + 1023) 2047 (by omega) (by omega)
  have h2 : (n.log2 + 1023) &&& 2047 = n.log2 + 1023 := by
    have := Nat.and_two_pow_sub_one_eq_mod (n.log2 + 1023) 11
    rw [show 2 ^ 11 - 1 = 2047 from rfl] at this
    rw [this]
    omega
  rw [h2] at h
  exact h
theorem frac_bits {n : Nat} (h0 : n ≠ 0) (hn : n < 2 ^ 53) : bits BinOp.andNot IntKind.u64 (Fl.fl false n : Int) 9218868437227405312 = ((Fl.tf n : Nat) : Int) := by
  obtain ⟨e, ht, hL⟩ := Fl.fl_fields false h0 hn
  rw [Fl.word_false] at e
  have h := u64_andNot_nat (Fl.fl false n) 9218868437227405312 (by omega) (by omega)
  rw [show 18446744073709551615 - 9218868437227405312 = 9227875636482146303 from rfl, Fl.and_field _ (by omega)] at h
  rw [show Fl.fl false n % 2 ^ 52 = Fl.tf n by omega] at h
  exact h
set_option maxRecDepth 100000 in
theorem half_bits {t : Nat} (ht : t < 2 ^ 52) : bits BinOp.or IntKind.u64 (t : Int) 4602678819172646912 = ((1022 * 2 ^ 52 + t : Nat) : Int) := by
  have h := u64_or_nat t 4602678819172646912 (by omega) (by omega)
  rw [show (4602678819172646912 : Nat) = 1022 * 2 ^ 52 from rfl, Fl.or_field 1022 t ht] at h
  exact h
theorem ret_frexp {b : Nat} {i j : Int} (h : i = j) : Ending.returned (.tuple #[.float .f64 b, .int .i64 i]) = .returned (.tuple #[.float .f64 b, .int .i64 j]) := by rw [h]
set_option maxRecDepth 100000 in
theorem frexp_gen {n q t L : Nat} (h0 : n ≠ 0) (hn : n < 2 ^ 53) (H2 : Hid (bits BinOp.and IntKind.u64 ((Fl.fl false n : Int) / 4503599627370496) 2047 = ((L + 1023 : Nat) : Int)))
    (H3 : Hid (bits BinOp.andNot IntKind.u64 (Fl.fl false n : Int) 9218868437227405312 = (t : Int))) (H4 : Hid (bits BinOp.or IntKind.u64 (t : Int) 4602678819172646912 = (q : Int))) (HL : Hid (L < 53)) (w : World) :
    Calls Try.prog 50 #[.float .f64 (Fl.fl false n)] w fun e w' => e = .returned (.tuple #[.float .f64 q, .int .i64 (L + 1)]) ∧ w' = w := by
  have hz : FloatKind.f64.format.order (Fl.fl false n) 0 = some .gt := by
    have := Fl.order_whole (Fl.Wh.nat hn) (Fl.Wh.nat (n := 0) (by omega))
    rw [Fl.zero_word] at this
    rw [Int.compare_eq_gt.2 (by omega)] at this
    exact this
  have h1 := run_bits (Fl.fl false n)
  have HN := Lib.hid hn
  clear hn
  go_enter Try.func50, Try.ntmps50
  go_wp2_with fail
  refine (isinf_any false HN.out _).mono ?_
  rintro e w1 ⟨rfl, rfl⟩
  go_wp2_with fail
  refine (isnan_any false HN.out _).mono ?_
  rintro e w2 ⟨rfl, rfl⟩
  go_wp2_with fail
  refine (norm_any h0 HN.out _).mono ?_
  rintro e w3 ⟨rfl, rfl⟩
  have h2 := H2.out
  have h3 := H3.out
  have h4 := H4.out
  have h5 := run_frombits q
  have hL := HL.out
  generalize Fl.fl false n = b at *
  go_wp2
  go_ret2
  exact ⟨ret_frexp (by omega), rfl⟩
theorem frexp_any {n : Nat} (h0 : n ≠ 0) (hn : n < 2 ^ 53) (w : World) : Calls Try.prog 50 #[.float .f64 (Fl.fl false n)] w fun e w' => e = .returned (.tuple #[.float .f64 (1022 * 2 ^ 52 + Fl.tf n : Nat), .int .i64 (n.log2 + 1)]) ∧ w' = w := by
  obtain ⟨_, ht, hL⟩ := Fl.fl_fields false h0 hn
  exact frexp_gen h0 hn (exp_bits h0 hn) (frac_bits h0 hn) (half_bits ht) hL w

theorem Frexp_any {n : Nat} (h0 : n ≠ 0) (hn : n < 2 ^ 53) (w : World) : Calls Try.prog 45 #[.float .f64 (Fl.fl false n)] w fun e w' => e = .returned (.tuple #[.float .f64 (1022 * 2 ^ 52 + Fl.tf n : Nat), .int .i64 (n.log2 + 1)]) ∧ w' = w := by
  have h := fun w => frexp_any h0 hn w
  generalize 1022 * 2 ^ 52 + Fl.tf n = q at *
  generalize n.log2 = L at *
  generalize Fl.fl false n = b at *
  clear hn h0
  go_enter Try.func45, Try.ntmps45
  go_wp2_with fail
  refine (h _).mono ?_
  rintro e w1 ⟨rfl, rfl⟩
  go_wp2
  go_ret2
  exact ⟨rfl, rfl⟩

end Go.Proofs.Ytmajagdgpmbnhaa
