/-
  math.Mod of a whole number by 1048573.
-/
import Derived.Test.YtmajagdgpmbnhaaLd
namespace Go.Proofs.Ytmajagdgpmbnhaa
open Go.RowKit

/-- How often y is doubled in a round that takes q down: y * 2^k <= q < y * 2^(k+1). -/
theorem round_k {y q : Nat} (hy : y ≠ 0) (hyq : y ≤ q) (hq : q < 2 ^ 53) :
    (Fl.tf y ≤ Fl.tf q → y.log2 ≤ q.log2 ∧ y * 2 ^ (q.log2 - y.log2) ≤ q) ∧ (Fl.tf q < Fl.tf y → y.log2 + 1 ≤ q.log2 ∧ y * 2 ^ (q.log2 - 1 - y.log2) ≤ q) := by
  have hq0 : q ≠ 0 := by omega
  have hyb : y < 2 ^ 53 := by omega
  obtain ⟨a1, a2⟩ := Fl.norm_bounds hy hyb
  obtain ⟨b1, b2⟩ := Fl.norm_bounds hq0 hq
  have hLq : q.log2 < 53 := (Nat.log2_lt hq0).2 hq
  have hLy : y.log2 < 53 := (Nat.log2_lt hy).2 hyb
  have hle : y.log2 ≤ q.log2 := by
    refine (Nat.le_log2 hq0).2 ?_
    have := Nat.log2_self_le hy
    omega
  have hexp : y * 2 ^ (52 - y.log2) = y * 2 ^ (q.log2 - y.log2) * 2 ^ (52 - q.log2) := by
    rw [Nat.mul_assoc, ← Nat.pow_add]
    congr 2
    omega
  constructor
  · intro ht
    refine ⟨hle, ?_⟩
    unfold Fl.tf at ht
    have h1 : y * 2 ^ (52 - y.log2) ≤ q * 2 ^ (52 - q.log2) := by omega
    rw [hexp] at h1
    exact Nat.le_of_mul_le_mul_right h1 (Nat.two_pow_pos _)
  · intro ht
    unfold Fl.tf at ht
    have h1 : q * 2 ^ (52 - q.log2) < y * 2 ^ (52 - y.log2) := by omega
    rw [hexp] at h1
    have h2 : q < y * 2 ^ (q.log2 - y.log2) := Nat.lt_of_mul_lt_mul_right h1
    have h3 : y.log2 + 1 ≤ q.log2 := by
      rcases Nat.lt_or_ge y.log2 q.log2 with h | h
      · exact h
      · have : q.log2 - y.log2 = 0 := by omega
        rw [this] at h2
        omega
    refine ⟨h3, ?_⟩
    have h4 := Nat.log2_self_le hq0
    have h5 : y < 2 ^ (y.log2 + 1) := Nat.lt_log2_self
    have h6 : y * 2 ^ (q.log2 - 1 - y.log2) ≤ 2 ^ (y.log2 + 1) * 2 ^ (q.log2 - 1 - y.log2) := Nat.mul_le_mul_right _ (Nat.le_of_lt h5)
    rw [← Nat.pow_add, show y.log2 + 1 + (q.log2 - 1 - y.log2) = q.log2 by omega] at h6
    omega

theorem xor_top {r : Nat} (h : r < 2 ^ 63) : r ^^^ 2 ^ 63 = 2 ^ 63 + r ∧ (2 ^ 63 + r) ^^^ 2 ^ 63 = r := by
  have h1 : 2 ^ 63 + r = 2 ^ 63 ^^^ r := by
    apply Nat.eq_of_testBit_eq
    intro i
    rw [Nat.testBit_xor]
    have := Nat.testBit_two_pow_mul_add 1 h i
    rw [Nat.mul_one] at this
    rw [this, Nat.testBit_two_pow]
    by_cases hi : i < 63
    · rw [if_pos hi]
      have : (decide (63 = i)) = false := decide_eq_false (by omega)
      rw [this]
      simp
    · rw [if_neg hi]
      have hr : r.testBit i = false := Nat.testBit_lt_two_pow (Nat.lt_of_lt_of_le h (Nat.pow_le_pow_right (by decide) (by omega)))
      rw [hr]
      by_cases h2 : i = 63
      · subst h2
        simp
      · have e1 : (decide (63 = i)) = false := decide_eq_false (by omega)
        have e3 : (1 : Nat).testBit (i - 63) = false := Nat.testBit_lt_two_pow (by
          have : 2 ^ 1 ≤ 2 ^ (i - 63) := Nat.pow_le_pow_right (by decide) (by omega)
          omega)
        rw [e1, e3]
        rfl
  refine ⟨by rw [h1, Nat.xor_comm], ?_⟩
  rw [h1, Nat.xor_comm, ← Nat.xor_assoc, Nat.xor_self, Nat.zero_xor]

theorem fl_neg (s : Bool) {n : Nat} (hb : n < 2 ^ 53) : Fl.fl s n ^^^ 2 ^ 63 = Fl.fl (!s) n := by
  have hw : ∃ r, r < 2 ^ 63 ∧ Fl.fl false n = r ∧ Fl.fl true n = 2 ^ 63 + r := by
    rcases Nat.eq_zero_or_pos n with h | h
    · subst h
      exact ⟨0, by omega, by decide +kernel, by decide +kernel⟩
    · obtain ⟨e1, h1, h2⟩ := Fl.fl_fields false (by omega) hb
      obtain ⟨e2, _, _⟩ := Fl.fl_fields true (by omega) hb
      rw [Fl.word_false] at e1
      rw [Fl.word_true] at e2
      exact ⟨_, by omega, e1, e2⟩
  obtain ⟨r, h1, h2, h3⟩ := hw
  obtain ⟨x1, x2⟩ := xor_top h1
  cases s with
  | true => rw [h3, x2]; exact h2.symm
  | false => rw [h2, x1]; exact h3.symm
theorem run_neg {b : Nat} {z : Int} (h : Fl.Wh b z) : ∃ r, Fl.Wh r (-z) ∧ ∀ w, (Op.unary .neg (.float .f64 b)).run Try.prog w = .ok (.float .f64 r) w := by
  obtain ⟨s, n, rfl, hn, rfl⟩ := h
  refine ⟨Fl.fl (!s) n, ⟨!s, n, rfl, hn, ?_⟩, fun w => ?_⟩
  · unfold Fl.sg
    cases s <;> simp
  · rw [← fl_neg s hn]
    rfl

end Go.Proofs.Ytmajagdgpmbnhaa
