/-
  Whole numbers below 2^53 as words of 64 bits: what is written is read; sums and products are exact.
-/
import Ieee.Arith
namespace Go.Proofs.Ytmajagdgpmbnhaa.Fl
open Ieee

abbrev D : Format := Ieee.double
theorem D_sign : D.signWeight = 2 ^ 63 := by decide +kernel
theorem D_binade : D.binade = 2 ^ 52 := by decide +kernel
theorem D_inf : D.infRung = 2047 * 2 ^ 52 := by decide +kernel
theorem D_least : D.leastPlace = -1074 := by decide +kernel
theorem D_frac : D.fractionBits = 52 := rfl

theorem log2_eq {n L : Nat} (h1 : 2 ^ L ≤ n) (h2 : n < 2 ^ (L + 1)) : n.log2 = L := by
  have hn : n ≠ 0 := by
    intro e
    subst e
    have := Nat.two_pow_pos L
    omega
  have a1 : n.log2 < L + 1 := (Nat.log2_lt hn).2 h2
  have a2 : L ≤ n.log2 := (Nat.le_log2 hn).2 h1
  omega
theorem log2_mul {n q : Nat} (hn : n ≠ 0) : (n * 2 ^ q).log2 = n.log2 + q := by
  refine log2_eq ?_ ?_
  · rw [Nat.pow_add]
    exact Nat.mul_le_mul_right _ (Nat.log2_self_le hn)
  · rw [show n.log2 + q + 1 = (n.log2 + 1) + q by omega, Nat.pow_add]
    exact (Nat.mul_lt_mul_right (Nat.two_pow_pos q)).2 Nat.lt_log2_self

/-- A cut that drops nothing but zeros. -/
theorem cut_exact (s : Bool) (n d : Nat) (h : d ≤ (n * 2 ^ d).log2 + 2) : Toward.even.cut s (n * 2 ^ d) d = n := by
  unfold Toward.cut
  have hm : min d ((n * 2 ^ d).log2 + 2) = d := by omega
  have hp := Nat.two_pow_pos d
  simp only [hm, Nat.one_shiftLeft]
  rw [Nat.mul_div_cancel _ hp, Nat.mul_mod_left]
  have h1 : decide (2 ^ d < 2 * 0) = false := by simp
  have h2 : (2 ^ d == 2 * 0) = false := by
    rw [beq_eq_false_iff_ne]
    omega
  rw [h1, h2]
  simp

theorem cut_zero (s : Bool) (n : Nat) : Toward.even.cut s n 0 = n := by
  have h := cut_exact s n 0 (by omega)
  simpa using h

/-- The word of n * 2^(52 - log2 n) * 2^e, e the last digit's place: nothing is lost. -/
theorem nearest_word (s : Bool) (a q : Nat) (e : Int) (ha : a ≠ 0) (hb : a < 2 ^ 53) (he : -1074 ≤ e + a.log2 - 52) (hi : e + a.log2 ≤ 1023) :
    D.nearest s (a * 2 ^ q) (e - q) = D.word s ((e + a.log2 + 1022).toNat * 2 ^ 52 + a * 2 ^ (52 - a.log2)) := by
  have hL : a.log2 < 53 := (Nat.log2_lt ha).2 hb
  have hq : a * 2 ^ q ≠ 0 := by
    have := Nat.two_pow_pos q
    exact Nat.mul_ne_zero ha (by omega)
  have hlast : max (e - q + ((a * 2 ^ q).log2 : Int) - (D.fractionBits : Int)) D.leastPlace = e + a.log2 - 52 := by
    rw [log2_mul ha, D_frac, D_least]
    omega
  have hkept : Toward.even.cut s ((a * 2 ^ q) <<< ((e - q) - (e + a.log2 - 52)).toNat) ((e + a.log2 - 52) - (e - q)).toNat = a * 2 ^ (52 - a.log2) := by
    rcases Nat.lt_or_ge (52 - a.log2) q with h | h
    · have e1 : ((e - q) - (e + a.log2 - 52)).toNat = 0 := by omega
      have e2 : ((e + a.log2 - 52) - (e - q)).toNat = q - (52 - a.log2) := by omega
      rw [e1, e2, Nat.shiftLeft_zero]
      have e3 : a * 2 ^ q = a * 2 ^ (52 - a.log2) * 2 ^ (q - (52 - a.log2)) := by
        rw [Nat.mul_assoc, ← Nat.pow_add]
        congr 2
        omega
      have hh : q - (52 - a.log2) ≤ (a * 2 ^ (52 - a.log2) * 2 ^ (q - (52 - a.log2))).log2 + 2 := by
        rw [← e3, log2_mul ha]
        omega
      rw [e3]
      exact cut_exact s _ _ hh
    · have e1 : ((e - q) - (e + a.log2 - 52)).toNat = 52 - a.log2 - q := by omega
      have e2 : ((e + a.log2 - 52) - (e - q)).toNat = 0 := by omega
      rw [e1, e2, cut_zero, Nat.shiftLeft_eq, Nat.mul_assoc, ← Nat.pow_add]
      congr 2
      omega
  have hle : a * 2 ^ (52 - a.log2) < 2 ^ 53 := by
    have h1 : a < 2 ^ (a.log2 + 1) := Nat.lt_log2_self
    have h2 : a * 2 ^ (52 - a.log2) < 2 ^ (a.log2 + 1) * 2 ^ (52 - a.log2) := (Nat.mul_lt_mul_right (Nat.two_pow_pos _)).2 h1
    rw [← Nat.pow_add, show a.log2 + 1 + (52 - a.log2) = 53 by omega] at h2
    exact h2
  unfold Format.nearest
  rw [if_neg hq]
  simp only [hlast, hkept]
  rw [D_least, D_binade, D_inf]
  have e4 : (e + a.log2 - 52 - (-1074)).toNat = (e + a.log2 + 1022).toNat := by omega
  rw [e4]
  congr 1
  have : (e + a.log2 + 1022).toNat ≤ 2045 := by omega
  omega

theorem word_split (s : Bool) {r : Nat} (hr : r < 2 ^ 63) : D.word s r % D.signWeight = r ∧ (D.word s r / D.signWeight % 2 == 1) = s := by
  rw [D_sign]
  unfold Format.word
  rw [D_sign]
  cases s with
  | true =>
    rw [if_pos rfl]
    refine ⟨by omega, ?_⟩
    have : (2 ^ 63 + r) / 2 ^ 63 = 1 := by omega
    rw [this]
    rfl
  | false =>
    rw [if_neg (by decide)]
    refine ⟨by omega, ?_⟩
    have : r / 2 ^ 63 = 0 := by omega
    rw [this]
    rfl

/-- A normal word is read. -/
theorem read_word (s : Bool) (x t : Nat) (hx1 : 1 ≤ x) (hx2 : x ≤ 2046) (ht : t < 2 ^ 52) : D.read (D.word s (x * 2 ^ 52 + t)) = .number s (2 ^ 52 + t) (-1074 + ((x - 1 : Nat) : Int)) := by
  obtain ⟨h1, h2⟩ := word_split s (r := x * 2 ^ 52 + t) (by omega)
  unfold Format.read
  simp only [h1, h2]
  rw [D_binade, D_inf, D_least, if_neg (by omega), if_pos (by omega)]
  have e1 : (x * 2 ^ 52 + t) % 2 ^ 52 = t := by omega
  have e2 : (x * 2 ^ 52 + t) / 2 ^ 52 = x := by omega
  rw [e1, e2]
theorem read_zero (s : Bool) : D.read (D.word s 0) = .number s 0 (-1074) := by
  cases s <;> decide +kernel

/-- The word of the whole number n with sign s. -/
def fl (s : Bool) (n : Nat) : Nat := D.nearest s n 0
theorem fl_zero (s : Bool) : fl s 0 = D.word s 0 := rfl
theorem fl_word (s : Bool) {n : Nat} (hn : n ≠ 0) (hb : n < 2 ^ 53) : fl s n = D.word s ((n.log2 + 1022) * 2 ^ 52 + n * 2 ^ (52 - n.log2)) := by
  have h := nearest_word s n 0 0 hn hb (by omega) (by have := (Nat.log2_lt hn).2 hb; omega)
  rw [Nat.pow_zero, Nat.mul_one] at h
  unfold fl
  rw [show (0 : Int) - ((0 : Nat) : Int) = 0 by omega] at h
  rw [h]
  congr 3
  omega
set_option maxRecDepth 100000 in
theorem fl_read (s : Bool) {n : Nat} (hn : n ≠ 0) (hb : n < 2 ^ 53) : D.read (fl s n) = .number s (n * 2 ^ (52 - n.log2)) ((n.log2 : Int) - 52) := by
  have hL : n.log2 < 53 := (Nat.log2_lt hn).2 hb
  have h1 : 2 ^ 52 ≤ n * 2 ^ (52 - n.log2) := by
    have h := Nat.mul_le_mul_right (2 ^ (52 - n.log2)) (Nat.log2_self_le hn)
    rw [← Nat.pow_add, show n.log2 + (52 - n.log2) = 52 by omega] at h
    exact h
  have h2 : n * 2 ^ (52 - n.log2) < 2 ^ 53 := by
    have h3 : n < 2 ^ (n.log2 + 1) := Nat.lt_log2_self
    have h4 : n * 2 ^ (52 - n.log2) < 2 ^ (n.log2 + 1) * 2 ^ (52 - n.log2) := (Nat.mul_lt_mul_right (Nat.two_pow_pos _)).2 h3
    rw [← Nat.pow_add, show n.log2 + 1 + (52 - n.log2) = 53 by omega] at h4
    exact h4
  obtain ⟨t, ht⟩ : ∃ t, n * 2 ^ (52 - n.log2) = 2 ^ 52 + t := ⟨n * 2 ^ (52 - n.log2) - 2 ^ 52, by omega⟩
  rw [fl_word s hn hb, ht, show (n.log2 + 1022) * 2 ^ 52 + (2 ^ 52 + t) = (n.log2 + 1023) * 2 ^ 52 + t by omega,
    read_word s (n.log2 + 1023) t (by omega) (by omega) (by omega)]
  congr 1
  omega

/-- .. as one law: zero too. -/
theorem fl_number (s : Bool) {n : Nat} (hb : n < 2 ^ 53) : ∃ p : Nat, p ≤ 1074 ∧ D.read (fl s n) = .number s (n * 2 ^ p) (-(p : Int)) := by
  rcases Nat.eq_zero_or_pos n with h | h
  · subst h
    obtain ⟨p, hp⟩ : ∃ p : Nat, p = 1074 := ⟨_, rfl⟩
    refine ⟨p, by omega, ?_⟩
    rw [fl_zero, read_zero, Nat.zero_mul, hp]
    congr 1
  · have hL : n.log2 < 53 := (Nat.log2_lt (by omega)).2 hb
    refine ⟨52 - n.log2, by omega, ?_⟩
    rw [fl_read s (by omega) hb]
    congr 1
    omega
set_option maxRecDepth 100000 in
theorem fl_nearest (s : Bool) {a : Nat} (q : Nat) (hb : a < 2 ^ 53) : D.nearest s (a * 2 ^ q) (-(q : Int)) = fl s a := by
  rcases Nat.eq_zero_or_pos a with h | h
  · subst h
    rw [Nat.zero_mul]
    unfold fl Format.nearest
    rw [if_pos rfl, if_pos rfl]
  · have hL : a.log2 < 53 := (Nat.log2_lt (by omega)).2 hb
    have h1 := nearest_word s a q 0 (by omega) hb (by omega) (by omega)
    have h2 := nearest_word s a 0 0 (by omega) hb (by omega) (by omega)
    rw [Nat.pow_zero, Nat.mul_one] at h2
    rw [Int.zero_sub] at h1
    have h3 : D.nearest s a 0 = _ := h2
    exact h1.trans h3.symm

/-- The number of a sign and a magnitude. -/
def sg (s : Bool) (n : Nat) : Int := if s then -(n : Int) else n
/-- The word b holds the whole number z. -/
def Wh (b : Nat) (z : Int) : Prop := ∃ s n, b = fl s n ∧ n < 2 ^ 53 ∧ z = sg s n
theorem signed_shift (s : Bool) (n p u : Nat) : signed s (n * 2 ^ p) u = sg s n * ((2 ^ (p + u) : Nat) : Int) := by
  unfold signed sg
  rw [Nat.shiftLeft_eq, Nat.mul_assoc, ← Nat.pow_add]
  cases s with
  | true => rw [if_pos rfl, if_pos rfl, Int.natCast_mul, Int.neg_mul]
  | false => rw [if_neg (by decide), if_neg (by decide), Int.natCast_mul]
theorem sg_abs (s : Bool) (n : Nat) : (sg s n).natAbs = n := by
  unfold sg
  cases s <;> simp
theorem sg_of {z : Int} {s : Bool} (h : z ≠ 0 → s = decide (z < 0)) : z = sg s z.natAbs := by
  unfold sg
  by_cases h0 : z = 0
  · subst h0
    cases s <;> rfl
  · rw [h h0]
    by_cases h1 : z < 0
    · rw [if_pos (by simpa using h1)]
      omega
    · rw [if_neg (by simpa using h1)]
      omega

theorem write_sum2 {B C : Datum} {s t : Bool} {n k p u : Nat} (hb : B = .number s (n * 2 ^ p) (-(p : Int))) (hc : C = .number t (k * 2 ^ u) (-(u : Int))) (h : (sg s n + sg t k).natAbs < 2 ^ 53) :
    ∃ r, (B.sum C).map D.write = some r ∧ Wh r (sg s n + sg t k) := by
  rw [hb, hc]
  obtain ⟨q, hq⟩ : ∃ q : Nat, min (-(p : Int)) (-(u : Int)) = -(q : Int) := ⟨max p u, by omega⟩
  have e1 : p + (-(p : Int) - -(q : Int)).toNat = q := by omega
  have e2 : u + (-(u : Int) - -(q : Int)).toNat = q := by omega
  unfold Datum.sum
  simp only [hq, signed_shift, e1, e2]
  rw [← Int.add_mul]
  obtain ⟨z, hz⟩ : ∃ z, sg s n + sg t k = z := ⟨_, rfl⟩
  rw [hz] at h ⊢
  have hp := Nat.two_pow_pos q
  have ea : (z * ((2 ^ q : Nat) : Int)).natAbs = z.natAbs * 2 ^ q := by rw [Int.natAbs_mul, Int.natAbs_natCast]
  refine ⟨_, rfl, ?_⟩
  unfold Format.write
  simp only [ea]
  rw [fl_nearest _ q h]
  refine ⟨_, _, rfl, h, sg_of fun h0 => ?_⟩
  have h1 : z * ((2 ^ q : Nat) : Int) ≠ 0 := Int.mul_ne_zero h0 (by omega)
  rw [if_neg h1]
  congr 1
  apply propext
  constructor
  · intro hh
    rcases Int.lt_or_le z 0 with hz0 | hz0
    · exact hz0
    · have := Int.mul_nonneg hz0 (Int.natCast_nonneg (2 ^ q))
      omega
  · intro hh
    exact Int.mul_neg_of_neg_of_pos hh (by omega)
theorem add_whole {b c : Nat} {x y : Int} (hx : Wh b x) (hy : Wh c y) (h : (x + y).natAbs < 2 ^ 53) : ∃ r, D.add b c = some r ∧ Wh r (x + y) := by
  obtain ⟨s, n, rfl, hn, rfl⟩ := hx
  obtain ⟨t, k, rfl, hk, rfl⟩ := hy
  obtain ⟨p, _, hp⟩ := fl_number s hn
  obtain ⟨u, _, hu⟩ := fl_number t hk
  exact write_sum2 hp hu h
theorem sub_whole {b c : Nat} {x y : Int} (hx : Wh b x) (hy : Wh c y) (h : (x - y).natAbs < 2 ^ 53) : ∃ r, D.sub b c = some r ∧ Wh r (x - y) := by
  obtain ⟨s, n, rfl, hn, rfl⟩ := hx
  obtain ⟨t, k, rfl, hk, rfl⟩ := hy
  obtain ⟨p, _, hp⟩ := fl_number s hn
  obtain ⟨u, _, hu⟩ := fl_number t hk
  have ho : (D.read (fl t k)).opposite = .number (!t) (k * 2 ^ u) (-(u : Int)) := by rw [hu]; rfl
  have hsg : sg t k = -sg (!t) k := by
    unfold sg
    cases t <;> simp
  have hs : sg s n - sg t k = sg s n + sg (!t) k := by rw [hsg]; omega
  rw [hs] at h ⊢
  have := write_sum2 hp ho h
  exact this

theorem mul_whole {b c : Nat} {x y : Int} (hx : Wh b x) (hy : Wh c y) (h : (x * y).natAbs < 2 ^ 53) : ∃ r, D.mul b c = some r ∧ Wh r (x * y) := by
  obtain ⟨s, n, rfl, hn, rfl⟩ := hx
  obtain ⟨t, k, rfl, hk, rfl⟩ := hy
  obtain ⟨p, _, hp⟩ := fl_number s hn
  obtain ⟨u, _, hu⟩ := fl_number t hk
  have e0 : sg s n * sg t k = sg (s ^^ t) (n * k) := by
    unfold sg
    cases s <;> cases t <;> simp [Int.natCast_mul, Int.neg_mul, Int.mul_neg]
  rw [e0] at h ⊢
  rw [sg_abs] at h
  refine ⟨_, ?_, ⟨s ^^ t, n * k, rfl, h, rfl⟩⟩
  unfold Format.mul
  rw [hp, hu]
  unfold Datum.product
  simp only [Option.map_some]
  congr 1
  unfold Format.write
  simp only
  have e1 : n * 2 ^ p * (k * 2 ^ u) = n * k * 2 ^ (p + u) := by rw [Nat.pow_add, Nat.mul_mul_mul_comm]
  rw [e1, show -(p : Int) + -(u : Int) = -((p + u : Nat) : Int) by omega]
  exact fl_nearest _ _ h
theorem order_whole {b c : Nat} {x y : Int} (hx : Wh b x) (hy : Wh c y) : D.order b c = some (compare x y) := by
  obtain ⟨s, n, rfl, hn, rfl⟩ := hx
  obtain ⟨t, k, rfl, hk, rfl⟩ := hy
  obtain ⟨p, _, hp⟩ := fl_number s hn
  obtain ⟨u, _, hu⟩ := fl_number t hk
  unfold Format.order
  rw [hp, hu]
  obtain ⟨q, hq⟩ : ∃ q : Nat, min (-(p : Int)) (-(u : Int)) = -(q : Int) := ⟨max p u, by omega⟩
  have e1 : p + (-(p : Int) - -(q : Int)).toNat = q := by omega
  have e2 : u + (-(u : Int) - -(q : Int)).toNat = q := by omega
  unfold Datum.order
  simp only [hq, signed_shift, e1, e2]
  congr 1
  have hP : (0 : Int) < ((2 ^ q : Nat) : Int) := by
    have := Nat.two_pow_pos q
    omega
  show compareOfLessAndEq _ _ = compareOfLessAndEq _ _
  unfold compareOfLessAndEq
  have i1 : (sg s n * ((2 ^ q : Nat) : Int) < sg t k * ((2 ^ q : Nat) : Int)) ↔ sg s n < sg t k := Int.mul_lt_mul_right hP
  have i2 : (sg s n * ((2 ^ q : Nat) : Int) = sg t k * ((2 ^ q : Nat) : Int)) ↔ sg s n = sg t k := Int.mul_eq_mul_right_iff (by omega)
  simp only [i1, i2]
theorem int_whole {b : Nat} {x : Int} (hx : Wh b x) : (D.read b).toInt .zero = some x := by
  obtain ⟨s, n, rfl, hn, rfl⟩ := hx
  obtain ⟨p, hp1, hp⟩ := fl_number s hn
  rw [hp]
  unfold Datum.toInt Datum.integral
  simp only
  have e1 : (-(p : Int)).toNat = 0 := by omega
  have e2 : (-(-(p : Int))).toNat = p := by omega
  rw [e1, e2, Nat.shiftLeft_zero]
  have e3 : Toward.zero.cut s (n * 2 ^ p) p = n := by
    unfold Toward.cut
    rcases Nat.eq_zero_or_pos n with h0 | h0
    · subst h0
      simp
    · have hm : min p ((n * 2 ^ p).log2 + 2) = p := by
        rw [log2_mul (by omega)]
        omega
      simp only [hm, Nat.one_shiftLeft]
      rw [Nat.mul_div_cancel _ (Nat.two_pow_pos p)]
      simp
  rw [e3]
  unfold signed sg
  simp
theorem of_int (z : Int) (h : z.natAbs < 2 ^ 53) : Wh (D.write (.number (decide (z < 0)) z.natAbs 0)) z := ⟨decide (z < 0), z.natAbs, rfl, h, sg_of fun _ => rfl⟩

/-! ### The word's fields -/
/-- Of a whole number from 1 on: the exponent field less 1023, the fraction field. -/
def tf (n : Nat) : Nat := n * 2 ^ (52 - n.log2) - 2 ^ 52
theorem norm_bounds {n : Nat} (hn : n ≠ 0) (hb : n < 2 ^ 53) : 2 ^ 52 ≤ n * 2 ^ (52 - n.log2) ∧ n * 2 ^ (52 - n.log2) < 2 ^ 53 := by
  have hL : n.log2 < 53 := (Nat.log2_lt hn).2 hb
  constructor
  · have h := Nat.mul_le_mul_right (2 ^ (52 - n.log2)) (Nat.log2_self_le hn)
    rw [← Nat.pow_add, show n.log2 + (52 - n.log2) = 52 by omega] at h
    exact h
  · have h3 : n < 2 ^ (n.log2 + 1) := Nat.lt_log2_self
    have h4 : n * 2 ^ (52 - n.log2) < 2 ^ (n.log2 + 1) * 2 ^ (52 - n.log2) := (Nat.mul_lt_mul_right (Nat.two_pow_pos _)).2 h3
    rw [← Nat.pow_add, show n.log2 + 1 + (52 - n.log2) = 53 by omega] at h4
    exact h4
set_option maxRecDepth 100000 in
theorem fl_fields (s : Bool) {n : Nat} (hn : n ≠ 0) (hb : n < 2 ^ 53) : fl s n = D.word s ((n.log2 + 1023) * 2 ^ 52 + tf n) ∧ tf n < 2 ^ 52 ∧ n.log2 < 53 := by
  have hL : n.log2 < 53 := (Nat.log2_lt hn).2 hb
  obtain ⟨h1, h2⟩ := norm_bounds hn hb
  unfold tf
  refine ⟨?_, by omega, hL⟩
  have e : (n.log2 + 1022) * 2 ^ 52 + n * 2 ^ (52 - n.log2) = (n.log2 + 1023) * 2 ^ 52 + (n * 2 ^ (52 - n.log2) - 2 ^ 52) := by omega
  rw [fl_word s hn hb, e]
theorem word_false (r : Nat) : D.word false r = r := rfl
theorem word_true (r : Nat) : D.word true r = 2 ^ 63 + r := by
  unfold Format.word
  rw [if_pos rfl, D_sign]
set_option maxRecDepth 100000 in
theorem fl_abs (s : Bool) {n : Nat} (hb : n < 2 ^ 53) : fl s n % 2 ^ 63 = fl false n ∧ fl s n < 2 ^ 64 := by
  rcases Nat.eq_zero_or_pos n with h | h
  · subst h
    rw [fl_zero, fl_zero]
    cases s <;> decide +kernel
  · obtain ⟨e1, h1, h2⟩ := fl_fields s (by omega) hb
    obtain ⟨e2, _, _⟩ := fl_fields false (by omega) hb
    rw [e1, e2, word_false]
    cases s with
    | true => rw [word_true]; omega
    | false => rw [word_false]; omega
theorem and_abs (b : Nat) : b &&& 9223372036854775807 = b % 2 ^ 63 := by
  have := Nat.and_two_pow_sub_one_eq_mod b 63
  simpa using this
theorem or_field (x t : Nat) (ht : t < 2 ^ 52) : t ||| x * 2 ^ 52 = x * 2 ^ 52 + t := by
  have h := Nat.two_pow_add_eq_or_of_lt ht x
  rw [Nat.mul_comm, h, Nat.or_comm]

theorem and_field (b : Nat) (hb : b < 2 ^ 63) : b &&& 9227875636482146303 = b % 2 ^ 52 := by
  apply Nat.eq_of_testBit_eq
  intro i
  rw [Nat.testBit_and, Nat.testBit_mod_two_pow]
  have e : (9227875636482146303 : Nat) = 2 ^ 63 * 1 + (2 ^ 52 - 1) := by decide
  rw [e]
  by_cases h : i < 52
  · have h1 : (2 ^ 63 * 1 + (2 ^ 52 - 1)).testBit i = true := by
      rw [Nat.testBit_two_pow_mul_add 1 (show 2 ^ 52 - 1 < 2 ^ 63 by decide), if_pos (by omega), Nat.testBit_two_pow_sub_one]
      simpa using h
    rw [h1]
    simp [h]
  · by_cases h2 : i < 63
    · have h1 : (2 ^ 63 * 1 + (2 ^ 52 - 1)).testBit i = false := by
        rw [Nat.testBit_two_pow_mul_add 1 (show 2 ^ 52 - 1 < 2 ^ 63 by decide), if_pos (by omega), Nat.testBit_two_pow_sub_one]
        simpa using h
      rw [h1]
      simp [h]
    · have h3 : b.testBit i = false := Nat.testBit_lt_two_pow (Nat.lt_of_lt_of_le hb (Nat.pow_le_pow_right (by decide) (by omega)))
      rw [h3]
      simp [h]

theorem one_word : fl false 1 = 4607182418800017408 := by decide +kernel
theorem prime_word : fl false 1048573 = 4697254385577623552 := by decide +kernel
theorem three_word : fl false 3 = 4613937818241073152 := by decide +kernel
theorem two_word : fl false 2 = 4611686018427387904 := by decide +kernel
theorem zero_word : fl false 0 = 0 := by decide +kernel
theorem w256_word : fl false 256 = 4643211215818981376 := by decide +kernel
theorem Wh.mk (s : Bool) {n : Nat} (h : n < 2 ^ 53) : Wh (fl s n) (sg s n) := ⟨s, n, rfl, h, rfl⟩
theorem Wh.nat {n : Nat} (h : n < 2 ^ 53) : Wh (fl false n) (n : Int) := ⟨false, n, rfl, h, rfl⟩
theorem Wh.pos {b : Nat} {z : Int} (h : Wh b z) (hz : 0 < z) : b = fl false z.toNat ∧ z.toNat < 2 ^ 53 := by
  obtain ⟨s, n, rfl, hn, rfl⟩ := h
  cases s with
  | true => simp [sg] at hz; omega
  | false => exact ⟨by simp [sg], by simpa [sg] using hn⟩

theorem compare_lt {x y : Int} (h : x < y) : compare x y = .lt := by
  show compareOfLessAndEq x y = .lt
  unfold compareOfLessAndEq
  rw [if_pos h]
theorem sg_lt (s : Bool) {n m p u : Nat} (h : n < m) : sg s n * ((2 ^ p : Nat) : Int) < ((m * 2 ^ (u + p) : Nat) : Int) := by
  have h1 : n * 2 ^ p < m * 2 ^ (u + p) := by
    rw [Nat.pow_add, ← Nat.mul_assoc]
    refine (Nat.mul_lt_mul_right (Nat.two_pow_pos p)).2 (Nat.lt_of_lt_of_le h (Nat.le_mul_of_pos_right m (Nat.two_pow_pos u)))
  unfold sg
  cases s with
  | true =>
    rw [if_pos rfl, Int.neg_mul, ← Int.natCast_mul]
    omega
  | false =>
    rw [if_neg (by decide), ← Int.natCast_mul]
    omega
/-- The greatest number is above every whole one. -/
theorem order_max (s : Bool) {n : Nat} (hb : n < 2 ^ 53) : D.order (fl s n) 9218868437227405311 = some .lt := by
  obtain ⟨p, hp1, hp⟩ := fl_number s hb
  obtain ⟨u, hu⟩ : ∃ u : Nat, u = 971 := ⟨_, rfl⟩
  obtain ⟨m, hm0⟩ : ∃ m : Nat, m = 2 ^ 53 - 1 := ⟨_, rfl⟩
  have hm : D.read 9218868437227405311 = .number false m (u : Int) := by
    subst hu hm0
    decide +kernel
  unfold Format.order
  rw [hp, hm]
  have hq : min (-(p : Int)) (u : Int) = -(p : Int) := by omega
  have e1 : p + (-(p : Int) - -(p : Int)).toNat = p := by omega
  have e2 : ((u : Int) - -(p : Int)).toNat = u + p := by omega
  have e3 : signed false m (u + p) = ((m * 2 ^ (u + p) : Nat) : Int) := by
    unfold signed
    rw [if_neg (by decide), Nat.shiftLeft_eq]
  have hnm : n < m ∨ n = m := by omega
  unfold Datum.order
  simp only [hq, signed_shift, e1, e2, e3]
  congr 1
  refine compare_lt ?_
  rcases hnm with h | h
  · exact sg_lt s h
  · have h1 : n < m * 2 ^ u := by
      rw [h]
      have : 1 < 2 ^ u := Nat.one_lt_two_pow (by omega)
      have hm1 : 0 < m := by omega
      exact (Nat.lt_mul_iff_one_lt_right hm1).2 this
    have := sg_lt s (p := p) (u := 0) h1
    rw [Nat.zero_add, Nat.mul_assoc, ← Nat.pow_add] at this
    exact this
set_option maxRecDepth 100000 in
/-- No whole number from 1 on is below the smallest normal one. -/
theorem order_tiny {n : Nat} (hn : n ≠ 0) (hb : n < 2 ^ 53) : D.order (fl false n) 4503599627370496 = some .gt := by
  have h1 := fl_read false hn hb
  have hL : n.log2 < 53 := (Nat.log2_lt hn).2 hb
  obtain ⟨b1, _⟩ := norm_bounds hn hb
  have hm : D.read 4503599627370496 = .number false (2 ^ 52) (-1074) := by decide +kernel
  obtain ⟨u, hu⟩ : ∃ u : Nat, u = n.log2 + 1022 := ⟨_, rfl⟩
  unfold Format.order
  rw [h1, hm]
  have hq : min ((n.log2 : Int) - 52) (-1074 : Int) = -1074 := by omega
  have e1 : ((n.log2 : Int) - 52 - -1074).toNat = u := by omega
  have e2 : ((-1074 : Int) - -1074).toNat = 0 := by omega
  unfold Datum.order
  simp only [hq, e1, e2]
  refine congrArg some ?_
  unfold signed
  rw [if_neg (by decide), if_neg (by decide), Nat.shiftLeft_eq, Nat.shiftLeft_zero]
  have h2 : 2 ^ 52 < n * 2 ^ (52 - n.log2) * 2 ^ u := by
    have h3 : 1 < 2 ^ u := Nat.one_lt_two_pow (by omega)
    generalize 2 ^ u = U at *
    generalize n * 2 ^ (52 - n.log2) = N at *
    have h4 : N * 1 < N * U := (Nat.mul_lt_mul_left (by omega)).2 h3
    omega
  show compareOfLessAndEq _ _ = .gt
  unfold compareOfLessAndEq
  rw [if_neg (by omega), if_neg (by omega)]

end Go.Proofs.Ytmajagdgpmbnhaa.Fl
