/-
  The sum of bytes, plain: it is linear, and a step loses nothing.
-/
import GoSem.Core.Value
namespace Go.Proofs.Ytmajagdgpmbnhaa.Crc

/-- A step for one bit. -/
def T (s : Nat) : Nat := if s % 2 = 1 then (s / 2) ^^^ 2197175160 else s / 2
def It : Nat → Nat → Nat
  | 0, s => s
  | k + 1, s => T (It k s)
def byte (s c : Nat) : Nat := It 8 (s ^^^ c)
def F (l : List UInt8) (s : Nat) : Nat := l.foldl (fun s c => byte s c.toNat) s
def sum (l : List UInt8) : Nat := 4294967295 - F l 4294967295

theorem xor_half (a b : Nat) : (a ^^^ b) / 2 = (a / 2) ^^^ (b / 2) := by
  have h := Nat.shiftRight_xor_distrib (a := a) (b := b) (i := 1)
  simpa [Nat.shiftRight_eq_div_pow] using h
theorem xor_odd (a b : Nat) : (a ^^^ b) % 2 = (a % 2 + b % 2) % 2 := by
  have h := Nat.xor_mod_two_pow (a := a) (b := b) (n := 1)
  rw [Nat.pow_one] at h
  rw [h]
  rcases Nat.mod_two_eq_zero_or_one a with ha | ha <;> rcases Nat.mod_two_eq_zero_or_one b with hb | hb <;> rw [ha, hb] <;> rfl
theorem xor_none {a b : Nat} (h : a ^^^ b = 0) : a = b := by
  have e : a ^^^ b ^^^ b = a := by rw [Nat.xor_assoc, Nat.xor_self, Nat.xor_zero]
  rw [h, Nat.zero_xor] at e
  exact e.symm
theorem T_lt {s : Nat} (h : s < 2 ^ 32) : T s < 2 ^ 32 := by
  unfold T
  split
  · exact Nat.xor_lt_two_pow (by omega) (by omega)
  · omega
theorem T_xor (a b : Nat) : T (a ^^^ b) = T a ^^^ T b := by
  unfold T
  rw [xor_half, xor_odd]
  rcases Nat.mod_two_eq_zero_or_one a with ha | ha <;> rcases Nat.mod_two_eq_zero_or_one b with hb | hb <;> rw [ha, hb]
  · simp
  · simp [Nat.xor_assoc]
  · simp only [Nat.reduceAdd, Nat.reduceMod, if_true, Nat.zero_ne_one, if_false]
    rw [Nat.xor_assoc, Nat.xor_assoc, Nat.xor_comm (b / 2)]
  · simp only [Nat.reduceAdd, Nat.reduceMod, if_true, Nat.zero_ne_one, if_false]
    rw [Nat.xor_assoc, ← Nat.xor_assoc 2197175160, Nat.xor_comm 2197175160 (b / 2), Nat.xor_assoc, Nat.xor_self, Nat.xor_zero]
theorem T_none {s : Nat} (h : s < 2 ^ 32) (h0 : T s = 0) : s = 0 := by
  unfold T at h0
  split at h0
  · have := xor_none h0
    omega
  · omega
theorem T_two (y : Nat) : T (2 * y) = y := by
  unfold T
  rw [if_neg (by omega)]
  omega
theorem It_lt {k s : Nat} (h : s < 2 ^ 32) : It k s < 2 ^ 32 := by
  induction k with
  | zero => exact h
  | succ k ih => exact T_lt ih
theorem It_xor (k a b : Nat) : It k (a ^^^ b) = It k a ^^^ It k b := by
  induction k with
  | zero => rfl
  | succ k ih =>
    show T (It k (a ^^^ b)) = T (It k a) ^^^ T (It k b)
    rw [ih, T_xor]
theorem It_none {k s : Nat} (h : s < 2 ^ 32) (h0 : It k s = 0) : s = 0 := by
  induction k with
  | zero => exact h0
  | succ k ih => exact ih (T_none (It_lt h) h0)
theorem It_add (a b s : Nat) : It (a + b) s = It a (It b s) := by
  induction a with
  | zero => rw [Nat.zero_add]; rfl
  | succ a ih =>
    rw [Nat.succ_add]
    show T (It (a + b) s) = T (It a (It b s))
    rw [ih]
theorem It_shift (k x : Nat) : It k (x * 2 ^ k) = x := by
  induction k with
  | zero => simp [It]
  | succ k ih =>
    rw [It_add k 1, show x * 2 ^ (k + 1) = 2 * (x * 2 ^ k) by rw [Nat.pow_succ, Nat.mul_comm 2, Nat.mul_assoc]]
    show It k (T (2 * (x * 2 ^ k))) = x
    rw [T_two, ih]
theorem It_one {n k : Nat} (h : k ≤ n) : It n (2 ^ k) = It (n - k) 1 := by
  have h1 := It_add (n - k) k (2 ^ k)
  have h2 := It_shift k 1
  rw [Nat.one_mul] at h2
  rw [show n - k + k = n by omega, h2] at h1
  exact h1
theorem byte_lt {s : Nat} (c : UInt8) (h : s < 2 ^ 32) : byte s c.toNat < 2 ^ 32 :=
  It_lt (Nat.xor_lt_two_pow h (Nat.lt_of_lt_of_le c.toNat_lt (by decide)))
theorem F_lt (l : List UInt8) : ∀ {s : Nat}, s < 2 ^ 32 → F l s < 2 ^ 32 := by
  induction l with
  | nil => exact fun h => h
  | cons c l ih => exact fun h => ih (byte_lt c h)
theorem F_xor (l : List UInt8) : ∀ s d : Nat, F l (s ^^^ d) = F l s ^^^ It (8 * l.length) d := by
  induction l with
  | nil => intro s d; rfl
  | cons c l ih =>
    intro s d
    show F l (byte (s ^^^ d) c.toNat) = F l (byte s c.toNat) ^^^ _
    have e : byte (s ^^^ d) c.toNat = byte s c.toNat ^^^ It 8 d := by
      unfold byte
      rw [← It_xor, Nat.xor_assoc, Nat.xor_comm d, ← Nat.xor_assoc]
    rw [e, ih, ← It_add, List.length_cons, Nat.mul_add, Nat.mul_one]
/-- Bit k of the bytes turned. -/
def flip (l : List UInt8) (k : Nat) : List UInt8 := l.set (k / 8) (UInt8.ofNat ((l[k / 8]?.getD 0).toNat ^^^ 2 ^ (k % 8)))
theorem flip_length (l : List UInt8) (k : Nat) : (flip l k).length = l.length := by simp [flip]
theorem flip_sum (l : List UInt8) : ∀ (k s : Nat), k < 8 * l.length → F (flip l k) s = F l s ^^^ It (8 * l.length - k) 1 := by
  induction l with
  | nil => intro k s h; simp at h
  | cons c l ih =>
    intro k s h
    rw [List.length_cons] at h
    rcases Nat.lt_or_ge k 8 with hk | hk
    · have h0 : k / 8 = 0 := by omega
      have h1 : k % 8 = k := by omega
      have hp : 2 ^ k < 2 ^ 8 := Nat.pow_lt_pow_right (by decide) hk
      have e0 : flip (c :: l) k = UInt8.ofNat (c.toNat ^^^ 2 ^ k) :: l := by
        unfold flip
        rw [h0, h1]
        rfl
      have e1 : (UInt8.ofNat (c.toNat ^^^ 2 ^ k)).toNat = c.toNat ^^^ 2 ^ k := by
        rw [UInt8.toNat_ofNat']
        exact Nat.mod_eq_of_lt (Nat.xor_lt_two_pow c.toNat_lt hp)
      rw [e0]
      show F l (byte s (UInt8.ofNat (c.toNat ^^^ 2 ^ k)).toNat) = F l (byte s c.toNat) ^^^ _
      have e2 : byte s (UInt8.ofNat (c.toNat ^^^ 2 ^ k)).toNat = byte s c.toNat ^^^ It (8 - k) 1 := by
        rw [e1]
        unfold byte
        rw [← Nat.xor_assoc, It_xor, It_one (by omega)]
      rw [e2, F_xor, ← It_add, List.length_cons]
      congr 2
      omega
    · obtain ⟨j, rfl⟩ : ∃ j, k = j + 8 := ⟨k - 8, by omega⟩
      have h0 : (j + 8) / 8 = j / 8 + 1 := by omega
      have h1 : (j + 8) % 8 = j % 8 := by omega
      have e0 : flip (c :: l) (j + 8) = c :: flip l j := by
        unfold flip
        rw [h0, h1]
        rfl
      rw [e0]
      show F (flip l j) (byte s c.toNat) = F l (byte s c.toNat) ^^^ _
      rw [ih j _ (by omega), List.length_cons]
      congr 2
      omega

/-- The bytes behind i rounds: what the law turns. -/
structure Round (l m : List UInt8) (fr b i : Nat) : Prop where
  length : m.length = l.length
  same : ∀ s, F m s = F l s ^^^ It (8 * l.length - fr) (b % 2 ^ i)
theorem Round.start (l : List UInt8) (fr b : Nat) : Round l l fr b 0 := by
  refine ⟨rfl, fun s => ?_⟩
  have h : ∀ k, It k 0 = 0 := by
    intro k
    induction k with
    | zero => rfl
    | succ k ih => show T (It k 0) = 0; rw [ih]; rfl
  rw [Nat.pow_zero, Nat.mod_one, h, Nat.xor_zero]
theorem mod_step (b i : Nat) : b % 2 ^ (i + 1) = if b / 2 ^ i % 2 = 1 then b % 2 ^ i + 2 ^ i else b % 2 ^ i := by
  have h := Nat.mod_pow_succ (b := 2) (x := b) (k := i)
  rw [h]
  split
  · rename_i h1; rw [h1, Nat.mul_one]
  · have : b / 2 ^ i % 2 = 0 := by omega
    rw [this, Nat.mul_zero, Nat.add_zero]
theorem Round.keep {l m : List UInt8} {fr b i : Nat} (h : Round l m fr b i) (hb : b / 2 ^ i % 2 ≠ 1) : Round l m fr b (i + 1) := by
  refine ⟨h.length, fun s => ?_⟩
  rw [h.same, mod_step, if_neg hb]
theorem Round.turn {l m : List UInt8} {fr b i : Nat} (h : Round l m fr b i) (hb : b / 2 ^ i % 2 = 1) (hi : fr + i < 8 * l.length) : Round l (flip m (fr + i)) fr b (i + 1) := by
  refine ⟨by rw [flip_length, h.length], fun s => ?_⟩
  rw [flip_sum m _ _ (by rw [h.length]; exact hi), h.same, mod_step, if_pos hb, h.length]
  have hlt : b % 2 ^ i < 2 ^ i := Nat.mod_lt _ (Nat.two_pow_pos i)
  have e : b % 2 ^ i + 2 ^ i = b % 2 ^ i ^^^ 2 ^ i := by
    rw [Nat.add_comm, Nat.xor_comm]
    apply Nat.eq_of_testBit_eq
    intro j
    rw [Nat.testBit_xor]
    have ht := Nat.testBit_two_pow_mul_add 1 hlt j
    rw [Nat.mul_one] at ht
    rw [ht, Nat.testBit_two_pow]
    by_cases hj : j < i
    · rw [if_pos hj, decide_eq_false (by omega)]
      simp
    · have hz : (b % 2 ^ i).testBit j = false := Nat.testBit_lt_two_pow (Nat.lt_of_lt_of_le hlt (Nat.pow_le_pow_right (by decide) (by omega)))
      rw [if_neg hj, hz, Bool.xor_false]
      by_cases h2 : i = j
      · subst h2
        simp
      · have e3 : (1 : Nat).testBit (j - i) = false := Nat.testBit_lt_two_pow (by
          have : 2 ^ 1 ≤ 2 ^ (j - i) := Nat.pow_le_pow_right (by decide) (by omega)
          omega)
        rw [e3, decide_eq_false h2]
  rw [e, It_xor, It_one (by omega), ← Nat.xor_assoc]
  congr 2
  omega
theorem sum_of (l : List UInt8) : sum l + F l 4294967295 = 4294967295 := by
  have := F_lt l (s := 4294967295) (by decide)
  unfold sum
  omega
/-- Turned somewhere: another sum. -/
theorem Round.other {l m : List UInt8} {fr b i : Nat} (h : Round l m fr b i) (hi : i ≤ 32) (hb : b % 2 ^ i ≠ 0) : sum l ≠ sum m := by
  intro e
  have h1 := sum_of l
  have h2 := sum_of m
  have h3 := h.same 4294967295
  have h4 : F m 4294967295 = F l 4294967295 := by omega
  rw [h4] at h3
  have h5 : It (8 * l.length - fr) (b % 2 ^ i) = 0 := by
    have := congrArg (fun x => F l 4294967295 ^^^ x) h3
    simp only [Nat.xor_self, ← Nat.xor_assoc, Nat.zero_xor] at this
    exact this.symm
  have hlt : b % 2 ^ i < 2 ^ 32 := Nat.lt_of_lt_of_le (Nat.mod_lt _ (Nat.two_pow_pos i)) (Nat.pow_le_pow_right (by decide) hi)
  exact hb (It_none hlt h5)

end Go.Proofs.Ytmajagdgpmbnhaa.Crc
