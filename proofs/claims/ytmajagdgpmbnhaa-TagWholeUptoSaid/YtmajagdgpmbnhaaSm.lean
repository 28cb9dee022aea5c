/-
  The sum of bytes, both sides.
-/
import Derived.Test.YtmajagdgpmbnhaaCrc
import Derived.Test.YtmajagdgpmbnhaaTt
namespace Go.Proofs.Ytmajagdgpmbnhaa
open Go.RowKit

def crcAt (S : ByteArray) (k : Nat) : Nat := Crc.F (S.data.toList.take k) 4294967295
theorem crcAt_lt (S : ByteArray) (k : Nat) : crcAt S k < 4294967296 := Crc.F_lt _ (by decide)
theorem crcAt_succ {S : ByteArray} {k : Nat} (h : k < S.size) : crcAt S (k + 1) = Crc.It 8 (crcAt S k ^^^ S[k].toNat) := by
  unfold crcAt Crc.F
  rw [List.take_succ_eq_append_getElem (by simpa using h), List.foldl_append]
  rfl
theorem crcAt_all {S : ByteArray} {k : Nat} (h : S.size ≤ k) : (4294967295 - crcAt S k : Int) = (Crc.sum S.data.toList : Nat) := by
  have h1 := Crc.sum_of S.data.toList
  unfold crcAt
  rw [List.take_of_length_le (by simpa using h)]
  omega

theorem and_one (z : Nat) : z &&& 1 = z % 2 := by
  simp
theorem ones_and {b : Nat} (h : b < 2 ^ 32) : b &&& 4294967295 = b := by
  have h1 := Nat.and_two_pow_sub_one_eq_mod b 32
  rw [show 2 ^ 32 - 1 = 4294967295 from rfl] at h1
  rw [h1]
  exact Nat.mod_eq_of_lt h
theorem ones_xor {x : Nat} (h : x < 4294967296) : 4294967295 ^^^ x = 4294967295 - x := by
  have e : 4294967295 - x = 2 ^ 32 - (x + 1) := by omega
  rw [e]
  apply Nat.eq_of_testBit_eq
  intro i
  rw [Nat.testBit_xor, Nat.testBit_two_pow_sub_succ (by omega), show (4294967295 : Nat) = 2 ^ 32 - 1 from rfl, Nat.testBit_two_pow_sub_one]
  by_cases hi : i < 32
  · simp [hi]
  · have : x.testBit i = false := Nat.testBit_lt_two_pow (Nat.lt_of_lt_of_le h (by rw [show (4294967296 : Nat) = 2 ^ 32 from rfl]; exact Nat.pow_le_pow_right (by decide) (by omega)))
    simp [hi, this]
theorem step_eq {z : Nat} (hz : z < 4294967296) : bits BinOp.xor IntKind.u32 ((z : Int) / 2) (bits BinOp.and IntKind.u32 2197175160 (-bits BinOp.and IntKind.u32 (z : Int) 1 % 4294967296)) = ((Crc.T z : Nat) : Int) := by
  have h1 : bits BinOp.and IntKind.u32 (z : Int) 1 = ((z % 2 : Nat) : Int) := by
    have := u32_and_nat z 1 hz (by omega)
    rw [and_one] at this
    exact this
  have h2 : (z : Int) / 2 = ((z / 2 : Nat) : Int) := by omega
  rw [h1, h2]
  unfold Crc.T
  rcases Nat.mod_two_eq_zero_or_one z with h | h
  · rw [h, if_neg (by decide)]
    have h3 : -((0 : Nat) : Int) % 4294967296 = ((0 : Nat) : Int) := by decide
    have h4 := u32_and_nat 2197175160 0 (by omega) (by omega)
    rw [Nat.and_zero] at h4
    have h5 := u32_xor_nat (z / 2) 0 (by omega) (by omega)
    rw [Nat.xor_zero] at h5
    rw [h3]
    exact (congrArg _ h4).trans h5
  · rw [h, if_pos rfl]
    have h3 : -((1 : Nat) : Int) % 4294967296 = ((4294967295 : Nat) : Int) := by decide
    have h4 := u32_and_nat 2197175160 4294967295 (by omega) (by omega)
    rw [ones_and (by omega)] at h4
    have h5 := u32_xor_nat (z / 2) 2197175160 (by omega) (by omega)
    rw [h3]
    exact (congrArg _ h4).trans h5
theorem not_eq {x : Nat} (hx : x < 4294967296) : wrap64 (bits BinOp.xor IntKind.u32 IntKind.u32.max (x : Int)) = 4294967295 - (x : Int) := by
  have h := u32_xor_nat 4294967295 x (by omega) hx
  rw [ones_xor hx] at h
  have e : IntKind.u32.max = ((4294967295 : Nat) : Int) := by decide
  rw [e, h]
  unfold wrap64
  omega
set_option maxRecDepth 100000 in
set_option maxHeartbeats 1000000 in
theorem sum_any {A : Option Addr} {n c : Nat} {S : ByteArray} {w : World} (h : By w A n S) : Calls Try.prog 11 #[.slice A n c] w fun e w' => e = .returned (.int .i64 ((Crc.sum S.data.toList : Nat) : Int)) ∧ w' = w := by
  have hn : n ≤ 9223372036854775807 := h.big
  have HL := Lib.hid h.len
  go_enter Try.func11, Try.ntmps11
  go_wp2
  go_loop [3, 8] (fun t i => ∃ (k x : Nat), k ≤ n ∧ i = .int .i64 k ∧ t = .int .u32 x ∧ x < 4294967296 ∧ Hid (x = crcAt S k)) (fun _ i => n - (intOf i).toNat)
  case atStart => exact ⟨0, 4294967295, Nat.zero_le _, rfl, rfl, by omega, rfl⟩
  case round =>
    obtain ⟨k, x, hk, rfl, rfl, hx, hxe⟩ := hrel
    by_cases hlt : k < n
    · obtain ⟨bb, off, rfl, hB⟩ := h.at_ (by omega)
      have hk2 : k < S.size := by rw [HL.out]; exact hlt
      obtain ⟨cv, hcv⟩ : ∃ cv : Nat, S[k].toNat = cv := ⟨_, rfl⟩
      have hc1 : cv < 256 := by rw [← hcv]; exact S[k].toNat_lt
      have c0 := hB k hk2
      rw [hcv] at c0
      have HS := Lib.hid (crcAt_succ hk2)
      rw [hcv, ← hxe.out] at HS
      obtain ⟨y, hy⟩ : ∃ y, x ^^^ cv = y := ⟨_, rfl⟩
      have hy1 : y < 4294967296 := by rw [← hy]; exact Nat.xor_lt_two_pow (n := 32) hx (by omega)
      have k1 : bits .xor .u32 (x : Int) (cv : Int) = (y : Int) := by rw [← hy]; exact u32_xor_nat x cv hx (by omega)
      rw [hy] at HS
      clear hcv hy
      go_wp2
      go_loop [3, 16] (fun t j => ∃ (m z : Nat), m ≤ 8 ∧ j = .int .i64 m ∧ t = .int .u32 z ∧ z < 4294967296 ∧ Hid (z = Crc.It m y)) (fun _ j => 8 - (intOf j).toNat)
      case atStart => exact ⟨0, y, Nat.zero_le _, rfl, rfl, hy1, rfl⟩
      case round =>
        obtain ⟨m, z, hm, rfl, rfl, hz, hze⟩ := hrel
        by_cases hlm : m < 8
        · have e1 := Lib.hid (step_eq hz)
          have hT : Crc.T z < 4294967296 := Crc.T_lt hz
          go_wp2
          go_round
          case rel =>
            refine ⟨m + 1, Crc.T z, by omega, by go_num, by rw [e1.out], hT, ?_⟩
            show Crc.T z = Crc.T (Crc.It m y)
            rw [hze.out]
          case measure => simp [intOf]; omega
        · obtain rfl : m = 8 := by omega
          go_wp2
          go_round
          case rel => exact ⟨k + 1, z, by omega, by go_num, rfl, hz, hze.out.trans HS.out.symm⟩
          case measure => simp [intOf]; omega
    · obtain rfl : k = n := by omega
      have e1 := Lib.hid (not_eq hx)
      have e2 : Hid ((4294967295 - (x : Int)) = ((Crc.sum S.data.toList : Nat) : Int)) := by
        show _ = _
        rw [hxe.out]
        exact crcAt_all (by rw [HL.out]; exact Nat.le_refl _)
      go_wp2
      go_ret
      exact ⟨ret_i64 (e1.out.trans e2.out), rfl⟩

theorem not_eq2 {x : Nat} (hx : x < 4294967296) : wrap64 (bits BinOp.xor IntKind.u32 (x : Int) 4294967295) = 4294967295 - (x : Int) := by
  have h := u32_xor_nat x 4294967295 hx (by omega)
  rw [Nat.xor_comm, ones_xor hx] at h
  refine (congrArg wrap64 h).trans ?_
  unfold wrap64
  omega
theorem low_eq {z : Nat} (hz : z < 4294967296) : bits BinOp.and IntKind.u32 (z : Int) 1 = ((z % 2 : Nat) : Int) := by
  have := u32_and_nat z 1 hz (by omega)
  rw [and_one] at this
  exact this
set_option maxRecDepth 100000 in
set_option maxHeartbeats 1000000 in
theorem rsum_any (S : ByteArray) (w : World) (hS : S.size ≤ 9223372036854775807) : Calls Try.prog 12 #[.string S] w fun e w' => e = .returned (.int .i64 ((Crc.sum S.data.toList : Nat) : Int)) ∧ w' = w := by
  go_enter Try.func12, Try.ntmps12
  go_wp2
  go_loop [3, 4] (fun t i => ∃ (k x : Nat), k ≤ S.size ∧ i = .int .i64 k ∧ t = .int .u32 x ∧ x < 4294967296 ∧ Hid (x = crcAt S k)) (fun _ i => S.size - (intOf i).toNat)
  case atStart => exact ⟨0, 4294967295, Nat.zero_le _, rfl, rfl, by omega, rfl⟩
  case round =>
    obtain ⟨k, x, hk, rfl, rfl, hx, hxe⟩ := hrel
    by_cases hlt : k < S.size
    · obtain ⟨cv, hcv⟩ : ∃ cv : Nat, S[k].toNat = cv := ⟨_, rfl⟩
      have hc1 : cv < 256 := by rw [← hcv]; exact S[k].toNat_lt
      have HS := Lib.hid (crcAt_succ hlt)
      rw [hcv, ← hxe.out] at HS
      obtain ⟨y, hy⟩ : ∃ y, x ^^^ cv = y := ⟨_, rfl⟩
      have hy1 : y < 4294967296 := by rw [← hy]; exact Nat.xor_lt_two_pow (n := 32) hx (by omega)
      have k1 : bits .xor .u32 (x : Int) (cv : Int) = (y : Int) := by rw [← hy]; exact u32_xor_nat x cv hx (by omega)
      rw [hy] at HS
      clear hy
      go_wp2
      go_loop [3, 5] (fun t j => ∃ (m z : Nat), m ≤ 8 ∧ j = .int .i64 m ∧ t = .int .u32 z ∧ z < 4294967296 ∧ Hid (z = Crc.It m y)) (fun _ j => 8 - (intOf j).toNat)
      case atStart => exact ⟨0, y, Nat.zero_le _, rfl, rfl, hy1, rfl⟩
      case round =>
        obtain ⟨m, z, hm, rfl, rfl, hz, hze⟩ := hrel
        by_cases hlm : m < 8
        · have hT : Crc.T z < 4294967296 := Crc.T_lt hz
          have hl := low_eq hz
          obtain ⟨q, hq⟩ : ∃ q : Nat, z / 2 = q := ⟨_, rfl⟩
          have hq2 : (z : Int) / 2 = (q : Int) := by omega
          rcases Nat.mod_two_eq_zero_or_one z with h0 | h0
          · rw [h0] at hl
            have e1 : Hid (Crc.T z = q) := by
              show _ = _
              unfold Crc.T
              rw [h0, if_neg (by decide), hq]
            clear h0 hq
            go_wp2
            go_round
            case rel =>
              refine ⟨m + 1, Crc.T z, by omega, by go_num, by rw [e1.out], hT, ?_⟩
              show Crc.T z = Crc.T (Crc.It m y)
              rw [hze.out]
            case measure => simp [intOf]; omega
          · rw [h0] at hl
            have e1 : Hid (Crc.T z = q ^^^ 2197175160) := by
              show _ = _
              unfold Crc.T
              rw [h0, if_pos rfl, hq]
            have e2 := Lib.hid (u32_xor_nat q 2197175160 (by omega) (by omega))
            clear h0 hq
            go_wp2
            go_round
            case rel =>
              refine ⟨m + 1, Crc.T z, by omega, by go_num, by rw [e1.out]; exact congrArg (Value.int .u32) e2.out, hT, ?_⟩
              show Crc.T z = Crc.T (Crc.It m y)
              rw [hze.out]
            case measure => simp [intOf]; omega
        · obtain rfl : m = 8 := by omega
          go_wp2
          go_round
          case rel => exact ⟨k + 1, z, by omega, by go_num, rfl, hz, hze.out.trans HS.out.symm⟩
          case measure => simp [intOf]; omega
    · obtain rfl : k = S.size := by omega
      have e2 : Hid ((4294967295 - (x : Int)) = ((Crc.sum S.data.toList : Nat) : Int)) := by
        show _ = _
        rw [hxe.out]
        exact crcAt_all (Nat.le_refl _)
      have e1 := Lib.hid (not_eq2 hx)
      go_wp2
      go_ret
      exact ⟨ret_i64 (e1.out.trans e2.out), rfl⟩

end Go.Proofs.Ytmajagdgpmbnhaa
