/-
  digit, value; Parse of both sides.
-/
import Derived.Test.YtmajagdgpmbnhaaRtx
namespace Go.Proofs.Ytmajagdgpmbnhaa
open Go.RowKit

/-- What a byte is worth; none: it is no digit. -/
def dv (c : Nat) : Option Nat := if 48 ≤ c ∧ c ≤ 57 then some (c - 48) else if 97 ≤ c ∧ c ≤ 102 then some (c - 87) else none
def vals : List UInt8 → Nat → Option Nat
  | [], n => some n
  | c :: l, n => match dv c.toNat with | some d => vals l (16 * n + d) | none => none
theorem dv_lt {c d : Nat} (h : dv c = some d) : d < 16 := by
  unfold dv at h
  split at h
  · injection h with h; omega
  · split at h
    · injection h with h; omega
    · cases h
theorem dv_num {c d : Nat} (h : dv c = some d) (h1 : 48 ≤ c ∧ c ≤ 57) : d = c - 48 := by
  unfold dv at h
  rw [if_pos h1] at h
  injection h with h
  exact h.symm
theorem dv_let {c d : Nat} (h : dv c = some d) (h1 : ¬ (48 ≤ c ∧ c ≤ 57)) : 97 ≤ c ∧ c ≤ 102 ∧ d = c - 87 := by
  unfold dv at h
  rw [if_neg h1] at h
  split at h
  · rename_i h2
    injection h with h
    exact ⟨h2.1, h2.2, h.symm⟩
  · cases h
theorem dv_none {c : Nat} (h : dv c = none) : ¬ (48 ≤ c ∧ c ≤ 57) ∧ ¬ (97 ≤ c ∧ c ≤ 102) := by
  unfold dv at h
  split at h
  · cases h
  · rename_i h1
    split at h
    · cases h
    · rename_i h2
      exact ⟨h1, h2⟩

def RetD (o : Option Nat) (w : World) (e : Ending) (w' : World) : Prop :=
  (match o with | some d => e = .returned (.tuple #[.int .i64 (d : Int), .bool true]) | none => e = .returned (.tuple #[.int .i64 0, .bool false])) ∧ w = w'
theorem ret_dig {a b : Int} (h : a = b) : Ending.returned (.tuple #[.int .i64 a, .bool true]) = .returned (.tuple #[.int .i64 b, .bool true]) := by rw [h]

set_option maxRecDepth 100000 in
theorem digit_yes {c d : Nat} (hc : c < 256) (h : dv c = some d) (w : World) : Calls Try.prog 35 #[.int .u8 (c : Int)] w fun e w' => e = .returned (.tuple #[.int .i64 (d : Int), .bool true]) ∧ w' = w := by
  by_cases h1 : 48 ≤ c ∧ c ≤ 57
  · have hd := Lib.hid (dv_num h h1)
    obtain ⟨p1, p2⟩ := h1
    have g1 : decide (48 ≤ (c : Int)) = true := decide_eq_true (by omega)
    have g2 : decide ((c : Int) ≤ 57) = true := decide_eq_true (by omega)
    clear h
    go_enter Try.func35, Try.ntmps35
    go_wp2
    go_ret2
    exact ⟨ret_dig (by rw [hd.out]; omega), rfl⟩
  · obtain ⟨p1, p2, p3⟩ := dv_let h h1
    have hd := Lib.hid p3
    have g1 : decide (48 ≤ (c : Int)) = true := decide_eq_true (by omega)
    have g2 : decide ((c : Int) ≤ 57) = false := decide_eq_false (by omega)
    have g3 : decide (97 ≤ (c : Int)) = true := decide_eq_true (by omega)
    have g4 : decide ((c : Int) ≤ 102) = true := decide_eq_true (by omega)
    clear h h1 p3
    go_enter Try.func35, Try.ntmps35
    go_wp2
    go_ret2
    exact ⟨ret_dig (by rw [hd.out]; omega), rfl⟩
set_option maxRecDepth 100000 in
theorem digit_no {c : Nat} (hc : c < 256) (h : dv c = none) (w : World) : Calls Try.prog 35 #[.int .u8 (c : Int)] w fun e w' => e = .returned (.tuple #[.int .i64 0, .bool false]) ∧ w' = w := by
  obtain ⟨h1, h2⟩ := dv_none h
  have hcase : c < 48 ∨ (57 < c ∧ c < 97) ∨ 102 < c := by omega
  clear h h1 h2
  rcases hcase with h | ⟨h, h'⟩ | h
  · have g1 : decide (48 ≤ (c : Int)) = false := decide_eq_false (by omega)
    have g3 : decide (97 ≤ (c : Int)) = false := decide_eq_false (by omega)
    go_enter Try.func35, Try.ntmps35
    go_wp2
    go_ret2
    exact ⟨rfl, rfl⟩
  · have g1 : decide (48 ≤ (c : Int)) = true := decide_eq_true (by omega)
    have g2 : decide ((c : Int) ≤ 57) = false := decide_eq_false (by omega)
    have g3 : decide (97 ≤ (c : Int)) = false := decide_eq_false (by omega)
    go_enter Try.func35, Try.ntmps35
    go_wp2
    go_ret2
    exact ⟨rfl, rfl⟩
  · have g1 : decide (48 ≤ (c : Int)) = true := decide_eq_true (by omega)
    have g2 : decide ((c : Int) ≤ 57) = false := decide_eq_false (by omega)
    have g3 : decide (97 ≤ (c : Int)) = true := decide_eq_true (by omega)
    have g4 : decide ((c : Int) ≤ 102) = false := decide_eq_false (by omega)
    go_enter Try.func35, Try.ntmps35
    go_wp2
    go_ret2
    exact ⟨rfl, rfl⟩

/-! ### The reference's value -/
theorem vals_append (l : List UInt8) (c : UInt8) : ∀ n, vals (l ++ [c]) n = match vals l n with | some m => (match dv c.toNat with | some d => some (16 * m + d) | none => none) | none => none := by
  induction l with
  | nil =>
    intro n
    show (match dv c.toNat with | some d => vals [] (16 * n + d) | none => none) = _
    cases dv c.toNat <;> rfl
  | cons x l ih =>
    intro n
    show (match dv x.toNat with | some d => vals (l ++ [c]) (16 * n + d) | none => none) = match (match dv x.toNat with | some d => vals l (16 * n + d) | none => none) with | some m => _ | none => none
    cases dv x.toNat with
    | none => rfl
    | some d => exact ih _
theorem vals_stop (l k : List UInt8) : ∀ n, vals l n = none → vals (l ++ k) n = none := by
  induction l with
  | nil => intro n h; cases h
  | cons x l ih =>
    intro n h
    show (match dv x.toNat with | some d => vals (l ++ k) (16 * n + d) | none => none) = none
    change (match dv x.toNat with | some d => vals l (16 * n + d) | none => none) = none at h
    cases hd : dv x.toNat with
    | none => rfl
    | some d =>
      rw [hd] at h
      exact ih _ h
theorem vals_lt (l : List UInt8) : ∀ n m, vals l n = some m → m < 16 ^ l.length * (n + 1) := by
  induction l with
  | nil =>
    intro n m h
    injection h with h
    subst h
    simp
  | cons x l ih =>
    intro n m h
    change (match dv x.toNat with | some d => vals l (16 * n + d) | none => none) = some m at h
    cases hd : dv x.toNat with
    | none => rw [hd] at h; cases h
    | some d =>
      rw [hd] at h
      have h1 := ih _ _ h
      have h2 := dv_lt hd
      rw [List.length_cons, Nat.pow_succ, Nat.mul_assoc]
      refine Nat.lt_of_lt_of_le h1 (Nat.mul_le_mul_left _ (by omega))
def valI (l : List UInt8) : Int := match vals l 0 with | some m => (m : Int) | none => -1
def valAt (S : ByteArray) (k : Nat) : Option Nat := vals (S.data.toList.take k) 0
theorem valAt_succ {S : ByteArray} {k : Nat} (h : k < S.size) : valAt S (k + 1) = match valAt S k with | some m => (match dv S[k].toNat with | some d => some (16 * m + d) | none => none) | none => none := by
  unfold valAt
  rw [List.take_succ_eq_append_getElem (by simpa using h), vals_append]
  rfl
theorem valAt_all {S : ByteArray} {k m : Nat} (hk : S.size ≤ k) (h : valAt S k = some m) : valI S.data.toList = (m : Int) := by
  unfold valAt at h
  rw [List.take_of_length_le (by simpa using hk)] at h
  unfold valI
  rw [h]
theorem valAt_stop {S : ByteArray} {k m : Nat} (hk : k < S.size) (h : valAt S k = some m) (hd : dv S[k].toNat = none) : valI S.data.toList = -1 := by
  have h1 := valAt_succ hk
  rw [h, hd] at h1
  have h2 : valAt S (k + 1) = none := h1
  have h3 := vals_stop (S.data.toList.take (k + 1)) (S.data.toList.drop (k + 1)) 0 h2
  rw [List.take_append_drop] at h3
  unfold valI
  rw [h3]
theorem valAt_lt {S : ByteArray} {k m : Nat} (hs : S.size ≤ 10) (h : valAt S k = some m) : m < 1099511627776 := by
  have h1 := vals_lt _ _ _ h
  have h2 : (S.data.toList.take k).length ≤ 10 := by
    have : S.data.toList.length = S.size := by simp
    rw [List.length_take]
    omega
  have h3 : 16 ^ (S.data.toList.take k).length ≤ 16 ^ 10 := Nat.pow_le_pow_right (by decide) h2
  rw [Nat.zero_add, Nat.mul_one] at h1
  exact Nat.lt_of_lt_of_le h1 h3

set_option maxRecDepth 100000 in
set_option maxHeartbeats 1000000 in
theorem value_any (S : ByteArray) (hs : S.size ≤ 10) (w : World) : Calls Try.prog 36 #[.string S] w fun e w' => e = .returned (.int .i64 (valI S.data.toList)) ∧ w' = w := by
  go_enter Try.func36, Try.ntmps36
  go_wp2
  go_loop [3, 4] (fun t i => ∃ (k m : Nat), k ≤ S.size ∧ i = .int .i64 k ∧ t = .int .i64 m ∧ m < 1099511627776 ∧ Hid (valAt S k = some m)) (fun _ i => S.size - (intOf i).toNat)
  case atStart => exact ⟨0, 0, Nat.zero_le _, rfl, rfl, by omega, rfl⟩
  case round =>
    obtain ⟨k, m, hk, rfl, rfl, hm, hv⟩ := hrel
    by_cases hlt : k < S.size
    · obtain ⟨c, hc⟩ : ∃ c : Nat, S[k].toNat = c := ⟨_, rfl⟩
      have hc1 : c < 256 := by rw [← hc]; exact S[k].toNat_lt
      have HC := Lib.hid hc
      cases hd : dv c with
      | some d =>
        have HD := Lib.hid hd
        have hnext : Hid (valAt S (k + 1) = some (16 * m + d)) := by
          show _ = _
          rw [valAt_succ hlt, hv.out, HC.out, HD.out]
        have hb := valAt_lt hs hnext.out
        by_cases h1 : 48 ≤ c ∧ c ≤ 57
        · have he := Lib.hid (dv_num hd h1)
          obtain ⟨p1, p2⟩ := h1
          have g1 : decide (48 ≤ (c : Int)) = true := decide_eq_true (by omega)
          have g2 : decide ((c : Int) ≤ 57) = true := decide_eq_true (by omega)
          clear hd
          go_wp2
          go_round
          case rel =>
            refine ⟨k + 1, 16 * m + d, by omega, by go_num, ?_, hb, hnext⟩
            have := he.out
            congr 1
            omega
          case measure => simp [intOf]; omega
        · obtain ⟨p1, p2, p3⟩ := dv_let hd h1
          have he := Lib.hid p3
          have g1 : decide (48 ≤ (c : Int)) = true := decide_eq_true (by omega)
          have g2 : decide ((c : Int) ≤ 57) = false := decide_eq_false (by omega)
          have g3 : decide (97 ≤ (c : Int)) = true := decide_eq_true (by omega)
          have g4 : decide ((c : Int) ≤ 102) = true := decide_eq_true (by omega)
          clear hd h1 p3
          go_wp2
          go_round
          case rel =>
            refine ⟨k + 1, 16 * m + d, by omega, by go_num, ?_, hb, hnext⟩
            have := he.out
            congr 1
            omega
          case measure => simp [intOf]; omega
      | none =>
        have hstop := Lib.hid (valAt_stop hlt hv.out (by rw [HC.out]; exact hd))
        obtain ⟨h1, h2⟩ := dv_none hd
        have hcase : c < 48 ∨ (57 < c ∧ c < 97) ∨ 102 < c := by omega
        clear hd h1 h2
        rcases hcase with h | ⟨h, h'⟩ | h
        · have g1 : decide (48 ≤ (c : Int)) = false := decide_eq_false (by omega)
          have g3 : decide (97 ≤ (c : Int)) = false := decide_eq_false (by omega)
          go_wp2
          go_ret
          exact ⟨ret_i64 hstop.out.symm, rfl⟩
        · have g1 : decide (48 ≤ (c : Int)) = true := decide_eq_true (by omega)
          have g2 : decide ((c : Int) ≤ 57) = false := decide_eq_false (by omega)
          have g3 : decide (97 ≤ (c : Int)) = false := decide_eq_false (by omega)
          go_wp2
          go_ret
          exact ⟨ret_i64 hstop.out.symm, rfl⟩
        · have g1 : decide (48 ≤ (c : Int)) = true := decide_eq_true (by omega)
          have g2 : decide ((c : Int) ≤ 57) = false := decide_eq_false (by omega)
          have g3 : decide (97 ≤ (c : Int)) = true := decide_eq_true (by omega)
          have g4 : decide ((c : Int) ≤ 102) = false := decide_eq_false (by omega)
          go_wp2
          go_ret
          exact ⟨ret_i64 hstop.out.symm, rfl⟩
    · obtain rfl : k = S.size := by omega
      have hall := Lib.hid (valAt_all (Nat.le_refl _) hv.out)
      go_wp2
      go_ret
      exact ⟨ret_i64 hall.out.symm, rfl⟩

end Go.Proofs.Ytmajagdgpmbnhaa
