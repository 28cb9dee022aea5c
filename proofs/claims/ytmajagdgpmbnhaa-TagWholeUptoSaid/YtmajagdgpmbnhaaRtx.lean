/-
  The reference's text of a tag.
-/
import Derived.Test.YtmajagdgpmbnhaaTx
namespace Go.Proofs.Ytmajagdgpmbnhaa
open Go.RowKit

def fiveB (a k : Nat) : ByteArray := ⟨((five a).drop (5 - k)).toArray⟩
theorem hex_cut (d : Nat) (hd : d < 16) : (⟨#[48, 49, 50, 51, 52, 53, 54, 55, 56, 57, 97, 98, 99, 100, 101, 102]⟩ : ByteArray).extract d (d + 1) = ⟨#[hexd d]⟩ := by
  have h : d = 0 ∨ d = 1 ∨ d = 2 ∨ d = 3 ∨ d = 4 ∨ d = 5 ∨ d = 6 ∨ d = 7 ∨ d = 8 ∨ d = 9 ∨ d = 10 ∨ d = 11 ∨ d = 12 ∨ d = 13 ∨ d = 14 ∨ d = 15 := by omega
  rcases h with rfl | rfl | rfl | rfl | rfl | rfl | rfl | rfl | rfl | rfl | rfl | rfl | rfl | rfl | rfl | rfl <;> decide +kernel
theorem five_step {a k d : Nat} (hk : k < 5) (hd : a / 16 ^ k % 16 = d) : (⟨#[hexd d]⟩ : ByteArray) ++ fiveB a k = fiveB a (k + 1) := by
  subst hd
  apply ByteArray.ext
  rw [ByteArray.data_append]
  have h : k = 0 ∨ k = 1 ∨ k = 2 ∨ k = 3 ∨ k = 4 := by omega
  rcases h with rfl | rfl | rfl | rfl | rfl
  · show #[hexd (a / 1 % 16)] ++ #[] = #[hexd (a % 16)]; rw [Nat.div_one]; rfl
  · rfl
  · rfl
  · rfl
  · rfl
theorem fiveB_size {a k : Nat} (hk : k ≤ 5) : (fiveB a k).size = k := by
  show ((five a).drop (5 - k)).length = k
  rw [List.length_drop]
  show 5 - (5 - k) = k
  omega
theorem ret_str {a b : ByteArray} (h : a = b) : Ending.returned (.string a) = .returned (.string b) := by rw [h]

set_option maxRecDepth 100000 in
theorem rdig_any {a : Nat} (ha : a < 1048573) (w : World) : Calls Try.prog 34 #[.int .i64 (a : Int)] w fun e w' => e = .returned (.string (fiveB a 5)) ∧ w' = w := by
  go_enter Try.func34, Try.ntmps34
  go_wp2
  go_loop [0, 3, 4] (fun n s i => ∃ k q : Nat, k ≤ 5 ∧ i = .int .i64 k ∧ n = .int .i64 q ∧ q < 1048573 ∧ Hid (q = a / 16 ^ k) ∧ s = .string (fiveB a k)) (fun _ _ i => 5 - (intOf i).toNat)
  case atStart => exact ⟨0, a, Nat.zero_le _, rfl, rfl, ha, (show a = a / 16 ^ 0 by rw [Nat.pow_zero, Nat.div_one]), rfl⟩
  case round =>
    obtain ⟨k, q, hk, rfl, rfl, hq, hqe, rfl⟩ := hrel
    have hsz := fiveB_size (a := a) hk
    have hsz2 : (fiveB a k).size ≤ 5 := by omega
    clear hsz
    by_cases hlt : k < 5
    · obtain ⟨d, hd⟩ : ∃ d, q % 16 = d := ⟨_, rfl⟩
      have hd1 : d < 16 := by omega
      have hdi : (q : Int) % 16 = (d : Int) := by omega
      have HC := hex_cut d hd1
      have HS := Lib.hid (five_step hlt (show a / 16 ^ k % 16 = d by rw [← hqe.out]; exact hd))
      clear hd
      go_wp2
      go_round
      case rel =>
        refine ⟨k + 1, q / 16, by omega, by go_num, by rw [Int.natCast_ediv]; rfl, by omega, ?_, by rw [HS.out]⟩
        show q / 16 = a / 16 ^ (k + 1)
        rw [hqe.out, Nat.div_div_eq_div_mul, Nat.pow_succ]
      case measure => simp [intOf]; omega
    · obtain rfl : k = 5 := by omega
      go_wp2
      go_ret
      exact ⟨rfl, rfl⟩

theorem rdig_is {a : Nat} (ha : a < 1048573) (w : World) : Calls Try.prog 34 #[.int .i64 (a : Int)] w fun e w' => e = .returned (.string (fiveB a 5)) ∧ Ext w w' :=
  (rdig_any ha w).mono fun _ _ ⟨h1, h2⟩ => ⟨h1, h2 ▸ Below.refl _ _⟩
theorem five_both (a b : Nat) : fiveB a 5 ++ fiveB b 5 = txtB a b := by
  apply ByteArray.ext
  rw [ByteArray.data_append]
  rfl

set_option maxRecDepth 100000 in
theorem rtext_any (t : Int × Int) (w : World) : Calls Try.prog 21 #[tagV t] w (RetT t w) := by
  obtain ⟨x, y⟩ := t
  have hx := Ext.al w (.cells #[.int .i64 x, .int .i64 y] 28)
  cases h : right (x, y) with
  | true =>
    obtain ⟨b1, b2, b3, b4⟩ := right_of h
    obtain ⟨a, rfl⟩ : ∃ a : Nat, x = a := ⟨x.toNat, by have : 0 ≤ x := b1; omega⟩
    obtain ⟨b, rfl⟩ : ∃ b : Nat, y = b := ⟨y.toNat, by have : 0 ≤ y := b3; omega⟩
    have hA := Cel.new w a b 28
    obtain ⟨-, c0, c1, -, -⟩ := Cel.new w a b 28
    have ha9 : a < 1048573 := by have : (a : Int) ≤ 1048572 := b2; omega
    have hb9 : b < 1048573 := by have : (b : Int) ≤ 1048572 := b4; omega
    have hR := fun w => rright_is (t := ((a : Int), (b : Int))) h w
    clear h b1 b2 b3 b4
    show Calls Try.prog 21 #[.agg #[.int .i64 a, .int .i64 b]] w _
    go_enter Try.func21, Try.ntmps21
    go_wp2_with fail
    refine (hR _).mono ?_
    rintro e w1 ⟨rfl, x1⟩
    have X := Ext.of hx x1
    have hA1 := hA.ext x1
    clear hA c0 c1
    have c0 := Later.cell hA1.c0
    have c1 := Later.cell hA1.c1
    have s1 : (fiveB a 5).size ≤ 5 := by rw [fiveB_size (by omega)]; exact Nat.le_refl _
    have s2 : (fiveB b 5).size ≤ 5 := by rw [fiveB_size (by omega)]; exact Nat.le_refl _
    have hb := five_both a b
    go_wp2
    refine wp_region_later (by kernel_rfl) (by kernel_rfl) ?_
    repeat (go_big_quiet_step ((go_at_call 34; exact Calls.later (rdig_is (by assumption) _))))
    refine wpQuiet_nil ?_
    intro w3 hx3
    go_wp2
    go_ret2
    exact RetT.yes ha9 hb9 (Ext.of X hx3)
  | false =>
    have hE := chkT_no h
    have hS : txtS (x, y) = ⟨#[]⟩ := by simp [txtS, h]
    have HX : RetT (x, y) = fun w e w' => e = .returned (.tuple #[.string ⟨#[]⟩, .int .i64 2]) ∧ Ext w w' := by
      funext w e w'
      unfold RetT
      rw [hS, hE]
    rw [HX]
    obtain ⟨-, c0, c1, -, -⟩ := Cel.new w x y 28
    have hC := fun w => rright_is (t := (x, y)) h w
    clear h hE hS HX
    show Calls Try.prog 21 #[.agg #[.int .i64 x, .int .i64 y]] w _
    go_enter Try.func21, Try.ntmps21
    go_wp2_with fail
    refine (hC _).mono ?_
    rintro e w1 ⟨rfl, x1⟩
    have X := Ext.of hx x1
    go_wp2
    go_ret2
    exact ⟨rfl, X⟩

end Go.Proofs.Ytmajagdgpmbnhaa
