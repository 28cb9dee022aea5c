/-
  The walk of math.mod by 1048573.
-/
import Derived.Test.YtmajagdgpmbnhaaMd
namespace Go.Proofs.Ytmajagdgpmbnhaa
open Go.RowKit

theorem ord_gt {b c : Nat} {x y : Int} (hx : Fl.Wh b x) (hy : Fl.Wh c y) (h : y < x) : FloatKind.f64.format.order b c = some .gt := by
  have := Fl.order_whole hx hy
  rw [Int.compare_eq_gt.2 h] at this
  exact this
theorem ord_lt {b c : Nat} {x y : Int} (hx : Fl.Wh b x) (hy : Fl.Wh c y) (h : x < y) : FloatKind.f64.format.order b c = some .lt := by
  have := Fl.order_whole hx hy
  rw [Int.compare_eq_lt.2 h] at this
  exact this
theorem ord_eq {b c : Nat} {x y : Int} (hx : Fl.Wh b x) (hy : Fl.Wh c y) (h : x = y) : FloatKind.f64.format.order b c = some .eq := by
  have := Fl.order_whole hx hy
  rw [Int.compare_eq_eq.2 h] at this
  exact this
theorem prime_whole : Fl.Wh 4697254385577623552 1048573 := by
  have := Fl.Wh.nat (n := 1048573) (by omega)
  rw [Fl.prime_word] at this
  exact this
theorem zero_whole : Fl.Wh 0 0 := by
  have := Fl.Wh.nat (n := 0) (by omega)
  rw [Fl.zero_word] at this
  exact this

def hf (n : Nat) : Nat := 1022 * 2 ^ 52 + Fl.tf n
theorem Frexp_hf {n : Nat} (h0 : n ≠ 0) (hn : n < 2 ^ 53) (w : World) : Calls Try.prog 45 #[.float .f64 (Fl.fl false n)] w fun e w' => e = .returned (.tuple #[.float .f64 (hf n), .int .i64 (n.log2 + 1)]) ∧ w' = w := Frexp_any h0 hn w
def fmeas : Value → Nat
  | .float _ b => (((Fl.D.read b).toInt .zero).getD 0).toNat
  | _ => 0
theorem Frexp_prime (w : World) : Calls Try.prog 45 #[.float .f64 (Fl.fl false 1048573)] w fun e w' => e = .returned (.tuple #[.float .f64 (hf 1048573), .int .i64 20]) ∧ w' = w := by
  have hL : Nat.log2 1048573 = 19 := by decide +kernel
  have h := Frexp_hf (n := 1048573) (by omega) (by omega) w
  rw [hL] at h
  exact h
theorem fmeas_wh {b q : Nat} (h : Fl.Wh b (q : Int)) : fmeas (.float .f64 b) = q := by
  unfold fmeas
  simp only [Fl.int_whole h]
  simp
theorem mod_less {q y m : Nat} (h : y * m ≤ q) : (q - y * m) % y = q % y := by
  obtain ⟨d, hd⟩ : ∃ d, q = y * m + d := ⟨q - y * m, by omega⟩
  subst hd
  rw [Nat.add_sub_cancel_left, Nat.mul_add_mod]
theorem run_neg_fl (s : Bool) {n : Nat} (hn : n < 2 ^ 53) : ∀ w, (Op.unary .neg (.float .f64 (Fl.fl s n))).run Try.prog w = .ok (.float .f64 (Fl.fl (!s) n)) w := by
  intro w
  rw [← fl_neg s hn]
  rfl
set_option maxRecDepth 100000 in
set_option maxHeartbeats 1000000 in
theorem mod_pos {s : Bool} {n : Nat} (hs : (n : Int) = Fl.sg s n) (hn : n < 2 ^ 53) (w : World) : Calls Try.prog 40 #[.float .f64 (Fl.fl s n), .float .f64 (Fl.fl false 1048573)] w fun e w' => (∃ r, e = .returned (.float .f64 r) ∧ Fl.Wh r ((n % 1048573 : Nat) : Int)) ∧ w' = w := by
  have h1 := ord_gt prime_whole zero_whole (by omega)
  rw [← Fl.prime_word] at h1
  have hw0 : Fl.Wh (Fl.fl s n) (n : Int) := ⟨s, n, rfl, hn, hs⟩
  have hx : FloatKind.f64.format.order (Fl.fl s n) 0 = some (compare (n : Int) 0) := Fl.order_whole hw0 zero_whole
  have hx2 : (FloatKind.f64.format.order (Fl.fl s n) 0 == some .lt) = false := by
    rw [hx]
    rcases Nat.eq_zero_or_pos n with h | h
    · rw [h]; rfl
    · rw [Int.compare_eq_gt.2 (by omega)]; rfl
  have HW := Lib.hid hw0
  clear hx hs hw0
  have HN := Lib.hid hn
  clear hn
  go_enter Try.func40, Try.ntmps40
  go_wp2_with fail
  refine (isinf_any s HN.out _).mono ?_
  rintro e w1 ⟨rfl, rfl⟩
  go_wp2_with fail
  refine (isnan_any s HN.out _).mono ?_
  rintro e w2 ⟨rfl, rfl⟩
  go_wp2_with fail
  refine (isnan_any false (by omega) _).mono ?_
  rintro e w3 ⟨rfl, rfl⟩
  go_wp2_with fail
  refine (abs_any false (by omega) _).mono ?_
  rintro e w4 ⟨rfl, rfl⟩
  go_wp2_with fail
  refine (Frexp_prime _).mono ?_
  rintro e w5 ⟨rfl, rfl⟩
  have hL : Nat.log2 1048573 = 19 := by decide +kernel
  have HLg := Lib.hid hL
  go_wp2
  go_loop [7] (fun r => ∃ (b q : Nat), q ≤ n ∧ r = .float .f64 b ∧ Hid (Fl.Wh b (q : Int)) ∧ Hid (q % 1048573 = n % 1048573)) (fun r => fmeas r)
  case atStart => exact ⟨_, n, Nat.le_refl _, rfl, HW.out, rfl⟩
  case round =>
    obtain ⟨b, q, hq, rfl, hw, hm⟩ := hrel
    by_cases hlt : 1048573 ≤ q
    · have hqb : q < 2 ^ 53 := Nat.lt_of_le_of_lt hq HN.out
      obtain ⟨e1, -⟩ := hw.out.pos (by omega)
      rw [Int.toNat_natCast] at e1
      subst e1
      have hge : (FloatKind.f64.format.order (Fl.fl false q) (Fl.fl false 1048573) == some .gt || FloatKind.f64.format.order (Fl.fl false q) (Fl.fl false 1048573) == some .eq) = true := by
        rcases Nat.lt_or_ge 1048573 q with h | h
        · rw [ord_gt (Fl.Wh.nat hqb) (Fl.Wh.nat (n := 1048573) (by omega)) (by omega)]; rfl
        · rw [ord_eq (Fl.Wh.nat hqb) (Fl.Wh.nat (n := 1048573) (by omega)) (by omega)]; rfl
      have HQB := Lib.hid hqb
      clear hqb
      go_wp2_with fail
      refine (Frexp_hf (by omega) HQB.out _).mono ?_
      rintro e w6 ⟨rfl, rfl⟩
      obtain ⟨-, htq, hLq⟩ := Fl.fl_fields false (n := q) (by omega) HQB.out
      obtain ⟨-, hty, -⟩ := Fl.fl_fields false (n := 1048573) (by omega) (by omega)
      have hord := order_half htq hty
      obtain ⟨rk1, rk2⟩ := round_k (y := 1048573) (q := q) (by omega) hlt HQB.out
      rw [hL] at rk1 rk2
      by_cases ht : Fl.tf q < Fl.tf 1048573
      · obtain ⟨k1, k2⟩ := rk2 ht
        have hlss : (FloatKind.f64.format.order (hf q) (hf 1048573) == some .lt) = true := by
          have e : FloatKind.f64.format.order (hf q) (hf 1048573) = some .lt := by
            rw [← Int.compare_eq_lt.2 (show ((2 ^ 52 + Fl.tf q : Nat) : Int) < ((2 ^ 52 + Fl.tf 1048573 : Nat) : Int) by omega)]
            exact hord
          rw [e]; rfl
        obtain ⟨k, hk⟩ : ∃ k, q.log2 = k + 20 := ⟨q.log2 - 20, by omega⟩
        rw [hk] at k2 hLq ⊢
        have hk2 : 1048573 * 2 ^ k ≤ q := by
          rw [show k + 20 - 1 - 19 = k by omega] at k2
          exact k2
        obtain ⟨r, hr1, hr2⟩ := Ldexp_any (n := 1048573) (k := k) (by omega) (by omega) (by rw [hL]; omega)
        obtain ⟨r2, hs1, hs2⟩ := Fl.sub_whole (Fl.Wh.nat HQB.out) hr1 (by have := HQB.out; omega)
        have hsub := fun w => run_fsub hs1 54 w
        have HR2 := Lib.hid hs2
        have HK2 := Lib.hid hk2
        clear hord rk1 rk2 k1 k2 hk hs1 hs2 ht htq hty hk2
        go_wp2_with fail
        refine (hr2 _).mono ?_
        rintro e w7 ⟨rfl, rfl⟩
        go_wp2
        obtain ⟨q', hq'⟩ : ∃ q' : Nat, q' = q - 1048573 * 2 ^ k := ⟨_, rfl⟩
        have hw2 : Fl.Wh r2 (q' : Int) := by
          have h := HR2.out
          rw [show ((q : Int) - ((1048573 * 2 ^ k : Nat) : Int)) = (q' : Int) by have := HK2.out; omega] at h
          exact h
        have hp2 := Nat.two_pow_pos k
        have hmod : q' % 1048573 = n % 1048573 := by
          rw [← hm.out, hq']
          exact mod_less HK2.out
        go_round
        case rel => exact ⟨r2, q', by omega, rfl, hw2, hmod⟩
        case measure =>
          show fmeas (.float .f64 r2) < fmeas (.float .f64 (Fl.fl false q))
          rw [fmeas_wh hw2, fmeas_wh (Fl.Wh.nat HQB.out)]
          have := HK2.out
          omega
      · obtain ⟨k1, k2⟩ := rk1 (by omega)
        have hlss : (FloatKind.f64.format.order (hf q) (hf 1048573) == some .lt) = false := by
          have e : FloatKind.f64.format.order (hf q) (hf 1048573) = some (compare ((2 ^ 52 + Fl.tf q : Nat) : Int) ((2 ^ 52 + Fl.tf 1048573 : Nat) : Int)) := hord
          rw [e]
          rcases Nat.lt_or_ge (Fl.tf 1048573) (Fl.tf q) with h | h
          · rw [Int.compare_eq_gt.2 (by omega)]; rfl
          · rw [Int.compare_eq_eq.2 (by omega)]; rfl
        obtain ⟨k, hk⟩ : ∃ k, q.log2 = k + 19 := ⟨q.log2 - 19, by omega⟩
        rw [hk] at k2 hLq ⊢
        have hk2 : 1048573 * 2 ^ k ≤ q := by
          rw [show k + 19 - 19 = k by omega] at k2
          exact k2
        obtain ⟨r, hr1, hr2⟩ := Ldexp_any (n := 1048573) (k := k) (by omega) (by omega) (by rw [hL]; omega)
        obtain ⟨r2, hs1, hs2⟩ := Fl.sub_whole (Fl.Wh.nat HQB.out) hr1 (by have := HQB.out; omega)
        have hsub := fun w => run_fsub hs1 54 w
        have HR2 := Lib.hid hs2
        have HK2 := Lib.hid hk2
        clear hord rk1 rk2 k1 k2 hk hs1 hs2 ht htq hty hk2
        go_wp2_with fail
        rw [show ((k : Int) + 19 + 1 - 20) = (k : Int) by omega]
        refine (hr2 _).mono ?_
        rintro e w7 ⟨rfl, rfl⟩
        go_wp2
        obtain ⟨q', hq'⟩ : ∃ q' : Nat, q' = q - 1048573 * 2 ^ k := ⟨_, rfl⟩
        have hw2 : Fl.Wh r2 (q' : Int) := by
          have h := HR2.out
          rw [show ((q : Int) - ((1048573 * 2 ^ k : Nat) : Int)) = (q' : Int) by have := HK2.out; omega] at h
          exact h
        have hp2 := Nat.two_pow_pos k
        have hmod : q' % 1048573 = n % 1048573 := by
          rw [← hm.out, hq']
          exact mod_less HK2.out
        go_round
        case rel => exact ⟨r2, q', by omega, rfl, hw2, hmod⟩
        case measure =>
          show fmeas (.float .f64 r2) < fmeas (.float .f64 (Fl.fl false q))
          rw [fmeas_wh hw2, fmeas_wh (Fl.Wh.nat HQB.out)]
          have := HK2.out
          omega
    · have ho : FloatKind.f64.format.order b (Fl.fl false 1048573) = some .lt := ord_lt hw.out (Fl.Wh.nat (by omega)) (by omega)
      go_wp2
      go_ret
      refine ⟨⟨_, rfl, ?_⟩, rfl⟩
      have e : n % 1048573 = q := by rw [← hm.out, Nat.mod_eq_of_lt (by omega)]
      show Fl.Wh b ((n % 1048573 : Nat) : Int)
      rw [e]
      exact hw.out

set_option maxRecDepth 100000 in
set_option maxHeartbeats 1000000 in
theorem mod_neg {n : Nat} (h0 : n ≠ 0) (hn : n < 2 ^ 53) (w : World) : Calls Try.prog 40 #[.float .f64 (Fl.fl true n), .float .f64 (Fl.fl false 1048573)] w fun e w' => (∃ r, e = .returned (.float .f64 r) ∧ Fl.Wh r (-((n % 1048573 : Nat) : Int))) ∧ w' = w := by
  have h1 := ord_gt prime_whole zero_whole (by omega)
  rw [← Fl.prime_word] at h1
  have hx : FloatKind.f64.format.order (Fl.fl true n) 0 = some .lt := ord_lt (Fl.Wh.mk true hn) zero_whole (by unfold Fl.sg; rw [if_pos rfl]; omega)
  have hneg := run_neg_fl true hn
  rw [Bool.not_true] at hneg
  clear h0
  have HN := Lib.hid hn
  clear hn
  go_enter Try.func40, Try.ntmps40
  go_wp2_with fail
  refine (isinf_any true HN.out _).mono ?_
  rintro e w1 ⟨rfl, rfl⟩
  go_wp2_with fail
  refine (isnan_any true HN.out _).mono ?_
  rintro e w2 ⟨rfl, rfl⟩
  go_wp2_with fail
  refine (isnan_any false (by omega) _).mono ?_
  rintro e w3 ⟨rfl, rfl⟩
  go_wp2_with fail
  refine (abs_any false (by omega) _).mono ?_
  rintro e w4 ⟨rfl, rfl⟩
  go_wp2_with fail
  refine (Frexp_prime _).mono ?_
  rintro e w5 ⟨rfl, rfl⟩
  have hL : Nat.log2 1048573 = 19 := by decide +kernel
  have HLg := Lib.hid hL
  go_wp2
  go_loop [7] (fun r => ∃ (b q : Nat), q ≤ n ∧ r = .float .f64 b ∧ Hid (Fl.Wh b (q : Int)) ∧ Hid (q % 1048573 = n % 1048573)) (fun r => fmeas r)
  case atStart => exact ⟨_, n, Nat.le_refl _, rfl, Fl.Wh.nat HN.out, rfl⟩
  case round =>
    obtain ⟨b, q, hq, rfl, hw, hm⟩ := hrel
    by_cases hlt : 1048573 ≤ q
    · have hqb : q < 2 ^ 53 := Nat.lt_of_le_of_lt hq HN.out
      obtain ⟨e1, -⟩ := hw.out.pos (by omega)
      rw [Int.toNat_natCast] at e1
      subst e1
      have hge : (FloatKind.f64.format.order (Fl.fl false q) (Fl.fl false 1048573) == some .gt || FloatKind.f64.format.order (Fl.fl false q) (Fl.fl false 1048573) == some .eq) = true := by
        rcases Nat.lt_or_ge 1048573 q with h | h
        · rw [ord_gt (Fl.Wh.nat hqb) (Fl.Wh.nat (n := 1048573) (by omega)) (by omega)]; rfl
        · rw [ord_eq (Fl.Wh.nat hqb) (Fl.Wh.nat (n := 1048573) (by omega)) (by omega)]; rfl
      have HQB := Lib.hid hqb
      clear hqb
      go_wp2_with fail
      refine (Frexp_hf (by omega) HQB.out _).mono ?_
      rintro e w6 ⟨rfl, rfl⟩
      obtain ⟨-, htq, hLq⟩ := Fl.fl_fields false (n := q) (by omega) HQB.out
      obtain ⟨-, hty, -⟩ := Fl.fl_fields false (n := 1048573) (by omega) (by omega)
      have hord := order_half htq hty
      obtain ⟨rk1, rk2⟩ := round_k (y := 1048573) (q := q) (by omega) hlt HQB.out
      rw [hL] at rk1 rk2
      by_cases ht : Fl.tf q < Fl.tf 1048573
      · obtain ⟨k1, k2⟩ := rk2 ht
        have hlss : (FloatKind.f64.format.order (hf q) (hf 1048573) == some .lt) = true := by
          have e : FloatKind.f64.format.order (hf q) (hf 1048573) = some .lt := by
            rw [← Int.compare_eq_lt.2 (show ((2 ^ 52 + Fl.tf q : Nat) : Int) < ((2 ^ 52 + Fl.tf 1048573 : Nat) : Int) by omega)]
            exact hord
          rw [e]; rfl
        obtain ⟨k, hk⟩ : ∃ k, q.log2 = k + 20 := ⟨q.log2 - 20, by omega⟩
        rw [hk] at k2 hLq ⊢
        have hk2 : 1048573 * 2 ^ k ≤ q := by
          rw [show k + 20 - 1 - 19 = k by omega] at k2
          exact k2
        obtain ⟨r, hr1, hr2⟩ := Ldexp_any (n := 1048573) (k := k) (by omega) (by omega) (by rw [hL]; omega)
        obtain ⟨r2, hs1, hs2⟩ := Fl.sub_whole (Fl.Wh.nat HQB.out) hr1 (by have := HQB.out; omega)
        have hsub := fun w => run_fsub hs1 54 w
        have HR2 := Lib.hid hs2
        have HK2 := Lib.hid hk2
        clear hord rk1 rk2 k1 k2 hk hs1 hs2 ht htq hty hk2
        go_wp2_with fail
        refine (hr2 _).mono ?_
        rintro e w7 ⟨rfl, rfl⟩
        go_wp2
        obtain ⟨q', hq'⟩ : ∃ q' : Nat, q' = q - 1048573 * 2 ^ k := ⟨_, rfl⟩
        have hw2 : Fl.Wh r2 (q' : Int) := by
          have h := HR2.out
          rw [show ((q : Int) - ((1048573 * 2 ^ k : Nat) : Int)) = (q' : Int) by have := HK2.out; omega] at h
          exact h
        have hp2 := Nat.two_pow_pos k
        have hmod : q' % 1048573 = n % 1048573 := by
          rw [← hm.out, hq']
          exact mod_less HK2.out
        go_round
        case rel => exact ⟨r2, q', by omega, rfl, hw2, hmod⟩
        case measure =>
          show fmeas (.float .f64 r2) < fmeas (.float .f64 (Fl.fl false q))
          rw [fmeas_wh hw2, fmeas_wh (Fl.Wh.nat HQB.out)]
          have := HK2.out
          omega
      · obtain ⟨k1, k2⟩ := rk1 (by omega)
        have hlss : (FloatKind.f64.format.order (hf q) (hf 1048573) == some .lt) = false := by
          have e : FloatKind.f64.format.order (hf q) (hf 1048573) = some (compare ((2 ^ 52 + Fl.tf q : Nat) : Int) ((2 ^ 52 + Fl.tf 1048573 : Nat) : Int)) := hord
          rw [e]
          rcases Nat.lt_or_ge (Fl.tf 1048573) (Fl.tf q) with h | h
          · rw [Int.compare_eq_gt.2 (by omega)]; rfl
          · rw [Int.compare_eq_eq.2 (by omega)]; rfl
        obtain ⟨k, hk⟩ : ∃ k, q.log2 = k + 19 := ⟨q.log2 - 19, by omega⟩
        rw [hk] at k2 hLq ⊢
        have hk2 : 1048573 * 2 ^ k ≤ q := by
          rw [show k + 19 - 19 = k by omega] at k2
          exact k2
        obtain ⟨r, hr1, hr2⟩ := Ldexp_any (n := 1048573) (k := k) (by omega) (by omega) (by rw [hL]; omega)
        obtain ⟨r2, hs1, hs2⟩ := Fl.sub_whole (Fl.Wh.nat HQB.out) hr1 (by have := HQB.out; omega)
        have hsub := fun w => run_fsub hs1 54 w
        have HR2 := Lib.hid hs2
        have HK2 := Lib.hid hk2
        clear hord rk1 rk2 k1 k2 hk hs1 hs2 ht htq hty hk2
        go_wp2_with fail
        rw [show ((k : Int) + 19 + 1 - 20) = (k : Int) by omega]
        refine (hr2 _).mono ?_
        rintro e w7 ⟨rfl, rfl⟩
        go_wp2
        obtain ⟨q', hq'⟩ : ∃ q' : Nat, q' = q - 1048573 * 2 ^ k := ⟨_, rfl⟩
        have hw2 : Fl.Wh r2 (q' : Int) := by
          have h := HR2.out
          rw [show ((q : Int) - ((1048573 * 2 ^ k : Nat) : Int)) = (q' : Int) by have := HK2.out; omega] at h
          exact h
        have hp2 := Nat.two_pow_pos k
        have hmod : q' % 1048573 = n % 1048573 := by
          rw [← hm.out, hq']
          exact mod_less HK2.out
        go_round
        case rel => exact ⟨r2, q', by omega, rfl, hw2, hmod⟩
        case measure =>
          show fmeas (.float .f64 r2) < fmeas (.float .f64 (Fl.fl false q))
          rw [fmeas_wh hw2, fmeas_wh (Fl.Wh.nat HQB.out)]
          have := HK2.out
          omega
    · have ho : FloatKind.f64.format.order b (Fl.fl false 1048573) = some .lt := ord_lt hw.out (Fl.Wh.nat (by omega)) (by omega)
      obtain ⟨r, hr, hneg2⟩ := run_neg hw.out
      have HR := Lib.hid hr
      clear hr
      go_wp2
      go_ret
      refine ⟨⟨_, rfl, ?_⟩, rfl⟩
      have e : n % 1048573 = q := by rw [← hm.out, Nat.mod_eq_of_lt (by omega)]
      show Fl.Wh r (-((n % 1048573 : Nat) : Int))
      rw [e]
      exact HR.out

end Go.Proofs.Ytmajagdgpmbnhaa
