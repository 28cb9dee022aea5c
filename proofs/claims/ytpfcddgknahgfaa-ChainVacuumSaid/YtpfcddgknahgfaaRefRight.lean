/-
  ambryref13.Right, ambryref13.Check.
-/
import Derived.Test.YtpfcddgknahgfaaMem
namespace Go.Proofs.Ytpfcddgknahgfaa
open Go.RowKit

set_option maxHeartbeats 400000 in
theorem isRight_any (A : Option Addr) (n c : Nat) (L : List Ver) (w : World) (h : Sl w A n c L) : Calls Try.prog 25 #[.slice A n c] w fun e w' => e = .returned (.bool (chainB L)) ∧ Ext w w' := by
  have hcap := h.cap
  have hbig := h.big
  go_enter Try.func25, Try.ntmps25
  go_wp2
  go_loopw [3] (fun i wr => ∃ k : Nat, k ≤ n ∧ i = .int .i64 k ∧ Hid (∀ j, j < k → okAt L j = true) ∧ Ext w wr) (fun i _ => n - (intOf i).toNat)
  case atStart => exact ⟨0, Nat.zero_le _, rfl, (fun j hj => absurd hj (by omega)), Below.refl _ _⟩
  case round =>
    obtain ⟨k, hk, rfl, hall, hx⟩ := hrel
    by_cases hlt : k < n
    · obtain ⟨b, off, rfl, hv⟩ := h.at_ (by omega)
      obtain ⟨t, s, d, hg, hs, -, -⟩ := h.get hlt
      have hv1 := (hv k _ hg.out).ext hx
      obtain ⟨c0, c1, c2⟩ := hv1.later
      go_wp2
      by_cases hr : rightB ⟨t, s, d⟩ = true
      · have HR := Lib.hid hr
        clear hr
        rcases k with _ | j
        · simp only [Nat.zero_mul, Nat.add_zero] at c0 c1 c2
          refine wp_region_later (by kernel_rfl) (by kernel_rfl) ?_
          repeat (go_big_quiet_step ((go_at_call 29; exact Calls.later (refRight_is HR.out hs _))))
          refine wpQuiet_nil ?_
          intro w1 hw1
          go_wp2
          go_roundw
          case rel => exact ⟨1, by omega, by go_num, (fun j hj => by rw [show j = 0 by omega, okAt_zero hg.out]; exact HR.out), Ext.of hx hw1⟩
          case measure => simp [intOf]; omega
        · obtain ⟨t', s', d', hg', -, -, -⟩ := h.get (show j < n by omega)
          have hu := (hv j _ hg'.out).ext hx
          obtain ⟨m0, m1, m2⟩ := hu.later
          by_cases hc : t < t'
          · refine wp_region_later (by kernel_rfl) (by kernel_rfl) ?_
            repeat (go_big_quiet_step ((go_at_call 29; exact Calls.later (refRight_is HR.out hs _))))
            refine wpQuiet_nil ?_
            intro w1 hw1
            go_wp2
            go_roundw
            case rel => exact ⟨j + 1 + 1, by omega, by go_num, ok_step hall (by rw [okAt_succ hg.out hg'.out, HR.out]; simpa using hc), Ext.of hx hw1⟩
            case measure => simp [intOf]; omega
          · refine wp_region_later (by kernel_rfl) (by kernel_rfl) ?_
            repeat (go_big_quiet_step ((go_at_call 29; exact Calls.later (refRight_is HR.out hs _))))
            refine wpQuiet_nil ?_
            intro w1 hw1
            go_wp2
            go_ret
            exact ⟨ret_bool (chainB_not h.len hlt (by rw [okAt_succ hg.out hg'.out, HR.out]; simpa using hc)).symm, Ext.of hx hw1⟩
      · have HR := Lib.hid (Bool.eq_false_iff.2 hr)
        clear hr
        refine wp_region_later (by kernel_rfl) (by kernel_rfl) ?_
        repeat (go_big_quiet_step ((go_at_call 29; exact Calls.later (refRight_is HR.out hs _))))
        refine wpQuiet_nil ?_
        intro w1 hw1
        go_wp2
        go_ret
        exact ⟨ret_bool (chainB_not h.len hlt (okAt_wrong hg.out HR.out)).symm, Ext.of hx hw1⟩
    · go_wp2
      go_ret
      exact ⟨ret_bool (chainB_of h.len fun j hj => hall.out j (by omega)).symm, hx⟩

theorem isRight_is {A : Option Addr} {n c : Nat} {L : List Ver} {r : Bool} {w : World} (hr : chainB L = r) (h : Sl w A n c L) : Calls Try.prog 25 #[.slice A n c] w fun e w' => e = .returned (.bool r) ∧ Ext w w' := by
  subst hr
  exact isRight_any A n c L w h

theorem refCheck_any (A : Option Addr) (n c : Nat) (L : List Ver) (w : World) (h : Sl w A n c L) : Calls Try.prog 12 #[.slice A n c] w fun e w' => e = .returned (.int .i64 (chk L)) ∧ Ext w w' := by
  by_cases hr : chainB L = true
  · have HR := Lib.hid hr
    have HC := Lib.hid (chk_yes hr)
    clear hr
    go_enter Try.func12, Try.ntmps12
    go_wp2_with (go_at_call 25; refine (isRight_is HR.out h).mono ?_; rintro e w1 ⟨rfl, hx⟩)
    go_ret
    exact ⟨ret_int HC.out.symm, hx⟩
  · have HR := Lib.hid (Bool.eq_false_iff.2 hr)
    have HC := Lib.hid (chk_no (Bool.eq_false_iff.2 hr))
    clear hr
    go_enter Try.func12, Try.ntmps12
    go_wp2_with (go_at_call 25; refine (isRight_is HR.out h).mono ?_; rintro e w1 ⟨rfl, hx⟩)
    go_ret
    exact ⟨ret_int HC.out.symm, hx⟩

end Go.Proofs.Ytpfcddgknahgfaa
