/-
  chain.Check.
-/
import Derived.Test.YtpfcddgknahgfaaMem
namespace Go.Proofs.Ytpfcddgknahgfaa
open Go.RowKit

set_option maxHeartbeats 400000 in
theorem check_any (A : Option Addr) (n c : Nat) (L : List Ver) (w : World) (h : Sl w A n c L) : Calls Try.prog 11 #[.slice A n c] w fun e w' => e = .returned (.int .i64 (chk L)) ∧ Ext w w' := by
  have hcap := h.cap
  have hbig := h.big
  go_enter Try.func11, Try.ntmps11
  go_wp2
  go_loopw [7] (fun i wr => ∃ k : Nat, k ≤ n ∧ i = .int .i64 k ∧ Hid (∀ j, j < k → okAt L j = true) ∧ Ext w wr) (fun i _ => n - (intOf i).toNat)
  case atStart => exact ⟨0, Nat.zero_le _, rfl, (fun j hj => absurd hj (by omega)), Below.refl _ _⟩
  case round =>
    obtain ⟨k, hk, rfl, hall, hx⟩ := hrel
    by_cases hlt : k < n
    · obtain ⟨b, off, rfl, hv⟩ := h.at_ (by omega)
      obtain ⟨t, s, d, hg, hs, -, -⟩ := h.get hlt
      have hv1 := (hv k _ hg.out).ext hx
      obtain ⟨c0, c1, c2⟩ := id hv1
      go_wp2
      obtain ⟨n0, n1, n2⟩ := (VAt.new wr t s d 34).later
      by_cases hr : rightB ⟨t, s, d⟩ = true
      · have HR := Lib.hid hr
        clear hr
        rcases k with _ | j
        · refine wp_region_later (by kernel_rfl) (by kernel_rfl) ?_
          repeat (go_big_quiet_step ((go_at_call 26; exact Calls.later (right_is HR.out hs _))))
          refine wpQuiet_nil ?_
          intro w1 hw1
          go_wp2
          go_roundw
          case rel => exact ⟨1, by omega, by go_num, (fun j hj => by rw [show j = 0 by omega, okAt_zero hg.out]; exact HR.out), Ext.of hx (Ext.of (Ext.alloc _ _) hw1)⟩
          case measure => simp [intOf]; omega
        · obtain ⟨t', s', d', hg', -, -, -⟩ := h.get (show j < n by omega)
          have hu := ((hv j _ hg'.out).ext hx).ext (Ext.alloc wr (.cells #[.int .i64 t, .string s, .bool d] 34))
          obtain ⟨m0, m1, m2⟩ := hu.later
          by_cases hc : t < t'
          · refine wp_region_later (by kernel_rfl) (by kernel_rfl) ?_
            repeat (go_big_quiet_step ((go_at_call 26; exact Calls.later (right_is HR.out hs _))))
            refine wpQuiet_nil ?_
            intro w1 hw1
            go_wp2
            go_roundw
            case rel => exact ⟨j + 1 + 1, by omega, by go_num, ok_step hall (by rw [okAt_succ hg.out hg'.out, HR.out]; simpa using hc), Ext.of hx (Ext.of (Ext.alloc _ _) hw1)⟩
            case measure => simp [intOf]; omega
          · refine wp_region_later (by kernel_rfl) (by kernel_rfl) ?_
            repeat (go_big_quiet_step ((go_at_call 26; exact Calls.later (right_is HR.out hs _))))
            refine wpQuiet_nil ?_
            intro w1 hw1
            go_wp2
            go_ret
            exact ⟨ret_int (chk_no (chainB_not h.len hlt (by rw [okAt_succ hg.out hg'.out, HR.out]; simpa using hc))).symm, Ext.of hx (Ext.of (Ext.alloc _ _) hw1)⟩
      · have HR := Lib.hid (Bool.eq_false_iff.2 hr)
        clear hr
        refine wp_region_later (by kernel_rfl) (by kernel_rfl) ?_
        repeat (go_big_quiet_step ((go_at_call 26; exact Calls.later (right_is HR.out hs _))))
        refine wpQuiet_nil ?_
        intro w1 hw1
        go_wp2
        go_ret
        exact ⟨ret_int (chk_no (chainB_not h.len hlt (okAt_wrong hg.out HR.out))).symm, Ext.of hx (Ext.of (Ext.alloc _ _) hw1)⟩
    · go_wp2
      go_ret
      exact ⟨ret_int (chk_yes (chainB_of h.len fun j hj => hall.out j (by omega))).symm, hx⟩

end Go.Proofs.Ytpfcddgknahgfaa
