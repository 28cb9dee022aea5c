/-
  chain.At, ambryref13.At, chain.Since, ambryref13.Since.
-/
import Derived.Test.YtpfcddgknahgfaaSearch
import Derived.Test.YtpfcddgknahgfaaCheck
import Derived.Test.YtpfcddgknahgfaaRefRight
namespace Go.Proofs.Ytpfcddgknahgfaa
open Go.RowKit

def atS (L : List Ver) (t : Int) : ByteArray := if chainB L = true then (match L[plc L t]? with | some v => v.s | none => ByteArray.empty) else ByteArray.empty
def atB (L : List Ver) (t : Int) : Bool := if chainB L = true then (match L[plc L t]? with | some v => !v.d | none => false) else false
def sinceB (L : List Ver) (t : Int) : Bool := chainB L && decide (0 < plc L t)

theorem atS_no {L : List Ver} (h : chainB L = false) (t : Int) : atS L t = ByteArray.empty := by simp [atS, h]
theorem atB_no {L : List Ver} (h : chainB L = false) (t : Int) : atB L t = false := by simp [atB, h]
theorem atS_end {L : List Ver} {t : Int} (h : L.length ≤ plc L t) : atS L t = ByteArray.empty := by simp [atS, List.getElem?_eq_none h]
theorem atB_end {L : List Ver} {t : Int} (h : L.length ≤ plc L t) : atB L t = false := by simp [atB, List.getElem?_eq_none h]
theorem atS_at {L : List Ver} {t : Int} {v : Ver} (h : chainB L = true) (hv : L[plc L t]? = some v) : atS L t = v.s := by simp [atS, h, hv]
theorem atB_at {L : List Ver} {t : Int} {v : Ver} (h : chainB L = true) (hv : L[plc L t]? = some v) : atB L t = !v.d := by simp [atB, h, hv]
theorem ret_two {a b : ByteArray} {c d : Bool} (h : a = b) (k : c = d) : Ending.returned (.tuple #[.string a, .bool c]) = .returned (.tuple #[.string b, .bool d]) := by rw [h, k]

theorem check_is {A : Option Addr} {n c : Nat} {L : List Ver} {r : Int} {w : World} (hr : chk L = r) (h : Sl w A n c L) : Calls Try.prog 11 #[.slice A n c] w fun e w' => e = .returned (.int .i64 r) ∧ Ext w w' := by
  subst hr
  exact check_any A n c L w h

theorem at_any {A : Option Addr} {n c : Nat} {L : List Ver} (t : Int) {w : World} (h : Sl w A n c L) :
    Calls Try.prog 9 #[.slice A n c, .int .i64 t] w fun e w' => e = .returned (.tuple #[.string (atS L t), .bool (atB L t)]) ∧ Ext w w' := by
  have hn := h.cap
  have hb := h.big
  cases hc : chainB L with
  | false =>
    have HK := Lib.hid (chk_no hc)
    have HC := Lib.hid hc
    clear hc
    go_enter Try.func9, Try.ntmps9
    go_wp2_with (go_at_call 11; refine (check_is HK.out h).mono ?_; rintro e w1 ⟨rfl, hx⟩)
    go_ret2
    exact ⟨ret_two (atS_no HC.out t).symm (atB_no HC.out t).symm, hx⟩
  | true =>
    have HK := Lib.hid (chk_yes hc)
    have HC := Lib.hid hc
    have hpl := plc_le L t
    have HL := Lib.hid h.len
    rw [h.len] at hpl
    clear hc
    go_enter Try.func9, Try.ntmps9
    go_wp2_with fail
    refine (check_is HK.out h).mono ?_
    rintro e w1 ⟨rfl, hx⟩
    go_wp2_with fail
    refine (place_any (h.ext hx) HC.out).mono ?_
    rintro e w2 ⟨rfl, hx2⟩
    have hx' := Ext.of hx hx2
    by_cases hlt : plc L t < n
    · obtain ⟨b, off, rfl, ha⟩ := h.at_ (by omega)
      obtain ⟨t', s, d, hg, -, -, -⟩ := h.get hlt
      obtain ⟨c0, c1, c2⟩ := ((ha _ _ hg.out).ext hx').later
      go_wp2
      refine wp_region_later (by kernel_rfl) (by kernel_rfl) ?_
      repeat (go_big_quiet_step (fail))
      refine wpQuiet_nil ?_
      intro w3 hx3
      go_wp2
      go_ret2
      exact ⟨ret_two (atS_at HC.out hg.out).symm (atB_at HC.out hg.out).symm, Ext.of hx' hx3⟩
    · have he : plc L t = n := by omega
      have HE := Lib.hid he
      have h1 : ((plc L t : Int) == (n : Int)) = true := by simp [he]
      clear he
      go_wp2
      go_ret2
      exact ⟨ret_two (atS_end (by rw [HL.out, HE.out]; exact Nat.le_refl _)).symm (atB_end (by rw [HL.out, HE.out]; exact Nat.le_refl _)).symm, hx'⟩

theorem refAt_any {A : Option Addr} {n c : Nat} {L : List Ver} (t : Int) {w : World} (h : Sl w A n c L) :
    Calls Try.prog 10 #[.slice A n c, .int .i64 t] w fun e w' => e = .returned (.tuple #[.string (atS L t), .bool (atB L t)]) ∧ Ext w w' := by
  have hn := h.cap
  have hb := h.big
  cases hc : chainB L with
  | false =>
    have HC := Lib.hid hc
    clear hc
    go_enter Try.func10, Try.ntmps10
    go_wp2_with (go_at_call 25; refine (isRight_is HC.out h).mono ?_; rintro e w1 ⟨rfl, hx⟩)
    go_ret2
    exact ⟨ret_two (atS_no HC.out t).symm (atB_no HC.out t).symm, hx⟩
  | true =>
    have HC := Lib.hid hc
    have hpl := plc_le L t
    have HL := Lib.hid h.len
    rw [h.len] at hpl
    clear hc
    go_enter Try.func10, Try.ntmps10
    go_wp2_with fail
    refine (isRight_is HC.out h).mono ?_
    rintro e w1 ⟨rfl, hx⟩
    go_wp2
    go_loopw [6] (fun i wr => ∃ k : Nat, k ≤ plc L t ∧ i = .int .i64 k ∧ Ext w wr) (fun i _ => n - (intOf i).toNat)
    case atStart => exact ⟨0, Nat.zero_le _, rfl, hx⟩
    case round =>
      obtain ⟨k, hk, rfl, hx'⟩ := hrel
      by_cases hlt : k < n
      · obtain ⟨b, off, rfl, ha⟩ := h.at_ (by omega)
        obtain ⟨t', s, d, hg, -, -, -⟩ := h.get hlt
        have hv := (ha _ _ hg.out).ext hx'
        obtain ⟨c0, -, -⟩ := id hv
        by_cases hkp : k < plc L t
        · have htt : t < t' := by
            obtain ⟨v, hv1, hv2⟩ := plc_before hkp
            rw [hg.out] at hv1
            injection hv1 with hv1
            subst hv1
            exact hv2
          go_wp2
          go_roundw
          case rel => exact ⟨k + 1, by omega, by go_num, hx'⟩
          case measure => simp [intOf]; omega
        · have he : plc L t = k := by omega
          have HE := Lib.hid he
          have hg' : Hid (L[plc L t]? = some ⟨t', s, d⟩) := by rw [he]; exact hg.out
          have htt : t' ≤ t := plc_at hg'.out
          obtain ⟨m0, m1, m2⟩ := hv.later
          clear he
          go_wp2
          refine wp_region_later (by kernel_rfl) (by kernel_rfl) ?_
          repeat (go_big_quiet_step (fail))
          refine wpQuiet_nil ?_
          intro w3 hx3
          go_wp2
          go_ret2
          exact ⟨ret_two (atS_at HC.out hg'.out).symm (atB_at HC.out hg'.out).symm, Ext.of hx' hx3⟩
      · go_wp2
        go_ret2
        exact ⟨ret_two (atS_end (by rw [HL.out]; omega)).symm (atB_end (by rw [HL.out]; omega)).symm, hx'⟩

theorem since_any {A : Option Addr} {n c : Nat} {L : List Ver} (t : Int) {w : World} (h : Sl w A n c L) :
    Calls Try.prog 13 #[.slice A n c, .int .i64 t] w fun e w' => e = .returned (.bool (sinceB L t)) ∧ Ext w w' := by
  have hn := h.cap
  have hb := h.big
  cases hc : chainB L with
  | false =>
    have HK := Lib.hid (chk_no hc)
    have HR := Lib.hid (show sinceB L t = false by simp [sinceB, hc])
    clear hc
    go_enter Try.func13, Try.ntmps13
    go_wp2_with (go_at_call 11; refine (check_is HK.out h).mono ?_; rintro e w1 ⟨rfl, hx⟩)
    go_ret
    exact ⟨ret_bool HR.out.symm, hx⟩
  | true =>
    have HK := Lib.hid (chk_yes hc)
    have HC := Lib.hid hc
    have HR := Lib.hid (show sinceB L t = decide (0 < plc L t) by simp [sinceB, hc])
    clear hc
    go_enter Try.func13, Try.ntmps13
    go_wp2_with fail
    refine (check_is HK.out h).mono ?_
    rintro e w1 ⟨rfl, hx⟩
    go_wp2_with fail
    refine (place_any (h.ext hx) HC.out).mono ?_
    rintro e w2 ⟨rfl, hx2⟩
    have hx' := Ext.of hx hx2
    go_wp2
    go_ret
    exact ⟨ret_bool (by rw [HR.out]), hx'⟩

theorem refSince_any {A : Option Addr} {n c : Nat} {L : List Ver} (t : Int) {w : World} (h : Sl w A n c L) :
    Calls Try.prog 14 #[.slice A n c, .int .i64 t] w fun e w' => e = .returned (.bool (sinceB L t)) ∧ Ext w w' := by
  have hn := h.cap
  have hb := h.big
  cases hc : chainB L with
  | false =>
    have HC := Lib.hid hc
    have HR := Lib.hid (show sinceB L t = false by simp [sinceB, hc])
    clear hc
    go_enter Try.func14, Try.ntmps14
    go_wp2_with (go_at_call 25; refine (isRight_is HC.out h).mono ?_; rintro e w1 ⟨rfl, hx⟩)
    go_ret
    exact ⟨ret_bool HR.out.symm, hx⟩
  | true =>
    have HC := Lib.hid hc
    have HR := Lib.hid (show sinceB L t = decide (0 < plc L t) by simp [sinceB, hc])
    clear hc
    by_cases hz : 0 < n
    · obtain ⟨b, off, rfl, ha⟩ := h.at_ hz
      obtain ⟨t', s, d, hg, -, -, -⟩ := h.get hz
      have h0 := (ha _ _ hg.out)
      simp only [Nat.zero_mul, Nat.add_zero] at h0
      have HP := Lib.hid (show decide (0 < plc L t) = decide (t < t') by
        obtain ⟨l, rfl⟩ : ∃ l, L = ⟨t', s, d⟩ :: l := by
          cases L with
          | nil => have := hg.out; simp at this
          | cons a l => have := hg.out; simp at this; subst this; exact ⟨l, rfl⟩
        by_cases e : t < t' <;> simp [plc, e])
      go_enter Try.func14, Try.ntmps14
      go_wp2_with fail
      refine (isRight_is HC.out h).mono ?_
      rintro e w1 ⟨rfl, hx⟩
      obtain ⟨c0, -, -⟩ := h0.ext hx
      go_wp2
      go_ret
      exact ⟨ret_bool (by rw [HR.out, HP.out]), hx⟩
    · have hpl := plc_le L t
      rw [h.len] at hpl
      go_enter Try.func14, Try.ntmps14
      go_wp2_with fail
      refine (isRight_is HC.out h).mono ?_
      rintro e w1 ⟨rfl, hx⟩
      go_wp2
      go_ret
      exact ⟨ret_bool (by rw [HR.out]; simp; omega), hx⟩

end Go.Proofs.Ytpfcddgknahgfaa
