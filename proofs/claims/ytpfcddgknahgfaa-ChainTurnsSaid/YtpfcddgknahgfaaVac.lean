/-
  chain.Vacuum, chain.Rewind.
-/
import Derived.Test.YtpfcddgknahgfaaAt
import Derived.Test.YtpfcddgknahgfaaClone
namespace Go.Proofs.Ytpfcddgknahgfaa
open Go.RowKit

/-- How many versions are needed from m on. -/
def keepN (L : List Ver) (m : Int) : Nat := plc L m + (match L[plc L m]? with | some v => if v.d = true then 0 else 1 | none => 0)
def vacL (L : List Ver) (m : Int) : List Ver := if chainB L = true then L.take (keepN L m) else []
def rewL (L : List Ver) (t : Int) : List Ver := if chainB L = true then L.drop (plc L t) else []

theorem vacL_no {L : List Ver} (h : chainB L = false) (m : Int) : vacL L m = [] := by simp [vacL, h]
theorem rewL_no {L : List Ver} (h : chainB L = false) (m : Int) : rewL L m = [] := by simp [rewL, h]
theorem vacL_yes {L : List Ver} (h : chainB L = true) (m : Int) : vacL L m = L.take (keepN L m) := by simp [vacL, h]
theorem rewL_yes {L : List Ver} (h : chainB L = true) (m : Int) : rewL L m = L.drop (plc L m) := by simp [rewL, h]
theorem keepN_end {L : List Ver} {m : Int} (h : L.length ≤ plc L m) : keepN L m = plc L m := by simp [keepN, List.getElem?_eq_none h]
theorem keepN_at {L : List Ver} {m : Int} {v : Ver} (h : L[plc L m]? = some v) : keepN L m = plc L m + (if v.d = true then 0 else 1) := by simp [keepN, h]

theorem Sl.take {w : World} {A : Option Addr} {n c : Nat} {L : List Ver} (h : Sl w A n c L) {k : Nat} (hk : k ≤ n) : Sl w A k k (L.take k) :=
  ⟨by rw [List.length_take, h.len]; omega, Nat.le_refl _, by have := h.big; omega, by have := h.wide; have := h.cap; omega, fun e => by have := h.nil e; omega,
    fun v hv => h.ok v (List.mem_of_mem_take hv), fun h0 => by
      obtain ⟨b, off, e, ha⟩ := h.at_ (by omega)
      refine ⟨b, off, e, fun i v hv => ha i v ?_⟩
      rw [List.getElem?_take] at hv
      split at hv
      · exact hv
      · cases hv⟩

theorem Sl.drop {w : World} {A : Option Addr} {n c : Nat} {L : List Ver} (h : Sl w A n c L) {k : Nat} (hk : k ≤ n) : Sl w (Option.map (fun x => x.add (k * 3)) A) (n - k) (c - k) (L.drop k) :=
  ⟨by rw [List.length_drop, h.len], by have := h.cap; omega, by have := h.big; omega, by have := h.wide; omega, fun e => by
      have := h.nil (by cases A with
        | none => rfl
        | some a => cases e)
      omega,
    fun v hv => h.ok v (List.mem_of_mem_drop hv), fun h0 => by
      obtain ⟨b, off, rfl, ha⟩ := h.at_ (by omega)
      refine ⟨b, off + k * 3, by rw [Option.map_some, add_lit], fun i v hv => ?_⟩
      have := ha (k + i) v (by rw [← hv, List.getElem?_drop])
      rw [show off + k * 3 + i * 3 = off + (k + i) * 3 by omega]
      exact this⟩

theorem Sl.drop_all {w : World} {A : Option Addr} {n c : Nat} {L : List Ver} (h : Sl w A n c L) {k : Nat} (hk : c = k) (hl : k ≤ n) : Sl w A (n - k) 0 (L.drop k) :=
  ⟨by rw [List.length_drop, h.len], by have := h.cap; omega, by have := h.big; omega, by unfold maxLen; omega, fun _ => by have := h.cap; omega,
    fun v hv => h.ok v (List.mem_of_mem_drop hv), fun h0 => by have := h.cap; omega⟩

theorem vacuum_any {A : Option Addr} {n c : Nat} {L : List Ver} (m : Int) {w : World} (h : Sl w A n c L) :
    Calls Try.prog 15 #[.slice A n c, .int .i64 m] w fun e w' => RetSl w' (vacL L m) e ∧ Ext w w' := by
  have hn := h.cap
  have hb := h.big
  have hwd := h.wide
  unfold maxLen at hwd
  cases hc : chainB L with
  | false =>
    have HK := Lib.hid (chk_no hc)
    have HV := Lib.hid (vacL_no hc m)
    clear hc
    go_enter Try.func15, Try.ntmps15
    go_wp2_with (go_at_call 11; refine (check_is HK.out h).mono ?_; rintro e w1 ⟨rfl, hx⟩)
    go_ret
    exact ⟨⟨none, 0, 0, rfl, by rw [HV.out]; exact Sl.none_ _⟩, hx⟩
  | true =>
    have HK := Lib.hid (chk_yes hc)
    have HC := Lib.hid hc
    have HV := Lib.hid (vacL_yes hc m)
    have hpl := plc_le L m
    have HL := Lib.hid h.len
    rw [h.len] at hpl
    clear hc
    go_enter Try.func15, Try.ntmps15
    go_wp2_with fail
    refine (check_is HK.out h).mono ?_
    rintro e w1 ⟨rfl, hx⟩
    go_wp2_with fail
    refine (place_any (h.ext hx) HC.out).mono ?_
    rintro e w2 ⟨rfl, hx2⟩
    have hx' := Ext.of hx hx2
    by_cases hlt : plc L m < n
    · obtain ⟨b, off, rfl, ha⟩ := h.at_ (by omega)
      obtain ⟨t', s, d, hg, -, -, -⟩ := h.get hlt
      obtain ⟨-, -, c2⟩ := (ha _ _ hg.out).ext hx'
      have HKN := Lib.hid (keepN_at hg.out)
      cases d with
      | true =>
        have HN := Lib.hid (show keepN L m = plc L m by rw [HKN.out]; simp)
        go_wp2_with fail
        refine (clone_any ((h.ext hx').take (by omega))).mono ?_
        rintro e w3 ⟨⟨A', n', c', rfl, hs⟩, hx3⟩
        go_wp2
        go_ret
        exact ⟨⟨A', n', c', rfl, by rw [HV.out, HN.out]; exact hs⟩, Ext.of hx' hx3⟩
      | false =>
        have HN := Lib.hid (show keepN L m = plc L m + 1 by rw [HKN.out]; simp)
        go_wp2_with fail
        refine (clone_any ((h.ext hx').take (by omega))).mono ?_
        rintro e w3 ⟨⟨A', n', c', rfl, hs⟩, hx3⟩
        go_wp2
        go_ret
        exact ⟨⟨A', n', c', rfl, by rw [HV.out, HN.out]; exact hs⟩, Ext.of hx' hx3⟩
    · have HN := Lib.hid (keepN_end (m := m) (by rw [HL.out]; omega))
      go_wp2_with fail
      refine (clone_any ((h.ext hx').take (by omega))).mono ?_
      rintro e w3 ⟨⟨A', n', c', rfl, hs⟩, hx3⟩
      go_wp2
      go_ret
      exact ⟨⟨A', n', c', rfl, by rw [HV.out, HN.out]; exact hs⟩, Ext.of hx' hx3⟩

theorem rewind_any {A : Option Addr} {n c : Nat} {L : List Ver} (m : Int) {w : World} (h : Sl w A n c L) :
    Calls Try.prog 20 #[.slice A n c, .int .i64 m] w fun e w' => RetSl w' (rewL L m) e ∧ Ext w w' := by
  have hn := h.cap
  have hb := h.big
  have hwd := h.wide
  unfold maxLen at hwd
  cases hc : chainB L with
  | false =>
    have HK := Lib.hid (chk_no hc)
    have HV := Lib.hid (rewL_no hc m)
    clear hc
    go_enter Try.func20, Try.ntmps20
    go_wp2_with (go_at_call 11; refine (check_is HK.out h).mono ?_; rintro e w1 ⟨rfl, hx⟩)
    go_ret
    exact ⟨⟨none, 0, 0, rfl, by rw [HV.out]; exact Sl.none_ _⟩, hx⟩
  | true =>
    have HK := Lib.hid (chk_yes hc)
    have HC := Lib.hid hc
    have HV := Lib.hid (rewL_yes hc m)
    have hpl := plc_le L m
    have HL := Lib.hid h.len
    rw [h.len] at hpl
    clear hc
    go_enter Try.func20, Try.ntmps20
    go_wp2_with fail
    refine (check_is HK.out h).mono ?_
    rintro e w1 ⟨rfl, hx⟩
    go_wp2_with fail
    refine (place_any (h.ext hx) HC.out).mono ?_
    rintro e w2 ⟨rfl, hx2⟩
    have hx' := Ext.of hx hx2
    by_cases hck : c = plc L m
    · have hs := (h.ext hx').drop_all hck hpl
      go_wp2_with fail
      refine (clone_any hs).mono ?_
      rintro e w3 ⟨⟨A', n', c', rfl, hs3⟩, hx3⟩
      go_wp2
      go_ret
      exact ⟨⟨A', n', c', rfl, by rw [HV.out]; exact hs3⟩, Ext.of hx' hx3⟩
    · have hs := (h.ext hx').drop hpl
      go_wp2_with fail
      refine (clone_any hs).mono ?_
      rintro e w3 ⟨⟨A', n', c', rfl, hs3⟩, hx3⟩
      go_wp2
      go_ret
      exact ⟨⟨A', n', c', rfl, by rw [HV.out]; exact hs3⟩, Ext.of hx' hx3⟩

end Go.Proofs.Ytpfcddgknahgfaa
