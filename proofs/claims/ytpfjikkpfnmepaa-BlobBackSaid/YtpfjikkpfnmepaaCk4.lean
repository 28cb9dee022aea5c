/-
  Join of both sides.
-/
import Derived.Test.YtpfjikkpfnmepaaCk3
namespace Go.Proofs.Ytpfjikkpfnmepaa
open Go.RowKit

def joinS (L : List ByteArray) (z : Int) (t : Int × Int) : ByteArray := if chkB L z t = true then whole L else ⟨#[]⟩
def RetJ (L : List ByteArray) (z : Int) (t : Int × Int) (w : World) (e : Ending) (w' : World) : Prop := e = .returned (.tuple #[.string (joinS L z t), .int .i64 (chkE L z t)]) ∧ Ext w w'
theorem RetJ.no {L : List ByteArray} {z : Int} {t : Int × Int} {w w' : World} (h : chkB L z t = false) (hx : Ext w w') : RetJ L z t w (.returned (.tuple #[.string ⟨#[]⟩, .int .i64 4])) w' := by
  refine ⟨?_, hx⟩
  rw [chk_no h]
  simp [joinS, h]
theorem RetJ.yes {L : List ByteArray} {z : Int} {t : Int × Int} {w w' : World} (h : chkB L z t = true) (hx : Ext w w') : RetJ L z t w (.returned (.tuple #[.string (whole L), .int .i64 0])) w' := by
  refine ⟨?_, hx⟩
  rw [chk_yes h]
  simp [joinS, h]
theorem chk_ask {L : List ByteArray} {z : Int} {t : Int × Int} (h : chkB L z t = true) : askB L = true := by
  unfold chkB at h
  rw [Bool.and_eq_true] at h
  exact h.1

theorem bjoin_any {A : Option Addr} {n c : Nat} {L : List ByteArray} {w : World} (h : Sl w A n c L) (z : Int) (t : Int × Int) : Calls Try.prog 11 #[.slice A n c, .int .i64 z, tagV t] w (RetJ L z t w) := by
  have hx0 := Ext.al w (.cells #[.int .i64 t.1, .int .i64 t.2] 24)
  have hs := h.ext hx0
  cases hc : chkB L z t with
  | true =>
    have HE := Lib.hid (chk_yes hc)
    have HC := Lib.hid hc
    have HT := Lib.hid (ask_total (chk_ask hc))
    clear hc h
    go_enter Try.func11, Try.ntmps11
    go_wp2_with fail
    refine (check_any hs z t).mono ?_
    rintro e w1 ⟨rfl, x1⟩
    rw [HE.out]
    have hs1 := hs.ext x1
    have hx := Ext.of hx0 x1
    clear hs x1
    go_wp2_with fail
    refine (join_any hs1 (by have := HT.out; omega)).mono ?_
    rintro e w2 ⟨rfl, x2⟩
    have hx2 := Ext.of hx x2
    go_wp2
    go_ret2
    exact RetJ.yes HC.out hx2
  | false =>
    have HE := Lib.hid (chk_no hc)
    have HC := Lib.hid hc
    clear hc h
    go_enter Try.func11, Try.ntmps11
    go_wp2_with fail
    refine (check_any hs z t).mono ?_
    rintro e w1 ⟨rfl, x1⟩
    rw [HE.out]
    have hx := Ext.of hx0 x1
    go_wp2
    go_ret2
    exact RetJ.no HC.out hx

theorem rjoin_any {A : Option Addr} {n c : Nat} {L : List ByteArray} {w : World} (h : Sl w A n c L) (hf : fewB L = true) (z : Int) (t : Int × Int) : Calls Try.prog 12 #[.slice A n c, .int .i64 z, tagV t] w (RetJ L z t w) := by
  have hx0 := Ext.al w (.cells #[.int .i64 t.1, .int .i64 t.2] 24)
  have hs := h.ext hx0
  have HF := Lib.hid hf
  clear hf
  cases hc : chkB L z t with
  | true =>
    have HE := Lib.hid (chk_yes hc)
    have HC := Lib.hid hc
    have HT := Lib.hid (ask_total (chk_ask hc))
    clear hc h
    go_enter Try.func12, Try.ntmps12
    go_wp2_with fail
    refine (rcheck_any hs HF.out z t).mono ?_
    rintro e w1 ⟨rfl, x1⟩
    rw [HE.out]
    have hs1 := hs.ext x1
    have hx := Ext.of hx0 x1
    clear hs x1
    go_wp2_with fail
    refine (rwhole_any hs1 HF.out).mono ?_
    rintro e w2 ⟨k, rfl, hk, rfl⟩
    rw [hk.all (by have := whole_take_le L k; have := HT.out; rw [whole_size] at *; rw [whole_size] at *; omega)]
    clear hk
    go_wp2
    go_ret2
    exact RetJ.yes HC.out hx
  | false =>
    have HE := Lib.hid (chk_no hc)
    have HC := Lib.hid hc
    clear hc h
    go_enter Try.func12, Try.ntmps12
    go_wp2_with fail
    refine (rcheck_any hs HF.out z t).mono ?_
    rintro e w1 ⟨rfl, x1⟩
    rw [HE.out]
    have hx := Ext.of hx0 x1
    go_wp2
    go_ret2
    exact RetJ.no HC.out hx

end Go.Proofs.Ytpfjikkpfnmepaa
