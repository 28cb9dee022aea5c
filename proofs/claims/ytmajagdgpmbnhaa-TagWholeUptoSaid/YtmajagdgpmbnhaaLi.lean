/-
  The document's examples, as the statements ask them.
-/
import Derived.Test.YtmajagdgpmbnhaaRtx
import Derived.Test.YtmajagdgpmbnhaaSm
import Derived.Lib.SlBytesConst
namespace Go.Proofs.Ytmajagdgpmbnhaa
open Go.RowKit

def byteCells (l : List UInt8) : Array Value := (l.map fun c => Value.int .u8 (c.toNat : Int)).toArray
theorem by_new (w : World) (l : List UInt8) (ty : TypeId) (m : Nat × Nat) (hl : l.length ≤ 9223372036854775807) : By (w.alloc (.cells (byteCells l) ty m)) (some ⟨w.heap.size, 0, none⟩) l.length ⟨l.toArray⟩ := by
  refine ⟨by simp [ByteArray.size], hl, fun _ => ⟨_, 0, rfl, fun i hi => ?_⟩⟩
  have hi2 : i < l.length := by simpa [ByteArray.size] using hi
  have h : (byteCells l)[i]? = some (.int .u8 ((l[i]).toNat : Int)) := by
    unfold byteCells
    simp [hi2]
  rw [Nat.zero_add]
  have h2 : (w.alloc (.cells (byteCells l) ty m)).cell? ⟨w.heap.size, i, none⟩ = (byteCells l)[i]? := by simp [World.cell?, World.alloc, -World.alloc_eq]
  rw [h2, h]
  rfl
theorem of_is {A : Option Addr} {n c : Nat} {S : ByteArray} {w : World} {t : Int × Int} (h : By w A n S) (ht : tagOf S = t) : Calls Try.prog 14 #[.slice A n c] w fun e w' => e = .returned (tagV t) ∧ Ext w w' := by
  subst ht
  exact of_any h
theorem sum_is {A : Option Addr} {n c : Nat} {S : ByteArray} {w : World} {z : Int} (h : By w A n S) (hz : ((Crc.sum S.data.toList : Nat) : Int) = z) : Calls Try.prog 11 #[.slice A n c] w fun e w' => e = .returned (.int .i64 z) ∧ w' = w := by
  subst hz
  exact sum_any h
theorem text_is {t : Int × Int} {s : ByteArray} {z : Int} (h1 : txtS t = s) (h2 : chkT t = z) (w : World) : Calls Try.prog 20 #[tagV t] w fun e w' => e = .returned (.tuple #[.string s, .int .i64 z]) ∧ Ext w w' := by
  subst h1 h2
  exact text_any t w
theorem ex_a : tagOf ⟨#[97]⟩ = (98, 159) := by decide +kernel
theorem ex_ab : tagOf ⟨#[97, 98]⟩ = (75, 831) := by decide +kernel
theorem ex_none : tagOf ⟨#[]⟩ = (0, 0) := by decide +kernel
theorem ex_sum : ((Crc.sum (⟨#[49, 50, 51, 52, 53, 54, 55, 56, 57]⟩ : ByteArray).data.toList : Nat) : Int) = 3808858755 := by decide +kernel
theorem ex_text : txtS (75, 831) = ⟨#[48, 48, 48, 52, 98, 48, 48, 51, 51, 102]⟩ := by decide +kernel
theorem ex_chk : chkT (75, 831) = 0 := by decide +kernel
theorem by_none (w : World) : By w none 0 ⟨#[]⟩ := ⟨rfl, by omega, fun h => absurd h (by omega)⟩

set_option maxRecDepth 100000 in
set_option maxHeartbeats 2000000 in
theorem lives_any (w : World) : Calls Try.prog 13 #[] w fun e w' => e = .returned (.bool true) ∧ Ext w w' := by
  have b0c := Lib.run_convert_bytes_const (P := Try.prog) w 22 5 #[.int .u8 97, .int .u8 98] 2 2 Try.underlying22 Try.underlying5
  have b0 : By (w.alloc (.cells #[.int .u8 97, .int .u8 98] 5 (2, 2 + 1))) (some ⟨w.heap.size, 0, none⟩) 2 ⟨#[97, 98]⟩ := by_new w [97, 98] 5 (2, 2 + 1) (by decide)
  have X0 := Ext.al w (.cells #[.int .u8 97, .int .u8 98] 5 (2, 2 + 1))
  go_enter Try.func13, Try.ntmps13
  go_wp2_with fail
  refine (of_is b0 ex_ab).mono ?_
  rintro e w1 ⟨rfl, x1⟩
  have X1 := Ext.of X0 x1
  clear b0 b0c X0 x1
  go_wp2_with fail
  refine (text_is (t := (75, 831)) ex_text ex_chk _).mono ?_
  rintro e w2 ⟨rfl, x2⟩
  have b1c := Lib.run_convert_bytes_const (P := Try.prog) w2 22 5 #[.int .u8 49, .int .u8 50, .int .u8 51, .int .u8 52, .int .u8 53, .int .u8 54, .int .u8 55, .int .u8 56, .int .u8 57] 9 9 Try.underlying22 Try.underlying5
  have b1 : By (w2.alloc (.cells #[.int .u8 49, .int .u8 50, .int .u8 51, .int .u8 52, .int .u8 53, .int .u8 54, .int .u8 55, .int .u8 56, .int .u8 57] 5 (9, 9 + 1))) (some ⟨w2.heap.size, 0, none⟩) 9 ⟨#[49, 50, 51, 52, 53, 54, 55, 56, 57]⟩ := by_new w2 [49, 50, 51, 52, 53, 54, 55, 56, 57] 5 (9, 9 + 1) (by decide)
  have X2 := Ext.of (Ext.of X1 x2) (Ext.al w2 (.cells #[.int .u8 49, .int .u8 50, .int .u8 51, .int .u8 52, .int .u8 53, .int .u8 54, .int .u8 55, .int .u8 56, .int .u8 57] 5 (9, 9 + 1)))
  clear X1 x2
  go_wp2_with fail
  refine (sum_is b1 ex_sum).mono ?_
  rintro e w3 ⟨rfl, rfl⟩
  clear b1 b1c
  go_wp2_with fail
  refine (of_is (by_none _) ex_none).mono ?_
  rintro e w4 ⟨rfl, x4⟩
  have X4 := Ext.of X2 x4
  have b2c := Lib.run_convert_bytes_const (P := Try.prog) w4 22 5 #[.int .u8 97] 1 1 Try.underlying22 Try.underlying5
  have b2 : By (w4.alloc (.cells #[.int .u8 97] 5 (1, 1 + 1))) (some ⟨w4.heap.size, 0, none⟩) 1 ⟨#[97]⟩ := by_new w4 [97] 5 (1, 1 + 1) (by decide)
  have X5 := Ext.of X4 (Ext.al w4 (.cells #[.int .u8 97] 5 (1, 1 + 1)))
  clear X2 x4 X4
  go_wp2_with fail
  refine (of_is b2 ex_a).mono ?_
  rintro e w5 ⟨rfl, x5⟩
  have X6 := Ext.of X5 x5
  have b3c := Lib.run_convert_bytes_const (P := Try.prog) w5 22 5 #[.int .u8 97, .int .u8 98] 2 2 Try.underlying22 Try.underlying5
  have b3 : By (w5.alloc (.cells #[.int .u8 97, .int .u8 98] 5 (2, 2 + 1))) (some ⟨w5.heap.size, 0, none⟩) 2 ⟨#[97, 98]⟩ := by_new w5 [97, 98] 5 (2, 2 + 1) (by decide)
  have X7 := Ext.of X6 (Ext.al w5 (.cells #[.int .u8 97, .int .u8 98] 5 (2, 2 + 1)))
  clear X5 x5 X6 b2 b2c
  go_wp2_with fail
  refine (of_is b3 ex_ab).mono ?_
  rintro e w6 ⟨rfl, x6⟩
  have X8 := Ext.of X7 x6
  clear X7 x6 b3 b3c
  go_wp2
  go_ret
  exact ⟨rfl, X8⟩

end Go.Proofs.Ytmajagdgpmbnhaa
