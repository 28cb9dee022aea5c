/-
  The two 'right' functions: a version is right.
-/
import Derived.Test.YtpfcddgknahgfaaBase
namespace Go.Proofs.Ytpfcddgknahgfaa
open Go.RowKit

theorem ret_bool {a b : Bool} (h : a = b) : Ending.returned (.bool a) = .returned (.bool b) := by rw [h]
theorem ret_int {k : IntKind} {a b : Int} (h : a = b) : Ending.returned (.int k a) = .returned (.int k b) := by rw [h]

structure Ver where
  t : Int
  s : ByteArray
  d : Bool

def Ver.val (v : Ver) : Value := .agg #[.int .i64 v.t, .string v.s, .bool v.d]
def rightB (v : Ver) : Bool := decide (1 ≤ v.t) && decide (v.t ≤ 1152921504606846976) && decide (v.s.size ≤ 200) && (!v.d || v.s.toList.isEmpty)

theorem right_any (t : Int) (s : ByteArray) (d : Bool) (w : World) (hs : s.size ≤ 9223372036854775807) : Calls Try.prog 26 #[.agg #[.int .i64 t, .string s, .bool d]] w fun e w' => e = .returned (.bool (rightB ⟨t, s, d⟩)) ∧ Ext w w' := by
  go_enter Try.func26, Try.ntmps26
  go_wp2
  all_goals
    go_ret
    refine ⟨ret_bool ?_, (Below.refl _ _).alloc (Nat.le_refl _) _⟩
    simp [rightB, *]
    try omega

theorem refRight_any (t : Int) (s : ByteArray) (d : Bool) (w : World) (hs : s.size ≤ 9223372036854775807) : Calls Try.prog 29 #[.agg #[.int .i64 t, .string s, .bool d]] w fun e w' => e = .returned (.bool (rightB ⟨t, s, d⟩)) ∧ Ext w w' := by
  go_enter Try.func29, Try.ntmps29
  go_wp2
  all_goals
    go_ret
    refine ⟨ret_bool ?_, (Below.refl _ _).alloc (Nat.le_refl _) _⟩
    simp [rightB, *]
    try omega

theorem right_is {t : Int} {s : ByteArray} {d : Bool} {r : Bool} (h : rightB ⟨t, s, d⟩ = r) (hs : s.size ≤ 9223372036854775807) (w : World) : Calls Try.prog 26 #[.agg #[.int .i64 t, .string s, .bool d]] w fun e w' => e = .returned (.bool r) ∧ Ext w w' := by
  subst h
  exact right_any t s d w hs
theorem refRight_is {t : Int} {s : ByteArray} {d : Bool} {r : Bool} (h : rightB ⟨t, s, d⟩ = r) (hs : s.size ≤ 9223372036854775807) (w : World) : Calls Try.prog 29 #[.agg #[.int .i64 t, .string s, .bool d]] w fun e w' => e = .returned (.bool r) ∧ Ext w w' := by
  subst h
  exact refRight_any t s d w hs

end Go.Proofs.Ytpfcddgknahgfaa
