/-
  Mark and the reference's Mark.
-/
import Derived.Test.YtehbdgbolbbgkaaKeepNil
namespace Go.Proofs.Ytehbdgbolbbgkaa
open Go.RowKit

def headOf (L : List Int) : Int := match L[0]? with | some v => v | none => 0
theorem headOf_some {L : List Int} {v : Int} (h : L[0]? = some v) : headOf L = v := by simp [headOf, h]
theorem headOf_nil {L : List Int} (h : L.length = 0) : headOf L = 0 := by
  have : L = [] := List.eq_nil_of_length_eq_zero h
  subst this
  rfl
theorem ret_mark {a b c d : Int} (h1 : a = b) (h2 : c = d) : Ending.returned (.tuple #[.int .i64 a, .int .i64 c]) = .returned (.tuple #[.int .i64 b, .int .i64 d]) := by rw [h1, h2]

set_option maxHeartbeats 800000 in
theorem mark_any {A : Option Addr} {n c : Nat} {L : List Int} {l e r : Int} {w : World} (h : Sl w A n c L) :
    Calls Try.prog 11 #[.slice A n c, .agg #[.int .i64 l, .int .i64 e, .int .i64 r]] w fun x w' => x = .returned (.tuple #[.int .i64 (headOf (keepL L ⟨l, e, r⟩)), .int .i64 (kchk L ⟨l, e, r⟩)]) ∧ Ext w w' := by
  have hb := h.big
  have x0 := Ext.alloc w (.cells #[.int .i64 l, .int .i64 e, .int .i64 r] 24)
  obtain ⟨g0, g1, g2⟩ := pol_new w l e r 24
  go_enter Try.func11, Try.ntmps11
  go_wp2_with fail
  refine (keep_any (h.ext x0)).mono ?_
  rintro y w1 ⟨⟨v, k, rfl, hk, ho⟩, x1⟩
  have X := Ext.of x0 x1
  obtain ⟨A', c', rfl, hs⟩ := ho.slice (by omega)
  clear x0 x1 g0 g1 g2 ho
  by_cases hz : kchk L ⟨l, e, r⟩ = 0
  · have HZ := Lib.hid hz
    rw [hz]
    clear hz
    rcases k with _ | m
    · have HN := Lib.hid (headOf_nil hs.len)
      go_wp2
      go_ret2
      exact ⟨ret_mark HN.out.symm HZ.out.symm, X⟩
    · obtain ⟨b, off, rfl, ha⟩ := hs.at_ (by omega)
      obtain ⟨u, hu, hu1, hu2⟩ := hs.get (k := 0) (by omega)
      have HN := Lib.hid (headOf_some hu.out)
      have c0 := ha 0 u hu.out
      simp only [Nat.add_zero] at c0
      have hne : (((m + 1 : Nat) : Int) == 0) = false := by simp; omega
      go_wp2
      go_ret2
      exact ⟨ret_mark HN.out.symm HZ.out.symm, X⟩
  · have HN := Lib.hid (show headOf (keepL L ⟨l, e, r⟩) = 0 by rw [keepL_no hz]; rfl)
    have hz' : (kchk L ⟨l, e, r⟩ != 0) = true := by simpa using hz
    go_wp2
    go_ret2
    exact ⟨ret_mark HN.out.symm rfl, X⟩

set_option maxHeartbeats 800000 in
theorem refMark_any {A : Option Addr} {n c : Nat} {L : List Int} {l e r : Int} {w : World} (h : Sl w A n c L) :
    Calls Try.prog 13 #[.slice A n c, .agg #[.int .i64 l, .int .i64 e, .int .i64 r]] w fun x w' => x = .returned (.tuple #[.int .i64 (headOf (inL L ⟨l, e, r⟩)), .int .i64 (kchk L ⟨l, e, r⟩)]) ∧ Ext w w' := by
  have hb := h.big
  have x0 := Ext.alloc w (.cells #[.int .i64 l, .int .i64 e, .int .i64 r] 24)
  obtain ⟨g0, g1, g2⟩ := pol_new w l e r 24
  go_enter Try.func13, Try.ntmps13
  go_wp2_with fail
  refine (refKeep_any (h.ext x0)).mono ?_
  rintro y w1 ⟨⟨A', k, c', A2, k2, c2, rfl, hs, -⟩, x1⟩
  have X := Ext.of x0 x1
  clear x0 x1 g0 g1 g2
  by_cases hz : kchk L ⟨l, e, r⟩ = 0
  · have HZ := Lib.hid hz
    rw [hz]
    clear hz
    rcases k with _ | m
    · have HN := Lib.hid (headOf_nil hs.len)
      go_wp2
      go_ret2
      exact ⟨ret_mark HN.out.symm HZ.out.symm, X⟩
    · obtain ⟨b, off, rfl, ha⟩ := hs.at_ (by omega)
      obtain ⟨u, hu, hu1, hu2⟩ := hs.get (k := 0) (by omega)
      have HN := Lib.hid (headOf_some hu.out)
      have c0 := ha 0 u hu.out
      simp only [Nat.add_zero] at c0
      have hne : (((m + 1 : Nat) : Int) == 0) = false := by simp; omega
      go_wp2
      go_ret2
      exact ⟨ret_mark HN.out.symm HZ.out.symm, X⟩
  · have HN := Lib.hid (show headOf (inL L ⟨l, e, r⟩) = 0 by rw [inL_no hz]; rfl)
    have hz' : (kchk L ⟨l, e, r⟩ != 0) = true := by simpa using hz
    go_wp2
    go_ret2
    exact ⟨ret_mark HN.out.symm rfl, X⟩

end Go.Proofs.Ytehbdgbolbbgkaa
