/-
  Next.
-/
import Derived.Test.YtehbdgbolbbgkaaDel
namespace Go.Proofs.Ytehbdgbolbbgkaa
open Go.RowKit

theorem keeps_out {L : List Int} {p : Pol} (h : kchk L p = 0) : keepsB (hasB (keepL L p)) L = outL L p := by
  rw [← out_eq h]
  unfold keepsB hasB
  rw [keep_eq]
theorem keep_ups (L : List Int) (p : Pol) : Ups (keepL L p) := by
  by_cases h : kchk L p = 0
  · rw [keep_eq]; exact in_ups h
  · rw [keepL_no h]
    intro i j a b _ ha
    simp at ha

def RetN (w' : World) (O : List Int) (r : Int) (e : Ending) : Prop := ∃ A n c, e = .returned (.tuple #[.slice A n c, .int .i64 r]) ∧ Sl w' A n c O
theorem RetN.mk {w : World} {O : List Int} {r : Int} {A : Option Addr} {n c : Nat} (hs : Sl w A n c O) (hr : r = 0) : RetN w O r (.returned (.tuple #[.slice A n c, .int .i64 0])) := by
  subst hr
  exact ⟨_, _, _, rfl, hs⟩
theorem RetN.none_ {w : World} {L : List Int} {p : Pol} (h : kchk L p ≠ 0) : RetN w (outL L p) (kchk L p) (.returned (.tuple #[.slice none 0 0, .int .i64 (kchk L p)])) :=
  ⟨_, _, _, rfl, by rw [outL_no h]; exact Sl.none_ _⟩

set_option maxHeartbeats 1000000 in
theorem next_any {A : Option Addr} {n c : Nat} {L : List Int} {l e r : Int} {w : World} (h : Sl w A n c L) :
    Calls Try.prog 10 #[.slice A n c, .agg #[.int .i64 l, .int .i64 e, .int .i64 r]] w fun x w' => RetN w' (outL L ⟨l, e, r⟩) (kchk L ⟨l, e, r⟩) x ∧ Ext w w' := by
  have hb := h.big
  have x0 := Ext.alloc w (.cells #[.int .i64 l, .int .i64 e, .int .i64 r] 24)
  obtain ⟨g0, g1, g2⟩ := pol_new w l e r 24
  go_enter Try.func10, Try.ntmps10
  go_wp2_with fail
  refine (keep_any (h.ext x0)).mono ?_
  rintro y w1 ⟨⟨v, k, rfl, hk, ho⟩, x1⟩
  have X := Ext.of x0 x1
  obtain ⟨A', c', rfl, hs⟩ := ho.slice (by omega)
  clear x0 x1 g0 g1 g2 ho
  have X2 := Ext.of X (Ext.alloc w1 (.cells #[.slice A' k c'] 22))
  have hs2 := hs.ext (Ext.alloc w1 (.cells #[.slice A' k c'] 22))
  have hp := cell_new w1 (.slice A' k c') 22
  have hl2 := h.ext X2
  clear X hs
  by_cases hz : kchk L ⟨l, e, r⟩ = 0
  · have HZ := Lib.hid hz
    have HO := Lib.hid (keeps_out hz)
    rw [hz]
    clear hz
    go_wp2_with fail
    refine (clone_any hl2).mono ?_
    rintro y w3 ⟨⟨v3, rfl, ho3⟩, x3⟩
    have hl3 := hs2.ext x3
    go_wp2_with fail
    refine (delete_any (p := hasB (keepL L ⟨l, e, r⟩)) (w0 := w1.alloc (.cells #[.slice A' k c'] 22)) ho3 hb x3 (Nat.le_refl _) (fun x w' hw => next1_is (hs2.ext hw) (keep_ups L ⟨l, e, r⟩) (Ext.cell hw hp))).mono ?_
    rintro y w4 ⟨⟨A4, n4, c4, rfl, hs4⟩, x4⟩
    have X4 := Ext.of X2 x4
    rw [HO.out] at hs4
    clear hl3 ho3 x3 x4 X2 hs2 hp hl2
    go_wp2
    go_ret2
    exact ⟨RetN.mk hs4 HZ.out, X4⟩
  · have HN := Lib.hid hz
    have hz' : (kchk L ⟨l, e, r⟩ != 0) = true := by simpa using hz
    go_wp2
    go_ret2
    exact ⟨RetN.none_ HN.out, X2⟩

end Go.Proofs.Ytehbdgbolbbgkaa
