/-
  Is a tag right: both sides.
-/
import Derived.Test.YtmajagdgpmbnhaaTt
namespace Go.Proofs.Ytmajagdgpmbnhaa
open Go.RowKit

def right (t : Int × Int) : Bool := decide (0 ≤ t.1 ∧ t.1 < 1048573) && decide (0 ≤ t.2 ∧ t.2 < 1048573)
def chkT (t : Int × Int) : Int := if right t = true then 0 else 2
theorem right_of {t : Int × Int} (h : right t = true) : Mod2 t := by
  unfold right at h
  simp at h
  unfold Mod2
  omega
theorem right_mk {t : Int × Int} (h : Mod2 t) : right t = true := by
  obtain ⟨h1, h2, h3, h4⟩ := h
  unfold right
  rw [decide_eq_true (by omega), decide_eq_true (by omega)]
  rfl
theorem chkT_yes {t : Int × Int} (h : right t = true) : chkT t = 0 := by simp [chkT, h]
theorem chkT_no {t : Int × Int} (h : right t = false) : chkT t = 2 := by simp [chkT, h]
def RetI (z : Int) (w : World) (e : Ending) (w' : World) : Prop := e = .returned (.int .i64 z) ∧ Ext w w'
theorem RetI.of {z y : Int} {w w' : World} (h : z = y) (hx : Ext w w') : RetI y w (.returned (.int .i64 z)) w' := ⟨by rw [h], hx⟩
def RetB (b : Bool) (w : World) (e : Ending) (w' : World) : Prop := e = .returned (.bool b) ∧ Ext w w'
theorem RetB.of {a b : Bool} {w w' : World} (h : a = b) (hx : Ext w w') : RetB b w (.returned (.bool a)) w' := ⟨by rw [h], hx⟩

theorem right_no1 {x y : Int} (h : ¬ (0 ≤ x ∧ x < 1048573)) : right (x, y) = false := by simp [right, h]
theorem right_no2 {x y : Int} (h : ¬ (0 ≤ y ∧ y < 1048573)) : right (x, y) = false := by simp [right, h]
theorem right_yes {x y : Int} (h : 0 ≤ x ∧ x < 1048573) (h2 : 0 ≤ y ∧ y < 1048573) : right (x, y) = true := by simp [right, h, h2]

theorem run_first (x y : Int) (w : World) : (Instr.index 63 (.agg #[.int .i64 x, .int .i64 y]) (.int .i64 0)).run Try.prog w = .ok (.int .i64 x) w := by kernel_rfl
theorem run_second (x y : Int) (w : World) : (Instr.index 63 (.agg #[.int .i64 x, .int .i64 y]) (.int .i64 1)).run Try.prog w = .ok (.int .i64 y) w := by kernel_rfl
set_option maxRecDepth 100000 in
theorem tcheck_any (t : Int × Int) (w : World) : Calls Try.prog 18 #[tagV t] w (RetI (chkT t) w) := by
  obtain ⟨x, y⟩ := t
  have hx := Ext.al w (.cells #[.int .i64 x, .int .i64 y] 28)
  obtain ⟨-, c0, c1, -, -⟩ := Cel.new w x y 28
  show Calls Try.prog 18 #[.agg #[.int .i64 x, .int .i64 y]] w _
  have i0 := run_first x y
  have i1 := run_second x y
  by_cases hx1 : 0 ≤ x ∧ x < 1048573
  · have hx2 := hx1
    obtain ⟨p1, p2⟩ := hx2
    have g1 : decide (x < 0) = false := decide_eq_false (by omega)
    have g2 : decide (1048573 ≤ x) = false := decide_eq_false (by omega)
    have HX := Lib.hid hx1
    clear hx1
    by_cases hy1 : 0 ≤ y ∧ y < 1048573
    · have hy2 := hy1
      obtain ⟨p1, p2⟩ := hy2
      have g3 : decide (y < 0) = false := decide_eq_false (by omega)
      have g4 : decide (1048573 ≤ y) = false := decide_eq_false (by omega)
      have HE := Lib.hid (chkT_yes (right_yes HX.out hy1))
      clear hy1
      go_enter Try.func18, Try.ntmps18
      go_wp2
      refine wp_loop_rounds 3 ?_
      rw [rounds_succ]
      go_wp2
      rw [rounds_succ]
      go_wp2
      rw [rounds_succ]
      go_wp2
      go_ret
      exact RetI.of HE.out.symm hx
    · have HE := Lib.hid (chkT_no (right_no2 (x := x) hy1))
      have HY := Lib.hid hy1
      clear hy1
      go_enter Try.func18, Try.ntmps18
      go_wp2
      refine wp_loop_rounds 3 ?_
      rw [rounds_succ]
      go_wp2
      rw [rounds_succ]
      by_cases hy2 : y < 0
      · go_wp2
        go_ret
        exact RetI.of HE.out.symm hx
      · have hy3 : 1048573 ≤ y := by have := HY.out; omega
        go_wp2
        go_ret
        exact RetI.of HE.out.symm hx
  · have HE := Lib.hid (chkT_no (right_no1 (y := y) hx1))
    have HY := Lib.hid hx1
    clear hx1
    go_enter Try.func18, Try.ntmps18
    go_wp2
    refine wp_loop_rounds 3 ?_
    rw [rounds_succ]
    by_cases hy2 : x < 0
    · go_wp2
      go_ret
      exact RetI.of HE.out.symm hx
    · have hy3 : 1048573 ≤ x := by have := HY.out; omega
      go_wp2
      go_ret
      exact RetI.of HE.out.symm hx

set_option maxRecDepth 100000 in
theorem rright_any (t : Int × Int) (w : World) : Calls Try.prog 31 #[tagV t] w (RetB (right t) w) := by
  obtain ⟨x, y⟩ := t
  have hx := Ext.al w (.cells #[.int .i64 x, .int .i64 y] 28)
  obtain ⟨-, c0, c1, -, -⟩ := Cel.new w x y 28
  show Calls Try.prog 31 #[.agg #[.int .i64 x, .int .i64 y]] w _
  by_cases h1 : 0 ≤ x
  · by_cases h2 : x < 1048573
    · by_cases h3 : 0 ≤ y
      · by_cases h4 : y < 1048573
        · have g1 : decide (0 ≤ x) = true := decide_eq_true h1
          have g2 : decide (x < 1048573) = true := decide_eq_true h2
          have g3 : decide (0 ≤ y) = true := decide_eq_true h3
          have g4 : decide (y < 1048573) = true := decide_eq_true h4
          have HE := Lib.hid (right_yes ⟨h1, h2⟩ ⟨h3, h4⟩)
          go_enter Try.func31, Try.ntmps31
          go_wp2
          go_ret
          exact RetB.of HE.out.symm hx
        · have g1 : decide (0 ≤ x) = true := decide_eq_true h1
          have g2 : decide (x < 1048573) = true := decide_eq_true h2
          have g3 : decide (0 ≤ y) = true := decide_eq_true h3
          have g4 : decide (y < 1048573) = false := decide_eq_false h4
          have HE := Lib.hid (right_no2 (x := x) (y := y) (by omega))
          go_enter Try.func31, Try.ntmps31
          go_wp2
          go_ret
          exact RetB.of HE.out.symm hx
      · have g1 : decide (0 ≤ x) = true := decide_eq_true h1
        have g2 : decide (x < 1048573) = true := decide_eq_true h2
        have g3 : decide (0 ≤ y) = false := decide_eq_false h3
        have HE := Lib.hid (right_no2 (x := x) (y := y) (by omega))
        go_enter Try.func31, Try.ntmps31
        go_wp2
        go_ret
        exact RetB.of HE.out.symm hx
    · have g1 : decide (0 ≤ x) = true := decide_eq_true h1
      have g2 : decide (x < 1048573) = false := decide_eq_false h2
      have HE := Lib.hid (right_no1 (x := x) (y := y) (by omega))
      go_enter Try.func31, Try.ntmps31
      go_wp2
      go_ret
      exact RetB.of HE.out.symm hx
  · have g1 : decide (0 ≤ x) = false := decide_eq_false h1
    have HE := Lib.hid (right_no1 (x := x) (y := y) (by omega))
    go_enter Try.func31, Try.ntmps31
    go_wp2
    go_ret
    exact RetB.of HE.out.symm hx

theorem rright_is {t : Int × Int} {b : Bool} (h : right t = b) (w : World) : Calls Try.prog 31 #[tagV t] w fun e w' => e = .returned (.bool b) ∧ Ext w w' := by
  subst h
  exact rright_any t w
theorem tcheck_is {t : Int × Int} {z : Int} (h : chkT t = z) (w : World) : Calls Try.prog 18 #[tagV t] w fun e w' => e = .returned (.int .i64 z) ∧ Ext w w' := by
  subst h
  exact tcheck_any t w

theorem rcheck_any (t : Int × Int) (w : World) : Calls Try.prog 19 #[tagV t] w (RetI (chkT t) w) := by
  have hx := Ext.al w (.cells #[.int .i64 t.1, .int .i64 t.2] 28)
  obtain ⟨-, c0, c1, -, -⟩ := Cel.new w t.1 t.2 28
  cases h : right t with
  | true =>
    have HE := Lib.hid (chkT_yes h)
    have HR := Lib.hid h
    clear h
    go_enter Try.func19, Try.ntmps19
    go_wp2_with fail
    refine (rright_is (t := t) HR.out _).mono ?_
    rintro e w1 ⟨rfl, x1⟩
    have X := Ext.of hx x1
    go_wp2
    go_ret
    exact RetI.of HE.out.symm X
  | false =>
    have HE := Lib.hid (chkT_no h)
    have HR := Lib.hid h
    clear h
    go_enter Try.func19, Try.ntmps19
    go_wp2_with fail
    refine (rright_is (t := t) HR.out _).mono ?_
    rintro e w1 ⟨rfl, x1⟩
    have X := Ext.of hx x1
    go_wp2
    go_ret
    exact RetI.of HE.out.symm X

end Go.Proofs.Ytmajagdgpmbnhaa
