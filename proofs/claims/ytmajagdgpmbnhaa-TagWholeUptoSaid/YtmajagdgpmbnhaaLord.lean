/-
  TagOrder returns true for every input. No condition.
-/
import Derived.Test.YtmajagdgpmbnhaaOpb
import Derived.Test.YtmajagdgpmbnhaaJo
import Derived.Test.YtmajagdgpmbnhaaRows
namespace Go.Proofs.Ytmajagdgpmbnhaa
open Go.RowKit Go.ChangeShapes Go.WideShapes Go.ChangeAt

theorem red_gm_left (s t : Int × Int) : red (gm (red s) t) = red (gm s t) := by
  rw [← red_gm (red s) t, red_red, red_gm]
theorem red_gm_right (s t : Int × Int) : red (gm s (red t)) = red (gm s t) := by
  rw [← red_gm s (red t), red_red, red_gm]
theorem red_ga_left (s t : Int × Int) : red (ga (red s) t) = red (ga s t) := by
  rw [← red_ga (red s) t, red_red, red_ga]
theorem red_ga_right (s t : Int × Int) : red (ga s (red t)) = red (ga s t) := by
  rw [← red_ga s (red t), red_red, red_ga]
theorem joinV_eq (a b : Int × Int) (n : Nat) : joinV a b n = red (ga (gm a (gpow (3, 2) n)) b) := by
  unfold joinV tpow
  rw [red_ga_left, ← red_ga_left, red_gm_right, red_ga_left]
theorem joinV_mod (a b : Int × Int) (n : Nat) : Mod2 (joinV a b n) := red_bounds _
theorem join_order (a b c : Int × Int) (n m : Nat) : joinV (joinV a b n) c m = joinV a (joinV b c m) (n + m) := by
  rw [joinV_eq a b n, joinV_eq b c m, joinV_eq, joinV_eq, red_ga_right, ← red_ga_left, red_gm_left, red_ga_left, gm_ga, ga_assoc, gpow_add, gm_assoc]
theorem join_none {a : Int × Int} (h : Mod2 a) : joinV a (0, 0) 0 = a := by
  rw [joinV_eq]
  show red (ga (gm a (1, 0)) (0, 0)) = a
  rw [gm_one]
  have e : ga a (0, 0) = a := by
    unfold ga
    refine Prod.ext ?_ ?_ <;> simp
  rw [e]
  exact red_small h.1 h.2.1 h.2.2.1 h.2.2.2
theorem join_is {x y u v : Int} {n : Nat} {t : Int × Int} (h1 : Mod2 (x, y)) (h2 : Mod2 (u, v)) (hn : n ≤ 9223372036854775807) (ht : joinV (x, y) (u, v) n = t) (w : World) :
    Calls Try.prog 16 #[.agg #[.int .i64 x, .int .i64 y], .agg #[.int .i64 u, .int .i64 v], .int .i64 (n : Int)] w fun e w' => e = .returned (.tuple #[tagV t, .int .i64 0]) ∧ Ext w w' := by
  subst ht
  have h := join_any (x, y) (u, v) (n : Int) (by omega) w
  rw [RetJ.yes (right_mk h1) (right_mk h2)] at h
  exact h

theorem eql_same (s : Int × Int) (w : World) : (binOp .eql 28 (tagV s) (tagV s)).run Try.prog w = .ok (.bool true) w := by
  rw [run_tag_eql, decide_eq_true rfl]
theorem box4 (w : World) (x y u v p q : Int) (t : TypeId) : ∃ W, ((w.alloc (.cells #[.int .i64 x, .int .i64 y] t)).alloc (.cells #[.int .i64 u, .int .i64 v] t)).alloc (.cells #[.int .i64 p, .int .i64 q] t) = W ∧
    Cel W w.heap.size x y ∧ Cel W (w.heap.size + 1) u v ∧ Cel W (w.heap.size + 2) p q ∧ Ext w W := by
  have h1 : Cel (((w.alloc (.cells #[.int .i64 x, .int .i64 y] t)).alloc (.cells #[.int .i64 u, .int .i64 v] t)).alloc (.cells #[.int .i64 p, .int .i64 q] t)) w.heap.size x y := ((Cel.new w x y t).ext (Ext.al _ _)).ext (Ext.al _ _)
  have h2 : Cel (((w.alloc (.cells #[.int .i64 x, .int .i64 y] t)).alloc (.cells #[.int .i64 u, .int .i64 v] t)).alloc (.cells #[.int .i64 p, .int .i64 q] t)) (w.heap.size + 1) u v := by
    have h := Cel.new (w.alloc (.cells #[.int .i64 x, .int .i64 y] t)) u v t
    have e : (w.alloc (.cells #[.int .i64 x, .int .i64 y] t)).heap.size = w.heap.size + 1 := by simp
    rw [e] at h
    exact h.ext (Ext.al _ _)
  have h3 : Cel (((w.alloc (.cells #[.int .i64 x, .int .i64 y] t)).alloc (.cells #[.int .i64 u, .int .i64 v] t)).alloc (.cells #[.int .i64 p, .int .i64 q] t)) (w.heap.size + 2) p q := by
    have h := Cel.new ((w.alloc (.cells #[.int .i64 x, .int .i64 y] t)).alloc (.cells #[.int .i64 u, .int .i64 v] t)) p q t
    have e : ((w.alloc (.cells #[.int .i64 x, .int .i64 y] t)).alloc (.cells #[.int .i64 u, .int .i64 v] t)).heap.size = w.heap.size + 2 := by simp
    rw [e] at h
    exact h
  have h4 : Ext w (((w.alloc (.cells #[.int .i64 x, .int .i64 y] t)).alloc (.cells #[.int .i64 u, .int .i64 v] t)).alloc (.cells #[.int .i64 p, .int .i64 q] t)) := Ext.of (Ext.of (Ext.al _ _) (Ext.al _ _)) (Ext.al _ _)
  exact ⟨_, rfl, h1, h2, h3, h4⟩

set_option maxRecDepth 100000 in
set_option maxHeartbeats 4000000 in
theorem order_walk {w : World} (x y : Int) (_h1 : NumI x ∧ NumI y) (u v : Int) (_h2 : NumI u ∧ NumI v) (p q : Int) (_h3 : NumI p ∧ NumI q) (n : Int) (_wn : (Lit.int IntKind.i64 n).wf = true) (m : Int) (_wm : (Lit.int IntKind.i64 m).wf = true) :
    Calls Try.prog 8 #[.agg #[.int .i64 x, .int .i64 y], .agg #[.int .i64 u, .int .i64 v], .agg #[.int .i64 p, .int .i64 q], .int .i64 n, .int .i64 m] w fun e w' => e = .returned (.bool true) ∧ Below w.heap.size w w' := by
  obtain ⟨W, hW, hA, hB, hC, X⟩ := box4 w x y u v p q 28
  have HW := Lib.hid hW
  clear hW
  obtain ⟨-, c0, c1, -, -⟩ := (show Cel _ _ _ _ from HW.out ▸ hA)
  cases ha : right (x, y) with
  | false =>
    have hKa := fun w => tcheck_is (t := (x, y)) (chkT_no ha) w
    clear ha
    go_enter Try.func8, Try.ntmps8
    go_wp2_with fail
    rw [HW.out]
    refine (hKa _).mono ?_
    rintro e w1 ⟨rfl, x1⟩
    have X1 := Ext.of X x1
    clear c0 c1
    go_wp2_with fail
    refine (lives_any _).mono ?_
    rintro e w9 ⟨rfl, x9⟩
    go_wp2
    go_ret
    exact ⟨rfl, Ext.of X1 x9⟩
  | true =>
    have ma := right_of ha
    have hKa := fun w => tcheck_is (t := (x, y)) (chkT_yes ha) w
    clear ha
    cases hb : right (u, v) with
    | false =>
      have hKb := fun w => tcheck_is (t := (u, v)) (chkT_no hb) w
      clear hb
      go_enter Try.func8, Try.ntmps8
      go_wp2_with fail
      rw [HW.out]
      refine (hKa _).mono ?_
      rintro e w1 ⟨rfl, x1⟩
      have X1 := Ext.of X x1
      have hA1 := hA.ext x1
      have hB1 := hB.ext x1
      have hC1 := hC.ext x1
      clear c0 c1
      obtain ⟨-, c0, c1, -, -⟩ := id hB1
      go_wp2_with fail
      refine (hKb _).mono ?_
      rintro e w2 ⟨rfl, x2⟩
      have X2 := Ext.of X1 x2
      clear c0 c1
      go_wp2_with fail
      refine (lives_any _).mono ?_
      rintro e w9 ⟨rfl, x9⟩
      go_wp2
      go_ret
      exact ⟨rfl, Ext.of X2 x9⟩
    | true =>
      have mb := right_of hb
      have hKb := fun w => tcheck_is (t := (u, v)) (chkT_yes hb) w
      clear hb
      cases hc : right (p, q) with
      | false =>
        have hKc := fun w => tcheck_is (t := (p, q)) (chkT_no hc) w
        clear hc
        go_enter Try.func8, Try.ntmps8
        go_wp2_with fail
        rw [HW.out]
        refine (hKa _).mono ?_
        rintro e w1 ⟨rfl, x1⟩
        have X1 := Ext.of X x1
        have hA1 := hA.ext x1
        have hB1 := hB.ext x1
        have hC1 := hC.ext x1
        clear c0 c1
        obtain ⟨-, c0, c1, -, -⟩ := id hB1
        go_wp2_with fail
        refine (hKb _).mono ?_
        rintro e w2 ⟨rfl, x2⟩
        have X2 := Ext.of X1 x2
        have hA2 := hA1.ext x2
        have hB2 := hB1.ext x2
        have hC2 := hC1.ext x2
        clear c0 c1
        obtain ⟨-, c0, c1, -, -⟩ := id hC2
        go_wp2_with fail
        refine (hKc _).mono ?_
        rintro e w3 ⟨rfl, x3⟩
        have X3 := Ext.of X2 x3
        clear c0 c1
        go_wp2_with fail
        refine (lives_any _).mono ?_
        rintro e w9 ⟨rfl, x9⟩
        go_wp2
        go_ret
        exact ⟨rfl, Ext.of X3 x9⟩
      | true =>
        have mc := right_of hc
        have hKc := fun w => tcheck_is (t := (p, q)) (chkT_yes hc) w
        clear hc
        by_cases hg : 0 ≤ n ∧ n ≤ 1099511627776 ∧ 0 ≤ m ∧ m ≤ 1099511627776
        · obtain ⟨b1, b2, b3, b4⟩ := hg
          obtain ⟨i, rfl⟩ : ∃ i : Nat, n = i := ⟨n.toNat, by omega⟩
          obtain ⟨j, rfl⟩ : ∃ j : Nat, m = j := ⟨m.toNat, by omega⟩
          have g0 : decide ((i : Int) < 0) = false := decide_eq_false (by omega)
          have g1 : decide (1099511627776 < (i : Int)) = false := decide_eq_false (by omega)
          have g2 : decide ((j : Int) < 0) = false := decide_eq_false (by omega)
          have g3 : decide (1099511627776 < (j : Int)) = false := decide_eq_false (by omega)
          have HI : Hid (i ≤ 9223372036854775807) := by show _ ≤ _; omega
          have HJ : Hid (j ≤ 9223372036854775807) := by show _ ≤ _; omega
          have HIJ : Hid (i + j ≤ 9223372036854775807) := by show _ ≤ _; omega
          obtain ⟨s1, s2, hs⟩ : ∃ s1 s2, joinV (x, y) (u, v) i = (s1, s2) := ⟨_, _, rfl⟩
          obtain ⟨t1, t2, ht⟩ : ∃ t1 t2, joinV (s1, s2) (p, q) j = (t1, t2) := ⟨_, _, rfl⟩
          obtain ⟨o1, o2, ho⟩ : ∃ o1 o2, joinV (u, v) (p, q) j = (o1, o2) := ⟨_, _, rfl⟩
          have ms : Mod2 (s1, s2) := by rw [← hs]; exact joinV_mod _ _ _
          have mo : Mod2 (o1, o2) := by rw [← ho]; exact joinV_mod _ _ _
          have mt : Mod2 (t1, t2) := by rw [← ht]; exact joinV_mod _ _ _
          have hf : joinV (x, y) (o1, o2) (i + j) = (t1, t2) := by
            have h := join_order (x, y) (u, v) (p, q) i j
            rw [hs, ht, ho] at h
            exact h.symm
          have J1 := fun w => join_is ma mb HI.out hs w
          have J2 := fun w => join_is ms mc HJ.out ht w
          have J3 := fun w => join_is mb mc HJ.out ho w
          have J4 := fun w => join_is ma mo HIJ.out hf w
          have J5 := fun w => join_is ma (u := 0) (v := 0) (n := 0) ⟨by decide, by decide, by decide, by decide⟩ (by omega) (join_none ma) w
          have K6 := fun w => tcheck_is (t := (t1, t2)) (chkT_yes (right_mk mt)) w
          rw [show ((i + j : Nat) : Int) = (i : Int) + j by omega] at J4
          have e1 := eql_same (t1, t2)
          have e2 := eql_same (x, y)
          clear hs ht ho hf ms mo mt ma mb mc
          go_enter Try.func8, Try.ntmps8
          go_wp2_with fail
          rw [HW.out]
          refine (hKa _).mono ?_
          rintro e w1 ⟨rfl, x1⟩
          have X1 := Ext.of X x1
          have hA1 := hA.ext x1
          have hB1 := hB.ext x1
          have hC1 := hC.ext x1
          clear c0 c1
          obtain ⟨-, c0, c1, -, -⟩ := id hB1
          go_wp2_with fail
          refine (hKb _).mono ?_
          rintro e w2 ⟨rfl, x2⟩
          have X2 := Ext.of X1 x2
          have hA2 := hA1.ext x2
          have hB2 := hB1.ext x2
          have hC2 := hC1.ext x2
          clear c0 c1
          obtain ⟨-, c0, c1, -, -⟩ := id hC2
          go_wp2_with fail
          refine (hKc _).mono ?_
          rintro e w3 ⟨rfl, x3⟩
          have X3 := Ext.of X2 x3
          have hA3 := hA2.ext x3
          have hB3 := hB2.ext x3
          have hC3 := hC2.ext x3
          clear c0 c1
          clear hA hA1 hA2 hB hB1 hB2 hC hC1 hC2 X X1 X2 x1 x2 x3 hKa hKb hKc
          have sz := X3.size
          have szz := hC3.lt
          obtain ⟨-, c0, c1, -, -⟩ := id hA3
          obtain ⟨-, d0, d1, -, -⟩ := id hB3
          go_wp2_with fail
          refine (J1 _).mono ?_
          rintro e w4 ⟨rfl, x4⟩
          have s4 : w3.heap.size ≤ w4.heap.size := x4.size
          have hA4 := (hA3.ext x4).ext (Ext.al w4 (.cells #[.int .i64 s1, .int .i64 s2] 28))
          have hB4 := (hB3.ext x4).ext (Ext.al w4 (.cells #[.int .i64 s1, .int .i64 s2] 28))
          have hC4 := (hC3.ext x4).ext (Ext.al w4 (.cells #[.int .i64 s1, .int .i64 s2] 28))
          have hS4 := Cel.new w4 s1 s2 28
          have X4 := Ext.of X3 (Ext.of x4 (Ext.al w4 (.cells #[.int .i64 s1, .int .i64 s2] 28)))
          clear hA3 hB3 hC3 X3 x4 c0 c1 d0 d1 J1
          obtain ⟨-, c0, c1, -, -⟩ := id hS4
          obtain ⟨-, d0, d1, -, -⟩ := id hC4
          go_wp2_with fail
          refine (J2 _).mono ?_
          rintro e w5 ⟨rfl, x5⟩
          have hA5 := (hA4.ext x5).other (c := w4.heap.size) (by omega) (.int .i64 t1) (.int .i64 t2)
          have hB5 := (hB4.ext x5).other (c := w4.heap.size) (by omega) (.int .i64 t1) (.int .i64 t2)
          have hC5 := (hC4.ext x5).other (c := w4.heap.size) (by omega) (.int .i64 t1) (.int .i64 t2)
          have hS5 := hS4.ext x5
          have hT5 := hS5.set t1 t2
          have X5 := (Ext.of X4 x5).set (b := w4.heap.size) (by omega) (.int .i64 t1) (.int .i64 t2)
          clear hA4 hB4 hC4 hS4 X4 x5 c0 c1 d0 d1 J2
          obtain ⟨l0, a0, a1, f0, f1⟩ := hS5
          obtain ⟨-, c0, c1, -, -⟩ := id hB5
          obtain ⟨-, d0, d1, -, -⟩ := id hC5
          go_wp2_with fail
          refine (J3 _).mono ?_
          rintro e w6 ⟨rfl, x6⟩
          have s6 : w5.heap.size ≤ w6.heap.size := by have := x6.size; simpa using this
          have hA6 := (hA5.ext x6).ext (Ext.al w6 (.cells #[.int .i64 o1, .int .i64 o2] 28))
          have hT6 := (hT5.ext x6).ext (Ext.al w6 (.cells #[.int .i64 o1, .int .i64 o2] 28))
          have hO6 := Cel.new w6 o1 o2 28
          have X6 := Ext.of X5 (Ext.of x6 (Ext.al w6 (.cells #[.int .i64 o1, .int .i64 o2] 28)))
          clear hA5 hB5 hC5 hT5 X5 x6 c0 c1 d0 d1 a0 a1 f0 f1 J3
          obtain ⟨-, c0, c1, -, -⟩ := id hA6
          obtain ⟨-, d0, d1, -, -⟩ := id hO6
          go_wp2_with fail
          refine (J4 _).mono ?_
          rintro e w7 ⟨rfl, x7⟩
          have hA7 := (hA6.ext x7).other (c := w6.heap.size) (by omega) (.int .i64 t1) (.int .i64 t2)
          have hT7 := (hT6.ext x7).other (c := w6.heap.size) (by omega) (.int .i64 t1) (.int .i64 t2)
          have hO7 := hO6.ext x7
          have hU7 := hO7.set t1 t2
          have X7 := (Ext.of X6 x7).set (b := w6.heap.size) (by omega) (.int .i64 t1) (.int .i64 t2)
          clear hA6 hT6 hO6 X6 x7 c0 c1 d0 d1 J4
          obtain ⟨l1, a0, a1, f0, f1⟩ := hO7
          obtain ⟨-, c0, c1, -, -⟩ := id hA7
          go_wp2_with fail
          refine (J5 _).mono ?_
          rintro e w8 ⟨rfl, x8⟩
          have hA8 := (hA7.ext x8).ext (Ext.al w8 (.cells #[.int .i64 x, .int .i64 y] 28))
          have hT8 := (hT7.ext x8).ext (Ext.al w8 (.cells #[.int .i64 x, .int .i64 y] 28))
          have hU8 := (hU7.ext x8).ext (Ext.al w8 (.cells #[.int .i64 x, .int .i64 y] 28))
          have hZ8 := Cel.new w8 x y 28
          have X8 := Ext.of X7 (Ext.of x8 (Ext.al w8 (.cells #[.int .i64 x, .int .i64 y] 28)))
          clear hA7 hT7 hU7 X7 x8 c0 c1 a0 a1 f0 f1 J5
          obtain ⟨-, c0, c1, -, -⟩ := id hA8
          obtain ⟨-, d0, d1, -, -⟩ := id hT8
          obtain ⟨-, r0, r1, -, -⟩ := id hU8
          obtain ⟨-, q0, q1, -, -⟩ := id hZ8
          go_wp2_with fail
          refine (K6 _).mono ?_
          rintro e wa ⟨rfl, xa⟩
          have X9 := Ext.of X8 xa
          clear c0 c1 d0 d1 r0 r1 q0 q1 hA8 hT8 hU8 hZ8 X8 xa
          go_wp2_with fail
          refine (lives_any _).mono ?_
          rintro e wb ⟨rfl, xb⟩
          go_wp2
          go_ret
          exact ⟨rfl, Ext.of X9 xb⟩
        · have hcase : n < 0 ∨ (¬ n < 0 ∧ 1099511627776 < n) ∨ (¬ n < 0 ∧ ¬ 1099511627776 < n ∧ m < 0) ∨ (¬ n < 0 ∧ ¬ 1099511627776 < n ∧ ¬ m < 0 ∧ 1099511627776 < m) := by omega
          clear hg
          rcases hcase with h | ⟨h, h'⟩ | ⟨h, h', h''⟩ | ⟨h, h', h'', h3⟩
          · have g0 : decide (n < 0) = true := decide_eq_true h
            clear h
            go_enter Try.func8, Try.ntmps8
            go_wp2_with fail
            rw [HW.out]
            refine (hKa _).mono ?_
            rintro e w1 ⟨rfl, x1⟩
            have X1 := Ext.of X x1
            have hA1 := hA.ext x1
            have hB1 := hB.ext x1
            have hC1 := hC.ext x1
            clear c0 c1
            obtain ⟨-, c0, c1, -, -⟩ := id hB1
            go_wp2_with fail
            refine (hKb _).mono ?_
            rintro e w2 ⟨rfl, x2⟩
            have X2 := Ext.of X1 x2
            have hA2 := hA1.ext x2
            have hB2 := hB1.ext x2
            have hC2 := hC1.ext x2
            clear c0 c1
            obtain ⟨-, c0, c1, -, -⟩ := id hC2
            go_wp2_with fail
            refine (hKc _).mono ?_
            rintro e w3 ⟨rfl, x3⟩
            have X3 := Ext.of X2 x3
            have hA3 := hA2.ext x3
            have hB3 := hB2.ext x3
            have hC3 := hC2.ext x3
            clear c0 c1
            go_wp2_with fail
            refine (lives_any _).mono ?_
            rintro e w9 ⟨rfl, x9⟩
            go_wp2
            go_ret
            exact ⟨rfl, Ext.of X3 x9⟩
          · have g0 : decide (n < 0) = false := decide_eq_false h
            have g1 : decide (1099511627776 < n) = true := decide_eq_true h'
            clear h h'
            go_enter Try.func8, Try.ntmps8
            go_wp2_with fail
            rw [HW.out]
            refine (hKa _).mono ?_
            rintro e w1 ⟨rfl, x1⟩
            have X1 := Ext.of X x1
            have hA1 := hA.ext x1
            have hB1 := hB.ext x1
            have hC1 := hC.ext x1
            clear c0 c1
            obtain ⟨-, c0, c1, -, -⟩ := id hB1
            go_wp2_with fail
            refine (hKb _).mono ?_
            rintro e w2 ⟨rfl, x2⟩
            have X2 := Ext.of X1 x2
            have hA2 := hA1.ext x2
            have hB2 := hB1.ext x2
            have hC2 := hC1.ext x2
            clear c0 c1
            obtain ⟨-, c0, c1, -, -⟩ := id hC2
            go_wp2_with fail
            refine (hKc _).mono ?_
            rintro e w3 ⟨rfl, x3⟩
            have X3 := Ext.of X2 x3
            have hA3 := hA2.ext x3
            have hB3 := hB2.ext x3
            have hC3 := hC2.ext x3
            clear c0 c1
            go_wp2_with fail
            refine (lives_any _).mono ?_
            rintro e w9 ⟨rfl, x9⟩
            go_wp2
            go_ret
            exact ⟨rfl, Ext.of X3 x9⟩
          · have g0 : decide (n < 0) = false := decide_eq_false h
            have g1 : decide (1099511627776 < n) = false := decide_eq_false h'
            have g2 : decide (m < 0) = true := decide_eq_true h''
            clear h h' h''
            go_enter Try.func8, Try.ntmps8
            go_wp2_with fail
            rw [HW.out]
            refine (hKa _).mono ?_
            rintro e w1 ⟨rfl, x1⟩
            have X1 := Ext.of X x1
            have hA1 := hA.ext x1
            have hB1 := hB.ext x1
            have hC1 := hC.ext x1
            clear c0 c1
            obtain ⟨-, c0, c1, -, -⟩ := id hB1
            go_wp2_with fail
            refine (hKb _).mono ?_
            rintro e w2 ⟨rfl, x2⟩
            have X2 := Ext.of X1 x2
            have hA2 := hA1.ext x2
            have hB2 := hB1.ext x2
            have hC2 := hC1.ext x2
            clear c0 c1
            obtain ⟨-, c0, c1, -, -⟩ := id hC2
            go_wp2_with fail
            refine (hKc _).mono ?_
            rintro e w3 ⟨rfl, x3⟩
            have X3 := Ext.of X2 x3
            have hA3 := hA2.ext x3
            have hB3 := hB2.ext x3
            have hC3 := hC2.ext x3
            clear c0 c1
            go_wp2_with fail
            refine (lives_any _).mono ?_
            rintro e w9 ⟨rfl, x9⟩
            go_wp2
            go_ret
            exact ⟨rfl, Ext.of X3 x9⟩
          · have g0 : decide (n < 0) = false := decide_eq_false h
            have g1 : decide (1099511627776 < n) = false := decide_eq_false h'
            have g2 : decide (m < 0) = false := decide_eq_false h''
            have g3 : decide (1099511627776 < m) = true := decide_eq_true h3
            clear h h' h'' h3
            go_enter Try.func8, Try.ntmps8
            go_wp2_with fail
            rw [HW.out]
            refine (hKa _).mono ?_
            rintro e w1 ⟨rfl, x1⟩
            have X1 := Ext.of X x1
            have hA1 := hA.ext x1
            have hB1 := hB.ext x1
            have hC1 := hC.ext x1
            clear c0 c1
            obtain ⟨-, c0, c1, -, -⟩ := id hB1
            go_wp2_with fail
            refine (hKb _).mono ?_
            rintro e w2 ⟨rfl, x2⟩
            have X2 := Ext.of X1 x2
            have hA2 := hA1.ext x2
            have hB2 := hB1.ext x2
            have hC2 := hC1.ext x2
            clear c0 c1
            obtain ⟨-, c0, c1, -, -⟩ := id hC2
            go_wp2_with fail
            refine (hKc _).mono ?_
            rintro e w3 ⟨rfl, x3⟩
            have X3 := Ext.of X2 x3
            have hA3 := hA2.ext x3
            have hB3 := hB2.ext x3
            have hC3 := hC2.ext x3
            clear c0 c1
            go_wp2_with fail
            refine (lives_any _).mono ?_
            rintro e w9 ⟨rfl, x9⟩
            go_wp2
            go_ret
            exact ⟨rfl, Ext.of X3 x9⟩

set_option maxRecDepth 100000 in
theorem order_lifted (os : Os) (started : os.Started) (H : Type) (enc : TypeId × Value → H) :
    ReturnsInHanded {} Try.checked os 8 .any (Rows.tagOrderSpec.pre6 enc Try.prog Try.f8 Rows.tagOrderRow.domain false) (Rows.tagOrderSpec.post enc Try.prog Try.f8 false true false false) := by
  refine returnsInHanded_of_change (C := Try.checked) ownK started (by kernel_rfl) Try.func8
    (ChangeSpec.witness6 (enc := enc) (C := Try.checked) false ⟨#[], #[.agg #[.int .i64 0, .int .i64 0], .agg #[.int .i64 0, .int .i64 0], .agg #[.int .i64 0, .int .i64 0], .int .i64 0, .int .i64 0], []⟩ 8 (by kernel_rfl) (by kernel_rfl) (by kernel_rfl) (by kernel_rfl)) ?_
  intro W base args ds gs before hval0 hW hcnd _
  have hval : ∀ (j : Nat) t v, Try.f8.params[j]? = some t → args[j]? = some v → Value.okWide Try.prog W .any base t v := hval0
  have hW' := hW
  obtain ⟨p, q, hA0, hV, rfl, hfz, hnd⟩ := hW
  have hA : DataW.TrodAll enc Try.prog W 0 (fun _ => true) true Try.f8.params.toList args.toList ds p := hA0
  rw [Try.params8] at hA hval
  obtain ⟨v0, vs0, d0, ds0, p0, q0, hargs, rfl, rfl, h0, r0⟩ := trodAll_cons hA
  obtain ⟨v1, vs1, d1, ds1, p1, q1, rfl, rfl, rfl, h1, r1⟩ := trodAll_cons r0
  obtain ⟨v2, vs2, d2, ds2, p2, q2, rfl, rfl, rfl, h2, r2⟩ := trodAll_cons r1
  obtain ⟨v3, vs3, d3, ds3, p3, q3, rfl, rfl, rfl, h3, r3⟩ := trodAll_cons r2
  obtain ⟨v4, vs4, d4, ds4, p4, q4, rfl, rfl, rfl, h4, r4⟩ := trodAll_cons r3
  obtain ⟨rfl, rfl, rfl⟩ := trodAll_nil r4
  obtain rfl : args = #[v0, v1, v2, v3, v4] := by cases args; simp_all
  obtain ⟨rfl, rfl⟩ := trodVars_none hV
  have k0 := h0
  have lt0 : ∀ x ∈ p0, x.block < W.heap.size := by obtain ⟨m, hm⟩ := k0; exact DataW.trod_lt m _ _ _ hm
  obtain ⟨x0, y0, rfl, hok0⟩ := open_tag (hval 0 28 v0 rfl rfl) h0
  have k1 := h1
  have lt1 : ∀ x ∈ p1, x.block < W.heap.size := by obtain ⟨m, hm⟩ := k1; exact DataW.trod_lt m _ _ _ hm
  obtain ⟨x1, y1, rfl, hok1⟩ := open_tag (hval 1 28 v1 rfl rfl) h1
  have k2 := h2
  have lt2 : ∀ x ∈ p2, x.block < W.heap.size := by obtain ⟨m, hm⟩ := k2; exact DataW.trod_lt m _ _ _ hm
  obtain ⟨x2, y2, rfl, hok2⟩ := open_tag (hval 2 28 v2 rfl rfl) h2
  obtain ⟨a3, rfl, rfl, rfl, w3⟩ := open_int Try.underlying3 (hval 3 3 v3 rfl rfl) h3
  obtain ⟨a4, rfl, rfl, rfl, w4⟩ := open_int Try.underlying3 (hval 4 3 v4 rfl rfl) h4
  clear hA0 hval0
  refine (order_walk (w := W) x0 y0 hok0 x1 y1 hok1 x2 y2 hok2 a3 w3 a4 w4).mono fun e W' ⟨he, bel⟩ => ?_
  subst he
  exact ⟨_, rfl, _, _, _, [], _, [], hW', trodAll_mk1 (shut_bool Try.underlying4 _), (trodAll_cons_mk (Below.trod laidOut (by kernel_rfl) (of_decide_eq_true (by kernel_rfl)) k0 bel lt0) (trodAll_cons_mk (Below.trod laidOut (by kernel_rfl) (of_decide_eq_true (by kernel_rfl)) k1 bel lt1) (trodAll_cons_mk (Below.trod laidOut (by kernel_rfl) (of_decide_eq_true (by kernel_rfl)) k2 bel lt2) (trodAll_cons_mk (shut_int Try.underlying3 w3) (trodAll_cons_mk (shut_int Try.underlying3 w4) trodAll_mk0))))), rfl, bel.frame _, fun h => by cases h⟩

theorem order_over : Rows.tagOrderRow.holds Try.pinned (OpenSpec.ofChange Rows.tagOrderSpec) :=
  OpenClaim.holds_of_wide 8 Try.f8 rfl rfl rfl rfl rfl rfl rfl ⟨rfl, rfl, rfl, rfl, rfl⟩ rfl rfl rfl rfl rfl (by kernel_rfl) Try.func8 (by kernel_rfl)
    (of_decide_eq_true (by kernel_rfl)) (by unfold Func.isWrapper; first | (rw [if_pos (by decide +kernel)]; kernel_rfl) | (rw [if_neg (by decide +kernel)]; exact ⟨rfl, rfl⟩))
    (fun os started H enc _ => order_lifted os started H enc)

/-- The statement. -/
theorem order_holds : Rows.TagOrderSaid := order_over

#print axioms order_holds
end Go.Proofs.Ytmajagdgpmbnhaa
