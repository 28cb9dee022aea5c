/-
  TagBack returns true for every input. No condition.
-/
import Derived.Test.YtmajagdgpmbnhaaOps
import Derived.Test.YtmajagdgpmbnhaaBk
import Derived.Test.YtmajagdgpmbnhaaRows
namespace Go.Proofs.Ytmajagdgpmbnhaa
open Go.RowKit Go.ChangeShapes Go.WideShapes Go.ChangeAt

theorem neq_same (s : Int × Int) (w : World) : (binOp .neq 28 (tagV s) (tagV s)).run Try.prog w = .ok (.bool false) w := by
  rw [run_tag_neq, decide_eq_true rfl]
  rfl
theorem parse_is {S : ByteArray} {t : Int × Int} {z : Int} (hS : S.size ≤ 9223372036854775807) (h1 : parT S = t) (h2 : parE S = z) (w : World) : Calls Try.prog 22 #[.string S] w fun e w' => e = .returned (.tuple #[tagV t, .int .i64 z]) ∧ Ext w w' := by
  subst h1 h2
  exact parse_any S hS w
theorem parT_yes {S : ByteArray} (h : pOk S = true) : parT S = (pa S, pb S) ∧ parE S = 0 := by
  unfold parT parE
  rw [if_pos h, if_pos h]
  exact ⟨rfl, rfl⟩
theorem parT_no {S : ByteArray} (h : pOk S = false) : parT S = (0, 0) ∧ parE S = 4 := by
  unfold parT parE
  rw [h]
  exact ⟨rfl, rfl⟩

set_option maxRecDepth 100000 in
set_option maxHeartbeats 4000000 in
theorem back_walk {w : World} (x y : Int) (_h1 : NumI x ∧ NumI y) (S : ByteArray) (hS : S.size ≤ 9223372036854775807) :
    Calls Try.prog 10 #[.agg #[.int .i64 x, .int .i64 y], .string S] w fun e w' => e = .returned (.bool true) ∧ Below w.heap.size w w' := by
  have hA := Cel.new w x y 28
  have X0 := Ext.al w (.cells #[.int .i64 x, .int .i64 y] 28)
  obtain ⟨-, c0, c1, -, -⟩ := id hA
  cases h : right (x, y) with
  | true =>
    obtain ⟨b1, b2, b3, b4⟩ := right_of h
    obtain ⟨a, rfl⟩ : ∃ a : Nat, x = a := ⟨x.toNat, by have : 0 ≤ x := b1; omega⟩
    obtain ⟨b, rfl⟩ : ∃ b : Nat, y = b := ⟨y.toNat, by have : 0 ≤ y := b3; omega⟩
    have ha9 : a < 1048573 := by have : (a : Int) ≤ 1048572 := b2; omega
    have hb9 : b < 1048573 := by have : (b : Int) ≤ 1048572 := b4; omega
    obtain ⟨k1, k2, k3⟩ := parse_text ha9 hb9
    obtain ⟨j1, j2⟩ := parT_yes k1
    rw [k2, k3] at j1
    have hs : txtS ((a : Int), (b : Int)) = txtB a b := by
      unfold txtS
      rw [if_pos h]
      rfl
    have hz := txtB_size a b
    have T1 := fun w => text_is (t := ((a : Int), (b : Int))) hs (chkT_yes h) w
    have P1 := fun w => parse_is (S := txtB a b) (by rw [hz]; omega) j1 j2 w
    have ne := neq_same ((a : Int), (b : Int))
    have hz1 : (((txtB a b).size : Int) != 10) = false := by rw [hz]; rfl
    have hz2 : (txtB a b).size ≤ 10 := by omega
    clear h b1 b2 b3 b4 ha9 hb9 k1 k2 k3 j1 j2 hs hz
    cases hp : pOk S with
    | true =>
      obtain ⟨j1, j2⟩ := parT_yes hp
      obtain ⟨k1, k2⟩ := text_parse hp
      have Q1 := fun w => parse_is hS j1 j2 w
      have T2 := fun w => text_is (t := (pa S, pb S)) k2 (chkT_yes k1) w
      generalize pa S = f at *
      generalize pb S = g at *
      have q3 : (S.toList == S.toList) = true := by simp
      clear hp j1 j2 k1 k2
      go_enter Try.func10, Try.ntmps10
      go_wp2_with fail
      refine (T1 _).mono ?_
      rintro e w1 ⟨rfl, x1⟩
      have X1 := Ext.of X0 x1
      have hA1 := hA.ext x1
      clear c0 c1 hA X0 x1 T1
      generalize txtB a b = B at *
      go_wp2_with fail
      refine (P1 _).mono ?_
      rintro e w2 ⟨rfl, x2⟩
      have X2 := Ext.of X1 (Ext.of x2 (Ext.al w2 (.cells #[.int .i64 a, .int .i64 b] 28)))
      have hA2 := (hA1.ext x2).ext (Ext.al w2 (.cells #[.int .i64 a, .int .i64 b] 28))
      have hU2 := Cel.new w2 a b 28
      clear hA1 X1 x2 P1
      obtain ⟨-, c0, c1, -, -⟩ := hA2
      obtain ⟨-, d0, d1, -, -⟩ := hU2
      go_wp2_with fail
      refine (Q1 _).mono ?_
      rintro e w3 ⟨rfl, x3⟩
      have X3 := Ext.of X2 x3
      clear c0 c1 d0 d1 X2 x3 Q1 ne hz1 hz2
      have X4 := Ext.of X3 (Ext.al w3 (.cells #[.int .i64 f, .int .i64 g] 28))
      obtain ⟨-, d0, d1, -, -⟩ := Cel.new w3 f g 28
      go_wp2_with fail
      refine (T2 _).mono ?_
      rintro e w4 ⟨rfl, x4⟩
      have X5 := Ext.of X4 x4
      clear d0 d1 X3 X4 x4 T2
      go_wp2_with fail
      refine (lives_any _).mono ?_
      rintro e w5 ⟨rfl, x5⟩
      go_wp2
      go_ret
      exact ⟨rfl, Ext.of X5 x5⟩
    | false =>
      obtain ⟨j1, j2⟩ := parT_no hp
      have Q1 := fun w => parse_is hS j1 j2 w
      clear hp j1 j2
      go_enter Try.func10, Try.ntmps10
      go_wp2_with fail
      refine (T1 _).mono ?_
      rintro e w1 ⟨rfl, x1⟩
      have X1 := Ext.of X0 x1
      have hA1 := hA.ext x1
      clear c0 c1 hA X0 x1 T1
      generalize txtB a b = B at *
      go_wp2_with fail
      refine (P1 _).mono ?_
      rintro e w2 ⟨rfl, x2⟩
      have X2 := Ext.of X1 (Ext.of x2 (Ext.al w2 (.cells #[.int .i64 a, .int .i64 b] 28)))
      have hA2 := (hA1.ext x2).ext (Ext.al w2 (.cells #[.int .i64 a, .int .i64 b] 28))
      have hU2 := Cel.new w2 a b 28
      clear hA1 X1 x2 P1
      obtain ⟨-, c0, c1, -, -⟩ := hA2
      obtain ⟨-, d0, d1, -, -⟩ := hU2
      go_wp2_with fail
      refine (Q1 _).mono ?_
      rintro e w3 ⟨rfl, x3⟩
      have X3 := Ext.of X2 x3
      clear c0 c1 d0 d1 X2 x3 Q1 ne hz1 hz2
      have X4 := Ext.of X3 (Ext.al w3 (.cells #[.int .i64 0, .int .i64 0] 28))
      obtain ⟨-, d0, d1, -, -⟩ := Cel.new w3 0 0 28
      go_wp2_with fail
      refine (lives_any _).mono ?_
      rintro e w5 ⟨rfl, x5⟩
      clear d0 d1
      go_wp2
      go_ret
      exact ⟨rfl, Ext.of X4 x5⟩
  | false =>
    have hs : txtS (x, y) = ⟨#[]⟩ := by simp [txtS, h]
    have T1 := fun w => text_is (t := (x, y)) hs (chkT_no h) w
    have K1 := fun w => tcheck_is (t := (x, y)) (chkT_no h) w
    clear h hs
    cases hp : pOk S with
    | true =>
      obtain ⟨j1, j2⟩ := parT_yes hp
      obtain ⟨k1, k2⟩ := text_parse hp
      have Q1 := fun w => parse_is hS j1 j2 w
      have T2 := fun w => text_is (t := (pa S, pb S)) k2 (chkT_yes k1) w
      generalize pa S = f at *
      generalize pb S = g at *
      have q3 : (S.toList == S.toList) = true := by simp
      clear hp j1 j2 k1 k2
      go_enter Try.func10, Try.ntmps10
      go_wp2_with fail
      refine (T1 _).mono ?_
      rintro e w1 ⟨rfl, x1⟩
      have X1 := Ext.of X0 x1
      have hA1 := hA.ext x1
      clear c0 c1 hA X0 x1 T1
      obtain ⟨-, c0, c1, -, -⟩ := hA1
      go_wp2_with fail
      refine (K1 _).mono ?_
      rintro e w2 ⟨rfl, x2⟩
      have X2 := Ext.of X1 x2
      clear c0 c1 X1 x2 K1
      go_wp2_with fail
      refine (Q1 _).mono ?_
      rintro e w3 ⟨rfl, x3⟩
      have X3 := Ext.of X2 x3
      clear X2 x3 Q1
      have X4 := Ext.of X3 (Ext.al w3 (.cells #[.int .i64 f, .int .i64 g] 28))
      obtain ⟨-, d0, d1, -, -⟩ := Cel.new w3 f g 28
      go_wp2_with fail
      refine (T2 _).mono ?_
      rintro e w4 ⟨rfl, x4⟩
      have X5 := Ext.of X4 x4
      clear d0 d1 X3 X4 x4 T2
      go_wp2_with fail
      refine (lives_any _).mono ?_
      rintro e w5 ⟨rfl, x5⟩
      go_wp2
      go_ret
      exact ⟨rfl, Ext.of X5 x5⟩
    | false =>
      obtain ⟨j1, j2⟩ := parT_no hp
      have Q1 := fun w => parse_is hS j1 j2 w
      clear hp j1 j2
      go_enter Try.func10, Try.ntmps10
      go_wp2_with fail
      refine (T1 _).mono ?_
      rintro e w1 ⟨rfl, x1⟩
      have X1 := Ext.of X0 x1
      have hA1 := hA.ext x1
      clear c0 c1 hA X0 x1 T1
      obtain ⟨-, c0, c1, -, -⟩ := hA1
      go_wp2_with fail
      refine (K1 _).mono ?_
      rintro e w2 ⟨rfl, x2⟩
      have X2 := Ext.of X1 x2
      clear c0 c1 X1 x2 K1
      go_wp2_with fail
      refine (Q1 _).mono ?_
      rintro e w3 ⟨rfl, x3⟩
      have X3 := Ext.of X2 x3
      clear X2 x3 Q1
      have X4 := Ext.of X3 (Ext.al w3 (.cells #[.int .i64 0, .int .i64 0] 28))
      obtain ⟨-, d0, d1, -, -⟩ := Cel.new w3 0 0 28
      go_wp2_with fail
      refine (lives_any _).mono ?_
      rintro e w5 ⟨rfl, x5⟩
      clear d0 d1
      go_wp2
      go_ret
      exact ⟨rfl, Ext.of X4 x5⟩

set_option maxRecDepth 100000 in
theorem back_lifted (os : Os) (started : os.Started) (H : Type) (enc : TypeId × Value → H) :
    ReturnsInHanded {} Try.checked os 10 .any (Rows.tagBackSpec.pre6 enc Try.prog Try.f10 Rows.tagBackRow.domain false) (Rows.tagBackSpec.post enc Try.prog Try.f10 false true false false) := by
  refine returnsInHanded_of_change (C := Try.checked) ownK started (by kernel_rfl) Try.func10
    (ChangeSpec.witness6 (enc := enc) (C := Try.checked) false ⟨#[], #[.agg #[.int .i64 0, .int .i64 0], .string ⟨#[]⟩], []⟩ 8 (by kernel_rfl) (by kernel_rfl) (by kernel_rfl) (by kernel_rfl)) ?_
  intro W base args ds gs before hval0 hW hcnd _
  have hval : ∀ (j : Nat) t v, Try.f10.params[j]? = some t → args[j]? = some v → Value.okWide Try.prog W .any base t v := hval0
  have hW' := hW
  obtain ⟨p, q, hA0, hV, rfl, hfz, hnd⟩ := hW
  have hA : DataW.TrodAll enc Try.prog W 0 (fun _ => true) true Try.f10.params.toList args.toList ds p := hA0
  rw [Try.params10] at hA hval
  obtain ⟨v0, vs0, d0, ds0, p0, q0, hargs, rfl, rfl, h0, r0⟩ := trodAll_cons hA
  obtain ⟨v1, vs1, d1, ds1, p1, q1, rfl, rfl, rfl, h1, r1⟩ := trodAll_cons r0
  obtain ⟨rfl, rfl, rfl⟩ := trodAll_nil r1
  obtain rfl : args = #[v0, v1] := by cases args; simp_all
  obtain ⟨rfl, rfl⟩ := trodVars_none hV
  have k0 := h0
  have lt0 : ∀ x ∈ p0, x.block < W.heap.size := by obtain ⟨m, hm⟩ := k0; exact DataW.trod_lt m _ _ _ hm
  obtain ⟨x0, y0, rfl, hok0⟩ := open_tag (hval 0 28 v0 rfl rfl) h0
  have k1 := h1
  have lt1 : ∀ x ∈ p1, x.block < W.heap.size := by obtain ⟨m, hm⟩ := k1; exact DataW.trod_lt m _ _ _ hm
  obtain ⟨s1, rfl, hs1⟩ := open_text (hval 1 9 v1 rfl rfl) h1
  clear hA0 hval0
  refine (back_walk (w := W) x0 y0 hok0 s1 hs1).mono fun e W' ⟨he, bel⟩ => ?_
  subst he
  exact ⟨_, rfl, _, _, _, [], _, [], hW', trodAll_mk1 (shut_bool Try.underlying4 _), (trodAll_cons_mk (Below.trod laidOut (by kernel_rfl) (of_decide_eq_true (by kernel_rfl)) k0 bel lt0) (trodAll_cons_mk (Below.trod laidOut (by kernel_rfl) (of_decide_eq_true (by kernel_rfl)) k1 bel lt1) trodAll_mk0)), rfl, bel.frame _, fun h => by cases h⟩

theorem back_over : Rows.tagBackRow.holds Try.pinned (OpenSpec.ofChange Rows.tagBackSpec) :=
  OpenClaim.holds_of_wide 10 Try.f10 rfl rfl rfl rfl rfl rfl rfl ⟨rfl, rfl, rfl, rfl, rfl⟩ rfl rfl rfl rfl rfl (by kernel_rfl) Try.func10 (by kernel_rfl)
    (of_decide_eq_true (by kernel_rfl)) (by unfold Func.isWrapper; first | (rw [if_pos (by decide +kernel)]; kernel_rfl) | (rw [if_neg (by decide +kernel)]; exact ⟨rfl, rfl⟩))
    (fun os started H enc _ => back_lifted os started H enc)

/-- The statement. -/
theorem back_holds : Rows.TagBackSaid := back_over

#print axioms back_holds
end Go.Proofs.Ytmajagdgpmbnhaa
