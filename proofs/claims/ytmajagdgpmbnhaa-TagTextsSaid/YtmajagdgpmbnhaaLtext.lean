/-
  TagTexts returns true for every input. No condition.
-/
import Derived.Test.YtmajagdgpmbnhaaOps
import Derived.Test.YtmajagdgpmbnhaaPc
import Derived.Test.YtmajagdgpmbnhaaRows
namespace Go.Proofs.Ytmajagdgpmbnhaa
open Go.RowKit Go.ChangeShapes Go.WideShapes Go.ChangeAt

theorem eql_same (s : Int × Int) (w : World) : (binOp .eql 28 (tagV s) (tagV s)).run Try.prog w = .ok (.bool true) w := by
  rw [run_tag_eql, decide_eq_true rfl]

set_option maxRecDepth 100000 in
set_option maxHeartbeats 1000000 in
theorem texts_walk {w : World} (x y : Int) (_h1 : NumI x ∧ NumI y) (S : ByteArray) (hS : S.size ≤ 9223372036854775807) :
    Calls Try.prog 9 #[.agg #[.int .i64 x, .int .i64 y], .string S] w fun e w' => e = .returned (.bool true) ∧ Below w.heap.size w w' := by
  obtain ⟨s, hs⟩ : ∃ s, txtS (x, y) = s := ⟨_, rfl⟩
  obtain ⟨z, hz⟩ : ∃ z, chkT (x, y) = z := ⟨_, rfl⟩
  obtain ⟨t, ht⟩ : ∃ t, parT S = t := ⟨_, rfl⟩
  obtain ⟨q, hq⟩ : ∃ q, parE S = q := ⟨_, rfl⟩
  have hT : ∀ w, Calls Try.prog 20 #[.agg #[.int .i64 x, .int .i64 y]] w fun e w' => e = .returned (.tuple #[.string s, .int .i64 z]) ∧ Ext w w' := by
    intro w
    subst hs hz
    exact text_any (x, y) w
  have hR : ∀ w, Calls Try.prog 21 #[.agg #[.int .i64 x, .int .i64 y]] w fun e w' => e = .returned (.tuple #[.string s, .int .i64 z]) ∧ Ext w w' := by
    intro w
    subst hs hz
    exact rtext_any (x, y) w
  have hP : ∀ w, Calls Try.prog 22 #[.string S] w fun e w' => e = .returned (.tuple #[tagV t, .int .i64 q]) ∧ Ext w w' := by
    intro w
    subst ht hq
    exact parse_any S hS w
  have hQ : ∀ w, Calls Try.prog 23 #[.string S] w fun e w' => e = .returned (.tuple #[tagV t, .int .i64 q]) ∧ Ext w w' := by
    intro w
    subst ht hq
    exact rparse_any S hS w
  have heq := eql_same t
  have q1 : (z == z) = true := by simp
  have q2 : (q == q) = true := by simp
  have q3 : (s.toList == s.toList) = true := by simp
  clear hs hz ht hq
  have hA := Cel.new w x y 28
  have X0 := Ext.al w (.cells #[.int .i64 x, .int .i64 y] 28)
  obtain ⟨-, c0, c1, -, -⟩ := id hA
  go_enter Try.func9, Try.ntmps9
  go_wp2_with fail
  refine (hT _).mono ?_
  rintro e w1 ⟨rfl, x1⟩
  have X1 := Ext.of X0 x1
  have hA1 := hA.ext x1
  clear c0 c1 hA X0 x1
  obtain ⟨-, c0, c1, -, -⟩ := id hA1
  go_wp2_with fail
  refine (hR _).mono ?_
  rintro e w2 ⟨rfl, x2⟩
  have X2 := Ext.of X1 x2
  clear c0 c1 hA1 X1 x2
  go_wp2_with fail
  refine (hP _).mono ?_
  rintro e w3 ⟨rfl, x3⟩
  have X3 := Ext.of X2 (Ext.of x3 (Ext.al w3 (.cells #[.int .i64 t.1, .int .i64 t.2] 28)))
  have hT3 := Cel.new w3 t.1 t.2 28
  clear X2 x3
  go_wp2_with fail
  refine (hQ _).mono ?_
  rintro e w4 ⟨rfl, x4⟩
  have X4 := Ext.of X3 (Ext.of x4 (Ext.al w4 (.cells #[.int .i64 t.1, .int .i64 t.2] 28)))
  have hT4 := (hT3.ext x4).ext (Ext.al w4 (.cells #[.int .i64 t.1, .int .i64 t.2] 28))
  have hU4 := Cel.new w4 t.1 t.2 28
  clear X3 x4 hT3
  obtain ⟨-, t0, t1, -, -⟩ := hT4
  obtain ⟨-, u0, u1, -, -⟩ := hU4
  go_wp2_with fail
  refine (lives_any _).mono ?_
  rintro e w5 ⟨rfl, x5⟩
  clear t0 t1 u0 u1
  go_wp2
  go_ret
  exact ⟨rfl, Ext.of X4 x5⟩

set_option maxRecDepth 100000 in
theorem texts_lifted (os : Os) (started : os.Started) (H : Type) (enc : TypeId × Value → H) :
    ReturnsInHanded {} Try.checked os 9 .any (Rows.tagTextsSpec.pre6 enc Try.prog Try.f9 Rows.tagTextsRow.domain false) (Rows.tagTextsSpec.post enc Try.prog Try.f9 false true false false) := by
  refine returnsInHanded_of_change (C := Try.checked) ownK started (by kernel_rfl) Try.func9
    (ChangeSpec.witness6 (enc := enc) (C := Try.checked) false ⟨#[], #[.agg #[.int .i64 0, .int .i64 0], .string ⟨#[]⟩], []⟩ 8 (by kernel_rfl) (by kernel_rfl) (by kernel_rfl) (by kernel_rfl)) ?_
  intro W base args ds gs before hval0 hW hcnd _
  have hval : ∀ (j : Nat) t v, Try.f9.params[j]? = some t → args[j]? = some v → Value.okWide Try.prog W .any base t v := hval0
  have hW' := hW
  obtain ⟨p, q, hA0, hV, rfl, hfz, hnd⟩ := hW
  have hA : DataW.TrodAll enc Try.prog W 0 (fun _ => true) true Try.f9.params.toList args.toList ds p := hA0
  rw [Try.params9] at hA hval
  obtain ⟨v0, vs0, d0, ds0, p0, q0, hargs, rfl, rfl, h0, r0⟩ := trodAll_cons hA
  obtain ⟨v1, vs1, d1, ds1, p1, q1, rfl, rfl, rfl, h1, r1⟩ := trodAll_cons r0
  obtain ⟨rfl, rfl, rfl⟩ := trodAll_nil r1
  obtain rfl : args = #[v0, v1] := by cases args; simp_all
  obtain ⟨rfl, rfl⟩ := trodVars_none hV
  have k0 := h0
  have lt0 : ∀ x ∈ p0, x.block < W.heap.size := by obtain ⟨m, hm⟩ := k0; exact DataW.trod_lt m _ _ _ hm
  obtain ⟨x0, y0, rfl, hok0⟩ := open_tag (hval 0 28 v0 rfl rfl) h0
  have k1 := h1
  have lt1 : ∀ x ∈ p1, x.block < W.heap.size := by obtain ⟨m, hm⟩ := k1; exact DataW.trod_lt m _ _ _ hm
  obtain ⟨s1, rfl, hs1⟩ := open_text (hval 1 9 v1 rfl rfl) h1
  clear hA0 hval0
  refine (texts_walk (w := W) x0 y0 hok0 s1 hs1).mono fun e W' ⟨he, bel⟩ => ?_
  subst he
  exact ⟨_, rfl, _, _, _, [], _, [], hW', trodAll_mk1 (shut_bool Try.underlying4 _), (trodAll_cons_mk (Below.trod laidOut (by kernel_rfl) (of_decide_eq_true (by kernel_rfl)) k0 bel lt0) (trodAll_cons_mk (Below.trod laidOut (by kernel_rfl) (of_decide_eq_true (by kernel_rfl)) k1 bel lt1) trodAll_mk0)), rfl, bel.frame _, fun h => by cases h⟩

theorem texts_over : Rows.tagTextsRow.holds Try.pinned (OpenSpec.ofChange Rows.tagTextsSpec) :=
  OpenClaim.holds_of_wide 9 Try.f9 rfl rfl rfl rfl rfl rfl rfl ⟨rfl, rfl, rfl, rfl, rfl⟩ rfl rfl rfl rfl rfl (by kernel_rfl) Try.func9 (by kernel_rfl)
    (of_decide_eq_true (by kernel_rfl)) (by unfold Func.isWrapper; first | (rw [if_pos (by decide +kernel)]; kernel_rfl) | (rw [if_neg (by decide +kernel)]; exact ⟨rfl, rfl⟩))
    (fun os started H enc _ => texts_lifted os started H enc)

/-- The statement. -/
theorem texts_holds : Rows.TagTextsSaid := texts_over

#print axioms texts_holds
end Go.Proofs.Ytmajagdgpmbnhaa
