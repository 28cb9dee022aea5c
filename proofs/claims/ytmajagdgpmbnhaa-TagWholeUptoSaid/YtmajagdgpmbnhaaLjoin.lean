/-
  TagJoined returns true for every input. No condition.
-/
import Derived.Test.YtmajagdgpmbnhaaOpb
import Derived.Test.YtmajagdgpmbnhaaRjo
import Derived.Test.YtmajagdgpmbnhaaRows
namespace Go.Proofs.Ytmajagdgpmbnhaa
open Go.RowKit Go.ChangeShapes Go.WideShapes Go.ChangeAt

theorem eql_same (s : Int × Int) (w : World) : (binOp .eql 28 (tagV s) (tagV s)).run Try.prog w = .ok (.bool true) w := by
  rw [run_tag_eql, decide_eq_true rfl]

set_option maxRecDepth 100000 in
set_option maxHeartbeats 1000000 in
theorem joined_walk {w : World} (x y : Int) (_h1 : NumI x ∧ NumI y) (u v : Int) (_h2 : NumI u ∧ NumI v) (n : Int) (wn : (Lit.int IntKind.i64 n).wf = true) :
    Calls Try.prog 6 #[.agg #[.int .i64 x, .int .i64 y], .agg #[.int .i64 u, .int .i64 v], .int .i64 n] w fun e w' => e = .returned (.bool true) ∧ Below w.heap.size w w' := by
  have HN : Hid (n ≤ 9223372036854775807) := (bounds_i64 wn).2
  obtain ⟨t, ht⟩ : ∃ t, joinT (x, y) (u, v) n = t := ⟨_, rfl⟩
  obtain ⟨z, hz⟩ : ∃ z, joinE (x, y) (u, v) n = z := ⟨_, rfl⟩
  obtain ⟨c, hc⟩ : ∃ c, chkT (x, y) = c := ⟨_, rfl⟩
  have hJ : ∀ w, Calls Try.prog 16 #[.agg #[.int .i64 x, .int .i64 y], .agg #[.int .i64 u, .int .i64 v], .int .i64 n] w fun e w' => e = .returned (.tuple #[tagV t, .int .i64 z]) ∧ Ext w w' := by
    intro w
    subst ht hz
    exact join_any (x, y) (u, v) n HN.out w
  have hR : ∀ w, Calls Try.prog 17 #[.agg #[.int .i64 x, .int .i64 y], .agg #[.int .i64 u, .int .i64 v], .int .i64 n] w fun e w' => e = .returned (.tuple #[tagV t, .int .i64 z]) ∧ Ext w w' := by
    intro w
    subst ht hz
    exact rjoin_any (x, y) (u, v) n HN.out w
  have hC : ∀ w, Calls Try.prog 18 #[.agg #[.int .i64 x, .int .i64 y]] w fun e w' => e = .returned (.int .i64 c) ∧ Ext w w' := by
    intro w
    subst hc
    exact tcheck_any (x, y) w
  have hD : ∀ w, Calls Try.prog 19 #[.agg #[.int .i64 x, .int .i64 y]] w fun e w' => e = .returned (.int .i64 c) ∧ Ext w w' := by
    intro w
    subst hc
    exact rcheck_any (x, y) w
  have heq := eql_same t
  have q1 : (z == z) = true := by simp
  have q2 : (c == c) = true := by simp
  obtain ⟨hA, hB⟩ : Cel ((w.alloc (.cells #[.int .i64 x, .int .i64 y] 28)).alloc (.cells #[.int .i64 u, .int .i64 v] 28)) w.heap.size x y ∧ Cel ((w.alloc (.cells #[.int .i64 x, .int .i64 y] 28)).alloc (.cells #[.int .i64 u, .int .i64 v] 28)) (w.heap.size + 1) u v := by
    refine ⟨(Cel.new w x y 28).ext (Ext.al _ _), ?_⟩
    have h := Cel.new (w.alloc (.cells #[.int .i64 x, .int .i64 y] 28)) u v 28
    have e : (w.alloc (.cells #[.int .i64 x, .int .i64 y] 28)).heap.size = w.heap.size + 1 := by simp
    rw [e] at h
    exact h
  have X0 : Ext w ((w.alloc (.cells #[.int .i64 x, .int .i64 y] 28)).alloc (.cells #[.int .i64 u, .int .i64 v] 28)) := Ext.of (Ext.al _ _) (Ext.al _ _)
  clear ht hz hc
  have hA' := hA
  have hB' := hB
  obtain ⟨-, c0, c1, -, -⟩ := hA'
  obtain ⟨-, d0, d1, -, -⟩ := hB'
  go_enter Try.func6, Try.ntmps6
  go_wp2_with fail
  refine (hJ _).mono ?_
  rintro e w1 ⟨rfl, x1⟩
  have X1 := Ext.of X0 (Ext.of x1 (Ext.al w1 (.cells #[.int .i64 t.1, .int .i64 t.2] 28)))
  have hA1 := (hA.ext x1).ext (Ext.al w1 (.cells #[.int .i64 t.1, .int .i64 t.2] 28))
  have hB1 := (hB.ext x1).ext (Ext.al w1 (.cells #[.int .i64 t.1, .int .i64 t.2] 28))
  have hT1 := Cel.new w1 t.1 t.2 28
  clear c0 c1 d0 d1 hA hB X0 x1
  have hA' := hA1
  have hB' := hB1
  obtain ⟨-, c0, c1, -, -⟩ := hA'
  obtain ⟨-, d0, d1, -, -⟩ := hB'
  go_wp2_with fail
  refine (hR _).mono ?_
  rintro e w2 ⟨rfl, x2⟩
  have X2 := Ext.of X1 (Ext.of x2 (Ext.al w2 (.cells #[.int .i64 t.1, .int .i64 t.2] 28)))
  have hA2 := (hA1.ext x2).ext (Ext.al w2 (.cells #[.int .i64 t.1, .int .i64 t.2] 28))
  have hT2 := (hT1.ext x2).ext (Ext.al w2 (.cells #[.int .i64 t.1, .int .i64 t.2] 28))
  have hU2 := Cel.new w2 t.1 t.2 28
  clear c0 c1 d0 d1 hA1 hB1 hT1 X1 x2
  go_wp2
  generalize w2.alloc (.cells #[.int .i64 t.1, .int .i64 t.2] 28) = w3 at *
  have c0 := Later.cell hA2.c0
  have c1 := Later.cell hA2.c1
  have t0 := Later.cell hT2.c0
  have t1 := Later.cell hT2.c1
  have u0 := Later.cell hU2.c0
  have u1 := Later.cell hU2.c1
  refine wp_region_later (by kernel_rfl) (by kernel_rfl) ?_
  repeat (go_big_quiet_step (first
    | (go_at_call 18; exact Calls.later (hC _))
    | (go_at_call 19; exact Calls.later (hD _))
    | (go_at_call 13; exact Calls.later (lives_any _))))
  refine wpQuiet_nil ?_
  intro w4 x4
  clear c0 c1 t0 t1 u0 u1
  go_wp2
  go_ret
  exact ⟨rfl, Ext.of X2 x4⟩

set_option maxRecDepth 100000 in
theorem joined_lifted (os : Os) (started : os.Started) (H : Type) (enc : TypeId × Value → H) :
    ReturnsInHanded {} Try.checked os 6 .any (Rows.tagJoinedSpec.pre6 enc Try.prog Try.f6 Rows.tagJoinedRow.domain false) (Rows.tagJoinedSpec.post enc Try.prog Try.f6 false true false false) := by
  refine returnsInHanded_of_change (C := Try.checked) ownK started (by kernel_rfl) Try.func6
    (ChangeSpec.witness6 (enc := enc) (C := Try.checked) false ⟨#[], #[.agg #[.int .i64 0, .int .i64 0], .agg #[.int .i64 0, .int .i64 0], .int .i64 0], []⟩ 8 (by kernel_rfl) (by kernel_rfl) (by kernel_rfl) (by kernel_rfl)) ?_
  intro W base args ds gs before hval0 hW hcnd _
  have hval : ∀ (j : Nat) t v, Try.f6.params[j]? = some t → args[j]? = some v → Value.okWide Try.prog W .any base t v := hval0
  have hW' := hW
  obtain ⟨p, q, hA0, hV, rfl, hfz, hnd⟩ := hW
  have hA : DataW.TrodAll enc Try.prog W 0 (fun _ => true) true Try.f6.params.toList args.toList ds p := hA0
  rw [Try.params6] at hA hval
  obtain ⟨v0, vs0, d0, ds0, p0, q0, hargs, rfl, rfl, h0, r0⟩ := trodAll_cons hA
  obtain ⟨v1, vs1, d1, ds1, p1, q1, rfl, rfl, rfl, h1, r1⟩ := trodAll_cons r0
  obtain ⟨v2, vs2, d2, ds2, p2, q2, rfl, rfl, rfl, h2, r2⟩ := trodAll_cons r1
  obtain ⟨rfl, rfl, rfl⟩ := trodAll_nil r2
  obtain rfl : args = #[v0, v1, v2] := by cases args; simp_all
  obtain ⟨rfl, rfl⟩ := trodVars_none hV
  have k0 := h0
  have lt0 : ∀ x ∈ p0, x.block < W.heap.size := by obtain ⟨m, hm⟩ := k0; exact DataW.trod_lt m _ _ _ hm
  obtain ⟨x0, y0, rfl, hok0⟩ := open_tag (hval 0 28 v0 rfl rfl) h0
  have k1 := h1
  have lt1 : ∀ x ∈ p1, x.block < W.heap.size := by obtain ⟨m, hm⟩ := k1; exact DataW.trod_lt m _ _ _ hm
  obtain ⟨x1, y1, rfl, hok1⟩ := open_tag (hval 1 28 v1 rfl rfl) h1
  obtain ⟨a2, rfl, rfl, rfl, w2⟩ := open_int Try.underlying3 (hval 2 3 v2 rfl rfl) h2
  clear hA0 hval0
  refine (joined_walk (w := W) x0 y0 hok0 x1 y1 hok1 a2 w2).mono fun e W' ⟨he, bel⟩ => ?_
  subst he
  exact ⟨_, rfl, _, _, _, [], _, [], hW', trodAll_mk1 (shut_bool Try.underlying4 _), (trodAll_cons_mk (Below.trod laidOut (by kernel_rfl) (of_decide_eq_true (by kernel_rfl)) k0 bel lt0) (trodAll_cons_mk (Below.trod laidOut (by kernel_rfl) (of_decide_eq_true (by kernel_rfl)) k1 bel lt1) (trodAll_cons_mk (shut_int Try.underlying3 w2) trodAll_mk0))), rfl, bel.frame _, fun h => by cases h⟩

theorem joined_over : Rows.tagJoinedRow.holds Try.pinned (OpenSpec.ofChange Rows.tagJoinedSpec) :=
  OpenClaim.holds_of_wide 6 Try.f6 rfl rfl rfl rfl rfl rfl rfl ⟨rfl, rfl, rfl, rfl, rfl⟩ rfl rfl rfl rfl rfl (by kernel_rfl) Try.func6 (by kernel_rfl)
    (of_decide_eq_true (by kernel_rfl)) (by unfold Func.isWrapper; first | (rw [if_pos (by decide +kernel)]; kernel_rfl) | (rw [if_neg (by decide +kernel)]; exact ⟨rfl, rfl⟩))
    (fun os started H enc _ => joined_lifted os started H enc)

/-- The statement. -/
theorem joined_holds : Rows.TagJoinedSaid := joined_over

#print axioms joined_holds
end Go.Proofs.Ytmajagdgpmbnhaa
