/-
  TagBodies returns true for every input. No condition.
-/
import Derived.Test.YtmajagdgpmbnhaaOpb
import Derived.Test.YtmajagdgpmbnhaaRows
namespace Go.Proofs.Ytmajagdgpmbnhaa
open Go.RowKit Go.ChangeShapes Go.WideShapes Go.ChangeAt


theorem of_later {A : Option Addr} {n c : Nat} {S : ByteArray} {w : World} (h : By w A n S) : Calls Try.prog 14 #[.slice A n c] w fun e w' => e = .returned (tagV (tagOf S)) ∧ Ext w w' := of_any h
theorem rof_later {S : ByteArray} (h : S.size ≤ 9223372036854775807) (w : World) : Calls Try.prog 15 #[.string S] w fun e w' => e = .returned (tagV (tagOf S)) ∧ Ext w w' := rof_any S w h
theorem eql_is {s t : Int × Int} {b : Bool} (h : decide (s = t) = b) (w : World) : (binOp .eql 28 (tagV s) (tagV t)).run Try.prog w = .ok (.bool b) w := by
  rw [run_tag_eql, h]

set_option maxRecDepth 100000 in
set_option maxHeartbeats 1000000 in
theorem bodies_walk {w : World} (A : Option Addr) (n c : Nat) (S : ByteArray) (_hc : n ≤ c) (h : By w A n S) :
    Calls Try.prog 4 #[.slice A n c] w fun e w' => e = .returned (.bool true) ∧ Below w.heap.size w w' := by
  have HS : Hid (S.size ≤ 9223372036854775807) := by show _ ≤ _; rw [h.len]; exact h.big
  have hcv := h.later c
  have heq := eql_is (s := tagOf S) (t := tagOf S) (b := true) (decide_eq_true rfl)
  go_enter Try.func4, Try.ntmps4
  go_wp2
  refine wp_region_later (by kernel_rfl) (by kernel_rfl) ?_
  repeat (go_big_quiet_step (first
    | (go_at_call 14; exact Calls.later (of_later (h.ext (Later.is _))))
    | (go_at_call 15; exact Calls.later (rof_later HS.out _))
    | (go_at_call 13; exact Calls.later (lives_any _))))
  refine wpQuiet_nil ?_
  intro w3 hx3
  go_wp2
  go_ret
  exact ⟨rfl, hx3⟩

set_option maxRecDepth 100000 in
theorem bodies_lifted (os : Os) (started : os.Started) (H : Type) (enc : TypeId × Value → H) :
    ReturnsInHanded {} Try.checked os 4 .any (Rows.tagBodiesSpec.pre6 enc Try.prog Try.f4 Rows.tagBodiesRow.domain false) (Rows.tagBodiesSpec.post enc Try.prog Try.f4 false true false false) := by
  refine returnsInHanded_of_change (C := Try.checked) ownK started (by kernel_rfl) Try.func4
    (ChangeSpec.witness6 (enc := enc) (C := Try.checked) false ⟨#[], #[.slice none 0 0], []⟩ 8 (by kernel_rfl) (by kernel_rfl) (by kernel_rfl) (by kernel_rfl)) ?_
  intro W base args ds gs before hval0 hW hcnd _
  have hval : ∀ (j : Nat) t v, Try.f4.params[j]? = some t → args[j]? = some v → Value.okWide Try.prog W .any base t v := hval0
  have hW' := hW
  obtain ⟨p, q, hA0, hV, rfl, hfz, hnd⟩ := hW
  have hA : DataW.TrodAll enc Try.prog W 0 (fun _ => true) true Try.f4.params.toList args.toList ds p := hA0
  rw [Try.params4] at hA hval
  obtain ⟨v0, vs0, d0, ds0, p0, q0, hargs, rfl, rfl, h0, r0⟩ := trodAll_cons hA
  obtain ⟨rfl, rfl, rfl⟩ := trodAll_nil r0
  obtain rfl : args = #[v0] := by cases args; simp_all
  obtain ⟨rfl, rfl⟩ := trodVars_none hV
  have k0 := h0
  have lt0 : ∀ x ∈ p0, x.block < W.heap.size := by obtain ⟨m, hm⟩ := k0; exact DataW.trod_lt m _ _ _ hm
  obtain ⟨A0, n0, c0, L0, rfl, hn0, hS0⟩ := open_bytes (hval 0 22 v0 rfl rfl) h0
  clear hA0 hval0
  refine (bodies_walk (w := W) A0 n0 c0 L0 hn0 hS0).mono fun e W' ⟨he, bel⟩ => ?_
  subst he
  exact ⟨_, rfl, _, _, _, [], _, [], hW', trodAll_mk1 (shut_bool Try.underlying4 _), (trodAll_cons_mk (Below.trod laidOut (by kernel_rfl) (of_decide_eq_true (by kernel_rfl)) k0 bel lt0) trodAll_mk0), rfl, bel.frame _, fun h => by cases h⟩

theorem bodies_over : Rows.tagBodiesRow.holds Try.pinned (OpenSpec.ofChange Rows.tagBodiesSpec) :=
  OpenClaim.holds_of_wide 4 Try.f4 rfl rfl rfl rfl rfl rfl rfl ⟨rfl, rfl, rfl, rfl, rfl⟩ rfl rfl rfl rfl rfl (by kernel_rfl) Try.func4 (by kernel_rfl)
    (of_decide_eq_true (by kernel_rfl)) (by unfold Func.isWrapper; first | (rw [if_pos (by decide +kernel)]; kernel_rfl) | (rw [if_neg (by decide +kernel)]; exact ⟨rfl, rfl⟩))
    (fun os started H enc _ => bodies_lifted os started H enc)

/-- The statement. -/
theorem bodies_holds : Rows.TagBodiesSaid := bodies_over

#print axioms bodies_holds
end Go.Proofs.Ytmajagdgpmbnhaa
