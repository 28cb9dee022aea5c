/-
  ChainAsks returns true for every input: any versions are a chain or not, and have at any time, and since, what the reference says. No condition.
-/
import Derived.Test.YtpfcddgknahgfaaLives
import Derived.Test.YtpfcddgknahgfaaOpen
namespace Go.Proofs.Ytpfcddgknahgfaa
open Go.RowKit Go.ChangeShapes Go.WideShapes Go.ChangeAt

theorem asks_walk (A : Option Addr) (n c : Nat) (L : List Ver) (t : Int) (w : World) (hn : n ≤ 9223372036854775807) (hS : n ≤ 1000 → Sl w A n c L) :
    Calls Try.prog 3 #[.slice A n c, .int .i64 t] w fun e w' => e = .returned (.bool true) ∧ Below w.heap.size w w' := by
  by_cases hbig : n ≤ 1000
  · have h := hS hbig
    have e1 : ((chk L) == (chk L)) = true := by simp
    have e3 : (sinceB L t == sinceB L t) = true := by simp
    clear hS
    go_enter Try.func3, Try.ntmps3
    go_wp2_with fail
    refine (at_any t h).mono ?_
    rintro e w1 ⟨rfl, x1⟩
    have h1 := h.ext x1
    go_wp2_with fail
    refine (refAt_any t h1).mono ?_
    rintro e w2 ⟨rfl, x2⟩
    have h2 := h1.ext x2
    go_wp2_with fail
    refine (check_any A n c L _ h2).mono ?_
    rintro e w3 ⟨rfl, x3⟩
    have h3 := h2.ext x3
    go_wp2_with fail
    refine (refCheck_any A n c L _ h3).mono ?_
    rintro e w4 ⟨rfl, x4⟩
    have h4 := h3.ext x4
    go_wp2_with fail
    refine (since_any t h4).mono ?_
    rintro e w5 ⟨rfl, x5⟩
    have h5 := h4.ext x5
    go_wp2_with fail
    refine (refSince_any t h5).mono ?_
    rintro e w6 ⟨rfl, x6⟩
    go_wp2_with fail
    refine (lives_any _).mono ?_
    rintro e w7 ⟨rfl, x7⟩
    have X : Ext w w7 := Ext.of (Ext.of (Ext.of (Ext.of (Ext.of (Ext.of x1 x2) x3) x4) x5) x6) x7
    go_wp2
    go_ret
    exact ⟨rfl, X⟩
  · clear hS
    go_enter Try.func3, Try.ntmps3
    go_wp2_with fail
    refine (lives_any _).mono ?_
    rintro e w7 ⟨rfl, x7⟩
    go_wp2
    go_ret
    exact ⟨rfl, x7⟩

set_option maxRecDepth 100000 in
theorem asks_lifted (os : Os) (started : os.Started) (H : Type) (enc : TypeId × Value → H) :
    ReturnsInHanded {} Try.checked os 3 .any (Rows.chainAsksSpec.pre6 enc Try.prog Try.f3 Rows.chainAsksRow.domain false) (Rows.chainAsksSpec.post enc Try.prog Try.f3 false true false false) := by
  refine returnsInHanded_of_change (C := Try.checked) ownK started (by kernel_rfl) Try.func3
    (ChangeSpec.witness6 (enc := enc) (C := Try.checked) false ⟨#[], #[.slice none 0 0, .int .i64 0], []⟩ 8 (by kernel_rfl) (by kernel_rfl) (by kernel_rfl) (by kernel_rfl)) ?_
  intro W base args ds gs before hval0 hW hcnd _
  have hval : ∀ (j : Nat) t v, Try.f3.params[j]? = some t → args[j]? = some v → Value.okWide Try.prog W .any base t v := hval0
  have hW' := hW
  obtain ⟨p, q, hA0, hV, rfl, hfz, hnd⟩ := hW
  have hA : DataW.TrodAll enc Try.prog W 0 (fun _ => true) true Try.f3.params.toList args.toList ds p := hA0
  rw [Try.params3] at hA hval
  obtain ⟨v0, vs0, d0, ds0, p0, q0, hargs, rfl, rfl, h0, r0⟩ := trodAll_cons hA
  obtain ⟨v1, vs1, d1, ds1, p1, q1, rfl, rfl, rfl, h1, r1⟩ := trodAll_cons r0
  obtain ⟨rfl, rfl, rfl⟩ := trodAll_nil r1
  obtain rfl : args = #[v0, v1] := by cases args; simp_all
  obtain ⟨rfl, rfl⟩ := trodVars_none hV
  have k0 := h0
  have lt0 : ∀ x ∈ p0, x.block < W.heap.size := by obtain ⟨m, hm⟩ := k0; exact DataW.trod_lt m _ _ _ hm
  obtain ⟨A, n, c, L, rfl, hn, hS⟩ := open_vers (hval 0 22 v0 rfl rfl) h0
  obtain ⟨a1, rfl, rfl, rfl, w1⟩ := open_int Try.underlying3 (hval 1 3 v1 rfl rfl) h1
  clear hA0 hval0
  refine (asks_walk A n c L a1 W hn hS).mono fun e W' ⟨he, bel⟩ => ?_
  subst he
  exact ⟨_, rfl, _, _, _, [], _, [], hW', trodAll_mk1 (shut_bool Try.underlying4 _), (trodAll_cons_mk (Below.trod laidOut (by kernel_rfl) (of_decide_eq_true (by kernel_rfl)) k0 bel lt0) (trodAll_cons_mk (shut_int Try.underlying3 w1) trodAll_mk0)), rfl, bel.frame _, fun h => by cases h⟩

theorem asks_over : Rows.chainAsksRow.holds Try.pinned (OpenSpec.ofChange Rows.chainAsksSpec) :=
  OpenClaim.holds_of_wide 3 Try.f3 rfl rfl rfl rfl rfl rfl rfl ⟨rfl, rfl, rfl, rfl, rfl⟩ rfl rfl rfl rfl rfl (by kernel_rfl) Try.func3 (by kernel_rfl)
    (of_decide_eq_true (by kernel_rfl)) (by unfold Func.isWrapper; first | (rw [if_pos (by decide +kernel)]; kernel_rfl) | (rw [if_neg (by decide +kernel)]; exact ⟨rfl, rfl⟩))
    (fun os started H enc _ => asks_lifted os started H enc)

/-- The statement. -/
theorem asks_holds : Rows.ChainAsksSaid := asks_over

#print axioms asks_holds
end Go.Proofs.Ytpfcddgknahgfaa
