/-
  ChainRewind returns true for every input: what is told of a time that is not above the one that was rewound to is as it was; there is no version since. No condition.
-/
import Derived.Test.YtpfcddgknahgfaaLives
import Derived.Test.YtpfcddgknahgfaaOpen
import Derived.Test.YtpfcddgknahgfaaLaws
namespace Go.Proofs.Ytpfcddgknahgfaa
open Go.RowKit Go.ChangeShapes Go.WideShapes Go.ChangeAt

theorem lrew_main {A : Option Addr} {n c : Nat} {L : List Ver} {s t : Int} {w : World} (hb : n ≤ 1000) (h : Sl w A n c L) (hc : chainB L = true) :
    Calls Try.prog 7 #[.slice A n c, .int .i64 s, .int .i64 t] w fun e w' => e = .returned (.bool true) ∧ Below w.heap.size w w' := by
  have HC := Lib.hid hc
  have HK := Lib.hid (chk_yes hc)
  have HKV := Lib.hid (chk_yes (rew_chain hc s))
  have HSN := Lib.hid (rew_since hc s)
  clear hc
  by_cases hts : t ≤ s
  · obtain ⟨e1, e2⟩ := rew_at HC.out hts
    have E1 := Lib.hid e1
    have E2 := Lib.hid e2
    clear e1 e2
    go_enter Try.func7, Try.ntmps7
    go_wp2_with fail
    refine (check_is HK.out h).mono ?_
    rintro e w1 ⟨rfl, x1⟩
    have h1 := h.ext x1
    go_wp2_with fail
    refine (rewind_any s h1).mono ?_
    rintro e w2 ⟨⟨A', n', c', rfl, hv⟩, x2⟩
    have h2 := h1.ext x2
    have X2 := Ext.of x1 x2
    clear x1 x2 h1
    go_wp2_with fail
    refine (at_any t h2).mono ?_
    rintro e w3 ⟨rfl, x3⟩
    have hv3 := hv.ext x3
    have X3 := Ext.of X2 x3
    clear x3 hv X2 h2
    go_wp2_with fail
    refine (at_is hv3 E1.out E2.out).mono ?_
    rintro e w4 ⟨rfl, x4⟩
    have hvX := hv3.ext x4
    have XX := Ext.of X3 x4
    clear x4 hv3 X3
    go_wp2_with fail
    refine (since_is hvX HSN.out).mono ?_
    rintro e w6 ⟨rfl, x6⟩
    have hv6 := hvX.ext x6
    have X6 := Ext.of XX x6
    clear x6 hvX XX
    go_wp2_with fail
    refine (check_is HKV.out hv6).mono ?_
    rintro e w7 ⟨rfl, x7⟩
    have X7 := Ext.of X6 x7
    clear x7 hv6 X6
    go_wp2_with fail
    refine (lives_any _).mono ?_
    rintro e w8 ⟨rfl, x8⟩
    have X8 := Ext.of X7 x8
    clear x8 X7
    go_wp2
    go_ret
    exact ⟨rfl, X8⟩
  · obtain ⟨e1, e2⟩ := rew_at_up HC.out (show s ≤ t by omega)
    have E1 := Lib.hid e1
    have E2 := Lib.hid e2
    clear e1 e2
    go_enter Try.func7, Try.ntmps7
    go_wp2_with fail
    refine (check_is HK.out h).mono ?_
    rintro e w1 ⟨rfl, x1⟩
    have h1 := h.ext x1
    go_wp2_with fail
    refine (rewind_any s h1).mono ?_
    rintro e w2 ⟨⟨A', n', c', rfl, hv⟩, x2⟩
    have h2 := h1.ext x2
    have X2 := Ext.of x1 x2
    clear x1 x2 h1
    go_wp2_with fail
    refine (at_any s h2).mono ?_
    rintro e w3 ⟨rfl, x3⟩
    have h3 := h2.ext x3
    have hv3 := hv.ext x3
    have X3 := Ext.of X2 x3
    clear x3 hv X2 h2
    go_wp2_with fail
    refine (at_is hv3 E1.out E2.out).mono ?_
    rintro e w4 ⟨rfl, x4⟩
    have h4 := h3.ext x4
    have hv4 := hv3.ext x4
    have X4 := Ext.of X3 x4
    clear x4 h3 hv3 X3
    go_wp2_with fail
    refine (at_any s h4).mono ?_
    rintro e w5 ⟨rfl, x5⟩
    have hvX := hv4.ext x5
    have XX := Ext.of X4 x5
    clear x5 h4 hv4 X4
    go_wp2_with fail
    refine (since_is hvX HSN.out).mono ?_
    rintro e w6 ⟨rfl, x6⟩
    have hv6 := hvX.ext x6
    have X6 := Ext.of XX x6
    clear x6 hvX XX
    go_wp2_with fail
    refine (check_is HKV.out hv6).mono ?_
    rintro e w7 ⟨rfl, x7⟩
    have X7 := Ext.of X6 x7
    clear x7 hv6 X6
    go_wp2_with fail
    refine (lives_any _).mono ?_
    rintro e w8 ⟨rfl, x8⟩
    have X8 := Ext.of X7 x8
    clear x8 X7
    go_wp2
    go_ret
    exact ⟨rfl, X8⟩

theorem lrew_walk {w : World} (A : Option Addr) (n c : Nat) (L : List Ver) (hn : n ≤ 9223372036854775807) (hS : n ≤ 1000 → Sl w A n c L) (s : Int) (_ : (Lit.int .i64 s).wf = true) (t : Int) (_ : (Lit.int .i64 t).wf = true) :
    Calls Try.prog 7 #[.slice A n c, .int .i64 s, .int .i64 t] w fun e w' => e = .returned (.bool true) ∧ Below w.heap.size w w' := by
  by_cases hbig : n ≤ 1000
  · have h := hS hbig
    clear hS
    cases hc : chainB L with
    | true => exact lrew_main hbig h hc
    | false =>
      have HK := Lib.hid (chk_no hc)
      clear hc
      go_enter Try.func7, Try.ntmps7
      go_wp2_with fail
      refine (check_is HK.out h).mono ?_
      rintro e w1 ⟨rfl, x1⟩
      go_wp2_with fail
      refine (lives_any _).mono ?_
      rintro e w7 ⟨rfl, x7⟩
      have X := Ext.of x1 x7
      go_wp2
      go_ret
      exact ⟨rfl, X⟩
  · clear hS
    go_enter Try.func7, Try.ntmps7
    go_wp2_with fail
    refine (lives_any _).mono ?_
    rintro e w7 ⟨rfl, x7⟩
    go_wp2
    go_ret
    exact ⟨rfl, x7⟩

set_option maxRecDepth 100000 in
theorem lrew_lifted (os : Os) (started : os.Started) (H : Type) (enc : TypeId × Value → H) :
    ReturnsInHanded {} Try.checked os 7 .any (Rows.chainRewindSpec.pre6 enc Try.prog Try.f7 Rows.chainRewindRow.domain false) (Rows.chainRewindSpec.post enc Try.prog Try.f7 false true false false) := by
  refine returnsInHanded_of_change (C := Try.checked) ownK started (by kernel_rfl) Try.func7
    (ChangeSpec.witness6 (enc := enc) (C := Try.checked) false ⟨#[], #[.slice none 0 0, .int .i64 0, .int .i64 0], []⟩ 8 (by kernel_rfl) (by kernel_rfl) (by kernel_rfl) (by kernel_rfl)) ?_
  intro W base args ds gs before hval0 hW hcnd _
  have hval : ∀ (j : Nat) t v, Try.f7.params[j]? = some t → args[j]? = some v → Value.okWide Try.prog W .any base t v := hval0
  have hW' := hW
  obtain ⟨p, q, hA0, hV, rfl, hfz, hnd⟩ := hW
  have hA : DataW.TrodAll enc Try.prog W 0 (fun _ => true) true Try.f7.params.toList args.toList ds p := hA0
  rw [Try.params7] at hA hval
  obtain ⟨v0, vs0, d0, ds0, p0, q0, hargs, rfl, rfl, h0, r0⟩ := trodAll_cons hA
  obtain ⟨v1, vs1, d1, ds1, p1, q1, rfl, rfl, rfl, h1, r1⟩ := trodAll_cons r0
  obtain ⟨v2, vs2, d2, ds2, p2, q2, rfl, rfl, rfl, h2, r2⟩ := trodAll_cons r1
  obtain ⟨rfl, rfl, rfl⟩ := trodAll_nil r2
  obtain rfl : args = #[v0, v1, v2] := by cases args; simp_all
  obtain ⟨rfl, rfl⟩ := trodVars_none hV
  have k0 := h0
  have lt0 : ∀ x ∈ p0, x.block < W.heap.size := by obtain ⟨m, hm⟩ := k0; exact DataW.trod_lt m _ _ _ hm
  obtain ⟨A0, n0, c0, L0, rfl, hn0, hS0⟩ := open_vers (hval 0 22 v0 rfl rfl) h0
  obtain ⟨a1, rfl, rfl, rfl, w1⟩ := open_int Try.underlying3 (hval 1 3 v1 rfl rfl) h1
  obtain ⟨a2, rfl, rfl, rfl, w2⟩ := open_int Try.underlying3 (hval 2 3 v2 rfl rfl) h2
  clear hA0 hval0
  refine (lrew_walk (w := W) A0 n0 c0 L0 hn0 hS0 a1 w1 a2 w2).mono fun e W' ⟨he, bel⟩ => ?_
  subst he
  exact ⟨_, rfl, _, _, _, [], _, [], hW', trodAll_mk1 (shut_bool Try.underlying4 _), (trodAll_cons_mk (Below.trod laidOut (by kernel_rfl) (of_decide_eq_true (by kernel_rfl)) k0 bel lt0) (trodAll_cons_mk (shut_int Try.underlying3 w1) (trodAll_cons_mk (shut_int Try.underlying3 w2) trodAll_mk0))), rfl, bel.frame _, fun h => by cases h⟩

theorem lrew_over : Rows.chainRewindRow.holds Try.pinned (OpenSpec.ofChange Rows.chainRewindSpec) :=
  OpenClaim.holds_of_wide 7 Try.f7 rfl rfl rfl rfl rfl rfl rfl ⟨rfl, rfl, rfl, rfl, rfl⟩ rfl rfl rfl rfl rfl (by kernel_rfl) Try.func7 (by kernel_rfl)
    (of_decide_eq_true (by kernel_rfl)) (by unfold Func.isWrapper; first | (rw [if_pos (by decide +kernel)]; kernel_rfl) | (rw [if_neg (by decide +kernel)]; exact ⟨rfl, rfl⟩))
    (fun os started H enc _ => lrew_lifted os started H enc)

/-- The statement. -/
theorem lrew_holds : Rows.ChainRewindSaid := lrew_over

#print axioms lrew_holds
end Go.Proofs.Ytpfcddgknahgfaa
