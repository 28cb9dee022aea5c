/-
  ChainVacuum returns true for every input: Vacuum changes nothing that is told of a time not below the mark; done again by a mark that is not greater it changes nothing; it never tells more versions. No condition.
-/
import Derived.Test.YtpfcddgknahgfaaLives
import Derived.Test.YtpfcddgknahgfaaOpen
import Derived.Test.YtpfcddgknahgfaaLaws
namespace Go.Proofs.Ytpfcddgknahgfaa
open Go.RowKit Go.ChangeShapes Go.WideShapes Go.ChangeAt

/-- From the second half on: whatever was asked ahead. -/
theorem lvac_main {A : Option Addr} {n c : Nat} {L : List Ver} {m s t : Int} {w : World} (hb : n ≤ 1000) (h : Sl w A n c L) (hc : chainB L = true) :
    Calls Try.prog 4 #[.slice A n c, .int .i64 m, .int .i64 s, .int .i64 t] w fun e w' => e = .returned (.bool true) ∧ Below w.heap.size w w' := by
  have HC := Lib.hid hc
  have HK := Lib.hid (chk_yes hc)
  have HKV := Lib.hid (chk_yes (vac_chain hc m))
  clear hc
  go_enter Try.func4, Try.ntmps4
  go_wp2_with fail
  refine (check_is HK.out h).mono ?_
  rintro e w1 ⟨rfl, x1⟩
  have h1 := h.ext x1
  go_wp2_with fail
  refine (vacuum_any m h1).mono ?_
  rintro e w2 ⟨⟨A', n', c', rfl, hv⟩, x2⟩
  have h2 := h1.ext x2
  have X2 := Ext.of x1 x2
  have hle : n' ≤ n := by rw [← hv.len, ← h.len]; exact vac_len HC.out m
  have finish : ∀ (W : World), Ext w W → Sl W A' n' c' (vacL L m) → Ext w W ∧ Sl W A' n' c' (vacL L m) := fun _ a b => ⟨a, b⟩
  clear x1 x2 h1
  by_cases htm : m ≤ t
  · obtain ⟨e1, e2⟩ := vac_at HC.out htm
    have E1 := Lib.hid e1
    have E2 := Lib.hid e2
    clear e1 e2
    go_wp2_with fail
    refine (at_any t h2).mono ?_
    rintro e w3 ⟨rfl, x3⟩
    have hv3 := hv.ext x3
    have X3 := Ext.of X2 x3
    go_wp2_with fail
    refine (at_is hv3 E1.out E2.out).mono ?_
    rintro e w4 ⟨rfl, x4⟩
    have hv4 := hv3.ext x4
    have X4 := Ext.of X3 x4
    clear x3 x4 hv3 X3 X2 h2
    by_cases hsm : s ≤ m
    · go_wp2_with fail
      refine (vacuum_any s hv4).mono ?_
      rintro e w5 ⟨⟨A5, n5, c5, rfl, hv5⟩, x5⟩
      have hv5' := hv4.ext x5
      have X5 := Ext.of X4 x5
      go_wp2_with fail
      refine (same_yes hv5 hv5' (vac_vac HC.out hsm)).mono ?_
      rintro e w6 ⟨rfl, x6⟩
      have hv6 := hv5'.ext x6
      have X6 := Ext.of X5 x6
      go_wp2_with fail
      refine (check_is HKV.out hv6).mono ?_
      rintro e w7 ⟨rfl, x7⟩
      have X7 := Ext.of X6 x7
      go_wp2_with fail
      refine (lives_any _).mono ?_
      rintro e w8 ⟨rfl, x8⟩
      have X8 := Ext.of X7 x8
      go_wp2
      go_ret
      exact ⟨rfl, X8⟩
    · go_wp2_with fail
      refine (check_is HKV.out hv4).mono ?_
      rintro e w7 ⟨rfl, x7⟩
      have X7 := Ext.of X4 x7
      go_wp2_with fail
      refine (lives_any _).mono ?_
      rintro e w8 ⟨rfl, x8⟩
      have X8 := Ext.of X7 x8
      go_wp2
      go_ret
      exact ⟨rfl, X8⟩
  · by_cases hsm : s ≤ m
    · go_wp2_with fail
      refine (vacuum_any s hv).mono ?_
      rintro e w5 ⟨⟨A5, n5, c5, rfl, hv5⟩, x5⟩
      have hv5' := hv.ext x5
      have X5 := Ext.of X2 x5
      go_wp2_with fail
      refine (same_yes hv5 hv5' (vac_vac HC.out hsm)).mono ?_
      rintro e w6 ⟨rfl, x6⟩
      have hv6 := hv5'.ext x6
      have X6 := Ext.of X5 x6
      go_wp2_with fail
      refine (check_is HKV.out hv6).mono ?_
      rintro e w7 ⟨rfl, x7⟩
      have X7 := Ext.of X6 x7
      go_wp2_with fail
      refine (lives_any _).mono ?_
      rintro e w8 ⟨rfl, x8⟩
      have X8 := Ext.of X7 x8
      go_wp2
      go_ret
      exact ⟨rfl, X8⟩
    · go_wp2_with fail
      refine (check_is HKV.out hv).mono ?_
      rintro e w7 ⟨rfl, x7⟩
      have X7 := Ext.of X2 x7
      go_wp2_with fail
      refine (lives_any _).mono ?_
      rintro e w8 ⟨rfl, x8⟩
      have X8 := Ext.of X7 x8
      go_wp2
      go_ret
      exact ⟨rfl, X8⟩

theorem lvac_walk {w : World} (A : Option Addr) (n c : Nat) (L : List Ver) (hn : n ≤ 9223372036854775807) (hS : n ≤ 1000 → Sl w A n c L) (m : Int) (_ : (Lit.int .i64 m).wf = true) (s : Int) (_ : (Lit.int .i64 s).wf = true) (t : Int) (_ : (Lit.int .i64 t).wf = true) :
    Calls Try.prog 4 #[.slice A n c, .int .i64 m, .int .i64 s, .int .i64 t] w fun e w' => e = .returned (.bool true) ∧ Below w.heap.size w w' := by
  by_cases hbig : n ≤ 1000
  · have h := hS hbig
    clear hS
    cases hc : chainB L with
    | true => exact lvac_main hbig h hc
    | false =>
      have HK := Lib.hid (chk_no hc)
      clear hc
      go_enter Try.func4, Try.ntmps4
      go_wp2_with fail
      refine (check_is HK.out h).mono ?_
      rintro e w1 ⟨rfl, x1⟩
      go_wp2_with fail
      refine (lives_any _).mono ?_
      rintro e w7 ⟨rfl, x7⟩
      have X := Ext.of x1 x7
      go_wp2
      go_ret
      exact ⟨rfl, X⟩
  · clear hS
    go_enter Try.func4, Try.ntmps4
    go_wp2_with fail
    refine (lives_any _).mono ?_
    rintro e w7 ⟨rfl, x7⟩
    go_wp2
    go_ret
    exact ⟨rfl, x7⟩

set_option maxRecDepth 100000 in
theorem lvac_lifted (os : Os) (started : os.Started) (H : Type) (enc : TypeId × Value → H) :
    ReturnsInHanded {} Try.checked os 4 .any (Rows.chainVacuumSpec.pre6 enc Try.prog Try.f4 Rows.chainVacuumRow.domain false) (Rows.chainVacuumSpec.post enc Try.prog Try.f4 false true false false) := by
  refine returnsInHanded_of_change (C := Try.checked) ownK started (by kernel_rfl) Try.func4
    (ChangeSpec.witness6 (enc := enc) (C := Try.checked) false ⟨#[], #[.slice none 0 0, .int .i64 0, .int .i64 0, .int .i64 0], []⟩ 8 (by kernel_rfl) (by kernel_rfl) (by kernel_rfl) (by kernel_rfl)) ?_
  intro W base args ds gs before hval0 hW hcnd _
  have hval : ∀ (j : Nat) t v, Try.f4.params[j]? = some t → args[j]? = some v → Value.okWide Try.prog W .any base t v := hval0
  have hW' := hW
  obtain ⟨p, q, hA0, hV, rfl, hfz, hnd⟩ := hW
  have hA : DataW.TrodAll enc Try.prog W 0 (fun _ => true) true Try.f4.params.toList args.toList ds p := hA0
  rw [Try.params4] at hA hval
  obtain ⟨v0, vs0, d0, ds0, p0, q0, hargs, rfl, rfl, h0, r0⟩ := trodAll_cons hA
  obtain ⟨v1, vs1, d1, ds1, p1, q1, rfl, rfl, rfl, h1, r1⟩ := trodAll_cons r0
  obtain ⟨v2, vs2, d2, ds2, p2, q2, rfl, rfl, rfl, h2, r2⟩ := trodAll_cons r1
  obtain ⟨v3, vs3, d3, ds3, p3, q3, rfl, rfl, rfl, h3, r3⟩ := trodAll_cons r2
  obtain ⟨rfl, rfl, rfl⟩ := trodAll_nil r3
  obtain rfl : args = #[v0, v1, v2, v3] := by cases args; simp_all
  obtain ⟨rfl, rfl⟩ := trodVars_none hV
  have k0 := h0
  have lt0 : ∀ x ∈ p0, x.block < W.heap.size := by obtain ⟨m, hm⟩ := k0; exact DataW.trod_lt m _ _ _ hm
  obtain ⟨A0, n0, c0, L0, rfl, hn0, hS0⟩ := open_vers (hval 0 22 v0 rfl rfl) h0
  obtain ⟨a1, rfl, rfl, rfl, w1⟩ := open_int Try.underlying3 (hval 1 3 v1 rfl rfl) h1
  obtain ⟨a2, rfl, rfl, rfl, w2⟩ := open_int Try.underlying3 (hval 2 3 v2 rfl rfl) h2
  obtain ⟨a3, rfl, rfl, rfl, w3⟩ := open_int Try.underlying3 (hval 3 3 v3 rfl rfl) h3
  clear hA0 hval0
  refine (lvac_walk (w := W) A0 n0 c0 L0 hn0 hS0 a1 w1 a2 w2 a3 w3).mono fun e W' ⟨he, bel⟩ => ?_
  subst he
  exact ⟨_, rfl, _, _, _, [], _, [], hW', trodAll_mk1 (shut_bool Try.underlying4 _), (trodAll_cons_mk (Below.trod laidOut (by kernel_rfl) (of_decide_eq_true (by kernel_rfl)) k0 bel lt0) (trodAll_cons_mk (shut_int Try.underlying3 w1) (trodAll_cons_mk (shut_int Try.underlying3 w2) (trodAll_cons_mk (shut_int Try.underlying3 w3) trodAll_mk0)))), rfl, bel.frame _, fun h => by cases h⟩

theorem lvac_over : Rows.chainVacuumRow.holds Try.pinned (OpenSpec.ofChange Rows.chainVacuumSpec) :=
  OpenClaim.holds_of_wide 4 Try.f4 rfl rfl rfl rfl rfl rfl rfl ⟨rfl, rfl, rfl, rfl, rfl⟩ rfl rfl rfl rfl rfl (by kernel_rfl) Try.func4 (by kernel_rfl)
    (of_decide_eq_true (by kernel_rfl)) (by unfold Func.isWrapper; first | (rw [if_pos (by decide +kernel)]; kernel_rfl) | (rw [if_neg (by decide +kernel)]; exact ⟨rfl, rfl⟩))
    (fun os started H enc _ => lvac_lifted os started H enc)

/-- The statement. -/
theorem lvac_holds : Rows.ChainVacuumSaid := lvac_over

#print axioms lvac_holds
end Go.Proofs.Ytpfcddgknahgfaa
