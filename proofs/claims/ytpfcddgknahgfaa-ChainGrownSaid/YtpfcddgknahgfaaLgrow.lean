/-
  ChainGrown returns true for every input: Add changes nothing that is told of times below its own; at its own and above there is what was added; rewound to the time ahead the chain is as it was. No condition.
-/
import Derived.Test.YtpfcddgknahgfaaLives
import Derived.Test.YtpfcddgknahgfaaOpen
import Derived.Test.YtpfcddgknahgfaaLaws
namespace Go.Proofs.Ytpfcddgknahgfaa
open Go.RowKit Go.ChangeShapes Go.WideShapes Go.ChangeAt

theorem right_time {t : Int} {s : ByteArray} {d : Bool} (h : rightB ⟨t, s, d⟩ = true) : 1 ≤ t := by
  simp only [rightB, Bool.and_eq_true, decide_eq_true_eq] at h
  exact h.1.1.1

theorem add_res {L : List Ver} {v : Ver} {w : World} {A : Option Addr} {n c : Nat} (h : Sl w A n c (addL L v)) (he : addErr L v = 0) : Sl w A n c (v :: L) := by
  rw [addL_yes he] at h
  exact h
theorem add_none {L : List Ver} {v : Ver} {w : World} {A : Option Addr} {n c : Nat} (h : Sl w A n c (addL L v)) (he : addErr L v ≠ 0) : n = 0 := by
  rw [addL_no he] at h
  exact h.len.symm

/-- Behind the two ways: the chain is rewound and asked. -/
theorem lgrow_main {A : Option Addr} {n c : Nat} {L : List Ver} {t : Int} {s : ByteArray} {d : Bool} {u : Int} {w : World} (hb : n ≤ 1000) (h : Sl w A n c L) (hok : Ver.ok ⟨t, s, d⟩) (he : addErr L ⟨t, s, d⟩ = 0) :
    Calls Try.prog 6 #[.slice A n c, .agg #[.int .i64 t, .string s, .bool d], .int .i64 u] w fun e w' => e = .returned (.bool true) ∧ Below w.heap.size w w' := by
  have x0 := Ext.alloc w (.cells #[.int .i64 t, .string s, .bool d] 34)
  have hv0 := VAt.new w t s d 34
  have h0 := h.ext x0
  have HE := Lib.hid he
  have ht1 := right_time (add_ok he).2.1
  have ht2 := hok.2.2
  simp only at ht2
  obtain ⟨b1, b2, b3⟩ := add_back he
  simp only at b1 b2 b3
  have B1 := Lib.hid b1
  have B2 := Lib.hid b2
  have B3 := Lib.hid b3
  have HOK := Lib.hid hok
  clear hok he b1 b2 b3
  obtain ⟨g0, g1, g2⟩ := id hv0
  go_enter Try.func6, Try.ntmps6
  go_wp2_with fail
  refine (add_any h0 HOK.out (by omega)).mono ?_
  rintro e w1 ⟨⟨A1, n1, c1, rfl, ha0⟩, x1⟩
  rw [HE.out]
  have ha := add_res ha0 HE.out
  have h1 := h0.ext x1
  have X1 := Ext.of x0 x1
  have hv1 := hv0.ext x1
  clear g0 g1 g2 x0 x1 h0 hv0 ha0
  obtain ⟨g0, g1, g2⟩ := id hv1
  by_cases htu : t ≤ u
  · obtain ⟨e1, e2⟩ := add_at_up HE.out htu
    have E1 := Lib.hid e1
    have E2 := Lib.hid e2
    clear e1 e2
    have hnd : ((!d) == d) = false := by cases d <;> rfl
    go_wp2_with fail
    refine (at_is ha E1.out E2.out).mono ?_
    rintro e w2 ⟨rfl, x2⟩
    have h2 := h1.ext x2
    have ha2 := ha.ext x2
    have X2 := Ext.of X1 x2
    have hv2 := hv1.ext x2
    clear g0 g1 g2 x2 h1 ha X1 hv1
    obtain ⟨g0, g1, g2⟩ := id hv2
    simp only
    go_wp2_with fail
    refine (rewind_any (t - 1) ha2).mono ?_
    rintro e w3 ⟨⟨A3, n3, c3, rfl, hr⟩, x3⟩
    have h3 := h2.ext x3
    have ha3 := ha2.ext x3
    have X3 := Ext.of X2 x3
    have hv3 := hv2.ext x3
    clear g0 g1 g2 x3 h2 ha2 X2 hv2
    obtain ⟨g0, g1, g2⟩ := id hv3
    go_wp2_with fail
    refine (same_yes hr h3 B1.out).mono ?_
    rintro e w4 ⟨rfl, x4⟩
    have ha4 := ha3.ext x4
    have X4 := Ext.of X3 x4
    have hv4 := hv3.ext x4
    clear g0 g1 g2 x4 h3 ha3 X3 hv3 hr
    obtain ⟨g0, g1, g2⟩ := id hv4
    go_wp2_with fail
    refine (since_is ha4 B2.out).mono ?_
    rintro e w5 ⟨rfl, x5⟩
    have ha5 := ha4.ext x5
    have X5 := Ext.of X4 x5
    have hv5 := hv4.ext x5
    clear g0 g1 g2 x5 ha4 X4 hv4
    obtain ⟨g0, g1, g2⟩ := id hv5
    go_wp2_with fail
    refine (since_is ha5 B3.out).mono ?_
    rintro e w6 ⟨rfl, x6⟩
    have X6 := Ext.of X5 x6
    clear g0 g1 g2 x6 ha5 X5 hv5
    go_wp2_with fail
    refine (lives_any _).mono ?_
    rintro e w7 ⟨rfl, x7⟩
    have X7 := Ext.of X6 x7
    clear X6 x7
    go_wp2
    go_ret
    exact ⟨rfl, X7⟩
  · obtain ⟨e1, e2⟩ := add_at_down (t := u) HE.out (show u < t by omega)
    have E1 := Lib.hid e1
    have E2 := Lib.hid e2
    clear e1 e2
    go_wp2_with fail
    refine (at_is ha E1.out E2.out).mono ?_
    rintro e w2 ⟨rfl, x2⟩
    have h2 := h1.ext x2
    have ha2 := ha.ext x2
    have X2 := Ext.of X1 x2
    have hv2 := hv1.ext x2
    clear g0 g1 g2 x2 h1 ha X1 hv1
    obtain ⟨g0, g1, g2⟩ := id hv2
    go_wp2_with fail
    refine (at_any u h2).mono ?_
    rintro e w3 ⟨rfl, x3⟩
    have h3 := h2.ext x3
    have ha3 := ha2.ext x3
    have X3 := Ext.of X2 x3
    have hv3 := hv2.ext x3
    clear g0 g1 g2 x3 h2 ha2 X2 hv2
    obtain ⟨g0, g1, g2⟩ := id hv3
    go_wp2_with fail
    refine (rewind_any (t - 1) ha3).mono ?_
    rintro e w4 ⟨⟨A4, n4, c4, rfl, hr⟩, x4⟩
    have h4 := h3.ext x4
    have ha4 := ha3.ext x4
    have X4 := Ext.of X3 x4
    have hv4 := hv3.ext x4
    clear g0 g1 g2 x4 h3 ha3 X3 hv3
    obtain ⟨g0, g1, g2⟩ := id hv4
    go_wp2_with fail
    refine (same_yes hr h4 B1.out).mono ?_
    rintro e w5 ⟨rfl, x5⟩
    have ha5 := ha4.ext x5
    have X5 := Ext.of X4 x5
    have hv5 := hv4.ext x5
    clear g0 g1 g2 x5 h4 ha4 X4 hv4 hr
    obtain ⟨g0, g1, g2⟩ := id hv5
    go_wp2_with fail
    refine (since_is ha5 B2.out).mono ?_
    rintro e w6 ⟨rfl, x6⟩
    have ha6 := ha5.ext x6
    have X6 := Ext.of X5 x6
    have hv6 := hv5.ext x6
    clear g0 g1 g2 x6 ha5 X5 hv5
    obtain ⟨g0, g1, g2⟩ := id hv6
    go_wp2_with fail
    refine (since_is ha6 B3.out).mono ?_
    rintro e w7 ⟨rfl, x7⟩
    have X7 := Ext.of X6 x7
    clear g0 g1 g2 x7 ha6 X6 hv6
    go_wp2_with fail
    refine (lives_any _).mono ?_
    rintro e w8 ⟨rfl, x8⟩
    have X8 := Ext.of X7 x8
    clear X7 x8
    go_wp2
    go_ret
    exact ⟨rfl, X8⟩

theorem lgrow_walk {w : World} (A : Option Addr) (n c : Nat) (L : List Ver) (hn : n ≤ 9223372036854775807) (hS : n ≤ 1000 → Sl w A n c L) (t : Int) (s : ByteArray) (d : Bool) (hok : Ver.ok ⟨t, s, d⟩) (u : Int) (_ : (Lit.int .i64 u).wf = true) :
    Calls Try.prog 6 #[.slice A n c, .agg #[.int .i64 t, .string s, .bool d], .int .i64 u] w fun e w' => e = .returned (.bool true) ∧ Below w.heap.size w w' := by
  by_cases hbig : n ≤ 1000
  · have h := hS hbig
    by_cases he : addErr L ⟨t, s, d⟩ = 0
    · exact lgrow_main hbig h hok he
    · have x0 := Ext.alloc w (.cells #[.int .i64 t, .string s, .bool d] 34)
      have hv0 := VAt.new w t s d 34
      have h0 := h.ext x0
      have HE := Lib.hid he
      have he' : (addErr L ⟨t, s, d⟩ != 0) = true := by simpa using he
      obtain ⟨g0, g1, g2⟩ := id hv0
      have HOK := Lib.hid hok
      clear he hok hS
      go_enter Try.func6, Try.ntmps6
      go_wp2_with fail
      refine (add_any h0 HOK.out (by omega)).mono ?_
      rintro e w1 ⟨⟨A1, n1, c1, rfl, ha0⟩, x1⟩
      obtain rfl : n1 = 0 := add_none ha0 HE.out
      have X1 := Ext.of x0 x1
      clear x0 x1 g0 g1 g2 ha0
      go_wp2_with fail
      refine (lives_any _).mono ?_
      rintro e w7 ⟨rfl, x7⟩
      have X := Ext.of X1 x7
      clear X1 x7
      go_wp2
      go_ret
      exact ⟨rfl, X⟩
  · clear hS
    have x0 := Ext.alloc w (.cells #[.int .i64 t, .string s, .bool d] 34)
    go_enter Try.func6, Try.ntmps6
    go_wp2_with fail
    refine (lives_any _).mono ?_
    rintro e w7 ⟨rfl, x7⟩
    have X := Ext.of x0 x7
    clear x0 x7
    go_wp2
    go_ret
    exact ⟨rfl, X⟩

set_option maxRecDepth 100000 in
theorem lgrow_lifted (os : Os) (started : os.Started) (H : Type) (enc : TypeId × Value → H) :
    ReturnsInHanded {} Try.checked os 6 .any (Rows.chainGrownSpec.pre6 enc Try.prog Try.f6 Rows.chainGrownRow.domain false) (Rows.chainGrownSpec.post enc Try.prog Try.f6 false true false false) := by
  refine returnsInHanded_of_change (C := Try.checked) ownK started (by kernel_rfl) Try.func6
    (ChangeSpec.witness6 (enc := enc) (C := Try.checked) false ⟨#[], #[.slice none 0 0, .agg #[.int .i64 0, .string ⟨#[]⟩, .bool false], .int .i64 0], []⟩ 8 (by kernel_rfl) (by kernel_rfl) (by kernel_rfl) (by kernel_rfl)) ?_
  intro W base args ds gs before hval0 hW hcnd _
  have hval : ∀ (j : Nat) t v, Try.f6.params[j]? = some t → args[j]? = some v → Value.okWide Try.prog W .any base t v := hval0
  have hW' := hW
  obtain ⟨p, q, hA0, hV, rfl, hfz, hnd⟩ := hW
  have hA : DataW.TrodAll enc Try.prog W 0 (fun _ => true) true Try.f6.params.toList args.toList ds p := hA0
  rw [Try.params6] at hA hval
  obtain ⟨v0, vs0, d0, ds0, p0, q0, hargs, rfl, rfl, h0, r0⟩ := trodAll_cons hA
  obtain ⟨v1, vs1, d1, ds1, p1, q1, rfl, rfl, rfl, h1, r1⟩ := trodAll_cons r0
  obtain ⟨v2, vs2, d2, ds2, p2, q2, rfl, rfl, rfl, h2, r2⟩ := trodAll_cons r1
  obtain ⟨rfl, rfl, rfl⟩ := trodAll_nil r2
  obtain rfl : args = #[v0, v1, v2] := by cases args; simp_all
  obtain ⟨rfl, rfl⟩ := trodVars_none hV
  have k0 := h0
  have lt0 : ∀ x ∈ p0, x.block < W.heap.size := by obtain ⟨m, hm⟩ := k0; exact DataW.trod_lt m _ _ _ hm
  obtain ⟨A0, n0, c0, L0, rfl, hn0, hS0⟩ := open_vers (hval 0 22 v0 rfl rfl) h0
  have k1 := h1
  have lt1 : ∀ x ∈ p1, x.block < W.heap.size := by obtain ⟨m, hm⟩ := k1; exact DataW.trod_lt m _ _ _ hm
  obtain ⟨t1, s1, b1, rfl, hok1⟩ := open_ver (hval 1 34 v1 rfl rfl) h1
  obtain ⟨a2, rfl, rfl, rfl, w2⟩ := open_int Try.underlying3 (hval 2 3 v2 rfl rfl) h2
  clear hA0 hval0
  refine (lgrow_walk (w := W) A0 n0 c0 L0 hn0 hS0 t1 s1 b1 hok1 a2 w2).mono fun e W' ⟨he, bel⟩ => ?_
  subst he
  exact ⟨_, rfl, _, _, _, [], _, [], hW', trodAll_mk1 (shut_bool Try.underlying4 _), (trodAll_cons_mk (Below.trod laidOut (by kernel_rfl) (of_decide_eq_true (by kernel_rfl)) k0 bel lt0) (trodAll_cons_mk (Below.trod laidOut (by kernel_rfl) (of_decide_eq_true (by kernel_rfl)) k1 bel lt1) (trodAll_cons_mk (shut_int Try.underlying3 w2) trodAll_mk0))), rfl, bel.frame _, fun h => by cases h⟩

theorem lgrow_over : Rows.chainGrownRow.holds Try.pinned (OpenSpec.ofChange Rows.chainGrownSpec) :=
  OpenClaim.holds_of_wide 6 Try.f6 rfl rfl rfl rfl rfl rfl rfl ⟨rfl, rfl, rfl, rfl, rfl⟩ rfl rfl rfl rfl rfl (by kernel_rfl) Try.func6 (by kernel_rfl)
    (of_decide_eq_true (by kernel_rfl)) (by unfold Func.isWrapper; first | (rw [if_pos (by decide +kernel)]; kernel_rfl) | (rw [if_neg (by decide +kernel)]; exact ⟨rfl, rfl⟩))
    (fun os started H enc _ => lgrow_lifted os started H enc)

/-- The statement. -/
theorem lgrow_holds : Rows.ChainGrownSaid := lgrow_over

#print axioms lgrow_holds
end Go.Proofs.Ytpfcddgknahgfaa
