/-
  BlobCuts returns true for every input. No condition.
-/
import Derived.Test.YtpfjikkpfnmepaaLives
import Derived.Test.YtpfjikkpfnmepaaCk4
import Derived.Test.YtpfjikkpfnmepaaOpen
import Derived.Test.YtpfjikkpfnmepaaOpt
import Derived.Test.YtpfjikkpfnmepaaRows
namespace Go.Proofs.Ytpfjikkpfnmepaa
open Go.RowKit Go.ChangeShapes Go.WideShapes Go.ChangeAt

theorem check_is {A : Option Addr} {n c : Nat} {L : List ByteArray} {w : World} {z : Int} {t : Int × Int} {r : Int} (h : Sl w A n c L) (hr : chkE L z t = r) : Calls Try.prog 14 #[.slice A n c, .int .i64 z, tagV t] w fun e w' => e = .returned (.int .i64 r) ∧ Ext w w' := by
  subst hr
  exact check_any h z t
theorem rcheck_is {A : Option Addr} {n c : Nat} {L : List ByteArray} {w : World} {z : Int} {t : Int × Int} {r : Int} (h : Sl w A n c L) (hf : fewB L = true) (hr : chkE L z t = r) : Calls Try.prog 15 #[.slice A n c, .int .i64 z, tagV t] w fun e w' => e = .returned (.int .i64 r) ∧ Ext w w' := by
  subst hr
  exact rcheck_any h hf z t

set_option maxRecDepth 100000 in
set_option maxHeartbeats 4000000 in
theorem cuts_walk {w : World} (S : ByteArray) (hS : S.size ≤ 9223372036854775807) (A : Option Addr) (n c : Nat) (L : List ByteArray) (hn : n ≤ 9223372036854775807) (hSl : n ≤ 1000 → Sl w A n c L)
    (z : Int) (_wz : (Lit.int IntKind.i64 z).wf = true) (x y : Int) (_hok : NumI x ∧ NumI y) :
    Calls Try.prog 3 #[.string S, .slice A n c, .int .i64 z, .agg #[.int .i64 x, .int .i64 y]] w fun e w' => e = .returned (.bool true) ∧ Below w.heap.size w w' := by
  have hL : L.length = n ∨ 1000 < n := by
    rcases Nat.lt_or_ge 1000 n with h | h
    · exact .inr h
    · exact .inl (hSl h).len
  have hx0 := Ext.al w (.cells #[.int .i64 x, .int .i64 y] 24)
  have hA0 := Cel.new w x y 24
  have hSl0 : n ≤ 1000 → Sl (w.alloc (.cells #[.int .i64 x, .int .i64 y] 24)) A n c L := fun h => (hSl h).ext hx0
  cases hq : (decide (n ≤ 1000) && fewB L) with
  | true =>
    rw [Bool.and_eq_true] at hq
    have h := hSl0 (of_decide_eq_true hq.1)
    have HF := Lib.hid hq.2
    have HQ : Hid ((decide (n ≤ 1000) && fewB L) = true) := by show _ = _; rw [hq.1, hq.2]; rfl
    obtain ⟨a1, h1⟩ : ∃ r, cutE S = r := ⟨_, rfl⟩
    obtain ⟨a2, h2⟩ : ∃ r, chkE L z (x, y) = r := ⟨_, rfl⟩
    obtain ⟨a3, h3⟩ : ∃ r, joinS L z (x, y) = r := ⟨_, rfl⟩
    have H1 := Lib.hid h1
    have H2 := Lib.hid h2
    have H3 := Lib.hid h3
    have q1 : (a1 == a1) = true := by simp
    have q2 : (a2 == a2) = true := by simp
    have q3 : (a3.toList == a3.toList) = true := by simp
    clear hq h1 h2 h3 hSl
    go_enter Try.func3, Try.ntmps3
    go_wp2_with fail
    refine (few_any hSl0 hn hL).mono ?_
    rintro e w1 ⟨rfl, rfl⟩
    rw [HQ.out]
    clear hSl0 hL
    go_wp2_with fail
    refine (cut_any S _ hS).mono ?_
    rintro e w2 ⟨⟨v, k, rfl, ho, hk⟩, x2⟩
    rw [H1.out]
    obtain ⟨B, d, rfl, hB⟩ := ho.slice (by omega)
    have X2 := Ext.of hx0 x2
    have h2 := h.ext x2
    have hA2 := hA0.ext x2
    clear ho hx0 x2 h hA0
    go_wp2_with fail
    refine (rcut_any S _ hS).mono ?_
    rintro e w3 ⟨⟨v, k3, rfl, ho, hk3⟩, x3⟩
    rw [H1.out]
    obtain ⟨C, d3, rfl, hC⟩ := ho.slice (by omega)
    have X3 := Ext.of X2 x3
    have h3 := h2.ext x3
    have hA3 := hA2.ext x3
    have hB3 := hB.ext x3
    have hA3' := hA3
    obtain ⟨-, c0, c1, -, -⟩ := hA3'
    clear ho X2 x3 h2 hA2 hB
    go_wp2_with fail
    refine (bjoin_any h3 z (x, y)).mono ?_
    rintro e w4 ⟨rfl, x4⟩
    rw [H2.out, H3.out]
    have X4 := Ext.of X3 x4
    have h4 := h3.ext x4
    have hA4 := hA3.ext x4
    have hB4 := hB3.ext x4
    have hC4 := hC.ext x4
    have hA4' := hA4
    clear X3 x4 h3 hA3 hB3 hC c0 c1
    obtain ⟨-, c0, c1, -, -⟩ := hA4'
    go_wp2_with fail
    refine (rjoin_any h4 HF.out z (x, y)).mono ?_
    rintro e w5 ⟨rfl, x5⟩
    rw [H2.out, H3.out]
    have X5 := Ext.of X4 x5
    have h5 := h4.ext x5
    have hA5 := hA4.ext x5
    have hB5 := hB4.ext x5
    have hC5 := hC4.ext x5
    clear X4 x5 h4 hA4 hB4 hC4 c0 c1
    go_wp2
    have c0 := Later.cell hA5.c0
    have c1 := Later.cell hA5.c1
    refine wp_region_later (by kernel_rfl) (by kernel_rfl) ?_
    repeat (go_big_quiet_step (first
      | (go_at_call 13; exact Calls.later (same_is (hB5.ext (Later.is _)) (hC5.ext (Later.is _)) (decide_eq_true rfl)))
      | (go_at_call 14; exact Calls.later (check_is (t := (x, y)) (h5.ext (Later.is _)) H2.out))
      | (go_at_call 15; exact Calls.later (rcheck_is (t := (x, y)) (h5.ext (Later.is _)) HF.out H2.out))
      | (go_at_call 8; exact Calls.later (lives_any _))))
    refine wpQuiet_nil ?_
    intro w6 x6
    go_wp2
    go_ret
    exact ⟨rfl, Ext.of X5 x6⟩
  | false =>
    have HQ := Lib.hid hq
    clear hq
    go_enter Try.func3, Try.ntmps3
    go_wp2_with fail
    refine (few_any hSl0 hn hL).mono ?_
    rintro e w1 ⟨rfl, rfl⟩
    rw [HQ.out]
    clear hSl hSl0 hL
    go_wp2_with fail
    refine (lives_any _).mono ?_
    rintro e w9 ⟨rfl, x9⟩
    go_wp2
    go_ret
    exact ⟨rfl, Ext.of hx0 x9⟩

set_option maxRecDepth 100000 in
theorem cuts_lifted (os : Os) (started : os.Started) (H : Type) (enc : TypeId × Value → H) :
    ReturnsInHanded {} Try.checked os 3 .any (Rows.blobCutsSpec.pre6 enc Try.prog Try.f3 Rows.blobCutsRow.domain false) (Rows.blobCutsSpec.post enc Try.prog Try.f3 false true false false) := by
  refine returnsInHanded_of_change (C := Try.checked) ownK started (by kernel_rfl) Try.func3
    (ChangeSpec.witness6 (enc := enc) (C := Try.checked) false ⟨#[], #[.string ⟨#[]⟩, .slice none 0 0, .int .i64 0, .agg #[.int .i64 0, .int .i64 0]], []⟩ 8 (by kernel_rfl) (by kernel_rfl) (by kernel_rfl) (by kernel_rfl)) ?_
  intro W base args ds gs before hval0 hW hcnd _
  have hval : ∀ (j : Nat) t v, Try.f3.params[j]? = some t → args[j]? = some v → Value.okWide Try.prog W .any base t v := hval0
  have hW' := hW
  obtain ⟨p, q, hA0, hV, rfl, hfz, hnd⟩ := hW
  have hA : DataW.TrodAll enc Try.prog W 0 (fun _ => true) true Try.f3.params.toList args.toList ds p := hA0
  rw [Try.params3] at hA hval
  obtain ⟨v0, vs0, d0, ds0, p0, q0, hargs, rfl, rfl, h0, r0⟩ := trodAll_cons hA
  obtain ⟨v1, vs1, d1, ds1, p1, q1, rfl, rfl, rfl, h1, r1⟩ := trodAll_cons r0
  obtain ⟨v2, vs2, d2, ds2, p2, q2, rfl, rfl, rfl, h2, r2⟩ := trodAll_cons r1
  obtain ⟨v3, vs3, d3, ds3, p3, q3, rfl, rfl, rfl, h3, r3⟩ := trodAll_cons r2
  obtain ⟨rfl, rfl, rfl⟩ := trodAll_nil r3
  obtain rfl : args = #[v0, v1, v2, v3] := by cases args; simp_all
  obtain ⟨rfl, rfl⟩ := trodVars_none hV
  have k0 := h0
  have lt0 : ∀ x ∈ p0, x.block < W.heap.size := by obtain ⟨m, hm⟩ := k0; exact DataW.trod_lt m _ _ _ hm
  obtain ⟨s0, rfl, hs0⟩ := open_text (hval 0 9 v0 rfl rfl) h0
  have k1 := h1
  have lt1 : ∀ x ∈ p1, x.block < W.heap.size := by obtain ⟨m, hm⟩ := k1; exact DataW.trod_lt m _ _ _ hm
  obtain ⟨A1, n1, c1, L1, rfl, hn1, hS1⟩ := open_texts (hval 1 22 v1 rfl rfl) h1
  obtain ⟨a2, rfl, rfl, rfl, w2⟩ := open_int Try.underlying3 (hval 2 3 v2 rfl rfl) h2
  have k3 := h3
  have lt3 : ∀ x ∈ p3, x.block < W.heap.size := by obtain ⟨m, hm⟩ := k3; exact DataW.trod_lt m _ _ _ hm
  obtain ⟨x3, y3, rfl, hok3⟩ := open_tag (hval 3 24 v3 rfl rfl) h3
  clear hA0 hval0
  refine (cuts_walk (w := W) s0 hs0 A1 n1 c1 L1 hn1 hS1 a2 w2 x3 y3 hok3).mono fun e W' ⟨he, bel⟩ => ?_
  subst he
  exact ⟨_, rfl, _, _, _, [], _, [], hW', trodAll_mk1 (shut_bool Try.underlying4 _), (trodAll_cons_mk (Below.trod laidOut (by kernel_rfl) (of_decide_eq_true (by kernel_rfl)) k0 bel lt0) (trodAll_cons_mk (Below.trod laidOut (by kernel_rfl) (of_decide_eq_true (by kernel_rfl)) k1 bel lt1) (trodAll_cons_mk (shut_int Try.underlying3 w2) (trodAll_cons_mk (Below.trod laidOut (by kernel_rfl) (of_decide_eq_true (by kernel_rfl)) k3 bel lt3) trodAll_mk0)))), rfl, bel.frame _, fun h => by cases h⟩

theorem cuts_over : Rows.blobCutsRow.holds Try.pinned (OpenSpec.ofChange Rows.blobCutsSpec) :=
  OpenClaim.holds_of_wide 3 Try.f3 rfl rfl rfl rfl rfl rfl rfl ⟨rfl, rfl, rfl, rfl, rfl⟩ rfl rfl rfl rfl rfl (by kernel_rfl) Try.func3 (by kernel_rfl)
    (of_decide_eq_true (by kernel_rfl)) (by unfold Func.isWrapper; first | (rw [if_pos (by decide +kernel)]; kernel_rfl) | (rw [if_neg (by decide +kernel)]; exact ⟨rfl, rfl⟩))
    (fun os started H enc _ => cuts_lifted os started H enc)

/-- The statement. -/
theorem cuts_holds : Rows.BlobCutsSaid := cuts_over

#print axioms cuts_holds
end Go.Proofs.Ytpfjikkpfnmepaa
