/-
  RetainAgain returns true for every input. No condition.
-/
import Derived.Test.YtehbdgbolbbgkaaLives
import Derived.Test.YtehbdgbolbbgkaaLaws2
import Derived.Test.YtehbdgbolbbgkaaOpen
import Derived.Test.YtehbdgbolbbgkaaRows
namespace Go.Proofs.Ytehbdgbolbbgkaa
open Go.RowKit Go.ChangeShapes Go.WideShapes Go.ChangeAt

set_option maxHeartbeats 4000000 in
theorem again_walk {w : World} (A : Option Addr) (n c : Nat) (L : List Int) (_hn : n ≤ 9223372036854775807) (hS : n ≤ 1000 → Sl w A n c L) (l e r : Int) (_hok : Num l ∧ Num e ∧ Num r) :
    Calls Try.prog 6 #[.slice A n c, .agg #[.int .i64 l, .int .i64 e, .int .i64 r]] w fun x w' => x = .returned (.bool true) ∧ Below w.heap.size w w' := by
  have x0 := Ext.alloc w (.cells #[.int .i64 l, .int .i64 e, .int .i64 r] 24)
  obtain ⟨g0, g1, g2⟩ := pol_new w l e r 24
  by_cases hbig : n ≤ 300
  · have h := hS (by omega)
    have hs0 := h.ext x0
    have HL := Lib.hid h.len
    obtain ⟨z, hz⟩ : ∃ z, kchk L ⟨l, e, r⟩ = z := ⟨_, rfl⟩
    have HZ := Lib.hid hz
    clear hS hz
    go_enter Try.func6, Try.ntmps6
    go_wp2_with fail
    refine (keep_is hs0 keep_eq HZ.out).mono ?_
    rintro y w3 ⟨⟨v3, n3, rfl, hn3, ho3⟩, x3⟩
    obtain ⟨A3, c3, rfl, hs3⟩ := ho3.slice (by omega)
    have X3 := Ext.of x0 x3
    have e0 := x3.cell g0
    have e1 := x3.cell g1
    have e2 := x3.cell g2
    clear x0 x3 g0 g1 g2 hs0 ho3
    by_cases hz0 : z = 0
    · subst hz0
      go_wp2_with fail
      refine (keep_is hs3 (keep_eq.trans (again_in HZ.out)) (in_kchk HZ.out)).mono ?_
      rintro y w4 ⟨⟨v4, n4, rfl, hn4, ho4⟩, x4⟩
      obtain ⟨A4, c4, rfl, hs4⟩ := ho4.slice (by omega)
      have X4 := Ext.of X3 x4
      have f0 := x4.cell e0
      have f1 := x4.cell e1
      have f2 := x4.cell e2
      have hs34 := hs3.ext x4
      clear X3 x4 e0 e1 e2 hs3 ho4
      go_wp2_with fail
      refine (next_is hs34 (again_out HZ.out) (in_kchk HZ.out)).mono ?_
      rintro y w5 ⟨⟨A5, n5, c5, rfl, hs5⟩, x5⟩
      obtain rfl : n5 = 0 := hs5.len.symm
      have X5 := Ext.of X4 x5
      have hs35 := hs34.ext x5
      have hs45 := hs4.ext x5
      clear X4 x5 f0 f1 f2 hs34 hs4 hs5
      go_wp2_with fail
      refine (same_yes hs35 hs45 rfl).mono ?_
      rintro y w6 ⟨rfl, x6⟩
      have X6 := Ext.of X5 x6
      clear X5 x6 hs35 hs45
      go_wp2_with fail
      refine (lives_any _).mono ?_
      rintro y w7 ⟨rfl, x7⟩
      have X := Ext.of X6 x7
      clear X6 x7
      go_wp2
      go_ret
      exact ⟨rfl, X⟩
    · have hz' : (z != 0) = true := by simpa using hz0
      have en3 : n3 = 0 := by have := hs3.len; rw [inL_no (by rw [HZ.out]; exact hz0)] at this; simpa using this.symm
      subst en3
      clear hz0
      go_wp2_with fail
      refine (lives_any _).mono ?_
      rintro y w7 ⟨rfl, x7⟩
      have X := Ext.of X3 x7
      clear X3 x7
      go_wp2
      go_ret
      exact ⟨rfl, X⟩
  · clear hS
    go_enter Try.func6, Try.ntmps6
    go_wp2_with fail
    refine (lives_any _).mono ?_
    rintro y w7 ⟨rfl, x7⟩
    have X := Ext.of x0 x7
    clear x0 x7
    go_wp2
    go_ret
    exact ⟨rfl, X⟩

set_option maxRecDepth 100000 in
theorem again_lifted (os : Os) (started : os.Started) (H : Type) (enc : TypeId × Value → H) :
    ReturnsInHanded {} Try.checked os 6 .any (Rows.retainAgainSpec.pre6 enc Try.prog Try.f6 Rows.retainAgainRow.domain false) (Rows.retainAgainSpec.post enc Try.prog Try.f6 false true false false) := by
  refine returnsInHanded_of_change (C := Try.checked) ownK started (by kernel_rfl) Try.func6
    (ChangeSpec.witness6 (enc := enc) (C := Try.checked) false ⟨#[], #[.slice none 0 0, .agg #[.int .i64 0, .int .i64 0, .int .i64 0]], []⟩ 8 (by kernel_rfl) (by kernel_rfl) (by kernel_rfl) (by kernel_rfl)) ?_
  intro W base args ds gs before hval0 hW hcnd _
  have hval : ∀ (j : Nat) t v, Try.f6.params[j]? = some t → args[j]? = some v → Value.okWide Try.prog W .any base t v := hval0
  have hW' := hW
  obtain ⟨p, q, hA0, hV, rfl, hfz, hnd⟩ := hW
  have hA : DataW.TrodAll enc Try.prog W 0 (fun _ => true) true Try.f6.params.toList args.toList ds p := hA0
  rw [Try.params6] at hA hval
  obtain ⟨v0, vs0, d0, ds0, p0, q0, hargs, rfl, rfl, h0, r0⟩ := trodAll_cons hA
  obtain ⟨v1, vs1, d1, ds1, p1, q1, rfl, rfl, rfl, h1, r1⟩ := trodAll_cons r0
  obtain ⟨rfl, rfl, rfl⟩ := trodAll_nil r1
  obtain rfl : args = #[v0, v1] := by cases args; simp_all
  obtain ⟨rfl, rfl⟩ := trodVars_none hV
  have k0 := h0
  have lt0 : ∀ x ∈ p0, x.block < W.heap.size := by obtain ⟨m, hm⟩ := k0; exact DataW.trod_lt m _ _ _ hm
  obtain ⟨A0, n0, c0, L0, rfl, hn0, hS0⟩ := open_nums (hval 0 22 v0 rfl rfl) h0
  have k1 := h1
  have lt1 : ∀ x ∈ p1, x.block < W.heap.size := by obtain ⟨m, hm⟩ := k1; exact DataW.trod_lt m _ _ _ hm
  obtain ⟨x1, y1, z1, rfl, hok1⟩ := open_policy (hval 1 24 v1 rfl rfl) h1
  clear hA0 hval0
  refine (again_walk (w := W) A0 n0 c0 L0 hn0 hS0 x1 y1 z1 hok1).mono fun e W' ⟨he, bel⟩ => ?_
  subst he
  exact ⟨_, rfl, _, _, _, [], _, [], hW', trodAll_mk1 (shut_bool Try.underlying4 _), (trodAll_cons_mk (Below.trod laidOut (by kernel_rfl) (of_decide_eq_true (by kernel_rfl)) k0 bel lt0) (trodAll_cons_mk (Below.trod laidOut (by kernel_rfl) (of_decide_eq_true (by kernel_rfl)) k1 bel lt1) trodAll_mk0)), rfl, bel.frame _, fun h => by cases h⟩

theorem again_over : Rows.retainAgainRow.holds Try.pinned (OpenSpec.ofChange Rows.retainAgainSpec) :=
  OpenClaim.holds_of_wide 6 Try.f6 rfl rfl rfl rfl rfl rfl rfl ⟨rfl, rfl, rfl, rfl, rfl⟩ rfl rfl rfl rfl rfl (by kernel_rfl) Try.func6 (by kernel_rfl)
    (of_decide_eq_true (by kernel_rfl)) (by unfold Func.isWrapper; first | (rw [if_pos (by decide +kernel)]; kernel_rfl) | (rw [if_neg (by decide +kernel)]; exact ⟨rfl, rfl⟩))
    (fun os started H enc _ => again_lifted os started H enc)

/-- The statement. -/
theorem again_holds : Rows.RetainAgainSaid := again_over

#print axioms again_holds
end Go.Proofs.Ytehbdgbolbbgkaa
