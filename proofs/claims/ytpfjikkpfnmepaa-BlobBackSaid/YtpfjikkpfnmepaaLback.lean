/-
  BlobBack returns true for every input. No condition.
-/
import Derived.Test.YtpfjikkpfnmepaaLives
import Derived.Test.YtpfjikkpfnmepaaCk4
import Derived.Test.YtpfjikkpfnmepaaOpen
import Derived.Test.YtpfjikkpfnmepaaRows
namespace Go.Proofs.Ytpfjikkpfnmepaa
open Go.RowKit Go.ChangeShapes Go.WideShapes Go.ChangeAt

theorem back_ask {S : ByteArray} (h : S.size ≤ 2560) : askB (chunks S (cn S)) = true := by
  obtain ⟨c1, c2⟩ := cn_size S
  unfold askB
  rw [chunks_form, chunks_len, decide_eq_true (show cn S ≤ 16 by omega)]
  rfl
theorem back_yes {S : ByteArray} (h : S.size ≤ 2560) : chkB (chunks S (cn S)) (S.size : Int) (tagOf S) = true := by
  unfold chkB tagB
  rw [back_ask h, chunks_whole, decide_eq_true rfl, decide_eq_true rfl]
  rfl
theorem back_no {S : ByteArray} {z : Int} (h : z ≠ (S.size : Int)) : chkB (chunks S (cn S)) z (tagOf S) = false := by
  unfold chkB
  rw [chunks_whole, decide_eq_false (show ¬ (S.size : Int) = z from fun e => h e.symm), Bool.false_and, Bool.and_false]
theorem bjoin_is {A : Option Addr} {n c : Nat} {L : List ByteArray} {w : World} {z : Int} {t : Int × Int} {s : ByteArray} {r : Int} (h : Sl w A n c L) (hs : joinS L z t = s) (hr : chkE L z t = r) :
    Calls Try.prog 11 #[.slice A n c, .int .i64 z, tagV t] w fun e w' => e = .returned (.tuple #[.string s, .int .i64 r]) ∧ Ext w w' := by
  subst hs hr
  exact bjoin_any h z t
theorem check_is {A : Option Addr} {n c : Nat} {L : List ByteArray} {w : World} {z : Int} {t : Int × Int} {r : Int} (h : Sl w A n c L) (hr : chkE L z t = r) : Calls Try.prog 14 #[.slice A n c, .int .i64 z, tagV t] w fun e w' => e = .returned (.int .i64 r) ∧ Ext w w' := by
  subst hr
  exact check_any h z t

set_option maxRecDepth 100000 in
set_option maxHeartbeats 4000000 in
theorem back_walk {w : World} (S : ByteArray) (hS : S.size ≤ 9223372036854775807) (z : Int) (_wz : (Lit.int IntKind.i64 z).wf = true) :
    Calls Try.prog 5 #[.string S, .int .i64 z] w fun e w' => e = .returned (.bool true) ∧ Below w.heap.size w w' := by
  by_cases hb : S.size ≤ 2560
  · have hcE : cutE S = 0 := by simp [cutE, hb]
    have hcL : cutL S = chunks S (cn S) := by simp [cutL, hb]
    have HCE := Lib.hid hcE
    have HCL := Lib.hid hcL
    have y := back_yes hb
    have Y1 := Lib.hid (show joinS (chunks S (cn S)) (S.size : Int) (tagOf S) = S by unfold joinS; rw [if_pos y, chunks_whole])
    have Y2 := Lib.hid (chk_yes y)
    clear hcE hcL y
    go_enter Try.func5, Try.ntmps5
    go_wp2_with fail
    refine (cut_any S _ hS).mono ?_
    rintro e w1 ⟨⟨v, k, rfl, ho, hk⟩, x1⟩
    rw [HCE.out]
    rw [HCL.out] at ho
    obtain ⟨B, d, rfl, hB⟩ := ho.slice (by omega)
    clear ho
    have hcv := run_tobytes S
    go_wp2_with fail
    refine (of_any (by_bytes S _ hS)).mono ?_
    rintro e w2 ⟨rfl, x2⟩
    have X2 := Ext.of (Ext.of x1 (ext_bytes w1 5 S)) x2
    have hB2 := (hB.ext (ext_bytes w1 5 S)).ext x2
    have hA := Cel.new w2 (tagOf S).1 (tagOf S).2 24
    have hxA := Ext.al w2 (.cells #[.int .i64 (tagOf S).1, .int .i64 (tagOf S).2] 24)
    have X3 := Ext.of X2 hxA
    have hB3 := hB2.ext hxA
    clear hcv X2 hB2 hxA x1 x2 hB
    have hA' := hA
    obtain ⟨-, c0, c1, -, -⟩ := hA'
    go_wp2_with fail
    refine (bjoin_is (t := tagOf S) hB3 Y1.out Y2.out).mono ?_
    rintro e w3 ⟨rfl, x3⟩
    have X4 := Ext.of X3 x3
    have hB4 := hB3.ext x3
    have hA4 := hA.ext x3
    clear X3 hB3 hA x3 c0 c1
    have hA' := hA4
    obtain ⟨-, c0, c1, -, -⟩ := hA'
    have hbz : decide (2560 < (S.size : Int)) = false := decide_eq_false (by omega)
    go_wp2_with fail
    refine (check_is (t := tagOf S) hB4 Y2.out).mono ?_
    rintro e w4 ⟨rfl, x4⟩
    have X5 := Ext.of X4 x4
    have hB5 := hB4.ext x4
    have hA5 := hA4.ext x4
    clear X4 hB4 hA4 x4 c0 c1
    by_cases hz : z = (S.size : Int)
    · have hzb : (z == (S.size : Int)) = true := by simpa using hz
      clear hz
      go_wp2_with fail
      refine (lives_any _).mono ?_
      rintro e w5 ⟨rfl, x5⟩
      have X6 := Ext.of X5 x5
      go_wp2
      go_ret
      exact ⟨rfl, X6⟩
    · have hzb : (z == (S.size : Int)) = false := by simpa using hz
      have n := back_no hz
      have N1 := Lib.hid (show joinS (chunks S (cn S)) z (tagOf S) = ⟨#[]⟩ by unfold joinS; rw [if_neg (by rw [n]; decide)])
      have N2 := Lib.hid (chk_no n)
      clear hz n
      obtain ⟨-, c0, c1, -, -⟩ := hA5
      go_wp2_with fail
      refine (bjoin_is (t := tagOf S) hB5 N1.out N2.out).mono ?_
      rintro e w5 ⟨rfl, x5⟩
      have X6 := Ext.of X5 x5
      clear c0 c1 x5 X5
      go_wp2_with fail
      refine (lives_any _).mono ?_
      rintro e w6 ⟨rfl, x6⟩
      have X7 := Ext.of X6 x6
      go_wp2
      go_ret
      exact ⟨rfl, X7⟩
  · have hcE : cutE S = 5 := by simp [cutE, hb]
    have hcL : cutL S = [] := by simp [cutL, hb]
    have HCE := Lib.hid hcE
    have HCL := Lib.hid hcL
    have hbz : decide (2560 < (S.size : Int)) = true := decide_eq_true (by omega)
    clear hcE hcL
    go_enter Try.func5, Try.ntmps5
    go_wp2_with fail
    refine (cut_any S _ hS).mono ?_
    rintro e w1 ⟨⟨v, k, rfl, ho, hk⟩, x1⟩
    rw [HCE.out]
    rw [HCL.out] at ho
    obtain ⟨B, d, rfl, hB⟩ := ho.slice (by omega)
    obtain rfl : k = 0 := hB.len.symm
    clear ho hB
    go_wp2_with fail
    refine (lives_any _).mono ?_
    rintro e w5 ⟨rfl, x5⟩
    have X6 := Ext.of x1 x5
    go_wp2
    go_ret
    exact ⟨rfl, X6⟩

set_option maxRecDepth 100000 in
theorem back_lifted (os : Os) (started : os.Started) (H : Type) (enc : TypeId × Value → H) :
    ReturnsInHanded {} Try.checked os 5 .any (Rows.blobBackSpec.pre6 enc Try.prog Try.f5 Rows.blobBackRow.domain false) (Rows.blobBackSpec.post enc Try.prog Try.f5 false true false false) := by
  refine returnsInHanded_of_change (C := Try.checked) ownK started (by kernel_rfl) Try.func5
    (ChangeSpec.witness6 (enc := enc) (C := Try.checked) false ⟨#[], #[.string ⟨#[]⟩, .int .i64 0], []⟩ 8 (by kernel_rfl) (by kernel_rfl) (by kernel_rfl) (by kernel_rfl)) ?_
  intro W base args ds gs before hval0 hW hcnd _
  have hval : ∀ (j : Nat) t v, Try.f5.params[j]? = some t → args[j]? = some v → Value.okWide Try.prog W .any base t v := hval0
  have hW' := hW
  obtain ⟨p, q, hA0, hV, rfl, hfz, hnd⟩ := hW
  have hA : DataW.TrodAll enc Try.prog W 0 (fun _ => true) true Try.f5.params.toList args.toList ds p := hA0
  rw [Try.params5] at hA hval
  obtain ⟨v0, vs0, d0, ds0, p0, q0, hargs, rfl, rfl, h0, r0⟩ := trodAll_cons hA
  obtain ⟨v1, vs1, d1, ds1, p1, q1, rfl, rfl, rfl, h1, r1⟩ := trodAll_cons r0
  obtain ⟨rfl, rfl, rfl⟩ := trodAll_nil r1
  obtain rfl : args = #[v0, v1] := by cases args; simp_all
  obtain ⟨rfl, rfl⟩ := trodVars_none hV
  have k0 := h0
  have lt0 : ∀ x ∈ p0, x.block < W.heap.size := by obtain ⟨m, hm⟩ := k0; exact DataW.trod_lt m _ _ _ hm
  obtain ⟨s0, rfl, hs0⟩ := open_text (hval 0 9 v0 rfl rfl) h0
  obtain ⟨a1, rfl, rfl, rfl, w1⟩ := open_int Try.underlying3 (hval 1 3 v1 rfl rfl) h1
  clear hA0 hval0
  refine (back_walk (w := W) s0 hs0 a1 w1).mono fun e W' ⟨he, bel⟩ => ?_
  subst he
  exact ⟨_, rfl, _, _, _, [], _, [], hW', trodAll_mk1 (shut_bool Try.underlying4 _), (trodAll_cons_mk (Below.trod laidOut (by kernel_rfl) (of_decide_eq_true (by kernel_rfl)) k0 bel lt0) (trodAll_cons_mk (shut_int Try.underlying3 w1) trodAll_mk0)), rfl, bel.frame _, fun h => by cases h⟩

theorem back_over : Rows.blobBackRow.holds Try.pinned (OpenSpec.ofChange Rows.blobBackSpec) :=
  OpenClaim.holds_of_wide 5 Try.f5 rfl rfl rfl rfl rfl rfl rfl ⟨rfl, rfl, rfl, rfl, rfl⟩ rfl rfl rfl rfl rfl (by kernel_rfl) Try.func5 (by kernel_rfl)
    (of_decide_eq_true (by kernel_rfl)) (by unfold Func.isWrapper; first | (rw [if_pos (by decide +kernel)]; kernel_rfl) | (rw [if_neg (by decide +kernel)]; exact ⟨rfl, rfl⟩))
    (fun os started H enc _ => back_lifted os started H enc)

/-- The statement. -/
theorem back_holds : Rows.BlobBackSaid := back_over

#print axioms back_holds
end Go.Proofs.Ytpfjikkpfnmepaa
