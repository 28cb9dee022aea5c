/-
  BlobNeeds returns true for every input. No condition.
-/
import Derived.Test.YtpfjikkpfnmepaaLives
import Derived.Test.YtpfjikkpfnmepaaPiece
import Derived.Test.YtpfjikkpfnmepaaOpen
import Derived.Test.YtpfjikkpfnmepaaRows
namespace Go.Proofs.Ytpfjikkpfnmepaa
open Go.RowKit Go.ChangeShapes Go.WideShapes Go.ChangeAt

set_option maxHeartbeats 4000000 in
theorem needs_walk {w : World} (s : Int) (_ws : (Lit.int IntKind.i64 s).wf = true) (f : Int) (wf : (Lit.int IntKind.i64 f).wf = true) (m : Int) (wm : (Lit.int IntKind.i64 m).wf = true)
    (A : Option Addr) (n c : Nat) (L : List ByteArray) (hn : n ≤ 9223372036854775807) (hS : n ≤ 1000 → Sl w A n c L) (g : Int) (_wg : (Lit.int IntKind.i64 g).wf = true) :
    Calls Try.prog 4 #[.int .i64 s, .int .i64 f, .int .i64 m, .slice A n c, .int .i64 g] w fun x w' => x = .returned (.bool true) ∧ Below w.heap.size w w' := by
  have HF : Hid (Num64 f) := bounds_i64 wf
  have HM : Hid (Num64 m) := bounds_i64 wm
  have hL : L.length = n ∨ 1000 < n := by
    rcases Nat.lt_or_ge 1000 n with h | h
    · exact .inr h
    · exact .inl (hS h).len
  cases hq : (decide (n ≤ 1000) && fewB L) with
  | true =>
    rw [Bool.and_eq_true] at hq
    have h := hS (of_decide_eq_true hq.1)
    have HT := Lib.hid (total_few hq.2)
    have HQ : Hid ((decide (n ≤ 1000) && fewB L) = true) := by show _ = _; rw [hq.1, hq.2]; rfl
    obtain ⟨a1, h1⟩ : ∃ x, need1 s f m = x := ⟨_, rfl⟩
    obtain ⟨a2, h2⟩ : ∃ x, need2 s f m = x := ⟨_, rfl⟩
    obtain ⟨a3, h3⟩ : ∃ x, need3 s f m = x := ⟨_, rfl⟩
    obtain ⟨b1, k1⟩ : ∃ x, pieceS L g f m = x := ⟨_, rfl⟩
    obtain ⟨b2, k2⟩ : ∃ x, pieceE L g f m = x := ⟨_, rfl⟩
    have H1 := Lib.hid h1
    have H2 := Lib.hid h2
    have H3 := Lib.hid h3
    have K1 := Lib.hid k1
    have K2 := Lib.hid k2
    have q1 : (a1 == a1) = true := by simp
    have q2 : (a2 == a2) = true := by simp
    have q3 : (a3 == a3) = true := by simp
    have q4 : (b2 == b2) = true := by simp
    clear hq h1 h2 h3 k1 k2
    go_enter Try.func4, Try.ntmps4
    go_wp2_with fail
    refine (few_any hS hn hL).mono ?_
    rintro y w1 ⟨rfl, rfl⟩
    rw [HQ.out]
    clear hS hL
    go_wp2_with fail
    refine (need_any s f m _).mono ?_
    rintro y w2 ⟨rfl, x2⟩
    rw [H1.out, H2.out, H3.out]
    have hl2 := h.ext x2
    go_wp2_with fail
    refine (rneed_any s f m _).mono ?_
    rintro y w3 ⟨rfl, x3⟩
    rw [H1.out, H2.out, H3.out]
    have hl3 := hl2.ext x3
    have X3 := Ext.of x2 x3
    clear x2 x3 hl2
    go_wp2_with fail
    refine (piece_any hl3 HT.out HF.out HM.out).mono ?_
    rintro y w4 ⟨rfl, x4⟩
    rw [K1.out, K2.out]
    have hl4 := hl3.ext x4
    have X4 := Ext.of X3 x4
    clear X3 x4 hl3
    go_wp2_with fail
    refine (rpiece_any hl4 HT.out HF.out HM.out).mono ?_
    rintro y w5 ⟨rfl, x5⟩
    rw [K1.out, K2.out]
    have X5 := Ext.of X4 x5
    clear X4 x5 hl4
    go_wp2_with fail
    refine (lives_any _).mono ?_
    rintro y w9 ⟨rfl, x9⟩
    have X9 := Ext.of X5 x9
    clear X5 x9
    go_wp2
    go_ret
    exact ⟨rfl, X9⟩
  | false =>
    have HQ := Lib.hid hq
    clear hq
    go_enter Try.func4, Try.ntmps4
    go_wp2_with fail
    refine (few_any hS hn hL).mono ?_
    rintro y w1 ⟨rfl, rfl⟩
    rw [HQ.out]
    clear hS hL
    go_wp2_with fail
    refine (lives_any _).mono ?_
    rintro y w9 ⟨rfl, x9⟩
    go_wp2
    go_ret
    exact ⟨rfl, x9⟩

set_option maxRecDepth 100000 in
theorem needs_lifted (os : Os) (started : os.Started) (H : Type) (enc : TypeId × Value → H) :
    ReturnsInHanded {} Try.checked os 4 .any (Rows.blobNeedsSpec.pre6 enc Try.prog Try.f4 Rows.blobNeedsRow.domain false) (Rows.blobNeedsSpec.post enc Try.prog Try.f4 false true false false) := by
  refine returnsInHanded_of_change (C := Try.checked) ownK started (by kernel_rfl) Try.func4
    (ChangeSpec.witness6 (enc := enc) (C := Try.checked) false ⟨#[], #[.int .i64 0, .int .i64 0, .int .i64 0, .slice none 0 0, .int .i64 0], []⟩ 8 (by kernel_rfl) (by kernel_rfl) (by kernel_rfl) (by kernel_rfl)) ?_
  intro W base args ds gs before hval0 hW hcnd _
  have hval : ∀ (j : Nat) t v, Try.f4.params[j]? = some t → args[j]? = some v → Value.okWide Try.prog W .any base t v := hval0
  have hW' := hW
  obtain ⟨p, q, hA0, hV, rfl, hfz, hnd⟩ := hW
  have hA : DataW.TrodAll enc Try.prog W 0 (fun _ => true) true Try.f4.params.toList args.toList ds p := hA0
  rw [Try.params4] at hA hval
  obtain ⟨v0, vs0, d0, ds0, p0, q0, hargs, rfl, rfl, h0, r0⟩ := trodAll_cons hA
  obtain ⟨v1, vs1, d1, ds1, p1, q1, rfl, rfl, rfl, h1, r1⟩ := trodAll_cons r0
  obtain ⟨v2, vs2, d2, ds2, p2, q2, rfl, rfl, rfl, h2, r2⟩ := trodAll_cons r1
  obtain ⟨v3, vs3, d3, ds3, p3, q3, rfl, rfl, rfl, h3, r3⟩ := trodAll_cons r2
  obtain ⟨v4, vs4, d4, ds4, p4, q4, rfl, rfl, rfl, h4, r4⟩ := trodAll_cons r3
  obtain ⟨rfl, rfl, rfl⟩ := trodAll_nil r4
  obtain rfl : args = #[v0, v1, v2, v3, v4] := by cases args; simp_all
  obtain ⟨rfl, rfl⟩ := trodVars_none hV
  obtain ⟨a0, rfl, rfl, rfl, w0⟩ := open_int Try.underlying3 (hval 0 3 v0 rfl rfl) h0
  obtain ⟨a1, rfl, rfl, rfl, w1⟩ := open_int Try.underlying3 (hval 1 3 v1 rfl rfl) h1
  obtain ⟨a2, rfl, rfl, rfl, w2⟩ := open_int Try.underlying3 (hval 2 3 v2 rfl rfl) h2
  have k3 := h3
  have lt3 : ∀ x ∈ p3, x.block < W.heap.size := by obtain ⟨m, hm⟩ := k3; exact DataW.trod_lt m _ _ _ hm
  obtain ⟨A3, n3, c3, L3, rfl, hn3, hS3⟩ := open_texts (hval 3 22 v3 rfl rfl) h3
  obtain ⟨a4, rfl, rfl, rfl, w4⟩ := open_int Try.underlying3 (hval 4 3 v4 rfl rfl) h4
  clear hA0 hval0
  refine (needs_walk (w := W) a0 w0 a1 w1 a2 w2 A3 n3 c3 L3 hn3 hS3 a4 w4).mono fun e W' ⟨he, bel⟩ => ?_
  subst he
  exact ⟨_, rfl, _, _, _, [], _, [], hW', trodAll_mk1 (shut_bool Try.underlying4 _), (trodAll_cons_mk (shut_int Try.underlying3 w0) (trodAll_cons_mk (shut_int Try.underlying3 w1) (trodAll_cons_mk (shut_int Try.underlying3 w2) (trodAll_cons_mk (Below.trod laidOut (by kernel_rfl) (of_decide_eq_true (by kernel_rfl)) k3 bel lt3) (trodAll_cons_mk (shut_int Try.underlying3 w4) trodAll_mk0))))), rfl, bel.frame _, fun h => by cases h⟩

theorem needs_over : Rows.blobNeedsRow.holds Try.pinned (OpenSpec.ofChange Rows.blobNeedsSpec) :=
  OpenClaim.holds_of_wide 4 Try.f4 rfl rfl rfl rfl rfl rfl rfl ⟨rfl, rfl, rfl, rfl, rfl⟩ rfl rfl rfl rfl rfl (by kernel_rfl) Try.func4 (by kernel_rfl)
    (of_decide_eq_true (by kernel_rfl)) (by unfold Func.isWrapper; first | (rw [if_pos (by decide +kernel)]; kernel_rfl) | (rw [if_neg (by decide +kernel)]; exact ⟨rfl, rfl⟩))
    (fun os started H enc _ => needs_lifted os started H enc)

/-- The statement. -/
theorem needs_holds : Rows.BlobNeedsSaid := needs_over

#print axioms needs_holds
end Go.Proofs.Ytpfjikkpfnmepaa
