/-
  RetainParts returns true for every input. No condition.
-/
import Derived.Test.YtehbdgbolbbgkaaLives
import Derived.Test.YtehbdgbolbbgkaaLaws
import Derived.Test.YtehbdgbolbbgkaaOpen
import Derived.Test.YtehbdgbolbbgkaaRows
namespace Go.Proofs.Ytehbdgbolbbgkaa
open Go.RowKit Go.ChangeShapes Go.WideShapes Go.ChangeAt

theorem among_is {A : Option Addr} {n c : Nat} {L : List Int} {x : Int} {k : Int} {w : World} (h : Sl w A n c L) (hk : (amongN L x : Int) = k) :
    Calls Try.prog 17 #[.slice A n c, .int .i64 x] w fun e w' => e = .returned (.int .i64 k) ∧ Ext w w' := by
  subst hk
  exact among_any x h

set_option maxHeartbeats 4000000 in
theorem parts_walk {w : World} (A : Option Addr) (n c : Nat) (L : List Int) (_hn : n ≤ 9223372036854775807) (hS : n ≤ 1000 → Sl w A n c L) (l e r : Int) (_hok : Num l ∧ Num e ∧ Num r) :
    Calls Try.prog 4 #[.slice A n c, .agg #[.int .i64 l, .int .i64 e, .int .i64 r]] w fun x w' => x = .returned (.bool true) ∧ Below w.heap.size w w' := by
  have x0 := Ext.alloc w (.cells #[.int .i64 l, .int .i64 e, .int .i64 r] 24)
  obtain ⟨g0, g1, g2⟩ := pol_new w l e r 24
  by_cases hbig : n ≤ 300
  · have h := hS (by omega)
    have hs0 := h.ext x0
    have HL := Lib.hid h.len
    obtain ⟨z, hz⟩ : ∃ z, kchk L ⟨l, e, r⟩ = z := ⟨_, rfl⟩
    obtain ⟨m, hm⟩ : ∃ m, headOf (inL L ⟨l, e, r⟩) = m := ⟨_, rfl⟩
    have HZ := Lib.hid hz
    have HM := Lib.hid hm
    clear hS hz hm
    go_enter Try.func4, Try.ntmps4
    go_wp2_with fail
    refine (keep_is hs0 keep_eq HZ.out).mono ?_
    rintro y w3 ⟨⟨v3, n3, rfl, hn3, ho3⟩, x3⟩
    obtain ⟨A3, c3, rfl, hs3⟩ := ho3.slice (by omega)
    have X3 := Ext.of x0 x3
    have e0 := x3.cell g0
    have e1 := x3.cell g1
    have e2 := x3.cell g2
    have hl3 := hs0.ext x3
    clear x0 x3 g0 g1 g2 hs0 ho3
    go_wp2_with fail
    refine (next_is hl3 rfl HZ.out).mono ?_
    rintro y w4 ⟨⟨A4, n4, c4, rfl, hs4⟩, x4⟩
    have X4 := Ext.of X3 x4
    have f0 := x4.cell e0
    have f1 := x4.cell e1
    have f2 := x4.cell e2
    have hl4 := hl3.ext x4
    have hs34 := hs3.ext x4
    clear X3 x4 e0 e1 e2 hl3 hs3
    go_wp2_with fail
    refine (mark_is (m := m) hl4 (by rw [keep_eq]; exact HM.out) HZ.out).mono ?_
    rintro y w5 ⟨rfl, x5⟩
    have X5 := Ext.of X4 x5
    have e0 := x5.cell f0
    have e1 := x5.cell f1
    have e2 := x5.cell f2
    have hl5 := hl4.ext x5
    have hs35 := hs34.ext x5
    have hs45 := hs4.ext x5
    clear X4 x5 f0 f1 f2 hl4 hs34 hs4
    have ez : (z != z) = false := by simp
    have ez' : (z == z) = true := by simp
    by_cases hz0 : z = 0
    · subst hz0
      obtain ⟨hl1, hl2, he1, he2, hr1, hr2⟩ := pol_of (kchk_zero HZ.out).1
      simp only at hl1 hl2 he1 he2 hr1 hr2
      have hsum : n3 + n4 = n := by have := in_out HZ.out; have := hs35.len; have := hs45.len; have := HL.out; omega
      have hcap : (n3 : Int) ≤ l + r := by have := in_len HZ.out; have := hs35.len; simp only at *; omega
      have hsum' : ((n3 : Int) + n4 != n) = false := by have : (n3 : Int) + n4 = n := by omega
                                                        simp [this]
      go_wp2
      go_loopw [11] (fun a wr => ∃ i : Nat, i ≤ n ∧ a = .int .i64 i ∧ Ext w5 wr) (fun a _ => n - (intOf a).toNat)
      case atStart => exact ⟨0, by omega, rfl, Below.refl _ _⟩
      case round =>
        obtain ⟨i, hi, rfl, hx⟩ := hrel
        by_cases hlt : i < n
        · obtain ⟨b, off, rfl, ha⟩ := hl5.at_ (by omega)
          obtain ⟨v, hv, hv1, hv2⟩ := hl5.get hlt
          have c0 := Later.cell (hx.cell (ha _ _ hv.out))
          have d0 := Later.cell (hx.cell e0)
          have hA := hs35.ext hx
          have hB := hs45.ext hx
          have a1 := among_in HZ.out hv.out
          have a2 := among_out HZ.out hv.out
          cases hk : keptB L ⟨l, e, r⟩ i with
          | true =>
            rw [hk] at a1 a2
            have k1 := Lib.hid (show (amongN (inL L ⟨l, e, r⟩) v : Int) = 1 by rw [a1]; rfl)
            have k2 := Lib.hid (show (amongN (outL L ⟨l, e, r⟩) v : Int) = 0 by rw [a2]; rfl)
            clear a1 a2 hk
            cases hd : decide ((n : Int) - l ≤ i) with
            | true =>
              go_wp2
              refine wp_region_later (by kernel_rfl) (by kernel_rfl) ?_
              repeat (go_big_quiet_step ((go_at_call 17; first | exact Calls.later (among_is (hA.ext (Later.is _)) k1.out) | exact Calls.later (among_is (hB.ext (Later.is _)) k2.out))))
              refine wpQuiet_nil ?_
              intro w8 x8
              have hx8 := Ext.of hx x8
              clear hx x8 c0 d0 hA hB
              go_wp2
              go_roundw
              case rel => exact ⟨i + 1, by omega, by go_num, hx8⟩
              case measure => simp [intOf]; omega
            | false =>
              go_wp2
              refine wp_region_later (by kernel_rfl) (by kernel_rfl) ?_
              repeat (go_big_quiet_step ((go_at_call 17; first | exact Calls.later (among_is (hA.ext (Later.is _)) k1.out) | exact Calls.later (among_is (hB.ext (Later.is _)) k2.out))))
              refine wpQuiet_nil ?_
              intro w8 x8
              have hx8 := Ext.of hx x8
              clear hx x8 c0 d0 hA hB
              go_wp2
              go_roundw
              case rel => exact ⟨i + 1, by omega, by go_num, hx8⟩
              case measure => simp [intOf]; omega
          | false =>
            rw [hk] at a1 a2
            have k1 := Lib.hid (show (amongN (inL L ⟨l, e, r⟩) v : Int) = 0 by rw [a1]; rfl)
            have k2 := Lib.hid (show (amongN (outL L ⟨l, e, r⟩) v : Int) = 1 by rw [a2]; rfl)
            have hd : decide ((n : Int) - l ≤ i) = false := by
              refine decide_eq_false fun hle => ?_
              have := kept_last HZ.out (i := i) (by rw [HL.out]; exact hle)
              rw [hk] at this
              cases this
            clear a1 a2 hk
            go_wp2
            refine wp_region_later (by kernel_rfl) (by kernel_rfl) ?_
            repeat (go_big_quiet_step ((go_at_call 17; first | exact Calls.later (among_is (hA.ext (Later.is _)) k1.out) | exact Calls.later (among_is (hB.ext (Later.is _)) k2.out))))
            refine wpQuiet_nil ?_
            intro w8 x8
            have hx8 := Ext.of hx x8
            clear hx x8 c0 d0 hA hB
            go_wp2
            go_roundw
            case rel => exact ⟨i + 1, by omega, by go_num, hx8⟩
            case measure => simp [intOf]; omega
        · have X6 := Ext.of X5 hx
          have hA := hs35.ext hx
          clear X5 e0 e1 e2 hl5 hs35 hs45
          go_wp2
          go_loopw [12] (fun a w'' => ∃ i : Nat, i ≤ n3 ∧ a = .int .i64 i ∧ Ext wr w'') (fun a _ => n3 - (intOf a).toNat)
          case atStart => exact ⟨0, by omega, rfl, Below.refl _ _⟩
          case round =>
            obtain ⟨j, hj, rfl, hy⟩ := hrel
            by_cases hlj : j < n3
            · obtain ⟨b, off, rfl, ha⟩ := hA.at_ (by omega)
              obtain ⟨u, hu, hu1, hu2⟩ := hA.get hlj
              have c0 := hy.cell (ha _ _ hu.out)
              have hle : m ≤ u := by rw [← HM.out]; exact head_le (in_ups HZ.out) hu.out
              go_wp2
              go_roundw
              case rel => exact ⟨j + 1, by omega, by go_num, hy⟩
              case measure => simp [intOf]; omega
            · have XX := Ext.of X6 hy
              have he0 : ((n : Int) == 0) = (m == 0) := by
                have := head_zero HZ.out
                rw [HM.out, HL.out] at this
                by_cases h0 : n = 0
                · rw [h0, this.2 h0]; rfl
                · have h1 : m ≠ 0 := fun e => h0 (this.1 e)
                  have h2 : (n : Int) ≠ 0 := by omega
                  rw [beq_eq_false_iff_ne.2 h1, beq_eq_false_iff_ne.2 h2]
              clear hy X6 hx hA
              go_wp2_with fail
              refine (lives_any _).mono ?_
              rintro y w9 ⟨rfl, x9⟩
              have X9 := Ext.of XX x9
              clear XX x9
              go_wp2
              go_ret
              exact ⟨rfl, X9⟩
    · have hz' : (z != 0) = true := by simpa using hz0
      have en3 : n3 = 0 := by have := hs35.len; rw [inL_no (by rw [HZ.out]; exact hz0)] at this; simpa using this.symm
      have en4 : n4 = 0 := by have := hs45.len; rw [outL_no (by rw [HZ.out]; exact hz0)] at this; simpa using this.symm
      have em : m = 0 := by rw [← HM.out, inL_no (by rw [HZ.out]; exact hz0)]; rfl
      subst en3 en4 em
      clear hz0
      go_wp2_with fail
      refine (lives_any _).mono ?_
      rintro y w7 ⟨rfl, x7⟩
      have X := Ext.of X5 x7
      clear X5 x7
      go_wp2
      go_ret
      exact ⟨rfl, X⟩
  · clear hS
    go_enter Try.func4, Try.ntmps4
    go_wp2_with fail
    refine (lives_any _).mono ?_
    rintro y w7 ⟨rfl, x7⟩
    have X := Ext.of x0 x7
    clear x0 x7
    go_wp2
    go_ret
    exact ⟨rfl, X⟩

set_option maxRecDepth 100000 in
theorem parts_lifted (os : Os) (started : os.Started) (H : Type) (enc : TypeId × Value → H) :
    ReturnsInHanded {} Try.checked os 4 .any (Rows.retainPartsSpec.pre6 enc Try.prog Try.f4 Rows.retainPartsRow.domain false) (Rows.retainPartsSpec.post enc Try.prog Try.f4 false true false false) := by
  refine returnsInHanded_of_change (C := Try.checked) ownK started (by kernel_rfl) Try.func4
    (ChangeSpec.witness6 (enc := enc) (C := Try.checked) false ⟨#[], #[.slice none 0 0, .agg #[.int .i64 0, .int .i64 0, .int .i64 0]], []⟩ 8 (by kernel_rfl) (by kernel_rfl) (by kernel_rfl) (by kernel_rfl)) ?_
  intro W base args ds gs before hval0 hW hcnd _
  have hval : ∀ (j : Nat) t v, Try.f4.params[j]? = some t → args[j]? = some v → Value.okWide Try.prog W .any base t v := hval0
  have hW' := hW
  obtain ⟨p, q, hA0, hV, rfl, hfz, hnd⟩ := hW
  have hA : DataW.TrodAll enc Try.prog W 0 (fun _ => true) true Try.f4.params.toList args.toList ds p := hA0
  rw [Try.params4] at hA hval
  obtain ⟨v0, vs0, d0, ds0, p0, q0, hargs, rfl, rfl, h0, r0⟩ := trodAll_cons hA
  obtain ⟨v1, vs1, d1, ds1, p1, q1, rfl, rfl, rfl, h1, r1⟩ := trodAll_cons r0
  obtain ⟨rfl, rfl, rfl⟩ := trodAll_nil r1
  obtain rfl : args = #[v0, v1] := by cases args; simp_all
  obtain ⟨rfl, rfl⟩ := trodVars_none hV
  have k0 := h0
  have lt0 : ∀ x ∈ p0, x.block < W.heap.size := by obtain ⟨m, hm⟩ := k0; exact DataW.trod_lt m _ _ _ hm
  obtain ⟨A0, n0, c0, L0, rfl, hn0, hS0⟩ := open_nums (hval 0 22 v0 rfl rfl) h0
  have k1 := h1
  have lt1 : ∀ x ∈ p1, x.block < W.heap.size := by obtain ⟨m, hm⟩ := k1; exact DataW.trod_lt m _ _ _ hm
  obtain ⟨x1, y1, z1, rfl, hok1⟩ := open_policy (hval 1 24 v1 rfl rfl) h1
  clear hA0 hval0
  refine (parts_walk (w := W) A0 n0 c0 L0 hn0 hS0 x1 y1 z1 hok1).mono fun e W' ⟨he, bel⟩ => ?_
  subst he
  exact ⟨_, rfl, _, _, _, [], _, [], hW', trodAll_mk1 (shut_bool Try.underlying4 _), (trodAll_cons_mk (Below.trod laidOut (by kernel_rfl) (of_decide_eq_true (by kernel_rfl)) k0 bel lt0) (trodAll_cons_mk (Below.trod laidOut (by kernel_rfl) (of_decide_eq_true (by kernel_rfl)) k1 bel lt1) trodAll_mk0)), rfl, bel.frame _, fun h => by cases h⟩

theorem parts_over : Rows.retainPartsRow.holds Try.pinned (OpenSpec.ofChange Rows.retainPartsSpec) :=
  OpenClaim.holds_of_wide 4 Try.f4 rfl rfl rfl rfl rfl rfl rfl ⟨rfl, rfl, rfl, rfl, rfl⟩ rfl rfl rfl rfl rfl (by kernel_rfl) Try.func4 (by kernel_rfl)
    (of_decide_eq_true (by kernel_rfl)) (by unfold Func.isWrapper; first | (rw [if_pos (by decide +kernel)]; kernel_rfl) | (rw [if_neg (by decide +kernel)]; exact ⟨rfl, rfl⟩))
    (fun os started H enc _ => parts_lifted os started H enc)

/-- The statement. -/
theorem parts_holds : Rows.RetainPartsSaid := parts_over

#print axioms parts_holds
end Go.Proofs.Ytehbdgbolbbgkaa
