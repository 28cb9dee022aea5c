/-
  RetainRows returns true for every input. No condition.
-/
import Derived.Test.YtehbdgbolbbgkaaLives
import Derived.Test.YtehbdgbolbbgkaaLaws2
import Derived.Test.YtehbdgbolbbgkaaOpen
import Derived.Test.YtehbdgbolbbgkaaRows
namespace Go.Proofs.Ytehbdgbolbbgkaa
open Go.RowKit Go.ChangeShapes Go.WideShapes Go.ChangeAt

set_option maxHeartbeats 4000000 in
theorem rows_walk {w : World} (A : Option Addr) (n c : Nat) (L : List Int) (_hn : n ≤ 9223372036854775807) (hS : n ≤ 1000 → Sl w A n c L) (l e r : Int) (_hok : Num l ∧ Num e ∧ Num r) :
    Calls Try.prog 7 #[.slice A n c, .agg #[.int .i64 l, .int .i64 e, .int .i64 r]] w fun x w' => x = .returned (.bool true) ∧ Below w.heap.size w w' := by
  have x0 := Ext.alloc w (.cells #[.int .i64 l, .int .i64 e, .int .i64 r] 24)
  obtain ⟨g0, g1, g2⟩ := pol_new w l e r 24
  by_cases hbig : n ≤ 300
  · have h := hS (by omega)
    have hs0 := h.ext x0
    have HL := Lib.hid h.len
    obtain ⟨z, hz⟩ : ∃ z, kchk L ⟨l, e, r⟩ = z := ⟨_, rfl⟩
    have HZ := Lib.hid hz
    clear hS hz
    go_enter Try.func7, Try.ntmps7
    go_wp2_with fail
    refine (keep_is hs0 keep_eq HZ.out).mono ?_
    rintro y w3 ⟨⟨v3, n3, rfl, hn3, ho3⟩, x3⟩
    obtain ⟨A3, c3, rfl, hs3⟩ := ho3.slice (by omega)
    have X3 := Ext.of x0 x3
    have e0 := x3.cell g0
    have e1 := x3.cell g1
    have e2 := x3.cell g2
    clear x0 x3 g0 g1 g2 hs0 ho3
    by_cases hz0 : z = 0
    · subst hz0
      obtain ⟨hl1, hl2, he1, he2, hr1, hr2⟩ := pol_of (kchk_zero HZ.out).1
      simp only at hl1 hl2 he1 he2 hr1 hr2
      have HN := Lib.hid hs3.len
      go_wp2
      go_loopw [7] (fun a wr => ∃ i : Nat, a = .int .i64 ((i + 1 : Nat) : Int) ∧ Ext w3 wr) (fun a _ => n3 - (intOf a).toNat)
      case atStart => exact ⟨0, rfl, Below.refl _ _⟩
      case round =>
        obtain ⟨i, rfl, hx⟩ := hrel
        have d0 := hx.cell e0
        by_cases hlt : ((i + 1 : Nat) : Int) < n3 - l
        · obtain ⟨b, off, rfl, ha⟩ := hs3.at_ (by omega)
          obtain ⟨v, hv, hv1, hv2⟩ := hs3.get (k := i) (by omega)
          obtain ⟨u, hu, hu1, hu2⟩ := hs3.get (k := i + 1) (by omega)
          obtain ⟨p1, p2⟩ := rise_mem (kchk_zero HZ.out).2 (in_mem (List.mem_of_getElem? hv.out))
          obtain ⟨q1, q2⟩ := rise_mem (kchk_zero HZ.out).2 (in_mem (List.mem_of_getElem? hu.out))
          have hfar := rows_far HZ.out (i := i) (by rw [HN.out]; exact hlt) hv.out hu.out
          simp only at hfar
          have hf' : (u / e == v / e) = false := by simpa using hfar
          have c0 := Later.cell (hx.cell (ha _ _ hv.out))
          have c1 := Later.cell (hx.cell (ha _ _ hu.out))
          have d1 := Later.cell (hx.cell e1)
          have he' : decide (e < 1) = false := by simp; omega
          clear hfar
          go_wp2
          refine wp_region_later (by kernel_rfl) (by kernel_rfl) ?_
          repeat (go_big_quiet_step (fail))
          refine wpQuiet_nil ?_
          intro w8 x8
          have hx8 := Ext.of hx x8
          clear hx x8 c0 c1 d0 d1
          go_wp2
          go_roundw
          case rel => exact ⟨i + 1, by go_num, hx8⟩
          case measure => simp [intOf]; omega
        · have XX := Ext.of X3 hx
          go_wp2_with fail
          refine (lives_any _).mono ?_
          rintro y w9 ⟨rfl, x9⟩
          have X9 := Ext.of XX x9
          clear XX x9
          go_wp2
          go_ret
          exact ⟨rfl, X9⟩
    · have hz' : (z != 0) = true := by simpa using hz0
      clear hz0
      go_wp2_with fail
      refine (lives_any _).mono ?_
      rintro y w7 ⟨rfl, x7⟩
      have X := Ext.of X3 x7
      clear X3 x7
      go_wp2
      go_ret
      exact ⟨rfl, X⟩
  · clear hS
    go_enter Try.func7, Try.ntmps7
    go_wp2_with fail
    refine (lives_any _).mono ?_
    rintro y w7 ⟨rfl, x7⟩
    have X := Ext.of x0 x7
    clear x0 x7
    go_wp2
    go_ret
    exact ⟨rfl, X⟩

set_option maxRecDepth 100000 in
theorem rowz_lifted (os : Os) (started : os.Started) (H : Type) (enc : TypeId × Value → H) :
    ReturnsInHanded {} Try.checked os 7 .any (Rows.retainRowsSpec.pre6 enc Try.prog Try.f7 Rows.retainRowsRow.domain false) (Rows.retainRowsSpec.post enc Try.prog Try.f7 false true false false) := by
  refine returnsInHanded_of_change (C := Try.checked) ownK started (by kernel_rfl) Try.func7
    (ChangeSpec.witness6 (enc := enc) (C := Try.checked) false ⟨#[], #[.slice none 0 0, .agg #[.int .i64 0, .int .i64 0, .int .i64 0]], []⟩ 8 (by kernel_rfl) (by kernel_rfl) (by kernel_rfl) (by kernel_rfl)) ?_
  intro W base args ds gs before hval0 hW hcnd _
  have hval : ∀ (j : Nat) t v, Try.f7.params[j]? = some t → args[j]? = some v → Value.okWide Try.prog W .any base t v := hval0
  have hW' := hW
  obtain ⟨p, q, hA0, hV, rfl, hfz, hnd⟩ := hW
  have hA : DataW.TrodAll enc Try.prog W 0 (fun _ => true) true Try.f7.params.toList args.toList ds p := hA0
  rw [Try.params7] at hA hval
  obtain ⟨v0, vs0, d0, ds0, p0, q0, hargs, rfl, rfl, h0, r0⟩ := trodAll_cons hA
  obtain ⟨v1, vs1, d1, ds1, p1, q1, rfl, rfl, rfl, h1, r1⟩ := trodAll_cons r0
  obtain ⟨rfl, rfl, rfl⟩ := trodAll_nil r1
  obtain rfl : args = #[v0, v1] := by cases args; simp_all
  obtain ⟨rfl, rfl⟩ := trodVars_none hV
  have k0 := h0
  have lt0 : ∀ x ∈ p0, x.block < W.heap.size := by obtain ⟨m, hm⟩ := k0; exact DataW.trod_lt m _ _ _ hm
  obtain ⟨A0, n0, c0, L0, rfl, hn0, hS0⟩ := open_nums (hval 0 22 v0 rfl rfl) h0
  have k1 := h1
  have lt1 : ∀ x ∈ p1, x.block < W.heap.size := by obtain ⟨m, hm⟩ := k1; exact DataW.trod_lt m _ _ _ hm
  obtain ⟨x1, y1, z1, rfl, hok1⟩ := open_policy (hval 1 24 v1 rfl rfl) h1
  clear hA0 hval0
  refine (rows_walk (w := W) A0 n0 c0 L0 hn0 hS0 x1 y1 z1 hok1).mono fun e W' ⟨he, bel⟩ => ?_
  subst he
  exact ⟨_, rfl, _, _, _, [], _, [], hW', trodAll_mk1 (shut_bool Try.underlying4 _), (trodAll_cons_mk (Below.trod laidOut (by kernel_rfl) (of_decide_eq_true (by kernel_rfl)) k0 bel lt0) (trodAll_cons_mk (Below.trod laidOut (by kernel_rfl) (of_decide_eq_true (by kernel_rfl)) k1 bel lt1) trodAll_mk0)), rfl, bel.frame _, fun h => by cases h⟩

theorem rowz_over : Rows.retainRowsRow.holds Try.pinned (OpenSpec.ofChange Rows.retainRowsSpec) :=
  OpenClaim.holds_of_wide 7 Try.f7 rfl rfl rfl rfl rfl rfl rfl ⟨rfl, rfl, rfl, rfl, rfl⟩ rfl rfl rfl rfl rfl (by kernel_rfl) Try.func7 (by kernel_rfl)
    (of_decide_eq_true (by kernel_rfl)) (by unfold Func.isWrapper; first | (rw [if_pos (by decide +kernel)]; kernel_rfl) | (rw [if_neg (by decide +kernel)]; exact ⟨rfl, rfl⟩))
    (fun os started H enc _ => rowz_lifted os started H enc)

/-- The statement. -/
theorem rowz_holds : Rows.RetainRowsSaid := rowz_over

#print axioms rowz_holds
end Go.Proofs.Ytehbdgbolbbgkaa
