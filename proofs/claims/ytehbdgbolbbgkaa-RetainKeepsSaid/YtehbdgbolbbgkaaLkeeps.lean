/-
  RetainKeeps returns true for every input. No condition.
-/
import Derived.Test.YtehbdgbolbbgkaaLives
import Derived.Test.YtehbdgbolbbgkaaOpen
import Derived.Test.YtehbdgbolbbgkaaRows
namespace Go.Proofs.Ytehbdgbolbbgkaa
open Go.RowKit Go.ChangeShapes Go.WideShapes Go.ChangeAt

theorem Sl.front {w : World} {a : Addr} {n m c : Nat} {L : List Int} (h : Sl w (some a) n c L) (hm : m ≤ n) : Sl w (some a) m c (L.take m) := by
  have h1 := h.cap
  have h2 := h.big
  refine ⟨by rw [List.length_take, h.len]; omega, by omega, by omega, h.wide, fun e => (by cases e), fun x hx => h.ok x (List.mem_of_mem_take hx), fun h0 => ?_⟩
  obtain ⟨b, off, e, ha⟩ := h.at_ (by omega)
  refine ⟨b, off, e, fun i x hx => ?_⟩
  have hi : i < m := by
    have := (List.getElem?_eq_some_iff.1 hx).1
    rw [List.length_take] at this
    omega
  rw [List.getElem?_take_of_lt hi] at hx
  exact ha i x hx

theorem rcheck_is {l e r : Int} {x : Int} (h : pchk ⟨l, e, r⟩ = x) (w : World) : Calls Try.prog 16 #[.agg #[.int .i64 l, .int .i64 e, .int .i64 r]] w fun y w' => y = .returned (.int .i64 x) ∧ Ext w w' := by
  subst h
  exact rcheck_any l e r w

set_option maxHeartbeats 4000000 in
theorem keeps_walk {w : World} (A : Option Addr) (n c : Nat) (L : List Int) (_hn : n ≤ 9223372036854775807) (hS : n ≤ 1000 → Sl w A n c L) (l e r : Int) (_hok : Num l ∧ Num e ∧ Num r) :
    Calls Try.prog 3 #[.slice A n c, .agg #[.int .i64 l, .int .i64 e, .int .i64 r]] w fun x w' => x = .returned (.bool true) ∧ Below w.heap.size w w' := by
  have x0 := Ext.alloc w (.cells #[.int .i64 l, .int .i64 e, .int .i64 r] 24)
  obtain ⟨g0, g1, g2⟩ := pol_new w l e r 24
  by_cases hbig : n ≤ 300
  · have h := hS (by omega)
    obtain ⟨w0, hw0⟩ : ∃ w0, w.alloc (.cells #[.int .i64 l, .int .i64 e, .int .i64 r] 24) = w0 := ⟨_, rfl⟩
    have hsz0 : w0.heap.size = w.heap.size + 1 := by rw [← hw0]; simp
    rw [hw0] at x0 g0 g1 g2
    have hs0 := (h.ext x0).ext (Ext.alloc w0 (.cells #[] 3))
    have o0 := Own.made w0 w0.heap.size (Nat.le_refl _)
    rw [hsz0] at o0
    have xm := Ext.alloc w0 (.cells #[] 3)
    have hm7 : Num (-7) := by unfold Num; omega
    have HN := Lib.hid hm7
    have HW := Lib.hid hw0
    clear hS hm7
    go_enter Try.func3, Try.ntmps3
    go_wp2_with (at_builtin; first
      | (refine wpList_append_int rfl _ _ rfl rfl o0 rfl hs0 (by omega) (by simp [hsz0]) ?_; intro v1 w1 ho1 hg1; rw [Nat.zero_add, List.nil_append] at ho1; have x1 := o0.grows xm (by omega) hg1; clear hg1 o0 xm hs0)
      | (refine wpList_append_int rfl _ _ rfl rfl (ho1.alloc _) rfl (Sl.one _ HN.out) (by omega) (by have := x1.size; simp [hsz0] at this ⊢; omega) ?_; intro v2 w2 ho2 hg2; have X2 := (ho1.alloc _).grows (Ext.of x1 (Ext.alloc w1 (.cells #[.int .i64 (-7)] 3))) (by omega) hg2; obtain ⟨g, c2, rfl⟩ := ownsRow_succ ho2.row; obtain ⟨A2, c3, e2, hs2⟩ := ho2.slice (by omega); cases e2; have hcap := hs2.cap; have k0 := X2.cell g0; have k1 := X2.cell g1; have k2 := X2.cell g2; clear ho1 ho2 hg2 x1))
    obtain ⟨z, hz⟩ : ∃ z, kchk L ⟨l, e, r⟩ = z := ⟨_, rfl⟩
    obtain ⟨m, hm⟩ : ∃ m, headOf (inL L ⟨l, e, r⟩) = m := ⟨_, rfl⟩
    obtain ⟨q, hq⟩ : ∃ q, pchk ⟨l, e, r⟩ = q := ⟨_, rfl⟩
    have HZ := Lib.hid hz
    have HM := Lib.hid hm
    have HQ := Lib.hid hq
    have HX : Sl w2 (some ⟨g, 0, none⟩) n c2 L := by
      have h1 := hs2.front (m := n) (by omega)
      rwa [List.take_append_of_le_length (by have := h.len; omega), List.take_of_length_le (by have := h.len; omega)] at h1
    have c7 : w2.cell? ⟨g, n, none⟩ = some (.int .i64 (-7)) := by
      obtain ⟨b, off, e2, ha⟩ := hs2.at_ (by omega)
      cases e2
      have h1 := ha n (-7) (by rw [List.getElem?_append_right (by have := h.len; omega), h.len, Nat.sub_self]; rfl)
      rwa [Nat.zero_add] at h1
    have hl2 := h.ext (Ext.of x0 X2)
    have XX := Ext.of x0 X2
    clear hz hm hq hs2 X2 g0 g1 g2 x0
    go_wp2_with fail
    refine (keep_is HX keep_eq HZ.out).mono ?_
    rintro y w3 ⟨⟨v3, n3, rfl, hn3, ho3⟩, x3⟩
    obtain ⟨A3, c3, rfl, hs3⟩ := ho3.slice (by omega)
    have X3 := Ext.of XX x3
    have e0 := x3.cell k0
    have e1 := x3.cell k1
    have e2 := x3.cell k2
    have e7 := x3.cell c7
    have hx3 := HX.ext x3
    have hl3 := hl2.ext x3
    clear XX x3 k0 k1 k2 c7 HX hl2 ho3
    go_wp2_with fail
    refine (next_is hx3 rfl HZ.out).mono ?_
    rintro y w4 ⟨⟨A4, n4, c4, rfl, hs4⟩, x4⟩
    have X4 := Ext.of X3 x4
    have f0 := x4.cell e0
    have f1 := x4.cell e1
    have f2 := x4.cell e2
    have f7 := x4.cell e7
    have hx4 := hx3.ext x4
    have hl4 := hl3.ext x4
    have hs34 := hs3.ext x4
    clear X3 x4 e0 e1 e2 e7 hx3 hl3 hs3
    go_wp2_with fail
    refine (mark_is (m := m) hx4 (by rw [keep_eq]; exact HM.out) HZ.out).mono ?_
    rintro y w5 ⟨rfl, x5⟩
    have X5 := Ext.of X4 x5
    have e0 := x5.cell f0
    have e1 := x5.cell f1
    have e2 := x5.cell f2
    have e7 := x5.cell f7
    have hx5 := hx4.ext x5
    have hl5 := hl4.ext x5
    have hs35 := hs34.ext x5
    have hs45 := hs4.ext x5
    clear X4 x5 f0 f1 f2 f7 hx4 hl4 hs34 hs4
    go_wp2_with fail
    refine (refKeep_any hl5).mono ?_
    rintro y w6 ⟨⟨A6, n6, c6, A7, n7, c7, rfl, hs6, hs7⟩, x6⟩
    rw [HZ.out]
    have X6 := Ext.of X5 x6
    have f0 := x6.cell e0
    have f1 := x6.cell e1
    have f2 := x6.cell e2
    have f7 := x6.cell e7
    have hx6 := hx5.ext x6
    have hl6 := hl5.ext x6
    have hs36 := hs35.ext x6
    have hs46 := hs45.ext x6
    clear X5 x6 e0 e1 e2 e7 hx5 hl5 hs35 hs45
    go_wp2_with fail
    refine (refMark_any hl6).mono ?_
    rintro y w7 ⟨rfl, x7⟩
    rw [HZ.out, HM.out]
    have X7 := Ext.of X6 x7
    have e0 := Later.cell (x7.cell f0)
    have e1 := Later.cell (x7.cell f1)
    have e2 := Later.cell (x7.cell f2)
    have e7 := Later.cell (x7.cell f7)
    have hx7 := hx6.ext x7
    have hl7 := hl6.ext x7
    have hs37 := hs36.ext x7
    have hs47 := hs46.ext x7
    have hs67 := hs6.ext x7
    have hs77 := hs7.ext x7
    clear X6 x7 f0 f1 f2 f7 hx6 hl6 hs36 hs46 hs6 hs7
    have ez : (z == z) = true := by simp
    have em : (m == m) = true := by simp
    have eq' : (q == q) = true := by simp
    go_wp2
    refine wp_region_later (by kernel_rfl) (by kernel_rfl) ?_
    repeat (go_big_quiet_step (first
      | (go_at_call 14; first | exact Calls.later (same_yes (hs37.ext (Later.is _)) (hs67.ext (Later.is _)) rfl) | exact Calls.later (same_yes (hs47.ext (Later.is _)) (hs77.ext (Later.is _)) rfl) | exact Calls.later (same_yes (hx7.ext (Later.is _)) (hl7.ext (Later.is _)) rfl))
      | (go_at_call 15; exact Calls.later (pcheck_is HQ.out _))
      | (go_at_call 16; exact Calls.later (rcheck_is HQ.out _))
      | (go_at_call 8; exact Calls.later (lives_any _))))
    refine wpQuiet_nil ?_
    intro w8 x8
    go_wp2
    go_ret
    exact ⟨rfl, Ext.of X7 x8⟩
  · clear hS
    go_enter Try.func3, Try.ntmps3
    go_wp2_with fail
    refine (lives_any _).mono ?_
    rintro y w7 ⟨rfl, x7⟩
    have X := Ext.of x0 x7
    clear x0 x7
    go_wp2
    go_ret
    exact ⟨rfl, X⟩

set_option maxRecDepth 100000 in
theorem keeps_lifted (os : Os) (started : os.Started) (H : Type) (enc : TypeId × Value → H) :
    ReturnsInHanded {} Try.checked os 3 .any (Rows.retainKeepsSpec.pre6 enc Try.prog Try.f3 Rows.retainKeepsRow.domain false) (Rows.retainKeepsSpec.post enc Try.prog Try.f3 false true false false) := by
  refine returnsInHanded_of_change (C := Try.checked) ownK started (by kernel_rfl) Try.func3
    (ChangeSpec.witness6 (enc := enc) (C := Try.checked) false ⟨#[], #[.slice none 0 0, .agg #[.int .i64 0, .int .i64 0, .int .i64 0]], []⟩ 8 (by kernel_rfl) (by kernel_rfl) (by kernel_rfl) (by kernel_rfl)) ?_
  intro W base args ds gs before hval0 hW hcnd _
  have hval : ∀ (j : Nat) t v, Try.f3.params[j]? = some t → args[j]? = some v → Value.okWide Try.prog W .any base t v := hval0
  have hW' := hW
  obtain ⟨p, q, hA0, hV, rfl, hfz, hnd⟩ := hW
  have hA : DataW.TrodAll enc Try.prog W 0 (fun _ => true) true Try.f3.params.toList args.toList ds p := hA0
  rw [Try.params3] at hA hval
  obtain ⟨v0, vs0, d0, ds0, p0, q0, hargs, rfl, rfl, h0, r0⟩ := trodAll_cons hA
  obtain ⟨v1, vs1, d1, ds1, p1, q1, rfl, rfl, rfl, h1, r1⟩ := trodAll_cons r0
  obtain ⟨rfl, rfl, rfl⟩ := trodAll_nil r1
  obtain rfl : args = #[v0, v1] := by cases args; simp_all
  obtain ⟨rfl, rfl⟩ := trodVars_none hV
  have k0 := h0
  have lt0 : ∀ x ∈ p0, x.block < W.heap.size := by obtain ⟨m, hm⟩ := k0; exact DataW.trod_lt m _ _ _ hm
  obtain ⟨A0, n0, c0, L0, rfl, hn0, hS0⟩ := open_nums (hval 0 22 v0 rfl rfl) h0
  have k1 := h1
  have lt1 : ∀ x ∈ p1, x.block < W.heap.size := by obtain ⟨m, hm⟩ := k1; exact DataW.trod_lt m _ _ _ hm
  obtain ⟨x1, y1, z1, rfl, hok1⟩ := open_policy (hval 1 24 v1 rfl rfl) h1
  clear hA0 hval0
  refine (keeps_walk (w := W) A0 n0 c0 L0 hn0 hS0 x1 y1 z1 hok1).mono fun e W' ⟨he, bel⟩ => ?_
  subst he
  exact ⟨_, rfl, _, _, _, [], _, [], hW', trodAll_mk1 (shut_bool Try.underlying4 _), (trodAll_cons_mk (Below.trod laidOut (by kernel_rfl) (of_decide_eq_true (by kernel_rfl)) k0 bel lt0) (trodAll_cons_mk (Below.trod laidOut (by kernel_rfl) (of_decide_eq_true (by kernel_rfl)) k1 bel lt1) trodAll_mk0)), rfl, bel.frame _, fun h => by cases h⟩

theorem keeps_over : Rows.retainKeepsRow.holds Try.pinned (OpenSpec.ofChange Rows.retainKeepsSpec) :=
  OpenClaim.holds_of_wide 3 Try.f3 rfl rfl rfl rfl rfl rfl rfl ⟨rfl, rfl, rfl, rfl, rfl⟩ rfl rfl rfl rfl rfl (by kernel_rfl) Try.func3 (by kernel_rfl)
    (of_decide_eq_true (by kernel_rfl)) (by unfold Func.isWrapper; first | (rw [if_pos (by decide +kernel)]; kernel_rfl) | (rw [if_neg (by decide +kernel)]; exact ⟨rfl, rfl⟩))
    (fun os started H enc _ => keeps_lifted os started H enc)

/-- The statement. -/
theorem keeps_holds : Rows.RetainKeepsSaid := keeps_over

#print axioms keeps_holds
end Go.Proofs.Ytehbdgbolbbgkaa
