/-
  ChainTurns returns true for every input: any versions are added to, vacuumed and rewound as the reference says, and what was handed in is left. No condition.
-/
import Derived.Test.YtpfcddgknahgfaaLives
import Derived.Test.YtpfcddgknahgfaaOpen
namespace Go.Proofs.Ytpfcddgknahgfaa
open Go.RowKit Go.ChangeShapes Go.WideShapes Go.ChangeAt

theorem last_at {w : World} {A : Option Addr} {n c : Nat} {L : List Ver} {x : Ver} (h : Sl w A (n + 1) c (L ++ [x])) : ∃ b off, A = some ⟨b, off, none⟩ ∧ VAt w b (off + n * 3) x := by
  obtain ⟨b, off, e, ha⟩ := h.at_ (by omega)
  have hl : L.length = n := by have := h.len; simp at this; exact this
  exact ⟨b, off, e, ha n x (by rw [List.getElem?_append_right (by omega), hl, Nat.sub_self]; rfl)⟩

theorem lturn_main {A : Option Addr} {n c : Nat} {L : List Ver} {t : Int} {s : ByteArray} {d : Bool} {u : Int} {w : World} (hb : n ≤ 1000) (h : Sl w A n c L) (hok : Ver.ok ⟨t, s, d⟩) :
    Calls Try.prog 5 #[.slice A n c, .agg #[.int .i64 t, .string s, .bool d], .int .i64 u] w fun e w' => e = .returned (.bool true) ∧ Below w.heap.size w w' := by
  have x0 := Ext.alloc w (.cells #[.int .i64 t, .string s, .bool d] 34)
  have hv0 := VAt.new w t s d 34
  have h0 := h.ext x0
  have HOK := Lib.hid hok
  clear hok
  go_enter Try.func5, Try.ntmps5
  go_wp2_with fail
  refine (own_any h0 (by omega)).mono ?_
  rintro e w1 ⟨⟨A1, n1, c1, rfl, hx, hxl⟩, x1⟩
  obtain rfl : n1 = n := hx.len.symm.trans h.len
  have h1 := h0.ext x1
  have X1 := Ext.of x0 x1
  have hv1 := hv0.ext x1
  obtain ⟨g0, g1, g2⟩ := id hv1
  clear x0 x1 h0 hv0
  go_wp2_with fail
  refine (add_any hx HOK.out (by omega)).mono ?_
  rintro e w2 ⟨⟨A2, n2, c2, rfl, ha⟩, x2⟩
  have h2 := h1.ext x2
  have hx2 := hx.ext x2
  have hxl2 := hxl.ext x2
  have X2 := Ext.of X1 x2
  have hv2 := hv1.ext x2
  clear g0 g1 g2
  obtain ⟨g0, g1, g2⟩ := id hv2
  clear x2 h1 hx hxl X1 hv1
  go_wp2_with fail
  refine (refAdd_any h2 HOK.out (by omega)).mono ?_
  rintro e w3 ⟨⟨A3, n3, c3, rfl, hb3⟩, x3⟩
  have h3 := h2.ext x3
  have hx3 := hx2.ext x3
  have hxl3 := hxl2.ext x3
  have ha3 := ha.ext x3
  have X3 := Ext.of X2 x3
  clear g0 g1 g2 hv2 x3 h2 hx2 hxl2 ha X2
  go_wp2_with fail
  refine (vacuum_any u hx3).mono ?_
  rintro e w4 ⟨⟨A4, n4, c4, rfl, hc4⟩, x4⟩
  have h4 := h3.ext x4
  have hx4 := hx3.ext x4
  have hxl4 := hxl3.ext x4
  have ha4 := ha3.ext x4
  have hb4 := hb3.ext x4
  have X4 := Ext.of X3 x4
  clear x4 h3 hx3 hxl3 ha3 hb3 X3
  go_wp2_with fail
  refine (rewind_any u hx4).mono ?_
  rintro e w5 ⟨⟨A5, n5, c5, rfl, hd5⟩, x5⟩
  have h5 := h4.ext x5
  have hx5 := hx4.ext x5
  have hxl5 := hxl4.ext x5
  have ha5 := ha4.ext x5
  have hb5 := hb4.ext x5
  have hc5 := hc4.ext x5
  have X5 := Ext.of X4 x5
  clear x5 h4 hx4 hxl4 ha4 hb4 hc4 X4
  go_wp2_with fail
  refine (same_yes ha5 hb5 rfl).mono ?_
  rintro e w6 ⟨rfl, x6⟩
  have h6 := h5.ext x6
  have hx6 := hx5.ext x6
  have hxl6 := hxl5.ext x6
  have hc6 := hc5.ext x6
  have hd6 := hd5.ext x6
  have X6 := Ext.of X5 x6
  clear x6 h5 hx5 hxl5 ha5 hb5 hc5 hd5 X5
  have he : ((addErr L ⟨t, s, d⟩) != (addErr L ⟨t, s, d⟩)) = false := by simp
  go_wp2_with fail
  refine (refVacuum_any u h6).mono ?_
  rintro e w7 ⟨⟨A7, n7, c7, rfl, hr7⟩, x7⟩
  have h7 := h6.ext x7
  have hx7 := hx6.ext x7
  have hxl7 := hxl6.ext x7
  have hc7 := hc6.ext x7
  have hd7 := hd6.ext x7
  have X7 := Ext.of X6 x7
  clear x7 h6 hx6 hxl6 hc6 hd6 X6
  go_wp2_with fail
  refine (same_yes hc7 hr7 rfl).mono ?_
  rintro e w8 ⟨rfl, x8⟩
  have h8 := h7.ext x8
  have hx8 := hx7.ext x8
  have hxl8 := hxl7.ext x8
  have hd8 := hd7.ext x8
  have X8 := Ext.of X7 x8
  clear x8 h7 hx7 hxl7 hc7 hr7 hd7 X7
  go_wp2_with fail
  refine (refRewind_any u h8).mono ?_
  rintro e w9 ⟨⟨A9, n9, c9, rfl, hr9⟩, x9⟩
  have h9 := h8.ext x9
  have hx9 := hx8.ext x9
  have hxl9 := hxl8.ext x9
  have hd9 := hd8.ext x9
  have X9 := Ext.of X8 x9
  clear x9 h8 hx8 hxl8 hd8 X8
  go_wp2_with fail
  refine (same_yes hd9 hr9 rfl).mono ?_
  rintro e w10 ⟨rfl, x10⟩
  have h10 := h9.ext x10
  have hx10 := hx9.ext x10
  have hxl10 := hxl9.ext x10
  have X10 := Ext.of X9 x10
  have hcap := hxl10.cap
  have hwide := hxl10.wide
  unfold maxLen at hwide
  clear x10 h9 hx9 hxl9 hd9 hr9 X9
  go_wp2_with fail
  refine (same_yes hx10 h10 rfl).mono ?_
  rintro e w11 ⟨rfl, x11⟩
  have hxl11 := hxl10.ext x11
  have X11 := Ext.of X10 x11
  obtain ⟨b, off, rfl, hl11⟩ := last_at hxl11
  obtain ⟨l0, l1, l2⟩ := id hl11
  clear hx10 h10 hxl10 x11
  go_wp2_with fail
  refine (lives_any _).mono ?_
  rintro e w12 ⟨rfl, x12⟩
  have X12 := Ext.of X11 x12
  clear X11 X10 l0 l1 l2
  go_wp2
  go_ret
  exact ⟨rfl, X12⟩

theorem lturn_walk {w : World} (A : Option Addr) (n c : Nat) (L : List Ver) (hn : n ≤ 9223372036854775807) (hS : n ≤ 1000 → Sl w A n c L) (t : Int) (s : ByteArray) (d : Bool) (hok : Ver.ok ⟨t, s, d⟩) (u : Int) (_ : (Lit.int .i64 u).wf = true) :
    Calls Try.prog 5 #[.slice A n c, .agg #[.int .i64 t, .string s, .bool d], .int .i64 u] w fun e w' => e = .returned (.bool true) ∧ Below w.heap.size w w' := by
  by_cases hbig : n ≤ 1000
  · exact lturn_main hbig (hS hbig) hok
  · clear hS
    have x0 := Ext.alloc w (.cells #[.int .i64 t, .string s, .bool d] 34)
    go_enter Try.func5, Try.ntmps5
    go_wp2_with fail
    refine (lives_any _).mono ?_
    rintro e w7 ⟨rfl, x7⟩
    have X := Ext.of x0 x7
    clear x0 x7
    go_wp2
    go_ret
    exact ⟨rfl, X⟩

set_option maxRecDepth 100000 in
theorem lturn_lifted (os : Os) (started : os.Started) (H : Type) (enc : TypeId × Value → H) :
    ReturnsInHanded {} Try.checked os 5 .any (Rows.chainTurnsSpec.pre6 enc Try.prog Try.f5 Rows.chainTurnsRow.domain false) (Rows.chainTurnsSpec.post enc Try.prog Try.f5 false true false false) := by
  refine returnsInHanded_of_change (C := Try.checked) ownK started (by kernel_rfl) Try.func5
    (ChangeSpec.witness6 (enc := enc) (C := Try.checked) false ⟨#[], #[.slice none 0 0, .agg #[.int .i64 0, .string ⟨#[]⟩, .bool false], .int .i64 0], []⟩ 8 (by kernel_rfl) (by kernel_rfl) (by kernel_rfl) (by kernel_rfl)) ?_
  intro W base args ds gs before hval0 hW hcnd _
  have hval : ∀ (j : Nat) t v, Try.f5.params[j]? = some t → args[j]? = some v → Value.okWide Try.prog W .any base t v := hval0
  have hW' := hW
  obtain ⟨p, q, hA0, hV, rfl, hfz, hnd⟩ := hW
  have hA : DataW.TrodAll enc Try.prog W 0 (fun _ => true) true Try.f5.params.toList args.toList ds p := hA0
  rw [Try.params5] at hA hval
  obtain ⟨v0, vs0, d0, ds0, p0, q0, hargs, rfl, rfl, h0, r0⟩ := trodAll_cons hA
  obtain ⟨v1, vs1, d1, ds1, p1, q1, rfl, rfl, rfl, h1, r1⟩ := trodAll_cons r0
  obtain ⟨v2, vs2, d2, ds2, p2, q2, rfl, rfl, rfl, h2, r2⟩ := trodAll_cons r1
  obtain ⟨rfl, rfl, rfl⟩ := trodAll_nil r2
  obtain rfl : args = #[v0, v1, v2] := by cases args; simp_all
  obtain ⟨rfl, rfl⟩ := trodVars_none hV
  have k0 := h0
  have lt0 : ∀ x ∈ p0, x.block < W.heap.size := by obtain ⟨m, hm⟩ := k0; exact DataW.trod_lt m _ _ _ hm
  obtain ⟨A0, n0, c0, L0, rfl, hn0, hS0⟩ := open_vers (hval 0 22 v0 rfl rfl) h0
  have k1 := h1
  have lt1 : ∀ x ∈ p1, x.block < W.heap.size := by obtain ⟨m, hm⟩ := k1; exact DataW.trod_lt m _ _ _ hm
  obtain ⟨t1, s1, b1, rfl, hok1⟩ := open_ver (hval 1 34 v1 rfl rfl) h1
  obtain ⟨a2, rfl, rfl, rfl, w2⟩ := open_int Try.underlying3 (hval 2 3 v2 rfl rfl) h2
  clear hA0 hval0
  refine (lturn_walk (w := W) A0 n0 c0 L0 hn0 hS0 t1 s1 b1 hok1 a2 w2).mono fun e W' ⟨he, bel⟩ => ?_
  subst he
  exact ⟨_, rfl, _, _, _, [], _, [], hW', trodAll_mk1 (shut_bool Try.underlying4 _), (trodAll_cons_mk (Below.trod laidOut (by kernel_rfl) (of_decide_eq_true (by kernel_rfl)) k0 bel lt0) (trodAll_cons_mk (Below.trod laidOut (by kernel_rfl) (of_decide_eq_true (by kernel_rfl)) k1 bel lt1) (trodAll_cons_mk (shut_int Try.underlying3 w2) trodAll_mk0))), rfl, bel.frame _, fun h => by cases h⟩

theorem lturn_over : Rows.chainTurnsRow.holds Try.pinned (OpenSpec.ofChange Rows.chainTurnsSpec) :=
  OpenClaim.holds_of_wide 5 Try.f5 rfl rfl rfl rfl rfl rfl rfl ⟨rfl, rfl, rfl, rfl, rfl⟩ rfl rfl rfl rfl rfl (by kernel_rfl) Try.func5 (by kernel_rfl)
    (of_decide_eq_true (by kernel_rfl)) (by unfold Func.isWrapper; first | (rw [if_pos (by decide +kernel)]; kernel_rfl) | (rw [if_neg (by decide +kernel)]; exact ⟨rfl, rfl⟩))
    (fun os started H enc _ => lturn_lifted os started H enc)

/-- The statement. -/
theorem lturn_holds : Rows.ChainTurnsSaid := lturn_over

#print axioms lturn_holds
end Go.Proofs.Ytpfcddgknahgfaa
