/-
  The document's examples, as the statements ask them.
-/
import Derived.Test.YtpfcddgknahgfaaSame
import Derived.Test.YtpfcddgknahgfaaRefRew
import Derived.Test.YtpfcddgknahgfaaMix
namespace Go.Proofs.Ytpfcddgknahgfaa
open Go.RowKit

theorem at_is {A : Option Addr} {n c : Nat} {L : List Ver} {t : Int} {w : World} {S : ByteArray} {b : Bool} (h : Sl w A n c L) (hS : atS L t = S) (hb : atB L t = b) :
    Calls Try.prog 9 #[.slice A n c, .int .i64 t] w fun e w' => e = .returned (.tuple #[.string S, .bool b]) ∧ Ext w w' := by
  subst hS hb
  exact at_any t h
theorem since_is {A : Option Addr} {n c : Nat} {L : List Ver} {t : Int} {w : World} {b : Bool} (h : Sl w A n c L) (hb : sinceB L t = b) :
    Calls Try.prog 13 #[.slice A n c, .int .i64 t] w fun e w' => e = .returned (.bool b) ∧ Ext w w' := by
  subst hb
  exact since_any t h

theorem ex1 : atS exL 1 = ⟨#[]⟩ ∧ atB exL 1 = false := by decide +kernel
theorem ex2 : atS exL 2 = ⟨#[97]⟩ ∧ atB exL 2 = true := by decide +kernel
theorem ex6 : atS exL 6 = ⟨#[98]⟩ ∧ atB exL 6 = true := by decide +kernel
theorem ex9 : atS exL 9 = ⟨#[]⟩ ∧ atB exL 9 = false := by decide +kernel
theorem exa : addErr exL ⟨7, ⟨#[]⟩, false⟩ = 18 := by decide +kernel
theorem exs6 : sinceB exL 6 = true := by decide +kernel
theorem exs7 : sinceB exL 7 = false := by decide +kernel
theorem exv5 : vacL exL 5 = exL.take 2 := by kernel_rfl
theorem exv6 : vacL exL 6 = exL.take 2 := by kernel_rfl
theorem exv7 : vacL exL 7 = [] := by kernel_rfl

theorem okL : Ver.ok ⟨7, ⟨#[]⟩, false⟩ := ⟨by decide, by decide, by decide⟩

set_option maxHeartbeats 1000000 in
theorem lives_any (w : World) : Calls Try.prog 8 #[] w fun e w' => e = .returned (.bool true) ∧ Ext w w' := by
  go_enter Try.func8, Try.ntmps8
  go_wp2_with fail
  refine (example_any w).mono ?_
  rintro e w1 ⟨⟨rfl, h1⟩, x1⟩
  go_wp2_with fail
  refine (at_is h1 ex1.1 ex1.2).mono ?_
  rintro e w2 ⟨rfl, x2⟩
  have h2 := h1.ext x2
  go_wp2_with fail
  refine (at_is h2 ex2.1 ex2.2).mono ?_
  rintro e w3 ⟨rfl, x3⟩
  have h3 := h2.ext x3
  go_wp2_with fail
  refine (at_is h3 ex6.1 ex6.2).mono ?_
  rintro e w4 ⟨rfl, x4⟩
  have h4 := h3.ext x4
  go_wp2_with fail
  refine (at_is h4 ex9.1 ex9.2).mono ?_
  rintro e w5 ⟨rfl, x5⟩
  have h5 := h4.ext x5
  go_wp2_with fail
  refine (add_any h5 okL (by omega)).mono ?_
  rintro e w6 ⟨⟨A6, n6, c6, rfl, -⟩, x6⟩
  rw [exa]
  have h6 := h5.ext x6
  have X : Ext w w6 := Ext.of (Ext.of (Ext.of (Ext.of (Ext.of x1 x2) x3) x4) x5) x6
  go_wp2
  clear h1 h2 h3 h4 h5 x1 x2 x3 x4 x5 x6
  refine wp_region_mix [(0, true), (1, true), (2, true), (3, true), (4, true), (5, true), (6, true), (7, true), (8, true), (9, true), (10, true), (11, true), (12, true), (13, true), (14, true), (15, true), (16, true), (17, true), (18, true), (19, true), (20, true), (21, true), (22, true), (23, true), (24, true), (25, true), (27, true), (28, true), (26, false), (29, false), (30, true), (31, true), (32, true), (34, true), (35, true), (33, false), (36, false), (37, true), (38, true), (39, true), (40, false), (41, true), (42, true), (43, true), (44, true), (45, true), (46, false), (47, true), (48, true), (49, true), (50, false), (51, true), (52, true), (53, true)] (by kernel_rfl) (by kernel_rfl) (by kernel_rfl) (by kernel_rfl) (by kernel_rfl) (by intro c a d v w h; cases d <;> exact h) ?_
  intro W0 xW
  simp only [pick, List.getElem?_cons_succ, List.getElem?_cons_zero]
  repeat (refine mix_calm (by rfl) ?_; intro K hK; go_big_quiet_op; go_big_quiet_on)
  have hl := h6.ext xW
  have XL := Ext.of X xW
  clear h6 X xW
  refine mix_sole (by rfl) ?_
  intro K hK
  go_simp
  refine (vacuum_any 5 hl).mono ?_
  rintro e v1 ⟨⟨A7, n7, c7, rfl, hs7⟩, xa⟩
  refine hK _ _ ?_
  clear hK K
  have ha := hl.ext xa
  have Xa := Ext.of XL xa
  clear hl XL xa
  refine mix_sole (by rfl) ?_
  intro K hK
  go_simp
  refine (same_yes hs7 (ha.first (by omega)) exv5).mono ?_
  rintro e v2 ⟨rfl, xb⟩
  refine hK _ _ ?_
  clear hK K
  have hb := ha.ext xb
  have Xb := Ext.of Xa xb
  clear ha Xa xb
  repeat (refine mix_calm (by rfl) ?_; intro K hK; go_big_quiet_op; go_big_quiet_on)
  refine mix_sole (by rfl) ?_
  intro K hK
  go_simp
  refine (vacuum_any 6 hb).mono ?_
  rintro e v3 ⟨⟨A8, n8, c8, rfl, hs8⟩, xc⟩
  refine hK _ _ ?_
  clear hK K
  have hc := hb.ext xc
  have Xc := Ext.of Xb xc
  clear hb Xb xc
  refine mix_sole (by rfl) ?_
  intro K hK
  go_simp
  refine (same_yes hs8 (hc.first (by omega)) exv6).mono ?_
  rintro e v4 ⟨rfl, xd⟩
  refine hK _ _ ?_
  clear hK K
  have hd := hc.ext xd
  have Xd := Ext.of Xc xd
  clear hc Xc xd
  repeat (refine mix_calm (by rfl) ?_; intro K hK; go_big_quiet_op; go_big_quiet_on)
  refine mix_sole (by rfl) ?_
  intro K hK
  go_simp
  refine (vacuum_any 7 hd).mono ?_
  rintro e v5 ⟨⟨A9, n9, c9, rfl, hs9⟩, xe⟩
  refine hK _ _ ?_
  clear hK K
  have he := hd.ext xe
  have Xe := Ext.of Xd xe
  clear hd Xd xe
  rw [exv7] at hs9
  obtain rfl : n9 = 0 := hs9.len.symm
  repeat (refine mix_calm (by rfl) ?_; intro K hK; go_big_quiet_op; go_big_quiet_on)
  refine mix_sole (by rfl) ?_
  intro K hK
  go_simp
  refine (since_is he exs6).mono ?_
  rintro e v6 ⟨rfl, xf⟩
  refine hK _ _ ?_
  clear hK K
  have hf := he.ext xf
  have Xf := Ext.of Xe xf
  clear he Xe xf
  repeat (refine mix_calm (by rfl) ?_; intro K hK; go_big_quiet_op; go_big_quiet_on)
  refine mix_sole (by rfl) ?_
  intro K hK
  go_simp
  refine (since_is hf exs7).mono ?_
  rintro e v7 ⟨rfl, xg⟩
  refine hK _ _ ?_
  clear hK K
  have hg := hf.ext xg
  have Xg := Ext.of Xf xg
  clear hf Xf xg
  repeat (refine mix_calm (by rfl) ?_; intro K hK; go_big_quiet_op; go_big_quiet_on)
  refine mix_nil ?_
  clear hs7 hs8 hs9
  go_wp2
  go_ret
  exact ⟨rfl, Xg⟩

end Go.Proofs.Ytpfcddgknahgfaa
