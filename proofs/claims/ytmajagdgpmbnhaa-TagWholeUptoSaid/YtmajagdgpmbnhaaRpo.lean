/-
  The reference's times and power.
-/
import Derived.Test.YtmajagdgpmbnhaaPo
namespace Go.Proofs.Ytmajagdgpmbnhaa
open Go.RowKit

theorem box3 (w : World) (x y u v : Int) (t : TypeId) : ∃ W V, ((w.alloc (.cells #[.int .i64 x, .int .i64 y] t)).alloc (.cells #[.int .i64 u, .int .i64 v] t)).alloc (.cells #[.int .i64 0, .int .i64 0] t) = W ∧ W.drew = V ∧
    Cel W w.heap.size x y ∧ Cel W (w.heap.size + 1) u v ∧ Cel W (w.heap.size + 2) 0 0 ∧ Ext w W ∧ Cel V w.heap.size x y ∧ Cel V (w.heap.size + 1) u v ∧ Cel V (w.heap.size + 2) 0 0 ∧ Ext w V := by
  have h1 : Cel (((w.alloc (.cells #[.int .i64 x, .int .i64 y] t)).alloc (.cells #[.int .i64 u, .int .i64 v] t)).alloc (.cells #[.int .i64 0, .int .i64 0] t)) w.heap.size x y := ((Cel.new w x y t).ext (Ext.al _ _)).ext (Ext.al _ _)
  have h2 : Cel (((w.alloc (.cells #[.int .i64 x, .int .i64 y] t)).alloc (.cells #[.int .i64 u, .int .i64 v] t)).alloc (.cells #[.int .i64 0, .int .i64 0] t)) (w.heap.size + 1) u v := by
    have h := Cel.new (w.alloc (.cells #[.int .i64 x, .int .i64 y] t)) u v t
    have e : (w.alloc (.cells #[.int .i64 x, .int .i64 y] t)).heap.size = w.heap.size + 1 := by simp
    rw [e] at h
    exact h.ext (Ext.al _ _)
  have h3 : Cel (((w.alloc (.cells #[.int .i64 x, .int .i64 y] t)).alloc (.cells #[.int .i64 u, .int .i64 v] t)).alloc (.cells #[.int .i64 0, .int .i64 0] t)) (w.heap.size + 2) 0 0 := by
    have h := Cel.new ((w.alloc (.cells #[.int .i64 x, .int .i64 y] t)).alloc (.cells #[.int .i64 u, .int .i64 v] t)) 0 0 t
    have e : ((w.alloc (.cells #[.int .i64 x, .int .i64 y] t)).alloc (.cells #[.int .i64 u, .int .i64 v] t)).heap.size = w.heap.size + 2 := by simp
    rw [e] at h
    exact h
  have h4 : Ext w (((w.alloc (.cells #[.int .i64 x, .int .i64 y] t)).alloc (.cells #[.int .i64 u, .int .i64 v] t)).alloc (.cells #[.int .i64 0, .int .i64 0] t)) := Ext.of (Ext.of (Ext.al _ _) (Ext.al _ _)) (Ext.al _ _)
  exact ⟨_, _, rfl, rfl, h1, h2, h3, h4, h1.drew, h2.drew, h3.drew, h4.drew⟩

set_option maxRecDepth 100000 in
set_option maxHeartbeats 1000000 in
theorem rtimes_xy {x y u v : Int} (bx : 0 ≤ x ∧ x ≤ 1048572) (bY : 0 ≤ y ∧ y ≤ 1048572) (bu : 0 ≤ u ∧ u ≤ 1048572) (bv : 0 ≤ v ∧ v ≤ 1048572) (w : World) :
    Calls Try.prog 32 #[.agg #[.int .i64 x, .int .i64 y], .agg #[.int .i64 u, .int .i64 v]] w (RetTag ((x * u - y * v) % 1048573, (x * v + y * u) % 1048573) w) := by
  obtain ⟨q1, q2⟩ := mul_bound bx.1 bx.2 bu.1 bu.2
  obtain ⟨q3, q4⟩ := mul_bound bY.1 bY.2 bv.1 bv.2
  obtain ⟨q5, q6⟩ := mul_bound bx.1 bx.2 bv.1 bv.2
  obtain ⟨q7, q8⟩ := mul_bound bY.1 bY.2 bu.1 bu.2
  have k1 : IntKind.i64.wrap (x * u) = x * u := IntWalk.i64_in _ (by omega)
  have k2 : IntKind.i64.wrap (y * v) = y * v := IntWalk.i64_in _ (by omega)
  have k3 : IntKind.i64.wrap (x * u - y * v) = x * u - y * v := IntWalk.i64_in _ (by omega)
  have k4 : IntKind.i64.wrap (x * v) = x * v := IntWalk.i64_in _ (by omega)
  have k5 : IntKind.i64.wrap (y * u) = y * u := IntWalk.i64_in _ (by omega)
  have k6 : IntKind.i64.wrap (x * v + y * u) = x * v + y * u := IntWalk.i64_in _ (by omega)
  have K1 := Lib.hid k1
  have K2 := Lib.hid k2
  have K3 := Lib.hid k3
  have K4 := Lib.hid k4
  have K5 := Lib.hid k5
  have K6 := Lib.hid k6
  clear k1 k2 k3 k4 k5 k6 q1 q2 q3 q4 q5 q6 q7 q8 bx bY bu bv
  obtain ⟨W, V, hW, hV, -, -, -, -, ⟨-, c0, c1, -, -⟩, ⟨-, d0, d1, -, -⟩, ⟨l0, a0, a1, f0, f1⟩, X⟩ := box3 w x y u v 28
  have HW := Lib.hid hW
  have HV := Lib.hid hV
  clear hW hV
  go_enter Try.func32, Try.ntmps32
  go_wp2
  rw [HW.out]
  have k1 := K1.out
  have k2 := K2.out
  have k3 := K3.out
  have k4 := K4.out
  have k5 := K5.out
  have k6 := K6.out
  refine wp_region_still_tail 25 (by kernel_rfl) (by kernel_rfl) ?_
  change wpStill _ _ W.drew _ _ _
  rw [HV.out]
  simp only [List.take_succ_cons, List.take_zero, List.drop_succ_cons, List.drop_zero]
  repeat still_step
  still_call (rleft_any _ _)
  repeat still_step
  still_call (rleft_any _ _)
  repeat still_step
  refine wpStill_nil ?_
  change wpList _ _ _ _ _ W.drew
  rw [HV.out]
  clear HW HV k1 k2 k3 k4 k5 k6
  go_wp2
  refine bodyPost_ret (v := tagV ((x * u - y * v) % 1048573, (x * v + y * u) % 1048573)) (by simp [results, Try.results32, go_sem, a0, a1]) rfl ⟨rfl, ?_⟩
  exact X.set (by omega) _ _

theorem Pw.bounds {x y : Int} (h : Mod2 (x, y)) : (0 ≤ x ∧ x ≤ 1048572) ∧ (0 ≤ y ∧ y ≤ 1048572) := ⟨⟨h.1, h.2.1⟩, ⟨h.2.2.1, h.2.2.2⟩⟩

set_option maxRecDepth 100000 in
set_option maxHeartbeats 1000000 in
theorem rpower_any (n : Nat) (hn : n ≤ 9223372036854775807) (w : World) : Calls Try.prog 33 #[.int .i64 (n : Int)] w (RetTag (tpow n) w) := by
  have hA0 : Cel (((w.alloc (.cells #[.int .i64 0, .int .i64 0] 28)).alloc (.cells #[.int .i64 1, .int .i64 0] 28)).alloc (.cells #[.int .i64 3, .int .i64 2] 28)) w.heap.size 0 0 := ((Cel.new w 0 0 28).ext (Ext.al _ _)).ext (Ext.al _ _)
  have hB0 : Cel (((w.alloc (.cells #[.int .i64 0, .int .i64 0] 28)).alloc (.cells #[.int .i64 1, .int .i64 0] 28)).alloc (.cells #[.int .i64 3, .int .i64 2] 28)) (w.heap.size + 1) 1 0 := by
    have h := Cel.new (w.alloc (.cells #[.int .i64 0, .int .i64 0] 28)) 1 0 28
    have e : (w.alloc (.cells #[.int .i64 0, .int .i64 0] 28)).heap.size = w.heap.size + 1 := by simp
    rw [e] at h
    exact h.ext (Ext.al _ _)
  have hC0 : Cel (((w.alloc (.cells #[.int .i64 0, .int .i64 0] 28)).alloc (.cells #[.int .i64 1, .int .i64 0] 28)).alloc (.cells #[.int .i64 3, .int .i64 2] 28)) (w.heap.size + 2) 3 2 := by
    have h := Cel.new ((w.alloc (.cells #[.int .i64 0, .int .i64 0] 28)).alloc (.cells #[.int .i64 1, .int .i64 0] 28)) 3 2 28
    have e : ((w.alloc (.cells #[.int .i64 0, .int .i64 0] 28)).alloc (.cells #[.int .i64 1, .int .i64 0] 28)).heap.size = w.heap.size + 2 := by simp
    rw [e] at h
    exact h
  have X0 : Ext w (((w.alloc (.cells #[.int .i64 0, .int .i64 0] 28)).alloc (.cells #[.int .i64 1, .int .i64 0] 28)).alloc (.cells #[.int .i64 3, .int .i64 2] 28)) := Ext.of (Ext.of (Ext.al _ _) (Ext.al _ _)) (Ext.al _ _)
  go_enter Try.func33, Try.ntmps33
  go_wp2
  go_loopw [0] (fun i wr => ∃ (m : Nat) (x y u v : Int), m ≤ n ∧ i = .int .i64 m ∧ Cel wr w.heap.size 0 0 ∧ Cel wr (w.heap.size + 1) x y ∧ Cel wr (w.heap.size + 2) u v ∧ Ext w wr ∧ Hid (Mod2 (x, y) ∧ Mod2 (u, v)) ∧ Hid (Pw n m (x, y) (u, v))) (fun i _ => (intOf i).toNat)
  case atStart => exact ⟨n, 1, 0, 3, 2, Nat.le_refl _, rfl, hA0, hB0, hC0, X0, ⟨⟨by decide, by decide, by decide, by decide⟩, ⟨by decide, by decide, by decide, by decide⟩⟩, Pw.start n⟩
  case round =>
    clear hA0 hB0 hC0 X0
    obtain ⟨m, x, y, u, v, hm, rfl, hA, hB, hC, hX, HB, HP⟩ := hrel
    by_cases hlt : 0 < m
    · rcases Nat.mod_two_eq_zero_or_one m with h0 | h0
      · have HO := Lib.hid h0
        have ha : (m : Int) % 2 = 0 := by omega
        clear h0
        have hC' := hC
        obtain ⟨-, c0, c1, -, -⟩ := hC'
        go_wp2_with fail
        refine (rtimes_xy (Pw.bounds HB.out.2).1 (Pw.bounds HB.out.2).2 (Pw.bounds HB.out.2).1 (Pw.bounds HB.out.2).2 _).mono ?_
        rintro e w1 ⟨rfl, x1⟩
        have hA1 := (hA.ext x1).other (c := w.heap.size + 2) (by omega) (.int .i64 ((u * u - v * v) % 1048573)) (.int .i64 ((u * v + v * u) % 1048573))
        have hB1 := (hB.ext x1).other (c := w.heap.size + 2) (by omega) (.int .i64 ((u * u - v * v) % 1048573)) (.int .i64 ((u * v + v * u) % 1048573))
        have hC1 := (hC.ext x1)
        have hC2 := hC1.set ((u * u - v * v) % 1048573) ((u * v + v * u) % 1048573)
        have X1 := (Ext.of hX x1).set (b := w.heap.size + 2) (by omega) (.int .i64 ((u * u - v * v) % 1048573)) (.int .i64 ((u * v + v * u) % 1048573))
        obtain ⟨l0, c0, c1, f0, f1⟩ := hC1
        clear ha
        go_wp2
        clear c0 c1 f0 f1 l0
        go_roundw
        case rel => exact ⟨m / 2, x, y, _, _, by omega, by rw [Int.natCast_ediv]; rfl, hA1, hB1, hC2, X1, ⟨HB.out.1, red_bounds (gm (u, v) (u, v))⟩, HP.out.even HO.out⟩
        case measure => simp [intOf]; omega
      · have HO := Lib.hid h0
        have ha : (m : Int) % 2 = 1 := by omega
        clear h0
        have hB' := hB
        obtain ⟨-, b0, b1, -, -⟩ := hB'
        have hC' := hC
        obtain ⟨-, c0, c1, -, -⟩ := hC'
        go_wp2_with fail
        refine (rtimes_xy (Pw.bounds HB.out.1).1 (Pw.bounds HB.out.1).2 (Pw.bounds HB.out.2).1 (Pw.bounds HB.out.2).2 _).mono ?_
        rintro e w1 ⟨rfl, x1⟩
        have hA1 := (hA.ext x1).other (c := w.heap.size + 1) (by omega) (.int .i64 ((x * u - y * v) % 1048573)) (.int .i64 ((x * v + y * u) % 1048573))
        have hC1 := (hC.ext x1).other (c := w.heap.size + 1) (by omega) (.int .i64 ((x * u - y * v) % 1048573)) (.int .i64 ((x * v + y * u) % 1048573))
        have hB1 := (hB.ext x1)
        have hB2 := hB1.set ((x * u - y * v) % 1048573) ((x * v + y * u) % 1048573)
        have X1 := (Ext.of hX x1).set (b := w.heap.size + 1) (by omega) (.int .i64 ((x * u - y * v) % 1048573)) (.int .i64 ((x * v + y * u) % 1048573))
        clear c0 c1 b0 b1 hA hB hC hX x1
        obtain ⟨l0, b0, b1, f0, f1⟩ := hB1
        have hC' := hC1
        obtain ⟨-, c0, c1, -, -⟩ := hC'
        go_wp2_with fail
        refine (rtimes_xy (Pw.bounds HB.out.2).1 (Pw.bounds HB.out.2).2 (Pw.bounds HB.out.2).1 (Pw.bounds HB.out.2).2 _).mono ?_
        rintro e w2 ⟨rfl, x2⟩
        have hA3 := (hA1.ext x2).other (c := w.heap.size + 2) (by omega) (.int .i64 ((u * u - v * v) % 1048573)) (.int .i64 ((u * v + v * u) % 1048573))
        have hB3 := (hB2.ext x2).other (c := w.heap.size + 2) (by omega) (.int .i64 ((u * u - v * v) % 1048573)) (.int .i64 ((u * v + v * u) % 1048573))
        have hC2 := (hC1.ext x2)
        have hC3 := hC2.set ((u * u - v * v) % 1048573) ((u * v + v * u) % 1048573)
        have X3 := (Ext.of X1 x2).set (b := w.heap.size + 2) (by omega) (.int .i64 ((u * u - v * v) % 1048573)) (.int .i64 ((u * v + v * u) % 1048573))
        clear c0 c1 b0 b1 f0 f1 l0 hA1 hB2 hC1 X1 x2 ha
        obtain ⟨l0, c0, c1, f0, f1⟩ := hC2
        go_wp2
        clear c0 c1 f0 f1 l0
        go_roundw
        case rel => exact ⟨m / 2, _, _, _, _, by omega, by rw [Int.natCast_ediv]; rfl, hA3, hB3, hC3, X3, ⟨red_bounds (gm (x, y) (u, v)), red_bounds (gm (u, v) (u, v))⟩, HP.out.odd HO.out⟩
        case measure => simp [intOf]; omega
    · obtain rfl : m = 0 := by omega
      have hd := Lib.hid HP.out.done
      obtain ⟨l0, a0, a1, f0, f1⟩ := hA
      obtain ⟨-, b0, b1, -, -⟩ := hB
      go_wp2
      refine bodyPost_ret (v := tagV (x, y)) (by simp [results, Try.results33, go_sem, a0, a1]) rfl ?_
      have e : tpow n = (x, y) := hd.out.symm
      rw [e]
      exact ⟨rfl, hX.set (Nat.le_refl _) _ _⟩

end Go.Proofs.Ytmajagdgpmbnhaa
