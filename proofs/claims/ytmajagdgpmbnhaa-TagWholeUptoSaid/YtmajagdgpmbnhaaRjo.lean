/-
  Join of the reference.
-/
import Derived.Test.YtmajagdgpmbnhaaJo
import Derived.Deep.DeepCutAuto
import Derived.Deep.CutRange
namespace Go.Proofs.Ytmajagdgpmbnhaa
open Go.RowKit

theorem ext_ad (w : World) (o : Obj) : Ext w.drew (w.alloc o).drew := Ext.al w.drew o
theorem cel_ad (w : World) : Cel (w.alloc (.cells #[.int .i64 0, .int .i64 0] 28)).drew w.heap.size 0 0 := (Cel.new w 0 0 28).drew
set_option maxRecDepth 100000 in
set_option maxHeartbeats 2000000 in
theorem rjoin_any (a b : Int × Int) (n : Int) (hn : n ≤ 9223372036854775807) (w : World) : Calls Try.prog 17 #[tagV a, tagV b, .int .i64 n] w (RetJ a b n w) := by
  obtain ⟨x, y⟩ := a
  obtain ⟨u, v⟩ := b
  obtain ⟨W, V, hW, -, hA, hB, hC, X, -⟩ := box3 w x y u v 28
  have HW := Lib.hid hW
  clear hW
  obtain ⟨-, c0, c1, -, -⟩ := (show Cel _ _ _ _ from HW.out ▸ hA)
  obtain ⟨-, d0, d1, -, -⟩ := (show Cel _ _ _ _ from HW.out ▸ hB)
  cases ha : right (x, y) with
  | false =>
    rw [RetJ.no (by unfold jOk; rw [ha]; rfl)]
    have hCa := fun w => rright_is (t := (x, y)) ha w
    clear ha
    show Calls Try.prog 17 #[.agg #[.int .i64 x, .int .i64 y], .agg #[.int .i64 u, .int .i64 v], .int .i64 n] w _
    go_enter Try.func17, Try.ntmps17
    go_wp2_with fail
    rw [HW.out]
    refine (hCa _).mono ?_
    rintro e w1 ⟨rfl, x1⟩
    have hC1 := hC.ext x1
    have X1 := Ext.of X x1
    clear c0 c1 d0 d1
    obtain ⟨l0, a0, a1, f0, f1⟩ := hC1
    go_wp2
    exact bodyPost_ret (v := .tuple #[tagV (0, 0), .int .i64 2]) (by simp [results, Try.results17, go_sem, a0, a1]) rfl ⟨rfl, X1.set (by omega) _ _⟩
  | true =>
    have hCa := fun w => rright_is (t := (x, y)) ha w
    cases hb : right (u, v) with
    | false =>
      rw [RetJ.no (by unfold jOk; rw [ha, hb]; rfl)]
      have hCb := fun w => rright_is (t := (u, v)) hb w
      clear ha hb
      show Calls Try.prog 17 #[.agg #[.int .i64 x, .int .i64 y], .agg #[.int .i64 u, .int .i64 v], .int .i64 n] w _
      go_enter Try.func17, Try.ntmps17
      go_wp2_with fail
      rw [HW.out]
      refine (hCa _).mono ?_
      rintro e w1 ⟨rfl, x1⟩
      have hC1 := hC.ext x1
      have hB1 := hB.ext x1
      have X1 := Ext.of X x1
      clear c0 c1 d0 d1
      obtain ⟨-, d0, d1, -, -⟩ := hB1
      go_wp2_with fail
      refine (hCb _).mono ?_
      rintro e w2 ⟨rfl, x2⟩
      have hC2 := hC1.ext x2
      have X2 := Ext.of X1 x2
      clear d0 d1
      obtain ⟨l0, a0, a1, f0, f1⟩ := hC2
      go_wp2
      exact bodyPost_ret (v := .tuple #[tagV (0, 0), .int .i64 2]) (by simp [results, Try.results17, go_sem, a0, a1]) rfl ⟨rfl, X2.set (by omega) _ _⟩
    | true =>
      have hCb := fun w => rright_is (t := (u, v)) hb w
      by_cases h0 : n < 0
      · rw [RetJ.no (by unfold jOk; rw [ha, hb, decide_eq_false (by omega)]; rfl)]
        clear ha hb
        show Calls Try.prog 17 #[.agg #[.int .i64 x, .int .i64 y], .agg #[.int .i64 u, .int .i64 v], .int .i64 n] w _
        go_enter Try.func17, Try.ntmps17
        go_wp2_with fail
        rw [HW.out]
        refine (hCa _).mono ?_
        rintro e w1 ⟨rfl, x1⟩
        have hC1 := hC.ext x1
        have hB1 := hB.ext x1
        have X1 := Ext.of X x1
        clear c0 c1 d0 d1
        obtain ⟨-, d0, d1, -, -⟩ := hB1
        go_wp2_with fail
        refine (hCb _).mono ?_
        rintro e w2 ⟨rfl, x2⟩
        have hC2 := hC1.ext x2
        have X2 := Ext.of X1 x2
        clear d0 d1
        obtain ⟨l0, a0, a1, f0, f1⟩ := hC2
        go_wp2
        exact bodyPost_ret (v := .tuple #[tagV (0, 0), .int .i64 2]) (by simp [results, Try.results17, go_sem, a0, a1]) rfl ⟨rfl, X2.set (by omega) _ _⟩
      · obtain ⟨m, rfl⟩ : ∃ m : Nat, n = m := ⟨n.toNat, by omega⟩
        rw [RetJ.yes ha hb]
        have ma := right_of ha
        have mb := right_of hb
        clear ha hb h0
        show Calls Try.prog 17 #[.agg #[.int .i64 x, .int .i64 y], .agg #[.int .i64 u, .int .i64 v], .int .i64 m] w _
        go_enter Try.func17, Try.ntmps17
        go_wp2_with fail
        rw [HW.out]
        refine (hCa _).mono ?_
        rintro e w1 ⟨rfl, x1⟩
        have hA1 := hA.ext x1
        have hC1 := hC.ext x1
        have hB1 := hB.ext x1
        have X1 := Ext.of X x1
        clear c0 c1 d0 d1
        have hB1' := hB1
        obtain ⟨-, d0, d1, -, -⟩ := hB1'
        go_wp2_with fail
        refine (hCb _).mono ?_
        rintro e w2 ⟨rfl, x2⟩
        have hA2 := hA1.ext x2
        have hB2 := hB1.ext x2
        have hC2 := hC1.ext x2
        have X2 := Ext.of X1 x2
        clear d0 d1 hA1 hB1 hC1 X1 x1 x2 hA hB hC X hCa hCb
        go_wp2
        obtain ⟨q1, q2, hq⟩ : ∃ q1 q2, red (gm (x, y) (tpow m)) = (q1, q2) := ⟨_, _, rfl⟩
        have HJ : Hid (joinV (x, y) (u, v) m = ((q1 + u) % 1048573, (q2 + v) % 1048573)) := by
          show _ = _
          unfold joinV
          rw [hq]
          rfl
        obtain ⟨p1, p2, hp⟩ : ∃ p1 p2, tpow m = (p1, p2) := ⟨_, _, rfl⟩
        have HP := Lib.hid hp
        have hT : ∀ w, Calls Try.prog 32 #[.agg #[.int .i64 x, .int .i64 y], .agg #[.int .i64 p1, .int .i64 p2]] w (RetTag (q1, q2) w) := by
          intro w
          have bt := red_bounds (gpow (3, 2) m)
          have bt : Mod2 (tpow m) := bt
          rw [hp] at bt hq
          have h := rtimes_xy (Pw.bounds ma).1 (Pw.bounds ma).2 (Pw.bounds bt).1 (Pw.bounds bt).2 w
          have e1 : (x * p1 - y * p2) % 1048573 = q1 := congrArg Prod.fst hq
          have e2 : (x * p2 + y * p1) % 1048573 = q2 := congrArg Prod.snd hq
          rw [e1, e2] at h
          exact h
        have bq := red_bounds (gm (x, y) (tpow m))
        rw [hq] at bq
        obtain ⟨g1, g2, g3, g4⟩ := bq
        obtain ⟨⟨u1, u2⟩, ⟨v1, v2⟩⟩ := Pw.bounds mb
        have g1 : 0 ≤ q1 := g1
        have g2 : q1 ≤ 1048572 := g2
        have g3 : 0 ≤ q2 := g3
        have g4 : q2 ≤ 1048572 := g4
        have K1 : Hid (IntKind.i64.wrap (q1 + u) = q1 + u) := IntWalk.i64_in _ (by omega)
        have K2 : Hid (IntKind.i64.wrap (q2 + v) = q2 + v) := IntWalk.i64_in _ (by omega)
        have HM : Hid (m ≤ 9223372036854775807) := by show _ ≤ _; omega
        have X3 : Ext w w2.drew := X2.drew
        have hA3 := hA2.drew
        have hB3 := hB2.drew
        have hC3 := hC2.drew
        have hA2' := hA2
        obtain ⟨-, c0, c1, -, -⟩ := hA2'
        clear g1 g2 g3 g4 u1 u2 v1 v2 hq hp hC2 X2 hn hB2
        have hR : ∀ w, Calls Try.prog 33 #[.int .i64 (m : Int)] w (RetTag (p1, p2) w) := by
          intro w
          have h := rpower_any m HM.out w
          rw [HP.out] at h
          exact h
        go_cut [8] from 22 to 25 (fun t8 wx => ∃ B, t8 = .pointer (some ⟨B, 0, none⟩) ∧ w.heap.size + 2 < B ∧ Cel wx B q1 q2 ∧ Cel wx (w.heap.size + 1) u v ∧ Cel wx (w.heap.size + 2) 0 0 ∧ Ext w wx)
        case first =>
          have i0 := fun o => (hA2.ext (Ext.al w2 o)).c0
          have i1 := fun o => (hA2.ext (Ext.al w2 o)).c1
          have HL : w.heap.size + 2 < w2.heap.size := hC3.lt
          go_region_with (first
            | (go_at_call 33
               refine (hR _).mono ?_
               rintro e w5 ⟨rfl, x5⟩
               have y5 : Ext w2.drew w5 := by first | exact x5 | exact Ext.of (ext_ad _ _) x5
               have s5 : w2.heap.size ≤ w5.heap.size := y5.size
               have hA5 := hA3.ext y5
               have hB5 := hB3.ext y5
               have hC5 := hC3.ext y5
               have X5 := Ext.of X3 y5
               have j0 := fun o => (hA5.ext (Ext.al w5 o)).c0
               have j1 := fun o => (hA5.ext (Ext.al w5 o)).c1
               (first | have z5 := (cel_ad w2).ext x5 | skip)
               obtain ⟨-, e0, e1, -, -⟩ := hA5)
            | (go_at_call 32
               refine (hT _).mono ?_
               rintro e w6 ⟨rfl, x6⟩
               have y6 : Ext w5 w6 := by first | exact x6 | exact Ext.of (Ext.al _ _) x6
               have s6 : w5.heap.size ≤ w6.heap.size := y6.size
               have hB6 := hB5.ext y6
               have hC6 := hC5.ext y6
               have X6 := Ext.of X5 y6
               (first | have z6 := z5.ext y6 | have z6 := (Cel.new w5 0 0 28).ext x6 | skip)
               (first | obtain ⟨l8, b0, b1, fb0, fb1⟩ := id z6 | skip)))
          all_goals
            go_wp2_with fail
            go_meet
            first
              | exact ⟨_, rfl, by omega, z6.set q1 q2, hB6.other (by omega) _ _, hC6.other (by omega) _ _, X6.set (by omega) _ _⟩
              | exact ⟨_, rfl, by omega, Cel.new w6 q1 q2 28, hB6.ext (Ext.al _ _), hC6.ext (Ext.al _ _), Ext.of X6 (Ext.al _ _)⟩
        case rest =>
          clear hA2 hA3 hB3 hC3 X3 hT hR c0 c1
          obtain ⟨B, rfl, hBlt, hT8, hBu, hCz, X8⟩ := hcut
          go_wp2
          obtain ⟨V, hV⟩ : ∃ V, wc.drew = V := ⟨_, rfl⟩
          have hT9 := hT8.drew
          have hBu9 := hBu.drew
          have hCz9 := hCz.drew
          have X9 : Ext w wc.drew := X8.drew
          rw [hV] at hT9 hBu9 hCz9 X9
          have HV := Lib.hid hV
          clear hV hT8 hBu hCz X8
          obtain ⟨-, t0, t1, -, -⟩ := hT9
          obtain ⟨-, d0, d1, -, -⟩ := hBu9
          obtain ⟨l0, a0, a1, f0, f1⟩ := hCz9
          have k1 := K1.out
          have k2 := K2.out
          refine wp_region_still_tail 13 (by kernel_rfl) (by kernel_rfl) ?_
          change wpStill _ _ wc.drew _ _ _
          rw [HV.out]
          simp only [List.take_succ_cons, List.take_zero, List.drop_succ_cons, List.drop_zero]
          repeat still_step
          still_call (rleft_any _ _)
          repeat still_step
          still_call (rleft_any _ _)
          repeat still_step
          refine wpStill_nil ?_
          change wpList _ _ _ _ _ wc.drew
          rw [HV.out]
          clear HV k1 k2
          go_wp2
          refine bodyPost_ret (v := .tuple #[tagV ((q1 + u) % 1048573, (q2 + v) % 1048573), .int .i64 0]) (by simp [results, Try.results17, go_sem, a0, a1]) rfl ?_
          exact ⟨by rw [HJ.out], X9.set (by omega) _ _⟩

end Go.Proofs.Ytmajagdgpmbnhaa
