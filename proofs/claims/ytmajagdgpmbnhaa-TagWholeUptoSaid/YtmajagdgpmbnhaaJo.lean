/-
  Join of the program.
-/
import Derived.Test.YtmajagdgpmbnhaaRpo
import Derived.Deep.RegionWith
namespace Go.Proofs.Ytmajagdgpmbnhaa
open Go.RowKit

def jOk (a b : Int × Int) (n : Int) : Bool := right a && (right b && decide (0 ≤ n))
def joinV (a b : Int × Int) (n : Nat) : Int × Int := red (ga (red (gm a (tpow n))) b)
def joinT (a b : Int × Int) (n : Int) : Int × Int := if jOk a b n = true then joinV a b n.toNat else (0, 0)
def joinE (a b : Int × Int) (n : Int) : Int := if jOk a b n = true then 0 else 2
def RetJ (a b : Int × Int) (n : Int) (w : World) (e : Ending) (w' : World) : Prop := e = .returned (.tuple #[tagV (joinT a b n), .int .i64 (joinE a b n)]) ∧ Ext w w'
theorem RetJ.no {a b : Int × Int} {n : Int} (h : jOk a b n = false) (w : World) : RetJ a b n w = fun e w' => e = .returned (.tuple #[tagV (0, 0), .int .i64 2]) ∧ Ext w w' := by
  funext e w'
  unfold RetJ joinT joinE
  rw [h]
  rfl
theorem RetJ.yes {a b : Int × Int} {n : Nat} (h : right a = true) (h2 : right b = true) (w : World) : RetJ a b n w = fun e w' => e = .returned (.tuple #[tagV (joinV a b n), .int .i64 0]) ∧ Ext w w' := by
  have hj : jOk a b n = true := by
    unfold jOk
    rw [h, h2, decide_eq_true (Int.natCast_nonneg n)]
    rfl
  funext e w'
  unfold RetJ joinT joinE
  rw [hj, if_pos rfl, if_pos rfl, Int.toNat_natCast]

set_option maxRecDepth 100000 in
set_option maxHeartbeats 2000000 in
theorem join_any (a b : Int × Int) (n : Int) (hn : n ≤ 9223372036854775807) (w : World) : Calls Try.prog 16 #[tagV a, tagV b, .int .i64 n] w (RetJ a b n w) := by
  obtain ⟨x, y⟩ := a
  obtain ⟨u, v⟩ := b
  obtain ⟨W, V, hW, -, hA, hB, hC, X, -⟩ := box3 w x y u v 28
  have HW := Lib.hid hW
  clear hW
  obtain ⟨-, c0, c1, -, -⟩ := (show Cel _ _ _ _ from HW.out ▸ hA)
  obtain ⟨-, d0, d1, -, -⟩ := (show Cel _ _ _ _ from HW.out ▸ hB)
  cases ha : right (x, y) with
  | false =>
    rw [RetJ.no (by unfold jOk; rw [ha]; rfl)]
    have hCa := fun w => tcheck_is (t := (x, y)) (chkT_no ha) w
    clear ha
    show Calls Try.prog 16 #[.agg #[.int .i64 x, .int .i64 y], .agg #[.int .i64 u, .int .i64 v], .int .i64 n] w _
    go_enter Try.func16, Try.ntmps16
    go_wp2_with fail
    rw [HW.out]
    refine (hCa _).mono ?_
    rintro e w1 ⟨rfl, x1⟩
    have hC1 := hC.ext x1
    have X1 := Ext.of X x1
    clear c0 c1 d0 d1
    obtain ⟨l0, a0, a1, f0, f1⟩ := hC1
    go_wp2
    exact bodyPost_ret (v := .tuple #[tagV (0, 0), .int .i64 2]) (by simp [results, Try.results16, go_sem, a0, a1]) rfl ⟨rfl, X1.set (by omega) _ _⟩
  | true =>
    have hCa := fun w => tcheck_is (t := (x, y)) (chkT_yes ha) w
    cases hb : right (u, v) with
    | false =>
      rw [RetJ.no (by unfold jOk; rw [ha, hb]; rfl)]
      have hCb := fun w => tcheck_is (t := (u, v)) (chkT_no hb) w
      clear ha hb
      show Calls Try.prog 16 #[.agg #[.int .i64 x, .int .i64 y], .agg #[.int .i64 u, .int .i64 v], .int .i64 n] w _
      go_enter Try.func16, Try.ntmps16
      go_wp2_with fail
      rw [HW.out]
      refine (hCa _).mono ?_
      rintro e w1 ⟨rfl, x1⟩
      have hC1 := hC.ext x1
      have hB1 := hB.ext x1
      have X1 := Ext.of X x1
      clear c0 c1 d0 d1
      obtain ⟨-, d0, d1, -, -⟩ := hB1
      go_wp2_with fail
      refine (hCb _).mono ?_
      rintro e w2 ⟨rfl, x2⟩
      have hC2 := hC1.ext x2
      have X2 := Ext.of X1 x2
      clear d0 d1
      obtain ⟨l0, a0, a1, f0, f1⟩ := hC2
      go_wp2
      exact bodyPost_ret (v := .tuple #[tagV (0, 0), .int .i64 2]) (by simp [results, Try.results16, go_sem, a0, a1]) rfl ⟨rfl, X2.set (by omega) _ _⟩
    | true =>
      have hCb := fun w => tcheck_is (t := (u, v)) (chkT_yes hb) w
      by_cases h0 : n < 0
      · rw [RetJ.no (by unfold jOk; rw [ha, hb, decide_eq_false (by omega)]; rfl)]
        clear ha hb
        show Calls Try.prog 16 #[.agg #[.int .i64 x, .int .i64 y], .agg #[.int .i64 u, .int .i64 v], .int .i64 n] w _
        go_enter Try.func16, Try.ntmps16
        go_wp2_with fail
        rw [HW.out]
        refine (hCa _).mono ?_
        rintro e w1 ⟨rfl, x1⟩
        have hC1 := hC.ext x1
        have hB1 := hB.ext x1
        have X1 := Ext.of X x1
        clear c0 c1 d0 d1
        obtain ⟨-, d0, d1, -, -⟩ := hB1
        go_wp2_with fail
        refine (hCb _).mono ?_
        rintro e w2 ⟨rfl, x2⟩
        have hC2 := hC1.ext x2
        have X2 := Ext.of X1 x2
        clear d0 d1
        obtain ⟨l0, a0, a1, f0, f1⟩ := hC2
        go_wp2
        exact bodyPost_ret (v := .tuple #[tagV (0, 0), .int .i64 2]) (by simp [results, Try.results16, go_sem, a0, a1]) rfl ⟨rfl, X2.set (by omega) _ _⟩
      · obtain ⟨m, rfl⟩ : ∃ m : Nat, n = m := ⟨n.toNat, by omega⟩
        rw [RetJ.yes ha hb]
        have ma := right_of ha
        have mb := right_of hb
        clear ha hb h0
        show Calls Try.prog 16 #[.agg #[.int .i64 x, .int .i64 y], .agg #[.int .i64 u, .int .i64 v], .int .i64 m] w _
        go_enter Try.func16, Try.ntmps16
        go_wp2_with fail
        rw [HW.out]
        refine (hCa _).mono ?_
        rintro e w1 ⟨rfl, x1⟩
        have hA1 := hA.ext x1
        have hC1 := hC.ext x1
        have hB1 := hB.ext x1
        have X1 := Ext.of X x1
        clear c0 c1 d0 d1
        have hB1' := hB1
        obtain ⟨-, d0, d1, -, -⟩ := hB1'
        go_wp2_with fail
        refine (hCb _).mono ?_
        rintro e w2 ⟨rfl, x2⟩
        have hA2 := hA1.ext x2
        have hB2 := hB1.ext x2
        have hC2 := hC1.ext x2
        have X2 := Ext.of X1 x2
        clear d0 d1 hA1 hB1 hC1 X1 x1 x2 hA hB hC X hCa hCb
        go_wp2
        obtain ⟨q1, q2, hq⟩ : ∃ q1 q2, red (gm (x, y) (tpow m)) = (q1, q2) := ⟨_, _, rfl⟩
        have HJ : Hid (joinV (x, y) (u, v) m = ((q1 + u) % 1048573, (q2 + v) % 1048573)) := by
          show _ = _
          unfold joinV
          rw [hq]
          rfl
        have hT : ∀ a b c d, Fl.Wh a x → Fl.Wh b y → Fl.Wh c (tpow m).1 → Fl.Wh d (tpow m).2 → ∀ w, Calls Try.prog 24 #[.complex .f64 a b, .complex .f64 c d] w (RetC q1 q2 w) := by
          intro a b c d h1 h2 h3 h4 w
          have bt := red_bounds (gpow (3, 2) m)
          have h := times_whole h1 h2 h3 h4 (Pw.bounds ma).1 (Pw.bounds ma).2 ⟨bt.1, bt.2.1⟩ ⟨bt.2.2.1, bt.2.2.2⟩ w
          have e1 : (x * (tpow m).1 - y * (tpow m).2) % 1048573 = q1 := congrArg Prod.fst hq
          have e2 : (x * (tpow m).2 + y * (tpow m).1) % 1048573 = q2 := congrArg Prod.snd hq
          rw [e1, e2] at h
          exact h
        have bq := red_bounds (gm (x, y) (tpow m))
        rw [hq] at bq
        obtain ⟨g1, g2, g3, g4⟩ := bq
        obtain ⟨⟨u1, u2⟩, ⟨v1, v2⟩⟩ := Pw.bounds mb
        have g1 : 0 ≤ q1 := g1
        have g2 : q1 ≤ 1048572 := g2
        have g3 : 0 ≤ q2 := g3
        have g4 : q2 ≤ 1048572 := g4
        have N1 : Hid ((q1 + u).natAbs < 2 ^ 53) := by show _ < _; omega
        have N2 : Hid ((q2 + v).natAbs < 2 ^ 53) := by show _ < _; omega
        have MT : Hid (Mod2 ((q1 + u) % 1048573, (q2 + v) % 1048573)) := red_bounds (q1 + u, q2 + v)
        have HM : Hid (m ≤ 9223372036854775807) := by show _ ≤ _; omega
        have X3 : Ext w w2.drew := X2.drew
        have hA3 := hA2.drew
        have hB3 := hB2.drew
        have hC3 := hC2.drew
        obtain ⟨-, c0, c1, -, -⟩ := hA2
        obtain ⟨-, d0, d1, -, -⟩ := hB2
        clear g1 g2 g3 g4 u1 u2 v1 v2 hq hC2 X2 hn
        go_region_with (first
          | (go_at_call_of 29 x; refine (ofc_any ma _).mono ?_; rintro e w5 ⟨r, s, rfl, hr, hs, x5⟩; have hB5 := hB3.ext x5; have hC5 := hC3.ext x5; have X5 := Ext.of X3 x5; obtain ⟨-, e0, e1, -, -⟩ := hB5)
          | (go_at_call 30; refine (power_any m HM.out _).mono ?_; rintro e w6 ⟨r2, s2, rfl, hr2, hs2, rfl⟩)
          | (go_at_call 24; refine (hT _ _ _ _ hr hs hr2 hs2 _).mono ?_; rintro e w7 ⟨r3, s3, rfl, hr3, hs3, rfl⟩)
          | (go_at_call_of 29 u; refine (ofc_any mb _).mono ?_; rintro e w8 ⟨r4, s4, rfl, hr4, hs4, x8⟩; have hC8 := hC5.ext x8; have X8 := Ext.of X5 x8; obtain ⟨r6, m6, p6⟩ := Fl.add_whole hr3 hr4 N1.out; obtain ⟨r7, m7, p7⟩ := Fl.add_whole hs3 hs4 N2.out; have k3 := fun w => run_cadd m6 m7 51 w; clear m6 m7)
          | (go_at_call 25; refine (small_whole p6 p7 _).mono ?_; rintro e w9 ⟨r8, s8, rfl, hr8, hs8, rfl⟩)
          | (go_at_call 26; refine (told_any (t := ((q1 + u) % 1048573, (q2 + v) % 1048573)) hr8 hs8 MT.out _).mono ?_; rintro e w10 ⟨rfl, x10⟩; have hC10 := hC8.ext x10; have X10 := Ext.of X8 x10; obtain ⟨l0, a0, a1, f0, f1⟩ := hC10))
        all_goals
          go_wp2
          refine bodyPost_ret (v := .tuple #[tagV ((q1 + u) % 1048573, (q2 + v) % 1048573), .int .i64 0]) (by simp [results, Try.results16, go_sem, a0, a1]) rfl ?_
          exact ⟨by rw [HJ.out], X10.set (by omega) _ _⟩

end Go.Proofs.Ytmajagdgpmbnhaa
