/-
  The reference's tag of bytes.
-/
import Derived.Test.YtmajagdgpmbnhaaOf
import Derived.IntWalk
import Derived.StillTailTactics
namespace Go.Proofs.Ytmajagdgpmbnhaa
open Go.RowKit

theorem rleft_num (z : Int) : ((z.tmod 1048573 + 1048573) % 1048573 = z % 1048573) ∧ -1048573 < z.tmod 1048573 ∧ z.tmod 1048573 < 1048573 := by
  rcases Int.lt_or_le z 0 with h | h
  · obtain ⟨n, hn⟩ : ∃ n : Int, z = -n ∧ 0 < n := ⟨-z, by omega, by omega⟩
    obtain ⟨rfl, hn⟩ := hn
    have e : n.tmod 1048573 = n % 1048573 := Int.tmod_eq_emod_of_nonneg (by omega)
    rw [Int.neg_tmod, e]
    omega
  · have e : z.tmod 1048573 = z % 1048573 := Int.tmod_eq_emod_of_nonneg h
    rw [e]
    omega
theorem ret_i64 {a b : Int} (h : a = b) : Ending.returned (.int .i64 a) = .returned (.int .i64 b) := by rw [h]
theorem rleft_any (z : Int) (w : World) : Calls Try.prog 28 #[.int .i64 z] w fun e w' => e = .returned (.int .i64 (z % 1048573)) ∧ w' = w := by
  obtain ⟨h1, h2, h3⟩ := rleft_num z
  have H1 := Lib.hid h1
  clear h1
  go_enter Try.func28, Try.ntmps28
  go_wp2
  go_ret
  exact ⟨ret_i64 H1.out, rfl⟩

theorem box2 (w : World) (a b c d : Value) (t u : TypeId) : ∃ W V, (w.alloc (.cells #[a, b] t)).alloc (.cells #[c, d] u) = W ∧ W.drew = V ∧ V.cell? ⟨w.heap.size, 0, none⟩ = some a ∧ V.cell? ⟨w.heap.size, 1, none⟩ = some b ∧
    V.cell? ⟨w.heap.size + 1, 0, none⟩ = some c ∧ V.cell? ⟨w.heap.size + 1, 1, none⟩ = some d ∧ V.frozen? ⟨w.heap.size + 1, 0, none⟩ = false ∧ V.frozen? ⟨w.heap.size + 1, 1, none⟩ = false ∧ Ext w V ∧ w.heap.size + 1 < V.heap.size := by
  refine ⟨_, _, rfl, rfl, ?_, ?_, ?_, ?_, ?_, ?_, ?_, ?_⟩
  · simp
  · simp
  · simp [World.cell?_alloc_at]
  · simp [World.cell?_alloc_at]
  · go_simp
  · go_simp
  · exact (((Below.refl _ _).alloc (Nat.le_refl _) _).alloc (by simp) _).drew
  · simp

theorem ret_tag {a b c d : Int} (h1 : a = b) (h2 : c = d) : Ending.returned (tagV (a, c)) = .returned (tagV (b, d)) := by rw [h1, h2]
theorem rturn_any {t : Int × Int} (ht : Mod2 t) (w : World) : Calls Try.prog 27 #[tagV t] w fun e w' => e = .returned (tagV ((t.1 * 3 - t.2 * 2) % 1048573, (t.1 * 2 + t.2 * 3) % 1048573)) ∧ Ext w w' := by
  obtain ⟨x, y⟩ := t
  obtain ⟨b1, b2, b3, b4⟩ := ht
  have b1 : 0 ≤ x := b1
  have b2 : x ≤ 1048572 := b2
  have b3 : 0 ≤ y := b3
  have b4 : y ≤ 1048572 := b4
  obtain ⟨W, V, hW, hV, c0, c1, d0, d1, f0, f1, X, hz⟩ := box2 w (.int .i64 x) (.int .i64 y) (.int .i64 0) (.int .i64 0) 28 28
  have HW := Lib.hid hW
  have HV := Lib.hid hV
  clear hW hV
  show Calls Try.prog 27 #[.agg #[.int .i64 x, .int .i64 y]] w _
  go_enter Try.func27, Try.ntmps27
  go_wp2
  rw [HW.out]
  have k1 : IntKind.i64.wrap (3 * x) = 3 * x := IntWalk.i64_in _ (by omega)
  have k2 : IntKind.i64.wrap (2 * y) = 2 * y := IntWalk.i64_in _ (by omega)
  have k3 : IntKind.i64.wrap (3 * x - 2 * y) = 3 * x - 2 * y := IntWalk.i64_in _ (by omega)
  have k4 : IntKind.i64.wrap (2 * x) = 2 * x := IntWalk.i64_in _ (by omega)
  have k5 : IntKind.i64.wrap (3 * y) = 3 * y := IntWalk.i64_in _ (by omega)
  have k6 : IntKind.i64.wrap (2 * x + 3 * y) = 2 * x + 3 * y := IntWalk.i64_in _ (by omega)
  refine wp_region_still_tail 17 (by kernel_rfl) (by kernel_rfl) ?_
  change wpStill _ _ W.drew _ _ _
  rw [HV.out]
  simp only [List.take_succ_cons, List.take_zero, List.drop_succ_cons, List.drop_zero]
  repeat still_step
  still_call (rleft_any _ _)
  repeat still_step
  still_call (rleft_any _ _)
  repeat still_step
  refine wpStill_nil ?_
  change wpList _ _ _ _ _ W.drew
  rw [HV.out]
  clear HW HV
  go_wp2
  refine bodyPost_ret (v := tagV ((3 * x - 2 * y) % 1048573, (2 * x + 3 * y) % 1048573)) (by simp [results, Try.results27, go_sem, d0, d1]) rfl ⟨ret_tag (by omega) (by omega), ?_⟩
  exact (X.setCell (by simp) _).setCell (by simp) _

theorem Ext.al (w : World) (o : Obj) : Ext w (w.alloc o) := (Below.refl _ _).alloc (Nat.le_refl _) o
/-- Block b of w holds two numbers. -/
structure Cel (w : World) (b : Nat) (x y : Int) : Prop where
  lt : b < w.heap.size
  c0 : w.cell? ⟨b, 0, none⟩ = some (.int .i64 x)
  c1 : w.cell? ⟨b, 1, none⟩ = some (.int .i64 y)
  f0 : w.frozen? ⟨b, 0, none⟩ = false
  f1 : w.frozen? ⟨b, 1, none⟩ = false
theorem Cel.ext {w w' : World} {b : Nat} {x y : Int} (h : Cel w b x y) (hx : Ext w w') : Cel w' b x y := by
  obtain ⟨hc, hf⟩ := bcell hx
  have := hx.size
  exact ⟨by have := h.lt; omega, (hc b 0 h.lt).trans h.c0, (hc b 1 h.lt).trans h.c1, (hf b 0 h.lt).trans h.f0, (hf b 1 h.lt).trans h.f1⟩
theorem Cel.drew {w : World} {b : Nat} {x y : Int} (h : Cel w b x y) : Cel w.drew b x y := h.ext (Below.refl _ _).drew
theorem Cel.new (w : World) (x y : Int) (t : TypeId) : Cel (w.alloc (.cells #[.int .i64 x, .int .i64 y] t)) w.heap.size x y :=
  ⟨by simp, by simp [World.cell?_alloc_at], by simp [World.cell?_alloc_at], by go_simp, by go_simp⟩
theorem Cel.set {w : World} {b : Nat} {x y : Int} (h : Cel w b x y) (x' y' : Int) : Cel ((w.setCell ⟨b, 0, none⟩ (.int .i64 x')).setCell ⟨b, 1, none⟩ (.int .i64 y')) b x' y' := by
  obtain ⟨h0, h1, h2, h3, h4⟩ := h
  exact ⟨by simpa using h0, by go_simp, by go_simp, by go_simp, by go_simp⟩
theorem Cel.other {w : World} {b c : Nat} {x y : Int} (h : Cel w b x y) (hc : b ≠ c) (u v : Value) : Cel ((w.setCell ⟨c, 0, none⟩ u).setCell ⟨c, 1, none⟩ v) b x y := by
  obtain ⟨h0, h1, h2, h3, h4⟩ := h
  exact ⟨by simpa using h0, by go_simp, by go_simp, by go_simp, by go_simp⟩
theorem Ext.set {w w' : World} {b : Nat} (h : Ext w w') (hb : w.heap.size ≤ b) (u v : Value) : Ext w ((w'.setCell ⟨b, 0, none⟩ u).setCell ⟨b, 1, none⟩ v) := (h.setCell hb _).setCell hb _

set_option maxRecDepth 100000 in
set_option maxHeartbeats 1000000 in
theorem rof_any (S : ByteArray) (w : World) (hS : S.size ≤ 9223372036854775807) : Calls Try.prog 15 #[.string S] w (RetTag (tagOf S) w) := by
  have hA0 := (Cel.new w 0 0 28).ext (Ext.al _ (.cells #[.int .i64 0, .int .i64 0] 28))
  have hB0 : Cel ((w.alloc (.cells #[.int .i64 0, .int .i64 0] 28)).alloc (.cells #[.int .i64 0, .int .i64 0] 28)) (w.heap.size + 1) 0 0 := by
    have h := Cel.new (w.alloc (.cells #[.int .i64 0, .int .i64 0] 28)) 0 0 28
    have e : (w.alloc (.cells #[.int .i64 0, .int .i64 0] 28)).heap.size = w.heap.size + 1 := by simp
    rw [e] at h
    exact h
  have hx0 : Ext w ((w.alloc (.cells #[.int .i64 0, .int .i64 0] 28)).alloc (.cells #[.int .i64 0, .int .i64 0] 28)) := Ext.of (Ext.al _ _) (Ext.al _ _)
  go_enter Try.func15, Try.ntmps15
  go_wp2
  go_loopw [4] (fun i wr => ∃ k : Nat, k ≤ S.size ∧ i = .int .i64 k ∧ Cel wr w.heap.size 0 0 ∧ Cel wr (w.heap.size + 1) (tagAt S k).1 (tagAt S k).2 ∧ Ext w wr) (fun i _ => S.size - (intOf i).toNat)
  case atStart => exact ⟨0, Nat.zero_le _, rfl, hA0, hB0, hx0⟩
  case round =>
    obtain ⟨k, hk, rfl, hA, hB, hx⟩ := hrel
    by_cases hlt : k < S.size
    · obtain ⟨cv, hcv⟩ : ∃ cv : Nat, S[k].toNat = cv := ⟨_, rfl⟩
      have hc1 : cv < 256 := by rw [← hcv]; exact S[k].toNat_lt
      have HCV := Lib.hid hcv
      have HS := Lib.hid (tagAt_succ hlt)
      rw [hcv] at HS
      clear hcv
      have hm2 : Mod2 (tagAt S k) := tagL_mod _
      obtain ⟨t, ht⟩ : ∃ t, tagAt S k = t := ⟨_, rfl⟩
      rw [ht] at hB HS hm2
      clear ht
      have hB' := hB
      obtain ⟨b0, b1, b2, b3, b4⟩ := hB'
      go_wp2_with fail
      refine (rturn_any hm2 _).mono ?_
      rintro e w1 ⟨rfl, x1⟩
      have hA1 := (hA.ext x1).other (c := w.heap.size + 1) (by omega) (.int .i64 ((t.1 * 3 - t.2 * 2) % 1048573)) (.int .i64 ((t.1 * 2 + t.2 * 3) % 1048573))
      have hB1 := hB.ext x1
      have X1 := (Ext.of hx x1).set (b := w.heap.size + 1) (by omega) (.int .i64 ((t.1 * 3 - t.2 * 2) % 1048573)) (.int .i64 ((t.1 * 2 + t.2 * 3) % 1048573))
      have hB2 := hB1.set ((t.1 * 3 - t.2 * 2) % 1048573) ((t.1 * 2 + t.2 * 3) % 1048573)
      obtain ⟨d0, d1, d2, d3, d4⟩ := hB1
      clear b0 b1 b2 b3 b4 hA hB hx x1
      go_wp2
      clear d0 d1 d2 d3 d4
      obtain ⟨X, hX⟩ : ∃ X, (t.1 * 3 - t.2 * 2) % 1048573 = X := ⟨_, rfl⟩
      obtain ⟨Y, hY⟩ : ∃ Y, (t.1 * 2 + t.2 * 3) % 1048573 = Y := ⟨_, rfl⟩
      have bX : 0 ≤ X ∧ X ≤ 1048572 := by omega
      have bY : 0 ≤ Y ∧ Y ≤ 1048572 := by omega
      have HS2 : Hid (tagAt S (k + 1) = ((X + (cv + 1)) % 1048573, (Y + (256 - cv)) % 1048573)) := by
        show _ = _
        rw [HS.out]
        unfold tstep
        rw [hX, hY]
      rw [hX, hY] at hA1 hB2 X1 ⊢
      clear hX hY HS hm2
      have hA3 := hA1.drew
      have hB3 := hB2.drew
      have X3 : Ext w _ := X1.drew
      generalize (w1.setCell ⟨w.heap.size + 1, 0, none⟩ (.int .i64 X)).setCell ⟨w.heap.size + 1, 1, none⟩ (.int .i64 Y) = W2 at *
      obtain ⟨V, hV⟩ : ∃ V, W2.drew = V := ⟨_, rfl⟩
      rw [hV] at hA3 hB3 X3
      have HV := Lib.hid hV
      clear hV hA1 hB2 X1
      have hcv := HCV.out
      obtain ⟨b0, b1, b2, b3, b4⟩ := hB3
      have k1 : IntKind.i64.wrap (X + cv) = X + cv := IntWalk.i64_in _ (by omega)
      have k2 : IntKind.i64.wrap (X + cv + 1) = X + cv + 1 := IntWalk.i64_in _ (by omega)
      have k3 : IntKind.i64.wrap (Y + 256) = Y + 256 := IntWalk.i64_in _ (by omega)
      have k4 : IntKind.i64.wrap (Y + 256 - cv) = Y + 256 - cv := IntWalk.i64_in _ (by omega)
      refine wp_region_still_tail 19 (by kernel_rfl) (by kernel_rfl) ?_
      change wpStill _ _ W2.drew _ _ _
      rw [HV.out]
      simp only [List.take_succ_cons, List.take_zero, List.drop_succ_cons, List.drop_zero]
      repeat still_step
      still_call (rleft_any _ _)
      repeat still_step
      still_call (rleft_any _ _)
      repeat still_step
      refine wpStill_nil ?_
      change wpList _ _ _ _ _ W2.drew
      rw [HV.out]
      have hA4 := hA3.other (c := w.heap.size + 1) (by omega) (.int .i64 ((X + cv + 1) % 1048573)) (.int .i64 ((Y + 256 - cv) % 1048573))
      have hB4 := (Cel.mk b0 b1 b2 b3 b4).set ((X + cv + 1) % 1048573) ((Y + 256 - cv) % 1048573)
      have X4 := X3.set (b := w.heap.size + 1) (by omega) (.int .i64 ((X + cv + 1) % 1048573)) (.int .i64 ((Y + 256 - cv) % 1048573))
      clear k1 k2 k3 k4 HV hcv hA3 X3
      go_wp2
      clear b0 b1 b2 b3 b4
      go_roundw
      case rel =>
        have e1 : (X + cv + 1) % 1048573 = (tagAt S (k + 1)).1 := by
          rw [HS2.out]
          show _ = (X + (cv + 1)) % 1048573
          omega
        have e2 : (Y + 256 - cv) % 1048573 = (tagAt S (k + 1)).2 := by
          rw [HS2.out]
          show _ = (Y + (256 - cv)) % 1048573
          omega
        rw [e1, e2] at hA4 hB4 X4
        refine ⟨k + 1, by omega, by go_num, ?_⟩
        rw [e1, e2]
        exact ⟨hA4, hB4, X4⟩
      case measure => simp [intOf]; omega
    · obtain rfl : k = S.size := by omega
      have hT : tagAt S S.size = tagOf S := tagAt_all (Nat.le_refl _)
      rw [hT] at hB
      obtain ⟨a0, a1, a2, a3, a4⟩ := hA
      obtain ⟨b0, b1, b2, b3, b4⟩ := hB
      clear hT
      go_wp2
      exact bodyPost_ret (v := tagV (tagOf S)) (by simp [results, Try.results15, go_sem, a1, a2]) rfl ⟨rfl, hx.set (Nat.le_refl _) _ _⟩

end Go.Proofs.Ytmajagdgpmbnhaa
