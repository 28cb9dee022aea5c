/-
  The reference's Cut, Same, Whole.
-/
import Derived.Test.YtpfjikkpfnmepaaSeg
import Derived.Test.YtpfjikkpfnmepaaRof
namespace Go.Proofs.Ytpfjikkpfnmepaa
open Go.RowKit

theorem chunk_ext {S : ByteArray} {i k : Nat} (hi : i = 160 * k) {m : Nat} (hm : m = min S.size (160 * k + 160)) : S.extract i m = chunk S k := by
  subst hi hm
  rfl

theorem str_eq {x y : ByteArray} : (x.toList == y.toList) = decide (x = y) := by
  rw [Bool.eq_iff_iff, beq_iff_eq, decide_eq_true_iff, ByteArray.toList_eq, ByteArray.toList_eq]
  constructor
  · intro h
    exact ByteArray.ext (Array.toList_inj.1 h)
  · intro h
    rw [h]
theorem str_ne {x y : ByteArray} (h : x ≠ y) : (x.toList == y.toList) = false := by
  rw [str_eq]
  exact decide_eq_false h
set_option maxRecDepth 100000 in
set_option maxHeartbeats 1000000 in
theorem rcut_any (S : ByteArray) (w : World) (hS : S.size ≤ 9223372036854775807) : Calls Try.prog 10 #[.string S] w fun e w' => RetCut w' w.heap.size S e ∧ Ext w w' := by
  by_cases hb : S.size ≤ 2560
  · have HB := Lib.hid hb
    obtain ⟨K, hK⟩ : ∃ K, cn S = K := ⟨_, rfl⟩
    have hK1 : 160 * K ≤ S.size + 159 := by unfold cn at hK; omega
    have hK2 : S.size ≤ 160 * K := by unfold cn at hK; omega
    have HK := Lib.hid hK
    clear hK
    go_enter Try.func10, Try.ntmps10
    go_wp2
    go_loopw [4, 5] (fun v i wr => ∃ k j : Nat, k ≤ K ∧ i = .int .i64 j ∧ Hid (j = 160 * k) ∧ Own wr w.heap.size v k (chunks S k) ∧ Ext w wr) (fun _ i _ => S.size - (intOf i).toNat)
    case atStart => exact ⟨0, 0, Nat.zero_le _, rfl, rfl, Own.nil_ _ _, Below.refl _ _⟩
    case round =>
      obtain ⟨k, j, hk, rfl, hj, hv, hx⟩ := hrel
      have hj1 : j ≤ 160 * k := by rw [hj.out]; exact Nat.le_refl _
      have hj2 : 160 * k ≤ j := by rw [hj.out]; exact Nat.le_refl _
      by_cases hlt : j < S.size
      · have H1 := Lib.hid (chunk_ext (S := S) (i := j) (k := k) hj.out (m := (min (S.size : Int) ((j : Int) + 160)).toNat) (by omega))
        go_wp2_with (at_builtin; refine wpList_append_int rfl _ _ rfl rfl (hv.alloc _) rfl (Sl.one _ ?_) ?_ ?_ ?_; (exact num_extract HB.out _ _); omega; (exact Nat.le_trans hx.size (by simp)); intro v1 w1 ho1 hg1)
        obtain ⟨a1, a2⟩ := hv.step2 hx hx.size (show chunks S k ++ [S.extract j (min (S.size : Int) ((j : Int) + 160)).toNat] = chunks S (k + 1) by rw [H1.out]; exact chunks_snoc S k) ho1 hg1
        go_roundw
        case rel => exact ⟨k + 1, j + 160, by omega, by go_num, (show j + 160 = 160 * (k + 1) by omega), a1, a2⟩
        case measure => simp [intOf]; omega
      · obtain rfl : k = K := by omega
        go_wp2
        go_ret2
        exact ⟨RetCut.ok HB.out HK.out.symm hv, hx⟩
  · have HB := Lib.hid hb
    go_enter Try.func10, Try.ntmps10
    go_wp2
    go_ret2
    exact ⟨RetCut.big HB.out, Below.refl _ _⟩

theorem same_any {A B : Option Addr} {n c m d : Nat} {L M : List ByteArray} {w : World} (h : Sl w A n c L) (g : Sl w B m d M) : Calls Try.prog 13 #[.slice A n c, .slice B m d] w fun e w' => e = .returned (.bool (decide (L = M))) ∧ Ext w w' := by
  have hb := h.big
  have HL := Lib.hid h.len
  have GL := Lib.hid g.len
  by_cases hnm : n = m
  · subst hnm
    go_enter Try.func13, Try.ntmps13
    go_wp2
    go_loopw [5] (fun i wr => ∃ k : Nat, k ≤ n ∧ i = .int .i64 k ∧ Hid (L.take k = M.take k) ∧ Ext w wr) (fun i _ => n - (intOf i).toNat)
    case atStart => exact ⟨0, Nat.zero_le _, rfl, rfl, Below.refl _ _⟩
    case round =>
      obtain ⟨k, hk, rfl, hall, hx⟩ := hrel
      by_cases hlt : k < n
      · obtain ⟨b, off, rfl, ha⟩ := h.at_ (by omega)
        obtain ⟨b', off', rfl, ha'⟩ := g.at_ (by omega)
        obtain ⟨x, hgx, -⟩ := h.get hlt
        obtain ⟨y, hgy, -⟩ := g.get hlt
        have c0 := (ha.ext hx).later hgx.out
        have d0 := (ha'.ext hx).later hgy.out
        by_cases hxy : x = y
        · subst hxy
          go_wp2
          refine wp_region_later (by kernel_rfl) (by kernel_rfl) ?_
          repeat (go_big_quiet_step (fail))
          refine wpQuiet_nil ?_
          intro w3 hx3
          clear c0 d0
          go_wp2
          go_roundw
          case rel =>
            refine ⟨k + 1, by omega, by go_num, ?_, Ext.of hx hx3⟩
            show L.take (k + 1) = M.take (k + 1)
            rw [← take_snoc hgx.out, ← take_snoc hgy.out, hall.out]
          case measure => simp [intOf]; omega
        · have e1 := str_ne hxy
          have hF : Hid (false = decide (L = M)) := by
            refine (decide_eq_false fun e => hxy ?_).symm
            have h1 := hgx.out
            rw [e, hgy.out] at h1
            injection h1 with h1
            exact h1.symm
          clear hxy
          go_wp2
          refine wp_region_later (by kernel_rfl) (by kernel_rfl) ?_
          repeat (go_big_quiet_step (fail))
          refine wpQuiet_nil ?_
          intro w3 hx3
          clear c0 d0
          go_wp2
          go_ret
          exact ⟨ret_bool hF.out, Ext.of hx hx3⟩
      · obtain rfl : k = n := by omega
        have hT : Hid (true = decide (L = M)) := by
          have e := hall.out
          rw [List.take_of_length_le (by rw [HL.out]; exact Nat.le_refl _), List.take_of_length_le (by rw [GL.out]; exact Nat.le_refl _)] at e
          exact (decide_eq_true e).symm
        go_wp2
        go_ret
        exact ⟨ret_bool hT.out, hx⟩
  · have hF : Hid (false = decide (L = M)) := by
      refine (decide_eq_false fun e => hnm ?_).symm
      rw [← HL.out, ← GL.out, e]
    have h0 : ((n : Int) != (m : Int)) = true := by rw [bne_iff_ne]; omega
    go_enter Try.func13, Try.ntmps13
    go_wp2
    go_ret
    exact ⟨ret_bool hF.out, Below.refl _ _⟩

end Go.Proofs.Ytpfjikkpfnmepaa
