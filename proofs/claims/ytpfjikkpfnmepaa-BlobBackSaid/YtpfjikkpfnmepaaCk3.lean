/-
  Check of both sides.
-/
import Derived.Test.YtpfjikkpfnmepaaCk2
import Derived.Test.YtpfjikkpfnmepaaTt
import Derived.Deep.RegionWith
namespace Go.Proofs.Ytpfjikkpfnmepaa
open Go.RowKit

def askB (L : List ByteArray) : Bool := decide (L.length ≤ 16) && formB L
def tagB (S : ByteArray) (t : Int × Int) : Bool := decide (tagOf S = t)
def chkB (L : List ByteArray) (z : Int) (t : Int × Int) : Bool := askB L && (decide (((whole L).size : Int) = z) && tagB (whole L) t)
def chkE (L : List ByteArray) (z : Int) (t : Int × Int) : Int := if chkB L z t = true then 0 else 4
theorem chk_no {L : List ByteArray} {z : Int} {t : Int × Int} (h : chkB L z t = false) : chkE L z t = 4 := by simp [chkE, h]
theorem chk_yes {L : List ByteArray} {z : Int} {t : Int × Int} (h : chkB L z t = true) : chkE L z t = 0 := by simp [chkE, h]

theorem ask_total {L : List ByteArray} (h : askB L = true) : (bytes L).length ≤ 2560 := by
  unfold askB at h
  rw [Bool.and_eq_true] at h
  have h1 := of_decide_eq_true h.1
  have h2 := (form_size h.2 L.length (Nat.le_refl _)).1
  rw [List.take_length, whole_size] at h2
  omega

theorem conv_out (S : ByteArray) (w : World) (hS : S.size ≤ 9223372036854775807) : ∃ W cap, (convert 9 48 (.string S)).run Try.prog w.drew = .ok (.slice (some ⟨w.heap.size, 0, none⟩) S.size cap) W ∧ By W (some ⟨w.heap.size, 0, none⟩) S.size S ∧ Ext w W :=
  ⟨_, _, run_tobytes S w.drew, by_bytes S w.drew hS, Ext.of (Below.refl _ _).drew (ext_bytes w.drew 5 S)⟩
theorem neq_is {s t : Int × Int} {b : Bool} (h : (!decide (s = t)) = b) (w : World) : (binOp .neq 24 (tagV s) (tagV t)).run Try.prog w = .ok (.bool b) w := by
  rw [run_tag_neq, h]
def RetI (z : Int) (w : World) (e : Ending) (w' : World) : Prop := e = .returned (.int .i64 z) ∧ Ext w w'
theorem RetI.of {z y : Int} {w w' : World} (h : z = y) (hx : Ext w w') : RetI y w (.returned (.int .i64 z)) w' := ⟨by rw [h], hx⟩

set_option maxRecDepth 100000 in
set_option maxHeartbeats 1000000 in
theorem check_any {A : Option Addr} {n c : Nat} {L : List ByteArray} {w : World} (h : Sl w A n c L) (z : Int) (t : Int × Int) : Calls Try.prog 14 #[.slice A n c, .int .i64 z, tagV t] w (RetI (chkE L z t) w) := by
  have hb := h.big
  have HL := Lib.hid h.len
  have hx0 := Ext.al w (.cells #[.int .i64 t.1, .int .i64 t.2] 24)
  by_cases hn : n ≤ 16
  · cases hf : formB L with
    | false =>
      have HE := Lib.hid (chk_no (L := L) (z := z) (t := t) (by simp [chkB, askB, hf]))
      have HF := Lib.hid hf
      have hs := h.ext hx0
      clear hf h
      go_enter Try.func14, Try.ntmps14
      go_wp2_with fail
      refine (formed_is hs HF.out).mono ?_
      rintro e w1 ⟨rfl, rfl⟩
      go_wp2
      go_ret
      exact RetI.of HE.out.symm hx0
    | true =>
      have ha : askB L = true := by simp [askB, hf, HL.out, hn]
      have HF := Lib.hid hf
      have HT := Lib.hid (ask_total ha)
      have hs := h.ext hx0
      have hz := whole_size L
      have hsz : (whole L).size ≤ 2560 := by rw [hz]; exact HT.out
      clear hf h hz
      by_cases hzz : ((whole L).size : Int) = z
      · have HZ := Lib.hid hzz
        have hzb : (((whole L).size : Int) != z) = false := by simpa using hzz
        have hcb : chkB L z t = tagB (whole L) t := by simp [chkB, ha, hzz]
        have HC := Lib.hid hcb
        clear hzz hcb ha
        go_enter Try.func14, Try.ntmps14
        go_wp2_with fail
        refine (formed_is hs HF.out).mono ?_
        rintro e w1 ⟨rfl, rfl⟩
        go_wp2_with fail
        refine (join_any hs (by have := HT.out; omega)).mono ?_
        rintro e w2 ⟨rfl, x2⟩
        have hA := (Cel.new w t.1 t.2 24).ext x2
        have hx := Ext.of hx0 x2
        go_wp2
        generalize whole L = S at *
        obtain ⟨W3, cap, hcv, hby, hx3⟩ := conv_out S w2 (by omega)
        have hA3 := hA.ext hx3
        obtain ⟨a0, a1, a2, a3, a4⟩ := hA
        have hA3' := hA3
        obtain ⟨b0, b1, b2, b3, b4⟩ := hA3'
        cases ht : tagB S t with
        | true =>
          have hne := neq_is (s := tagOf S) (t := t) (b := false) (by unfold tagB at ht; rw [ht]; rfl)
          have HE := Lib.hid (chk_yes (L := L) (z := z) (t := t) (by rw [HC.out, ht]))
          clear ht
          go_region_with (go_at_call 20; refine (of_any hby).mono ?_; rintro e w4 ⟨rfl, x4⟩; obtain ⟨c0, c1, c2, c3, c4⟩ := hA3.ext x4)
          all_goals (go_wp2; go_ret; exact RetI.of HE.out.symm (Ext.of hx (Ext.of hx3 x4)))
        | false =>
          have hne := neq_is (s := tagOf S) (t := t) (b := true) (by unfold tagB at ht; rw [ht]; rfl)
          have HE := Lib.hid (chk_no (L := L) (z := z) (t := t) (by rw [HC.out, ht]))
          clear ht
          go_region_with (go_at_call 20; refine (of_any hby).mono ?_; rintro e w4 ⟨rfl, x4⟩; obtain ⟨c0, c1, c2, c3, c4⟩ := hA3.ext x4)
          all_goals (go_wp2; go_ret; exact RetI.of HE.out.symm (Ext.of hx (Ext.of hx3 x4)))
      · have hzb : (((whole L).size : Int) != z) = true := by simpa using hzz
        have HE := Lib.hid (chk_no (L := L) (z := z) (t := t) (by simp [chkB, hzz]))
        clear hzz ha
        go_enter Try.func14, Try.ntmps14
        go_wp2_with fail
        refine (formed_is hs HF.out).mono ?_
        rintro e w1 ⟨rfl, rfl⟩
        go_wp2_with fail
        refine (join_any hs (by have := HT.out; omega)).mono ?_
        rintro e w2 ⟨rfl, x2⟩
        have hx := Ext.of hx0 x2
        go_wp2
        refine wp_region_later (by kernel_rfl) (by kernel_rfl) ?_
        repeat (go_big_quiet_step (fail))
        refine wpQuiet_nil ?_
        intro w3 hx3
        go_wp2
        go_ret
        exact RetI.of HE.out.symm (Ext.of hx hx3)
  · have HE := Lib.hid (chk_no (L := L) (z := z) (t := t) (by simp [chkB, askB, HL.out, hn]))
    go_enter Try.func14, Try.ntmps14
    go_wp2
    go_ret
    exact RetI.of HE.out.symm hx0

/-! ### The reference's -/
theorem chk_size {L : List ByteArray} {z : Int} {t : Int × Int} (h : ¬ (whole L).size ≤ 2560) : chkB L z t = false := by
  unfold chkB askB
  rw [← ask_same]
  simp [h]
theorem chk_diff {L : List ByteArray} {z : Int} {t : Int × Int} (h : ¬ chunks (whole L) (cn (whole L)) = L) : chkB L z t = false := by
  unfold chkB askB
  rw [← ask_same]
  simp [h]
theorem chk_rest {L : List ByteArray} {z : Int} {t : Int × Int} (h : (whole L).size ≤ 2560) (h2 : chunks (whole L) (cn (whole L)) = L) : chkB L z t = (decide (((whole L).size : Int) = z) && tagB (whole L) t) := by
  unfold chkB askB
  rw [← ask_same, decide_eq_true h, decide_eq_true h2]
  rfl
theorem same_is {A B : Option Addr} {n c m d : Nat} {L M : List ByteArray} {w : World} {b : Bool} (h : Sl w A n c L) (g : Sl w B m d M) (hb : decide (L = M) = b) : Calls Try.prog 13 #[.slice A n c, .slice B m d] w fun e w' => e = .returned (.bool b) ∧ Ext w w' := by
  subst hb
  exact same_any h g

theorem rof_is (S : ByteArray) (w : World) (hS : S.size ≤ 9223372036854775806) : Calls Try.prog 24 #[.string S] w fun e w' => e = .returned (tagV (tagOf S)) ∧ Ext w w' := rof_any S w hS

set_option maxRecDepth 100000 in
set_option maxHeartbeats 2000000 in
theorem rcheck_any {A : Option Addr} {n c : Nat} {L : List ByteArray} {w : World} (h : Sl w A n c L) (hf : fewB L = true) (z : Int) (t : Int × Int) : Calls Try.prog 15 #[.slice A n c, .int .i64 z, tagV t] w (RetI (chkE L z t) w) := by
  have hx0 := Ext.al w (.cells #[.int .i64 t.1, .int .i64 t.2] 24)
  have hs := h.ext hx0
  have HF := Lib.hid hf
  clear hf
  go_enter Try.func15, Try.ntmps15
  go_wp2_with fail
  refine (rwhole_any hs HF.out).mono ?_
  rintro e w1 ⟨k, rfl, hk, rfl⟩
  by_cases hz : (whole (L.take k)).size ≤ 2560
  · have hW := hk.all hz
    rw [hW] at hz ⊢
    have HZ := Lib.hid hz
    have hcE : cutE (whole L) = 0 := by simp [cutE, hz]
    have hcL : cutL (whole L) = chunks (whole L) (cn (whole L)) := by simp [cutL, hz]
    have HCE := Lib.hid hcE
    have HCL := Lib.hid hcL
    clear hcE hcL hW hk
    generalize hS : whole L = S at *
    have HS := Lib.hid hS
    clear hS
    go_wp2_with fail
    refine (rcut_any S _ (by omega)).mono ?_
    rintro e w2 ⟨⟨v, K, rfl, ho, hK⟩, x2⟩
    rw [HCE.out]
    rw [HCL.out] at ho
    obtain ⟨B, d, rfl, hB⟩ := ho.slice (by omega)
    clear ho
    have hL2 := hs.ext x2
    have hA := (Cel.new w t.1 t.2 24).ext x2
    have hx := Ext.of hx0 x2
    clear hx0 x2 hs h
    by_cases hd : chunks S (cn S) = L
    · have hcr : chkB L z t = (decide ((S.size : Int) = z) && tagB S t) := by
        have := chk_rest (L := L) (z := z) (t := t) (by rw [HS.out]; exact hz) (by rw [HS.out]; exact hd)
        rw [HS.out] at this
        exact this
      have HR := Lib.hid hcr
      have HD := Lib.hid (decide_eq_true hd)
      clear hcr hd
      by_cases hzz : (S.size : Int) = z
      · have hzb : ((S.size : Int) != z) = false := by simpa using hzz
        have HZZ := Lib.hid hzz
        have a0 := Later.cell hA.c0
        have a1 := Later.cell hA.c1
        clear hzz
        cases ht : tagB S t with
        | true =>
          have hne := neq_is (s := tagOf S) (t := t) (b := false) (by unfold tagB at ht; rw [ht]; rfl)
          have HE := Lib.hid (chk_yes (L := L) (z := z) (t := t) (by rw [HR.out, ht, decide_eq_true HZZ.out]; rfl))
          clear ht
          go_wp2
          refine wp_region_later (by kernel_rfl) (by kernel_rfl) ?_
          repeat (go_big_quiet_step (first
            | (go_at_call 13; exact Calls.later (same_is (hB.ext (Later.is _)) (hL2.ext (Later.is _)) HD.out))
            | (go_at_call 24; exact Calls.later (rof_is S _ (by have := HZ.out; omega)))))
          refine wpQuiet_nil ?_
          intro w3 hx3
          go_wp2
          go_ret
          exact RetI.of HE.out.symm (Ext.of hx hx3)
        | false =>
          have hne := neq_is (s := tagOf S) (t := t) (b := true) (by unfold tagB at ht; rw [ht]; rfl)
          have HE := Lib.hid (chk_no (L := L) (z := z) (t := t) (by rw [HR.out, ht, Bool.and_false]))
          clear ht
          go_wp2
          refine wp_region_later (by kernel_rfl) (by kernel_rfl) ?_
          repeat (go_big_quiet_step (first
            | (go_at_call 13; exact Calls.later (same_is (hB.ext (Later.is _)) (hL2.ext (Later.is _)) HD.out))
            | (go_at_call 24; exact Calls.later (rof_is S _ (by have := HZ.out; omega)))))
          refine wpQuiet_nil ?_
          intro w3 hx3
          go_wp2
          go_ret
          exact RetI.of HE.out.symm (Ext.of hx hx3)
      · have hzb : ((S.size : Int) != z) = true := by simpa using hzz
        have HE := Lib.hid (chk_no (L := L) (z := z) (t := t) (by rw [HR.out, decide_eq_false hzz]; rfl))
        clear hzz
        go_wp2
        refine wp_region_later (by kernel_rfl) (by kernel_rfl) ?_
        repeat (go_big_quiet_step (first
          | (go_at_call 13; exact Calls.later (same_is (hB.ext (Later.is _)) (hL2.ext (Later.is _)) HD.out))
          | (go_at_call 24; exact Calls.later (rof_is S _ (by have := HZ.out; omega)))))
        refine wpQuiet_nil ?_
        intro w3 hx3
        go_wp2
        go_ret
        exact RetI.of HE.out.symm (Ext.of hx hx3)
    · have HD := Lib.hid (decide_eq_false hd)
      have HE := Lib.hid (chk_no (L := L) (z := z) (t := t) (chk_diff (by rw [HS.out]; exact hd)))
      clear hd
      go_wp2
      refine wp_region_later (by kernel_rfl) (by kernel_rfl) ?_
      repeat (go_big_quiet_step (first
        | (go_at_call 13; exact Calls.later (same_is (hB.ext (Later.is _)) (hL2.ext (Later.is _)) HD.out))
        | (go_at_call 24; exact Calls.later (rof_is S _ (by have := HZ.out; omega)))))
      refine wpQuiet_nil ?_
      intro w3 hx3
      go_wp2
      go_ret
      exact RetI.of HE.out.symm (Ext.of hx hx3)
  · have hbig : ¬ (whole L).size ≤ 2560 := by
      have := whole_take_le L k
      omega
    have HE := Lib.hid (chk_no (L := L) (z := z) (t := t) (chk_size hbig))
    obtain ⟨S, hS⟩ : ∃ S, whole (L.take k) = S := ⟨_, rfl⟩
    rw [hS] at hz ⊢
    have hcE : cutE S = 5 := by simp [cutE, hz]
    have HCE := Lib.hid hcE
    have hSz : S.size ≤ 9223372036854775807 := by
      rw [← hS]
      have := whole_take_le L k
      have := total_few HF.out
      rw [whole_size] at *
      rw [whole_size] at *
      omega
    clear hcE hS hbig hz
    go_wp2_with fail
    refine (rcut_any S _ hSz).mono ?_
    rintro e w2 ⟨⟨v, K, rfl, ho, hK⟩, x2⟩
    rw [HCE.out]
    have hx := Ext.of hx0 x2
    clear ho
    go_wp2
    refine wp_region_later (by kernel_rfl) (by kernel_rfl) ?_
    repeat (go_big_quiet_step (first
      | (go_at_call 13; exact Calls.later (same_is (hB.ext (Later.is _)) (hL2.ext (Later.is _)) HD.out))
      | (go_at_call 24; exact Calls.later (rof_is S _ (by have := HZ.out; omega)))))
    refine wpQuiet_nil ?_
    intro w3 hx3
    go_wp2
    go_ret
    exact RetI.of HE.out.symm (Ext.of hx hx3)

end Go.Proofs.Ytpfjikkpfnmepaa
