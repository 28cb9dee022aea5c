/-
  ambryref13.Rewind.
-/
import Derived.Test.YtpfcddgknahgfaaRefVac
namespace Go.Proofs.Ytpfcddgknahgfaa
open Go.RowKit

theorem drop_take_none {L : List Ver} {k p : Nat} (h : k ≤ p) : (L.take k).drop p = [] := by
  rw [List.drop_eq_nil_iff, List.length_take]; omega
theorem drop_take_snoc {L : List Ver} {k p : Nat} {v : Ver} (h : L[k]? = some v) (hp : p ≤ k) : (L.take k).drop p ++ [v] = (L.take (k + 1)).drop p := by
  have hl : k < L.length := (List.getElem?_eq_some_iff.1 h).1
  rw [← take_snoc h, List.drop_append_of_le_length (by rw [List.length_take]; omega)]

theorem Own.step2 {w wr w1 : World} {base : Nat} {v v' : Value} {k : Nat} {K K' : List Ver} {x : Ver} {o : Obj} (h : Own wr base v k K) (hx : Below base w wr) (hb : base ≤ wr.heap.size) (hg : K ++ [x] = K')
    (h1 : Own w1 base v' (k + 1) (K ++ [x])) (hgr : (wr.alloc o).grownBy w1 v.ownBlock) : Own w1 base v' (k + 1) K' ∧ Below base w w1 :=
  ⟨by rw [← hg]; exact h1, h1.keep (h.alloc o) hgr (hx.alloc hb o) (by simp; omega)⟩

set_option maxHeartbeats 400000 in
theorem refRewind_any {A : Option Addr} {n c : Nat} {L : List Ver} (m : Int) {w : World} (h : Sl w A n c L) :
    Calls Try.prog 22 #[.slice A n c, .int .i64 m] w fun e w' => RetSl w' (rewL L m) e ∧ Ext w w' := by
  have hn := h.cap
  have hb := h.big
  cases hc : chainB L with
  | false =>
    have HC := Lib.hid hc
    have HV := Lib.hid (rewL_no hc m)
    clear hc
    go_enter Try.func22, Try.ntmps22
    go_wp2_with (go_at_call 25; refine (isRight_is HC.out h).mono ?_; rintro e w1 ⟨rfl, hx⟩)
    go_ret
    exact ⟨⟨none, 0, 0, rfl, by rw [HV.out]; exact Sl.none_ _⟩, hx⟩
  | true =>
    have HC := Lib.hid hc
    have HV := Lib.hid (rewL_yes hc m)
    have hpl := plc_le L m
    have HL := Lib.hid h.len
    rw [h.len] at hpl
    clear hc
    go_enter Try.func22, Try.ntmps22
    go_wp2_with fail
    refine (isRight_is HC.out h).mono ?_
    rintro e w0 ⟨rfl, hx⟩
    go_wp2
    go_loopw [5, 6] (fun v i wr => ∃ k : Nat, k ≤ n ∧ i = .int .i64 k ∧ Own wr w.heap.size v (k - plc L m) ((L.take k).drop (plc L m)) ∧ Ext w wr) (fun _ i _ => n - (intOf i).toNat)
    case atStart => exact ⟨0, Nat.zero_le _, rfl, by rw [drop_take_none (Nat.zero_le _), Nat.zero_sub]; exact Own.nil_ _ _, hx⟩
    case round =>
      obtain ⟨k, hk, rfl, hown, hx'⟩ := hrel
      have hsz := Lib.hid hx'.size
      by_cases hlt : k < n
      · obtain ⟨b, off, rfl, ha⟩ := h.at_ (by omega)
        obtain ⟨t', s, d, hg, hok⟩ := h.get hlt
        have hv := (ha _ _ hg.out).ext hx'
        have HOK := Lib.hid hok
        obtain ⟨c0, c1, c2⟩ := id hv
        clear hok
        by_cases hkp : k < plc L m
        · have htt : m < t' := by
            obtain ⟨v, hv1, hv2⟩ := plc_before hkp
            rw [hg.out] at hv1
            injection hv1 with hv1
            subst hv1
            exact hv2
          have ho1 := hown
          rw [show k - plc L m = k + 1 - plc L m by omega, drop_take_none (by omega), ← drop_take_none (L := L) (k := k + 1) (p := plc L m) (by omega)] at ho1
          have HO1 := Lib.hid ho1
          clear ho1
          go_wp2
          go_roundw
          case rel => exact ⟨k + 1, by omega, by go_num, HO1.out, hx'⟩
          case measure => simp [intOf]; omega
        · have htt : t' ≤ m := plc_after HC.out (by omega) hg.out
          go_wp2_with (at_builtin; refine wpList_append_ver rfl _ _ rfl rfl (hown.alloc _) rfl (Sl.one _ HOK.out) (by omega) ?_ ?_; exact Nat.le_trans hsz.out (by simp); intro v1 w1 hown1 hgr)
          obtain ⟨ho1, hx1⟩ := hown.step2 hx' hsz.out (drop_take_snoc hg.out (by omega)) hown1 hgr
          rw [show k - plc L m + 1 = k + 1 - plc L m by omega] at ho1
          have HO1 := Lib.hid ho1
          clear hown1 hgr ho1
          go_roundw
          case rel => exact ⟨k + 1, by omega, by go_num, HO1.out, hx1⟩
          case measure => simp [intOf]; omega
      · have HE : Hid ((L.take k).drop (plc L m) = L.drop (plc L m)) := by
          show _ = _
          rw [List.take_of_length_le (by rw [HL.out]; omega)]
        go_wp2
        go_ret
        exact ⟨RetSl.of_own hown (by omega) (by rw [HV.out, HE.out]), hx'⟩

end Go.Proofs.Ytpfcddgknahgfaa
