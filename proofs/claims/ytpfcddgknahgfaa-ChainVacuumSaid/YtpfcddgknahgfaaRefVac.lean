/-
  ambryref13.Vacuum, ambryref13.Rewind.
-/
import Derived.Test.YtpfcddgknahgfaaVac
namespace Go.Proofs.Ytpfcddgknahgfaa
open Go.RowKit

theorem Own.alloc {w : World} {base : Nat} {v : Value} {n : Nat} {L : List Ver} (h : Own w base v n L) (o : Obj) : Own (w.alloc o) base v n L := ⟨h.row.alloc o, h.ok⟩

theorem Sl.one (w : World) {t : Int} {s : ByteArray} {d : Bool} (h : Ver.ok ⟨t, s, d⟩) : Sl (w.alloc (.cells #[.int .i64 t, .string s, .bool d] 34)) (some ⟨w.heap.size, 0, none⟩) 1 1 [⟨t, s, d⟩] :=
  ⟨rfl, by omega, by omega, by unfold maxLen; omega, fun e => (by cases e), by simpa using h, fun _ => ⟨_, 0, rfl, fun i v hv => by
    match i, hv with
    | 0, hv => simp at hv; subst hv; exact VAt.new w t s d 34⟩⟩

theorem take_snoc {L : List Ver} {k : Nat} {v : Ver} (h : L[k]? = some v) : L.take k ++ [v] = L.take (k + 1) := by
  obtain ⟨hl, e⟩ := List.getElem?_eq_some_iff.1 h
  rw [← e, List.take_append_getElem hl]

theorem Own.step {w wr w1 : World} {base : Nat} {v v' : Value} {k : Nat} {L : List Ver} {x : Ver} {o : Obj} (h : Own wr base v k (L.take k)) (hx : Below base w wr) (hb : base ≤ wr.heap.size) (hg : L[k]? = some x)
    (h1 : Own w1 base v' (k + 1) (L.take k ++ [x])) (hgr : (wr.alloc o).grownBy w1 v.ownBlock) : Own w1 base v' (k + 1) (L.take (k + 1)) ∧ Below base w w1 :=
  ⟨by rw [← take_snoc hg]; exact h1, h1.keep (h.alloc o) hgr (hx.alloc hb o) (by simp; omega)⟩

theorem RetSl.of_own {w : World} {base : Nat} {v : Value} {n : Nat} {K L : List Ver} (h : Own w base v n K) (hn : n ≤ 1099511627776) (e : K = L) : RetSl w L (.returned v) := by
  subst e
  obtain ⟨A, c, rfl, hs⟩ := h.slice hn
  exact ⟨A, n, c, rfl, hs⟩

set_option maxHeartbeats 400000 in
theorem refVacuum_any {A : Option Addr} {n c : Nat} {L : List Ver} (m : Int) {w : World} (h : Sl w A n c L) :
    Calls Try.prog 21 #[.slice A n c, .int .i64 m] w fun e w' => RetSl w' (vacL L m) e ∧ Ext w w' := by
  have hn := h.cap
  have hb := h.big
  cases hc : chainB L with
  | false =>
    have HC := Lib.hid hc
    have HV := Lib.hid (vacL_no hc m)
    clear hc
    go_enter Try.func21, Try.ntmps21
    go_wp2_with (go_at_call 25; refine (isRight_is HC.out h).mono ?_; rintro e w1 ⟨rfl, hx⟩)
    go_ret
    exact ⟨⟨none, 0, 0, rfl, by rw [HV.out]; exact Sl.none_ _⟩, hx⟩
  | true =>
    have HC := Lib.hid hc
    have HV := Lib.hid (vacL_yes hc m)
    have hpl := plc_le L m
    have HL := Lib.hid h.len
    rw [h.len] at hpl
    clear hc
    go_enter Try.func21, Try.ntmps21
    go_wp2_with fail
    refine (isRight_is HC.out h).mono ?_
    rintro e w0 ⟨rfl, hx⟩
    go_wp2
    go_loopw [5, 6] (fun v i wr => ∃ k : Nat, k ≤ plc L m ∧ i = .int .i64 k ∧ Own wr w.heap.size v k (L.take k) ∧ Ext w wr) (fun _ i _ => n - (intOf i).toNat)
    case atStart => exact ⟨0, Nat.zero_le _, rfl, Own.nil_ _ _, hx⟩
    case round =>
      obtain ⟨k, hk, rfl, hown, hx'⟩ := hrel
      have hsz := Lib.hid hx'.size
      by_cases hlt : k < n
      · obtain ⟨b, off, rfl, ha⟩ := h.at_ (by omega)
        obtain ⟨t', s, d, hg, hok⟩ := h.get hlt
        have hv := (ha _ _ hg.out).ext hx'
        have HOK := Lib.hid hok
        obtain ⟨c0, c1, c2⟩ := id hv
        clear hok
        by_cases hkp : k < plc L m
        · have htt : m < t' := by
            obtain ⟨v, hv1, hv2⟩ := plc_before hkp
            rw [hg.out] at hv1
            injection hv1 with hv1
            subst hv1
            exact hv2
          go_wp2_with (at_builtin; refine wpList_append_ver rfl _ _ rfl rfl (hown.alloc _) rfl (Sl.one _ HOK.out) (by omega) ?_ ?_; exact Nat.le_trans hsz.out (by simp); intro v1 w1 hown1 hgr)
          obtain ⟨ho1, hx1⟩ := hown.step hx' hsz.out hg.out hown1 hgr
          clear hown1 hgr
          go_roundw
          case rel => exact ⟨k + 1, by omega, by go_num, ho1, hx1⟩
          case measure => simp [intOf]; omega
        · have he : plc L m = k := by omega
          have HE := Lib.hid he
          have hg' : Hid (L[plc L m]? = some ⟨t', s, d⟩) := by rw [he]; exact hg.out
          have htt : t' ≤ m := plc_at hg'.out
          have HKN := Lib.hid (keepN_at hg'.out)
          clear he
          cases d with
          | true =>
            have HN := Lib.hid (show keepN L m = k by rw [HKN.out, HE.out]; simp)
            go_wp2
            go_ret
            exact ⟨RetSl.of_own hown (by omega) (by rw [HV.out, HN.out]), hx'⟩
          | false =>
            have HN := Lib.hid (show keepN L m = k + 1 by rw [HKN.out, HE.out]; simp)
            go_wp2_with (at_builtin; refine wpList_append_ver rfl _ _ rfl rfl (hown.alloc _) rfl (Sl.one _ HOK.out) (by omega) ?_ ?_; exact Nat.le_trans hsz.out (by simp); intro v1 w1 hown1 hgr)
            obtain ⟨ho1, hx1⟩ := hown.step hx' hsz.out hg.out hown1 hgr
            clear hown1 hgr
            go_ret
            exact ⟨RetSl.of_own ho1 (by omega) (by rw [HV.out, HN.out]), hx1⟩
      · have HN := Lib.hid (keepN_end (m := m) (by rw [HL.out]; omega))
        have HE := Lib.hid (show plc L m = k by omega)
        go_wp2
        go_ret
        exact ⟨RetSl.of_own hown (by omega) (by rw [HV.out, HN.out, HE.out]), hx'⟩

end Go.Proofs.Ytpfcddgknahgfaa
