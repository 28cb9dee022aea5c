/-
  The reference: which time stands for its row, which is kept.
-/
import Derived.Test.YtehbdgbolbbgkaaSmall
namespace Go.Proofs.Ytehbdgbolbbgkaa
open Go.RowKit

def firstB (L : List Int) (e : Int) (i : Nat) : Bool := i == 0 || match L[i]?, L[i - 1]? with | some v, some u => v / e != u / e | _, _ => false
theorem firstB_zero (L : List Int) (e : Int) : firstB L e 0 = true := by simp [firstB]
theorem firstB_succ {L : List Int} {e : Int} {j : Nat} {v u : Int} (h : L[j + 1]? = some v) (g : L[j]? = some u) : firstB L e (j + 1) = (v / e != u / e) := by simp [firstB, h, g]

theorem rise_pos {L : List Int} (h : riseB L = true) {i : Nat} {v : Int} (hv : L[i]? = some v) : 1 ≤ v ∧ v ≤ 1152921504606846976 := by
  have := riseB_at h (List.getElem?_eq_some_iff.1 hv).1
  unfold okAt at this
  rw [hv] at this
  simp at this
  exact this.1

theorem first_any {A : Option Addr} {n c : Nat} {L : List Int} {e : Int} {i : Nat} {w : World} (h : Sl w A n c L) (hr : riseB L = true) (he : 1 ≤ e) (hi : i < n) :
    Calls Try.prog 32 #[.slice A n c, .int .i64 i, .int .i64 e] w fun x w' => x = .returned (.bool (firstB L e i)) ∧ Ext w w' := by
  have hb := h.big
  obtain ⟨b, off, rfl, ha⟩ := h.at_ (by omega)
  obtain ⟨v, hg, -, -⟩ := h.get hi
  obtain ⟨hv1, hv2⟩ := rise_pos hr hg.out
  have c0 := ha.later hg.out
  have HR := Lib.hid hr
  clear hr
  rcases i with _ | j
  · have HF := Lib.hid (firstB_zero L e)
    simp only [Nat.add_zero] at c0
    go_enter Try.func32, Try.ntmps32
    go_wp2
    refine wp_region_later (by kernel_rfl) (by kernel_rfl) ?_
    repeat (go_big_quiet_step (fail))
    refine wpQuiet_nil ?_
    intro w1 hx
    go_wp2
    go_ret
    exact ⟨ret_bool HF.out.symm, hx⟩
  · obtain ⟨u, hg', -, -⟩ := h.get (show j < n by omega)
    obtain ⟨hu1, hu2⟩ := rise_pos HR.out hg'.out
    have d0 := ha.later hg'.out
    have HF := Lib.hid (firstB_succ (e := e) hg.out hg'.out)
    have hz : (((j : Int) + 1) == 0) = false := by simp; omega
    go_enter Try.func32, Try.ntmps32
    go_wp2
    refine wp_region_later (by kernel_rfl) (by kernel_rfl) ?_
    repeat (go_big_quiet_step (fail))
    refine wpQuiet_nil ?_
    intro w1 hx
    go_wp2
    go_ret
    exact ⟨ret_bool HF.out.symm, hx⟩

theorem first_is {A : Option Addr} {n c : Nat} {L : List Int} {e : Int} {i : Nat} {w : World} {b : Bool} (hb : firstB L e i = b) (h : Sl w A n c L) (hr : riseB L = true) (he : 1 ≤ e) (hi : i < n) :
    Calls Try.prog 32 #[.slice A n c, .int .i64 i, .int .i64 e] w fun x w' => x = .returned (.bool b) ∧ Ext w w' := by
  subst hb
  exact first_any h hr he hi

/-- The places below j that stand for their rows, from the last one on. -/
def DI (L : List Int) (e : Int) : Nat → List Nat
  | 0 => []
  | j + 1 => if firstB L e j = true then j :: DI L e j else DI L e j
def fc (L : List Int) (e : Int) (j : Nat) : Nat := (DI L e j).length
theorem fc_yes {L : List Int} {e : Int} {j : Nat} (h : firstB L e j = true) : fc L e (j + 1) = fc L e j + 1 := by simp [fc, DI, h]
theorem fc_no {L : List Int} {e : Int} {j : Nat} (h : firstB L e j = false) : fc L e (j + 1) = fc L e j := by simp [fc, DI, h]
theorem fc_le (L : List Int) (e : Int) (j : Nat) : fc L e j ≤ j := by
  induction j with
  | zero => simp [fc, DI]
  | succ j ih =>
    cases h : firstB L e j with
    | true => rw [fc_yes h]; omega
    | false => rw [fc_no h]; omega
theorem fc_mono {L : List Int} {e : Int} {i j : Nat} (h : i ≤ j) : fc L e i ≤ fc L e j := by
  induction j with
  | zero => obtain rfl : i = 0 := by omega
            exact Nat.le_refl _
  | succ j ih =>
    rcases Nat.lt_or_ge j i with hl | hl
    · obtain rfl : i = j + 1 := by omega
      exact Nat.le_refl _
    · refine Nat.le_trans (ih hl) ?_
      cases h : firstB L e j with
      | true => rw [fc_yes h]; omega
      | false => rw [fc_no h]; omega

def elderN (n : Nat) (l : Int) : Nat := n - l.toNat
def keptB (L : List Int) (p : Pol) (i : Nat) : Bool :=
  decide (elderN L.length p.l ≤ i) || (firstB L p.e i && decide ((fc L p.e (elderN L.length p.l) - fc L p.e i : Nat) ≤ p.r))
theorem kept_old {L : List Int} {p : Pol} {i : Nat} (h : elderN L.length p.l ≤ i) : keptB L p i = true := by simp [keptB, h]
theorem kept_no {L : List Int} {p : Pol} {i : Nat} (h : i < elderN L.length p.l) (hf : firstB L p.e i = false) : keptB L p i = false := by simp [keptB, hf]; omega
theorem kept_yes {L : List Int} {p : Pol} {i : Nat} (h : i < elderN L.length p.l) (hf : firstB L p.e i = true) : keptB L p i = decide ((fc L p.e (elderN L.length p.l) - fc L p.e i : Nat) ≤ p.r) := by
  simp [keptB, hf]; omega

theorem pol_of {p : Pol} (h : polB p = true) : 1 ≤ p.l ∧ p.l ≤ 1000 ∧ 1 ≤ p.e ∧ p.e ≤ 1152921504606846976 ∧ 0 ≤ p.r ∧ p.r ≤ 1000 := by
  simp [polB] at h
  omega

theorem kept_any {A : Option Addr} {n c : Nat} {L : List Int} {l e r : Int} {i : Nat} {w : World} (h : Sl w A n c L) (hr : riseB L = true) (hp : polB ⟨l, e, r⟩ = true) (hi : i < n) :
    Calls Try.prog 27 #[.slice A n c, .int .i64 i, .agg #[.int .i64 l, .int .i64 e, .int .i64 r]] w fun x w' => x = .returned (.bool (keptB L ⟨l, e, r⟩ i)) ∧ Ext w w' := by
  obtain ⟨p1, p2, p3, p4, p5, p6⟩ := pol_of hp
  simp only at p1 p2 p3 p4 p5 p6
  have hb := h.big
  have HL := Lib.hid h.len
  have HR := Lib.hid hr
  have x0 := Ext.alloc w (.cells #[.int .i64 l, .int .i64 e, .int .i64 r] 24)
  obtain ⟨g0, g1, g2⟩ := pol_new w l e r 24
  have HEl : Hid (elderN n l = n - l.toNat) := rfl
  clear hr hp
  by_cases hE : elderN n l ≤ i
  · have hE' : (n : Int) - l ≤ i := by have := HEl.out; omega
    have HK := Lib.hid (kept_old (p := ⟨l, e, r⟩) (show elderN L.length l ≤ i by rw [HL.out]; exact hE))
    clear hE
    by_cases hnl : (n : Int) ≤ l
    · go_enter Try.func27, Try.ntmps27
      go_wp2
      go_ret
      exact ⟨ret_bool HK.out.symm, x0⟩
    · go_enter Try.func27, Try.ntmps27
      go_wp2
      go_ret
      exact ⟨ret_bool HK.out.symm, x0⟩
  · have hE1 : ((elderN n l : Nat) : Int) ≤ n - l := by have := HEl.out; omega
    have hE2 : (n : Int) - l ≤ ((elderN n l : Nat) : Int) := by have := HEl.out; omega
    have hiE : i < elderN n l := by omega
    have hEn : elderN n l ≤ n := by have := HEl.out; omega
    have hx := h.ext x0
    cases hf : firstB L e i with
    | false =>
      have HK := Lib.hid (kept_no (p := ⟨l, e, r⟩) (show i < elderN L.length l by rw [HL.out]; exact hiE) hf)
      have HF := Lib.hid hf
      clear hf hE
      generalize elderN n l = E at *
      go_enter Try.func27, Try.ntmps27
      go_wp2_with fail
      refine (first_is HF.out hx HR.out p3 hi).mono ?_
      rintro y w1 ⟨rfl, x1⟩
      have X := Ext.of x0 x1
      clear x0 x1 g0 g1 g2 hx
      go_wp2
      go_ret
      exact ⟨ret_bool HK.out.symm, X⟩
    | true =>
      have hk := kept_yes (p := ⟨l, e, r⟩) (show i < elderN L.length l by rw [HL.out]; exact hiE) hf
      rw [HL.out] at hk
      have HK := Lib.hid hk
      have HF := Lib.hid hf
      clear hf hE hk
      generalize elderN n l = E at *
      go_enter Try.func27, Try.ntmps27
      go_wp2_with fail
      refine (first_is HF.out hx HR.out p3 hi).mono ?_
      rintro y w1 ⟨rfl, x1⟩
      have X := Ext.of x0 x1
      have k1 := x1.cell g1
      have k2 := x1.cell g2
      clear x0 x1 g0 g1 g2 hx
      go_wp2
      go_loopw [8, 9] (fun q j wr => ∃ k : Nat, i ≤ k ∧ k ≤ E ∧ j = .int .i64 k ∧ q = .int .i64 (fc L e k - fc L e i : Nat) ∧ Ext w1 wr) (fun _ j _ => E - (intOf j).toNat)
      case atStart => exact ⟨i, Nat.le_refl _, by omega, rfl, by rw [Nat.sub_self]; rfl, Below.refl _ _⟩
      case round =>
        obtain ⟨k, hik, hkE, rfl, rfl, hxr⟩ := hrel
        have q1 := hxr.cell k1
        have q2 := hxr.cell k2
        have Xr := Ext.of X hxr
        by_cases hlt : k < E
        · have hlr := h.ext Xr
          have hle := fc_le L e k
          have hmo := fc_mono (L := L) (e := e) hik
          cases hf' : firstB L e k with
          | true =>
            have HF' := Lib.hid hf'
            have HQ : Hid ((fc L e (k + 1) - fc L e i : Nat) = (fc L e k - fc L e i : Nat) + 1) := by show _ = _; rw [fc_yes hf']; omega
            clear hf'
            have hq : fc L e k - fc L e i ≤ k := by omega
            generalize fc L e k - fc L e i = q at *
            go_wp2_with fail
            refine (first_is HF'.out hlr HR.out p3 (by omega)).mono ?_
            rintro y w2 ⟨rfl, x2⟩
            have X2 := Ext.of hxr x2
            clear x2 hlr q1 q2 hmo hle
            go_wp2
            go_roundw
            case rel => exact ⟨k + 1, by omega, by omega, by go_num, by rw [HQ.out]; go_num, X2⟩
            case measure => simp [intOf]; omega
          | false =>
            have HF' := Lib.hid hf'
            have HQ : Hid ((fc L e (k + 1) - fc L e i : Nat) = (fc L e k - fc L e i : Nat)) := by show _ = _; rw [fc_no hf']
            clear hf'
            generalize fc L e k - fc L e i = q at *
            go_wp2_with fail
            refine (first_is HF'.out hlr HR.out p3 (by omega)).mono ?_
            rintro y w2 ⟨rfl, x2⟩
            have X2 := Ext.of hxr x2
            clear x2 hlr q1 q2 hmo hle
            go_wp2
            go_roundw
            case rel => exact ⟨k + 1, by omega, by omega, by go_num, by rw [HQ.out], X2⟩
            case measure => simp [intOf]; omega
        · obtain rfl : k = E := by omega
          go_wp2
          go_ret
          exact ⟨ret_bool HK.out.symm, Xr⟩

end Go.Proofs.Ytehbdgbolbbgkaa
