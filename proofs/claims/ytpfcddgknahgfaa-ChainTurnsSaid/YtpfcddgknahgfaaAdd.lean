/-
  chain.Add, ambryref13.Add, the statements' own copy.
-/
import Derived.Test.YtpfcddgknahgfaaConcat
namespace Go.Proofs.Ytpfcddgknahgfaa
open Go.RowKit

def tooLate (L : List Ver) (v : Ver) : Bool := match L with | [] => false | u :: _ => decide (v.t ≤ u.t)
def addErr (L : List Ver) (v : Ver) : Int := if chainB L = true then (if rightB v = true then (if tooLate L v = true then 18 else 0) else 2) else 4
def addL (L : List Ver) (v : Ver) : List Ver := if addErr L v = 0 then v :: L else []
def RetAdd (w : World) (L : List Ver) (r : Int) (e : Ending) : Prop := ∃ A n c, e = .returned (.tuple #[.slice A n c, .int .i64 r]) ∧ Sl w A n c L

theorem tooLate_cons {L : List Ver} {v u : Ver} (h : L[0]? = some u) : tooLate L v = decide (v.t ≤ u.t) := by
  cases L with
  | nil => simp at h
  | cons a l => simp at h; subst h; rfl
theorem add_case {L : List Ver} {v : Ver} {a b d : Bool} {r : Int} (h1 : chainB L = a) (h2 : rightB v = b) (h3 : tooLate L v = d) (hr : (if a = true then (if b = true then (if d = true then 18 else 0) else 2) else 4) = r) : addErr L v = r := by
  subst h1 h2 h3
  exact hr
theorem addL_no {L : List Ver} {v : Ver} (h : addErr L v ≠ 0) : addL L v = [] := by simp [addL, h]
theorem addL_yes {L : List Ver} {v : Ver} (h : addErr L v = 0) : addL L v = v :: L := by simp [addL, h]

theorem RetAdd.none_ {w : World} {L : List Ver} {v : Ver} {r : Int} (h : addErr L v = r) (hr : r ≠ 0) : RetAdd w (addL L v) (addErr L v) (.returned (.tuple #[.slice none 0 0, .int .i64 r])) :=
  ⟨none, 0, 0, by rw [h], by rw [addL_no (by rw [h]; exact hr)]; exact Sl.none_ _⟩

theorem RetAdd.some_ {w : World} {L : List Ver} {v : Ver} {A : Option Addr} {n c : Nat} (h : addErr L v = 0) (hs : Sl w A n c (v :: L)) : RetAdd w (addL L v) (addErr L v) (.returned (.tuple #[.slice A n c, .int .i64 0])) :=
  ⟨A, n, c, by rw [h], by rw [addL_yes h]; exact hs⟩

/-- A block of two slices. -/
theorem two_cells (w : World) (a b : Value) (ty : TypeId) : (w.alloc (.cells #[a, b] ty)).cell? ⟨w.heap.size, 0, none⟩ = some a ∧ (w.alloc (.cells #[a, b] ty)).cell? ⟨w.heap.size, 1, none⟩ = some b := by
  constructor <;> simp [World.cell?_alloc_at]

theorem concat_add {A : Option Addr} {n c : Nat} {L : List Ver} {t : Int} {s : ByteArray} {d : Bool} (w : World) (h : Sl w A n c L) (hok : Ver.ok ⟨t, s, d⟩) (hn : n < 1099511627776) :
    Calls Try.prog 28 #[.slice (some ⟨w.heap.size + 1, 0, none⟩) 2 2] ((w.alloc (.cells #[.int .i64 t, .string s, .bool d] 34)).alloc (.cells #[.slice (some ⟨w.heap.size, 0, none⟩) 1 1, .slice A n c] 22)) fun e w' => RetSl w' (⟨t, s, d⟩ :: L) e ∧ Ext w w' := by
  have x1 := Ext.alloc w (.cells #[.int .i64 t, .string s, .bool d] 34)
  have x2 := Ext.alloc (w.alloc (.cells #[.int .i64 t, .string s, .bool d] 34)) (.cells #[.slice (some ⟨w.heap.size, 0, none⟩) 1 1, .slice A n c] 22)
  have h1 := (Sl.one w hok).ext x2
  have h2 := (h.ext x1).ext x2
  obtain ⟨g0, g1⟩ := two_cells (w.alloc (.cells #[.int .i64 t, .string s, .bool d] 34)) (.slice (some ⟨w.heap.size, 0, none⟩) 1 1) (.slice A n c) 22
  rw [show (w.alloc (.cells #[.int .i64 t, .string s, .bool d] 34)).heap.size = w.heap.size + 1 by simp] at g0 g1
  exact (concat_any g0 g1 h1 h2 (by omega) (by omega)).mono fun e w' ⟨hr, hx⟩ => ⟨hr, Ext.of (Ext.of x1 x2) hx⟩

set_option maxHeartbeats 800000 in
theorem add_any {A : Option Addr} {n c : Nat} {L : List Ver} {t : Int} {s : ByteArray} {d : Bool} {w : World} (h : Sl w A n c L) (hok : Ver.ok ⟨t, s, d⟩) (hn1 : n < 1099511627776) :
    Calls Try.prog 18 #[.slice A n c, .agg #[.int .i64 t, .string s, .bool d]] w fun e w' => RetAdd w' (addL L ⟨t, s, d⟩) (addErr L ⟨t, s, d⟩) e ∧ Ext w w' := by
  have hx0 := Ext.alloc w (.cells #[.int .i64 t, .string s, .bool d] 34)
  have hv0 := VAt.new w t s d 34
  have hss := hok.1
  have HOK := Lib.hid hok
  have hb := h.cap
  have hwd := h.wide
  unfold maxLen at hwd
  clear hok
  cases hc : chainB L with
  | false =>
    have HK := Lib.hid (chk_no hc)
    have HA := Lib.hid (add_case hc rfl rfl rfl : addErr L ⟨t, s, d⟩ = 4)
    clear hc
    go_enter Try.func18, Try.ntmps18
    go_wp2_with (go_at_call 11; refine (check_is HK.out (h.ext hx0)).mono ?_; rintro e w1 ⟨rfl, hx⟩)
    go_ret2
    exact ⟨RetAdd.none_ HA.out (by omega), Ext.of hx0 hx⟩
  | true =>
    have HK := Lib.hid (chk_yes hc)
    cases hr : rightB ⟨t, s, d⟩ with
    | false =>
      have HR := Lib.hid hr
      have HA := Lib.hid (add_case hc hr rfl rfl : addErr L ⟨t, s, d⟩ = 2)
      clear hc hr
      go_enter Try.func18, Try.ntmps18
      go_wp2_with fail
      refine (check_is HK.out (h.ext hx0)).mono ?_
      rintro e w1 ⟨rfl, hx⟩
      have hx1 := Ext.of hx0 hx
      obtain ⟨c0, c1, c2⟩ := hv0.ext hx
      go_wp2_with fail
      refine (right_is HR.out hss _).mono ?_
      rintro e w2 ⟨rfl, hx2⟩
      go_wp2
      go_ret2
      exact ⟨RetAdd.none_ HA.out (by omega), Ext.of hx1 hx2⟩
    | true =>
      have HR := Lib.hid hr
      have HC := Lib.hid hc
      have HRR := Lib.hid hr
      clear hc hr
      go_enter Try.func18, Try.ntmps18
      go_wp2_with fail
      refine (check_is HK.out (h.ext hx0)).mono ?_
      rintro e w1 ⟨rfl, hx⟩
      have hx1 := Ext.of hx0 hx
      obtain ⟨c0, c1, c2⟩ := hv0.ext hx
      go_wp2_with fail
      refine (right_is HR.out hss _).mono ?_
      rintro e w2 ⟨rfl, hx2⟩
      have hx12 := Ext.of hx1 hx2
      have hv2 := (hv0.ext hx).ext hx2
      obtain ⟨m0, m1, m2⟩ := hv2.later
      clear c0 c1 c2
      by_cases hz : 0 < n
      · obtain ⟨b, off, rfl, ha⟩ := h.at_ hz
        obtain ⟨t', s', d', hg, -, -, -⟩ := h.get hz
        have hu := (ha _ _ hg.out).ext hx12
        simp only [Nat.zero_mul, Nat.add_zero] at hu
        obtain ⟨u0, u1, u2⟩ := hu.later
        have HT := Lib.hid (tooLate_cons (v := ⟨t, s, d⟩) hg.out)
        by_cases hlt : t ≤ t'
        · have HA := Lib.hid (add_case HC.out HR.out (show tooLate L ⟨t, s, d⟩ = true by rw [HT.out]; simpa using hlt) rfl : addErr L ⟨t, s, d⟩ = 18)
          go_wp2
          refine wp_region_later (by kernel_rfl) (by kernel_rfl) ?_
          repeat (go_big_quiet_step (fail))
          refine wpQuiet_nil ?_
          intro w3 hx3
          go_wp2
          go_ret2
          exact ⟨RetAdd.none_ HA.out (by omega), Ext.of hx12 hx3⟩
        · have HA := Lib.hid (add_case HC.out HR.out (show tooLate L ⟨t, s, d⟩ = false by rw [HT.out]; simpa using hlt) rfl : addErr L ⟨t, s, d⟩ = 0)
          go_wp2
          refine wp_region_later (by kernel_rfl) (by kernel_rfl) ?_
          repeat (go_big_quiet_step (fail))
          refine wpQuiet_nil ?_
          intro w3 hx3
          obtain ⟨c0, c1, c2⟩ := hv2.ext hx3
          have hx13 := Ext.of hx12 hx3
          go_wp2_with fail
          refine (concat_add w3 (h.ext hx13) HOK.out hn1).mono ?_
          rintro e w4 ⟨⟨A', n', c', rfl, hs⟩, hx4⟩
          go_wp2
          go_ret2
          exact ⟨RetAdd.some_ HA.out hs, Ext.of hx13 hx4⟩
      · have HL : Hid (L = []) := List.eq_nil_of_length_eq_zero (by rw [h.len]; omega)
        have HA := Lib.hid (add_case HC.out HR.out (show tooLate L ⟨t, s, d⟩ = false by rw [HL.out]; rfl) rfl : addErr L ⟨t, s, d⟩ = 0)
        go_wp2
        refine wp_region_later (by kernel_rfl) (by kernel_rfl) ?_
        repeat (go_big_quiet_step (fail))
        refine wpQuiet_nil ?_
        intro w3 hx3
        obtain ⟨c0, c1, c2⟩ := hv2.ext hx3
        have hx13 := Ext.of hx12 hx3
        go_wp2_with fail
        refine (concat_add w3 (h.ext hx13) HOK.out hn1).mono ?_
        rintro e w4 ⟨⟨A', n', c', rfl, hs⟩, hx4⟩
        go_wp2
        go_ret2
        exact ⟨RetAdd.some_ HA.out hs, Ext.of hx13 hx4⟩

theorem own_one {A : Option Addr} {n c : Nat} {L : List Ver} {t : Int} {s : ByteArray} {d : Bool} (w : World) (h : Sl w A n c L) (hok : Ver.ok ⟨t, s, d⟩) :
    Sl (w.alloc (.cells #[.int .i64 t, .string s, .bool d] 34)) A n c L ∧ Own (w.alloc (.cells #[.int .i64 t, .string s, .bool d] 34)) w.heap.size (.slice (some ⟨w.heap.size, 0, none⟩) 1 1) 1 [⟨t, s, d⟩] ∧
      Below w.heap.size w (w.alloc (.cells #[.int .i64 t, .string s, .bool d] 34)) ∧ w.heap.size ≤ (w.alloc (.cells #[.int .i64 t, .string s, .bool d] 34)).heap.size :=
  ⟨h.ext (Ext.alloc _ _), ⟨⟨rfl, .inr ⟨w.heap.size, 1, _, rfl, Nat.le_refl _, heap_alloc_new w _, by omega, by unfold maxLen; omega, rfl, rfl⟩⟩, by simpa using hok⟩, Ext.alloc _ _, by simp⟩

set_option maxHeartbeats 800000 in
theorem refAdd_any {A : Option Addr} {n c : Nat} {L : List Ver} {t : Int} {s : ByteArray} {d : Bool} {w : World} (h : Sl w A n c L) (hok : Ver.ok ⟨t, s, d⟩) (hn1 : n < 1099511627776) :
    Calls Try.prog 19 #[.slice A n c, .agg #[.int .i64 t, .string s, .bool d]] w fun e w' => RetAdd w' (addL L ⟨t, s, d⟩) (addErr L ⟨t, s, d⟩) e ∧ Ext w w' := by
  have hx0 := Ext.alloc w (.cells #[.int .i64 t, .string s, .bool d] 34)
  have hv0 := VAt.new w t s d 34
  have hss := hok.1
  have HOK := Lib.hid hok
  have hb := h.cap
  have hwd := h.wide
  unfold maxLen at hwd
  clear hok
  cases hc : chainB L with
  | false =>
    have HK := Lib.hid hc
    have HA := Lib.hid (add_case hc rfl rfl rfl : addErr L ⟨t, s, d⟩ = 4)
    clear hc
    go_enter Try.func19, Try.ntmps19
    go_wp2_with (go_at_call 25; refine (isRight_is HK.out (h.ext hx0)).mono ?_; rintro e w1 ⟨rfl, hx⟩)
    go_ret2
    exact ⟨RetAdd.none_ HA.out (by omega), Ext.of hx0 hx⟩
  | true =>
    have HK := Lib.hid hc
    cases hr : rightB ⟨t, s, d⟩ with
    | false =>
      have HR := Lib.hid hr
      have HA := Lib.hid (add_case hc hr rfl rfl : addErr L ⟨t, s, d⟩ = 2)
      clear hc hr
      go_enter Try.func19, Try.ntmps19
      go_wp2_with fail
      refine (isRight_is HK.out (h.ext hx0)).mono ?_
      rintro e w1 ⟨rfl, hx⟩
      have hx1 := Ext.of hx0 hx
      obtain ⟨c0, c1, c2⟩ := hv0.ext hx
      go_wp2_with fail
      refine (refRight_is HR.out hss _).mono ?_
      rintro e w2 ⟨rfl, hx2⟩
      go_wp2
      go_ret2
      exact ⟨RetAdd.none_ HA.out (by omega), Ext.of hx1 hx2⟩
    | true =>
      have HR := Lib.hid hr
      clear hc hr
      go_enter Try.func19, Try.ntmps19
      go_wp2_with fail
      refine (isRight_is HK.out (h.ext hx0)).mono ?_
      rintro e w1 ⟨rfl, hx⟩
      have hx1 := Ext.of hx0 hx
      obtain ⟨c0, c1, c2⟩ := hv0.ext hx
      go_wp2_with fail
      refine (refRight_is HR.out hss _).mono ?_
      rintro e w2 ⟨rfl, hx2⟩
      have hx12 := Ext.of hx1 hx2
      have hv2 := (hv0.ext hx).ext hx2
      obtain ⟨m0, m1, m2⟩ := hv2.later
      clear c0 c1 c2
      by_cases hz : 0 < n
      · obtain ⟨b, off, rfl, ha⟩ := h.at_ hz
        obtain ⟨t', s', d', hg, -, -, -⟩ := h.get hz
        have hu := (ha _ _ hg.out).ext hx12
        simp only [Nat.zero_mul, Nat.add_zero] at hu
        obtain ⟨u0, u1, u2⟩ := hu.later
        have HT := Lib.hid (tooLate_cons (v := ⟨t, s, d⟩) hg.out)
        by_cases hlt : t ≤ t'
        · have HA := Lib.hid (add_case HK.out HR.out (show tooLate L ⟨t, s, d⟩ = true by rw [HT.out]; simpa using hlt) rfl : addErr L ⟨t, s, d⟩ = 18)
          go_wp2
          refine wp_region_later (by kernel_rfl) (by kernel_rfl) ?_
          repeat (go_big_quiet_step (fail))
          refine wpQuiet_nil ?_
          intro w3 hx3
          go_wp2
          go_ret2
          exact ⟨RetAdd.none_ HA.out (by omega), Ext.of hx12 hx3⟩
        · have HA := Lib.hid (add_case HK.out HR.out (show tooLate L ⟨t, s, d⟩ = false by rw [HT.out]; simpa using hlt) rfl : addErr L ⟨t, s, d⟩ = 0)
          go_wp2
          refine wp_region_later (by kernel_rfl) (by kernel_rfl) ?_
          repeat (go_big_quiet_step (fail))
          refine wpQuiet_nil ?_
          intro w3 hx3
          obtain ⟨c0, c1, c2⟩ := hv2.ext hx3
          have hx13 := Ext.of hx12 hx3
          obtain ⟨hs3, ho3, hxa, hz3⟩ := own_one w3 (h.ext hx13) HOK.out
          have HZ := Lib.hid hz3
          clear hz3
          go_wp2_with (at_builtin; refine wpList_append_ver rfl _ _ rfl rfl ho3 rfl hs3 (by omega) HZ.out ?_; intro v4 w4 ho4 hg4; have hx4 := Lib.hid (ho4.keep ho3 hg4 hxa HZ.out))
          obtain ⟨A', c', rfl, hs⟩ := ho4.slice (by omega)
          go_ret2
          exact ⟨RetAdd.some_ HA.out hs, Ext.of hx13 hx4.out⟩
      · have HL : Hid (L = []) := List.eq_nil_of_length_eq_zero (by rw [h.len]; omega)
        have HA := Lib.hid (add_case HK.out HR.out (show tooLate L ⟨t, s, d⟩ = false by rw [HL.out]; rfl) rfl : addErr L ⟨t, s, d⟩ = 0)
        go_wp2
        refine wp_region_later (by kernel_rfl) (by kernel_rfl) ?_
        repeat (go_big_quiet_step (fail))
        refine wpQuiet_nil ?_
        intro w3 hx3
        obtain ⟨c0, c1, c2⟩ := hv2.ext hx3
        have hx13 := Ext.of hx12 hx3
        obtain ⟨hs3, ho3, hxa, hz3⟩ := own_one w3 (h.ext hx13) HOK.out
        have HZ := Lib.hid hz3
        clear hz3
        go_wp2_with (at_builtin; refine wpList_append_ver rfl _ _ rfl rfl ho3 rfl hs3 (by omega) HZ.out ?_; intro v4 w4 ho4 hg4; have hx4 := Lib.hid (ho4.keep ho3 hg4 hxa HZ.out))
        obtain ⟨A', c', rfl, hs⟩ := ho4.slice (by omega)
        go_ret2
        exact ⟨RetAdd.some_ HA.out hs, Ext.of hx13 hx4.out⟩

/-- The statements' own copy: one place more lies behind it. -/
def RetOwn (w : World) (L : List Ver) (e : Ending) : Prop := ∃ A n c, e = .returned (.slice A n c) ∧ Sl w A n c L ∧ Sl w A (n + 1) c (L ++ [⟨99, ⟨#[]⟩, false⟩])

theorem Sl.take_cap {w : World} {A : Option Addr} {n c : Nat} {L : List Ver} {v : Ver} (h : Sl w A (n + 1) c (L ++ [v])) (hl : L.length = n) : Sl w A n c L :=
  ⟨hl, by have := h.cap; omega, by have := h.big; omega, h.wide, fun e => by have := h.nil e; omega, fun x hx => h.ok x (by simp [hx]), fun h0 => by
    obtain ⟨b, off, e, ha⟩ := h.at_ (by omega)
    refine ⟨b, off, e, fun i x hx => ha i x ?_⟩
    have hi : i < L.length := (List.getElem?_eq_some_iff.1 hx).1
    rw [List.getElem?_append_left hi]
    exact hx⟩

theorem own_any {A : Option Addr} {n c : Nat} {L : List Ver} {w : World} (h : Sl w A n c L) (hn1 : n < 1099511627776) : Calls Try.prog 17 #[.slice A n c] w fun e w' => RetOwn w' L e ∧ Ext w w' := by
  have hb := h.cap
  have hx := Ext.alloc w (.cells #[] 34)
  have ho := Own.made w w.heap.size (Nat.le_refl _)
  have hs := h.ext hx
  have HZ := Lib.hid (show w.heap.size ≤ (w.alloc (.cells #[] 34)).heap.size by simp)
  go_enter Try.func17, Try.ntmps17
  have hok : Ver.ok ⟨99, ⟨#[]⟩, false⟩ := ⟨by decide, by decide, by decide⟩
  go_wp2_with (first | (at_builtin; refine wpList_append_ver rfl (.tmp 3) (.tmp 4) rfl rfl ho rfl hs (by omega) HZ.out ?_; intro v1 w1 ho1 hg1; have hx1 := Lib.hid (ho1.keep ho hg1 hx HZ.out); clear hg1; have hz1 := Lib.hid hx1.out.size; simp only [Nat.zero_add, List.nil_append] at ho1) | (at_builtin; refine wpList_append_ver rfl (.tmp 5) (.tmp 7) rfl rfl (ho1.alloc _) rfl (Sl.one _ hok) (by omega) (Nat.le_trans hz1.out (by simp)) ?_; intro v2 w2 ho2 hg2; have hx2 := Lib.hid (ho2.keep (ho1.alloc _) hg2 (hx1.out.alloc hz1.out _) (Nat.le_trans hz1.out (by simp))); clear hg2; obtain ⟨A2, c2, rfl, hs2⟩ := ho2.slice (by omega); have hc2 := hs2.cap))
  go_ret
  exact ⟨⟨A2, n, c2, rfl, by have := hs2.take_cap h.len; exact this, hs2⟩, hx2.out⟩

end Go.Proofs.Ytpfcddgknahgfaa
