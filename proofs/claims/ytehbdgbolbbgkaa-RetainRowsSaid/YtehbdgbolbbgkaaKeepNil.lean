/-
  Keep: no times at all; whatever comes.
-/
import Derived.Test.YtehbdgbolbbgkaaKeep
namespace Go.Proofs.Ytehbdgbolbbgkaa
open Go.RowKit

attribute [local go_sem] Oper.semAt_some

set_option maxRecDepth 100000 in
set_option maxHeartbeats 2000000 in
theorem keep_nil {l e r : Int} {w : World} (h : Sl w none 0 0 []) (HP : Hid (polB ⟨l, e, r⟩ = true)) (HR : Hid (riseB [] = true)) :
    Calls Try.prog 9 #[.slice none 0 0, .agg #[.int .i64 l, .int .i64 e, .int .i64 r]] w fun x w' => RetK w' w.heap.size 0 (keepL [] ⟨l, e, r⟩) (kchk [] ⟨l, e, r⟩) x ∧ Ext w w' := by
  have hb := h.big
  have hcap := h.cap
  have HL := Lib.hid h.len
  have x0 := Ext.alloc w (.cells #[.int .i64 l, .int .i64 e, .int .i64 r] 24)
  obtain ⟨g0, g1, g2⟩ := pol_new w l e r 24
  have HK := Lib.hid (pchk_yes HP.out)
  have HKK := Lib.hid (kchk_ok HP.out HR.out)
  obtain ⟨hl1, hl2, he1, he2, hr1, hr2⟩ : 1 ≤ l ∧ l ≤ 1000 ∧ 1 ≤ e ∧ e ≤ 1152921504606846976 ∧ 0 ≤ r ∧ r ≤ 1000 := by
    have := HP.out
    simp [polB] at this
    omega
  refine (callsIn_wide (n := 3)).1 (callsIn_of_wp_marks Try.func9 rfl trivial ?_ rfl)
  simp only [Try.ntmps9, List.size_toArray, List.length_cons, List.length_nil, Nat.reduceAdd, Nat.reduceSub, Array.replicate_succ, Array.replicate_zero, List.push_toArray, List.append_toArray, List.nil_append, List.cons_append]
  refine wpIn_wide.2 ?_
  go_wp2_with fail
  refine (pcheck_is HK.out _).mono ?_
  rintro y w1 ⟨rfl, x1⟩
  have X1 := Ext.of x0 x1
  have f0 := x1.cell g0
  have f1 := x1.cell g1
  have f2 := x1.cell g2
  clear x0 x1 g0 g1 g2
  go_wp2_with fail
  refine (rise_is HR.out (h.ext X1)).mono ?_
  rintro y w2 ⟨rfl, x2⟩
  have X2 := Ext.of X1 x2
  have e0 := x2.cell f0
  have e1 := x2.cell f1
  have e2 := x2.cell f2
  clear X1 x2 f0 f1 f2
  have hE : elderN 0 l = 0 := by unfold elderN; omega
  have hE1 : 0 ≤ 0 := Nat.le_refl _
  have HE := Lib.hid hE
  clear hE
  go_upto_region 6 with fail
  go_cut [7] from 18 to 24 (fun v wx => v = .int .i64 0 ∧ wx = w2)
  case first =>
    go_wp2
    all_goals
      go_meet
      refine ⟨?_, rfl⟩
      rfl
  case rest =>
    obtain ⟨rfl, rfl⟩ := hcut
    go_wp2
    refine wp_region_mix' [(0, true), (1, true), (2, true), (3, true), (4, false), (5, false)] (by kernel_rfl) (by kernel_rfl) (by kernel_rfl) (by kernel_rfl) (by kernel_rfl) ?_
    intro W0 xW
    simp only [pick, List.getElem?_cons_succ, List.getElem?_cons_zero]
    repeat (refine mix_calm (by rfl) ?_; intro K hK; go_big_quiet_op; go_big_quiet_on)
    have bO := Boxed.new wc 22 (.slice none 0 0)
    have X3 := Ext.of X2 (Ext.of (Ext.alloc wc (.cells #[.slice none 0 0] 22)) xW)
    have d1 := xW.cell (Lib.cell?_alloc_some (.cells #[.slice none 0 0] 22) e1)
    have d2 := xW.cell (Lib.cell?_alloc_some (.cells #[.slice none 0 0] 22) e2)
    refine mix_sole (by rfl) ?_
    intro K hK
    go_simp
    refine hK _ _ ?_
    clear hK K
    refine mix_sole (by rfl) ?_
    intro K hK
    go_simp
    refine (rows_any _ _ _ _ _).mono ?_
    rintro y w5 ⟨rfl, x5, hsz5, k1, k2⟩
    refine hK _ _ ?_
    clear hK K
    refine mix_nil ⟨rfl, ?_⟩
    go_wp2
    rename_i K1 hK1
    have hB5 : wc.heap.size < w5.heap.size := by have := xW.size; simp at this; omega
    have hww : w.heap.size ≤ wc.heap.size := X2.size
    have X5 := Ext.of X3 x5
    have hB6 : W0.heap.size < w5.heap.size := by omega
    have hB7 : W0.heap.size + 1 < w5.heap.size := by omega
    clear hsz5
    have b5 : Boxed w5 wc.heap.size 22 (.slice none 0 0) := ((xW.trans (x5.mono xW.size)).block wc.heap.size (by simp)).trans bO
    have d5 := x5.cell d2
    have hwlt : w.heap.size < wc.heap.size := World.block_lt_of_cell? _ _ e0
    obtain ⟨i0, hi, hz0, hz1, hz2⟩ := info_parts info_int
    have tail : ∀ (D : Nat) (W : World) (v : Value) (O : List Int), w5.heap.size ≤ D → W.heap[D]? = some (.deferred (some [])) → Boxed W wc.heap.size 22 v → Own W w5.heap.size v O.length O → KpB w5.heap.size wc.heap.size w5 W → O.length ≤ 0 → Hid (O = (DV [] e 0).take r.toNat) →
        K1 { tmps := #[.slice none 0 0, .agg #[.int .i64 l, .int .i64 e, .int .i64 r], undef, .pointer (some ⟨w.heap.size, 0, none⟩), .slice none 0 0, .int .i64 0, .int .i64 0, .int .i64 0, .pointer (some ⟨wc.heap.size, 0, none⟩), undef, .agg #[.int .i64 l, .int .i64 e, .int .i64 r],
          .int .i64 0, .int .i64 0, .bool false, undef, .slice none 0 0, .bool true, .bool false, u18, u19, u20, u21, u22, u23, .slice none 0 0, .int .i64 0, .slice none 0 0, .pointer (some ⟨w.heap.size, 1, none⟩), .int .i64 e,
          .func (.func 28) #[] #[.pointer (some ⟨W0.heap.size, 0, none⟩), .pointer (some ⟨W0.heap.size + 1, 0, none⟩)], undef, undef, undef, undef, undef, undef, undef, undef, undef, undef, undef, undef, undef, undef, undef, undef, undef], defers := [{ target := .collected D, args := #[] }] } W := by
      intro D W v O hD hDW hbx hown hkp hOE hO
      refine hK1 _ _ ?_
      have hcl := hbx.cell
      go_wp2_with fail
      refine (reverse_any hown (by omega)).mono ?_
      rintro y W1 ⟨rfl, ho1, hg1⟩
      have hb1 := hbx.kept hg1 (hbx.not_row (by decide) hown.row)
      have hs1 : w5.heap.size ≤ W1.heap.size := Nat.le_trans hkp.size hg1.size
      have hD1 : W1.heap[D]? = some (.deferred (some [])) := (hg1.block D (Array.getElem?_eq_some_iff.1 hDW).1 (hown.ne hDW)).trans hDW
      have XW := hown.grows (hkp.ext X5 X5.size hww) X5.size hg1
      have hc1 := hb1.cell
      clear hg1 hbx hown hcl hDW hkp
      go_wp2
      refine wp_region_mix' [(1, true), (2, true), (3, true), (0, false), (4, false), (5, true), (6, true)] (by kernel_rfl) (by kernel_rfl) (by kernel_rfl) (by kernel_rfl) (by kernel_rfl) ?_
      intro W2 xW2
      simp only [pick, List.getElem?_cons_succ, List.getElem?_cons_zero]
      repeat (refine mix_calm (by rfl) ?_; intro K hK; go_big_quiet_op; go_big_quiet_on)
      have ho2 := ho1.later xW2
      have hc2 := xW2.cell hc1
      have hD2 : W2.heap[D]? = some (.deferred (some [])) := (xW2.block D (Array.getElem?_eq_some_iff.1 hD1).1).trans hD1
      have XW2 := Ext.of XW xW2
      have hs2 := h.ext XW2
      clear hc1 ho1 hb1 hD1
      refine mix_sole (by rfl) ?_
      intro K hK
      go_simp
      refine hK _ _ ?_
      clear hK K
      refine mix_sole (by rfl) ?_
      intro K hK
      obtain ⟨v3, w3, hr3, ho3, hg3, _⟩ := run_append_int 22 ho2 (Sl.none_ W2) (by omega) (Nat.le_trans hs1 xW2.size)
      refine Lib.wp_append_run W2 _ _ 22 22 rfl _ _ rfl rfl v3 w3 hr3 ?_
      go_simp
      refine hK _ _ ?_
      clear hK K
      have hD3 : w3.heap[D]? = some (.deferred (some [])) := (hg3.block D (Array.getElem?_eq_some_iff.1 hD2).1 (ho2.ne hD2)).trans hD2
      have X7 := ho2.grows XW2 X5.size hg3
      clear hg3 hr3 ho2 hD2 hs2 hc2
      repeat (refine mix_calm (by rfl) ?_; intro K hK; go_big_quiet_op; go_big_quiet_on)
      refine mix_nil ⟨rfl, ?_⟩
      go_wp2
      all_goals
        (try simp only [Exit.inBlock, Exit.then])
        refine ⟨by simp, .inl ⟨_, _, rfl, run_takeDeferred hD3, ?_⟩⟩
        refine ⟨_, results_tmp2 rfl _ _ _, ?_, ext_put X7 _ (Nat.le_trans X5.size hD)⟩
        exact RetK.mk (ho3.put _ hD3) X5.size (by omega) HKK.out (keepL_yes HKK.out HL.out HE.out hO.out)
    have b1 : wc.heap.size ≠ W0.heap.size := by have := xW.size; simp at this; omega
    refine (wpIn_wide (n := 3)).1 ?_
    refine wpIn_rangeFunc_ownG rfl (by omega) (gf := 28) (lb := #[.pointer (some ⟨W0.heap.size, 0, none⟩), .pointer (some ⟨W0.heap.size + 1, 0, none⟩)]) rfl trivial (enters_of Try.func28 (by kernel_rfl) rfl)
      (rows_stops (n := 2) (by omega) W0.heap.size (W0.heap.size + 1) wc.heap.size none 0 0 [] e (by omega) he1 (rise_range HR.out) (by rw [HL.out]; exact hE1) (w := w5) hB6 hB7 (by omega) (by have := xW.size; simp at this; omega) k1 k2 ?ha)
      (fun h k => h.trans k) (KpB.b rfl) (Below.refl _ _) (fun _ => rfl)
      (fun pre W => (∃ v, Boxed W wc.heap.size 22 v ∧ W.ownsRow w5.heap.size 3 1 v pre.length (cellsOf pre) ∧ (pre.length : Int) ≤ r) ∧ KpB w5.heap.size wc.heap.size w5 W)
      (fun c pre W => (∃ v, Boxed W wc.heap.size 22 v ∧ W.ownsRow w5.heap.size 3 1 v (pre.length - 1) (cellsOf pre.dropLast) ∧ (c = .exit 0 ∧ (pre.length : Int) = r + 1)) ∧ KpB w5.heap.size wc.heap.size w5 W)
      (OwnFrom.and (_root_.Go.Own.from (holdsRow_own w5.heap.size wc.heap.size 22 3 1 (fun pre : List Int => pre.length) cellsOf (fun pre _ => (pre.length : Int) ≤ r)) _) KpB.from_)
      (fun c => OwnFrom.and (_root_.Go.Own.from (holdsRow_own w5.heap.size wc.heap.size 22 3 1 (fun pre : List Int => pre.length - 1) (fun pre => cellsOf pre.dropLast) (fun pre _ => c = .exit 0 ∧ (pre.length : Int) = r + 1)) _) KpB.from_)
      ⟨⟨_, b5, World.ownsRow_nil _ _ _ _, by simpa using hr1⟩, KpB.refl _ _ _⟩
      (fun x => { tmps := #[.slice none 0 0, .agg #[.int .i64 l, .int .i64 e, .int .i64 r], undef, .pointer (some ⟨w.heap.size, 0, none⟩), .slice none 0 0, .int .i64 0, .int .i64 0, .int .i64 0, .pointer (some ⟨wc.heap.size, 0, none⟩), .int .i64 x, .agg #[.int .i64 l, .int .i64 e, .int .i64 r],
          .int .i64 0, .int .i64 0, .bool false, undef, .slice none 0 0, .bool true, .bool false, u18, u19, u20, u21, u22, u23, .slice none 0 0, .int .i64 0, .slice none 0 0, .pointer (some ⟨w.heap.size, 1, none⟩), .int .i64 e,
          .func (.func 28) #[] #[.pointer (some ⟨W0.heap.size, 0, none⟩), .pointer (some ⟨W0.heap.size + 1, 0, none⟩)], .int .i64 x, undef, undef, undef, undef, undef, undef, undef, undef, undef, undef, undef, undef, undef, undef, undef, undef], defers := [] }) ?assign ?body ?done ?stop
    case ha =>
      intro hE0
      obtain ⟨b, off, ea, ha⟩ := h.at_ (by omega)
      refine ⟨b, off, ea, ?_, fun i v hi _ => X5.cell (ha i v hi)⟩
      obtain ⟨v, hv⟩ : ∃ v, [][0]? = some v := ⟨_, List.getElem?_eq_getElem (by rw [HL.out]; omega)⟩
      have := World.block_lt_of_cell? _ _ (ha 0 v hv)
      simp at this
      omega
    case assign =>
      intro l' x W K hK
      gi_wp2
      exact hK
    case body =>
      rintro l' pre x W _ hlt
      exact absurd hlt (Nat.not_lt_zero _)
    case done =>
      rintro D ys W hD hys ⟨⟨v, hv, hrow, hle⟩, hB⟩ hK
      refine tail D W v ys hD hK hv ⟨hrow, ?_⟩ hB ?_ ?_
      · intro x hx
        rw [hys] at hx
        exact h.ok x (DV_mem hx)
      · rw [hys]
        exact DV_len _ _ _
      · show ys = _
        rw [← hys, List.take_of_length_le (by omega)]
    case stop =>
      rintro D c' pre W hD hpre ⟨⟨v, hv, hrow, ⟨rfl, hle⟩⟩, hB⟩ hK
      have HH : pre.dropLast = (DV [] e 0).take r.toNat := by
        obtain ⟨t, ht⟩ := hpre
        have hpl : pre.length = r.toNat + 1 := by omega
        rw [← ht, List.take_append_of_le_length (by omega), List.dropLast_eq_take, hpl]
        rfl
      gi_wp2
      refine tail D W v pre.dropLast hD hK hv ⟨by rw [List.length_dropLast]; exact hrow, ?_⟩ hB ?_ HH
      · intro x hx
        rw [HH] at hx
        exact h.ok x (DV_mem (List.mem_of_mem_take hx))
      · rw [HH]
        exact Nat.le_trans (by rw [List.length_take]; exact Nat.min_le_right _ _) (DV_len [] e 0)

theorem RetK.none_ {w : World} {L : List Int} {p : Pol} {base n : Nat} {r : Int} (h : kchk L p = r) (hr : r ≠ 0) : RetK w base n (keepL L p) (kchk L p) (.returned (.tuple #[.slice none 0 0, .int .i64 r])) :=
  ⟨_, 0, by rw [h], Nat.zero_le _, by rw [keepL_no (by rw [h]; exact hr)]; exact Own.nil_ _ _⟩

set_option maxHeartbeats 2000000 in
theorem keep_no {A : Option Addr} {n c : Nat} {L : List Int} {l e r : Int} {w : World} (h : Sl w A n c L) (HN : Hid ¬ (polB ⟨l, e, r⟩ = true ∧ riseB L = true)) :
    Calls Try.prog 9 #[.slice A n c, .agg #[.int .i64 l, .int .i64 e, .int .i64 r]] w fun x w' => RetK w' w.heap.size n (keepL L ⟨l, e, r⟩) (kchk L ⟨l, e, r⟩) x ∧ Ext w w' := by
  have x0 := Ext.alloc w (.cells #[.int .i64 l, .int .i64 e, .int .i64 r] 24)
  obtain ⟨g0, g1, g2⟩ := pol_new w l e r 24
  refine (callsIn_wide (n := 3)).1 (callsIn_of_wp_marks Try.func9 rfl trivial ?_ rfl)
  simp only [Try.ntmps9, List.size_toArray, List.length_cons, List.length_nil, Nat.reduceAdd, Nat.reduceSub, Array.replicate_succ, Array.replicate_zero, List.push_toArray, List.append_toArray, List.nil_append, List.cons_append]
  refine wpIn_wide.2 ?_
  cases hp : polB ⟨l, e, r⟩ with
  | false =>
    have HP := Lib.hid (pchk_no hp)
    have HK := Lib.hid (kchk_pol (L := L) hp)
    clear hp
    go_wp2_with fail
    refine (pcheck_is HP.out _).mono ?_
    rintro y w1 ⟨rfl, x1⟩
    have X := Ext.of x0 x1
    clear x0 x1
    go_wp2
    (try simp only [Exit.inBlock, Exit.then])
    exact ⟨_, results_tmp2 rfl _ _ _, RetK.none_ HK.out (by omega), X⟩
  | true =>
    have HP := Lib.hid (pchk_yes hp)
    have hr : riseB L = false := by
      have := HN.out
      cases hr : riseB L with
      | false => rfl
      | true => exact absurd ⟨hp, hr⟩ this
    have HK := Lib.hid (kchk_rise hp hr)
    have HR := Lib.hid hr
    clear hp hr
    go_wp2_with fail
    refine (pcheck_is HP.out _).mono ?_
    rintro y w1 ⟨rfl, x1⟩
    have X := Ext.of x0 x1
    clear x0 x1
    go_wp2_with fail
    refine (rise_is HR.out (h.ext X)).mono ?_
    rintro y w2 ⟨rfl, x2⟩
    have X2 := Ext.of X x2
    clear X x2
    go_wp2
    (try simp only [Exit.inBlock, Exit.then])
    exact ⟨_, results_tmp2 rfl _ _ _, RetK.none_ HK.out (by omega), X2⟩

theorem keep_any {A : Option Addr} {n c : Nat} {L : List Int} {l e r : Int} {w : World} (h : Sl w A n c L) :
    Calls Try.prog 9 #[.slice A n c, .agg #[.int .i64 l, .int .i64 e, .int .i64 r]] w fun x w' => RetK w' w.heap.size n (keepL L ⟨l, e, r⟩) (kchk L ⟨l, e, r⟩) x ∧ Ext w w' := by
  by_cases hh : polB ⟨l, e, r⟩ = true ∧ riseB L = true
  · rcases A with _ | a
    · obtain ⟨rfl, rfl⟩ := h.nil rfl
      have hL : L = [] := List.eq_nil_of_length_eq_zero h.len
      subst hL
      exact keep_nil h hh.1 hh.2
    · exact keep_yes h hh.1 hh.2
  · exact keep_no h hh

end Go.Proofs.Ytehbdgbolbbgkaa
