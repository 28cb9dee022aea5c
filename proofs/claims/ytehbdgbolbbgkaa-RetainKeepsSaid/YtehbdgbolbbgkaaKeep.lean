/-
  Keep.
-/
import Derived.Deep.DeepCutAuto
import Derived.Deep.CutRange
import Derived.Test.YtehbdgbolbbgkaaStops
import Derived.Test.YtehbdgbolbbgkaaRefKeep
import Derived.Test.YtehbdgbolbbgkaaRev
namespace Go.Proofs.Ytehbdgbolbbgkaa
open Go.RowKit

attribute [local go_sem] Oper.semAt_some

theorem KpB.ext {n₀ B : Nat} {w w' W : World} (h : KpB n₀ B w' W) (hx : Ext w w') (hn : w.heap.size ≤ n₀) (hB : w.heap.size ≤ B) : Ext w W :=
  ⟨h.os.trans hx.os, h.tape.trans hx.tape, h.output.trans hx.output, Nat.le_trans hx.size h.size, fun k hk => (h.block k (by omega) (by omega)).trans (hx.block k hk)⟩
theorem Own.ne {W : World} {base n D : Nat} {v : Value} {L : List Int} {ds : List Deferred} (h : Own W base v n L) (hD : W.heap[D]? = some (.deferred (some ds))) : some D ≠ v.ownBlock := by
  rcases h.row.2 with ⟨rfl, _⟩ | ⟨g, cap, cur, rfl, _, hgb, _⟩
  · simp [Value.ownBlock]
  · intro e'
    obtain rfl : D = g := by simpa [Value.ownBlock] using e'
    rw [hD] at hgb
    cases hgb
theorem Own.grows {w W W' : World} {base n : Nat} {v : Value} {L : List Int} (h : Own W base v n L) (hx : Ext w W) (hb : w.heap.size ≤ base) (hg : W.grownBy W' v.ownBlock) : Ext w W' :=
  Below.grown hx hg hx.size fun k hk => Nat.le_trans hb (h.row.lt k hk).1
theorem Own.put {W : World} {base n D : Nat} {v : Value} {L : List Int} {ds : List Deferred} (h : Own W base v n L) (o : Obj) (hD : W.heap[D]? = some (.deferred (some ds))) : Own (W.putObj D o) base v n L :=
  ⟨ownsRow_putObj h.row o hD rfl, h.ok⟩
theorem Own.weaken {W : World} {base base' n : Nat} {v : Value} {L : List Int} (h : Own W base v n L) (hb : base' ≤ base) : Own W base' v n L := by
  refine ⟨⟨h.row.1, ?_⟩, h.ok⟩
  rcases h.row.2 with hn | ⟨g, cap, cur, rfl, hbg, rest⟩
  · exact .inl hn
  · exact .inr ⟨g, cap, cur, rfl, Nat.le_trans hb hbg, rest⟩
theorem Sl.drop {w : World} {a : Addr} {n c E : Nat} {L : List Int} (h : Sl w (some a) n c L) (hE : E ≤ n) : Sl w (if c = E then some a else some (a.add E)) (n - E) (c - E) (L.drop E) := by
  have hc := h.cap
  have hb := h.big
  have hw := h.wide
  refine ⟨by rw [List.length_drop, h.len], by omega, by omega, by omega, ?_, fun x hx => h.ok x (List.mem_of_mem_drop hx), fun h0 => ?_⟩
  · intro h0
    split at h0 <;> cases h0
  · obtain ⟨b, off, e, ha⟩ := h.at_ (by omega)
    injection e with e
    subst e
    rw [if_neg (by omega)]
    refine ⟨b, off + E, by rw [add_lit], fun i x hx => ?_⟩
    rw [List.getElem?_drop] at hx
    have := ha (E + i) x hx
    rwa [← Nat.add_assoc] at this

/-- What is kept, as Keep reckons it. -/
def keepL (L : List Int) (p : Pol) : List Int := if kchk L p = 0 then ((DV L p.e (elderN L.length p.l)).take p.r.toNat).reverse ++ L.drop (elderN L.length p.l) else []
theorem keepL_yes {L : List Int} {l e r : Int} (h : kchk L ⟨l, e, r⟩ = 0) {O : List Int} {n E : Nat} (hn : L.length = n) (hE : elderN n l = E) (hO : O = (DV L e E).take r.toNat) : keepL L ⟨l, e, r⟩ = O.reverse ++ L.drop E := by
  subst hn hE hO
  simp [keepL, h]
theorem keepL_no {L : List Int} {p : Pol} (h : kchk L p ≠ 0) : keepL L p = [] := by simp [keepL, h]

theorem rise_range {L : List Int} (h : riseB L = true) : ∀ (i : Nat) (v : Int), L[i]? = some v → 1 ≤ v ∧ v ≤ 1152921504606846976 := by
  intro i v hi
  have hk := riseB_at h (List.getElem?_eq_some_iff.1 hi).1
  unfold okAt at hk
  rw [hi] at hk
  simp at hk
  omega
theorem KpB.from_ {β : Type} {B C : Nat} {w : World} (hC : C = w.heap.size := by rfl) : OwnFrom C (fun (_ : β) W => KpB w.heap.size B w W) := by
  subst hC
  intro s X Y row hs hg hr
  exact ⟨hg.os.trans hs.os, hg.tape.trans hs.tape, hg.output.trans hs.output, Nat.le_trans hs.size hg.size, fun k hk hb => (hg.block k (Nat.lt_of_lt_of_le hk hs.size) (fun e => by have := (hr k e.symm).1; omega)).trans (hs.block k hk hb)⟩

theorem slice_form {W : World} {base k : Nat} {v : Value} {xs : List Value} (h : W.ownsRow base 3 1 v k xs) : ∃ A c, v = .slice A k c := by
  rcases h.2 with ⟨rfl, rfl⟩ | ⟨g, cap, cur, rfl, _⟩
  · exact ⟨none, 0, rfl⟩
  · exact ⟨_, cap, rfl⟩
theorem cellsOf_append (K L : List Int) : cellsOf (K ++ L) = cellsOf K ++ cellsOf L := List.map_append ..

/-- 'out = append(out, t)' into a box below n₀. -/
theorem appended {W w1 : World} {n₀ B : Nat} {v v' : Value} {k m : Nat} {xs ys : List Value} {tmp : Obj}
    (hv : Boxed W B 22 v) (hrow : W.ownsRow n₀ 3 1 v k xs) (hn₀ : n₀ ≤ W.heap.size)
    (hown' : w1.ownsRow n₀ 3 1 v' m ys) (hgrow : (W.alloc tmp).grownBy w1 v.ownBlock) :
    Boxed w1 B 22 v ∧ Boxed (w1.setCell ⟨B, 0, none⟩ v') B 22 v' ∧ (w1.setCell ⟨B, 0, none⟩ v').ownsRow n₀ 3 1 v' m ys ∧ KeepsOthers W (w1.setCell ⟨B, 0, none⟩ v') ∧ KpB n₀ B W (w1.setCell ⟨B, 0, none⟩ v') := by
  have hv1 : Boxed w1 B 22 v := (hv.alloc tmp).kept hgrow (hv.not_row (by decide) hrow)
  have hb1 : Below n₀ W w1 := ((Below.refl n₀ W).alloc hn₀ tmp).grown hgrow (by simp; omega) fun j ej => by
    rcases hrow.2 with ⟨rfl, _⟩ | ⟨g, cap, cur, rfl, hb, _, _⟩
    · simp [Value.ownBlock] at ej
    · obtain rfl : g = j := by simpa [Value.ownBlock] using ej
      exact hb
  refine ⟨hv1, hv1.set v', hown'.kept (grownBy_setCell' w1 B v') (.inr (hv1.not_row (by decide) hown').symm), ?_, ?_⟩
  · refine ((KeepsOthers.alloc W tmp).trans (KeepsOthers.of_grownBy hgrow fun j o ej hj => ?_)).trans (KeepsOthers.setCell _ _ _)
    rcases (hrow.alloc tmp).2 with ⟨rfl, _⟩ | ⟨g, cap, cur, rfl, _, hgb, _⟩
    · simp [Value.ownBlock] at ej
    · obtain rfl : g = j := by simpa [Value.ownBlock] using ej
      rw [hgb] at hj; cases hj; rfl
  · have hg := grownBy_setCell' w1 B v'
    exact ⟨hg.os.trans hb1.os, hg.tape.trans hb1.tape, hg.output.trans hb1.output, Nat.le_trans hb1.size hg.size, fun i hi hb => (hg.block i (by have := hb1.size; omega) (fun e => by cases e; exact hb rfl)).trans (hb1.block i hi)⟩

theorem DV_mem {L : List Int} {e : Int} {j : Nat} {x : Int} (h : x ∈ DV L e j) : x ∈ L := by
  induction j with
  | zero => simp [DV] at h
  | succ j ih =>
    cases hj : L[j]? with
    | none => simp only [DV, hj] at h; exact ih h
    | some v =>
      simp only [DV, hj] at h
      split at h
      · rcases List.mem_cons.1 h with rfl | h
        · exact List.mem_of_getElem? hj
        · exact ih h
      · exact ih h

def RetK (w' : World) (base n : Nat) (I : List Int) (r : Int) (e : Ending) : Prop := ∃ v k, e = .returned (.tuple #[v, .int .i64 r]) ∧ k ≤ n ∧ Own w' base v k I
theorem RetK.mk {w' : World} {base base' n k : Nat} {I J : List Int} {v : Value} {r : Int} (h : Own w' base' v k J) (hb : base ≤ base') (hk : k ≤ n) (hr : r = 0) (hI : I = J) : RetK w' base n I r (.returned (.tuple #[v, .int .i64 0])) := by
  subst hr hI
  exact ⟨v, k, rfl, hk, h.weaken hb⟩
theorem ext_put {w W : World} {D : Nat} (hx : Ext w W) (o : Obj) (hD : w.heap.size ≤ D) : Ext w (W.putObj D o) :=
  Below.grown hx (grownBy_putObj' W D o) hx.size fun k hk => by cases hk; exact hD

set_option maxRecDepth 100000 in
set_option maxHeartbeats 2000000 in
theorem keep_yes {a : Addr} {n c : Nat} {L : List Int} {l e r : Int} {w : World} (h : Sl w (some a) n c L) (HP : Hid (polB ⟨l, e, r⟩ = true)) (HR : Hid (riseB L = true)) :
    Calls Try.prog 9 #[.slice (some a) n c, .agg #[.int .i64 l, .int .i64 e, .int .i64 r]] w fun x w' => RetK w' w.heap.size n (keepL L ⟨l, e, r⟩) (kchk L ⟨l, e, r⟩) x ∧ Ext w w' := by
  have hb := h.big
  have hcap := h.cap
  have HL := Lib.hid h.len
  have x0 := Ext.alloc w (.cells #[.int .i64 l, .int .i64 e, .int .i64 r] 24)
  obtain ⟨g0, g1, g2⟩ := pol_new w l e r 24
  have HK := Lib.hid (pchk_yes HP.out)
  have HKK := Lib.hid (kchk_ok HP.out HR.out)
  obtain ⟨hl1, hl2, he1, he2, hr1, hr2⟩ : 1 ≤ l ∧ l ≤ 1000 ∧ 1 ≤ e ∧ e ≤ 1152921504606846976 ∧ 0 ≤ r ∧ r ≤ 1000 := by
    have := HP.out
    simp [polB] at this
    omega
  refine (callsIn_wide (n := 3)).1 (callsIn_of_wp_marks Try.func9 rfl trivial ?_ rfl)
  simp only [Try.ntmps9, List.size_toArray, List.length_cons, List.length_nil, Nat.reduceAdd, Nat.reduceSub, Array.replicate_succ, Array.replicate_zero, List.push_toArray, List.append_toArray, List.nil_append, List.cons_append]
  refine wpIn_wide.2 ?_
  go_wp2_with fail
  refine (pcheck_is HK.out _).mono ?_
  rintro y w1 ⟨rfl, x1⟩
  have X1 := Ext.of x0 x1
  have f0 := x1.cell g0
  have f1 := x1.cell g1
  have f2 := x1.cell g2
  clear x0 x1 g0 g1 g2
  go_wp2_with fail
  refine (rise_is HR.out (h.ext X1)).mono ?_
  rintro y w2 ⟨rfl, x2⟩
  have X2 := Ext.of X1 x2
  have e0 := x2.cell f0
  have e1 := x2.cell f1
  have e2 := x2.cell f2
  clear X1 x2 f0 f1 f2
  obtain ⟨E, hE⟩ : ∃ E, elderN n l = E := ⟨_, rfl⟩
  have hE1 : E ≤ n := by unfold elderN at hE; omega
  have hE2 : (E : Int) = if (n : Int) ≤ l then 0 else n - l := by unfold elderN at hE; split <;> omega
  have HE := Lib.hid hE
  have HE2 := Lib.hid hE2
  clear hE hE2
  go_upto_region 6 with fail
  go_cut [7] from 18 to 24 (fun v wx => v = .int .i64 E ∧ wx = w2)
  case first =>
    go_wp2
    all_goals
      go_meet
      refine ⟨?_, rfl⟩
      have := HE2.out
      refine congrArg (Value.int .i64) ?_
      split at this <;> omega
  case rest =>
    obtain ⟨rfl, rfl⟩ := hcut
    go_wp2
    refine wp_region_mix' [(0, true), (1, true), (2, true), (3, true), (4, false), (5, false)] (by kernel_rfl) (by kernel_rfl) (by kernel_rfl) (by kernel_rfl) (by kernel_rfl) ?_
    intro W0 xW
    simp only [pick, List.getElem?_cons_succ, List.getElem?_cons_zero]
    repeat (refine mix_calm (by rfl) ?_; intro K hK; go_big_quiet_op; go_big_quiet_on)
    have bO := Boxed.new wc 22 (.slice none 0 0)
    have X3 := Ext.of X2 (Ext.of (Ext.alloc wc (.cells #[.slice none 0 0] 22)) xW)
    have d1 := xW.cell (Lib.cell?_alloc_some (.cells #[.slice none 0 0] 22) e1)
    have d2 := xW.cell (Lib.cell?_alloc_some (.cells #[.slice none 0 0] 22) e2)
    refine mix_sole (by rfl) ?_
    intro K hK
    go_simp
    refine hK _ _ ?_
    clear hK K
    refine mix_sole (by rfl) ?_
    intro K hK
    go_simp
    refine (rows_any _ _ _ _ _).mono ?_
    rintro y w5 ⟨rfl, x5, hsz5, k1, k2⟩
    refine hK _ _ ?_
    clear hK K
    refine mix_nil ⟨rfl, ?_⟩
    go_wp2
    rename_i K1 hK1
    have hB5 : wc.heap.size < w5.heap.size := by have := xW.size; simp at this; omega
    have hww : w.heap.size ≤ wc.heap.size := X2.size
    have X5 := Ext.of X3 x5
    have hB6 : W0.heap.size < w5.heap.size := by omega
    have hB7 : W0.heap.size + 1 < w5.heap.size := by omega
    clear hsz5
    have b5 : Boxed w5 wc.heap.size 22 (.slice none 0 0) := ((xW.trans (x5.mono xW.size)).block wc.heap.size (by simp)).trans bO
    have d5 := x5.cell d2
    have hwlt : w.heap.size < wc.heap.size := World.block_lt_of_cell? _ _ e0
    obtain ⟨i0, hi, hz0, hz1, hz2⟩ := info_parts info_int
    have tail : ∀ (D : Nat) (W : World) (v : Value) (O : List Int), w5.heap.size ≤ D → W.heap[D]? = some (.deferred (some [])) → Boxed W wc.heap.size 22 v → Own W w5.heap.size v O.length O → KpB w5.heap.size wc.heap.size w5 W → O.length ≤ E → Hid (O = (DV L e E).take r.toNat) →
        K1 { tmps := #[.slice (some a) n c, .agg #[.int .i64 l, .int .i64 e, .int .i64 r], undef, .pointer (some ⟨w.heap.size, 0, none⟩), .slice none 0 0, .int .i64 0, .int .i64 0, .int .i64 E, .pointer (some ⟨wc.heap.size, 0, none⟩), undef, .agg #[.int .i64 l, .int .i64 e, .int .i64 r],
          .int .i64 0, .int .i64 0, .bool false, undef, .slice (some a) n c, .bool true, .bool false, u18, u19, u20, u21, u22, u23, .slice (some a) n c, .int .i64 E, .slice (some a) E c, .pointer (some ⟨w.heap.size, 1, none⟩), .int .i64 e,
          .func (.func 28) #[] #[.pointer (some ⟨W0.heap.size, 0, none⟩), .pointer (some ⟨W0.heap.size + 1, 0, none⟩)], undef, undef, undef, undef, undef, undef, undef, undef, undef, undef, undef, undef, undef, undef, undef, undef, undef], defers := [{ target := .collected D, args := #[] }] } W := by
      intro D W v O hD hDW hbx hown hkp hOE hO
      refine hK1 _ _ ?_
      have hcl := hbx.cell
      go_wp2_with fail
      refine (reverse_any hown (by omega)).mono ?_
      rintro y W1 ⟨rfl, ho1, hg1⟩
      have hb1 := hbx.kept hg1 (hbx.not_row (by decide) hown.row)
      have hs1 : w5.heap.size ≤ W1.heap.size := Nat.le_trans hkp.size hg1.size
      have hD1 : W1.heap[D]? = some (.deferred (some [])) := (hg1.block D (Array.getElem?_eq_some_iff.1 hDW).1 (hown.ne hDW)).trans hDW
      have XW := hown.grows (hkp.ext X5 X5.size hww) X5.size hg1
      have hc1 := hb1.cell
      clear hg1 hbx hown hcl hDW hkp
      go_wp2
      refine wp_region_mix' [(1, true), (2, true), (3, true), (0, false), (4, false), (5, true), (6, true)] (by kernel_rfl) (by kernel_rfl) (by kernel_rfl) (by kernel_rfl) (by kernel_rfl) ?_
      intro W2 xW2
      simp only [pick, List.getElem?_cons_succ, List.getElem?_cons_zero]
      repeat (refine mix_calm (by rfl) ?_; intro K hK; go_big_quiet_op; go_big_quiet_on)
      have ho2 := ho1.later xW2
      have hc2 := xW2.cell hc1
      have hD2 : W2.heap[D]? = some (.deferred (some [])) := (xW2.block D (Array.getElem?_eq_some_iff.1 hD1).1).trans hD1
      have XW2 := Ext.of XW xW2
      have hs2 := h.ext XW2
      clear hc1 ho1 hb1 hD1
      refine mix_sole (by rfl) ?_
      intro K hK
      go_simp
      refine hK _ _ ?_
      clear hK K
      refine mix_sole (by rfl) ?_
      intro K hK
      obtain ⟨v3, w3, hr3, ho3, hg3, _⟩ := run_append_int 22 ho2 (hs2.drop hE1) (by omega) (Nat.le_trans hs1 xW2.size)
      refine Lib.wp_append_run W2 _ _ 22 22 rfl _ _ rfl rfl v3 w3 hr3 ?_
      go_simp
      refine hK _ _ ?_
      clear hK K
      have hD3 : w3.heap[D]? = some (.deferred (some [])) := (hg3.block D (Array.getElem?_eq_some_iff.1 hD2).1 (ho2.ne hD2)).trans hD2
      have X7 := ho2.grows XW2 X5.size hg3
      clear hg3 hr3 ho2 hD2 hs2 hc2
      repeat (refine mix_calm (by rfl) ?_; intro K hK; go_big_quiet_op; go_big_quiet_on)
      refine mix_nil ⟨rfl, ?_⟩
      go_wp2
      all_goals
        (try simp only [Exit.inBlock, Exit.then])
        refine ⟨by simp, .inl ⟨_, _, rfl, run_takeDeferred hD3, ?_⟩⟩
        refine ⟨_, results_tmp2 rfl _ _ _, ?_, ext_put X7 _ (Nat.le_trans X5.size hD)⟩
        exact RetK.mk (ho3.put _ hD3) X5.size (by omega) HKK.out (keepL_yes HKK.out HL.out HE.out hO.out)
    have b1 : wc.heap.size ≠ W0.heap.size := by have := xW.size; simp at this; omega
    refine (wpIn_wide (n := 3)).1 ?_
    refine wpIn_rangeFunc_ownG rfl (by omega) (gf := 28) (lb := #[.pointer (some ⟨W0.heap.size, 0, none⟩), .pointer (some ⟨W0.heap.size + 1, 0, none⟩)]) rfl trivial (enters_of Try.func28 (by kernel_rfl) rfl)
      (rows_stops (n := 2) (by omega) W0.heap.size (W0.heap.size + 1) wc.heap.size (some a) E c L e (by omega) he1 (rise_range HR.out) (by rw [HL.out]; exact hE1) (w := w5) hB6 hB7 (by omega) (by have := xW.size; simp at this; omega) k1 k2 ?ha)
      (fun h k => h.trans k) (KpB.b rfl) (Below.refl _ _) (fun _ => rfl)
      (fun pre W => (∃ v, Boxed W wc.heap.size 22 v ∧ W.ownsRow w5.heap.size 3 1 v pre.length (cellsOf pre) ∧ (pre.length : Int) ≤ r) ∧ KpB w5.heap.size wc.heap.size w5 W)
      (fun c pre W => (∃ v, Boxed W wc.heap.size 22 v ∧ W.ownsRow w5.heap.size 3 1 v (pre.length - 1) (cellsOf pre.dropLast) ∧ (c = .exit 0 ∧ (pre.length : Int) = r + 1)) ∧ KpB w5.heap.size wc.heap.size w5 W)
      (OwnFrom.and (_root_.Go.Own.from (holdsRow_own w5.heap.size wc.heap.size 22 3 1 (fun pre : List Int => pre.length) cellsOf (fun pre _ => (pre.length : Int) ≤ r)) _) KpB.from_)
      (fun c => OwnFrom.and (_root_.Go.Own.from (holdsRow_own w5.heap.size wc.heap.size 22 3 1 (fun pre : List Int => pre.length - 1) (fun pre => cellsOf pre.dropLast) (fun pre _ => c = .exit 0 ∧ (pre.length : Int) = r + 1)) _) KpB.from_)
      ⟨⟨_, b5, World.ownsRow_nil _ _ _ _, by simpa using hr1⟩, KpB.refl _ _ _⟩
      (fun x => { tmps := #[.slice (some a) n c, .agg #[.int .i64 l, .int .i64 e, .int .i64 r], undef, .pointer (some ⟨w.heap.size, 0, none⟩), .slice none 0 0, .int .i64 0, .int .i64 0, .int .i64 E, .pointer (some ⟨wc.heap.size, 0, none⟩), .int .i64 x, .agg #[.int .i64 l, .int .i64 e, .int .i64 r],
          .int .i64 0, .int .i64 0, .bool false, undef, .slice (some a) n c, .bool true, .bool false, u18, u19, u20, u21, u22, u23, .slice (some a) n c, .int .i64 E, .slice (some a) E c, .pointer (some ⟨w.heap.size, 1, none⟩), .int .i64 e,
          .func (.func 28) #[] #[.pointer (some ⟨W0.heap.size, 0, none⟩), .pointer (some ⟨W0.heap.size + 1, 0, none⟩)], .int .i64 x, undef, undef, undef, undef, undef, undef, undef, undef, undef, undef, undef, undef, undef, undef, undef, undef], defers := [] }) ?assign ?body ?done ?stop
    case ha =>
      intro hE0
      obtain ⟨b, off, ea, ha⟩ := h.at_ (by omega)
      refine ⟨b, off, ea, ?_, fun i v hi _ => X5.cell (ha i v hi)⟩
      obtain ⟨v, hv⟩ : ∃ v, L[0]? = some v := ⟨_, List.getElem?_eq_getElem (by rw [HL.out]; omega)⟩
      have := World.block_lt_of_cell? _ _ (ha 0 v hv)
      simp at this
      omega
    case assign =>
      intro l' x W K hK
      gi_wp2
      exact hK
    case body =>
      rintro l' pre x W ⟨⟨v, hv, hrow, hle⟩, hB⟩ hlt
      obtain ⟨A', cap', rfl⟩ := slice_form hrow
      have hc := hv.cell
      have hcr := (hB.cell (p := ⟨w.heap.size, 2, none⟩) (by simp; omega) (by simp; omega)).trans d5
      by_cases hq : (pre.length : Int) = r
      · have hq' : ((pre.length : Int) == r) = true := by simpa using hq
        gi_wp2
        exact ⟨KeepsFrom.refl _ _, ⟨_, hv, by simpa using hrow, rfl, by simp; omega⟩, hB⟩
      · have hq' : ((pre.length : Int) == r) = false := by simpa using hq
        gi_wp2_with (gi_at_builtin; refine wpListIn_append_own _ rfl _ _ 22 rfl w5.heap.size 3 i0 (.int .i64 0) 1 8 Try.underlying22 hi hz0 hz1 hz2 rfl (by decide) _ _ _ rfl (hrow.alloc _) ⟨W.heap.size, 0, none⟩ 1 1 [.int .i64 x] rfl rfl (cell_one_new _ _ _) (by simp [Value.oneCell']) (by unfold maxLen; omega) (by omega) (by have := hB.size; simp; omega) ?_; intro v' w1 hown' hgrow _; obtain ⟨g', cap', rfl⟩ := ownsRow_succ hown'; obtain ⟨hv1, hv2, hr2, hk2, hb2⟩ := appended hv hrow hB.size hown' hgrow; have hc1 := hv1.cell; have hf1 := hv1.frozen)
        exact ⟨hk2.from _, hb2, ⟨_, hv2, by rw [List.length_append, cellsOf_append]; exact hr2, by simp; omega⟩, hB.trans hb2⟩
    case done =>
      rintro D ys W hD hys ⟨⟨v, hv, hrow, hle⟩, hB⟩ hK
      refine tail D W v ys hD hK hv ⟨hrow, ?_⟩ hB ?_ ?_
      · intro x hx
        rw [hys] at hx
        exact h.ok x (DV_mem hx)
      · rw [hys]
        exact DV_len _ _ _
      · show ys = _
        rw [← hys, List.take_of_length_le (by omega)]
    case stop =>
      rintro D c' pre W hD hpre ⟨⟨v, hv, hrow, ⟨rfl, hle⟩⟩, hB⟩ hK
      have HH : pre.dropLast = (DV L e E).take r.toNat := by
        obtain ⟨t, ht⟩ := hpre
        have hpl : pre.length = r.toNat + 1 := by omega
        rw [← ht, List.take_append_of_le_length (by omega), List.dropLast_eq_take, hpl]
        rfl
      gi_wp2
      refine tail D W v pre.dropLast hD hK hv ⟨by rw [List.length_dropLast]; exact hrow, ?_⟩ hB ?_ HH
      · intro x hx
        rw [HH] at hx
        exact h.ok x (DV_mem (List.mem_of_mem_take hx))
      · rw [HH]
        exact Nat.le_trans (by rw [List.length_take]; exact Nat.min_le_right _ _) (DV_len L e E)

end Go.Proofs.Ytehbdgbolbbgkaa
