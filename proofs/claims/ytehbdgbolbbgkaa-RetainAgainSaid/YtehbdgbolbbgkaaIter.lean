/-
  The iterator 'rows': the times that stand for rows, from the last one on, for every loop body that keeps what lies below n₀ but for one box.
-/
import Derived.Test.YtehbdgbolbbgkaaKept
import Derived.RangeFuncNested
import Derived.RangeFuncBound
import Derived.RangeFuncCalls
import Derived.RangeFuncLeaves
import Derived.Shelf.Abstract
import Derived.OwnWalkIn
import Derived.TacticsInMore
import Derived.LoopNIn
import Derived.LoopIn
import Derived.RangeFuncBox
namespace Go.Proofs.Ytehbdgbolbbgkaa
open Go.RowKit Go.Shelf

attribute [local go_sem] Oper.semAt_some

/-- Below n₀ nothing has turned but block B. -/
structure KpB (n₀ B : Nat) (W W' : World) : Prop where
  os : W'.os = W.os
  tape : W'.tape = W.tape
  output : W'.output = W.output
  size : W.heap.size ≤ W'.heap.size
  block : ∀ k, k < n₀ → k ≠ B → W'.heap[k]? = W.heap[k]?

theorem KpB.refl (n₀ B : Nat) (W : World) : KpB n₀ B W W := ⟨rfl, rfl, rfl, Nat.le_refl _, fun _ _ _ => rfl⟩
theorem KpB.trans {n₀ B : Nat} {X Y Z : World} (h : KpB n₀ B X Y) (k : KpB n₀ B Y Z) : KpB n₀ B X Z :=
  ⟨k.os.trans h.os, k.tape.trans h.tape, k.output.trans h.output, Nat.le_trans h.size k.size, fun i hi hb => (k.block i hi hb).trans (h.block i hi hb)⟩
theorem KpB.cell {n₀ B : Nat} {W W' : World} (h : KpB n₀ B W W') {p : Addr} (hp : p.block < n₀) (hb : p.block ≠ B) : W'.cell? p = W.cell? p := World.cell?_of_block (w := W) (h.block p.block hp hb)
theorem KpB.of_ext {n₀ B : Nat} {W W' : World} (h : Ext W W') (hn : n₀ ≤ W.heap.size) : KpB n₀ B W W' := ⟨h.os, h.tape, h.output, h.size, fun k hk _ => h.block k (by omega)⟩

/-- The times below j that stand for their rows, from the last one on. -/
def DV (L : List Int) (e : Int) : Nat → List Int
  | 0 => []
  | j + 1 => match L[j]? with | some v => if firstB L e j = true then v :: DV L e j else DV L e j | none => DV L e j
theorem DV_yes {L : List Int} {e : Int} {j : Nat} {v : Int} (h : L[j]? = some v) (hf : firstB L e j = true) : DV L e (j + 1) = v :: DV L e j := by simp [DV, h, hf]
theorem DV_no {L : List Int} {e : Int} {j : Nat} (hf : firstB L e j = false) : DV L e (j + 1) = DV L e j := by cases h : L[j]? <;> simp [DV, h, hf]
theorem DV_len (L : List Int) (e : Int) (j : Nat) : (DV L e j).length ≤ j := by
  induction j with
  | zero => simp [DV]
  | succ j ih =>
    cases h : L[j]? with
    | none => simp only [DV, h]; omega
    | some v =>
      simp only [DV, h]
      split
      · simp; omega
      · omega

set_option maxRecDepth 100000 in
set_option maxHeartbeats 2000000 in
theorem rows1_in (n : Nat) (hn : 1 ≤ n) (l Bs Be n₀ B : Nat) (A : Option Addr) (m c : Nat) (L : List Int) (e : Int) (J Jx : List Int → World → Prop) (hm : m ≤ 1099511627776) (he : 1 ≤ e) (hr : ∀ (i : Nat) (v : Int), L[i]? = some v → 1 ≤ v ∧ v ≤ 1152921504606846976)
    (hlen : m ≤ L.length) (hBs : Bs < n₀) (hBe : Be < n₀) (hBs' : Bs ≠ B) (hBe' : Be ≠ B)
    (hY : ∀ pre x W, J pre W → pre.length < m → YieldAt Fence.wide (n - 1) Try.prog l #[.int .i64 x] W fun e W' =>
      (e = .returned (.bool true) ∧ J (pre ++ [x]) W' ∧ KpB n₀ B W W') ∨ (e = .returned (.bool false) ∧ Jx (pre ++ [x]) W'))
    (W : World) (hJe : ∀ pre X Y, J pre X → Ext X Y → J pre Y) (hn₀ : n₀ ≤ W.heap.size)
    (c1 : W.cell? ⟨Bs, 0, none⟩ = some (.slice A m c)) (c2 : W.cell? ⟨Be, 0, none⟩ = some (.int .i64 e))
    (ha : 0 < m → ∃ b off, A = some ⟨b, off, none⟩ ∧ b < n₀ ∧ b ≠ B ∧ ∀ (i : Nat) (v : Int), L[i]? = some v → i < m → W.cell? ⟨b, off + i, none⟩ = some (.int .i64 v)) (h0 : J [] W) :
    CallsIn Fence.wide n Try.prog 28 #[.func (.yield l) #[] #[], .pointer (some ⟨Bs, 0, none⟩), .pointer (some ⟨Be, 0, none⟩)] W fun x W' => (∃ v, x = .returned v) ∧
      ((∃ ys, ys = DV L e m ∧ J ys W') ∨ (∃ pre, pre <+: DV L e m ∧ Jx pre W')) := by
  refine callsIn_of_wp Try.func28 rfl trivial ?_ rfl
  simp only [Try.ntmps28, List.size_toArray, List.length_cons, List.length_nil, Nat.reduceAdd, Nat.reduceSub, Array.replicate_succ, Array.replicate_zero, List.push_toArray, List.append_toArray, List.nil_append, List.cons_append]
  gi_wp2
  gi_loopw [4] (fun i wr => ∃ (k : Nat) (z : Int) (pre : List Int), i = .int .i64 z ∧ z + 1 ≤ k ∧ (k : Int) ≤ z + 1 ∧ k ≤ m ∧ Hid (pre ++ DV L e k = DV L e m) ∧ J pre wr ∧ KpB n₀ B W wr) (fun i _ => (intOf i + 1).toNat)
  case atStart => exact ⟨m, (m : Int) - 1, [], rfl, by omega, by omega, Nat.le_refl _, rfl, h0, KpB.refl _ _ _⟩
  case round =>
    obtain ⟨k, z, pre, rfl, hz1, hz2, hkm, hpre, hJ, hk⟩ := hrel
    have d1 := (hk.cell (p := ⟨Bs, 0, none⟩) hBs hBs').trans c1
    have d2 := (hk.cell (p := ⟨Be, 0, none⟩) hBe hBe').trans c2
    rcases k with _ | j
    · gi_wp2
      go_end0
      exact ⟨⟨_, rfl⟩, .inl ⟨pre, by have := hpre.out; simpa [DV] using this, hJ⟩⟩
    · obtain rfl : z = (j : Int) := by omega
      obtain ⟨b, off, rfl, hb1, hb2, hc⟩ := ha (by omega)
      obtain ⟨v, hv⟩ : ∃ v, L[j]? = some v := ⟨_, List.getElem?_eq_getElem (by omega)⟩
      have e0 := (hk.cell (p := ⟨b, off + j, none⟩) hb1 hb2).trans (hc j v hv (by omega))
      obtain ⟨hv1, hv2⟩ := hr j v hv
      have HV := Lib.hid hv
      clear hv
      gi_wp2
      have d1' := Later.cell d1
      have d2' := Later.cell d2
      rcases j with _ | i
      · have HD := Lib.hid (DV_yes (e := e) HV.out (firstB_zero L e))
        simp only [Nat.add_zero] at e0
        have e0' := Later.cell e0
        refine wpIn_wide.2 ?_
        refine wp_region_later (by kernel_rfl) (by kernel_rfl) ?_
        repeat (go_big_quiet_step (fail))
        refine wpQuiet_nil ?_
        intro w1 hx1
        have hk1 := hk.trans (KpB.of_ext hx1 (Nat.le_trans hn₀ hk.size))
        have hJ1 := hJe _ _ _ hJ hx1
        have g1 := Ext.cell hx1 d1
        have g2 := Ext.cell hx1 d2
        have g0 := Ext.cell hx1 e0
        have hlen1 : pre.length < m := by have := congrArg List.length hpre.out; rw [HD.out] at this; simp at this; have := DV_len L e m; omega
        obtain ⟨fn, tmps, assign, body, hy, hR⟩ := hY pre v w1 hJ1 hlen1
        clear hlen1
        gi_wp2
        refine hR.mono ?_
        rintro x W3 (⟨rfl, hJ3, hk3⟩ | ⟨rfl, hJx3⟩)
        · have hk13 := hk1.trans hk3
          clear hk1 hk3 hJ1 hk
          gi_wp2
          go_roundw
          case rel => exact ⟨0, -1, pre ++ [v], by go_num, by omega, by omega, by omega, by show _ = _; rw [List.append_assoc, List.singleton_append, ← HD.out]; exact hpre.out, hJ3, hk13⟩
          case measure => simp [intOf]; try omega
        · gi_wp2
          refine bodyPost_ret (results_none rfl _ _ _) rfl ?_
          exact ⟨⟨_, rfl⟩, .inr ⟨pre ++ [v], ⟨DV L e 0, by rw [List.append_assoc, List.singleton_append, ← HD.out]; exact hpre.out⟩, hJx3⟩⟩
      · obtain ⟨u, hu⟩ : ∃ u, L[i]? = some u := ⟨_, List.getElem?_eq_getElem (by omega)⟩
        have u0 := (hk.cell (p := ⟨b, off + i, none⟩) hb1 hb2).trans (hc i u hu (by omega))
        obtain ⟨hu1, hu2⟩ := hr i u hu
        have e0' := Later.cell e0
        have u0' := Later.cell u0
        have HF := Lib.hid (firstB_succ (e := e) HV.out hu)
        have hz : (((i : Int) + 1) == 0) = false := by simp; omega
        clear hu
        by_cases hq : v / e = u / e
        · have HD := Lib.hid (DV_no (L := L) (e := e) (j := i + 1) (by rw [HF.out, hq]; simp))
          have hq' : (v / e != u / e) = false := by rw [hq]; simp
          clear hq
          refine wpIn_wide.2 ?_
          refine wp_region_later (by kernel_rfl) (by kernel_rfl) ?_
          repeat (go_big_quiet_step (fail))
          refine wpQuiet_nil ?_
          intro w1 hx1
          have hk1 := hk.trans (KpB.of_ext hx1 (Nat.le_trans hn₀ hk.size))
          have hJ1 := hJe _ _ _ hJ hx1
          clear hk hJ
          gi_wp2
          refine ⟨fun _ h => (by cases h), ?_⟩
          gi_wp2
          go_roundw
          case rel => exact ⟨(i + 1), (i : Int), pre, by go_num, by omega, by omega, by omega, by show _ = _; rw [← HD.out]; exact hpre.out, hJ1, hk1⟩
          case measure => simp [intOf]; try omega
        · have HD := Lib.hid (DV_yes (e := e) HV.out (show firstB L e (i + 1) = true by rw [HF.out]; simpa using hq))
          have hq' : (v / e != u / e) = true := by simpa using hq
          clear hq
          refine wpIn_wide.2 ?_
          refine wp_region_later (by kernel_rfl) (by kernel_rfl) ?_
          repeat (go_big_quiet_step (fail))
          refine wpQuiet_nil ?_
          intro w1 hx1
          have hk1 := hk.trans (KpB.of_ext hx1 (Nat.le_trans hn₀ hk.size))
          have hJ1 := hJe _ _ _ hJ hx1
          have g1 := Ext.cell hx1 d1
          have g2 := Ext.cell hx1 d2
          have g0 := Ext.cell hx1 e0
          have hlen1 : pre.length < m := by have := congrArg List.length hpre.out; rw [HD.out] at this; simp at this; have := DV_len L e m; omega
          obtain ⟨fn, tmps, assign, body, hy, hR⟩ := hY pre v w1 hJ1 hlen1
          clear hlen1
          gi_wp2
          refine hR.mono ?_
          rintro x W3 (⟨rfl, hJ3, hk3⟩ | ⟨rfl, hJx3⟩)
          · have hk13 := hk1.trans hk3
            clear hk1 hk3 hJ1 hk
            gi_wp2
            go_roundw
            case rel => exact ⟨(i + 1), (i : Int), pre ++ [v], by go_num, by omega, by omega, by omega, by show _ = _; rw [List.append_assoc, List.singleton_append, ← HD.out]; exact hpre.out, hJ3, hk13⟩
            case measure => simp [intOf]; try omega
          · gi_wp2
            refine bodyPost_ret (results_none rfl _ _ _) rfl ?_
            exact ⟨⟨_, rfl⟩, .inr ⟨pre ++ [v], ⟨DV L e (i + 1), by rw [List.append_assoc, List.singleton_append, ← HD.out]; exact hpre.out⟩, hJx3⟩⟩

end Go.Proofs.Ytehbdgbolbbgkaa
