/-
  slices.Reverse over a row of the call's own.
-/
import Derived.Test.YtehbdgbolbbgkaaSmall
import Derived.BigRegion
namespace Go.Proofs.Ytehbdgbolbbgkaa
open Go.RowKit

def Mid (L K : List Int) (k : Nat) : Prop := K.length = L.length ∧ ∀ i, i < L.length → K[i]? = if i < k ∨ L.length - k ≤ i then L[L.length - 1 - i]? else L[i]?

theorem Mid.start (L : List Int) : Mid L L 0 := ⟨rfl, fun i hi => by rw [if_neg (by omega)]⟩
theorem Mid.step {L K : List Int} {k m : Nat} {x y : Int} (h : Mid L K k) (hkm : k < m) (hm : m + k + 1 = L.length) (hx : K[k]? = some x) (hy : K[m]? = some y) : Mid L ((K.set k y).set m x) (k + 1) := by
  obtain ⟨h1, h2⟩ := h
  refine ⟨by simp [h1], fun i hi => ?_⟩
  have hxL : L[k]? = some x := by have := h2 k (by omega); rw [if_neg (by omega)] at this; rw [← this]; exact hx
  have hyL : L[m]? = some y := by have := h2 m (by omega); rw [if_neg (by omega)] at this; rw [← this]; exact hy
  by_cases e1 : i = m
  · subst e1
    rw [List.getElem?_set_self (by simp [h1]; omega), if_pos (by omega), show L.length - 1 - i = k by omega, hxL]
  · rw [List.getElem?_set_ne (by omega)]
    by_cases e2 : i = k
    · subst e2
      rw [List.getElem?_set_self (by omega), if_pos (by omega), show L.length - 1 - i = m by omega, hyL]
    · rw [List.getElem?_set_ne (by omega), h2 i hi]
      by_cases e3 : i < k ∨ L.length - k ≤ i
      · rw [if_pos e3, if_pos (by omega)]
      · rw [if_neg e3, if_neg (by omega)]
theorem Mid.done {L K : List Int} {k : Nat} (h : Mid L K k) (hk : L.length ≤ 2 * k + 1) : K = L.reverse := by
  obtain ⟨h1, h2⟩ := h
  apply List.ext_getElem?
  intro i
  by_cases hi : i < L.length
  · rw [h2 i hi, List.getElem?_reverse hi]
    split
    · rfl
    · rw [show L.length - 1 - i = i by omega]
  · rw [List.getElem?_eq_none (by omega), List.getElem?_eq_none (by simp; omega)]

theorem cells_set (L : List Int) (k : Nat) (y : Int) : (cellsOf L).set k (.int .i64 y) = cellsOf (L.set k y) := by
  unfold cellsOf
  rw [List.map_set]

theorem Own.set {w : World} {base g n cap : Nat} {K : List Int} (h : Own w base (.slice (some ⟨g, 0, none⟩) n cap) n K) (k : Nat) {y : Int} (hy : Num y) :
    Own (w.setCell ⟨g, k, none⟩ (.int .i64 y)) base (.slice (some ⟨g, 0, none⟩) n cap) n (K.set k y) ∧ w.grownBy (w.setCell ⟨g, k, none⟩ (.int .i64 y)) (some g) := by
  obtain ⟨h1, h2⟩ := h.row.stored k (.int .i64 y)
  rw [cells_set] at h1
  refine ⟨⟨h1, fun x hx => ?_⟩, h2⟩
  rcases List.mem_or_eq_of_mem_set hx with h3 | h3
  · exact h.ok x h3
  · rw [h3]; exact hy
theorem grown_trans {a b c : World} {r : Option Nat} (h : a.grownBy b r) (k : b.grownBy c r) : a.grownBy c r :=
  ⟨k.os.trans h.os, k.tape.trans h.tape, k.output.trans h.output, Nat.le_trans h.size k.size, fun i hi hr => (k.block i (Nat.lt_of_lt_of_le hi h.size) hr).trans (h.block i hi hr)⟩
theorem swap_step {w wr : World} {base g n cap : Nat} {K : List Int} {k m : Nat} {x y : Int} (h : Own wr base (.slice (some ⟨g, 0, none⟩) n cap) n K) (hg : w.grownBy wr (some g)) (hx : K[k]? = some x) (hy : K[m]? = some y) :
    Own ((wr.setCell ⟨g, k, none⟩ (.int .i64 y)).setCell ⟨g, m, none⟩ (.int .i64 x)).drew base (.slice (some ⟨g, 0, none⟩) n cap) n ((K.set k y).set m x) ∧
      w.grownBy ((wr.setCell ⟨g, k, none⟩ (.int .i64 y)).setCell ⟨g, m, none⟩ (.int .i64 x)).drew (some g) := by
  obtain ⟨a1, a2⟩ := h.set k (h.ok y (List.mem_of_getElem? hy))
  obtain ⟨b1, b2⟩ := a1.set m (h.ok x (List.mem_of_getElem? hx))
  have hd := (grown_trans (grown_trans hg a2) b2)
  exact ⟨b1.later (Ext.drew _), ⟨hd.os, hd.tape, hd.output, hd.size, hd.block⟩⟩

set_option maxHeartbeats 800000 in
theorem reverse_own {w : World} {base g n cap : Nat} {L : List Int} (h : Own w base (.slice (some ⟨g, 0, none⟩) n cap) n L) (hn : n ≤ 1099511627776) :
    Calls Try.prog 20 #[.slice (some ⟨g, 0, none⟩) n cap] w fun e w' => e = .returned (.tuple #[]) ∧ Own w' base (.slice (some ⟨g, 0, none⟩) n cap) n L.reverse ∧ w.grownBy w' (some g) := by
  have HL := Lib.hid h.len
  have hcap : n ≤ cap := by
    rcases h.row.2 with ⟨e, _⟩ | ⟨g', cap', cur, e, _, _, hnc, _⟩
    · cases e
    · injection e with e1 e2 e3; omega
  go_enter Try.func20, Try.ntmps20
  go_wp2
  go_loopw [2, 3] (fun i j wr => ∃ (k : Nat) (m : Int) (K : List Int), i = .int .i64 k ∧ j = .int .i64 m ∧ m + k + 1 ≤ n ∧ n ≤ m + k + 1 ∧ (k : Int) ≤ m + 1 ∧ Hid (Mid L K k) ∧ Own wr base (.slice (some ⟨g, 0, none⟩) n cap) n K ∧ w.grownBy wr (some g)) (fun i j _ => (intOf j + 1 - intOf i).toNat)
  case atStart => exact ⟨0, (n : Int) - 1, L, rfl, rfl, by omega, by omega, by omega, Mid.start L, h, World.grownBy.refl w _⟩
  case round =>
    obtain ⟨k, m, K, rfl, rfl, hm1, hm2, hm3, hM, ho, hg⟩ := hrel
    by_cases hlt : (k : Int) < m
    · obtain ⟨m, rfl⟩ : ∃ q : Nat, m = q := ⟨m.toNat, by omega⟩
      have hkl : k < K.length := by have := ho.len; omega
      have hml : m < K.length := by have := ho.len; omega
      obtain ⟨x, hx⟩ : ∃ x, K[k]? = some x := ⟨_, List.getElem?_eq_getElem hkl⟩
      obtain ⟨y, hy⟩ : ∃ x, K[m]? = some x := ⟨_, List.getElem?_eq_getElem hml⟩
      have c1 : wr.cell? ⟨g, k, none⟩ = some (.int .i64 x) := (ho.row.cellAt k (by omega)).trans (cellsOf_at hx)
      have c2 : wr.cell? ⟨g, m, none⟩ = some (.int .i64 y) := (ho.row.cellAt m (by omega)).trans (cellsOf_at hy)
      have f1 := ho.row.frozenAt k
      have f2 := ho.row.frozenAt m
      have HX := Lib.hid hx
      have HY := Lib.hid hy
      have hkm : k < m := by omega
      clear hx hy
      go_wp2
      go_region
      obtain ⟨a1, a2⟩ := swap_step ho hg HX.out HY.out
      have hM2 : Hid (Mid L ((K.set k y).set m x) (k + 1)) := hM.out.step hkm (by rw [HL.out]; omega) HX.out HY.out
      clear ho hg c1 c2 f1 f2
      go_wp2
      go_roundw
      case rel => exact ⟨k + 1, (m : Int) - 1, _, by go_num, rfl, by omega, by omega, by omega, hM2, a1, a2⟩
      case measure => simp [intOf]; omega
    · have hd : Hid (K = L.reverse) := hM.out.done (by rw [HL.out]; omega)
      go_wp2
      go_end0
      exact ⟨rfl, by rw [← hd.out]; exact ho, hg⟩

theorem reverse_any {w : World} {base n : Nat} {v : Value} {L : List Int} (h : Own w base v n L) (hn : n ≤ 1099511627776) :
    Calls Try.prog 20 #[v] w fun e w' => e = .returned (.tuple #[]) ∧ Own w' base v n L.reverse ∧ w.grownBy w' v.ownBlock := by
  rcases h.row.2 with ⟨rfl, rfl⟩ | ⟨g, cap, cur, rfl, _⟩
  · have hL : L = [] := List.eq_nil_of_length_eq_zero h.len
    subst hL
    go_enter Try.func20, Try.ntmps20
    go_wp2
    refine wp_loop_rounds 1 ?_
    rw [rounds_succ]
    go_wp2
    go_end0
    exact ⟨rfl, h, World.grownBy.refl w _⟩
  · exact reverse_own h hn

end Go.Proofs.Ytehbdgbolbbgkaa
