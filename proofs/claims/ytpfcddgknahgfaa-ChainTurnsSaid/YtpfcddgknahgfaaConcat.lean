/-
  slices.Grow and slices.Concat, as chain.Add calls them.
-/
import Derived.Test.YtpfcddgknahgfaaRefVac
namespace Go.Proofs.Ytpfcddgknahgfaa
open Go.RowKit

theorem run_grow_ver (w : World) (ty : TypeId) {n : Nat} (h0 : 0 < n) (hn : n ≤ 4398046511104) :
    ∃ cap w', (Builtin.append_ #[22, 3] ty #[.slice none 0 0, .int .i64 n]).run Try.prog w = .ok (.slice (some ⟨w.heap.size, 0, none⟩) n cap) w' ∧ n ≤ cap ∧ Own w' w.heap.size (.slice (some ⟨w.heap.size, 0, none⟩) 0 cap) 0 [] ∧ Ext w w' := by
  obtain ⟨i, hi, hz, hsz, hby⟩ := info_parts info_ver
  have hr := Lib.run_append_nil_zeros (P := Try.prog) w 22 3 ty 34 i _ .i64 .i64 Try.underlying22 Try.underlying3 hi hz n h0 (by omega) (by omega) (by rw [hby]; omega)
  refine ⟨_, _, hr, grownCap_ge _ _ _ _, ⟨⟨by simp [cellsOf], .inr ⟨w.heap.size, grownCap w n 0 34, _, rfl, Nat.le_refl _, heap_alloc_new w.drew _, Nat.zero_le _, grownCap_le_maxLen _ _ _ _ (by unfold maxLen; omega), ?_, by simp [cellsOf]⟩⟩, by simp⟩, (Below.refl _ _).drew.alloc (Nat.le_refl _) _⟩
  have := grownCap_ge w n 0 34
  simp only [Array.size_append, size_zeroCells]
  show n * 3 + (grownCap w n 0 34 - n) * 3 = grownCap w n 0 34 * 3
  omega

theorem grow_any {n : Nat} (h0 : 0 < n) (hn : n ≤ 4398046511104) (w : World) : Calls Try.prog 32 #[.slice none 0 0, .int .i64 n] w fun e w' => ∃ cap, e = .returned (.slice (some ⟨w.heap.size, 0, none⟩) 0 cap) ∧ Own w' w.heap.size (.slice (some ⟨w.heap.size, 0, none⟩) 0 cap) 0 [] ∧ Ext w w' := by
  obtain ⟨cap, w1, hr, hc, ho, hx⟩ := run_grow_ver w 22 h0 hn
  have HR := Lib.hid hr
  clear hr
  go_enter Try.func32, Try.ntmps32
  go_wp2_with (at_builtin; refine Lib.wpList_append_run _ rfl _ _ 22 3 rfl _ _ rfl rfl _ _ HR.out ?_)
  go_ret
  exact ⟨cap, rfl, ho, hx⟩

theorem RetSl.mk {w : World} {base : Nat} {v : Value} {n : Nat} {K : List Ver} (h : Own w base v n K) (hn : n ≤ 1099511627776) : RetSl w K (.returned v) := RetSl.of_own h hn rfl

set_option maxHeartbeats 400000 in
theorem concat_any {b : Nat} {A A' : Option Addr} {n n' c c' : Nat} {L L' : List Ver} {w : World} (h0 : w.cell? ⟨b, 0, none⟩ = some (.slice A n c)) (h1 : w.cell? ⟨b, 1, none⟩ = some (.slice A' n' c'))
    (hs : Sl w A n c L) (hs' : Sl w A' n' c' L') (hp : 0 < n + n') (hm : n + n' ≤ 1099511627776) :
    Calls Try.prog 28 #[.slice (some ⟨b, 0, none⟩) 2 2] w fun e w' => RetSl w' (L ++ L') e ∧ Ext w w' := by
  have hb := hs.big
  have hb' := hs'.big
  go_enter Try.func28, Try.ntmps28
  go_wp2
  refine wp_loop_rounds 3 ?_
  rw [rounds_succ]
  go_wp2_with fail
  rw [rounds_succ]
  go_wp2_with fail
  rw [rounds_succ]
  go_wp2_with fail
  rw [show (n : Int) + (n' : Int) = ((n + n' : Nat) : Int) from by omega]
  refine (grow_any hp (by omega) _).mono ?_
  rintro e w1 ⟨cap, rfl, ho, hx⟩
  have hz1 := hx.size
  have g0 := hx.cell h0
  have g1 := hx.cell h1
  have hs1 := hs.ext hx
  have hz := Lib.hid hz1
  clear hz1
  go_wp2_with fail
  refine wp_loop_rounds 3 ?_
  rw [rounds_succ]
  go_wp2_with (at_builtin; refine wpList_append_ver rfl _ _ rfl rfl ho rfl hs1 (by omega) hz.out ?_; intro v2 w2 ho2 hg2; have hx2 := Lib.hid (ho2.keep ho hg2 hx hz.out); have g2 := Ext.cell hx2.out h1)
  have hs2 := hs'.ext hx2.out
  have hz2 := Lib.hid hx2.out.size
  simp only [Nat.zero_add, List.nil_append] at ho2
  rw [rounds_succ]
  go_wp2_with (at_builtin; refine wpList_append_ver rfl _ _ rfl rfl ho2 rfl hs2 (by omega) hz2.out ?_; intro v3 w3 ho3 hg3; have hx3 := Lib.hid (ho3.keep ho2 hg3 hx2.out hz2.out))
  rw [rounds_succ]
  go_wp2
  go_ret
  exact ⟨RetSl.mk ho3 hm, hx3.out⟩

end Go.Proofs.Ytpfcddgknahgfaa
