/-
  ambryref13.Same at equal lists; the document's example.
-/
import Derived.Test.YtpfcddgknahgfaaAdd
namespace Go.Proofs.Ytpfcddgknahgfaa
open Go.RowKit

theorem same_yes {A A' : Option Addr} {n n' c c' : Nat} {L L' : List Ver} {w : World} (h : Sl w A n c L) (h' : Sl w A' n' c' L') (hll : L = L') :
    Calls Try.prog 16 #[.slice A n c, .slice A' n' c'] w fun e w' => e = .returned (.bool true) ∧ Ext w w' := by
  subst hll
  obtain rfl : n = n' := h.len.symm.trans h'.len
  have hb := h.big
  have hnn : ((n : Int) != (n : Int)) = false := by simp
  go_enter Try.func16, Try.ntmps16
  go_wp2
  go_loopw [5] (fun i wr => ∃ k : Nat, k ≤ n ∧ i = .int .i64 k ∧ Ext w wr) (fun i _ => n - (intOf i).toNat)
  case atStart => exact ⟨0, Nat.zero_le _, rfl, Below.refl _ _⟩
  case round =>
    obtain ⟨k, hk, rfl, hx⟩ := hrel
    by_cases hlt : k < n
    · obtain ⟨b, off, rfl, ha⟩ := h.at_ (by omega)
      obtain ⟨b', off', rfl, ha'⟩ := h'.at_ (by omega)
      obtain ⟨t, s, d, hg, -, -, -⟩ := h.get hlt
      obtain ⟨c0, c1, c2⟩ := ((ha _ _ hg.out).ext hx).later
      obtain ⟨d0, d1, d2⟩ := ((ha' _ _ hg.out).ext hx).later
      go_wp2
      refine wp_region_later (by kernel_rfl) (by kernel_rfl) ?_
      repeat (go_big_quiet_step (fail))
      refine wpQuiet_nil ?_
      intro w3 hx3
      go_wp2
      go_roundw
      case rel => exact ⟨k + 1, by omega, by go_num, Ext.of hx hx3⟩
      case measure => simp [intOf]; omega
    · go_wp2
      go_ret
      exact ⟨rfl, hx⟩

def exL : List Ver := [⟨7, ⟨#[]⟩, true⟩, ⟨5, ⟨#[98]⟩, false⟩, ⟨2, ⟨#[97]⟩, false⟩]

theorem exL_ok : ∀ v ∈ exL, v.ok := by
  intro v hv
  simp only [exL, List.mem_cons, List.not_mem_nil, or_false] at hv
  rcases hv with rfl | rfl | rfl <;> exact ⟨by decide, by decide, by decide⟩

theorem example_any (w : World) : Calls Try.prog 23 #[] w fun e w' => (e = .returned (.slice (some ⟨w.heap.size, 0, none⟩) 3 3) ∧ Sl w' (some ⟨w.heap.size, 0, none⟩) 3 3 exL) ∧ Ext w w' := by
  have ho : Own (w.alloc (.cells #[.int .i64 7, .string ⟨#[]⟩, .bool true, .int .i64 5, .string ⟨#[98]⟩, .bool false, .int .i64 2, .string ⟨#[97]⟩, .bool false] 34)) w.heap.size (.slice (some ⟨w.heap.size, 0, none⟩) 3 3) 3 exL :=
    ⟨⟨rfl, .inr ⟨w.heap.size, 3, _, rfl, Nat.le_refl _, heap_alloc_new w _, by omega, by unfold maxLen; omega, rfl, rfl⟩⟩, exL_ok⟩
  obtain ⟨A, c, e, hs⟩ := ho.slice (by omega)
  injection e with e1 _ e2
  subst e1 e2
  go_enter Try.func23, Try.ntmps23
  go_wp2
  go_ret
  exact ⟨⟨rfl, hs⟩, Ext.alloc _ _⟩

theorem Sl.first {w : World} {A : Option Addr} {n c : Nat} {L : List Ver} (h : Sl w A n c L) {k : Nat} (hk : k ≤ n) : Sl w A k c (L.take k) :=
  ⟨by rw [List.length_take, h.len]; omega, by have := h.cap; omega, by have := h.big; omega, h.wide, fun e => by have := h.nil e; omega,
    fun v hv => h.ok v (List.mem_of_mem_take hv), (h.take hk).at_⟩

end Go.Proofs.Ytpfcddgknahgfaa
