/-
  slices.Clone at versions.
-/
import Derived.Test.YtpfcddgknahgfaaOwn
namespace Go.Proofs.Ytpfcddgknahgfaa
open Go.RowKit

def RetSl (w : World) (L : List Ver) (e : Ending) : Prop := ∃ A n c, e = .returned (.slice A n c) ∧ Sl w A n c L

theorem Own.made (w : World) (base : Nat) (hb : base ≤ w.heap.size) : Own (w.alloc (.cells #[] 34)) base (.slice (some ⟨w.heap.size, 0, none⟩) 0 0) 0 [] :=
  ⟨World.ownsRow_made w #[] 0 hb (by unfold maxLen; omega) rfl, by simp⟩

theorem Sl.none_ (w : World) : Sl w none 0 0 [] := ⟨rfl, by omega, by omega, by unfold maxLen; omega, fun _ => ⟨rfl, rfl⟩, by simp, fun h => absurd h (by omega)⟩

theorem clone_any {A : Option Addr} {n c : Nat} {L : List Ver} {w : World} (h : Sl w A n c L) :
    Calls Try.prog 27 #[.slice A n c] w fun e w' => RetSl w' L e ∧ Ext w w' := by
  have hb := h.big
  have hn := h.cap
  have heq := fun (W : World) (a : Option Addr) => Lib.run_eql_slice_nil (P := Try.prog) W 22 34 a n c 0 0 Try.underlying22
  rcases A with _ | a
  · have hL : L = [] := List.eq_nil_of_length_eq_zero (by have := h.nil rfl; rw [h.len]; exact this.1)
    have HL := Lib.hid hL
    clear hL
    go_enter Try.func27, Try.ntmps27
    go_wp2
    go_ret
    exact ⟨⟨none, 0, 0, rfl, by rw [HL.out]; exact Sl.none_ w⟩, Below.refl _ _⟩
  · have hx := Ext.alloc w (.cells #[] 34)
    have ho := Own.made w w.heap.size (Nat.le_refl _)
    have hs := h.ext hx
    have hsz : w.heap.size ≤ (w.alloc (.cells #[] 34)).heap.size := by simp
    have HZ := Lib.hid hsz
    clear hsz
    go_enter Try.func27, Try.ntmps27
    go_wp2_with (at_builtin; refine wpList_append_ver rfl _ _ rfl rfl ho rfl hs (by omega) HZ.out ?_; intro v1 w1 hown hg)
    obtain ⟨A', c', rfl, hsl⟩ := hown.slice (by omega)
    go_ret
    exact ⟨⟨_, _, _, rfl, by simpa using hsl⟩, hown.keep ho hg hx HZ.out⟩

end Go.Proofs.Ytpfcddgknahgfaa
