/-
  rows hands back its closure.
-/
import Derived.Test.YtehbdgbolbbgkaaIter
namespace Go.Proofs.Ytehbdgbolbbgkaa
open Go.RowKit

theorem rows_any (A : Option Addr) (n c : Nat) (e : Int) (w : World) :
    Calls Try.prog 19 #[.slice A n c, .int .i64 e] w fun x w' => x = .returned (.func (.func 28) #[] #[.pointer (some ⟨w.heap.size, 0, none⟩), .pointer (some ⟨w.heap.size + 1, 0, none⟩)]) ∧ Ext w w' ∧ w'.heap.size = w.heap.size + 2 ∧
      w'.cell? ⟨w.heap.size, 0, none⟩ = some (.slice A n c) ∧ w'.cell? ⟨w.heap.size + 1, 0, none⟩ = some (.int .i64 e) := by
  go_enter Try.func19, Try.ntmps19
  go_wp2
  go_ret
  refine ⟨rfl, Ext.of (Ext.alloc _ _) (Ext.alloc _ _), by simp, ?_, ?_⟩
  · simp
  · simp [World.cell?_alloc_at]

end Go.Proofs.Ytehbdgbolbbgkaa
