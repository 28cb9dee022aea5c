/-
  A text among the arguments, opened.
-/
import Derived.Test.YtmajagdgpmbnhaaOpb
namespace Go.Proofs.Ytmajagdgpmbnhaa
open Go.RowKit Go.ChangeShapes Go.WideShapes Go.ChangeAt
section
variable {H : Type} {enc : TypeId × Value → H} {W : World}
theorem open_text {base : Nat} {v : Value} {d : DataW H} {p : List MemPlace} (hv : Value.okWide Try.prog W .any base 9 v) (h : DataW.Trod enc Try.prog W 0 (fun _ => true) true 9 v d p) :
    ∃ s, v = .string s ∧ s.size ≤ 9223372036854775807 := by
  obtain ⟨s, rfl⟩ := okWide_string Try.underlying9 hv
  obtain ⟨fuel, hf⟩ := h
  obtain ⟨s', h', _, ws⟩ := DataW.trod_string Try.underlying9 hf
  simp [Value.cells] at h'
  subst h'
  exact ⟨s, rfl, by unfold maxLen at ws; omega⟩
end

end Go.Proofs.Ytmajagdgpmbnhaa
