/-
  The arguments of the statements, opened: a slice of texts, a text.
-/
import Derived.Test.YtpfjikkpfnmepaaMem
import Derived.ProofKit
import Derived.OpenShut
import Derived.ShutString
import Derived.ChangeOld
import Derived.Deep.Slices
import Derived.Deep.Fields
import Derived.Lib.SmallJoins
namespace Go.Proofs.Ytpfjikkpfnmepaa
open Go.RowKit Go.ChangeShapes Go.WideShapes Go.ChangeAt Go.Deep

theorem ownK : ownKnob Try.prog.godebug = none := by kernel_rfl
theorem laidOut : laidOutB Try.prog = true := by kernel_rfl
theorem cells9 : Try.prog.cellsOf 9 = 1 := by kernel_rfl

section
variable {H : Type} {enc : TypeId × Value → H} {W : World}

theorem open_texts {base : Nat} {v : Value} {d : DataW H} {p : List MemPlace} (hv : Value.okWide Try.prog W .any base 22 v) (h : DataW.Trod enc Try.prog W 0 (fun _ => true) true 22 v d p) :
    ∃ A n c L, v = .slice A n c ∧ n ≤ 9223372036854775807 ∧ (n ≤ 1000 → Sl W A n c L) := by
  obtain ⟨A, n, c, rfl⟩ := okWide_slice Try.underlying22 hv
  obtain ⟨fuel, hf⟩ := h
  rcases open_slice Try.underlying22 hf with ⟨hcs, _⟩ | ⟨a, len, cap, m, k, D, Pl, hcs, _, hl, hm, hmm, _, hi⟩
  · simp [Value.cells] at hcs
    obtain ⟨rfl, rfl, rfl⟩ := hcs
    exact ⟨none, 0, 0, [], rfl, by omega, fun _ => ⟨rfl, by omega, by omega, by unfold maxLen; omega, fun _ => ⟨rfl, rfl⟩, by simp, fun h => absurd h (by omega)⟩⟩
  · simp [Value.cells] at hcs
    obtain ⟨rfl, rfl, rfl⟩ := hcs
    have hmn : m = c := by simpa using hmm
    subst hmn
    have key : ∀ k, k ≤ n → ∃ L : List ByteArray, L.length = k ∧ (∀ x ∈ L, Num x) ∧ ∀ i x, L[i]? = some x → W.cell? (a.add (i * 1)) = some (.string x) := by
      intro k
      induction k with
      | zero => intro _; exact ⟨[], rfl, by simp, by simp⟩
      | succ k ih =>
        intro hk
        obtain ⟨L, hL, hok, hc⟩ := ih (by omega)
        obtain ⟨cs', hcs', ht'⟩ := hi k (by omega)
        obtain ⟨x, hx, _, wx⟩ := DataW.trod_string Try.underlying9 ht'
        subst hx
        have bx : x.size ≤ 9223372036854775807 := by unfold maxLen at wx; omega
        rw [cells9] at hcs'
        obtain ⟨_, _, hat⟩ := World.cells?_some hcs'
        refine ⟨L ++ [x], by simp [hL], ?_, ?_⟩
        · intro y hy
          rcases List.mem_append.1 hy with h | h
          · exact hok y h
          · simp at h; subst h; exact bx
        · intro i y hy
          rcases Nat.lt_or_ge i L.length with h | h
          · rw [List.getElem?_append_left h] at hy
            exact hc i y hy
          · rw [List.getElem?_append_right h] at hy
            have : i - L.length = 0 := by
              rcases Nat.eq_zero_or_pos (i - L.length) with h0 | h0
              · exact h0
              · rw [List.getElem?_eq_none (by simp; omega)] at hy; cases hy
            rw [this] at hy
            simp at hy
            subst hy
            obtain rfl : i = k := by omega
            have := hat 0 (by omega)
            simpa [Addr.add] using this
    obtain ⟨L, hL, hok, hc⟩ := key n (Nat.le_refl _)
    refine ⟨some a, n, m, L, rfl, by unfold maxLen at hm; omega, fun h1 => ⟨hL, hl, by omega, hm, fun e => (by cases e), hok, fun h0 => ?_⟩⟩
    obtain ⟨x, hx⟩ : ∃ x, L[0]? = some x := ⟨_, List.getElem?_eq_getElem (by omega)⟩
    have h2 := hc 0 x hx
    obtain ⟨b, off, spot⟩ := a
    have hspot : spot = none := by simpa [Addr.add] using World.cell?_spot h2
    subst hspot
    refine ⟨b, off, rfl, fun i y hy => ?_⟩
    have g0 := hc i y hy
    rw [add_lit, Nat.mul_one] at g0
    exact g0

theorem open_text {base : Nat} {v : Value} {d : DataW H} {p : List MemPlace} (hv : Value.okWide Try.prog W .any base 9 v) (h : DataW.Trod enc Try.prog W 0 (fun _ => true) true 9 v d p) :
    ∃ s, v = .string s ∧ s.size ≤ 9223372036854775807 := by
  obtain ⟨s, rfl⟩ := okWide_string Try.underlying9 hv
  obtain ⟨fuel, hf⟩ := h
  obtain ⟨s', h', _, ws⟩ := DataW.trod_string Try.underlying9 hf
  simp [Value.cells] at h'
  subst h'
  exact ⟨s, rfl, by unfold maxLen at ws; omega⟩
end

end Go.Proofs.Ytpfjikkpfnmepaa
