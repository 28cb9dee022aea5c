/-
  Bytes among the arguments, opened; bytes as a text.
-/
import Derived.Test.YtmajagdgpmbnhaaOpt
import Derived.Test.YtmajagdgpmbnhaaLi
namespace Go.Proofs.Ytmajagdgpmbnhaa
open Go.RowKit Go.ChangeShapes Go.WideShapes Go.ChangeAt

theorem ownK : ownKnob Try.prog.godebug = none := by kernel_rfl
theorem laidOut : laidOutB Try.prog = true := by kernel_rfl
theorem cells5 : Try.prog.cellsOf 5 = 1 := by kernel_rfl

theorem empty_of {S : ByteArray} (h : S.size = 0) : S = ⟨#[]⟩ := by
  apply ByteArray.ext
  exact Array.eq_empty_of_size_eq_zero h
theorem By.conv {w : World} {A : Option Addr} {n : Nat} {S : ByteArray} (h : By w A n S) (c : Nat) : (convert 22 9 (.slice A n c)).run Try.prog w = .ok (.string S) w := by
  rcases Nat.eq_zero_or_pos n with h0 | h0
  · subst h0
    rw [empty_of h.len]
    cases A with
    | none => exact run_convert_bytes_nil (P := Try.prog) w 22 5 Try.underlying22 Try.underlying5 0 c 9 Try.underlying9
    | some a =>
      rw [run_convert_bytes_string (P := Try.prog) w 22 9 5 (some a) 0 c Try.underlying22 Try.underlying5 Try.underlying9]
      exact run_bytesToString w a 0 c [] (by simp [loadCells, loadCellsFrom])
  · obtain ⟨b, off, rfl, hB⟩ := h.at_ h0
    have hl := h.len
    subst hl
    exact Lib.run_convert_whole (P := Try.prog) w 22 5 9 Try.underlying22 Try.underlying5 Try.underlying9 b off S hB c
theorem By.later {w : World} {A : Option Addr} {n : Nat} {S : ByteArray} (h : By w A n S) (c : Nat) (x : Later w) : (convert 22 9 (.slice A n c)).run Try.prog x.world = .ok (.string S) x.world := (h.ext x.is).conv c

def bytesOf (zs : List Int) : ByteArray := ⟨(zs.map fun z => UInt8.ofNat z.toNat).toArray⟩
theorem bytesOf_size (zs : List Int) : (bytesOf zs).size = zs.length := by simp [bytesOf, ByteArray.size]

section
variable {H : Type} {enc : TypeId × Value → H} {W : World}
theorem open_bytes {base : Nat} {v : Value} {d : DataW H} {p : List MemPlace} (hv : Value.okWide Try.prog W .any base 22 v) (h : DataW.Trod enc Try.prog W 0 (fun _ => true) true 22 v d p) :
    ∃ A n c S, v = .slice A n c ∧ n ≤ c ∧ By W A n S := by
  obtain ⟨A, n, c, rfl⟩ := okWide_slice Try.underlying22 hv
  obtain ⟨fuel, hf⟩ := h
  rcases open_ints Try.underlying22 Try.underlying5 cells5 hf with ⟨hcs, hx⟩ | ⟨a, len, cap, zs, hcs, _, hl, hm, hz, hx, hcell, hwz⟩
  · simp [Value.cells] at hcs
    obtain ⟨rfl, rfl, rfl⟩ := hcs
    exact ⟨none, 0, 0, ⟨#[]⟩, rfl, Nat.le_refl _, by_none W⟩
  · simp [Value.cells] at hcs
    obtain ⟨rfl, rfl, rfl⟩ := hcs
    have hzl : zs.length = c := by simpa using hz
    refine ⟨some a, n, c, bytesOf (zs.take n), rfl, hl, ⟨by rw [bytesOf_size, List.length_take]; omega, by unfold maxLen at hm; omega, fun h0 => ?_⟩⟩
    have hc0 := hcell 0 (by omega)
    obtain ⟨b, off, spot⟩ := a
    have hspot : spot = none := by simpa [Addr.add] using World.cell?_spot hc0
    subst hspot
    refine ⟨b, off, rfl, fun i hi => ?_⟩
    rw [bytesOf_size, List.length_take] at hi
    have h1 := hcell i (by omega)
    have e : (⟨b, off, none⟩ : Addr).add i = ⟨b, off + i, none⟩ := by
      unfold Addr.add
      split
      · subst_vars; rfl
      · rfl
    rw [e] at h1
    rw [h1]
    have hi2 : i < zs.length := by omega
    have hg : zs.getD i 0 = zs[i] := by simp [List.getD, hi2]
    have hw := hwz zs[i] (List.getElem_mem hi2)
    have hb : 0 ≤ zs[i] ∧ zs[i] < 256 := by
      simp [Lit.wf, IntKind.min, IntKind.max, IntKind.signed, IntKind.bits] at hw
      omega
    have hq : ((bytesOf (zs.take n))[i]'(by rw [bytesOf_size, List.length_take]; omega)) = UInt8.ofNat (zs[i]).toNat := by
      show ((zs.take n).map fun z => UInt8.ofNat z.toNat).toArray[i]'_ = _
      simp
    rw [hg, hq]
    congr 2
    rw [UInt8.toNat_ofNat']
    omega
end

end Go.Proofs.Ytmajagdgpmbnhaa
