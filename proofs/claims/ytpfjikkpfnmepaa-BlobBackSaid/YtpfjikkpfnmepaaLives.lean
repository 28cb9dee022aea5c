/-
  The document's examples, as the statements ask them.
-/
import Derived.Test.YtpfjikkpfnmepaaCut
import Derived.Lib.SlBytesRow
import Derived.Laws.MakeOwn
namespace Go.Proofs.Ytpfjikkpfnmepaa
open Go.RowKit

def zeros : ByteArray := ⟨Array.replicate 161 0⟩
theorem zeros_size : zeros.size = 161 := by simp [zeros, ByteArray.size]
theorem info_byte : (Try.prog.info? 5).map (fun i => (i.zero, i.size, i.bytes)) = some (some (.int .u8 0), 1, 1) := by kernel_rfl
def zeroW (w : World) : World := w.alloc (.cells (madeCells #[.int .u8 0] 161) 5)
theorem run_make161 (w : World) : (Instr.makeSlice 48 (.int .i64 161) (.int .i64 161)).run Try.prog w = .ok (.slice (some ⟨w.heap.size, 0, none⟩) 161 161) (zeroW w) := by
  obtain ⟨i, hi, hz, hsz, hby⟩ := info_parts info_byte
  have h := run_make (P := Try.prog) w 48 5 i _ Try.underlying48 hi hz .i64 .i64 161 161 (by omega) (by omega) (by rw [hby]; omega) (by omega)
  rw [hsz] at h
  exact h
theorem zeros_at (i : Nat) (hi : i < zeros.size) : zeros[i] = 0 := by
  show zeros.data[i] = 0
  simp [zeros]
theorem zero_bytes (w : World) : Lib.Bytes (zeroW w) w.heap.size 0 zeros := by
  intro i hi
  rw [zeros_at i hi]
  rw [zeros_size] at hi
  have h : (madeCells #[Value.int .u8 0] 161)[i]? = some (.int .u8 0) := by
    simp [madeCells, hi, Nat.mod_one]
  unfold zeroW
  simp [World.cell?_alloc_at, h]
theorem run_conv161 (w : World) : (convert 48 9 (.slice (some ⟨w.heap.size, 0, none⟩) 161 161)).run Try.prog (zeroW w) = .ok (.string zeros) (zeroW w) := by
  have h := Lib.run_convert_whole (P := Try.prog) (zeroW w) 48 5 9 Try.underlying48 Try.underlying5 Try.underlying9 w.heap.size 0 zeros (zero_bytes w) 161
  rw [zeros_size] at h
  exact h

theorem cutE_zeros : cutE zeros = 0 := by simp [cutE, zeros_size]
theorem cutL_zeros : cutL zeros = chunks zeros 2 := by
  have e : cn zeros = 2 := by unfold cn; rw [zeros_size]
  unfold cutL
  rw [if_pos (by rw [zeros_size]; omega), e]

theorem need_is (s f n a b c : Int) (h1 : need1 s f n = a) (h2 : need2 s f n = b) (h3 : need3 s f n = c) (w : World) :
    Calls Try.prog 16 #[.int .i64 s, .int .i64 f, .int .i64 n] w fun e w' => e = .returned (.tuple #[.int .i64 a, .int .i64 b, .int .i64 c]) ∧ Ext w w' := by
  subst h1 h2 h3
  exact need_any s f n w

set_option maxRecDepth 100000 in
set_option maxHeartbeats 2000000 in
theorem lives_any (w : World) : Calls Try.prog 8 #[] w fun e w' => e = .returned (.bool true) ∧ Ext w w' := by
  have hmk := run_make161 w
  have hcv := run_conv161 w
  have x0 : Ext w (zeroW w) := Ext.alloc w _
  go_enter Try.func8, Try.ntmps8
  go_wp2_with fail
  refine (cut_any zeros _ (by rw [zeros_size]; omega)).mono ?_
  rintro e w1 ⟨⟨v, k, rfl, ho, hk⟩, x1⟩
  rw [cutE_zeros]
  rw [cutL_zeros] at ho
  have hk2 := ho.len
  rw [chunks_len] at hk2
  subst hk2
  obtain ⟨A, c, rfl, hs⟩ := ho.slice (by omega)
  have X1 := Ext.of x0 x1
  clear hmk hcv x0 x1 ho hk
  go_wp2_with fail
  refine (need_is 161 159 2 0 2 0 (by decide) (by decide) (by decide) _).mono ?_
  rintro e w2 ⟨rfl, x2⟩
  have X2 := Ext.of X1 x2
  have hs2 := hs.ext x2
  clear X1 x2 hs
  go_wp2_with fail
  refine (need_is 161 160 9 1 1 0 (by decide) (by decide) (by decide) _).mono ?_
  rintro e w3 ⟨rfl, x3⟩
  have X3 := Ext.of X2 x3
  have hs3 := hs2.ext x3
  clear X2 x3 hs2
  go_wp2_with fail
  refine (need_is 161 161 5 0 0 0 (by decide) (by decide) (by decide) _).mono ?_
  rintro e w4 ⟨rfl, x4⟩
  have X4 := Ext.of X3 x4
  have hs4 := hs3.ext x4
  clear X3 x4 hs3
  obtain ⟨b, off, rfl, ha⟩ := hs4.at_ (by omega)
  have c0 := ha 0 _ (chunks_get (S := zeros) (k := 2) (i := 0) (by omega))
  have c1 := ha 1 _ (chunks_get (S := zeros) (k := 2) (i := 1) (by omega))
  simp only [Nat.add_zero] at c0
  have z0 : (chunk zeros 0).size = 160 := by rw [chunk_size, zeros_size]; rfl
  have z1 : (chunk zeros 1).size = 1 := by rw [chunk_size, zeros_size]; rfl
  go_wp2
  go_ret
  exact ⟨rfl, X4⟩

end Go.Proofs.Ytpfjikkpfnmepaa
