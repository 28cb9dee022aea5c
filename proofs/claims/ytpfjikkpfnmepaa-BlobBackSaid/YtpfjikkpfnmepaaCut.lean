/-
  Cut.
-/
import Derived.Test.YtpfjikkpfnmepaaSmall
namespace Go.Proofs.Ytpfjikkpfnmepaa
open Go.RowKit

/-- How many chunks a body has; the chunk at place i; what is left behind i chunks. -/
def cn (S : ByteArray) : Nat := (S.size + 159) / 160
def chunk (S : ByteArray) (i : Nat) : ByteArray := S.extract (160 * i) (min S.size (160 * i + 160))
def chunks (S : ByteArray) (k : Nat) : List ByteArray := (List.range k).map (chunk S)
def rest (S : ByteArray) (i : Nat) : ByteArray := S.extract (160 * i) S.size

theorem extract_size (S : ByteArray) (a b : Nat) : (S.extract a b).size = min b S.size - a := by simp [ByteArray.size_extract]
theorem extract_extract (S : ByteArray) (a b c d : Nat) : (S.extract a b).extract c d = S.extract (a + c) (min b (a + d)) := by
  apply ByteArray.ext
  simp only [ByteArray.data_extract]
  rw [Array.extract_extract]
  simp [Nat.min_comm]
theorem rest_size (S : ByteArray) (i : Nat) : (rest S i).size = S.size - 160 * i := by simp [rest]
theorem rest_zero (S : ByteArray) : rest S 0 = S := by
  unfold rest
  simp
theorem rest_chunk {S : ByteArray} {i m : Nat} (hm : m = min 160 (S.size - 160 * i)) (hi : 160 * i ≤ S.size) : (rest S i).extract 0 m = chunk S i := by
  unfold rest chunk
  rw [extract_extract]
  congr 1
  omega
theorem rest_rest {S : ByteArray} {i m : Nat} (hm : m = min 160 (S.size - 160 * i)) (hi : 160 * i ≤ S.size) : (rest S i).extract m (rest S i).size = rest S (i + 1) := by
  rw [rest_size]
  unfold rest
  rw [extract_extract]
  rcases Nat.lt_or_ge S.size (160 * i + 160) with h | h
  · have h1 : m = S.size - 160 * i := by omega
    apply ByteArray.ext
    simp only [ByteArray.data_extract]
    have e1 : S.data.size = S.size := rfl
    rw [Array.extract_empty_of_size_le_start (by omega), Array.extract_empty_of_size_le_start (by omega)]
  · have h1 : m = 160 := by omega
    subst h1
    rw [show 160 * (i + 1) = 160 * i + 160 by omega]
    congr 1
    omega
theorem chunks_snoc (S : ByteArray) (i : Nat) : chunks S i ++ [chunk S i] = chunks S (i + 1) := by simp [chunks, List.range_succ]
theorem chunks_len (S : ByteArray) (k : Nat) : (chunks S k).length = k := by simp [chunks]
theorem chunks_get {S : ByteArray} {k i : Nat} (h : i < k) : (chunks S k)[i]? = some (chunk S i) := by simp [chunks, h]
theorem chunk_size (S : ByteArray) (i : Nat) : (chunk S i).size = min S.size (160 * i + 160) - 160 * i := by
  unfold chunk
  rw [extract_size]
  omega
theorem rest_last {S : ByteArray} {i : Nat} (h : S.size - 160 * i ≤ 160) (_hi : 160 * i ≤ S.size) : rest S i = chunk S i := by
  unfold rest chunk
  congr 1
  omega
theorem rest_none {S : ByteArray} {i : Nat} (h : S.size - 160 * i < 160) : ByteArray.empty = rest S (i + 1) := by
  unfold rest
  apply ByteArray.ext
  simp only [ByteArray.data_extract]
  have e1 : S.data.size = S.size := rfl
  rw [Array.extract_empty_of_size_le_start (by omega)]
  rfl
theorem num_small {X : ByteArray} (h : X.size ≤ 2560) : Num X := by
  unfold Num
  omega
theorem num_extract {X : ByteArray} (h : X.size ≤ 2560) (a b : Nat) : Num (X.extract a b) := by
  unfold Num
  rw [extract_size]
  omega
def cutL (S : ByteArray) : List ByteArray := if S.size ≤ 2560 then chunks S (cn S) else []
def cutE (S : ByteArray) : Int := if S.size ≤ 2560 then 0 else 5
def RetCut (w' : World) (base : Nat) (S : ByteArray) (e : Ending) : Prop := ∃ v k, e = .returned (.tuple #[v, .int .i64 (cutE S)]) ∧ Own w' base v k (cutL S) ∧ k ≤ 16

theorem RetCut.big {w : World} {base : Nat} {S : ByteArray} (h : ¬ S.size ≤ 2560) : RetCut w base S (.returned (.tuple #[.slice none 0 0, .int .i64 5])) :=
  ⟨.slice none 0 0, 0, by simp [cutE, h], by unfold cutL; rw [if_neg h]; exact Own.nil_ _ _, by omega⟩
theorem RetCut.ok {w : World} {base k : Nat} {S : ByteArray} {v : Value} (h : S.size ≤ 2560) (hk : k = cn S) (ho : Own w base v k (chunks S k)) : RetCut w base S (.returned (.tuple #[v, .int .i64 0])) := by
  subst hk
  exact ⟨v, _, by simp [cutE, h], by unfold cutL; rw [if_pos h]; exact ho, by unfold cn; omega⟩

set_option maxRecDepth 100000 in
set_option maxHeartbeats 1000000 in
theorem cut_any (S : ByteArray) (w : World) (hS : S.size ≤ 9223372036854775807) : Calls Try.prog 9 #[.string S] w fun e w' => RetCut w' w.heap.size S e ∧ Ext w w' := by
  by_cases hb : S.size ≤ 2560
  · have HB := Lib.hid hb
    obtain ⟨K, hK⟩ : ∃ K, cn S = K := ⟨_, rfl⟩
    have hK' : ((S.size : Int) + 160 - 1) / 160 = (K : Int) := by unfold cn at hK; omega
    have hK1 : 160 * K ≤ S.size + 159 := by unfold cn at hK; omega
    have hK2 : S.size ≤ 160 * K := by unfold cn at hK; omega
    have HK := Lib.hid hK
    have HK' := Lib.hid hK'
    clear hK hK'
    go_enter Try.func9, Try.ntmps9
    go_wp2
    go_loopw [0, 4, 14] (fun r v i wr => ∃ k : Nat, k ≤ K ∧ i = .int .i64 k ∧ Hid (r = .string (rest S k)) ∧ Own wr w.heap.size v k (chunks S k) ∧ Ext w wr) (fun _ _ i _ => K - (intOf i).toNat)
    case atStart => exact ⟨0, Nat.zero_le _, rfl, by show _ = _; rw [rest_zero], Own.nil_ _ _, Below.refl _ _⟩
    case round =>
      obtain ⟨k, hk, rfl, hr, hv, hx⟩ := hrel
      rw [hr.out]
      by_cases hlt : k < K
      · have hg : decide ((k : Int) < ((S.size : Int) + 160 - 1) / 160) = true := decide_eq_true (by have := HK'.out; omega)
        have hsz := rest_size S k
        have hsz0 : (rest S k).size ≤ 2560 := by omega
        have HZ := Lib.hid hsz0
        by_cases hm : 160 ≤ (rest S k).size
        · have H1 := Lib.hid (rest_chunk (S := S) (i := k) (m := 160) (by omega) (by omega))
          have H2 := Lib.hid (rest_rest (S := S) (i := k) (m := 160) (by omega) (by omega))
          clear hsz
          go_wp2_with (at_builtin; refine wpList_append_int rfl _ _ rfl rfl (hv.alloc _) rfl (Sl.one _ ?_) ?_ ?_ ?_; (exact num_extract HZ.out _ _); omega; (exact Nat.le_trans hx.size (by simp)); intro v1 w1 ho1 hg1)
          obtain ⟨a1, a2⟩ := hv.step2 hx hx.size (show chunks S k ++ [(rest S k).extract 0 160] = chunks S (k + 1) by rw [H1.out]; exact chunks_snoc S k) ho1 hg1
          go_roundw
          case rel => exact ⟨k + 1, by omega, by go_num, congrArg Value.string H2.out, a1, a2⟩
          case measure => simp [intOf]; omega
        · have H1 := Lib.hid (rest_last (S := S) (i := k) (by omega) (by omega))
          have H2 := Lib.hid (rest_none (S := S) (i := k) (by omega))
          clear hsz
          go_wp2_with (at_builtin; refine wpList_append_int rfl _ _ rfl rfl (hv.alloc _) rfl (Sl.one _ ?_) ?_ ?_ ?_; (first | exact num_small HZ.out | exact num_extract HZ.out _ _); omega; (exact Nat.le_trans hx.size (by simp)); intro v1 w1 ho1 hg1)
          obtain ⟨a1, a2⟩ := hv.step2 hx hx.size (show chunks S k ++ [rest S k] = chunks S (k + 1) by rw [H1.out]; exact chunks_snoc S k) ho1 hg1
          go_roundw
          case rel => exact ⟨k + 1, by omega, by go_num, congrArg Value.string H2.out, a1, a2⟩
          case measure => simp [intOf]; omega
      · obtain rfl : k = K := by omega
        have hg : decide ((k : Int) < ((S.size : Int) + 160 - 1) / 160) = false := decide_eq_false (by have := HK'.out; omega)
        go_wp2
        go_ret2
        exact ⟨RetCut.ok HB.out HK.out.symm hv, hx⟩
  · have HB := Lib.hid hb
    go_enter Try.func9, Try.ntmps9
    go_wp2
    go_ret2
    exact ⟨RetCut.big HB.out, Below.refl _ _⟩

end Go.Proofs.Ytpfjikkpfnmepaa
