/-
  Whole, Check and Join of both sides.
-/
import Derived.Test.YtpfjikkpfnmepaaCk
import Derived.Laws.StructEq
namespace Go.Proofs.Ytpfjikkpfnmepaa
open Go.RowKit

/-- The reference's Whole stops behind k texts. -/
def Stop (L : List ByteArray) (k : Nat) : Prop := k ≤ L.length ∧ (k = L.length ∨ 2560 < (whole (L.take k)).size)
def RetWhole (L : List ByteArray) (w : World) (e : Ending) (w' : World) : Prop := ∃ k, e = .returned (.string (whole (L.take k))) ∧ Stop L k ∧ w = w'

set_option maxRecDepth 100000 in
theorem rwhole_any {A : Option Addr} {n c : Nat} {L : List ByteArray} {w : World} (h : Sl w A n c L) (hf : fewB L = true) : Calls Try.prog 22 #[.slice A n c] w (RetWhole L w) := by
  have hb := h.big
  have HL := Lib.hid h.len
  have HF := Lib.hid hf
  clear hf
  go_enter Try.func22, Try.ntmps22
  go_wp2
  go_loop [3, 4] (fun t i => ∃ k : Nat, k ≤ n ∧ i = .int .i64 k ∧ t = .string (whole (L.take k))) (fun _ i => n - (intOf i).toNat)
  case atStart => exact ⟨0, Nat.zero_le _, rfl, rfl⟩
  case round =>
    obtain ⟨k, hk, rfl, rfl⟩ := hrel
    by_cases hlt : k < n
    · by_cases hz : (whole (L.take k)).size ≤ 2560
      · obtain ⟨b, off, rfl, ha⟩ := h.at_ (by omega)
        obtain ⟨x, hx, hx1⟩ := h.get hlt
        have c0 := ha k _ hx.out
        have HN := Lib.hid (whole_snoc hx.out)
        have hle : (whole (L.take k)).size + x.size ≤ 12560 := by
          have := (few_parts HF.out).2 x (List.mem_of_getElem? hx.out)
          omega
        have hlt' : decide ((k : Int) < (n : Int)) = true := decide_eq_true (by omega)
        go_wp2
        go_round
        case rel => exact ⟨k + 1, by omega, by go_num, by rw [← HN.out]⟩
        case measure => simp [intOf]; omega
      · have hs : Stop L k := ⟨by rw [HL.out]; exact hk, .inr (by omega)⟩
        have hlt' : decide ((k : Int) < (n : Int)) = true := decide_eq_true (by omega)
        go_wp2
        go_ret
        exact ⟨k, rfl, hs, rfl⟩
    · have hs : Stop L k := ⟨by rw [HL.out]; exact hk, .inl (by rw [HL.out]; omega)⟩
      have hlt' : decide ((k : Int) < (n : Int)) = false := decide_eq_false (by omega)
      go_wp2
      go_ret
      exact ⟨k, rfl, hs, rfl⟩

theorem whole_take_le (L : List ByteArray) (k : Nat) : (whole (L.take k)).size ≤ (whole L).size := by
  rw [whole_size, whole_size]
  exact bytes_take_le L k
theorem Stop.all {L : List ByteArray} {k : Nat} (h : Stop L k) (hz : (whole (L.take k)).size ≤ 2560) : whole (L.take k) = whole L := by
  obtain ⟨h1, h2 | h2⟩ := h
  · rw [h2, List.take_length]
  · omega

/-- Texts of the lengths of chunks, sixteen at the most, are the chunks of what they are together. -/
theorem form_size {L : List ByteArray} (h : formB L = true) : ∀ k, k ≤ L.length → (whole (L.take k)).size ≤ 160 * k ∧ (k < L.length → (whole (L.take k)).size = 160 * k) ∧ (0 < k → 160 * k ≤ (whole (L.take k)).size + 159) := by
  intro k
  induction k with
  | zero => intro _; simp [whole_size, bytes]
  | succ k ih =>
    intro hk
    obtain ⟨i1, i2, -⟩ := ih (by omega)
    have hx : L[k]? = some L[k] := List.getElem?_eq_getElem (by omega)
    have hs := congrArg ByteArray.size (whole_snoc hx)
    rw [ByteArray.size_append, i2 (by omega)] at hs
    have ho := form_at h (i := k) (by omega)
    rcases Nat.lt_or_ge (k + 1) L.length with hm | hm
    · rw [okAt_mid rfl hx hm] at ho
      have ho := of_decide_eq_true ho
      refine ⟨by omega, fun _ => by omega, fun _ => by omega⟩
    · rw [okAt_last rfl hx (by omega), Bool.and_eq_true] at ho
      have o1 := of_decide_eq_true ho.1
      have o2 := of_decide_eq_true ho.2
      refine ⟨by omega, fun hh => by omega, fun _ => by omega⟩
theorem whole_toList (L : List ByteArray) : (whole L).data.toList = bytes L := rfl
theorem bytes_at {L : List ByteArray} {i : Nat} (hi : i < L.length) : bytes L = bytes (L.take i) ++ (L[i].data.toList ++ bytes (L.drop (i + 1))) := by
  have h : L = L.take i ++ (L[i] :: L.drop (i + 1)) := by rw [← List.drop_eq_getElem_cons hi, List.take_append_drop]
  have e : bytes L = bytes (L.take i ++ (L[i] :: L.drop (i + 1))) := congrArg bytes h
  refine e.trans ?_
  unfold bytes
  rw [List.map_append, List.flatten_append, List.map_cons, List.flatten_cons]
theorem form_chunk {L : List ByteArray} (h : formB L = true) {i : Nat} (hi : i < L.length) : chunk (whole L) i = L[i] := by
  obtain ⟨-, s1, -⟩ := form_size h i (by omega)
  obtain ⟨t1, t2, -⟩ := form_size h (i + 1) (by omega)
  have hx : L[i]? = some L[i] := List.getElem?_eq_getElem hi
  have hs := congrArg ByteArray.size (whole_snoc hx)
  rw [ByteArray.size_append, s1 hi] at hs
  have hle := whole_take_le L (i + 1)
  have hm : min (whole L).size (160 * i + 160) = 160 * i + L[i].size := by
    rcases Nat.lt_or_ge (i + 1) L.length with h1 | h1
    · have := t2 h1
      omega
    · have e : L.take (i + 1) = L := List.take_of_length_le h1
      rw [e] at hs t1
      omega
  unfold chunk
  rw [hm]
  apply ByteArray.ext
  apply Array.toList_inj.1
  rw [Lib.extract_data, whole_toList, bytes_at hi]
  have h1 : (bytes (L.take i)).length = 160 * i := by rw [← whole_size]; exact s1 hi
  rw [← h1, List.drop_left, Nat.add_sub_cancel_left]
  have h2 : L[i].data.toList.length = L[i].size := by rw [Array.length_toList]; rfl
  rw [← h2, List.take_left]
theorem form_cn {L : List ByteArray} (h : formB L = true) : cn (whole L) = L.length := by
  obtain ⟨s1, -, s3⟩ := form_size h L.length (Nat.le_refl _)
  rw [List.take_length] at s1 s3
  obtain ⟨c1, c2⟩ := cn_size (whole L)
  rcases Nat.eq_zero_or_pos L.length with h0 | h0
  · omega
  · have := s3 h0
    omega
theorem form_chunks {L : List ByteArray} (h : formB L = true) : chunks (whole L) (cn (whole L)) = L := by
  rw [form_cn h]
  apply List.ext_getElem?
  intro i
  rcases Nat.lt_or_ge i L.length with hi | hi
  · rw [chunks_get hi, form_chunk h hi, List.getElem?_eq_getElem hi]
  · rw [List.getElem?_eq_none (by rw [chunks_len]; exact hi), List.getElem?_eq_none hi]
theorem chunks_form (S : ByteArray) : formB (chunks S (cn S)) = true := by
  have := seg_form (S := S) (F := 0) (k := cn S) (by omega)
  unfold seg at this
  rw [List.drop_zero, List.take_of_length_le (by rw [chunks_len]; exact Nat.le_refl _)] at this
  exact this
theorem chunks_whole (S : ByteArray) : whole (chunks S (cn S)) = S := by
  have := seg_whole (S := S) (F := 0) (k := cn S) (by omega)
  obtain ⟨c1, c2⟩ := cn_size S
  unfold seg at this
  rw [List.drop_zero, List.take_of_length_le (by rw [chunks_len]; exact Nat.le_refl _)] at this
  rw [this, Nat.mul_zero, Nat.zero_add, Nat.min_eq_left c1]
  simp

/-- Both sides ask the same of texts. -/
theorem ask_same (L : List ByteArray) : (decide ((whole L).size ≤ 2560) && decide (chunks (whole L) (cn (whole L)) = L)) = (decide (L.length ≤ 16) && formB L) := by
  rw [Bool.eq_iff_iff, Bool.and_eq_true, Bool.and_eq_true, decide_eq_true_iff, decide_eq_true_iff, decide_eq_true_iff]
  obtain ⟨c1, c2⟩ := cn_size (whole L)
  constructor
  · rintro ⟨h1, h2⟩
    have hf : formB L = true := by
      have := chunks_form (whole L)
      rwa [h2] at this
    have := form_cn hf
    exact ⟨by omega, hf⟩
  · rintro ⟨h1, hf⟩
    have := form_cn hf
    exact ⟨by omega, form_chunks hf⟩

end Go.Proofs.Ytpfjikkpfnmepaa
