/-
  What Piece tells of some of a body's chunks: plain laws.
-/
import Derived.Test.YtpfjikkpfnmepaaPiece
import Derived.Test.YtpfjikkpfnmepaaCut
namespace Go.Proofs.Ytpfjikkpfnmepaa
open Go.RowKit

theorem extract_join (S : ByteArray) {a b c : Nat} (h1 : a ≤ b) (h2 : b ≤ c) : S.extract a b ++ S.extract b c = S.extract a c := by
  apply ByteArray.ext
  simp only [ByteArray.data_append, ByteArray.data_extract]
  rw [Array.extract_append_extract]
  congr 1 <;> omega
def seg (S : ByteArray) (F k : Nat) : List ByteArray := ((chunks S (cn S)).drop F).take k
theorem seg_at {S : ByteArray} {F k i : Nat} (h : F + k ≤ cn S) (hi : i < k) : (seg S F k)[i]? = some (chunk S (F + i)) := by
  unfold seg
  rw [List.getElem?_take_of_lt hi, List.getElem?_drop]
  exact chunks_get (by omega)
theorem seg_len {S : ByteArray} {F k : Nat} (h : F + k ≤ cn S) : (seg S F k).length = k := by
  unfold seg
  rw [List.length_take, List.length_drop, chunks_len]
  omega
theorem cn_size (S : ByteArray) : S.size ≤ 160 * cn S ∧ 160 * cn S ≤ S.size + 159 := by unfold cn; omega
theorem seg_whole {S : ByteArray} {F k : Nat} (h : F + k ≤ cn S) : whole (seg S F k) = S.extract (160 * F) (min S.size (160 * (F + k))) := by
  obtain ⟨c1, c2⟩ := cn_size S
  induction k with
  | zero =>
    apply ByteArray.ext
    simp only [ByteArray.data_extract, seg, List.take_zero, whole, bytes]
    have e1 : S.data.size = S.size := rfl
    rw [Array.extract_empty_of_stop_le_start (by omega)]
    rfl
  | succ k ih =>
    have hx : ((chunks S (cn S)).drop F)[k]? = some (chunk S (F + k)) := by
      rw [List.getElem?_drop]
      exact chunks_get (by omega)
    have hs := whole_snoc hx
    show whole (((chunks S (cn S)).drop F).take (k + 1)) = _
    rw [← hs]
    have := ih (by omega)
    unfold seg at this
    rw [this]
    unfold chunk
    rw [show min S.size (160 * (F + k)) = 160 * (F + k) by omega, extract_join S (by omega) (by omega)]
    congr 1
theorem seg_form {S : ByteArray} {F k : Nat} (h : F + k ≤ cn S) : formB (seg S F k) = true := by
  obtain ⟨c1, c2⟩ := cn_size S
  refine form_of (seg_len h) fun j hj => ?_
  have hx := seg_at h hj
  have hsz := chunk_size S (F + j)
  by_cases hm : j + 1 < k
  · rw [okAt_mid (seg_len h) hx hm]
    exact decide_eq_true (by omega)
  · rw [okAt_last (seg_len h) hx (by omega), decide_eq_true (show (chunk S (F + j)).size ≠ 0 by omega), decide_eq_true (show (chunk S (F + j)).size ≤ 160 by omega)]
    rfl
theorem seg_piece {S : ByteArray} {F k f r e : Nat} {n : Int} (h : F + k ≤ cn S) (hF : F = f / 160) (he : e = min S.size (160 * (F + k))) (hfe : f ≤ e) (hn : 0 ≤ n) (hr : (r : Int) = min n ((e : Int) - f)) :
    pieceE (seg S F k) F f n = 0 ∧ pieceS (seg S F k) F f n = S.extract f (f + r) := by
  have hp : pieceB (F : Int) (f : Int) n = true := by simp [pieceB, leastB]; omega
  have hat : pieceAt (F : Int) (f : Int) = ((f - 160 * F : Nat) : Int) := by unfold pieceAt; omega
  have hw := seg_whole h
  have hsz : (whole (seg S F k)).size = e - 160 * F := by rw [hw, extract_size]; omega
  have hE : pieceE (seg S F k) F f n = 0 := piece_ok hp (by rw [hat, hsz]; omega) (seg_form h)
  refine ⟨hE, ?_⟩
  unfold pieceS
  rw [if_pos hE, hat, hsz, hw, extract_extract]
  have e1 : 160 * F + ((f - 160 * F : Nat) : Int).toNat = f := by omega
  have e2 : min (min S.size (160 * (F + k))) (160 * F + (((f - 160 * F : Nat) : Int) + min n (((e - 160 * F : Nat) : Int) - ((f - 160 * F : Nat) : Int))).toNat) = f + r := by omega
  rw [e1, e2]

theorem Sl.sub {w : World} {b off n c F k : Nat} {L : List ByteArray} (h : Sl w (some ⟨b, off, none⟩) n c L) (h1 : F + k ≤ n) (_h2 : F < n) : Sl w (some ⟨b, off + F, none⟩) k (c - F) ((L.drop F).take k) := by
  have hc := h.cap
  have hb := h.big
  have hw := h.wide
  refine ⟨by rw [List.length_take, List.length_drop, h.len]; omega, by omega, by omega, by omega, fun e => (by cases e), fun x hx => h.ok x (List.mem_of_mem_drop (List.mem_of_mem_take hx)), fun h0 => ⟨b, off + F, rfl, fun i x hx => ?_⟩⟩
  obtain ⟨b', off', e, ha⟩ := h.at_ (by omega)
  cases e
  have hi : i < k := by
    have := (List.getElem?_eq_some_iff.1 hx).1
    rw [List.length_take] at this
    omega
  rw [List.getElem?_take_of_lt hi, List.getElem?_drop] at hx
  have := ha (F + i) x hx
  rwa [← Nat.add_assoc] at this

end Go.Proofs.Ytpfjikkpfnmepaa
