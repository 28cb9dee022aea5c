/-
  The plain laws of what is kept and dropped.
-/
import Derived.Test.YtehbdgbolbbgkaaMark
import Derived.Test.YtehbdgbolbbgkaaPlain
namespace Go.Proofs.Ytehbdgbolbbgkaa
open Go.RowKit

theorem among_in {L : List Int} {p : Pol} (h : kchk L p = 0) {i : Nat} {v : Int} (hi : L[i]? = some v) : amongN (inL L p) v = if keptB L p i = true then 1 else 0 := by
  rw [(in_ups h).among, in_has h hi]
theorem among_out {L : List Int} {p : Pol} (h : kchk L p = 0) {i : Nat} {v : Int} (hi : L[i]? = some v) : amongN (outL L p) v = if keptB L p i = true then 0 else 1 := by
  rw [(out_ups h).among, out_has h hi]
  cases keptB L p i <;> rfl

/-- What is kept: of the elder ones at most so many as there are rows, then the last ones. -/
theorem in_form {L : List Int} {p : Pol} (h : kchk L p = 0) : inL L p = ((DV L p.e (elderN L.length p.l)).take p.r.toNat).reverse ++ L.drop (elderN L.length p.l) := by
  rw [← keep_eq]
  unfold keepL
  rw [if_pos h]
theorem in_len {L : List Int} {p : Pol} (h : kchk L p = 0) : ((inL L p).length : Int) ≤ p.l + p.r := by
  obtain ⟨h1, _, _, _, h5, _⟩ := pol_of (kchk_zero h).1
  rw [in_form h, List.length_append, List.length_reverse, List.length_take, List.length_drop]
  unfold elderN
  omega
theorem kept_last {L : List Int} {p : Pol} (h : kchk L p = 0) {i : Nat} (hi : (L.length : Int) - p.l ≤ i) : keptB L p i = true := by
  obtain ⟨h1, _⟩ := pol_of (kchk_zero h).1
  exact kept_old (by unfold elderN; omega)
theorem in_mem {L : List Int} {p : Pol} {x : Int} (hx : x ∈ inL L p) : x ∈ L := by
  by_cases h : kchk L p = 0
  · rw [inL_yes h] at hx
    obtain ⟨i, _, h2, _⟩ := picks_mem.1 hx
    exact List.mem_of_getElem? h2
  · rw [inL_no h] at hx
    simp at hx
theorem rise_mem {L : List Int} (h : riseB L = true) {x : Int} (hx : x ∈ L) : 1 ≤ x ∧ x ≤ 1152921504606846976 := by
  obtain ⟨i, hi⟩ := List.getElem?_of_mem hx
  exact rise_pos h hi
theorem head_le {K : List Int} (h : Ups K) {i : Nat} {v : Int} (hi : K[i]? = some v) : headOf K ≤ v := by
  obtain ⟨u, hu⟩ : ∃ u, K[0]? = some u := ⟨_, List.getElem?_eq_getElem (by have := (List.getElem?_eq_some_iff.1 hi).1; omega)⟩
  rw [headOf_some hu]
  rcases i with _ | i
  · rw [hu] at hi
    injection hi with hi
    omega
  · have := h 0 (i + 1) u v (by omega) hu hi
    omega
theorem in_pos {L : List Int} {p : Pol} (h : kchk L p = 0) (hn : 0 < L.length) : 0 < (inL L p).length := by
  obtain ⟨h1, _⟩ := pol_of (kchk_zero h).1
  rw [in_form h, List.length_append, List.length_drop]
  unfold elderN
  omega
theorem in_le {L : List Int} {p : Pol} : (inL L p).length ≤ L.length := by
  by_cases h : kchk L p = 0
  · have := in_out h
    omega
  · rw [inL_no h]
    exact Nat.zero_le _
theorem head_zero {L : List Int} {p : Pol} (h : kchk L p = 0) : (headOf (inL L p) = 0) ↔ L.length = 0 := by
  constructor
  · intro h0
    rcases Nat.eq_zero_or_pos L.length with hz | hz
    · exact hz
    · have hp := in_pos h hz
      obtain ⟨u, hu⟩ : ∃ u, (inL L p)[0]? = some u := ⟨_, List.getElem?_eq_getElem hp⟩
      rw [headOf_some hu] at h0
      have := rise_mem (kchk_zero h).2 (in_mem (List.mem_of_getElem? hu))
      omega
  · intro h0
    refine headOf_nil ?_
    have := in_le (L := L) (p := p)
    omega

end Go.Proofs.Ytehbdgbolbbgkaa
