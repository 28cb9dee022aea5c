/-
  A tag's text is read as the tag; what is read has just this text: plain laws.
-/
import Derived.Test.YtmajagdgpmbnhaaPc
namespace Go.Proofs.Ytmajagdgpmbnhaa
open Go.RowKit

theorem hexd_toNat {d : Nat} (h : d < 16) : (hexd d).toNat = if d < 10 then 48 + d else 87 + d := by
  unfold hexd
  rw [UInt8.toNat_ofNat']
  split <;> omega
theorem dv_hexd {d : Nat} (h : d < 16) : dv (hexd d).toNat = some d := by
  rw [hexd_toNat h]
  unfold dv
  by_cases h1 : d < 10
  · rw [if_pos h1, if_pos (by omega)]
    congr 1
    omega
  · rw [if_neg h1, if_neg (by omega), if_pos (by omega)]
    congr 1
    omega
theorem hexd_dv {c : UInt8} {d : Nat} (h : dv c.toNat = some d) : hexd d = c := by
  apply UInt8.toNat_inj.1
  rw [hexd_toNat (dv_lt h)]
  by_cases h1 : 48 ≤ c.toNat ∧ c.toNat ≤ 57
  · have := dv_num h h1
    rw [if_pos (by omega)]
    omega
  · obtain ⟨p1, p2, p3⟩ := dv_let h h1
    rw [if_neg (by omega)]
    omega
theorem vals_five {n : Nat} (h : n < 1048576) : vals (five n) 0 = some n := by
  unfold five
  simp only [vals, dv_hexd (show n / 65536 % 16 < 16 by omega), dv_hexd (show n / 4096 % 16 < 16 by omega), dv_hexd (show n / 256 % 16 < 16 by omega), dv_hexd (show n / 16 % 16 < 16 by omega), dv_hexd (show n % 16 < 16 by omega)]
  congr 1
  omega
theorem five_vals {a b c d e : UInt8} {n : Nat} (h : vals [a, b, c, d, e] 0 = some n) : five n = [a, b, c, d, e] := by
  simp only [vals] at h
  cases h1 : dv a.toNat with
  | none => rw [h1] at h; cases h
  | some i =>
    rw [h1] at h
    simp only at h
    cases h2 : dv b.toNat with
    | none => rw [h2] at h; cases h
    | some j =>
      rw [h2] at h
      simp only at h
      cases h3 : dv c.toNat with
      | none => rw [h3] at h; cases h
      | some k =>
        rw [h3] at h
        simp only at h
        cases h4 : dv d.toNat with
        | none => rw [h4] at h; cases h
        | some l =>
          rw [h4] at h
          simp only at h
          cases h5 : dv e.toNat with
          | none => rw [h5] at h; cases h
          | some m =>
            rw [h5] at h
            simp only at h
            injection h with h
            have l1 := dv_lt h1
            have l2 := dv_lt h2
            have l3 := dv_lt h3
            have l4 := dv_lt h4
            have l5 := dv_lt h5
            unfold five
            rw [show n / 65536 % 16 = i by omega, show n / 4096 % 16 = j by omega, show n / 256 % 16 = k by omega, show n / 16 % 16 = l by omega, show n % 16 = m by omega,
              hexd_dv h1, hexd_dv h2, hexd_dv h3, hexd_dv h4, hexd_dv h5]
theorem five_of {l : List UInt8} {n : Nat} (hl : l.length = 5) (h : vals l 0 = some n) : five n = l := by
  match l, hl with
  | [a, b, c, d, e], _ => exact five_vals h
theorem valI_nat {l : List UInt8} (h : 0 ≤ valI l) : ∃ n : Nat, vals l 0 = some n ∧ valI l = n := by
  unfold valI at *
  cases hv : vals l 0 with
  | none => rw [hv] at h; simp at h
  | some n => exact ⟨n, rfl, rfl⟩

/-- The text of a right tag, read. -/
theorem parse_text {a b : Nat} (ha : a < 1048573) (hb : b < 1048573) : pOk (txtB a b) = true ∧ pa (txtB a b) = a ∧ pb (txtB a b) = b := by
  have e1 : (txtB a b).data.toList.take 5 = five a := rfl
  have e2 : (txtB a b).data.toList.drop 5 = five b := rfl
  have h1 : pa (txtB a b) = a := by
    unfold pa valI
    rw [e1, vals_five (by omega)]
  have h2 : pb (txtB a b) = b := by
    unfold pb valI
    rw [e2, vals_five (by omega)]
  refine ⟨?_, h1, h2⟩
  unfold pOk
  rw [h1, h2, decide_eq_true (txtB_size a b), Bool.true_and]
  exact right_mk ⟨by show (0 : Int) ≤ a; omega, by show (a : Int) ≤ 1048572; omega, by show (0 : Int) ≤ b; omega, by show (b : Int) ≤ 1048572; omega⟩
/-- What is read has this text. -/
theorem text_parse {S : ByteArray} (h : pOk S = true) : right (pa S, pb S) = true ∧ txtS (pa S, pb S) = S := by
  unfold pOk at h
  rw [Bool.and_eq_true] at h
  obtain ⟨h1, h2⟩ := h
  have h10 := of_decide_eq_true h1
  refine ⟨h2, ?_⟩
  obtain ⟨b1, b2, b3, b4⟩ := right_of h2
  obtain ⟨m, hm, em⟩ := valI_nat (l := S.data.toList.take 5) b1
  obtain ⟨q, hq, eq⟩ := valI_nat (l := S.data.toList.drop 5) b3
  have hl : S.data.toList.length = 10 := by simpa using h10
  have f1 := five_of (by rw [List.length_take]; omega) hm
  have f2 := five_of (by rw [List.length_drop]; omega) hq
  have e1 : pa S = m := em
  have e2 : pb S = q := eq
  unfold txtS
  rw [if_pos h2, e1, e2]
  apply ByteArray.ext
  apply Array.toList_inj.1
  show five (m : Int).toNat ++ five (q : Int).toNat = S.data.toList
  rw [Int.toNat_natCast, Int.toNat_natCast, f1, f2, List.take_append_drop]

end Go.Proofs.Ytmajagdgpmbnhaa
