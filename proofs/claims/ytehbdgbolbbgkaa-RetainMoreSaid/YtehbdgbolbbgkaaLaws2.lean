/-
  The plain laws of rows; of keeping again; of one time more.
-/
import Derived.Test.YtehbdgbolbbgkaaLaws
namespace Go.Proofs.Ytehbdgbolbbgkaa
open Go.RowKit

theorem DV_at {L : List Int} {e : Int} {j : Nat} {x : Int} (h : x ∈ DV L e j) : ∃ i, i < j ∧ L[i]? = some x := by
  induction j with
  | zero => simp [DV] at h
  | succ j ih =>
    cases hj : L[j]? with
    | none =>
      simp only [DV, hj] at h
      obtain ⟨i, h1, h2⟩ := ih h
      exact ⟨i, by omega, h2⟩
    | some v =>
      simp only [DV, hj] at h
      split at h
      · rcases List.mem_cons.1 h with rfl | h
        · exact ⟨j, by omega, hj⟩
        · obtain ⟨i, h1, h2⟩ := ih h
          exact ⟨i, by omega, h2⟩
      · obtain ⟨i, h1, h2⟩ := ih h
        exact ⟨i, by omega, h2⟩
theorem first_lt {L : List Int} {e : Int} (hr : riseB L = true) (he : 1 ≤ e) {i j : Nat} {x v : Int} (hij : i < j) (hx : L[i]? = some x) (hv : L[j]? = some v) (hf : firstB L e j = true) : x / e < v / e := by
  rcases j with _ | j
  · omega
  · obtain ⟨u, hu⟩ : ∃ u, L[j]? = some u := ⟨_, List.getElem?_eq_getElem (by have := (List.getElem?_eq_some_iff.1 hv).1; omega)⟩
    rw [firstB_succ hv hu] at hf
    have h1 : v / e ≠ u / e := by simpa using hf
    have h2 : u / e ≤ v / e := Int.ediv_le_ediv (by omega) (Int.le_of_lt (rise_next hr hu hv))
    have h3 : x / e ≤ u / e := by
      refine Int.ediv_le_ediv (by omega) ?_
      rcases Nat.lt_or_ge i j with hl | hl
      · exact Int.le_of_lt (rise_ups hr i j x u hl hx hu)
      · obtain rfl : i = j := by omega
        rw [hx] at hu
        injection hu with hu
        omega
    omega
theorem DV_desc {L : List Int} {e : Int} (hr : riseB L = true) (he : 1 ≤ e) {j : Nat} : ∀ (i k : Nat) (a b : Int), i < k → (DV L e j)[i]? = some a → (DV L e j)[k]? = some b → b / e < a / e := by
  induction j with
  | zero => intro i k a b _ ha; simp [DV] at ha
  | succ j ih =>
    cases hf : firstB L e j with
    | false => rw [DV_no hf]; exact ih
    | true =>
      cases hj : L[j]? with
      | none => simp only [DV, hj]; exact ih
      | some v =>
        rw [DV_yes hj hf]
        intro i k a b hik ha hb
        rcases k with _ | k
        · omega
        · rw [List.getElem?_cons_succ] at hb
          rcases i with _ | i
          · simp at ha
            subst ha
            obtain ⟨m, hm, hmb⟩ := DV_at (List.mem_of_getElem? hb)
            exact first_lt hr he hm hmb hj hf
          · rw [List.getElem?_cons_succ] at ha
            exact ih i k a b (by omega) ha hb

/-- How many elder ones are kept. -/
def eldN (L : List Int) (p : Pol) : Nat := ((DV L p.e (elderN L.length p.l)).take p.r.toNat).length
theorem eld_rows {L : List Int} {p : Pol} (h : kchk L p = 0) {i k : Nat} {a b : Int} (hik : i < k) (hk : k < eldN L p) (ha : (inL L p)[i]? = some a) (hb : (inL L p)[k]? = some b) : a / p.e < b / p.e := by
  obtain ⟨hp, hr⟩ := kchk_zero h
  have he := (pol_of hp).2.2.1
  rw [in_form h] at ha hb
  unfold eldN at hk
  rw [List.getElem?_append_left (by rw [List.length_reverse]; omega)] at ha hb
  rw [List.getElem?_reverse (by omega)] at ha hb
  rw [List.length_take] at ha hb hk
  rw [List.getElem?_take_of_lt (by omega)] at ha hb
  exact DV_desc hr he _ _ b a (by omega) hb ha
theorem eld_len {L : List Int} {p : Pol} (h : kchk L p = 0) : (inL L p).length - p.l.toNat ≤ eldN L p ∧ (eldN L p : Int) ≤ p.r := by
  obtain ⟨h1, _, _, _, h5, _⟩ := pol_of (kchk_zero h).1
  have hl : (DV L p.e (elderN L.length p.l)).length ≤ elderN L.length p.l := DV_len _ _ _
  rw [in_form h, List.length_append, List.length_reverse, List.length_drop]
  unfold eldN
  rw [List.length_take]
  unfold elderN at *
  omega

theorem rows_far {L : List Int} {p : Pol} (h : kchk L p = 0) {i : Nat} {a b : Int} (hi : ((i + 1 : Nat) : Int) < (inL L p).length - p.l) (ha : (inL L p)[i]? = some a) (hb : (inL L p)[i + 1]? = some b) : b / p.e ≠ a / p.e := by
  have h1 := eld_len h
  have hl1 := (pol_of (kchk_zero h).1).1
  have := eld_rows h (i := i) (k := i + 1) (by omega) (by omega) ha hb
  omega

theorem in_kchk {L : List Int} {p : Pol} (h : kchk L p = 0) : kchk (inL L p) p = 0 := by
  obtain ⟨hp, hr⟩ := kchk_zero h
  exact kchk_ok hp ((in_ups h).rise fun x hx => rise_mem hr (in_mem hx))
theorem again_kept {L : List Int} {p : Pol} (h : kchk L p = 0) {i : Nat} (hi : i < (inL L p).length) : keptB (inL L p) p i = true := by
  rcases Nat.lt_or_ge i (elderN (inL L p).length p.l) with hl | hl
  · have h1 := eld_len h
    have hE : elderN (inL L p).length p.l ≤ eldN L p := h1.1
    have hf : firstB (inL L p) p.e i = true := by
      rcases i with _ | i
      · exact firstB_zero _ _
      · have hv := List.getElem?_eq_getElem hi
        have hu := List.getElem?_eq_getElem (show i < (inL L p).length by omega)
        rw [firstB_succ hv hu]
        have := eld_rows h (i := i) (k := i + 1) (by omega) (by omega) hu hv
        simp
        omega
    rw [kept_yes hl hf]
    have := fc_le (inL L p) p.e (elderN (inL L p).length p.l)
    simp
    omega
  · exact kept_old hl
theorem again_in {L : List Int} {p : Pol} (h : kchk L p = 0) : inL (inL L p) p = inL L p := by
  rw [inL_yes (in_kchk h), picks_all (fun i hi => again_kept h hi), List.take_length]
theorem again_out {L : List Int} {p : Pol} (h : kchk L p = 0) : outL (inL L p) p = [] := by
  rw [outL_yes (in_kchk h)]
  exact picks_none fun i hi => by rw [again_kept h hi]; rfl

/-! ### One time more -/
theorem first_more {L : List Int} {t e : Int} {i : Nat} (hi : i < L.length) : firstB (L ++ [t]) e i = firstB L e i := by
  unfold firstB
  rw [List.getElem?_append_left hi, List.getElem?_append_left (by omega)]
theorem fc_more {L : List Int} {t e : Int} {j : Nat} (hj : j ≤ L.length) : fc (L ++ [t]) e j = fc L e j := by
  induction j with
  | zero => rfl
  | succ j ih =>
    have h1 := first_more (t := t) (e := e) (show j < L.length by omega)
    cases hf : firstB L e j with
    | true => rw [fc_yes hf, fc_yes (by rw [h1]; exact hf), ih (by omega)]
    | false => rw [fc_no hf, fc_no (by rw [h1]; exact hf), ih (by omega)]
theorem more_dropped {L : List Int} {p : Pol} {t : Int} {i : Nat} (hi : i < L.length) (hk : keptB L p i = false) : keptB (L ++ [t]) p i = false := by
  have hE : i < elderN L.length p.l := by
    rcases Nat.lt_or_ge i (elderN L.length p.l) with h | h
    · exact h
    · rw [kept_old h] at hk
      cases hk
  have hl : (L ++ [t]).length = L.length + 1 := by simp
  have hE' : i < elderN (L ++ [t]).length p.l := by rw [hl]; unfold elderN at *; omega
  cases hf : firstB L p.e i with
  | false => exact kept_no hE' (by rw [first_more hi]; exact hf)
  | true =>
    rw [kept_yes hE hf] at hk
    rw [kept_yes hE' (by rw [first_more hi]; exact hf)]
    have h1 : fc (L ++ [t]) p.e i = fc L p.e i := fc_more (by omega)
    have h2 : fc L p.e (elderN L.length p.l) ≤ fc (L ++ [t]) p.e (elderN (L ++ [t]).length p.l) := by
      rw [← fc_more (t := t) (e := p.e) (j := elderN L.length p.l) (by unfold elderN; omega)]
      exact fc_mono (by rw [hl]; unfold elderN; omega)
    have h3 : fc L p.e i ≤ fc L p.e (elderN L.length p.l) := fc_mono (by omega)
    rw [decide_eq_false_iff_not] at hk ⊢
    omega
theorem more_out {L : List Int} {p : Pol} {t : Int} (h : kchk L p = 0) (h' : kchk (L ++ [t]) p = 0) {i : Nat} {v : Int} (hv : (outL L p)[i]? = some v) : amongN (inL (L ++ [t]) p) v = 0 := by
  have hm := List.mem_of_getElem? hv
  rw [outL_yes h] at hm
  obtain ⟨k, hk, hkv, hq⟩ := picks_mem.1 hm
  have hq' : keptB L p k = false := by simpa using hq
  rw [among_in h' (i := k) (by rw [List.getElem?_append_left hk]; exact hkv), more_dropped hk hq']
  rfl
theorem more_last {L : List Int} {p : Pol} {t : Int} (h' : kchk (L ++ [t]) p = 0) : amongN (inL (L ++ [t]) p) t = 1 := by
  have hl := (pol_of (kchk_zero h').1).1
  rw [among_in h' (i := L.length) (by rw [List.getElem?_append_right (Nat.le_refl _), Nat.sub_self]; rfl), kept_last h' (by simp; omega)]
  rfl

end Go.Proofs.Ytehbdgbolbbgkaa
