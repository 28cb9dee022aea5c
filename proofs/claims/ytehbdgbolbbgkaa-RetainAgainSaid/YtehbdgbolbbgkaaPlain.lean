/-
  What is kept: plain laws.
-/
import Derived.Test.YtehbdgbolbbgkaaKeepNil
namespace Go.Proofs.Ytehbdgbolbbgkaa
open Go.RowKit

theorem kchk_zero {L : List Int} {p : Pol} (h : kchk L p = 0) : polB p = true ∧ riseB L = true := by
  unfold kchk at h
  split at h
  · split at h
    · exact ⟨by assumption, by assumption⟩
    · omega
  · omega

/-- A list that rises. -/
def Ups (L : List Int) : Prop := ∀ (i j : Nat) (a b : Int), i < j → L[i]? = some a → L[j]? = some b → a < b

theorem rise_next {L : List Int} (h : riseB L = true) {i : Nat} {a b : Int} (ha : L[i]? = some a) (hb : L[i + 1]? = some b) : a < b := by
  have := riseB_at h (List.getElem?_eq_some_iff.1 hb).1
  rw [okAt_succ hb ha] at this
  simp at this
  exact this.2
theorem rise_ups {L : List Int} (h : riseB L = true) : Ups L := by
  intro i j
  induction j with
  | zero => intro a b hij; omega
  | succ j ih =>
    intro a b hij ha hb
    rcases Nat.lt_or_ge i j with hl | hl
    · obtain ⟨u, hu⟩ : ∃ u, L[j]? = some u := ⟨_, List.getElem?_eq_getElem (by have := (List.getElem?_eq_some_iff.1 hb).1; omega)⟩
      have h1 := ih a u hl ha hu
      have h2 := rise_next h hu hb
      omega
    · obtain rfl : i = j := by omega
      exact rise_next h ha hb
theorem Ups.inj {L : List Int} (h : Ups L) {i j : Nat} {a : Int} (hi : L[i]? = some a) (hj : L[j]? = some a) : i = j := by
  rcases Nat.lt_trichotomy i j with hl | hl | hl
  · have := h i j a a hl hi hj; omega
  · exact hl
  · have := h j i a a hl hj hi; omega
theorem Ups.rise {L : List Int} (h : Ups L) (hr : ∀ x ∈ L, 1 ≤ x ∧ x ≤ 1152921504606846976) : riseB L = true := by
  refine riseB_of rfl fun j hj => ?_
  have hv := List.getElem?_eq_getElem hj
  have hx := hr _ (List.getElem_mem hj)
  rcases j with _ | k
  · rw [okAt_zero hv]
    simp [timeB]
    exact hx
  · have hu := List.getElem?_eq_getElem (show k < L.length by omega)
    rw [okAt_succ hv hu]
    have := h k (k + 1) _ _ (by omega) hu hv
    simp [timeB]
    exact ⟨hx, this⟩
theorem Ups.front {L : List Int} {x : Int} (h : Ups (L ++ [x])) : Ups L := fun i j a b hij ha hb => h i j a b hij (by rw [List.getElem?_append_left (List.getElem?_eq_some_iff.1 ha).1]; exact ha) (by rw [List.getElem?_append_left (List.getElem?_eq_some_iff.1 hb).1]; exact hb)

theorem picks_mem {L : List Int} {q : Nat → Bool} {k : Nat} {x : Int} : x ∈ picks L q k ↔ ∃ i, i < k ∧ L[i]? = some x ∧ q i = true := by
  induction k with
  | zero => simp [picks]
  | succ k ih =>
    constructor
    · intro h
      cases hk : L[k]? with
      | none =>
        simp only [picks, hk] at h
        obtain ⟨i, h1, h2, h3⟩ := ih.1 h
        exact ⟨i, by omega, h2, h3⟩
      | some v =>
        simp only [picks, hk] at h
        split at h
        · rcases List.mem_append.1 h with h | h
          · obtain ⟨i, h1, h2, h3⟩ := ih.1 h
            exact ⟨i, by omega, h2, h3⟩
          · simp at h
            subst h
            exact ⟨k, by omega, hk, by assumption⟩
        · obtain ⟨i, h1, h2, h3⟩ := ih.1 h
          exact ⟨i, by omega, h2, h3⟩
    · rintro ⟨i, h1, h2, h3⟩
      rcases Nat.lt_or_ge i k with hl | hl
      · have := ih.2 ⟨i, hl, h2, h3⟩
        cases hk : L[k]? with
        | none => simp only [picks, hk]; exact this
        | some v =>
          simp only [picks, hk]
          split
          · exact List.mem_append_left _ this
          · exact this
      · obtain rfl : i = k := by omega
        rw [← picks_yes h2 h3]
        simp
theorem picks_ups {L : List Int} {q : Nat → Bool} (h : Ups L) (k : Nat) : Ups (picks L q k) := by
  induction k with
  | zero => intro i j a b _ ha; simp [picks] at ha
  | succ k ih =>
    cases hq : q k with
    | false => rw [picks_no hq]; exact ih
    | true =>
      cases hk : L[k]? with
      | none => simp only [picks, hk]; exact ih
      | some v =>
        rw [← picks_yes hk hq]
        intro i j a b hij ha hb
        have hj := (List.getElem?_eq_some_iff.1 hb).1
        rw [List.length_append] at hj
        simp at hj
        rw [List.getElem?_append_left (by omega)] at ha
        rcases Nat.lt_or_ge j (picks L q k).length with hl | hl
        · rw [List.getElem?_append_left hl] at hb
          exact ih i j a b hij ha hb
        · obtain rfl : j = (picks L q k).length := by omega
          rw [List.getElem?_append_right (Nat.le_refl _)] at hb
          simp at hb
          subst hb
          obtain ⟨m, h1, h2, h3⟩ := picks_mem.1 (List.mem_of_getElem? ha)
          exact h m k a v h1 h2 hk
theorem picks_all {L : List Int} {q : Nat → Bool} {k : Nat} (h : ∀ i, i < k → q i = true) : picks L q k = L.take k := by
  induction k with
  | zero => simp [picks]
  | succ k ih =>
    have h1 := ih fun i hi => h i (by omega)
    cases hk : L[k]? with
    | none => simp only [picks, hk, h1]; rw [List.take_of_length_le (by rw [List.getElem?_eq_none_iff] at hk; exact hk), List.take_of_length_le (by rw [List.getElem?_eq_none_iff] at hk; omega)]
    | some v => rw [← picks_yes hk (h k (by omega)), h1]; exact take_snoc hk
theorem picks_none {L : List Int} {q : Nat → Bool} {k : Nat} (h : ∀ i, i < k → q i = false) : picks L q k = [] := by
  induction k with
  | zero => simp [picks]
  | succ k ih => rw [picks_no (h k (by omega)), ih fun i hi => h i (by omega)]
theorem picks_tail {L : List Int} {q : Nat → Bool} {E : Nat} (m : Nat) (h : ∀ i, E ≤ i → q i = true) (hm : E + m ≤ L.length) : picks L q (E + m) = picks L q E ++ (L.drop E).take m := by
  induction m with
  | zero => simp
  | succ m ih =>
    have hk := List.getElem?_eq_getElem (show E + m < L.length by omega)
    rw [show E + (m + 1) = E + m + 1 from rfl, ← picks_yes hk (h _ (by omega)), ih (by omega), List.append_assoc]
    congr 1
    refine take_snoc ?_
    rw [List.getElem?_drop]
    exact hk
theorem picks_both {L : List Int} {q : Nat → Bool} {k : Nat} (hk : k ≤ L.length) : (picks L q k).length + (picks L (fun i => !q i) k).length = k := by
  induction k with
  | zero => simp [picks]
  | succ k ih =>
    have h1 := ih (by omega)
    have hv := List.getElem?_eq_getElem (show k < L.length by omega)
    cases hq : q k with
    | true => rw [← picks_yes hv hq, picks_no (q := fun i => !q i) (by simp [hq]), List.length_append]; simp; omega
    | false => rw [picks_no hq, ← picks_yes (q := fun i => !q i) hv (by simp [hq]), List.length_append]; simp; omega
theorem picks_filter {L : List Int} {q : Nat → Bool} {f : Int → Bool} {k : Nat} (h : ∀ i x, L[i]? = some x → f x = q i) : (L.take k).filter f = picks L q k := by
  induction k with
  | zero => simp [picks]
  | succ k ih =>
    cases hk : L[k]? with
    | none =>
      simp only [picks, hk]
      rw [← ih]
      rw [List.getElem?_eq_none_iff] at hk
      rw [List.take_of_length_le hk, List.take_of_length_le (by omega)]
    | some v =>
      rw [← take_snoc hk, List.filter_append, ih]
      cases hq : q k with
      | true => rw [← picks_yes hk hq]; simp [h k v hk, hq]
      | false => rw [picks_no hq]; simp [h k v hk, hq]
theorem picks_has {L : List Int} {q : Nat → Bool} (hu : Ups L) {i : Nat} {x : Int} (hi : L[i]? = some x) : (picks L q L.length).contains x = q i := by
  cases hq : q i with
  | true => simpa using picks_mem.2 ⟨i, (List.getElem?_eq_some_iff.1 hi).1, hi, hq⟩
  | false =>
    refine Bool.eq_false_iff.2 fun hc => ?_
    have hc' : x ∈ picks L q L.length := by simpa using hc
    obtain ⟨j, _, h2, h3⟩ := picks_mem.1 hc'
    rw [hu.inj hi h2, h3] at hq
    cases hq
theorem Ups.among {L : List Int} (h : Ups L) (x : Int) : amongN L x = if L.contains x = true then 1 else 0 := by
  induction L with
  | nil => rfl
  | cons a l ih =>
    have hl : Ups l := fun i j u v hij hu hv => h (i + 1) (j + 1) u v (by omega) (by simpa using hu) (by simpa using hv)
    have hi := ih hl
    unfold amongN at hi ⊢
    rw [List.countP_cons, hi]
    by_cases hax : a = x
    · subst hax
      have hn : l.contains a = false := by
        refine Bool.eq_false_iff.2 fun hc => ?_
        have hc' : a ∈ l := by simpa using hc
        obtain ⟨j, hj⟩ := List.getElem?_of_mem hc'
        have := h 0 (j + 1) a a (by omega) (by simp) (by simpa using hj)
        omega
      rw [hn]
      simp
    · have e1 : (a == x) = false := by simpa using hax
      have e2 : (a :: l).contains x = l.contains x := by simp; intro h; exact absurd h.symm hax
      rw [e1, e2]
      simp

/-! ### Keep -/
theorem DV_fc (L : List Int) (e : Int) {j : Nat} (hj : j ≤ L.length) : (DV L e j).length = fc L e j := by
  induction j with
  | zero => simp [DV, fc, DI]
  | succ j ih =>
    have hv := List.getElem?_eq_getElem (show j < L.length by omega)
    cases hf : firstB L e j with
    | true => rw [DV_yes hv hf, fc_yes hf, List.length_cons, ih (by omega)]
    | false => rw [DV_no hf, fc_no hf, ih (by omega)]

theorem picks_elder {L : List Int} {p : Pol} (hr : 0 ≤ p.r) {j : Nat} (hj : j ≤ elderN L.length p.l) :
    picks L (keptB L p) j = ((DV L p.e j).take (p.r.toNat - (fc L p.e (elderN L.length p.l) - fc L p.e j))).reverse := by
  have hE : elderN L.length p.l ≤ L.length := by unfold elderN; omega
  induction j with
  | zero => simp [picks, DV]
  | succ j ih =>
    have hv := List.getElem?_eq_getElem (show j < L.length by omega)
    have h1 := ih (by omega)
    have hm := fc_mono (L := L) (e := p.e) hj
    cases hf : firstB L p.e j with
    | false => rw [picks_no (kept_no (by omega) hf), DV_no hf, fc_no hf, h1]
    | true =>
      have hk := kept_yes (p := p) (L := L) (i := j) (by omega) hf
      rw [fc_yes hf] at hm
      rw [DV_yes hv hf, fc_yes hf]
      by_cases hle : ((fc L p.e (elderN L.length p.l) - fc L p.e j : Nat) : Int) ≤ p.r
      · rw [← picks_yes hv (by rw [hk]; simpa using hle), h1]
        rw [show p.r.toNat - (fc L p.e (elderN L.length p.l) - (fc L p.e j + 1)) = (p.r.toNat - (fc L p.e (elderN L.length p.l) - fc L p.e j)) + 1 from by omega]
        simp
      · rw [picks_no (by rw [hk]; simpa using hle), h1]
        rw [show p.r.toNat - (fc L p.e (elderN L.length p.l) - (fc L p.e j + 1)) = 0 from by omega, show p.r.toNat - (fc L p.e (elderN L.length p.l) - fc L p.e j) = 0 from by omega]
        simp

theorem keep_eq {L : List Int} {p : Pol} : keepL L p = inL L p := by
  by_cases h : kchk L p = 0
  · have hp := (kchk_zero h).1
    have hr := (pol_of hp).2.2.2.2.1
    have hE : elderN L.length p.l ≤ L.length := by unfold elderN; omega
    rw [inL_yes h]
    unfold keepL
    rw [if_pos h]
    obtain ⟨m, hm⟩ : ∃ m, L.length = elderN L.length p.l + m := ⟨L.length - elderN L.length p.l, by omega⟩
    have ht := picks_tail (L := L) (q := keptB L p) (E := elderN L.length p.l) m (fun i hi => kept_old hi) (by omega)
    rw [← hm] at ht
    rw [ht, picks_elder hr (Nat.le_refl _), Nat.sub_self, Nat.sub_zero, List.take_of_length_le (i := m) (by rw [List.length_drop]; omega)]
  · rw [keepL_no h, inL_no h]

theorem in_ups {L : List Int} {p : Pol} (h : kchk L p = 0) : Ups (inL L p) := by
  rw [inL_yes h]
  exact picks_ups (rise_ups (kchk_zero h).2) _
theorem in_has {L : List Int} {p : Pol} (h : kchk L p = 0) {i : Nat} {x : Int} (hi : L[i]? = some x) : (inL L p).contains x = keptB L p i := by
  rw [inL_yes h]
  exact picks_has (rise_ups (kchk_zero h).2) hi
theorem out_has {L : List Int} {p : Pol} (h : kchk L p = 0) {i : Nat} {x : Int} (hi : L[i]? = some x) : (outL L p).contains x = !keptB L p i := by
  rw [outL_yes h]
  exact picks_has (q := fun i => !keptB L p i) (rise_ups (kchk_zero h).2) hi
theorem out_eq {L : List Int} {p : Pol} (h : kchk L p = 0) : L.filter (fun x => !(inL L p).contains x) = outL L p := by
  rw [outL_yes h]
  have := picks_filter (L := L) (q := fun i => !keptB L p i) (f := fun x => !(inL L p).contains x) (k := L.length) (fun i x hi => by rw [in_has h hi])
  rwa [List.take_length] at this
theorem out_ups {L : List Int} {p : Pol} (h : kchk L p = 0) : Ups (outL L p) := by
  rw [outL_yes h]
  exact picks_ups (rise_ups (kchk_zero h).2) _
theorem in_out {L : List Int} {p : Pol} (h : kchk L p = 0) : (inL L p).length + (outL L p).length = L.length := by
  rw [inL_yes h, outL_yes h]
  exact picks_both (Nat.le_refl _)

end Go.Proofs.Ytehbdgbolbbgkaa
