/-
  The plain laws of chains: what vacuuming, adding and rewinding leave.
-/
import Derived.Test.YtpfcddgknahgfaaAdd
namespace Go.Proofs.Ytpfcddgknahgfaa

theorem plc_eq {L : List Ver} {t : Int} {i : Nat} (h1 : ∀ j, j < i → ∃ v, L[j]? = some v ∧ t < v.t) (h2 : ∀ v, L[i]? = some v → v.t ≤ t) : plc L t = i := by
  rcases Nat.lt_trichotomy (plc L t) i with h | h | h
  · obtain ⟨v, hv, ht⟩ := h1 _ h
    have := plc_at hv
    omega
  · exact h
  · obtain ⟨v, hv, ht⟩ := plc_before h
    have := h2 v hv
    omega

theorem chainB_mk {L : List Ver} (h : ∀ i, i < L.length → okAt L i = true) : chainB L = true := chainB_of rfl h

theorem okAt_right {L : List Ver} (h : chainB L = true) {i : Nat} {v : Ver} (hv : L[i]? = some v) : rightB v = true :=
  ok_right (chainB_at h (List.getElem?_eq_some_iff.1 hv).1) hv
theorem okAt_mk {L : List Ver} {i : Nat} {v : Ver} (hv : L[i]? = some v) (hr : rightB v = true) (hp : ∀ j u, i = j + 1 → L[j]? = some u → v.t < u.t) : okAt L i = true := by
  rcases i with _ | j
  · rw [okAt_zero hv, hr]
  · have hl : j < L.length := by have := (List.getElem?_eq_some_iff.1 hv).1; omega
    have hu := List.getElem?_eq_getElem hl
    rw [okAt_succ hv hu, hr]
    simpa using hp j _ rfl hu
theorem chain_next {L : List Ver} (h : chainB L = true) {j : Nat} {v u : Ver} (hv : L[j + 1]? = some v) (hu : L[j]? = some u) : v.t < u.t := chain_lt h hu 0 hv

theorem chain_take {L : List Ver} (h : chainB L = true) (k : Nat) : chainB (L.take k) = true := by
  refine chainB_mk fun i hi => ?_
  have hv := List.getElem?_eq_getElem hi
  generalize (L.take k)[i] = v at hv
  have hik : i < k := by rw [List.length_take] at hi; omega
  have hv' : L[i]? = some v := by rw [← hv, List.getElem?_take, if_pos hik]
  refine okAt_mk hv (okAt_right h hv') fun j u e hu => ?_
  subst e
  rw [List.getElem?_take, if_pos (by omega)] at hu
  exact chain_next h hv' hu

theorem chain_drop {L : List Ver} (h : chainB L = true) (k : Nat) : chainB (L.drop k) = true := by
  refine chainB_mk fun i hi => ?_
  have hv := List.getElem?_eq_getElem hi
  generalize (L.drop k)[i] = v at hv
  have hv' : L[k + i]? = some v := by rw [← hv, List.getElem?_drop]
  refine okAt_mk hv (okAt_right h hv') fun j u e hu => ?_
  subst e
  rw [List.getElem?_drop] at hu
  exact chain_next h (by rw [Nat.add_assoc]; exact hv') hu

theorem chain_cons {L : List Ver} (h : chainB L = true) {v : Ver} (hr : rightB v = true) (hl : tooLate L v = false) : chainB (v :: L) = true := by
  refine chainB_mk fun i hi => ?_
  rcases i with _ | i
  · exact okAt_mk rfl hr fun j u e => by omega
  · have hx : (v :: L)[i + 1]? = L[i]? := rfl
    have hv := List.getElem?_eq_getElem (show i < L.length by simpa using hi)
    refine okAt_mk (by rw [hx]; exact hv) (okAt_right h hv) fun j u e hu => ?_
    obtain rfl : j = i := by omega
    rcases j with _ | j
    · simp at hu
      subst hu
      cases L with
      | nil => simp at hi
      | cons a l => simp [tooLate] at hl; simpa using hl
    · exact chain_next h hv (by simpa using hu)

theorem keepN_le (L : List Ver) (m : Int) : keepN L m ≤ L.length := by
  have := plc_le L m
  unfold keepN
  cases hv : L[plc L m]? with
  | none => simpa using this
  | some v =>
    have := (List.getElem?_eq_some_iff.1 hv).1
    simp only
    split <;> omega
theorem keepN_ge (L : List Ver) (m : Int) : plc L m ≤ keepN L m := by unfold keepN; omega

theorem plc_mono {L : List Ver} {s t : Int} (h : s ≤ t) : plc L t ≤ plc L s := by
  rcases Nat.lt_or_ge (plc L s) (plc L t) with hl | hl
  · obtain ⟨v, hv, ht⟩ := plc_before hl
    have := plc_at hv
    omega
  · exact hl

theorem plc_take {L : List Ver} {t : Int} {k : Nat} (h : plc L t ≤ k) : plc (L.take k) t = plc L t := by
  refine plc_eq (fun j hj => ?_) (fun v hv => ?_)
  · obtain ⟨v, hv, ht⟩ := plc_before hj
    exact ⟨v, by rw [List.getElem?_take, if_pos (by omega)]; exact hv, ht⟩
  · rw [List.getElem?_take] at hv
    split at hv
    · exact plc_at hv
    · cases hv

theorem gone_empty {v : Ver} (hr : rightB v = true) (hd : v.d = true) : v.s = ByteArray.empty := by
  have h : v.s.toList = [] := by
    simp only [rightB, Bool.and_eq_true, Bool.or_eq_true] at hr
    simpa [hd] using hr.2
  have h2 : v.s.data.toList = [] := by
    rw [← h]
    exact (ByteArray.toList_eq _).symm
  cases hs : v.s with
  | mk a =>
    rw [hs] at h2
    obtain ⟨l⟩ := a
    simp at h2
    subst h2
    rfl

theorem vac_at {L : List Ver} (h : chainB L = true) {m t : Int} (ht : m ≤ t) : atS (vacL L m) t = atS L t ∧ atB (vacL L m) t = atB L t := by
  rw [vacL_yes h]
  have h1 : plc L t ≤ plc L m := plc_mono ht
  have h2 := keepN_ge L m
  have hc := chain_take h (keepN L m)
  have hp : plc (L.take (keepN L m)) t = plc L t := plc_take (by omega)
  rcases Nat.lt_or_ge (plc L t) (keepN L m) with hl | hl
  · have hlen : plc L t < L.length := by have := keepN_le L m; omega
    have hv := List.getElem?_eq_getElem hlen
    have hv' : (L.take (keepN L m))[plc (L.take (keepN L m)) t]? = some L[plc L t] := by rw [hp, List.getElem?_take, if_pos hl]; exact hv
    exact ⟨by rw [atS_at hc hv', atS_at h hv], by rw [atB_at hc hv', atB_at h hv]⟩
  · have he : (L.take (keepN L m)).length ≤ plc (L.take (keepN L m)) t := by rw [hp, List.length_take]; omega
    rw [atS_end he, atB_end he]
    have e1 : plc L t = plc L m := by omega
    have e2 : keepN L m = plc L m := by omega
    cases hv : L[plc L t]? with
    | none =>
      have : L.length ≤ plc L t := List.getElem?_eq_none_iff.1 hv
      rw [atS_end this, atB_end this]
      exact ⟨rfl, rfl⟩
    | some v =>
      rw [atS_at h hv, atB_at h hv]
      have hk := keepN_at (by rw [← e1]; exact hv : L[plc L m]? = some v)
      have hd : v.d = true := by
        cases hd : v.d with
        | true => rfl
        | false => rw [hd] at hk; simp at hk; omega
      exact ⟨(gone_empty (okAt_right h hv) hd).symm, by rw [hd]; rfl⟩

theorem vac_vac {L : List Ver} (h : chainB L = true) {m s : Int} (hs : s ≤ m) : vacL (vacL L m) s = vacL L m := by
  rw [vacL_yes h]
  have hc := chain_take h (keepN L m)
  rw [vacL_yes hc]
  have hlen : (L.take (keepN L m)).length = keepN L m := by rw [List.length_take]; have := keepN_le L m; omega
  refine List.take_of_length_le ?_
  rw [hlen]
  have h2 := keepN_ge L m
  have hp : plc L m ≤ plc (L.take (keepN L m)) s := by
    rw [← plc_take h2]
    exact plc_mono hs
  have hg := keepN_ge (L.take (keepN L m)) s
  cases hv : L[plc L m]? with
  | none =>
    have : keepN L m = plc L m := by simp [keepN, hv]
    omega
  | some v =>
    have hk := keepN_at hv
    cases hd : v.d with
    | true => rw [hd] at hk; simp at hk; omega
    | false =>
      rw [hd] at hk
      simp at hk
      rcases Nat.lt_or_ge (plc L m) (plc (L.take (keepN L m)) s) with hl | hl
      · omega
      · have e : plc (L.take (keepN L m)) s = plc L m := by omega
        have hv' : (L.take (keepN L m))[plc (L.take (keepN L m)) s]? = some v := by rw [e, List.getElem?_take, if_pos (by omega)]; exact hv
        have hk' := keepN_at hv'
        rw [hd] at hk'
        simp at hk'
        omega

theorem vac_chain {L : List Ver} (h : chainB L = true) (m : Int) : chainB (vacL L m) = true := by
  rw [vacL_yes h]
  exact chain_take h _
theorem vac_len {L : List Ver} (h : chainB L = true) (m : Int) : (vacL L m).length ≤ L.length := by
  rw [vacL_yes h, List.length_take]
  omega

/-! ### Add -/
theorem add_ok {L : List Ver} {v : Ver} (h : addErr L v = 0) : chainB L = true ∧ rightB v = true ∧ tooLate L v = false := by
  unfold addErr at h
  split at h
  · rename_i h1
    split at h
    · rename_i h2
      split at h
      · omega
      · rename_i h3
        exact ⟨h1, h2, by simpa using h3⟩
    · omega
  · omega
theorem add_chain {L : List Ver} {v : Ver} (h : addErr L v = 0) : chainB (v :: L) = true := by
  obtain ⟨h1, h2, h3⟩ := add_ok h
  exact chain_cons h1 h2 h3
theorem plc_cons_no {L : List Ver} {v : Ver} {t : Int} (h : v.t ≤ t) : plc (v :: L) t = 0 := plc_eq (fun j hj => absurd hj (by omega)) (fun u hu => by simp at hu; subst hu; exact h)
theorem plc_cons_yes {L : List Ver} {v : Ver} {t : Int} (h : t < v.t) : plc (v :: L) t = plc L t + 1 := by
  simp [plc, h]
theorem add_at_up {L : List Ver} {v : Ver} {t : Int} (h : addErr L v = 0) (ht : v.t ≤ t) : atS (v :: L) t = v.s ∧ atB (v :: L) t = !v.d := by
  have hc := add_chain h
  have hv : (v :: L)[plc (v :: L) t]? = some v := by rw [plc_cons_no ht]; rfl
  exact ⟨atS_at hc hv, atB_at hc hv⟩
theorem add_at_down {L : List Ver} {v : Ver} {t : Int} (h : addErr L v = 0) (ht : t < v.t) : atS (v :: L) t = atS L t ∧ atB (v :: L) t = atB L t := by
  have hc := add_chain h
  have hc' := (add_ok h).1
  have e : (v :: L)[plc (v :: L) t]? = L[plc L t]? := by rw [plc_cons_yes ht]; rfl
  unfold atS atB
  rw [hc, hc', e]
  exact ⟨rfl, rfl⟩
theorem chain_below {L : List Ver} {v : Ver} (h : chainB (v :: L) = true) {i : Nat} {u : Ver} (hu : L[i]? = some u) : u.t < v.t := by
  have := chain_lt h (i := 0) (v := v) rfl i (u := u) (by simpa using hu)
  exact this
theorem plc_zero {L : List Ver} {t : Int} (h : ∀ u, L[0]? = some u → u.t ≤ t) : plc L t = 0 := plc_eq (fun j hj => absurd hj (by omega)) h
theorem add_back {L : List Ver} {v : Ver} (h : addErr L v = 0) : rewL (v :: L) (v.t - 1) = L ∧ sinceB (v :: L) (v.t - 1) = true ∧ sinceB (v :: L) v.t = false := by
  have hc := add_chain h
  have h0 : plc L (v.t - 1) = 0 := plc_zero fun u hu => by have := chain_below hc hu; omega
  have h1 : plc (v :: L) (v.t - 1) = 1 := by rw [plc_cons_yes (by omega), h0]
  have h2 : plc (v :: L) v.t = 0 := plc_cons_no (by omega)
  refine ⟨by rw [rewL_yes hc, h1]; rfl, by simp [sinceB, hc, h1], by simp [sinceB, h2]⟩

/-! ### Rewind -/
theorem rew_chain {L : List Ver} (h : chainB L = true) (t : Int) : chainB (rewL L t) = true := by
  rw [rewL_yes h]
  exact chain_drop h _
theorem plc_drop {L : List Ver} {s t : Int} (h : t ≤ s) : plc (L.drop (plc L s)) t = plc L t - plc L s := by
  have hm : plc L s ≤ plc L t := plc_mono h
  refine plc_eq (fun j hj => ?_) (fun v hv => ?_)
  · obtain ⟨v, hv, ht⟩ := plc_before (L := L) (t := t) (j := plc L s + j) (by omega)
    exact ⟨v, by rw [List.getElem?_drop]; exact hv, ht⟩
  · rw [List.getElem?_drop, show plc L s + (plc L t - plc L s) = plc L t by omega] at hv
    exact plc_at hv
theorem rew_at {L : List Ver} (h : chainB L = true) {s t : Int} (ht : t ≤ s) : atS (rewL L s) t = atS L t ∧ atB (rewL L s) t = atB L t := by
  have hc := rew_chain h s
  have hm : plc L s ≤ plc L t := plc_mono ht
  have e : (rewL L s)[plc (rewL L s) t]? = L[plc L t]? := by
    rw [rewL_yes h, plc_drop ht, List.getElem?_drop, show plc L s + (plc L t - plc L s) = plc L t by omega]
  unfold atS atB
  rw [hc, h, e]
  exact ⟨rfl, rfl⟩
theorem rew_zero {L : List Ver} (h : chainB L = true) {s t : Int} (ht : s ≤ t) : plc (rewL L s) t = 0 := by
  rw [rewL_yes h]
  refine plc_zero fun u hu => ?_
  rw [List.getElem?_drop, Nat.add_zero] at hu
  have := plc_at hu
  omega
theorem rew_at_up {L : List Ver} (h : chainB L = true) {s t : Int} (ht : s ≤ t) : atS (rewL L s) t = atS L s ∧ atB (rewL L s) t = atB L s := by
  have hc := rew_chain h s
  have e : (rewL L s)[plc (rewL L s) t]? = L[plc L s]? := by
    rw [rew_zero h ht, rewL_yes h, List.getElem?_drop, Nat.add_zero]
  unfold atS atB
  rw [hc, h, e]
  exact ⟨rfl, rfl⟩
theorem rew_since {L : List Ver} (h : chainB L = true) (s : Int) : sinceB (rewL L s) s = false := by
  simp [sinceB, rew_zero h (Int.le_refl s)]

end Go.Proofs.Ytpfcddgknahgfaa
