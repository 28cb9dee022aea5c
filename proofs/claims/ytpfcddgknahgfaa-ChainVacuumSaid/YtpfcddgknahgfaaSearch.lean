/-
  sort.Search over the closure of chain.place; chain.place.
-/
import Derived.Test.YtpfcddgknahgfaaMem
namespace Go.Proofs.Ytpfcddgknahgfaa
open Go.RowKit

/-- The closure: is the version at i not above t? -/
theorem place1_is {b off n c : Nat} {L : List Ver} {t : Int} {p q : Nat} {w : World} (hl : L.length = n) (_hc : n ≤ 46912496118442) (ha : Arr w b off L) (hp : w.cell? ⟨p, 0, none⟩ = some (.slice (some ⟨b, off, none⟩) n c)) (hq : w.cell? ⟨q, 0, none⟩ = some (.int .i64 t))
    {i : Nat} (hi : i < n) {r : Bool} (hr : (match L[i]? with | some v => decide (v.t ≤ t) | none => false) = r) :
    Calls Try.prog 31 #[.int .i64 i, .pointer (some ⟨p, 0, none⟩), .pointer (some ⟨q, 0, none⟩)] w fun e w' => e = .returned (.bool r) ∧ Ext w w' := by
  obtain ⟨v, hv⟩ : ∃ v, L[i]? = some v := ⟨_, List.getElem?_eq_getElem (by omega)⟩
  rw [hv] at hr
  obtain ⟨c0, c1, c2⟩ := (ha i v hv).later
  have hp' := Later.cell hp
  have hq' := Later.cell hq
  have HR := Lib.hid hr
  have HL := Lib.hid hl
  clear hv hr hl
  go_enter Try.func31, Try.ntmps31
  go_wp2
  refine wp_region_later (by kernel_rfl) (by kernel_rfl) ?_
  repeat (go_big_quiet_step (fail))
  refine wpQuiet_nil ?_
  intro w1 hw1
  go_wp2
  go_ret
  exact ⟨ret_bool HR.out, hw1⟩

def FoundAt (n : Nat) (p : Nat → Bool) (e : Ending) : Prop := ∃ i : Nat, e = .returned (.int .i64 i) ∧ i ≤ n ∧ (∀ j, j < i → p j = false) ∧ (∀ j, i ≤ j → j < n → p j = true)

theorem search_any (n : Nat) (p : Nat → Bool) (c1 c2 : Value) (w : World) (hn : n ≤ 46912496118442)
    (hf : ∀ i, i < n → ∀ w', Ext w w' → Calls Try.prog 31 #[.int .i64 i, c1, c2] w' fun e w'' => e = .returned (.bool (p i)) ∧ Ext w' w'')
    (hm : ∀ i j, i ≤ j → j < n → p i = true → p j = true) :
    Calls Try.prog 30 #[.int .i64 n, .func (.func 31) #[] #[c1, c2]] w fun e w' => FoundAt n p e ∧ Ext w w' := by
  have HF := Lib.hid hf
  have HM := Lib.hid hm
  clear hf hm
  go_enter Try.func30, Try.ntmps30
  go_wp2
  go_loopw [5, 6] (fun x y wr => ∃ i j : Nat, i ≤ j ∧ j ≤ n ∧ x = .int .i64 i ∧ y = .int .i64 j ∧ Hid (∀ k, k < i → p k = false) ∧ Hid (∀ k, j ≤ k → k < n → p k = true) ∧ Ext w wr) (fun x y _ => (intOf y).toNat - (intOf x).toNat)
  case atStart => exact ⟨0, n, by omega, by omega, rfl, rfl, (fun k hk => absurd hk (by omega)), (fun k hk hk' => absurd hk' (by omega)), Below.refl _ _⟩
  case round =>
    obtain ⟨i, j, hij, hjn, rfl, rfl, h1, h2, hx⟩ := hrel
    by_cases hlt : i < j
    · go_wp2_with fail
      rw [show ((i : Int) + (j : Int)) / 2 = (((i + j) / 2 : Nat) : Int) from by omega]
      have hm1 : i ≤ (i + j) / 2 := by omega
      have hm2 : (i + j) / 2 < j := by omega
      generalize (i + j) / 2 = m at *
      by_cases hp : p m = true
      · have HP := Lib.hid hp
        clear hp
        refine (HF.out m (by omega) _ hx).mono ?_
        rintro e w1 ⟨rfl, hx1⟩
        rw [HP.out]
        go_wp2
        go_roundw
        case rel => exact ⟨i, m, by omega, by omega, rfl, by go_num, h1, (fun k hk hk' => HM.out m k hk hk' HP.out), Ext.of hx hx1⟩
        case measure => simp [intOf]; omega
      · have HP := Lib.hid (Bool.eq_false_iff.2 hp)
        clear hp
        refine (HF.out m (by omega) _ hx).mono ?_
        rintro e w1 ⟨rfl, hx1⟩
        rw [HP.out]
        go_wp2
        go_roundw
        case rel =>
          refine ⟨m + 1, j, by omega, by omega, by go_num, rfl, (fun k hk => ?_), h2, Ext.of hx hx1⟩
          cases hk' : p k with
          | false => rfl
          | true => exact absurd (HM.out k m (by omega) (by omega) hk') (by rw [HP.out]; decide)
        case measure => simp [intOf]; omega
    · obtain rfl : i = j := by omega
      go_wp2
      go_ret
      exact ⟨⟨i, rfl, hjn, h1.out, h2.out⟩, hx⟩

/-- How many versions lie ahead of time t. -/
def plc (L : List Ver) (t : Int) : Nat := (L.takeWhile fun v => decide (t < v.t)).length

theorem plc_le (L : List Ver) (t : Int) : plc L t ≤ L.length := by
  unfold plc
  exact (List.takeWhile_prefix _).length_le
theorem plc_before {L : List Ver} {t : Int} {j : Nat} (h : j < plc L t) : ∃ v, L[j]? = some v ∧ t < v.t := by
  unfold plc at h
  have h1 := List.getElem_mem h
  have h2 := List.all_takeWhile (p := fun v : Ver => decide (t < v.t)) (l := L)
  rw [List.all_eq_true] at h2
  have h3 := h2 _ h1
  refine ⟨_, ?_, by simpa using h3⟩
  have := (List.takeWhile_prefix (fun v : Ver => decide (t < v.t)) (l := L)).getElem h
  rw [this]
  exact List.getElem?_eq_getElem _
theorem plc_at {L : List Ver} {t : Int} {v : Ver} (h : L[plc L t]? = some v) : v.t ≤ t := by
  induction L with
  | nil => simp at h
  | cons a l ih =>
    by_cases ha : t < a.t
    · have e : plc (a :: l) t = plc l t + 1 := by simp [plc, ha]
      rw [e] at h
      exact ih (by simpa using h)
    · have e : plc (a :: l) t = 0 := by simp [plc, ha]
      rw [e] at h
      simp at h
      subst h
      omega

theorem ok_right {L : List Ver} {i : Nat} {v : Ver} (h : okAt L i = true) (hv : L[i]? = some v) : rightB v = true := by
  unfold okAt at h
  rw [hv] at h
  simp only [Bool.and_eq_true] at h
  exact h.1
theorem chainB_at {L : List Ver} (h : chainB L = true) {i : Nat} (hi : i < L.length) : okAt L i = true := by
  unfold chainB at h
  rw [List.all_eq_true] at h
  exact h i (by simpa using hi)
theorem chain_lt {L : List Ver} (h : chainB L = true) {i : Nat} {v : Ver} (hv : L[i]? = some v) : ∀ (k : Nat) {u : Ver}, L[i + k + 1]? = some u → u.t < v.t := by
  intro k
  induction k with
  | zero =>
    intro u hu
    have := chainB_at h (i := i + 1) (List.getElem?_eq_some_iff.1 hu).1
    rw [okAt_succ hu hv] at this
    simp at this
    exact this.2
  | succ k ih =>
    intro u hu
    have hl : i + k + 1 < L.length := by have := (List.getElem?_eq_some_iff.1 hu).1; omega
    have hx := ih (List.getElem?_eq_getElem hl)
    have := chainB_at h (i := i + (k + 1) + 1) (List.getElem?_eq_some_iff.1 hu).1
    rw [okAt_succ (k := i + (k + 1)) hu (List.getElem?_eq_getElem hl)] at this
    simp at this
    omega
theorem plc_after {L : List Ver} (h : chainB L = true) {t : Int} {j : Nat} {v : Ver} (hj : plc L t ≤ j) (hv : L[j]? = some v) : v.t ≤ t := by
  rcases Nat.lt_or_ge (plc L t) j with hl | hl
  · obtain ⟨k, rfl⟩ : ∃ k, j = plc L t + k + 1 := ⟨j - plc L t - 1, by omega⟩
    have h1 : plc L t < L.length := by have := (List.getElem?_eq_some_iff.1 hv).1; omega
    have h2 := plc_at (List.getElem?_eq_getElem h1)
    have h3 := chain_lt h (List.getElem?_eq_getElem h1) k hv
    omega
  · obtain rfl : plc L t = j := by omega
    exact plc_at hv

def notAbove (L : List Ver) (t : Int) (i : Nat) : Bool := match L[i]? with | some v => decide (v.t ≤ t) | none => false

theorem found_plc {L : List Ver} {t : Int} {i : Nat} (h1 : i ≤ L.length) (h2 : ∀ j, j < i → notAbove L t j = false) (h3 : ∀ j, i ≤ j → j < L.length → notAbove L t j = true) : i = plc L t := by
  rcases Nat.lt_trichotomy i (plc L t) with hl | hl | hl
  · obtain ⟨v, hv, ht⟩ := plc_before hl
    have := h3 i (Nat.le_refl _) (by have := plc_le L t; omega)
    simp [notAbove, hv] at this
    omega
  · exact hl
  · have := h2 _ hl
    have hlt : plc L t < L.length := by omega
    have h4 := plc_at (List.getElem?_eq_getElem hlt)
    simp [notAbove, List.getElem?_eq_getElem hlt] at this
    omega

theorem notAbove_mono {L : List Ver} (h : chainB L = true) (t : Int) : ∀ i j, i ≤ j → j < L.length → notAbove L t i = true → notAbove L t j = true := by
  intro i j hij hj hi
  have hv := List.getElem?_eq_getElem hj
  have hu := List.getElem?_eq_getElem (show i < L.length by omega)
  simp only [notAbove, hv, hu] at hi ⊢
  simp only [decide_eq_true_eq] at hi ⊢
  rcases Nat.lt_or_ge i j with hl | hl
  · obtain ⟨k, rfl⟩ : ∃ k, j = i + k + 1 := ⟨j - i - 1, by omega⟩
    have := chain_lt h hu k hv
    omega
  · obtain rfl : i = j := by omega
    exact hi

theorem cell_new (w : World) (v : Value) (ty : TypeId) : (w.alloc (.cells #[v] ty)).cell? ⟨w.heap.size, 0, none⟩ = some v := by simp [World.cell?_alloc_at]

theorem place_any {A : Option Addr} {n c : Nat} {L : List Ver} {t : Int} {w : World} (h : Sl w A n c L) (hc : chainB L = true) :
    Calls Try.prog 24 #[.slice A n c, .int .i64 t] w fun e w' => e = .returned (.int .i64 (plc L t)) ∧ Ext w w' := by
  have HC := Lib.hid hc
  clear hc
  have hn := h.cap
  have hb := h.big
  have x1 := Ext.alloc w (.cells #[.slice A n c] 22)
  have x2 := Ext.alloc (w.alloc (.cells #[.slice A n c] 22)) (.cells #[.int .i64 t] 3)
  have hp := x2.cell (cell_new w (.slice A n c) 22)
  have hq := cell_new (w.alloc (.cells #[.slice A n c] 22)) (.int .i64 t) 3
  have hs := (h.ext x1).ext x2
  have x12 := Ext.of x1 x2
  have eq1 : (w.alloc (.cells #[.slice A n c] 22)).heap.size = w.heap.size + 1 := by simp
  rw [eq1] at hq
  have HE := Lib.hid eq1
  clear x1 x2 eq1
  go_enter Try.func24, Try.ntmps24
  go_wp2_with fail
  refine (search_any n (notAbove L t) _ _ _ (by omega) ?_ ?_).mono ?_
  · intro i hi w' hx
    obtain ⟨b, off, rfl, ha⟩ := hs.at_ (by omega)
    exact place1_is h.len (by omega) (ha.ext hx) (hx.cell hp) (hx.cell hq) hi rfl
  · intro i j hij hj
    exact notAbove_mono HC.out t i j hij (by rw [h.len]; exact hj)
  · rintro e w1 ⟨⟨i, rfl, h1, h2, h3⟩, hx⟩
    have e1 := found_plc (by rw [h.len]; exact h1) h2 (by rw [h.len]; exact h3)
    subst e1
    have hx' := Ext.of x12 hx
    clear h2 h3
    go_wp2
    go_ret
    exact ⟨rfl, hx'⟩

end Go.Proofs.Ytpfcddgknahgfaa
