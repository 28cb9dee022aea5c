/-
  slices.BinarySearch over numbers that rise; the closure of Next; slices.IndexFunc.
-/
import Derived.Test.YtehbdgbolbbgkaaPlain
namespace Go.Proofs.Ytehbdgbolbbgkaa
open Go.RowKit

theorem isNaN33 (x : Int) (w : World) : Calls Try.prog 33 #[.int .i64 x] w fun e w' => e = .returned (.bool false) ∧ w' = w := by
  go_enter Try.func33, Try.ntmps33
  go_wp2
  go_ret
  simp
theorem isNaN30 (x : Int) (w : World) : Calls Try.prog 30 #[.int .i64 x] w fun e w' => e = .returned (.bool false) ∧ w' = w := by
  go_enter Try.func30, Try.ntmps30
  go_wp2
  go_ret
  simp

theorem less_any (x y : Int) (w : World) : Calls Try.prog 29 #[.int .i64 x, .int .i64 y] w fun e w' => e = .returned (.bool (decide (x < y))) ∧ Ext w w' := by
  go_enter Try.func29, Try.ntmps29
  go_wp2_with fail
  refine (isNaN33 x _).mono ?_
  rintro e w1 ⟨rfl, rfl⟩
  go_wp2
  go_ret
  exact ⟨rfl, Below.refl _ _⟩

theorem less_is {x y : Int} {b : Bool} (hb : decide (x < y) = b) (w : World) : Calls Try.prog 29 #[.int .i64 x, .int .i64 y] w fun e w' => e = .returned (.bool b) ∧ Ext w w' := by
  subst hb
  exact less_any x y w

theorem ret_found {i j : Int} {a b : Bool} (h1 : i = j) (h2 : a = b) : Ending.returned (.tuple #[.int .i64 i, .bool a]) = .returned (.tuple #[.int .i64 j, .bool b]) := by rw [h1, h2]

def hasB (L : List Int) (x : Int) : Bool := L.contains x
def Found (L : List Int) (x : Int) (e : Ending) : Prop := ∃ i : Nat, e = .returned (.tuple #[.int .i64 i, .bool (hasB L x)])

theorem found_at {L : List Int} {x : Int} {i : Nat} (h : L[i]? = some x) : hasB L x = true := by unfold hasB; simpa using List.mem_of_getElem? h
theorem found_not {L : List Int} {x : Int} {i : Nat} (h1 : ∀ k v, k < i → L[k]? = some v → v < x) (h2 : ∀ k v, i ≤ k → L[k]? = some v → x < v) : hasB L x = false := by
  refine Bool.eq_false_iff.2 fun hc => ?_
  have hc' : x ∈ L := by unfold hasB at hc; simpa using hc
  obtain ⟨k, hk⟩ := List.getElem?_of_mem hc'
  rcases Nat.lt_or_ge k i with hl | hl
  · have := h1 k x hl hk; omega
  · have := h2 k x hl hk; omega

set_option maxHeartbeats 1000000 in
theorem bsearch_any {A : Option Addr} {n c : Nat} {L : List Int} {x : Int} {w : World} (h : Sl w A n c L) (hu : Ups L) :
    Calls Try.prog 22 #[.slice A n c, .int .i64 x] w fun e w' => Found L x e ∧ Ext w w' := by
  have hb := h.big
  have HU := Lib.hid hu
  have HL := Lib.hid h.len
  clear hu
  go_enter Try.func22, Try.ntmps22
  go_wp2
  go_loopw [7, 8] (fun a b wr => ∃ i j : Nat, i ≤ j ∧ j ≤ n ∧ a = .int .i64 i ∧ b = .int .i64 j ∧ Hid (∀ k v, k < i → L[k]? = some v → v < x) ∧ Hid (∀ k v, j ≤ k → L[k]? = some v → x ≤ v) ∧ Ext w wr) (fun a b _ => (intOf b).toNat - (intOf a).toNat)
  case atStart => exact ⟨0, n, by omega, by omega, rfl, rfl, (fun k v hk => absurd hk (by omega)), (fun k v hk hv => by have := (List.getElem?_eq_some_iff.1 hv).1; have := HL.out; omega), Below.refl _ _⟩
  case round =>
    obtain ⟨i, j, hij, hjn, rfl, rfl, h1, h2, hx⟩ := hrel
    by_cases hlt : i < j
    · obtain ⟨b, off, rfl, ha⟩ := h.at_ (by omega)
      obtain ⟨v, hv, hv1, hv2⟩ := h.get (k := (i + j) / 2) (by omega)
      have c0 := hx.cell (ha _ _ hv.out)
      have hq : ((i : Int) + (j : Int)) / 2 = (((i + j) / 2 : Nat) : Int) := by omega
      have hm1 : i ≤ (i + j) / 2 := by omega
      have hm2 : (i + j) / 2 < j := by omega
      generalize (i + j) / 2 = m at *
      cases hp : decide (v < x) with
      | true =>
        have HP := Lib.hid hp
        have hvx : v < x := by simpa using hp
        have HV := Lib.hid hvx
        clear hp hvx
        go_wp2_with fail
        refine (less_is HP.out _).mono ?_
        rintro e w1 ⟨rfl, hx1⟩
        have hx2 := Ext.of hx hx1
        clear c0 hx hx1
        go_wp2
        go_roundw
        case rel =>
          refine ⟨m + 1, j, by omega, by omega, by go_num, rfl, (fun k u hk hu => ?_), h2, hx2⟩
          rcases Nat.lt_or_ge k m with hl | hl
          · have := HU.out k m u v hl hu hv.out
            have := HV.out
            omega
          · obtain rfl : k = m := by omega
            have e1 := hv.out.symm.trans hu
            injection e1 with e1
            have := HV.out
            omega
        case measure => simp [intOf]; omega
      | false =>
        have HP := Lib.hid hp
        have hvx : x ≤ v := by simpa using hp
        have HV := Lib.hid hvx
        clear hp hvx
        go_wp2_with fail
        refine (less_is HP.out _).mono ?_
        rintro e w1 ⟨rfl, hx1⟩
        have hx2 := Ext.of hx hx1
        clear c0 hx hx1
        go_wp2
        go_roundw
        case rel =>
          refine ⟨i, m, by omega, by omega, rfl, by go_num, h1, (fun k u hk hu => ?_), hx2⟩
          rcases Nat.lt_or_ge m k with hl | hl
          · have := HU.out m k v u hl hv.out hu
            have := HV.out
            omega
          · obtain rfl : k = m := by omega
            have e1 := hv.out.symm.trans hu
            injection e1 with e1
            have := HV.out
            omega
        case measure => simp [intOf]; omega
    · obtain rfl : i = j := by omega
      by_cases hin : i < n
      · obtain ⟨b, off, rfl, ha⟩ := h.at_ (by omega)
        obtain ⟨v, hv, hv1, hv2⟩ := h.get hin
        have c0 := hx.cell (ha _ _ hv.out)
        by_cases hvx : v = x
        · subst hvx
          have HF := Lib.hid (found_at hv.out)
          go_wp2
          go_ret2
          exact ⟨⟨i, ret_found rfl HF.out.symm⟩, hx⟩
        · have hb' : (v == x) = false := by simpa using hvx
          have HF := Lib.hid (found_not h1.out (fun k u hk hu => by
            have e2 := h2.out k u hk hu
            rcases Nat.lt_or_ge i k with hl | hl
            · have := HU.out i k v u hl hv.out hu
              have := h2.out i v (Nat.le_refl _) hv.out
              omega
            · obtain rfl : i = k := by omega
              have e1 := hv.out.symm.trans hu
              injection e1 with e1
              omega))
          clear hvx
          go_wp2_with fail
          refine (isNaN30 v _).mono ?_
          rintro e w1 ⟨rfl, rfl⟩
          go_wp2
          go_ret2
          exact ⟨⟨i, ret_found rfl HF.out.symm⟩, hx⟩
      · have HF := Lib.hid (found_not h1.out (fun k u hk hu => by
            have := (List.getElem?_eq_some_iff.1 hu).1
            have := HL.out
            omega))
        go_wp2
        go_ret2
        exact ⟨⟨i, ret_found rfl HF.out.symm⟩, hx⟩

/-- The closure of Next: is a number among those in the box? -/
theorem next1_is {A : Option Addr} {n c : Nat} {L : List Int} {x : Int} {p : Nat} {w : World} (h : Sl w A n c L) (hu : Ups L) (hp : w.cell? ⟨p, 0, none⟩ = some (.slice A n c)) :
    Calls Try.prog 21 #[.int .i64 x, .pointer (some ⟨p, 0, none⟩)] w fun e w' => e = .returned (.bool (hasB L x)) ∧ Ext w w' := by
  go_enter Try.func21, Try.ntmps21
  go_wp2_with fail
  refine (bsearch_any h hu).mono ?_
  rintro e w1 ⟨⟨i, rfl⟩, hx⟩
  go_wp2
  go_ret
  exact ⟨rfl, hx⟩


/-- slices.IndexFunc over the closure: the first place at which it says yes, or -1. -/
def idxOf (p : Int → Bool) : List Int → Nat → Int
  | [], _ => -1
  | a :: l, k => if p a = true then k else idxOf p l (k + 1)
theorem idxOf_hit {p : Int → Bool} {L : List Int} {i : Nat} {v : Int} (hv : L[i]? = some v) (hp : p v = true) (h : ∀ (k : Nat) u, k < i → L[k]? = some u → p u = false) (m : Nat) : idxOf p L m = (m + i : Nat) := by
  induction L generalizing i m with
  | nil => simp at hv
  | cons a l ih =>
    rcases i with _ | i
    · simp at hv
      subst hv
      simp [idxOf, hp]
    · have h0 := h 0 a (by omega) (by simp)
      simp only [idxOf, h0]
      rw [if_neg (by decide), ih (by simpa using hv) (fun k u hk hu => h (k + 1) u (by omega) (by simpa using hu))]
      congr 1
      omega
theorem idxOf_miss {p : Int → Bool} {L : List Int} (h : ∀ (k : Nat) u, L[k]? = some u → p u = false) (m : Nat) : idxOf p L m = -1 := by
  induction L generalizing m with
  | nil => rfl
  | cons a l ih =>
    have h0 := h 0 a (by simp)
    simp only [idxOf, h0]
    rw [if_neg (by decide)]
    exact ih (fun k u hu => h (k + 1) u (by simpa using hu)) _

set_option maxHeartbeats 1000000 in
theorem index_any {A : Option Addr} {n c : Nat} {L : List Int} {p : Int → Bool} {g : Value} {w : World} (h : Sl w A n c L)
    (hf : ∀ x w', Ext w w' → Calls Try.prog 21 #[.int .i64 x, g] w' fun e w'' => e = .returned (.bool (p x)) ∧ Ext w' w'') :
    Calls Try.prog 31 #[.slice A n c, .func (.func 21) #[] #[g]] w fun e w' => e = .returned (.int .i64 (idxOf p L 0)) ∧ Ext w w' := by
  have hb := h.big
  have HL := Lib.hid h.len
  have HF := Lib.hid hf
  clear hf
  go_enter Try.func31, Try.ntmps31
  go_wp2
  go_loopw [8] (fun a wr => ∃ i : Nat, i ≤ n ∧ a = .int .i64 i ∧ Hid (∀ k v, k < i → L[k]? = some v → p v = false) ∧ Ext w wr) (fun a _ => n - (intOf a).toNat)
  case atStart => exact ⟨0, by omega, rfl, (fun k v hk => absurd hk (by omega)), Below.refl _ _⟩
  case round =>
    obtain ⟨i, hin, rfl, h1, hx⟩ := hrel
    by_cases hlt : i < n
    · obtain ⟨b, off, rfl, ha⟩ := h.at_ (by omega)
      obtain ⟨v, hv, hv1, hv2⟩ := h.get hlt
      have c0 := hx.cell (ha _ _ hv.out)
      cases hp : p v with
      | true =>
        have HP := Lib.hid hp
        have HI := Lib.hid (idxOf_hit hv.out hp h1.out 0)
        rw [Nat.zero_add] at HI
        clear hp
        go_wp2_with fail
        refine (HF.out v _ hx).mono ?_
        rintro e w1 ⟨rfl, hx1⟩
        rw [HP.out]
        have hx2 := Ext.of hx hx1
        clear c0 hx hx1
        go_wp2
        go_ret
        exact ⟨ret_int HI.out.symm, hx2⟩
      | false =>
        have HP := Lib.hid hp
        clear hp
        go_wp2_with fail
        refine (HF.out v _ hx).mono ?_
        rintro e w1 ⟨rfl, hx1⟩
        rw [HP.out]
        have hx2 := Ext.of hx hx1
        clear c0 hx hx1
        go_wp2
        go_roundw
        case rel =>
          refine ⟨i + 1, by omega, by go_num, (fun k u hk hu => ?_), hx2⟩
          rcases Nat.lt_or_ge k i with hl | hl
          · exact h1.out k u hl hu
          · obtain rfl : k = i := by omega
            have e1 := hv.out.symm.trans hu
            injection e1 with e1
            rw [← e1]
            exact HP.out
        case measure => simp [intOf]; omega
    · have HI := Lib.hid (idxOf_miss (p := p) (L := L) (fun k u hu => h1.out k u (by have := (List.getElem?_eq_some_iff.1 hu).1; have := HL.out; omega) hu) 0)
      go_wp2
      go_ret
      exact ⟨ret_int HI.out.symm, hx⟩

end Go.Proofs.Ytehbdgbolbbgkaa
