/-
  The reference's Keep and Mark.
-/
import Derived.Test.YtehbdgbolbbgkaaKept
namespace Go.Proofs.Ytehbdgbolbbgkaa
open Go.RowKit

def kchk (L : List Int) (p : Pol) : Int := if polB p = true then (if riseB L = true then 0 else 4) else 2
theorem kchk_pol {L : List Int} {p : Pol} (h : polB p = false) : kchk L p = 2 := by simp [kchk, h]
theorem kchk_rise {L : List Int} {p : Pol} (h : polB p = true) (hr : riseB L = false) : kchk L p = 4 := by simp [kchk, h, hr]
theorem kchk_ok {L : List Int} {p : Pol} (h : polB p = true) (hr : riseB L = true) : kchk L p = 0 := by simp [kchk, h, hr]

/-- Of the first k times those at places that q picks. -/
def picks (L : List Int) (q : Nat → Bool) : Nat → List Int
  | 0 => []
  | k + 1 => match L[k]? with | some v => if q k = true then picks L q k ++ [v] else picks L q k | none => picks L q k
theorem picks_yes {L : List Int} {q : Nat → Bool} {k : Nat} {v : Int} (h : L[k]? = some v) (hq : q k = true) : picks L q k ++ [v] = picks L q (k + 1) := by simp [picks, h, hq]
theorem picks_no {L : List Int} {q : Nat → Bool} {k : Nat} (hq : q k = false) : picks L q (k + 1) = picks L q k := by
  cases h : L[k]? <;> simp [picks, h, hq]
theorem picks_len (L : List Int) (q : Nat → Bool) (k : Nat) : (picks L q k).length ≤ k := by
  induction k with
  | zero => simp [picks]
  | succ k ih =>
    cases h : L[k]? with
    | none => simp only [picks, h]; omega
    | some v =>
      simp only [picks, h]
      split
      · rw [List.length_append]; simp; omega
      · omega

def inL (L : List Int) (p : Pol) : List Int := if kchk L p = 0 then picks L (keptB L p) L.length else []
def outL (L : List Int) (p : Pol) : List Int := if kchk L p = 0 then picks L (fun i => !keptB L p i) L.length else []
theorem inL_no {L : List Int} {p : Pol} (h : kchk L p ≠ 0) : inL L p = [] := by simp [inL, h]
theorem outL_no {L : List Int} {p : Pol} (h : kchk L p ≠ 0) : outL L p = [] := by simp [outL, h]
theorem inL_yes {L : List Int} {p : Pol} (h : kchk L p = 0) : inL L p = picks L (keptB L p) L.length := by simp [inL, h]
theorem outL_yes {L : List Int} {p : Pol} (h : kchk L p = 0) : outL L p = picks L (fun i => !keptB L p i) L.length := by simp [outL, h]

def RetKeep (w : World) (I O : List Int) (r : Int) (e : Ending) : Prop := ∃ A n c A' n' c', e = .returned (.tuple #[.slice A n c, .slice A' n' c', .int .i64 r]) ∧ Sl w A n c I ∧ Sl w A' n' c' O

theorem kept_is {A : Option Addr} {n c : Nat} {L : List Int} {l e r : Int} {i : Nat} {w : World} {b : Bool} (hk : keptB L ⟨l, e, r⟩ i = b) (h : Sl w A n c L) (hr : riseB L = true) (hp : polB ⟨l, e, r⟩ = true) (hi : i < n) :
    Calls Try.prog 27 #[.slice A n c, .int .i64 i, .agg #[.int .i64 l, .int .i64 e, .int .i64 r]] w fun x w' => x = .returned (.bool b) ∧ Ext w w' := by
  subst hk
  exact kept_any h hr hp hi

theorem RetKeep.none_ {w : World} {L : List Int} {p : Pol} {r : Int} (h : kchk L p = r) (hr : r ≠ 0) : RetKeep w (inL L p) (outL L p) (kchk L p) (.returned (.tuple #[.slice none 0 0, .slice none 0 0, .int .i64 r])) :=
  ⟨none, 0, 0, none, 0, 0, by rw [h], by rw [inL_no (by rw [h]; exact hr)]; exact Sl.none_ _, by rw [outL_no (by rw [h]; exact hr)]; exact Sl.none_ _⟩
theorem RetKeep.mk {w : World} {L : List Int} {p : Pol} {base : Nat} {v v' : Value} {n n' : Nat} {I O : List Int} (h : kchk L p = 0) (hi : I = inL L p) (ho : O = outL L p) (h1 : Own w base v n I) (h2 : Own w base v' n' O) (hn : n ≤ 1099511627776) (hn' : n' ≤ 1099511627776) :
    RetKeep w (inL L p) (outL L p) (kchk L p) (.returned (.tuple #[v, v', .int .i64 0])) := by
  subst hi ho
  obtain ⟨A, c, rfl, hs⟩ := h1.slice hn
  obtain ⟨A', c', rfl, hs'⟩ := h2.slice hn'
  exact ⟨A, n, c, A', n', c', by rw [h], hs, hs'⟩

theorem Own.grown_other {w w' : World} {base : Nat} {v v2 : Value} {n : Nat} {K : List Int} (h : Own w base v n K) (hg : w.grownBy w' v2.ownBlock) (hne : Apart v v2) : Own w' base v n K := ⟨h.row.kept hg hne, h.ok⟩

/-- What a round's append to v leaves of v and of another row u. -/
theorem two_step {w0 wr w1 : World} {base : Nat} {v v1 u : Value} {k m : Nat} {K M K' : List Int} {x : Int} {o : Obj} (hv : Own wr base v k K) (hu : Own wr base u m M) (hap : Apart u v) (hap' : Apart v u) (hx : Below base w0 wr) (hb : base ≤ wr.heap.size)
    (hg : K ++ [x] = K') (h1 : Own w1 base v1 (k + 1) (K ++ [x])) (hgr : (wr.alloc o).grownBy w1 v.ownBlock) (hat : v1.ownBlock = v.ownBlock ∨ v1.ownBlock = some (wr.alloc o).heap.size) :
    Own w1 base v1 (k + 1) K' ∧ Own w1 base u m M ∧ Apart u v1 ∧ Apart v1 u ∧ Below base w0 w1 := by
  obtain ⟨a1, a2⟩ := hv.step2 hx hb hg h1 hgr
  refine ⟨a1, (hu.alloc o).grown_other hgr hap, ?_, ?_, a2⟩
  · unfold Apart
    rcases hat with e | e
    · rw [e]; exact hap
    · rcases hu.row.2 with ⟨rfl, _⟩ | ⟨g, cap, cur, rfl, _, hgg, _⟩
      · exact .inl rfl
      · right
        rw [e]
        intro he
        have hlt := (Array.getElem?_eq_some_iff.1 hgg).1
        simp [Value.ownBlock] at he
        omega
  · unfold Apart
    rcases hat with e | e
    · rcases hap' with h | h
      · exact .inl (by rw [e]; exact h)
      · exact .inr (by rw [e]; exact h)
    · rcases hu.row.2 with ⟨rfl, _⟩ | ⟨g, cap, cur, rfl, _, hgg, _⟩
      · right; rw [e]; simp [Value.ownBlock]
      · right
        rw [e]
        intro he
        have hlt := (Array.getElem?_eq_some_iff.1 hgg).1
        simp [Value.ownBlock] at he
        omega

set_option maxHeartbeats 800000 in
theorem refKeep_any {A : Option Addr} {n c : Nat} {L : List Int} {l e r : Int} {w : World} (h : Sl w A n c L) :
    Calls Try.prog 12 #[.slice A n c, .agg #[.int .i64 l, .int .i64 e, .int .i64 r]] w fun x w' => RetKeep w' (inL L ⟨l, e, r⟩) (outL L ⟨l, e, r⟩) (kchk L ⟨l, e, r⟩) x ∧ Ext w w' := by
  have hb := h.big
  have HL := Lib.hid h.len
  have x0 := Ext.alloc w (.cells #[.int .i64 l, .int .i64 e, .int .i64 r] 24)
  obtain ⟨g0, g1, g2⟩ := pol_new w l e r 24
  cases hp : polB ⟨l, e, r⟩ with
  | false =>
    have HP := Lib.hid hp
    have HK := Lib.hid (kchk_pol (L := L) hp)
    clear hp
    go_enter Try.func12, Try.ntmps12
    go_wp2_with fail
    refine (pright_is HP.out _).mono ?_
    rintro y w1 ⟨rfl, x1⟩
    have X := Ext.of x0 x1
    clear x0 x1
    go_wp2
    go_ret3
    exact ⟨RetKeep.none_ HK.out (by omega), X⟩
  | true =>
    have HP := Lib.hid hp
    cases hr : riseB L with
    | false =>
      have HR := Lib.hid hr
      have HK := Lib.hid (kchk_rise hp hr)
      clear hp hr
      go_enter Try.func12, Try.ntmps12
      go_wp2_with fail
      refine (pright_is HP.out _).mono ?_
      rintro y w1 ⟨rfl, x1⟩
      have X := Ext.of x0 x1
      clear x0 x1
      go_wp2_with fail
      refine (rrise_is HR.out (h.ext X)).mono ?_
      rintro y w2 ⟨rfl, x2⟩
      have X2 := Ext.of X x2
      clear X x2
      go_wp2
      go_ret3
      exact ⟨RetKeep.none_ HK.out (by omega), X2⟩
    | true =>
      have HR := Lib.hid hr
      have HK := Lib.hid (kchk_ok hp hr)
      have HI := Lib.hid (inL_yes (kchk_ok hp hr))
      have HO := Lib.hid (outL_yes (kchk_ok hp hr))
      clear hp hr
      go_enter Try.func12, Try.ntmps12
      go_wp2_with fail
      refine (pright_is HP.out _).mono ?_
      rintro y w1 ⟨rfl, x1⟩
      have X := Ext.of x0 x1
      have f0 := x1.cell g0
      have f1 := x1.cell g1
      have f2 := x1.cell g2
      clear x0 x1 g0 g1 g2
      go_wp2_with fail
      refine (rrise_is HR.out (h.ext X)).mono ?_
      rintro y w2 ⟨rfl, x2⟩
      have X2 := Ext.of X x2
      have e0 := x2.cell f0
      have e1 := x2.cell f1
      have e2 := x2.cell f2
      clear X x2 f0 f1 f2
      go_wp2
      go_loopw [7, 8, 9] (fun v u i wr => ∃ (k m q : Nat), k ≤ n ∧ i = .int .i64 k ∧ m ≤ k ∧ q ≤ k ∧ Own wr w2.heap.size v m (picks L (keptB L ⟨l, e, r⟩) k) ∧ Own wr w2.heap.size u q (picks L (fun i => !keptB L ⟨l, e, r⟩ i) k) ∧ Apart u v ∧ Apart v u ∧ Ext w2 wr) (fun _ _ i _ => n - (intOf i).toNat)
      case atStart => exact ⟨0, 0, 0, Nat.zero_le _, rfl, Nat.le_refl _, Nat.le_refl _, Own.nil_ _ _, Own.nil_ _ _, .inl rfl, .inl rfl, Below.refl _ _⟩
      case round =>
        obtain ⟨k, m, q, hk, rfl, hmk, hqk, hv, hu, hap, hap', hx⟩ := hrel
        by_cases hlt : k < n
        · obtain ⟨b, off, rfl, ha⟩ := h.at_ (by omega)
          obtain ⟨t, hg, ht⟩ := h.get hlt
          have HT : Hid (Num t) := ht
          have d0 := hx.cell e0
          have d1 := hx.cell e1
          have d2 := hx.cell e2
          have hlr := h.ext (Ext.of X2 hx)
          clear ht
          cases hkb : keptB L ⟨l, e, r⟩ k with
          | true =>
            have HB := Lib.hid hkb
            have HN := Lib.hid (picks_no (L := L) (q := fun i => !keptB L ⟨l, e, r⟩ i) (k := k) (by simp [hkb]))
            clear hkb
            go_wp2_with fail
            refine (kept_is HB.out hlr HR.out HP.out hlt).mono ?_
            rintro y w3 ⟨rfl, x3⟩
            have hx3 := Ext.of hx x3
            have hv3 := hv.later x3
            have hu3 := hu.later x3
            have hsz3 := Lib.hid hx3.size
            have c0 := (Ext.of X2 hx3).cell (ha k _ hg.out)
            clear d0 d1 d2 hlr x3 hx hv hu
            go_wp2_with (at_builtin; refine wpList_append_at rfl _ _ rfl rfl (hv3.alloc _) rfl (Sl.one _ HT.out) (by omega) (Nat.le_trans hsz3.out (by simp)) ?_; intro v4 w4 ho4 hg4 hat4)
            obtain ⟨a1, a2, a3, a4, a5⟩ := two_step hv3 hu3 hap hap' hx3 hsz3.out (picks_yes hg.out HB.out) ho4 hg4 hat4
            rw [← HN.out] at a2
            clear ho4 hg4 hat4 hv3 hu3 hap hap' hx3 c0
            go_roundw
            case rel => exact ⟨k + 1, m + 1, q, by omega, by go_num, by omega, by omega, a1, a2, a3, a4, a5⟩
            case measure => simp [intOf]; omega
          | false =>
            have HB := Lib.hid hkb
            have HN := Lib.hid (picks_no (L := L) hkb)
            have HY : Hid ((fun i => !keptB L ⟨l, e, r⟩ i) k = true) := by show _ = _; simp [hkb]
            clear hkb
            go_wp2_with fail
            refine (kept_is HB.out hlr HR.out HP.out hlt).mono ?_
            rintro y w3 ⟨rfl, x3⟩
            have hx3 := Ext.of hx x3
            have hv3 := hv.later x3
            have hu3 := hu.later x3
            have hsz3 := Lib.hid hx3.size
            have c0 := (Ext.of X2 hx3).cell (ha k _ hg.out)
            clear d0 d1 d2 hlr x3 hx hv hu
            go_wp2_with (at_builtin; refine wpList_append_at rfl _ _ rfl rfl (hu3.alloc _) rfl (Sl.one _ HT.out) (by omega) (Nat.le_trans hsz3.out (by simp)) ?_; intro v4 w4 ho4 hg4 hat4)
            obtain ⟨a1, a2, a3, a4, a5⟩ := two_step hu3 hv3 hap' hap hx3 hsz3.out (picks_yes hg.out HY.out) ho4 hg4 hat4
            rw [← HN.out] at a2
            clear ho4 hg4 hat4 hv3 hu3 hap hap' hx3 c0
            go_roundw
            case rel => exact ⟨k + 1, m, q + 1, by omega, by go_num, by omega, by omega, a2, a1, a4, a3, a5⟩
            case measure => simp [intOf]; omega
        · have HE := Lib.hid (show k = n by omega)
          have X3 := Ext.of X2 hx
          go_wp2
          go_ret3
          exact ⟨RetKeep.mk HK.out (by rw [HI.out, HE.out, HL.out]) (by rw [HO.out, HE.out, HL.out]) hv hu (by omega) (by omega), X3⟩

end Go.Proofs.Ytehbdgbolbbgkaa
