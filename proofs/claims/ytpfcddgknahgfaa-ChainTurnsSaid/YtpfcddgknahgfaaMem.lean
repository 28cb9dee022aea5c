/-
  Slices of versions in memory, as lists; what a chain is, place by place.
-/
import Derived.Test.YtpfcddgknahgfaaRight
namespace Go.Proofs.Ytpfcddgknahgfaa
open Go.RowKit

def VAt (w : World) (b off : Nat) (v : Ver) : Prop :=
  w.cell? ⟨b, off, none⟩ = some (.int .i64 v.t) ∧ w.cell? ⟨b, off + 1, none⟩ = some (.string v.s) ∧ w.cell? ⟨b, off + 2, none⟩ = some (.bool v.d)

def Ver.ok (v : Ver) : Prop := v.s.size ≤ 9223372036854775807 ∧ -9223372036854775808 ≤ v.t ∧ v.t ≤ 9223372036854775807

/-- The row from this cell on reads as L. -/
def Arr (w : World) (b off : Nat) (L : List Ver) : Prop := ∀ (i : Nat) (v : Ver), L[i]? = some v → VAt w b (off + i * 3) v

/-- The slice with this address, length and capacity reads as L. -/
structure Sl (w : World) (A : Option Addr) (n c : Nat) (L : List Ver) : Prop where
  len : L.length = n
  cap : n ≤ c
  big : n ≤ 1099511627776
  wide : c ≤ maxLen
  nil : A = none → n = 0 ∧ c = 0
  ok : ∀ v ∈ L, v.ok
  at_ : 0 < n → ∃ b off, A = some ⟨b, off, none⟩ ∧ Arr w b off L

theorem VAt.ext {w w' : World} {b off : Nat} {v : Ver} (h : VAt w b off v) (hx : Ext w w') : VAt w' b off v :=
  ⟨hx.cell h.1, hx.cell h.2.1, hx.cell h.2.2⟩
theorem Arr.ext {w w' : World} {b off : Nat} {L : List Ver} (h : Arr w b off L) (hx : Ext w w') : Arr w' b off L := fun i v hi => (h i v hi).ext hx

theorem Sl.ext {w w' : World} {A : Option Addr} {n c : Nat} {L : List Ver} (h : Sl w A n c L) (hx : Ext w w') : Sl w' A n c L :=
  ⟨h.len, h.cap, h.big, h.wide, h.nil, h.ok, fun hn => by obtain ⟨b, off, e, hv⟩ := h.at_ hn; exact ⟨b, off, e, hv.ext hx⟩⟩

theorem Sl.get {w : World} {A : Option Addr} {n c : Nat} {L : List Ver} (h : Sl w A n c L) {k : Nat} (hk : k < n) :
    ∃ t s d, Hid (L[k]? = some ⟨t, s, d⟩) ∧ s.size ≤ 9223372036854775807 ∧ -9223372036854775808 ≤ t ∧ t ≤ 9223372036854775807 := by
  have hl : k < L.length := by rw [h.len]; exact hk
  exact ⟨L[k].t, L[k].s, L[k].d, List.getElem?_eq_getElem hl, h.ok _ (List.getElem_mem hl)⟩

def okAt (L : List Ver) (i : Nat) : Bool :=
  match L[i]? with
  | none => false
  | some v => rightB v && (i == 0 || match L[i - 1]? with | none => false | some u => decide (v.t < u.t))

def chainB (L : List Ver) : Bool := (List.range L.length).all (okAt L)
def chk (L : List Ver) : Int := if chainB L = true then 0 else 4

theorem okAt_zero {L : List Ver} {v : Ver} (h : L[0]? = some v) : okAt L 0 = rightB v := by simp [okAt, h]
theorem okAt_succ {L : List Ver} {k : Nat} {v u : Ver} (h : L[k + 1]? = some v) (g : L[k]? = some u) : okAt L (k + 1) = (rightB v && decide (v.t < u.t)) := by simp [okAt, h, g]
theorem okAt_wrong {L : List Ver} {k : Nat} {v : Ver} (h : L[k]? = some v) (hr : rightB v = false) : okAt L k = false := by simp [okAt, h, hr]
theorem ok_step {L : List Ver} {k : Nat} (h : Hid (∀ j, j < k → okAt L j = true)) (hk : okAt L k = true) : Hid (∀ j, j < k + 1 → okAt L j = true) := fun j hj => by
  by_cases e : j = k
  · rw [e]; exact hk
  · exact h.out j (by omega)
theorem chainB_of {L : List Ver} {n : Nat} (hn : L.length = n) (h : ∀ j, j < n → okAt L j = true) : chainB L = true := by
  subst hn
  simpa [chainB] using h
theorem chainB_not {L : List Ver} {n k : Nat} (hn : L.length = n) (hk : k < n) (h : okAt L k = false) : chainB L = false := by
  subst hn
  unfold chainB
  rw [List.all_eq_false]
  exact ⟨k, by simpa using hk, by simp [h]⟩
theorem chk_yes {L : List Ver} (h : chainB L = true) : chk L = 0 := by simp [chk, h]
theorem chk_no {L : List Ver} (h : chainB L = false) : chk L = 4 := by simp [chk, h]

theorem VAt.later {w : World} {b off : Nat} {v : Ver} (h : VAt w b off v) :
    (∀ x : Later w, x.world.cell? ⟨b, off, none⟩ = some (.int .i64 v.t)) ∧ (∀ x : Later w, x.world.cell? ⟨b, off + 1, none⟩ = some (.string v.s)) ∧ (∀ x : Later w, x.world.cell? ⟨b, off + 2, none⟩ = some (.bool v.d)) :=
  ⟨Later.cell h.1, Later.cell h.2.1, Later.cell h.2.2⟩

theorem VAt.new (w : World) (t : Int) (s : ByteArray) (d : Bool) (ty : TypeId) : VAt (w.alloc (.cells #[.int .i64 t, .string s, .bool d] ty)) w.heap.size 0 ⟨t, s, d⟩ := by
  refine ⟨?_, ?_, ?_⟩ <;> simp [World.cell?_alloc_at]

theorem Ext.alloc (w : World) (o : Obj) : Ext w (w.alloc o) := (Below.refl _ _).alloc (Nat.le_refl _) o

end Go.Proofs.Ytpfcddgknahgfaa
