/-
  The document's examples, as the statements ask them.
-/
import Derived.Test.YtehbdgbolbbgkaaNext
namespace Go.Proofs.Ytehbdgbolbbgkaa
open Go.RowKit

theorem Sl.lit (w : World) (L : List Int) (hok : ∀ x ∈ L, Num x) (hl : L.length ≤ 1000) (h0 : 0 < L.length) : Sl (w.alloc (.cells (cellsOf L).toArray 3)) (some ⟨w.heap.size, 0, none⟩) L.length L.length L := by
  refine ⟨rfl, Nat.le_refl _, by omega, by unfold maxLen; omega, fun h => (by cases h), hok, fun _ => ⟨w.heap.size, 0, rfl, fun i x hx => ?_⟩⟩
  have h1 := cellsOf_at hx
  rw [Nat.zero_add]
  simp [World.cell?_alloc_at, h1]

def exL : List Int := [3, 5, 12, 14, 27, 31, 33]
def exP : Pol := ⟨2, 10, 2⟩
theorem exK : keepL exL exP = [12, 27, 31, 33] := by decide +kernel
theorem exO : outL exL exP = [3, 5, 14] := by decide +kernel
theorem exH : headOf (keepL exL exP) = 12 := by decide +kernel
theorem exC : kchk exL exP = 0 := by decide +kernel
theorem exZ : pchk ⟨0, 0, 0⟩ = 2 := by decide +kernel

theorem num_small {L : List Int} (h : (L.all fun x => decide (-1000 ≤ x) && decide (x ≤ 1000)) = true) : ∀ x ∈ L, Num x := by
  intro x hx
  rw [List.all_eq_true] at h
  have := h x hx
  simp at this
  unfold Num
  omega

theorem keep_is {A : Option Addr} {n c : Nat} {L : List Int} {l e r : Int} {w : World} {K : List Int} {z : Int} (h : Sl w A n c L) (hK : keepL L ⟨l, e, r⟩ = K) (hz : kchk L ⟨l, e, r⟩ = z) :
    Calls Try.prog 9 #[.slice A n c, .agg #[.int .i64 l, .int .i64 e, .int .i64 r]] w fun x w' => RetK w' w.heap.size n K z x ∧ Ext w w' := by
  subst hK hz
  exact keep_any h
theorem mark_is {A : Option Addr} {n c : Nat} {L : List Int} {l e r : Int} {w : World} {m z : Int} (h : Sl w A n c L) (hm : headOf (keepL L ⟨l, e, r⟩) = m) (hz : kchk L ⟨l, e, r⟩ = z) :
    Calls Try.prog 11 #[.slice A n c, .agg #[.int .i64 l, .int .i64 e, .int .i64 r]] w fun x w' => x = .returned (.tuple #[.int .i64 m, .int .i64 z]) ∧ Ext w w' := by
  subst hm hz
  exact mark_any h
theorem next_is {A : Option Addr} {n c : Nat} {L : List Int} {l e r : Int} {w : World} {O : List Int} {z : Int} (h : Sl w A n c L) (hO : outL L ⟨l, e, r⟩ = O) (hz : kchk L ⟨l, e, r⟩ = z) :
    Calls Try.prog 10 #[.slice A n c, .agg #[.int .i64 l, .int .i64 e, .int .i64 r]] w fun x w' => RetN w' O z x ∧ Ext w w' := by
  subst hO hz
  exact next_any h

set_option maxHeartbeats 2000000 in
theorem lives_any (w : World) : Calls Try.prog 8 #[] w fun e w' => e = .returned (.bool true) ∧ Ext w w' := by
  have x0 := Ext.alloc w (.cells #[.int .i64 3, .int .i64 5, .int .i64 12, .int .i64 14, .int .i64 27, .int .i64 31, .int .i64 33] 3)
  have h0 : Sl (w.alloc (.cells #[.int .i64 3, .int .i64 5, .int .i64 12, .int .i64 14, .int .i64 27, .int .i64 31, .int .i64 33] 3)) (some ⟨w.heap.size, 0, none⟩) 7 7 exL := Sl.lit w exL (num_small (by decide)) (by decide) (by decide)
  obtain ⟨g0, g1, g2⟩ := pol_new (w.alloc (.cells #[.int .i64 3, .int .i64 5, .int .i64 12, .int .i64 14, .int .i64 27, .int .i64 31, .int .i64 33] 3)) 2 10 2 24
  rw [World.size_alloc] at g0 g1 g2
  have h1 := h0.ext (Ext.alloc _ (.cells #[.int .i64 2, .int .i64 10, .int .i64 2] 24))
  have x1 := Ext.of x0 (Ext.alloc _ (.cells #[.int .i64 2, .int .i64 10, .int .i64 2] 24))
  clear x0 h0
  go_enter Try.func8, Try.ntmps8
  go_wp2_with fail
  refine (keep_is h1 exK exC).mono ?_
  rintro y w2 ⟨⟨v, k, rfl, hk, ho⟩, x2⟩
  obtain ⟨A2, c2, rfl, hs2⟩ := ho.slice (by omega)
  have X2 := Ext.of x1 x2
  have f0 := x2.cell g0
  have f1 := x2.cell g1
  have f2 := x2.cell g2
  have h2 := h1.ext x2
  clear x1 x2 g0 g1 g2 h1 ho
  go_wp2_with fail
  refine (mark_is h2 exH exC).mono ?_
  rintro y w3 ⟨rfl, x3⟩
  have X3 := Ext.of X2 x3
  have e0 := x3.cell f0
  have e1 := x3.cell f1
  have e2 := x3.cell f2
  have h3 := h2.ext x3
  have hs3 := hs2.ext x3
  clear X2 x3 f0 f1 f2 h2 hs2
  go_wp2_with fail
  refine (next_is h3 exO exC).mono ?_
  rintro y w4 ⟨⟨A4, n4, c4, rfl, hs4⟩, x4⟩
  have X4 := Ext.of X3 x4
  have hs4' := hs3.ext x4
  clear X3 x4 e0 e1 e2 h3 hs3
  have l5 : Sl (w4.alloc (.cells #[.int .i64 12, .int .i64 27, .int .i64 31, .int .i64 33] 3)) (some ⟨w4.heap.size, 0, none⟩) 4 4 [12, 27, 31, 33] := Sl.lit w4 [12, 27, 31, 33] (num_small (by decide)) (by decide) (by decide)
  have x5 := Ext.alloc w4 (.cells #[.int .i64 12, .int .i64 27, .int .i64 31, .int .i64 33] 3)
  have X5 := Ext.of X4 x5
  have hs5 := hs4'.ext x5
  have hs5' := hs4.ext x5
  clear X4 x5 hs4 hs4'
  go_wp2_with fail
  refine (same_yes hs5 l5 rfl).mono ?_
  rintro y w6 ⟨rfl, x6⟩
  have X6 := Ext.of X5 x6
  have hs6 := hs5'.ext x6
  clear X5 x6 hs5 hs5' l5
  have l7 : Sl (w6.alloc (.cells #[.int .i64 3, .int .i64 5, .int .i64 14] 3)) (some ⟨w6.heap.size, 0, none⟩) 3 3 [3, 5, 14] := Sl.lit w6 [3, 5, 14] (num_small (by decide)) (by decide) (by decide)
  have x7 := Ext.alloc w6 (.cells #[.int .i64 3, .int .i64 5, .int .i64 14] 3)
  have X7 := Ext.of X6 x7
  have hs7 := hs6.ext x7
  clear X6 x7 hs6
  go_wp2_with fail
  refine (same_yes hs7 l7 rfl).mono ?_
  rintro y w8 ⟨rfl, x8⟩
  have X8 := Ext.of X7 x8
  clear X7 x8 hs7 l7
  go_wp2_with fail
  refine (pcheck_is exZ _).mono ?_
  rintro y w9 ⟨rfl, x9⟩
  have X9 := Ext.of X8 x9
  clear X8 x9
  go_wp2
  go_ret
  exact ⟨rfl, X9⟩

end Go.Proofs.Ytehbdgbolbbgkaa
