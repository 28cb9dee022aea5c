/-
  The walk of TagWhole.
-/
import Derived.Test.YtmajagdgpmbnhaaWl
import Derived.Test.YtmajagdgpmbnhaaLjoin
import Derived.Deep.DeepCutAuto
import Derived.Deep.RegionLaw
import Derived.Deep.CutRange
namespace Go.Proofs.Ytmajagdgpmbnhaa
open Go.RowKit
set_option maxRecDepth 100000 in
set_option maxHeartbeats 1000000 in
theorem whole_walk {w : World} (A : Option Addr) (n c : Nat) (S : ByteArray) (h : By w A n S) (hA : A = none → c = 0) (hn : n ≤ 1048576) (B : Option Addr) (m d : Nat) (T : ByteArray) (k : By w B m T) (hB : B = none → d = 0) (hm : m ≤ 1048576) :
    Calls Try.prog 7 #[.slice A n c, .slice B m d] w fun e w' => e = .returned (.bool true) ∧ Ext w w' := by
  obtain ⟨t, ht⟩ : ∃ t, joinV (tagOf S) (tagOf T) m = t := ⟨_, rfl⟩
  have hlS : S.data.toList.length = n := Array.length_toList.trans h.len
  have hlT : T.data.toList.length = m := Array.length_toList.trans k.len
  have hJ : ∀ w, Calls Try.prog 16 #[tagV (tagOf S), tagV (tagOf T), .int .i64 (m : Int)] w fun e w' => e = .returned (.tuple #[tagV t, .int .i64 0]) ∧ Ext w w' := by
    intro w
    have hj := join_any (tagOf S) (tagOf T) (m : Int) (by omega) w
    rw [RetJ.yes (a := tagOf S) (b := tagOf T) (right_mk (tagL_mod _)) (right_mk (tagL_mod _)), ht] at hj
    exact hj
  have hO : ∀ (w' : World) (A' : Option Addr) (c' : Nat), By w' A' (n + m) ⟨(S.data.toList ++ T.data.toList).toArray⟩ → Calls Try.prog 14 #[.slice A' (n + m) c'] w' (RetTag t w') := by
    intro w' A' c' hb
    have ho := of_any (c := c') hb
    have e : tagOf ⟨(S.data.toList ++ T.data.toList).toArray⟩ = t := by
      show tagL (S.data.toList ++ T.data.toList) = t
      rw [tag_whole, hlT]
      exact ht
    rw [e] at ho
    exact ho
  have heq := eql_same t
  have q1 : ((0 : Int) == 0) = true := rfl
  clear ht hlS hlT
  obtain ⟨p, hp⟩ : ∃ p, tagOf S = p := ⟨_, rfl⟩
  obtain ⟨q, hq⟩ : ∃ q, tagOf T = q := ⟨_, rfl⟩
  have hP : ∀ w', Ext w w' → Calls Try.prog 14 #[.slice A n c] w' (RetTag p w') := fun w' hx => hp ▸ of_any (h.ext hx)
  have hQ : ∀ w', Ext w w' → Calls Try.prog 14 #[.slice B m d] w' (RetTag q w') := fun w' hx => hq ▸ of_any (k.ext hx)
  rw [hp, hq] at hJ
  clear hp hq
  go_enter Try.func7, Try.ntmps7
  go_wp2_with fail
  refine (hP _ (ext_refl w)).mono ?_
  rintro e w1 ⟨rfl, x1⟩
  go_wp2_with fail
  refine (hQ _ x1).mono ?_
  rintro e w2 ⟨rfl, x2⟩
  go_wp2_with fail
  refine (hJ _).mono ?_
  rintro e w3 ⟨rfl, x3⟩
  have X3 := Ext.of x1 (Ext.of x2 x3)
  go_upto_region 2 with fail
  have hC := Cel.new w3 t.1 t.2 28
  have X4 := X3.of (Ext.al w3 (.cells #[.int .i64 t.1, .int .i64 t.2] 28))
  have hs := h.ext X4
  have hu := k.ext X4
  generalize w3.alloc (.cells #[.int .i64 t.1, .int .i64 t.2] 28) = w4 at *
  generalize w3.heap.size = b0 at *
  obtain ⟨-, e0, e1, -, -⟩ := hC
  clear X3 x1 x2 x3 hJ hP hQ h k
  go_cut [4] from 17 to 31 (fun v4 wx => v4 = .bool true ∧ Ext w4 wx)
  case first =>
    have i0 := fun o => Ext.cell (Ext.al w4 o) e0
    have i1 := fun o => Ext.cell (Ext.al w4 o) e1
    go_region_law (first
      | (go_simp
         go_at_call 13
         refine (lives_any _).mono ?_
         rintro y w8 ⟨rfl, x8⟩)
      | (refine step_first (w0 := w4) rfl rfl rfl rfl hs hA hn ?_ ?_ ?_ ?_
         · first | exact heap_alloc_new _ _ | exact heap_old (heap_alloc_new _ _) | (refine heap_new_at ?_; simp)
         · (repeat (first | exact ext_refl _ | apply ext_alloc | apply ext_drew))
         · simp
         intro g1 cap1 w5 ho1 hX1
         have k0 := hX1.cell e0
         have k1 := hX1.cell e1)
      | (refine step_second (w0 := w4) rfl rfl rfl ho1 rfl hu hB hn hm hX1 ?_ ?_
         · (repeat (first | exact ext_refl _ | apply ext_alloc | apply ext_drew))
         intro g2 cap2 w6 ho2 hX2
         obtain ⟨A6, c6, e6, hs6⟩ := ho2.slice (by omega)
         injection e6 with e6 _ e7
         subst e6 e7
         have k0 := hX2.cell e0
         have k1 := hX2.cell e1)
      | (go_simp
         go_at_call 14
         refine (hO _ _ _ hs6).mono ?_
         rintro y w7 ⟨rfl, x7⟩
         have k0 := x7.cell k0
         have k1 := x7.cell k1))
    all_goals (go_wp2_with fail; go_meet; exact ⟨by simp, hX2.of (x7.of x8)⟩)
  case rest =>
    obtain ⟨rfl, x9⟩ := hcut
    go_wp2
    go_ret
    exact ⟨rfl, X4.of x9⟩
end Go.Proofs.Ytmajagdgpmbnhaa
