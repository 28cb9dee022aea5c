/-
  Parse of both sides.
-/
import Derived.Test.YtmajagdgpmbnhaaPa
import Derived.Deep.RegionWith
import Derived.Deep.DeepCutAuto
import Derived.Deep.CutRange
namespace Go.Proofs.Ytmajagdgpmbnhaa
open Go.RowKit

def pa (S : ByteArray) : Int := valI (S.data.toList.take 5)
def pb (S : ByteArray) : Int := valI (S.data.toList.drop 5)
def pOk (S : ByteArray) : Bool := decide (S.size = 10) && right (pa S, pb S)
def parT (S : ByteArray) : Int × Int := if pOk S = true then (pa S, pb S) else (0, 0)
def parE (S : ByteArray) : Int := if pOk S = true then 0 else 4
def RetP (S : ByteArray) (w : World) (e : Ending) (w' : World) : Prop := e = .returned (.tuple #[tagV (parT S), .int .i64 (parE S)]) ∧ Ext w w'
theorem RetP.no {S : ByteArray} (h : pOk S = false) (w : World) : RetP S w = fun e w' => e = .returned (.tuple #[tagV (0, 0), .int .i64 4]) ∧ Ext w w' := by
  funext e w'
  unfold RetP parT parE
  rw [h]
  rfl
theorem RetP.yes {S : ByteArray} (h : pOk S = true) (w : World) : RetP S w = fun e w' => e = .returned (.tuple #[tagV (pa S, pb S), .int .i64 0]) ∧ Ext w w' := by
  funext e w'
  unfold RetP parT parE
  rw [if_pos h, if_pos h]
theorem value_first (S : ByteArray) (h : S.size = 10) (w : World) : Calls Try.prog 36 #[.string (S.extract 0 5)] w fun e w' => e = .returned (.int .i64 (pa S)) ∧ w' = w := by
  have e : (S.extract 0 5).data.toList = S.data.toList.take 5 := by rw [Lib.extract_data, List.drop_zero]
  have h1 := value_any (S.extract 0 5) (by rw [ByteArray.size_extract]; omega) w
  rw [e] at h1
  exact h1
theorem value_second (S : ByteArray) (h : S.size = 10) (w : World) : Calls Try.prog 36 #[.string (S.extract 5 S.size)] w fun e w' => e = .returned (.int .i64 (pb S)) ∧ w' = w := by
  have e : (S.extract 5 S.size).data.toList = S.data.toList.drop 5 := by
    rw [Lib.extract_data]
    exact List.take_of_length_le (by rw [List.length_drop]; simp)
  have h1 := value_any (S.extract 5 S.size) (by rw [ByteArray.size_extract]; omega) w
  rw [e] at h1
  exact h1

set_option maxRecDepth 100000 in
set_option maxHeartbeats 2000000 in
theorem rparse_any (S : ByteArray) (hS : S.size ≤ 9223372036854775807) (w : World) : Calls Try.prog 23 #[.string S] w (RetP S w) := by
  have hA := Cel.new w 0 0 28
  have X := Ext.al w (.cells #[.int .i64 0, .int .i64 0] 28)
  by_cases h10 : S.size = 10
  · obtain ⟨a, ha⟩ : ∃ a, pa S = a := ⟨_, rfl⟩
    obtain ⟨b, hb⟩ : ∃ b, pb S = b := ⟨_, rfl⟩
    have V1 := fun w => value_first S h10 w
    have V2 := fun w => value_second S h10 w
    rw [ha] at V1
    rw [hb] at V2
    have hp : pOk S = right (a, b) := by
      unfold pOk
      rw [decide_eq_true h10, ha, hb]
      rfl
    have hP : right (a, b) = true → ∀ w', Ext w w' → RetP S w (.returned (.tuple #[tagV (a, b), .int .i64 0])) w' := by
      intro h w' hx
      rw [RetP.yes (by rw [hp, h]), ha, hb]
      exact ⟨rfl, hx⟩
    have hN : right (a, b) = false → ∀ w', Ext w w' → RetP S w (.returned (.tuple #[tagV (0, 0), .int .i64 4])) w' := by
      intro h w' hx
      rw [RetP.no (by rw [hp, h])]
      exact ⟨rfl, hx⟩
    have s5 : 5 ≤ S.size := by omega
    have g0 : ((S.size : Int) != 10) = false := by rw [h10]; rfl
    clear h10 hp ha hb
    have hB1 : Cel ((w.alloc (.cells #[.int .i64 0, .int .i64 0] 28)).alloc (.cells #[.int .i64 a, .int .i64 b] 28)).drew (w.heap.size + 1) a b := by
      have h := Cel.new (w.alloc (.cells #[.int .i64 0, .int .i64 0] 28)) a b 28
      have e : (w.alloc (.cells #[.int .i64 0, .int .i64 0] 28)).heap.size = w.heap.size + 1 := by simp
      rw [e] at h
      exact h.drew
    have hA1 := (hA.ext (Ext.al _ (.cells #[.int .i64 a, .int .i64 b] 28))).drew
    have X1 : Ext w ((w.alloc (.cells #[.int .i64 0, .int .i64 0] 28)).alloc (.cells #[.int .i64 a, .int .i64 b] 28)).drew := (Ext.of X (Ext.al _ _)).drew
    go_enter Try.func23, Try.ntmps23
    go_wp2
    go_cut [4] from 9 to 15 (fun t4 wx => ∃ B, t4 = .pointer (some ⟨B, 0, none⟩) ∧ w.heap.size < B ∧ Cel wx B a b ∧ Cel wx w.heap.size 0 0 ∧ Ext w wx)
    case first =>
      go_region_with (first
        | (go_at_call_of 36 (S.extract 0 5); refine (V1 _).mono ?_; rintro e w5 ⟨rfl, rfl⟩)
        | (go_at_call 36; refine (V2 _).mono ?_; rintro e w5 ⟨rfl, rfl⟩))
      all_goals (go_wp2_with fail; go_meet; exact ⟨w.heap.size + 1, rfl, by omega, hB1, hA1, X1⟩)
    case rest =>
      clear hA X hB1 hA1 X1 V1 V2
      obtain ⟨B, rfl, hlt, hB, hA, X⟩ := hcut
      obtain ⟨-, c0, c1, -, -⟩ := id hB
      cases hr : right (a, b) with
      | true =>
        have hR := fun w => rright_is (t := (a, b)) hr w
        have hQ := hP hr
        clear hP hN hr
        go_wp2_with fail
        refine (hR _).mono ?_
        rintro e w1 ⟨rfl, x1⟩
        have X1 := Ext.of X x1
        have hB1 := hB.ext x1
        have hA1 := hA.ext x1
        clear c0 c1 hB hA X x1
        obtain ⟨-, c0, c1, -, -⟩ := hB1
        obtain ⟨l0, a0, a1, f0, f1⟩ := hA1
        go_wp2
        exact bodyPost_ret (v := .tuple #[tagV (a, b), .int .i64 0]) (by simp [results, Try.results23, go_sem, a0, a1]) rfl (hQ _ (X1.set (Nat.le_refl _) _ _))
      | false =>
        have hR := fun w => rright_is (t := (a, b)) hr w
        have hQ := hN hr
        clear hP hN hr
        go_wp2_with fail
        refine (hR _).mono ?_
        rintro e w1 ⟨rfl, x1⟩
        have X1 := Ext.of X x1
        have hA1 := hA.ext x1
        clear c0 c1 hB hA X x1
        obtain ⟨l0, a0, a1, f0, f1⟩ := hA1
        go_wp2
        exact bodyPost_ret (v := .tuple #[tagV (0, 0), .int .i64 4]) (by simp [results, Try.results23, go_sem, a0, a1]) rfl (hQ _ (X1.set (Nat.le_refl _) _ _))
  · rw [RetP.no (by unfold pOk; rw [decide_eq_false h10]; rfl)]
    have g0 : ((S.size : Int) != 10) = true := by rw [bne_iff_ne]; omega
    clear h10
    obtain ⟨l0, a0, a1, f0, f1⟩ := hA
    go_enter Try.func23, Try.ntmps23
    go_wp2
    exact bodyPost_ret (v := .tuple #[tagV (0, 0), .int .i64 4]) (by simp [results, Try.results23, go_sem]) rfl ⟨rfl, X⟩

end Go.Proofs.Ytmajagdgpmbnhaa
