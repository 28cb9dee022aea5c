/-
  The arguments of the statements, opened: a slice of versions, a version; and the row's last step.
-/
import Derived.Test.YtpfcddgknahgfaaOwn
import Derived.ProofKit
import Derived.OpenShut
import Derived.ShutString
import Derived.ChangeOld
import Derived.Deep.Slices
import Derived.Deep.Fields
import Derived.Lib.SmallJoins
namespace Go.Proofs.Ytpfcddgknahgfaa
open Go.RowKit Go.ChangeShapes Go.WideShapes Go.ChangeAt Go.Deep

theorem ownK : ownKnob Try.prog.godebug = none := by kernel_rfl
theorem laidOut : laidOutB Try.prog = true := by kernel_rfl
theorem cells34 : Try.prog.cellsOf 34 = 3 := by kernel_rfl

section
variable {H : Type} {enc : TypeId × Value → H} {W : World}

theorem drop_take_one {l : List Value} {j : Nat} {x : Value} (h : l[j]? = some x) : (l.drop j).take 1 = [x] := by
  obtain ⟨hl, e⟩ := List.getElem?_eq_some_iff.1 h
  rw [List.drop_eq_getElem_cons hl, e]
  rfl

/-- Three cells that read as a version. -/
theorem open_cells {n : Nat} {cs : List Value} {x : DataW H × List MemPlace} {base : Nat} {sp : Nat → Bool} {hd : Bool} (h : DataW.trod enc Try.prog W base sp hd n 34 cs = some x) : ∃ v : Ver, v.ok ∧ cs = [.int .i64 v.t, .string v.s, .bool v.d] := by
  obtain ⟨xs, k, _, _, hlen, hxl, hf⟩ := DataW.trod_struct Try.underlying34 h
  rw [cells34] at hlen
  match cs, hlen with
  | [c0, c1, c2], _ =>
    have f0 := hf 0 { name := "Time", type := 3, offset := 0, embedded := false, tag := "", pkgPath := "", byteOffset := 0 } rfl
    have f1 := hf 1 { name := "Val", type := 9, offset := 1, embedded := false, tag := "", pkgPath := "", byteOffset := 8 } rfl
    have f2 := hf 2 { name := "Del", type := 4, offset := 2, embedded := false, tag := "", pkgPath := "", byteOffset := 24 } rfl
    have e3 : Try.prog.cellsOf 3 = 1 := by kernel_rfl
    have e9 : Try.prog.cellsOf 9 = 1 := by kernel_rfl
    have e4 : Try.prog.cellsOf 4 = 1 := by kernel_rfl
    simp only [e3, e9, e4, List.drop_zero, List.drop_succ_cons, List.take_succ_cons, List.take_zero] at f0 f1 f2
    have g0 : xs[0]? = some (xs[0]'(by rw [hxl]; decide)) := List.getElem?_eq_getElem _
    have g1 : xs[1]? = some (xs[1]'(by rw [hxl]; decide)) := List.getElem?_eq_getElem _
    have g2 : xs[2]? = some (xs[2]'(by rw [hxl]; decide)) := List.getElem?_eq_getElem _
    rw [g0] at f0
    rw [g1] at f1
    rw [g2] at f2
    obtain ⟨t, ht, _, wt⟩ := DataW.trod_int Try.underlying3 f0
    obtain ⟨s, hs, _, ws⟩ := DataW.trod_string Try.underlying9 f1
    obtain ⟨d, hd, _⟩ := DataW.trod_bool Try.underlying4 f2
    simp only [List.cons.injEq, and_true] at ht hs hd
    subst ht hs hd
    have bd : -9223372036854775808 ≤ t ∧ t ≤ 9223372036854775807 := bounds_i64 wt
    exact ⟨⟨t, s, d⟩, ⟨by unfold maxLen at ws; omega, bd.1, bd.2⟩, rfl⟩

theorem open_vers {base : Nat} {v : Value} {d : DataW H} {p : List MemPlace} (hv : Value.okWide Try.prog W .any base 22 v) (h : DataW.Trod enc Try.prog W 0 (fun _ => true) true 22 v d p) :
    ∃ A n c L, v = .slice A n c ∧ n ≤ 9223372036854775807 ∧ (n ≤ 1000 → Sl W A n c L) := by
  obtain ⟨A, n, c, rfl⟩ := okWide_slice Try.underlying22 hv
  obtain ⟨fuel, hf⟩ := h
  rcases open_slice Try.underlying22 hf with ⟨hcs, _⟩ | ⟨a, len, cap, m, k, D, Pl, hcs, _, hl, hm, hmm, _, hi⟩
  · simp [Value.cells] at hcs
    obtain ⟨rfl, rfl, rfl⟩ := hcs
    exact ⟨none, 0, 0, [], rfl, by omega, fun _ => ⟨rfl, by omega, by omega, by unfold maxLen; omega, fun _ => ⟨rfl, rfl⟩, by simp, fun h => absurd h (by omega)⟩⟩
  · simp [Value.cells] at hcs
    obtain ⟨rfl, rfl, rfl⟩ := hcs
    have hmn : m = c := by simpa using hmm
    subst hmn
    have key : ∀ k, k ≤ n → ∃ L : List Ver, L.length = k ∧ (∀ x ∈ L, x.ok) ∧ ∀ i x, L[i]? = some x → W.cell? (a.add (i * 3)) = some (.int .i64 x.t) ∧ W.cell? ((a.add (i * 3)).add 1) = some (.string x.s) ∧ W.cell? ((a.add (i * 3)).add 2) = some (.bool x.d) := by
      intro k
      induction k with
      | zero => intro _; exact ⟨[], rfl, by simp, by simp⟩
      | succ k ih =>
        intro hk
        obtain ⟨L, hL, hok, hc⟩ := ih (by omega)
        obtain ⟨cs', hcs', ht'⟩ := hi k (by omega)
        obtain ⟨x, hx, hxe⟩ := open_cells ht'
        subst hxe
        rw [cells34] at hcs'
        obtain ⟨_, _, hat⟩ := World.cells?_some hcs'
        refine ⟨L ++ [x], by simp [hL], ?_, ?_⟩
        · intro y hy
          rcases List.mem_append.1 hy with h | h
          · exact hok y h
          · simp at h; subst h; exact hx
        · intro i y hy
          rcases Nat.lt_or_ge i L.length with h | h
          · rw [List.getElem?_append_left h] at hy
            exact hc i y hy
          · rw [List.getElem?_append_right h] at hy
            have : i - L.length = 0 := by
              rcases Nat.eq_zero_or_pos (i - L.length) with h0 | h0
              · exact h0
              · rw [List.getElem?_eq_none (by simp; omega)] at hy; cases hy
            rw [this] at hy
            simp at hy
            subst hy
            obtain rfl : i = k := by omega
            exact ⟨by have := hat 0 (by omega); simpa [Addr.add] using this, by have := hat 1 (by omega); simpa using this, by have := hat 2 (by omega); simpa using this⟩
    obtain ⟨L, hL, hok, hc⟩ := key n (Nat.le_refl _)
    refine ⟨some a, n, m, L, rfl, by unfold maxLen at hm; omega, fun h1 => ⟨hL, hl, by omega, hm, fun e => (by cases e), hok, fun h0 => ?_⟩⟩
    obtain ⟨x, hx⟩ : ∃ x, L[0]? = some x := ⟨_, List.getElem?_eq_getElem (by omega)⟩
    have h2 := (hc 0 x hx).1
    obtain ⟨b, off, spot⟩ := a
    have hspot : spot = none := by simpa [Addr.add] using World.cell?_spot h2
    subst hspot
    refine ⟨b, off, rfl, fun i y hy => ?_⟩
    obtain ⟨g0, g1, g2⟩ := hc i y hy
    rw [add_lit] at g0 g1 g2
    exact ⟨g0, by simpa [Addr.add] using g1, by simpa [Addr.add] using g2⟩

theorem open_ver {base : Nat} {v : Value} {d : DataW H} {p : List MemPlace} (hv : Value.okWide Try.prog W .any base 34 v) (h : DataW.Trod enc Try.prog W 0 (fun _ => true) true 34 v d p) :
    ∃ t s d, v = .agg #[.int .i64 t, .string s, .bool d] ∧ Ver.ok ⟨t, s, d⟩ := by
  obtain ⟨cs, rfl, hsz⟩ := okWide_struct Try.underlying34 hv
  obtain ⟨fuel, hf⟩ := h
  obtain ⟨x, hx, hxe⟩ := open_cells hf
  obtain ⟨l⟩ := cs
  simp [Value.cells] at hxe
  exact ⟨x.t, x.s, x.d, by rw [hxe], hx⟩
end

end Go.Proofs.Ytpfcddgknahgfaa
