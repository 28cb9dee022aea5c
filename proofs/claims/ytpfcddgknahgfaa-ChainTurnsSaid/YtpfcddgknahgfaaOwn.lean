/-
  Slices of versions that a call makes itself: append, and what it leaves, as lists.
-/
import Derived.Test.YtpfcddgknahgfaaMem
import Derived.Lib.AppendZeros
import Derived.Lib.SliceRun
namespace Go.Proofs.Ytpfcddgknahgfaa
open Go.RowKit

def cellsOf : List Ver → List Value
  | [] => []
  | v :: l => .int .i64 v.t :: .string v.s :: .bool v.d :: cellsOf l

theorem cellsOf_append (K L : List Ver) : cellsOf (K ++ L) = cellsOf K ++ cellsOf L := by
  induction K with
  | nil => rfl
  | cons v l ih => simp [cellsOf, ih]
theorem cellsOf_length (L : List Ver) : (cellsOf L).length = L.length * 3 := by
  induction L with
  | nil => rfl
  | cons v l ih => simp [cellsOf, ih]; omega
theorem cellsOf_one (L : List Ver) : ∀ u ∈ cellsOf L, u.oneCell' = true := by
  induction L with
  | nil => simp [cellsOf]
  | cons v l ih =>
    intro u hu
    simp only [cellsOf, List.mem_cons] at hu
    rcases hu with rfl | rfl | rfl | hu
    · rfl
    · rfl
    · rfl
    · exact ih u hu

theorem add_lit (b off j : Nat) : (⟨b, off, none⟩ : Addr).add j = ⟨b, off + j, none⟩ := by
  unfold Addr.add
  split
  · subst_vars; rfl
  · rfl

theorem cells_of_arr {w : World} {b : Nat} : ∀ {off : Nat} {L : List Ver}, Arr w b off L → ∀ j u, (cellsOf L)[j]? = some u → w.cell? ⟨b, off + j, none⟩ = some u := by
  intro off L
  induction L generalizing off with
  | nil => intro _ j u h; simp [cellsOf] at h
  | cons v l ih =>
    intro h j u hu
    obtain ⟨h0, h1, h2⟩ := h 0 v rfl
    simp only [Nat.zero_mul, Nat.add_zero] at h0 h1 h2
    have htl : Arr w b (off + 3) l := fun i x hx => by
      have := h (i + 1) x (by simpa using hx)
      rw [show off + 3 + i * 3 = off + (i + 1) * 3 by omega]
      exact this
    match j, hu with
    | 0, hu => simp [cellsOf] at hu; subst hu; exact h0
    | 1, hu => simp [cellsOf] at hu; subst hu; exact h1
    | 2, hu => simp [cellsOf] at hu; subst hu; exact h2
    | j + 3, hu =>
      have := ih htl j u (by simpa [cellsOf] using hu)
      rw [show off + (j + 3) = off + 3 + j by omega]
      exact this

theorem cellsOf_get {L : List Ver} {i : Nat} {v : Ver} (h : L[i]? = some v) : (cellsOf L)[i * 3]? = some (.int .i64 v.t) ∧ (cellsOf L)[i * 3 + 1]? = some (.string v.s) ∧ (cellsOf L)[i * 3 + 2]? = some (.bool v.d) := by
  induction L generalizing i with
  | nil => simp at h
  | cons a l ih =>
    match i, h with
    | 0, h => simp at h; subst h; simp [cellsOf]
    | i + 1, h =>
      have := ih (by simpa using h)
      rw [show (i + 1) * 3 = i * 3 + 3 by omega, show i * 3 + 3 + 1 = (i * 3 + 1) + 3 by omega, show i * 3 + 3 + 2 = (i * 3 + 2) + 3 by omega]
      simpa [cellsOf] using this

theorem arr_of_cells {w : World} {b off : Nat} {L : List Ver} (h : ∀ j u, (cellsOf L)[j]? = some u → w.cell? ⟨b, off + j, none⟩ = some u) : Arr w b off L := by
  intro i v hv
  obtain ⟨h0, h1, h2⟩ := cellsOf_get hv
  exact ⟨h _ _ h0, by have := h _ _ h1; rw [← Nat.add_assoc] at this; exact this, by have := h _ _ h2; rw [← Nat.add_assoc] at this; exact this⟩

/-- The slice value v of n versions lies in the call's own memory, from 'base' on, and reads as L. -/
structure Own (w : World) (base : Nat) (v : Value) (n : Nat) (L : List Ver) : Prop where
  row : w.ownsRow base 34 3 v n (cellsOf L)
  ok : ∀ x ∈ L, x.ok

theorem Own.len {w : World} {base : Nat} {v : Value} {n : Nat} {L : List Ver} (h : Own w base v n L) : L.length = n := by
  have := h.row.1
  rw [cellsOf_length] at this
  omega
theorem Own.nil_ (w : World) (base : Nat) : Own w base (.slice none 0 0) 0 [] := ⟨World.ownsRow_nil _ _ _ _, by simp⟩

theorem Own.slice {w : World} {base : Nat} {v : Value} {n : Nat} {L : List Ver} (h : Own w base v n L) (hn : n ≤ 1099511627776) : ∃ A c, v = .slice A n c ∧ Sl w A n c L := by
  rcases h.row.2 with ⟨rfl, rfl⟩ | ⟨g, cap, cur, rfl, hbg, hg, hnc, hcm, hcs, htake⟩
  · exact ⟨none, 0, rfl, h.len, by omega, by omega, by unfold maxLen; omega, fun _ => ⟨rfl, rfl⟩, h.ok, fun h0 => absurd h0 (by omega)⟩
  · refine ⟨_, cap, rfl, h.len, hnc, hn, hcm, fun h0 => (by cases h0), h.ok, fun _ => ⟨g, 0, rfl, arr_of_cells fun j u hu => ?_⟩⟩
    have := h.row.cells (g := g) rfl j u hu
    rwa [add_lit] at this

theorem info_ver : (Try.prog.info? 34).map (fun i => (i.zero, i.size, i.bytes)) = some (some (.agg #[.int .i64 0, .string ByteArray.empty, .bool false]), 3, 32) := by kernel_rfl

theorem run_append_ver {w : World} {base : Nat} {v : Value} {n : Nat} {K : List Ver} (ty : TypeId) (hown : Own w base v n K) {A : Option Addr} {m c : Nat} {L : List Ver} (hs : Sl w A m c L)
    (hnm : n + m ≤ 4398046511104) (hbase : base ≤ w.heap.size) :
    ∃ v' w', (Builtin.append_ #[22, 22] ty #[v, .slice A m c]).run Try.prog w = .ok v' w' ∧ Own w' base v' (n + m) (K ++ L) ∧ w.grownBy w' v.ownBlock := by
  obtain ⟨i, hi, hz, hsz, hby⟩ := info_parts info_ver
  have hall : ∀ x ∈ K ++ L, x.ok := by
    intro x hx
    rcases List.mem_append.1 hx with h | h
    · exact hown.ok x h
    · exact hs.ok x h
  rcases A with _ | a
  · obtain ⟨rfl, rfl⟩ := hs.nil rfl
    have hL : L = [] := List.eq_nil_of_length_eq_zero hs.len
    subst hL
    refine ⟨v, w, ?_, ⟨by simpa using hown.row, hall⟩, World.grownBy.refl w _⟩
    rcases hown.row.2 with ⟨rfl, rfl⟩ | ⟨g, cap, cur, rfl, _, _, hnc, _⟩
    · simp [Builtin.append_, run_underlying Try.underlying22, sizeOf, typeInfo, hi, Builtin.lenOf, Builtin.firstCells]
    · simp [Builtin.append_, run_underlying Try.underlying22, sizeOf, typeInfo, hi, Builtin.lenOf, Builtin.firstCells, hnc, storeCells]
  · have hcells : ∀ j u, (cellsOf L)[j]? = some u → w.cell? (a.add j) = some u := by
      intro j u hu
      have hm : 0 < m := by
        rcases Nat.eq_zero_or_pos m with h0 | h0
        · have hL : L = [] := List.eq_nil_of_length_eq_zero (by rw [hs.len]; exact h0)
          subst hL
          simp [cellsOf] at hu
        · exact h0
      obtain ⟨b, off, e, ha⟩ := hs.at_ hm
      injection e with e
      subst e
      rw [add_lit]
      exact cells_of_arr ha j u hu
    obtain ⟨v', w', hr, h2, h3, _⟩ := run_append_own (P := Try.prog) w base 22 ty 34 i _ 3 32 Try.underlying22 hi hz hsz hby rfl (by omega) v n (cellsOf K) hown.row a m c (cellsOf L)
      (by rw [cellsOf_length, hs.len]) hcells (cellsOf_one L) (by unfold maxLen; omega) (by omega) hbase
    exact ⟨v', w', hr, ⟨by rw [cellsOf_append]; exact h2, hall⟩, h3⟩

/-- The append, as the walk meets it. -/
theorem wpList_append_ver {ops : Array Oper} {rest : List Oper} {o : Oper} {a : Act} {Q : Exit → Act → World → Prop} {w : World} (hgd : o.guard = none) (s x : Operand)
    (ho : o.op = .call { callee := .builtin .append, args := #[s, x], argTypes := #[22, 22] }) {base : Nat} {v : Value} {n : Nat} {K : List Ver} (hv : a.eval s = v) (hown : Own w base v n K)
    {A : Option Addr} {m c : Nat} {L : List Ver} (hx : a.eval x = .slice A m c) (hs : Sl w A m c L) (hnm : n + m ≤ 4398046511104) (hbase : base ≤ w.heap.size)
    (h : ∀ v' w', Own w' base v' (n + m) (K ++ L) → w.grownBy w' v.ownBlock → wpList Try.prog ops Q rest (a.put o.dst v') w') : wpList Try.prog ops Q (o :: rest) a w := by
  obtain ⟨v', w', hr, h1, h2⟩ := run_append_ver o.type hown hs hnm hbase
  exact Lib.wpList_append_run w hgd s x 22 22 ho _ _ hv hx v' w' hr (h v' w' h1 h2)

theorem Own.keep {w w' : World} {base : Nat} {v v' : Value} {n m : Nat} {K L : List Ver} (_h : Own w' base v' n K) (hr : Own w base v m L) (hg : w.grownBy w' v.ownBlock) {w0 : World} (h0 : Below base w0 w) (hb : base ≤ w.heap.size) : Below base w0 w' :=
  h0.grown hg hb fun k hk => (hr.row.lt k hk).1

end Go.Proofs.Ytpfcddgknahgfaa
