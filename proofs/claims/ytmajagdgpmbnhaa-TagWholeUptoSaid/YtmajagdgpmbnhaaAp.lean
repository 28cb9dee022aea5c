/-
  Rows of bytes that a call makes itself; append.
-/
import Derived.Test.YtmajagdgpmbnhaaOpb
import Derived.Lib.AppendZeros
import Derived.Lib.SliceRun
import Derived.Maps.AppendAt
namespace Go.Proofs.Ytmajagdgpmbnhaa
open Go.RowKit

def cellsB (l : List UInt8) : List Value := l.map fun c => Value.int .u8 (c.toNat : Int)
theorem cellsB_get {l : List UInt8} {j : Nat} {u : Value} (h : (cellsB l)[j]? = some u) : ∃ c, l[j]? = some c ∧ u = .int .u8 (c.toNat : Int) := by
  unfold cellsB at h
  rw [List.getElem?_map, Option.map_eq_some_iff] at h
  obtain ⟨x, h1, h2⟩ := h
  exact ⟨x, h1, h2.symm⟩
theorem cellsB_at {l : List UInt8} {j : Nat} {c : UInt8} (h : l[j]? = some c) : (cellsB l)[j]? = some (.int .u8 (c.toNat : Int)) := by
  unfold cellsB
  rw [List.getElem?_map, h]
  rfl
theorem cellsB_one (l : List UInt8) : ∀ u ∈ cellsB l, u.oneCell' = true := by
  intro u hu
  unfold cellsB at hu
  rw [List.mem_map] at hu
  obtain ⟨x, _, rfl⟩ := hu
  rfl
theorem add_lit (b off j : Nat) : (⟨b, off, none⟩ : Addr).add j = ⟨b, off + j, none⟩ := by
  unfold Addr.add
  split
  · subst_vars; rfl
  · rfl

/-- The slice value v of n bytes lies in the call's own memory, from 'base' on, and reads as l. -/
structure OwnB (w : World) (base : Nat) (v : Value) (n : Nat) (l : List UInt8) : Prop where
  row : w.ownsRow base 5 1 v n (cellsB l)
theorem OwnB.len {w : World} {base : Nat} {v : Value} {n : Nat} {l : List UInt8} (h : OwnB w base v n l) : l.length = n := by
  have := h.row.1
  unfold cellsB at this
  rw [List.length_map] at this
  omega
theorem OwnB.made (w : World) (base : Nat) (hb : base ≤ w.heap.size) : OwnB (w.alloc (.cells #[] 5)) base (.slice (some ⟨w.heap.size, 0, none⟩) 0 0) 0 [] :=
  ⟨World.ownsRow_made w #[] 0 hb (by unfold maxLen; omega) rfl⟩
theorem OwnB.later {w w' : World} {base : Nat} {v : Value} {n : Nat} {l : List UInt8} (h : OwnB w base v n l) (hx : Ext w w') : OwnB w' base v n l := by
  refine ⟨⟨h.row.1, ?_⟩⟩
  rcases h.row.2 with hn | ⟨g, cap, cur, rfl, hb, hgg, rest⟩
  · exact .inl hn
  · exact .inr ⟨g, cap, cur, rfl, hb, (hx.block g (Array.getElem?_eq_some_iff.1 hgg).1).trans hgg, rest⟩
theorem OwnB.slice {w : World} {base : Nat} {v : Value} {n : Nat} {l : List UInt8} (h : OwnB w base v n l) (hn : n ≤ 9223372036854775807) : ∃ A c, v = .slice A n c ∧ By w A n ⟨l.toArray⟩ := by
  have hl := h.len
  rcases h.row.2 with ⟨rfl, rfl⟩ | ⟨g, cap, cur, rfl, hbg, hg, hnc, hcm, hcs, htake⟩
  · exact ⟨none, 0, rfl, ⟨by simpa [ByteArray.size] using hl, hn, fun h0 => absurd h0 (by omega)⟩⟩
  · refine ⟨_, cap, rfl, ⟨by simpa [ByteArray.size] using hl, hn, fun _ => ⟨g, 0, rfl, fun i hi => ?_⟩⟩⟩
    have hi2 : i < l.length := by simpa [ByteArray.size] using hi
    have := h.row.cells (g := g) rfl i _ (cellsB_at (List.getElem?_eq_getElem hi2))
    rw [add_lit] at this
    exact this

theorem info_u8 : (Try.prog.info? 5).map (fun i => (i.zero, i.size, i.bytes)) = some (some (.int .u8 0), 1, 1) := by kernel_rfl

theorem run_append_by {w : World} {base : Nat} {v : Value} {n : Nat} {k : List UInt8} (ty : TypeId) (hown : OwnB w base v n k) {A : Option Addr} {m c : Nat} {S : ByteArray} (hs : By w A m S) (hm : 0 < m)
    (hnm : n + m ≤ 140737488355328) (hbase : base ≤ w.heap.size) :
    ∃ v' w', (Builtin.append_ #[22, 22] ty #[v, .slice A m c]).run Try.prog w = .ok v' w' ∧ OwnB w' base v' (n + m) (k ++ S.data.toList) ∧ w.grownBy w' v.ownBlock ∧ (v'.ownBlock = v.ownBlock ∨ v'.ownBlock = some w.heap.size) := by
  obtain ⟨i, hi, hz, hsz, hby⟩ := info_parts info_u8
  obtain ⟨b, off, rfl, hB⟩ := hs.at_ hm
  have hSl : S.data.toList.length = m := by rw [Array.length_toList]; exact hs.len
  have hcl : cellsB (k ++ S.data.toList) = cellsB k ++ cellsB S.data.toList := List.map_append ..
  have hcells : ∀ j u, (cellsB S.data.toList)[j]? = some u → w.cell? ((⟨b, off, none⟩ : Addr).add j) = some u := by
    intro j u hu
    obtain ⟨x, hx, rfl⟩ := cellsB_get hu
    obtain ⟨hj, e⟩ := List.getElem?_eq_some_iff.1 hx
    have hj2 : j < S.size := by rw [hs.len, ← hSl]; exact hj
    rw [add_lit, hB j hj2, ← e]
    rfl
  obtain ⟨v', w', hr, h2, h3, _, h5⟩ := run_append_own_at (P := Try.prog) w base 22 ty 5 i _ 1 1 Try.underlying22 hi hz hsz hby rfl (by omega) v n (cellsB k) hown.row ⟨b, off, none⟩ m c (cellsB S.data.toList)
    (by unfold cellsB; rw [List.length_map, hSl, Nat.mul_one]) hcells (cellsB_one _) (by unfold maxLen; omega) (by omega) hbase
  exact ⟨v', w', hr, ⟨by rw [hcl]; exact h2⟩, h3, h5⟩

/-- The append, as the walk meets it. -/
theorem wpList_append_by {ops : Array Oper} {rest : List Oper} {o : Oper} {a : Act} {Q : Exit → Act → World → Prop} {w : World} (hgd : o.guard = none) (s x : Operand)
    (ho : o.op = .call { callee := .builtin .append, args := #[s, x], argTypes := #[22, 22] }) {base : Nat} {v : Value} {n : Nat} {k : List UInt8} (hv : a.eval s = v) (hown : OwnB w base v n k)
    {A : Option Addr} {m c : Nat} {S : ByteArray} (hx : a.eval x = .slice A m c) (hs : By w A m S) (hm : 0 < m) (hnm : n + m ≤ 140737488355328) (hbase : base ≤ w.heap.size)
    (h : ∀ v' w', OwnB w' base v' (n + m) (k ++ S.data.toList) → w.grownBy w' v.ownBlock → (v'.ownBlock = v.ownBlock ∨ v'.ownBlock = some w.heap.size) → wpList Try.prog ops Q rest (a.put o.dst v') w') : wpList Try.prog ops Q (o :: rest) a w := by
  obtain ⟨v', w', hr, h1, h2, h3⟩ := run_append_by o.type hown hs hm hnm hbase
  exact Lib.wpList_append_run w hgd s x 22 22 ho _ _ hv hx v' w' hr (h v' w' h1 h2 h3)

/-- '[]byte{}' and bytes behind it: a row of the call's own, nothing that was there turned. -/
theorem own_ext {w w' : World} {k : List UInt8} {v : Value} {n : Nat} (_h : OwnB w' w.heap.size v n k) (hg : (w.alloc (.cells #[] 5)).grownBy w' (Value.slice (some ⟨w.heap.size, 0, none⟩) 0 0).ownBlock) : Ext w w' :=
  ((Below.refl _ _).alloc (Nat.le_refl _) _).grown hg (by simp) (fun q hq => by simp [Value.ownBlock] at hq; omega)

end Go.Proofs.Ytmajagdgpmbnhaa
