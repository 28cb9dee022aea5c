/-
  Slices of texts in memory, as lists; those that a call makes itself; append.
-/
import Derived.Test.YtpfjikkpfnmepaaMix
import Derived.Lib.AppendZeros
import Derived.Lib.SliceRun
import Derived.Maps.AppendAt
namespace Go.Proofs.Ytpfjikkpfnmepaa
open Go.RowKit

theorem ret_bool {a b : Bool} (h : a = b) : Ending.returned (.bool a) = .returned (.bool b) := by rw [h]
theorem ret_int {k : IntKind} {a b : Int} (h : a = b) : Ending.returned (.int k a) = .returned (.int k b) := by rw [h]

def Arr (w : World) (b off : Nat) (L : List ByteArray) : Prop := ∀ (i : Nat) (x : ByteArray), L[i]? = some x → w.cell? ⟨b, off + i, none⟩ = some (.string x)
def Num (x : ByteArray) : Prop := x.size ≤ 9223372036854775807

structure Sl (w : World) (A : Option Addr) (n c : Nat) (L : List ByteArray) : Prop where
  len : L.length = n
  cap : n ≤ c
  big : n ≤ 1099511627776
  wide : c ≤ maxLen
  nil : A = none → n = 0 ∧ c = 0
  ok : ∀ x ∈ L, Num x
  at_ : 0 < n → ∃ b off, A = some ⟨b, off, none⟩ ∧ Arr w b off L

theorem Arr.ext {w w' : World} {b off : Nat} {L : List ByteArray} (h : Arr w b off L) (hx : Ext w w') : Arr w' b off L := fun i v hi => hx.cell (h i v hi)
theorem Arr.later {w : World} {b off : Nat} {L : List ByteArray} (h : Arr w b off L) {i : Nat} {v : ByteArray} (hi : L[i]? = some v) : ∀ x : Later w, x.world.cell? ⟨b, off + i, none⟩ = some (.string v) := Later.cell (h i v hi)
theorem Sl.ext {w w' : World} {A : Option Addr} {n c : Nat} {L : List ByteArray} (h : Sl w A n c L) (hx : Ext w w') : Sl w' A n c L :=
  ⟨h.len, h.cap, h.big, h.wide, h.nil, h.ok, fun hn => by obtain ⟨b, off, e, hv⟩ := h.at_ hn; exact ⟨b, off, e, hv.ext hx⟩⟩
theorem Sl.get {w : World} {A : Option Addr} {n c : Nat} {L : List ByteArray} (h : Sl w A n c L) {k : Nat} (hk : k < n) : ∃ x, Hid (L[k]? = some x) ∧ x.size ≤ 9223372036854775807 := by
  have hl : k < L.length := by rw [h.len]; exact hk
  exact ⟨L[k], List.getElem?_eq_getElem hl, h.ok _ (List.getElem_mem hl)⟩
theorem Sl.none_ (w : World) : Sl w none 0 0 [] := ⟨rfl, by omega, by omega, by unfold maxLen; omega, fun _ => ⟨rfl, rfl⟩, by simp, fun h => absurd h (by omega)⟩

theorem Ext.alloc (w : World) (o : Obj) : Ext w (w.alloc o) := (Below.refl _ _).alloc (Nat.le_refl _) o
theorem Ext.drew (w : World) : Ext w w.drew := (Below.refl _ _).drew
theorem cell_new (w : World) (v : Value) (ty : TypeId) : (w.alloc (.cells #[v] ty)).cell? ⟨w.heap.size, 0, none⟩ = some v := by simp [World.cell?_alloc_at]

theorem add_lit (b off j : Nat) : (⟨b, off, none⟩ : Addr).add j = ⟨b, off + j, none⟩ := by
  unfold Addr.add
  split
  · subst_vars; rfl
  · rfl

def cellsOf (L : List ByteArray) : List Value := L.map (Value.string)
theorem cellsOf_get {L : List ByteArray} {j : Nat} {u : Value} (h : (cellsOf L)[j]? = some u) : ∃ x, L[j]? = some x ∧ u = .string x := by
  unfold cellsOf at h
  rw [List.getElem?_map, Option.map_eq_some_iff] at h
  obtain ⟨x, h1, h2⟩ := h
  exact ⟨x, h1, h2.symm⟩
theorem cellsOf_at {L : List ByteArray} {j : Nat} {x : ByteArray} (h : L[j]? = some x) : (cellsOf L)[j]? = some (.string x) := by
  unfold cellsOf
  rw [List.getElem?_map, h]
  rfl
theorem cellsOf_one (L : List ByteArray) : ∀ u ∈ cellsOf L, u.oneCell' = true := by
  intro u hu
  unfold cellsOf at hu
  rw [List.mem_map] at hu
  obtain ⟨x, _, rfl⟩ := hu
  rfl

/-- The slice value v of n numbers lies in the call's own memory, from 'base' on, and reads as L. -/
structure Own (w : World) (base : Nat) (v : Value) (n : Nat) (L : List ByteArray) : Prop where
  row : w.ownsRow base 9 1 v n (cellsOf L)
  ok : ∀ x ∈ L, Num x

theorem Own.len {w : World} {base : Nat} {v : Value} {n : Nat} {L : List ByteArray} (h : Own w base v n L) : L.length = n := by
  have := h.row.1
  unfold cellsOf at this
  rw [List.length_map] at this
  omega
theorem Own.nil_ (w : World) (base : Nat) : Own w base (.slice none 0 0) 0 [] := ⟨World.ownsRow_nil _ _ _ _, by simp⟩
theorem Own.made (w : World) (base : Nat) (hb : base ≤ w.heap.size) : Own (w.alloc (.cells #[] 9)) base (.slice (some ⟨w.heap.size, 0, none⟩) 0 0) 0 [] :=
  ⟨World.ownsRow_made w #[] 0 hb (by unfold maxLen; omega) rfl, by simp⟩
theorem Own.alloc {w : World} {base : Nat} {v : Value} {n : Nat} {L : List ByteArray} (h : Own w base v n L) (o : Obj) : Own (w.alloc o) base v n L := ⟨h.row.alloc o, h.ok⟩

theorem Own.later {w w' : World} {base : Nat} {v : Value} {n : Nat} {L : List ByteArray} (h : Own w base v n L) (hx : Ext w w') : Own w' base v n L := by
  refine ⟨⟨h.row.1, ?_⟩, h.ok⟩
  rcases h.row.2 with hn | ⟨g, cap, cur, rfl, hb, hgg, rest⟩
  · exact .inl hn
  · exact .inr ⟨g, cap, cur, rfl, hb, (hx.block g (Array.getElem?_eq_some_iff.1 hgg).1).trans hgg, rest⟩

theorem Own.slice {w : World} {base : Nat} {v : Value} {n : Nat} {L : List ByteArray} (h : Own w base v n L) (hn : n ≤ 1099511627776) : ∃ A c, v = .slice A n c ∧ Sl w A n c L := by
  rcases h.row.2 with ⟨rfl, rfl⟩ | ⟨g, cap, cur, rfl, hbg, hg, hnc, hcm, hcs, htake⟩
  · exact ⟨none, 0, rfl, h.len, by omega, by omega, by unfold maxLen; omega, fun _ => ⟨rfl, rfl⟩, h.ok, fun h0 => absurd h0 (by omega)⟩
  · refine ⟨_, cap, rfl, h.len, hnc, hn, hcm, fun h0 => (by cases h0), h.ok, fun _ => ⟨g, 0, rfl, fun i x hx => ?_⟩⟩
    have := h.row.cells (g := g) rfl i _ (cellsOf_at hx)
    rwa [add_lit] at this

theorem info_int : (Try.prog.info? 9).map (fun i => (i.zero, i.size, i.bytes)) = some (some (.string ⟨#[]⟩), 1, 16) := by kernel_rfl

theorem run_append_int {w : World} {base : Nat} {v : Value} {n : Nat} {K : List ByteArray} (ty : TypeId) (hown : Own w base v n K) {A : Option Addr} {m c : Nat} {L : List ByteArray} (hs : Sl w A m c L)
    (hnm : n + m ≤ 4398046511104) (hbase : base ≤ w.heap.size) :
    ∃ v' w', (Builtin.append_ #[22, 22] ty #[v, .slice A m c]).run Try.prog w = .ok v' w' ∧ Own w' base v' (n + m) (K ++ L) ∧ w.grownBy w' v.ownBlock ∧ (v'.ownBlock = v.ownBlock ∨ v'.ownBlock = some w.heap.size) := by
  obtain ⟨i, hi, hz, hsz, hby⟩ := info_parts info_int
  have hall : ∀ x ∈ K ++ L, Num x := by
    intro x hx
    rcases List.mem_append.1 hx with h | h
    · exact hown.ok x h
    · exact hs.ok x h
  have hcl : cellsOf (K ++ L) = cellsOf K ++ cellsOf L := List.map_append ..
  rcases A with _ | a
  · obtain ⟨rfl, rfl⟩ := hs.nil rfl
    have hL : L = [] := List.eq_nil_of_length_eq_zero hs.len
    subst hL
    refine ⟨v, w, ?_, ⟨by simpa using hown.row, hall⟩, World.grownBy.refl w _, .inl rfl⟩
    rcases hown.row.2 with ⟨rfl, rfl⟩ | ⟨g, cap, cur, rfl, _, _, hnc, _⟩
    · simp [Builtin.append_, run_underlying Try.underlying22, sizeOf, typeInfo, hi, Builtin.lenOf, Builtin.firstCells]
    · simp [Builtin.append_, run_underlying Try.underlying22, sizeOf, typeInfo, hi, Builtin.lenOf, Builtin.firstCells, hnc, storeCells]
  · have hcells : ∀ j u, (cellsOf L)[j]? = some u → w.cell? (a.add j) = some u := by
      intro j u hu
      obtain ⟨x, hx, rfl⟩ := cellsOf_get hu
      have hm : 0 < m := by
        have := (List.getElem?_eq_some_iff.1 hx).1
        rw [hs.len] at this
        omega
      obtain ⟨b, off, e, ha⟩ := hs.at_ hm
      injection e with e
      subst e
      rw [add_lit]
      exact ha j x hx
    obtain ⟨v', w', hr, h2, h3, _, h5⟩ := run_append_own_at (P := Try.prog) w base 22 ty 9 i _ 1 16 Try.underlying22 hi hz hsz hby rfl (by omega) v n (cellsOf K) hown.row a m c (cellsOf L)
      (by unfold cellsOf; rw [List.length_map, hs.len, Nat.mul_one]) hcells (cellsOf_one L) (by unfold maxLen; omega) (by omega) hbase
    exact ⟨v', w', hr, ⟨by rw [hcl]; exact h2, hall⟩, h3, h5⟩

/-- The append, as the walk meets it. -/
theorem wpList_append_int {ops : Array Oper} {rest : List Oper} {o : Oper} {a : Act} {Q : Exit → Act → World → Prop} {w : World} (hgd : o.guard = none) (s x : Operand)
    (ho : o.op = .call { callee := .builtin .append, args := #[s, x], argTypes := #[22, 22] }) {base : Nat} {v : Value} {n : Nat} {K : List ByteArray} (hv : a.eval s = v) (hown : Own w base v n K)
    {A : Option Addr} {m c : Nat} {L : List ByteArray} (hx : a.eval x = .slice A m c) (hs : Sl w A m c L) (hnm : n + m ≤ 4398046511104) (hbase : base ≤ w.heap.size)
    (h : ∀ v' w', Own w' base v' (n + m) (K ++ L) → w.grownBy w' v.ownBlock → wpList Try.prog ops Q rest (a.put o.dst v') w') : wpList Try.prog ops Q (o :: rest) a w := by
  obtain ⟨v', w', hr, h1, h2, _⟩ := run_append_int o.type hown hs hnm hbase
  exact Lib.wpList_append_run w hgd s x 22 22 ho _ _ hv hx v' w' hr (h v' w' h1 h2)

/-- .. and where the new row lies. -/
theorem wpList_append_at {ops : Array Oper} {rest : List Oper} {o : Oper} {a : Act} {Q : Exit → Act → World → Prop} {w : World} (hgd : o.guard = none) (s x : Operand)
    (ho : o.op = .call { callee := .builtin .append, args := #[s, x], argTypes := #[22, 22] }) {base : Nat} {v : Value} {n : Nat} {K : List ByteArray} (hv : a.eval s = v) (hown : Own w base v n K)
    {A : Option Addr} {m c : Nat} {L : List ByteArray} (hx : a.eval x = .slice A m c) (hs : Sl w A m c L) (hnm : n + m ≤ 4398046511104) (hbase : base ≤ w.heap.size)
    (h : ∀ v' w', Own w' base v' (n + m) (K ++ L) → w.grownBy w' v.ownBlock → (v'.ownBlock = v.ownBlock ∨ v'.ownBlock = some w.heap.size) → wpList Try.prog ops Q rest (a.put o.dst v') w') : wpList Try.prog ops Q (o :: rest) a w := by
  obtain ⟨v', w', hr, h1, h2, h3⟩ := run_append_int o.type hown hs hnm hbase
  exact Lib.wpList_append_run w hgd s x 22 22 ho _ _ hv hx v' w' hr (h v' w' h1 h2 h3)

/-- Two rows of the call's own that share nothing. -/
def Apart (v u : Value) : Prop := v.ownBlock = none ∨ v.ownBlock ≠ u.ownBlock

theorem Own.keep {w w' : World} {base : Nat} {v v' : Value} {n m : Nat} {K L : List ByteArray} (_h : Own w' base v' n K) (hr : Own w base v m L) (hg : w.grownBy w' v.ownBlock) {w0 : World} (h0 : Below base w0 w) (hb : base ≤ w.heap.size) : Below base w0 w' :=
  h0.grown hg hb fun k hk => (hr.row.lt k hk).1

def RetSl (w : World) (L : List ByteArray) (e : Ending) : Prop := ∃ A n c, e = .returned (.slice A n c) ∧ Sl w A n c L
theorem RetSl.of_own {w : World} {base : Nat} {v : Value} {n : Nat} {K L : List ByteArray} (h : Own w base v n K) (hn : n ≤ 1099511627776) (e : K = L) : RetSl w L (.returned v) := by
  subst e
  obtain ⟨A, c, rfl, hs⟩ := h.slice hn
  exact ⟨A, n, c, rfl, hs⟩

/-- A block of one number, as a slice of one. -/
theorem Sl.one (w : World) {x : ByteArray} (h : Num x) : Sl (w.alloc (.cells #[.string x] 9)) (some ⟨w.heap.size, 0, none⟩) 1 1 [x] :=
  ⟨rfl, by omega, by omega, by unfold maxLen; omega, fun e => (by cases e), by simpa using h, fun _ => ⟨_, 0, rfl, fun i v hv => by
    match i, hv with
    | 0, hv => simp at hv; subst hv; exact cell_new w _ 9⟩⟩

theorem take_snoc {L : List ByteArray} {k : Nat} {v : ByteArray} (h : L[k]? = some v) : L.take k ++ [v] = L.take (k + 1) := by
  obtain ⟨hl, e⟩ := List.getElem?_eq_some_iff.1 h
  rw [← e, List.take_append_getElem hl]

theorem Own.step2 {w wr w1 : World} {base : Nat} {v v' : Value} {k : Nat} {K K' : List ByteArray} {x : ByteArray} {o : Obj} (h : Own wr base v k K) (hx : Below base w wr) (hb : base ≤ wr.heap.size) (hg : K ++ [x] = K')
    (h1 : Own w1 base v' (k + 1) (K ++ [x])) (hgr : (wr.alloc o).grownBy w1 v.ownBlock) : Own w1 base v' (k + 1) K' ∧ Below base w w1 :=
  ⟨by rw [← hg]; exact h1, h1.keep (h.alloc o) hgr (hx.alloc hb o) (by simp; omega)⟩

end Go.Proofs.Ytpfjikkpfnmepaa
