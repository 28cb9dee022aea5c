/-
  The tag of bytes and bytes behind them; appends in a region that draws its order.
-/
import Derived.Test.YtmajagdgpmbnhaaAp
import Derived.Test.YtmajagdgpmbnhaaLord
import Derived.Laws.OwnMore
namespace Go.Proofs.Ytmajagdgpmbnhaa
open Go.RowKit

theorem tstep_eq (t : Int × Int) (c : Int) : tstep t c = red (ga (gm t (3, 2)) (c + 1, 256 - c)) := by
  unfold tstep red ga gm
  simp only [Prod.mk.injEq]
  omega
theorem tagL_snoc (l : List UInt8) (c : UInt8) : tagL (l ++ [c]) = tstep (tagL l) (c.toNat : Int) := by
  unfold tagL
  rw [List.foldl_append]
  rfl
theorem tag_whole (l : List UInt8) : ∀ r : List UInt8, tagL (l ++ r) = joinV (tagL l) (tagL r) r.length := by
  suffices h : ∀ n, ∀ r : List UInt8, r.length = n → tagL (l ++ r) = joinV (tagL l) (tagL r) r.length from fun r => h _ r rfl
  intro n
  induction n with
  | zero =>
    intro r hr
    obtain rfl := List.length_eq_zero_iff.1 hr
    rw [List.append_nil]
    exact (join_none (tagL_mod l)).symm
  | succ n ih =>
    intro r hr
    obtain ⟨q, c, rfl⟩ : ∃ q c, r = q ++ [c] := ⟨r.dropLast, r.getLast (by intro e; rw [e] at hr; simp at hr), (List.dropLast_concat_getLast _).symm⟩
    have hq : q.length = n := by simpa using hr
    have h1 := ih q hq
    rw [← List.append_assoc, tagL_snoc, h1, tagL_snoc, List.length_append, hq, joinV_eq, joinV_eq, tstep_eq, tstep_eq, red_ga_right, ← red_ga_left, red_gm_left, red_ga_left, gm_ga, ga_assoc]
    congr 2
    rw [gm_assoc, gpow_add]
    rfl

theorem OwnB.shape2 {w : World} {base : Nat} {v : Value} {n : Nat} {l : List UInt8} (h : OwnB w base v n l) (hn : 0 < n) : ∃ g cap, v = .slice (some ⟨g, 0, none⟩) n cap ∧ base ≤ g ∧ g < w.heap.size := by
  rcases h.row.2 with ⟨_, rfl⟩ | ⟨g, cap, cur, rfl, hbg, hg, _⟩
  · omega
  · exact ⟨g, cap, rfl, hbg, (Array.getElem?_eq_some_iff.1 hg).1⟩
theorem OwnB.fresh {w : World} {base g : Nat} (hg : w.heap[g]? = some (.cells #[] 5)) (hb : base ≤ g) : OwnB w base (.slice (some ⟨g, 0, none⟩) 0 0) 0 [] :=
  ⟨⟨rfl, .inr ⟨g, 0, #[], rfl, hb, hg, Nat.le_refl _, by unfold maxLen; omega, rfl, rfl⟩⟩⟩

/-- append of any bytes, none too: a nil slice has no capacity. -/
theorem run_append_all {w : World} {base g cap n : Nat} {k : List UInt8} (ty : TypeId) (hown : OwnB w base (.slice (some ⟨g, 0, none⟩) n cap) n k) {A : Option Addr} {m c : Nat} {S : ByteArray} (hs : By w A m S) (hA : A = none → c = 0)
    (hnm : n + m ≤ 140737488355328) (hbase : base ≤ w.heap.size) :
    ∃ g' cap' w', (Builtin.append_ #[22, 22] ty #[.slice (some ⟨g, 0, none⟩) n cap, .slice A m c]).run Try.prog w = .ok (.slice (some ⟨g', 0, none⟩) (n + m) cap') w' ∧ OwnB w' base (.slice (some ⟨g', 0, none⟩) (n + m) cap') (n + m) (k ++ S.data.toList) ∧ w.grownBy w' (some g) := by
  rcases Nat.eq_zero_or_pos m with h0 | h0
  · subst h0
    have hS : S.data.toList = [] := by rw [empty_of hs.len]
    obtain ⟨i, hi, hz, hsz, hby⟩ := info_parts info_u8
    rw [hS, List.append_nil]
    cases A with
    | none =>
      obtain rfl := hA rfl
      exact ⟨g, cap, w, run_append_owned_none (P := Try.prog) w base 22 ty 5 i 1 Try.underlying22 hi _ n _ hown.row, hown, World.grownBy.refl w _⟩
    | some a =>
      have hcap : n ≤ cap := by
        rcases hown.row.2 with ⟨h', _⟩ | ⟨g', cap', cur, h', _, _, hnc, _⟩
        · simp at h'
        · simp at h'
          omega
      obtain ⟨w', hr, h1, h2⟩ := run_append_fits (P := Try.prog) w base 22 ty 5 i 1 Try.underlying22 hi hsz g n cap _ hown.row a 0 c [] rfl (by simp) (by simp) (by omega)
      rw [List.append_nil] at h1
      exact ⟨g, cap, w', hr, ⟨h1⟩, h2⟩
  · obtain ⟨v', w', hr, h1, h2, h3⟩ := run_append_by ty hown hs h0 hnm hbase
    obtain ⟨g', cap', rfl, _⟩ := OwnB.shape2 h1 (by omega)
    exact ⟨g', cap', w', hr, h1, h2⟩

theorem heap_old {w : World} {k : Nat} {o o' : Obj} (h : w.heap[k]? = some o) : (w.alloc o').heap[k]? = some o := (Below.heap_alloc _ _ _ (Array.getElem?_eq_some_iff.1 h).1).trans h
theorem heap_new_at {w : World} {g : Nat} {o : Obj} (h : g = w.heap.size) : (w.alloc o).heap[g]? = some o := by
  subst h
  exact heap_alloc_new w o
theorem ext_alloc {w W : World} {o : Obj} (h : Ext w W) : Ext w (W.alloc o) := Ext.of h (Ext.al W o)
theorem ext_drew {w W : World} (h : Ext w W) : Ext w W.drew := Below.drew h
theorem ext_refl (w : World) : Ext w w := Below.refl _ _

theorem OwnB.grows {w w' W : World} {base : Nat} (hx : Ext w W) (hb : w.heap.size ≤ base) {g : Nat} (hg : base ≤ g) (h : W.grownBy w' (some g)) : Ext w w' := hx.grown h hx.size (fun q hq => by injection hq with hq; omega)

section
variable {ops : Array Oper} {o : Oper} {a : Act} {w w0 : World} {K : Act → World → Prop} {Q : Exit → Act → World → Prop} {E : Prop}
theorem step_first {A : Option Addr} {m c g : Nat} {S : ByteArray} (hg : o.guard = none) (hop : o.op = Op.call { callee := Callee.builtin Builtin.append, args := #[.tmp 18, .tmp 19], argTypes := #[22, 22] })
    (hv : a.eval (.tmp 18) = .slice (some ⟨g, 0, none⟩) 0 0) (hx : a.eval (.tmp 19) = .slice A m c) (hs : By w0 A m S) (hA : A = none → c = 0) (hm : m ≤ 1048576) (hgg : w.heap[g]? = some (.cells #[] 5)) (hX : Ext w0 w) (hb : w0.heap.size ≤ g)
    (hK : ∀ g' cap' w', OwnB w' w0.heap.size (.slice (some ⟨g', 0, none⟩) m cap') m S.data.toList → Ext w0 w' → K (a.put o.dst (.slice (some ⟨g', 0, none⟩) m cap')) w') :
    if Region.wanted o (yielded ops a.tmps) = true then Oper.wp Try.prog o a w K Q else E := by
  have hw : Region.wanted o (yielded ops a.tmps) = true := by simp [Region.wanted, hg]
  rw [if_pos hw]
  have ho : OwnB w w0.heap.size (.slice (some ⟨g, 0, none⟩) 0 0) 0 [] := OwnB.fresh hgg hb
  obtain ⟨g', cap', w', hr, h1, h2⟩ := run_append_all o.type ho (hs.ext hX) hA (by omega) hX.size
  rw [Nat.zero_add] at hr h1
  exact Lib.wp_append_run w _ _ 22 22 hop _ _ hv hx _ w' hr (hK g' cap' w' h1 (OwnB.grows hX (Nat.le_refl _) hb h2))
theorem step_second {A : Option Addr} {m c g cap n : Nat} {S : ByteArray} {k : List UInt8} {w1 : World} (hg : o.guard = none) (hop : o.op = Op.call { callee := Callee.builtin Builtin.append, args := #[.tmp 20, .tmp 21], argTypes := #[22, 22] })
    (hv : a.eval (.tmp 20) = .slice (some ⟨g, 0, none⟩) n cap) (ho : OwnB w1 w0.heap.size (.slice (some ⟨g, 0, none⟩) n cap) n k) (hx : a.eval (.tmp 21) = .slice A m c) (hs : By w0 A m S) (hA : A = none → c = 0) (hn : n ≤ 1048576) (hm : m ≤ 1048576) (hX0 : Ext w0 w1) (hX : Ext w1 w)
    (hK : ∀ g' cap' w', OwnB w' w0.heap.size (.slice (some ⟨g', 0, none⟩) (n + m) cap') (n + m) (k ++ S.data.toList) → Ext w0 w' → K (a.put o.dst (.slice (some ⟨g', 0, none⟩) (n + m) cap')) w') :
    if Region.wanted o (yielded ops a.tmps) = true then Oper.wp Try.prog o a w K Q else E := by
  have hw : Region.wanted o (yielded ops a.tmps) = true := by simp [Region.wanted, hg]
  rw [if_pos hw]
  have hX' := Ext.of hX0 hX
  have ho' := ho.later hX
  have hgb : w0.heap.size ≤ g := by
    rcases ho.row.2 with ⟨h', _⟩ | ⟨g', cap', cur, h', hbg, _⟩
    · simp at h'
    · simp only [Value.slice.injEq, Option.some.injEq, Addr.mk.injEq, and_true, true_and] at h'
      omega
  obtain ⟨g', cap', w', hr, h1, h2⟩ := run_append_all o.type ho' (hs.ext hX') hA (by omega) hX'.size
  exact Lib.wp_append_run w _ _ 22 22 hop _ _ hv hx _ w' hr (hK g' cap' w' h1 (OwnB.grows hX' (Nat.le_refl _) hgb h2))
end
end Go.Proofs.Ytmajagdgpmbnhaa
