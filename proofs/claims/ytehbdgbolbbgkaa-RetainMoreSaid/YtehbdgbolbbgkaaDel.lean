/-
  slices.DeleteFunc over a row of the call's own; Next.
-/
import Derived.Test.YtehbdgbolbbgkaaFind
import Derived.Test.YtehbdgbolbbgkaaMark
import Derived.BigFrame
namespace Go.Proofs.Ytehbdgbolbbgkaa
open Go.RowKit

theorem zero3 (w : World) : (zeroValue 3).run Try.prog w = .ok (.int .i64 0) w := by kernel_rfl

theorem ext_setCells {a : World} (g : Nat) (hg : a.heap.size ≤ g) : ∀ (vs : List Value) (o : Nat) {w : World}, Ext a w → Ext a (w.setCells g o vs)
  | [], _, _, h => h
  | v :: r, o, _, h => ext_setCells g hg r (o + 1) (Below.setCell h (p := ⟨g, o, none⟩) hg v)

def keepsB (p : Int → Bool) (L : List Int) : List Int := L.filter fun x => !p x
theorem keeps_hit {p : Int → Bool} {L : List Int} {j : Nat} {v : Int} (h : L[j]? = some v) (hp : p v = true) : keepsB p (L.take (j + 1)) = keepsB p (L.take j) := by
  unfold keepsB
  rw [← take_snoc h, List.filter_append]
  simp [hp]
theorem keeps_miss {p : Int → Bool} {L : List Int} {j : Nat} {v : Int} (h : L[j]? = some v) (hp : p v = false) : keepsB p (L.take (j + 1)) = keepsB p (L.take j) ++ [v] := by
  unfold keepsB
  rw [← take_snoc h, List.filter_append]
  simp [hp]
theorem keeps_all {p : Int → Bool} {L : List Int} (h : ∀ (k : Nat) u, L[k]? = some u → p u = false) : keepsB p L = L := by
  unfold keepsB
  rw [List.filter_eq_self]
  intro x hx
  obtain ⟨k, hk⟩ := List.getElem?_of_mem hx
  simp [h k x hk]

theorem idxOf_cases (p : Int → Bool) (L : List Int) : (idxOf p L 0 = -1 ∧ ∀ (k : Nat) u, L[k]? = some u → p u = false) ∨ ∃ (i : Nat) (v : Int), idxOf p L 0 = i ∧ L[i]? = some v ∧ p v = true ∧ ∀ (k : Nat) u, k < i → L[k]? = some u → p u = false := by
  suffices H : ∀ n, n ≤ L.length → (∀ (k : Nat) u, k < n → L[k]? = some u → p u = false) ∨ ∃ (i : Nat) (v : Int), L[i]? = some v ∧ p v = true ∧ ∀ (k : Nat) u, k < i → L[k]? = some u → p u = false by
    rcases H L.length (Nat.le_refl _) with h | ⟨i, v, h1, h2, h3⟩
    · have h' : ∀ (k : Nat) u, L[k]? = some u → p u = false := fun k u hu => h k u (List.getElem?_eq_some_iff.1 hu).1 hu
      exact .inl ⟨idxOf_miss h' 0, h'⟩
    · exact .inr ⟨i, v, by rw [idxOf_hit h1 h2 h3, Nat.zero_add], h1, h2, h3⟩
  intro n
  induction n with
  | zero => intro _; exact .inl fun k u hk => absurd hk (by omega)
  | succ n ih =>
    intro hn
    rcases ih (by omega) with h | h
    · have hv := List.getElem?_eq_getElem (show n < L.length by omega)
      cases hp : p L[n] with
      | true => exact .inr ⟨n, _, hv, hp, h⟩
      | false =>
        refine .inl fun k u hk hu => ?_
        rcases Nat.lt_or_ge k n with hl | hl
        · exact h k u hl hu
        · obtain rfl : k = n := by omega
          rw [hv] at hu
          injection hu with hu
          rw [← hu]
          exact hp
    · exact .inr h

theorem Own.read {w : World} {base g n cap : Nat} {K : List Int} (h : Own w base (.slice (some ⟨g, 0, none⟩) n cap) n K) {j : Nat} {v : Int} (hv : K[j]? = some v) : w.cell? ⟨g, j, none⟩ = some (.int .i64 v) := by
  have := h.row.cells (g := g) rfl j _ (cellsOf_at hv)
  rw [add_lit, Nat.zero_add] at this
  exact this
theorem Own.free {w : World} {base g n cap : Nat} {K : List Int} (h : Own w base (.slice (some ⟨g, 0, none⟩) n cap) n K) (j : Nat) : w.frozen? ⟨g, j, none⟩ = false := by
  rcases h.row.2 with ⟨h0, _⟩ | ⟨g', cap', cur, h0, _, hg, _⟩
  · cases h0
  · cases h0
    simp [World.frozen?, hg]
theorem Own.caps {w : World} {base g n cap : Nat} {K : List Int} (h : Own w base (.slice (some ⟨g, 0, none⟩) n cap) n K) : n ≤ cap ∧ cap ≤ maxLen ∧ base ≤ g := by
  rcases h.row.2 with ⟨h0, _⟩ | ⟨g', cap', cur, h0, hb, hg, h1, h2, _⟩
  · cases h0
  · cases h0
    exact ⟨h1, h2, hb⟩

/-- One round that keeps a number. -/
theorem del_step {w0 w : World} {base g n cap : Nat} {M L : List Int} {p : Int → Bool} {i j : Nat} {v : Int} (h : Own w base (.slice (some ⟨g, 0, none⟩) n cap) n M) (hx : Ext w0 w) (hb : w0.heap.size ≤ base) (hv : L[j]? = some v) (hp : p v = false) (hn : Num v) (hij : i ≤ j) (hjn : j < n)
    (h1 : M.take i = keepsB p (L.take j)) (h2 : ∀ k, j ≤ k → M[k]? = L[k]?) :
    Own (w.setCell ⟨g, i, none⟩ (.int .i64 v)) base (.slice (some ⟨g, 0, none⟩) n cap) n (M.set i v) ∧ Ext w0 (w.setCell ⟨g, i, none⟩ (.int .i64 v)) ∧ Hid ((M.set i v).take (i + 1) = keepsB p (L.take (j + 1))) ∧ Hid (∀ k, j + 1 ≤ k → (M.set i v)[k]? = L[k]?) := by
  obtain ⟨a1, a2⟩ := h.set i hn
  have hM := h.len
  refine ⟨a1, hx.grown a2 hx.size (fun k hk => by cases hk; exact Nat.le_trans hb h.caps.2.2), ?_, ?_⟩
  · show _ = _
    rw [keeps_miss hv hp, ← h1, ← take_snoc (List.getElem?_set_self (by omega)), List.take_set_of_le (Nat.le_refl _)]
  · intro k hk
    rw [List.getElem?_set_ne (by omega)]
    exact h2 k (by omega)

def RetRow (w' : World) (L : List Int) (e : Ending) : Prop := ∃ A n c, e = .returned (.slice A n c) ∧ Sl w' A n c L

theorem del_done {w0 w : World} {base g n cap : Nat} {M L : List Int} {p : Int → Bool} {i : Nat} (h : Own w base (.slice (some ⟨g, 0, none⟩) n cap) n M) (hx : Ext w0 w) (hb : w0.heap.size ≤ base) (hi : i < n) (hn : n ≤ 1099511627776) (hL : L.length = n)
    (h1 : M.take i = keepsB p (L.take n)) (vs : List Value) : RetRow (w.setCells g i vs) (keepsB p L) (.returned (.slice (some ⟨g, 0, none⟩) i cap)) ∧ Ext w0 (w.setCells g i vs) := by
  obtain ⟨c1, c2, c3⟩ := h.caps
  rw [← hL, List.take_length] at h1
  have hM := h.len
  refine ⟨⟨_, _, _, rfl, ?_, by omega, by omega, c2, fun h0 => (by cases h0), ?_, fun _ => ⟨g, 0, rfl, ?_⟩⟩, ext_setCells g (Nat.le_trans hb c3) vs i hx⟩
  · rw [← h1, List.length_take]
    omega
  · intro x hx'
    rw [← h1] at hx'
    exact h.ok x (List.mem_of_mem_take hx')
  · intro k v hv
    rw [← h1] at hv
    have hk : k < i := by
      have := (List.getElem?_eq_some_iff.1 hv).1
      rw [List.length_take] at this
      omega
    rw [List.getElem?_take_of_lt hk] at hv
    rw [World.cell?_setCells_out g vs i w ⟨g, 0 + k, none⟩ (fun _ _ => .inl (by simp; omega)), Nat.zero_add]
    exact h.read hv

set_option maxHeartbeats 2000000 in
theorem delete_any {w0 w : World} {base n : Nat} {v : Value} {L : List Int} {p : Int → Bool} {c : Value} (h : Own w base v n L) (hn : n ≤ 1099511627776) (hx : Ext w0 w) (hb : w0.heap.size ≤ base)
    (hf : ∀ x w', Ext w0 w' → Calls Try.prog 21 #[.int .i64 x, c] w' fun e w'' => e = .returned (.bool (p x)) ∧ Ext w' w'') :
    Calls Try.prog 23 #[v, .func (.func 21) #[] #[c]] w fun e w' => RetRow w' (keepsB p L) e ∧ Ext w0 w' := by
  obtain ⟨A, cap, rfl, hs⟩ := h.slice hn
  have HF := Lib.hid hf
  have HL := Lib.hid h.len
  clear hf
  go_enter Try.func23, Try.ntmps23
  go_wp2_with fail
  refine (index_any hs (fun x w' hw => HF.out x w' (Ext.of hx hw))).mono ?_
  rintro e w1 ⟨rfl, x1⟩
  have X := Ext.of hx x1
  have h1 := h.later x1
  have hs1 := hs.ext x1
  clear hx x1 h hs
  rcases idxOf_cases p L with ⟨e1, hall⟩ | ⟨i, u, e1, hu, hpu, hlt⟩
  · have HK := Lib.hid (keeps_all hall)
    rw [e1]
    clear e1 hall
    go_wp2
    go_ret
    exact ⟨⟨_, _, _, rfl, by rw [HK.out]; exact hs1⟩, X⟩
  · rw [e1]
    have hin : i < n := by have := (List.getElem?_eq_some_iff.1 hu).1; have := HL.out; omega
    obtain ⟨g, rfl⟩ : ∃ g, A = some ⟨g, 0, none⟩ := by
      rcases h1.row.2 with ⟨h0, h00⟩ | ⟨g, cap', cur, h0, _⟩
      · omega
      · cases h0; exact ⟨g, rfl⟩
    have HU := Lib.hid hu
    have HP := Lib.hid hpu
    have HT : Hid (L.take i = keepsB p (L.take (i + 1))) := by
      show _ = _
      rw [keeps_hit hu hpu]
      refine (keeps_all fun k z hz => ?_).symm
      have hk : k < i := by
        have := (List.getElem?_eq_some_iff.1 hz).1
        rw [List.length_take] at this
        omega
      rw [List.getElem?_take_of_lt hk] at hz
      exact hlt k z hk hz
    clear e1 hu hpu hlt hs1
    go_wp2
    go_loopw [5, 6] (fun a b wr => ∃ (i j : Nat) (M : List Int), i < j ∧ j ≤ n ∧ a = .int .i64 i ∧ b = .int .i64 j ∧ Own wr base (.slice (some ⟨g, 0, none⟩) n cap) n M ∧ Hid (M.take i = keepsB p (L.take j)) ∧ Hid (∀ k, j ≤ k → M[k]? = L[k]?) ∧ Ext w0 wr) (fun _ b _ => n - (intOf b).toNat)
    case atStart => exact ⟨i, i + 1, L, by omega, by omega, rfl, by go_num, h1, HT.out, (fun k _ => rfl), X⟩
    case round =>
      obtain ⟨i, j, M, hij, hjn, rfl, rfl, hm, ht, hd, hxr⟩ := hrel
      obtain ⟨hc1, hc2, hc3⟩ := hm.caps
      by_cases hlt : j < n
      · obtain ⟨u, hu⟩ : ∃ u, L[j]? = some u := ⟨_, List.getElem?_eq_getElem (by rw [HL.out]; exact hlt)⟩
        have hMu : M[j]? = some u := (hd.out j (Nat.le_refl _)).trans hu
        have HV := Lib.hid hu
        have c0 := hm.read hMu
        have hnu : Hid (Num u) := hm.ok u (List.mem_of_getElem? hMu)
        clear hu hMu
        cases hp : p u with
        | true =>
          have HQ := Lib.hid hp
          clear hp
          go_wp2_with fail
          refine (HF.out u _ hxr).mono ?_
          rintro e w2 ⟨rfl, x2⟩
          rw [HQ.out]
          have X2 := Ext.of hxr x2
          have hm2 := hm.later x2
          clear hxr x2 hm c0
          go_wp2
          go_roundw
          case rel =>
            repeat apply Exists.intro
            exact ⟨⟨i, j + 1, M, by omega, by omega, rfl, by go_num, hm2, (by show _ = _; rw [keeps_hit HV.out HQ.out]; exact ht.out), (fun k hk => hd.out k (by omega)), X2⟩, rfl⟩
          case measure => simp [intOf]; omega
        | false =>
          have HQ := Lib.hid hp
          clear hp
          go_wp2_with fail
          refine (HF.out u _ hxr).mono ?_
          rintro e w2 ⟨rfl, x2⟩
          rw [HQ.out]
          have X2 := Ext.of hxr x2
          have hm2 := hm.later x2
          obtain ⟨z, hz⟩ : ∃ z, M[i]? = some z := ⟨_, List.getElem?_eq_getElem (by have := hm2.len; omega)⟩
          have k0 := hm2.read hz
          have f0 := hm2.free i
          obtain ⟨s1, s2, s3, s4⟩ := del_step hm2 X2 hb HV.out HQ.out hnu.out (Nat.le_of_lt hij) hlt ht.out hd.out
          clear hxr x2 hm c0 hz
          go_wp2
          go_roundw
          case rel =>
            repeat apply Exists.intro
            exact ⟨⟨i + 1, j + 1, M.set i u, by omega, by omega, by go_num, by go_num, s1, s3, s4, s2⟩, rfl⟩
          case measure => simp [intOf]; omega
      · obtain rfl : j = n := by omega
        have hcl : ∀ ty, (Builtin.clear_ #[22] ty #[.slice (some ⟨g, i, none⟩) (j - i) (cap - i)]).run Try.prog wr = .ok (.tuple #[]) (wr.setCells g i (List.replicate (j - i) (.int .i64 0))) := by
          intro ty
          refine Lib.run_clear_slice wr 22 3 ty (.int .i64 0) Try.underlying22 zero3 rfl rfl g i (j - i) (cap - i) (by omega) (fun k hk => ?_) (fun k _ => hm.free _)
          obtain ⟨z, hz⟩ : ∃ z, M[i + k]? = some z := ⟨_, List.getElem?_eq_getElem (by have := hm.len; omega)⟩
          rw [hm.read hz]
          rfl
        have hne : ¬ cap = i := by omega
        go_wp2_with (simp only [hcl])
        go_ret
        exact del_done hm hxr hb hij hn HL.out ht.out _

end Go.Proofs.Ytehbdgbolbbgkaa
