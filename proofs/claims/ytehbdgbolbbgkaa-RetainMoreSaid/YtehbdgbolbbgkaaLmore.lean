/-
  RetainMore returns true for every input. No condition.
-/
import Derived.Test.YtehbdgbolbbgkaaLives
import Derived.Test.YtehbdgbolbbgkaaLaws2
import Derived.Test.YtehbdgbolbbgkaaOpen
import Derived.Test.YtehbdgbolbbgkaaRows
import Derived.Deep.DeepCutAuto
import Derived.Deep.RegionLaw
import Derived.Deep.CutRange
namespace Go.Proofs.Ytehbdgbolbbgkaa
open Go.RowKit Go.ChangeShapes Go.WideShapes Go.ChangeAt

theorem among_is {A : Option Addr} {n c : Nat} {L : List Int} {x : Int} {k : Int} {w : World} (h : Sl w A n c L) (hk : (amongN L x : Int) = k) :
    Calls Try.prog 17 #[.slice A n c, .int .i64 x] w fun e w' => e = .returned (.int .i64 k) ∧ Ext w w' := by
  subst hk
  exact among_any x h

theorem heap_old {w : World} {k : Nat} {o o' : Obj} (h : w.heap[k]? = some o) : (w.alloc o').heap[k]? = some o := (Below.heap_alloc _ _ _ (Array.getElem?_eq_some_iff.1 h).1).trans h
theorem heap_new_at {w : World} {g : Nat} {o : Obj} (h : g = w.heap.size) : (w.alloc o).heap[g]? = some o := by
  subst h
  exact World.alloc_heap_new w o
theorem ext_alloc {w W : World} {o : Obj} (h : Ext w W) : Ext w (W.alloc o) := Ext.of h (Ext.alloc W o)
theorem ext_drew {w W : World} (h : Ext w W) : Ext w W.drew := Ext.of h (Ext.drew W)
theorem ext_refl (w : World) : Ext w w := Below.refl _ _

theorem Own.fresh {w : World} {base g : Nat} (hg : w.heap[g]? = some (.cells #[] 3)) (hb : base ≤ g) : Own w base (.slice (some ⟨g, 0, none⟩) 0 0) 0 [] :=
  ⟨⟨rfl, .inr ⟨g, 0, #[], rfl, hb, hg, Nat.le_refl _, by unfold maxLen; omega, rfl, rfl⟩⟩, by simp⟩
theorem Sl.cell1 {w : World} {b : Nat} {x : Int} (h : w.cell? ⟨b, 0, none⟩ = some (.int .i64 x)) (hx : Num x) : Sl w (some ⟨b, 0, none⟩) 1 1 [x] :=
  ⟨rfl, by omega, by omega, by unfold maxLen; omega, fun e => (by cases e), by simpa using hx, fun _ => ⟨_, 0, rfl, fun i v hv => by
    match i, hv with
    | 0, hv => simp at hv; subst hv; exact h⟩⟩

section
variable {ops : Array Oper} {o : Oper} {a : Act} {w w0 : World} {K : Act → World → Prop} {Q : Exit → Act → World → Prop} {E : Prop}
theorem step_append_first {A : Option Addr} {m c g : Nat} {L : List Int} (hg : o.guard = none) (hop : o.op = Op.call { callee := Callee.builtin Builtin.append, args := #[.tmp 23, .tmp 24], argTypes := #[22, 22] })
    (hv : a.eval (.tmp 23) = .slice (some ⟨g, 0, none⟩) 0 0) (hx : a.eval (.tmp 24) = .slice A m c) (hs : Sl w0 A m c L) (hm : m ≤ 1000) (hgg : w.heap[g]? = some (.cells #[] 3)) (hX : Ext w0 w) (hb : w0.heap.size ≤ g)
    (hK : ∀ v' w', Own w' w0.heap.size v' m L → Ext w0 w' → (∀ p u, p.block ≠ g → w.cell? p = some u → w'.cell? p = some u) → K (a.put o.dst v') w') :
    if Region.wanted o (yielded ops a.tmps) = true then Oper.wp Try.prog o a w K Q else E := by
  have hw : Region.wanted o (yielded ops a.tmps) = true := by simp [Region.wanted, hg]
  rw [if_pos hw]
  have ho : Own w w0.heap.size (.slice (some ⟨g, 0, none⟩) 0 0) 0 [] := Own.fresh hgg hb
  obtain ⟨v', w', hr, h1, h2, _⟩ := run_append_int o.type ho (hs.ext hX) (by omega) hX.size
  refine Lib.wp_append_run w _ _ 22 22 hop _ _ hv hx v' w' hr (hK v' w' (by rw [Nat.zero_add, List.nil_append] at h1; exact h1) (ho.grows hX (Nat.le_refl _) h2) fun p u hp hu => ?_)
  have hlt := World.block_lt_of_cell? _ _ hu
  exact (World.cell?_of_block (w := w) (h2.block p.block hlt (fun e => hp (by simpa [Value.ownBlock] using e)))).trans hu
theorem step_append_second {m b : Nat} {L : List Int} {v : Value} {x : Int} {w1 : World} (hg : o.guard = none) (hop : o.op = Op.call { callee := Callee.builtin Builtin.append, args := #[.tmp 25, .tmp 27], argTypes := #[22, 22] })
    (hv : a.eval (.tmp 25) = v) (ho : Own w1 w0.heap.size v m L) (hx : a.eval (.tmp 27) = .slice (some ⟨b, 0, none⟩) 1 1) (hm : m ≤ 1000) (hn : Num x) (hX0 : Ext w0 w1) (hX : Ext w1 w) (hc : w.cell? ⟨b, 0, none⟩ = some (.int .i64 x))
    (hK : ∀ v' w', Own w' w0.heap.size v' (m + 1) (L ++ [x]) → Ext w0 w' → K (a.put o.dst v') w') :
    if Region.wanted o (yielded ops a.tmps) = true then Oper.wp Try.prog o a w K Q else E := by
  have hw : Region.wanted o (yielded ops a.tmps) = true := by simp [Region.wanted, hg]
  rw [if_pos hw]
  have hX' := Ext.of hX0 hX
  have ho' := ho.later hX
  obtain ⟨v', w', hr, h1, h2, _⟩ := run_append_int o.type ho' (Sl.cell1 hc hn) (by omega) hX'.size
  exact Lib.wp_append_run w _ _ 22 22 hop _ _ hv hx v' w' hr (hK v' w' h1 (ho'.grows hX' (Nat.le_refl _) h2))
end

set_option maxHeartbeats 4000000 in
theorem more_walk {w : World} (A : Option Addr) (n c : Nat) (L : List Int) (_hn : n ≤ 9223372036854775807) (hS : n ≤ 1000 → Sl w A n c L) (t : Int) (ht : (Lit.int IntKind.i64 t).wf = true) (l e r : Int) (_hok : Num l ∧ Num e ∧ Num r) :
    Calls Try.prog 5 #[.slice A n c, .int .i64 t, .agg #[.int .i64 l, .int .i64 e, .int .i64 r]] w fun x w' => x = .returned (.bool true) ∧ Below w.heap.size w w' := by
  have x0 := Ext.alloc w (.cells #[.int .i64 l, .int .i64 e, .int .i64 r] 24)
  obtain ⟨g0, g1, g2⟩ := pol_new w l e r 24
  by_cases hbig : n ≤ 300
  · have h := hS (by omega)
    have hs0 := h.ext x0
    have HL := Lib.hid h.len
    have HT : Hid (Num t) := bounds_i64 ht
    obtain ⟨z, hz⟩ : ∃ z, kchk L ⟨l, e, r⟩ = z := ⟨_, rfl⟩
    have HZ := Lib.hid hz
    clear hS hz ht
    go_enter Try.func5, Try.ntmps5
    go_wp2_with fail
    refine (next_is hs0 rfl HZ.out).mono ?_
    rintro y w3 ⟨⟨A3, n3, c3, rfl, hs3⟩, x3⟩
    have X3 := Ext.of x0 x3
    have e0 := x3.cell g0
    have e1 := x3.cell g1
    have e2 := x3.cell g2
    have hl3 := hs0.ext x3
    clear x0 x3 g0 g1 g2 hs0
    obtain ⟨z', hz'⟩ : ∃ z', kchk (L ++ [t]) ⟨l, e, r⟩ = z' := ⟨_, rfl⟩
    have HZ' := Lib.hid hz'
    clear hz'
    go_upto_region 4 with fail
    go_cut [9, 10] from 22 to 32 (fun v9 v10 wx => ∃ A4 c4 n4, v9 = .slice A4 n4 c4 ∧ v10 = .int .i64 z' ∧ Sl wx A4 n4 c4 (inL (L ++ [t]) ⟨l, e, r⟩) ∧ Ext w3 wx)
    case first =>
      have i0 := fun o => Ext.cell (Ext.alloc w3 o) e0
      have ii0 := fun o o2 => Ext.cell (Ext.alloc (w3.alloc o) o2) (i0 o)
      have i1 := fun o => Ext.cell (Ext.alloc w3 o) e1
      have ii1 := fun o o2 => Ext.cell (Ext.alloc (w3.alloc o) o2) (i1 o)
      have i2 := fun o => Ext.cell (Ext.alloc w3 o) e2
      have ii2 := fun o o2 => Ext.cell (Ext.alloc (w3.alloc o) o2) (i2 o)
      go_region_law (first
        | (refine step_append_first (w0 := w3) rfl rfl rfl rfl hl3 ?_ ?_ ?_ ?_ ?_
           · omega
           · first | exact World.alloc_heap_new _ _ | exact heap_old (World.alloc_heap_new _ _) | (refine heap_new_at ?_; simp)
           · (repeat (first | exact ext_refl _ | apply ext_alloc | apply ext_drew))
           · simp
           intro v1 w1 ho1 hX1 hkeep
           have k0 := hX1.cell e0
           have k1 := hX1.cell e1
           have k2 := hX1.cell e2
           have j0 := fun o => Ext.cell (Ext.alloc w1 o) k0
           have j1 := fun o => Ext.cell (Ext.alloc w1 o) k1
           have j2 := fun o => Ext.cell (Ext.alloc w1 o) k2)
        | (refine step_append_second (w0 := w3) rfl rfl rfl ho1 rfl ?_ HT.out hX1 ?_ ?_ ?_
           · omega
           · (repeat (first | exact ext_refl _ | apply ext_alloc | apply ext_drew))
           · first | exact cell_new _ _ _ | (refine hkeep _ _ ?_ ?_ <;> simp)
           intro v2 w2 ho2 hX2
           obtain ⟨A2, c2, rfl, hs2⟩ := ho2.slice (by omega)
           have k0 := hX2.cell e0
           have k1 := hX2.cell e1
           have k2 := hX2.cell e2)
        | (go_simp
           refine (keep_is hs2 keep_eq HZ'.out).mono ?_
           rintro y w4 ⟨⟨v4, n4, rfl, hn4, ho4⟩, x4⟩
           obtain ⟨A4, c4, rfl, hs4⟩ := ho4.slice (by omega)))
      all_goals (go_wp2_with fail; go_meet; exact ⟨_, _, _, rfl, rfl, hs4, Ext.of hX2 x4⟩)
    case rest =>
      obtain ⟨A4, c4, n4, rfl, rfl, hs4, x4⟩ := hcut
      have X4 := Ext.of X3 x4
      have hs34 := hs3.ext x4
      clear X3 x4 e0 e1 e2 hl3 hs3
      by_cases hzz : z = 0 ∧ z' = 0
      · obtain ⟨rfl, rfl⟩ := hzz
        have HL2 := Lib.hid (more_last HZ'.out)
        have HO := Lib.hid (fun (i : Nat) v => more_out (i := i) (v := v) HZ.out HZ'.out)
        have hb3 : n3 ≤ 300 := by have := in_out HZ.out; have := hs34.len; have := HL.out; omega
        go_wp2
        go_loopw [11] (fun a wr => ∃ i : Nat, i ≤ n3 ∧ a = .int .i64 i ∧ Ext wc wr) (fun a _ => n3 - (intOf a).toNat)
        case atStart => exact ⟨0, by omega, rfl, Below.refl _ _⟩
        case round =>
          obtain ⟨i, hi, rfl, hx⟩ := hrel
          by_cases hlt : i < n3
          · obtain ⟨b, off, rfl, ha⟩ := hs34.at_ (by omega)
            obtain ⟨v, hv, hv1, hv2⟩ := hs34.get hlt
            have c0 := hx.cell (ha _ _ hv.out)
            have hz0 := Lib.hid (show ((amongN (inL (L ++ [t]) ⟨l, e, r⟩) v : Nat) : Int) = 0 by rw [HO.out i v hv.out]; rfl)
            have hs4x := hs4.ext hx
            go_wp2_with fail
            refine (among_is hs4x hz0.out).mono ?_
            rintro y w8 ⟨rfl, x8⟩
            have hx8 := Ext.of hx x8
            clear hx x8 c0 hs4x
            go_wp2
            go_roundw
            case rel => exact ⟨i + 1, by omega, by go_num, hx8⟩
            case measure => simp [intOf]; omega
          · have XX := Ext.of X4 hx
            have hs4x := hs4.ext hx
            have hz1 := Lib.hid (show ((amongN (inL (L ++ [t]) ⟨l, e, r⟩) t : Nat) : Int) = 1 by rw [HL2.out]; rfl)
            clear hx
            go_wp2_with fail
            refine (among_is hs4x hz1.out).mono ?_
            rintro y w8 ⟨rfl, x8⟩
            have X8 := Ext.of XX x8
            clear XX x8
            go_wp2_with fail
            refine (lives_any _).mono ?_
            rintro y w9 ⟨rfl, x9⟩
            have X9 := Ext.of X8 x9
            clear X8 x9
            go_wp2
            go_ret
            exact ⟨rfl, X9⟩
      · by_cases hz0 : z = 0
        · subst hz0
          have hz1 : (z' != 0) = true := by simpa using hzz
          clear hzz
          go_wp2_with fail
          refine (lives_any _).mono ?_
          rintro y w9 ⟨rfl, x9⟩
          have X9 := Ext.of X4 x9
          clear X4 x9
          go_wp2
          go_ret
          exact ⟨rfl, X9⟩
        · have hz1 : (z != 0) = true := by simpa using hz0
          clear hzz hz0
          go_wp2_with fail
          refine (lives_any _).mono ?_
          rintro y w9 ⟨rfl, x9⟩
          have X9 := Ext.of X4 x9
          clear X4 x9
          go_wp2
          go_ret
          exact ⟨rfl, X9⟩
  · clear hS
    go_enter Try.func5, Try.ntmps5
    go_wp2_with fail
    refine (lives_any _).mono ?_
    rintro y w7 ⟨rfl, x7⟩
    have X := Ext.of x0 x7
    clear x0 x7
    go_wp2
    go_ret
    exact ⟨rfl, X⟩

set_option maxRecDepth 100000 in
theorem more_lifted (os : Os) (started : os.Started) (H : Type) (enc : TypeId × Value → H) :
    ReturnsInHanded {} Try.checked os 5 .any (Rows.retainMoreSpec.pre6 enc Try.prog Try.f5 Rows.retainMoreRow.domain false) (Rows.retainMoreSpec.post enc Try.prog Try.f5 false true false false) := by
  refine returnsInHanded_of_change (C := Try.checked) ownK started (by kernel_rfl) Try.func5
    (ChangeSpec.witness6 (enc := enc) (C := Try.checked) false ⟨#[], #[.slice none 0 0, .int .i64 0, .agg #[.int .i64 0, .int .i64 0, .int .i64 0]], []⟩ 8 (by kernel_rfl) (by kernel_rfl) (by kernel_rfl) (by kernel_rfl)) ?_
  intro W base args ds gs before hval0 hW hcnd _
  have hval : ∀ (j : Nat) t v, Try.f5.params[j]? = some t → args[j]? = some v → Value.okWide Try.prog W .any base t v := hval0
  have hW' := hW
  obtain ⟨p, q, hA0, hV, rfl, hfz, hnd⟩ := hW
  have hA : DataW.TrodAll enc Try.prog W 0 (fun _ => true) true Try.f5.params.toList args.toList ds p := hA0
  rw [Try.params5] at hA hval
  obtain ⟨v0, vs0, d0, ds0, p0, q0, hargs, rfl, rfl, h0, r0⟩ := trodAll_cons hA
  obtain ⟨v1, vs1, d1, ds1, p1, q1, rfl, rfl, rfl, h1, r1⟩ := trodAll_cons r0
  obtain ⟨v2, vs2, d2, ds2, p2, q2, rfl, rfl, rfl, h2, r2⟩ := trodAll_cons r1
  obtain ⟨rfl, rfl, rfl⟩ := trodAll_nil r2
  obtain rfl : args = #[v0, v1, v2] := by cases args; simp_all
  obtain ⟨rfl, rfl⟩ := trodVars_none hV
  have k0 := h0
  have lt0 : ∀ x ∈ p0, x.block < W.heap.size := by obtain ⟨m, hm⟩ := k0; exact DataW.trod_lt m _ _ _ hm
  obtain ⟨A0, n0, c0, L0, rfl, hn0, hS0⟩ := open_nums (hval 0 22 v0 rfl rfl) h0
  obtain ⟨a1, rfl, rfl, rfl, w1⟩ := open_int Try.underlying3 (hval 1 3 v1 rfl rfl) h1
  have k2 := h2
  have lt2 : ∀ x ∈ p2, x.block < W.heap.size := by obtain ⟨m, hm⟩ := k2; exact DataW.trod_lt m _ _ _ hm
  obtain ⟨x2, y2, z2, rfl, hok2⟩ := open_policy (hval 2 24 v2 rfl rfl) h2
  clear hA0 hval0
  refine (more_walk (w := W) A0 n0 c0 L0 hn0 hS0 a1 w1 x2 y2 z2 hok2).mono fun e W' ⟨he, bel⟩ => ?_
  subst he
  exact ⟨_, rfl, _, _, _, [], _, [], hW', trodAll_mk1 (shut_bool Try.underlying4 _), (trodAll_cons_mk (Below.trod laidOut (by kernel_rfl) (of_decide_eq_true (by kernel_rfl)) k0 bel lt0) (trodAll_cons_mk (shut_int Try.underlying3 w1) (trodAll_cons_mk (Below.trod laidOut (by kernel_rfl) (of_decide_eq_true (by kernel_rfl)) k2 bel lt2) trodAll_mk0))), rfl, bel.frame _, fun h => by cases h⟩

theorem more_over : Rows.retainMoreRow.holds Try.pinned (OpenSpec.ofChange Rows.retainMoreSpec) :=
  OpenClaim.holds_of_wide 5 Try.f5 rfl rfl rfl rfl rfl rfl rfl ⟨rfl, rfl, rfl, rfl, rfl⟩ rfl rfl rfl rfl rfl (by kernel_rfl) Try.func5 (by kernel_rfl)
    (of_decide_eq_true (by kernel_rfl)) (by unfold Func.isWrapper; first | (rw [if_pos (by decide +kernel)]; kernel_rfl) | (rw [if_neg (by decide +kernel)]; exact ⟨rfl, rfl⟩))
    (fun os started H enc _ => more_lifted os started H enc)

/-- The statement. -/
theorem more_holds : Rows.RetainMoreSaid := more_over

#print axioms more_holds
end Go.Proofs.Ytehbdgbolbbgkaa
