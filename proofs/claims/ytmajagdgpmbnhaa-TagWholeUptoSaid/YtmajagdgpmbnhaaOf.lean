/-
  told, and the program's tag of bytes.
-/
import Derived.Test.YtmajagdgpmbnhaaTm
import Derived.Laws.FloatArith
import Derived.Lib.SlBytesRow
namespace Go.Proofs.Ytmajagdgpmbnhaa
open Go.RowKit

abbrev tagV (t : Int × Int) : Value := .agg #[.int .i64 t.1, .int .i64 t.2]
/-- A tag behind one byte more. -/
def tstep (t : Int × Int) (c : Int) : Int × Int := (((t.1 * 3 - t.2 * 2) % 1048573 + (c + 1)) % 1048573, ((t.1 * 2 + t.2 * 3) % 1048573 + (256 - c)) % 1048573)
def tagL (l : List UInt8) : Int × Int := l.foldl (fun t c => tstep t (c.toNat : Int)) (0, 0)
def tagOf (S : ByteArray) : Int × Int := tagL S.data.toList
def tagAt (S : ByteArray) (k : Nat) : Int × Int := tagL (S.data.toList.take k)
def Mod2 (t : Int × Int) : Prop := 0 ≤ t.1 ∧ t.1 ≤ 1048572 ∧ 0 ≤ t.2 ∧ t.2 ≤ 1048572
theorem tstep_mod (t : Int × Int) (c : Int) : Mod2 (tstep t c) := by
  unfold tstep Mod2
  refine ⟨?_, ?_, ?_, ?_⟩ <;> simp only <;> omega
theorem fold_mod (l : List UInt8) : ∀ t, Mod2 t → Mod2 (l.foldl (fun t c => tstep t (c.toNat : Int)) t) := by
  induction l with
  | nil => exact fun _ h => h
  | cons c l ih => exact fun t _ => ih _ (tstep_mod _ _)
theorem tagL_mod (l : List UInt8) : Mod2 (tagL l) := fold_mod l _ ⟨by decide, by decide, by decide, by decide⟩
theorem tagAt_zero (S : ByteArray) : tagAt S 0 = (0, 0) := rfl
theorem tagAt_succ {S : ByteArray} {k : Nat} (h : k < S.size) : tagAt S (k + 1) = tstep (tagAt S k) (S[k].toNat : Int) := by
  unfold tagAt tagL
  rw [List.take_succ_eq_append_getElem (by simpa using h), List.foldl_append]
  rfl
theorem tagAt_all {S : ByteArray} {k : Nat} (h : S.size ≤ k) : tagAt S k = tagOf S := by
  unfold tagAt tagOf
  rw [List.take_of_length_le (by simpa using h)]

theorem ftoi {b : Nat} {z : Int} (h : Fl.Wh b z) (hz : -9223372036854775808 ≤ z ∧ z ≤ 9223372036854775807) : floatToIntVal .f64 b .i64 = some z := by
  have e : ((FloatKind.f64.decode b).toInt .zero) = some z := Fl.int_whole h
  unfold floatToIntVal
  rw [e]
  simp only
  rw [if_pos ⟨hz.1, hz.2⟩]
theorem itof (z : Int) (h : z.natAbs < 2 ^ 53) : Fl.Wh (floatOfInt .f64 z) z := Fl.of_int z h

theorem told_any {a b : Nat} {t : Int × Int} (hx : Fl.Wh a t.1) (hy : Fl.Wh b t.2) (ht : Mod2 t) (w : World) : Calls Try.prog 26 #[.complex .f64 a b] w fun e w' => e = .returned (tagV t) ∧ Ext w w' := by
  obtain ⟨b1, b2, b3, b4⟩ := ht
  have k1 := fun w => run_convert_float_int (P := Try.prog) w 54 3 .f64 .i64 a t.1 (by kernel_rfl) Try.underlying3 (ftoi hx (by omega))
  have k2 := fun w => run_convert_float_int (P := Try.prog) w 54 3 .f64 .i64 b t.2 (by kernel_rfl) Try.underlying3 (ftoi hy (by omega))
  go_enter Try.func26, Try.ntmps26
  go_wp2
  exact bodyPost_ret (v := tagV t) (by simp [results, Try.results26, go_sem]) rfl ⟨rfl, (Below.refl _ _).alloc (Nat.le_refl _) _⟩

theorem run_cadd {a b c d r s : Nat} (h : Fl.D.add a c = some r) (h2 : Fl.D.add b d = some s) (t : TypeId) (w : World) : (binOp .add t (.complex .f64 a b) (.complex .f64 c d)).run Try.prog w = .ok (.complex .f64 r s) w := by
  have h' : FloatKind.f64.format.add a c = some r := h
  have h2' : FloatKind.f64.format.add b d = some s := h2
  simp [binOp, Op.complexOp, Op.Complex.arith, Op.floatArith, h', h2']

/-- A slice of bytes that reads as S. -/
structure By (w : World) (A : Option Addr) (n : Nat) (S : ByteArray) : Prop where
  len : S.size = n
  big : n ≤ 9223372036854775807
  at_ : 0 < n → ∃ b off, A = some ⟨b, off, none⟩ ∧ Lib.Bytes w b off S
theorem By.ext {w w' : World} {A : Option Addr} {n : Nat} {S : ByteArray} (h : By w A n S) (hx : Ext w w') : By w' A n S :=
  ⟨h.len, h.big, fun hn => by obtain ⟨b, off, e, hv⟩ := h.at_ hn; exact ⟨b, off, e, fun i hi => hx.cell (hv i hi)⟩⟩

theorem one_whole : Fl.Wh 4607182418800017408 1 := by
  have := Fl.Wh.nat (n := 1) (by omega)
  rw [Fl.one_word] at this
  exact this
theorem two_whole : Fl.Wh 4611686018427387904 2 := by
  have := Fl.Wh.nat (n := 2) (by omega)
  rw [Fl.two_word] at this
  exact this
theorem three_whole : Fl.Wh 4613937818241073152 3 := by
  have := Fl.Wh.nat (n := 3) (by omega)
  rw [Fl.three_word] at this
  exact this
theorem w256_whole : Fl.Wh 4643211215818981376 256 := by
  have := Fl.Wh.nat (n := 256) (by omega)
  rw [Fl.w256_word] at this
  exact this
theorem bcell {W w1 : World} (hb : Below W.heap.size W w1) : (∀ b o, b < W.heap.size → w1.cell? ⟨b, o, none⟩ = W.cell? ⟨b, o, none⟩) ∧ (∀ b o, b < W.heap.size → w1.frozen? ⟨b, o, none⟩ = W.frozen? ⟨b, o, none⟩) :=
  ⟨fun b o h => hb.cell (p := ⟨b, o, none⟩) h, fun b o h => hb.frozen (p := ⟨b, o, none⟩) h⟩
def RetTag (t : Int × Int) (w : World) (e : Ending) (w' : World) : Prop := e = .returned (tagV t) ∧ Ext w w'

set_option maxRecDepth 100000 in
set_option maxHeartbeats 1000000 in
theorem of_any {A : Option Addr} {n c : Nat} {S : ByteArray} {w : World} (h : By w A n S) : Calls Try.prog 14 #[.slice A n c] w (RetTag (tagOf S) w) := by
  have hn : n ≤ 9223372036854775807 := h.big
  have HL := Lib.hid h.len
  have hx := (Below.refl w.heap.size w).alloc (Nat.le_refl _) (.cells #[.int .i64 0, .int .i64 0] 28)
  go_enter Try.func14, Try.ntmps14
  go_wp2
  go_loop [3, 8] (fun t i => ∃ (k a b : Nat), k ≤ n ∧ i = .int .i64 k ∧ t = .complex .f64 a b ∧ Hid (Fl.Wh a (tagAt S k).1) ∧ Hid (Fl.Wh b (tagAt S k).2)) (fun _ i => n - (intOf i).toNat)
  case atStart => exact ⟨0, 0, 0, Nat.zero_le _, rfl, rfl, zero_whole, zero_whole⟩
  case round =>
    obtain ⟨k, a, b, hk, rfl, rfl, ha, hb⟩ := hrel
    obtain ⟨bx, by1, bz, bw⟩ := tagL_mod (S.data.toList.take k)
    by_cases hlt : k < n
    · obtain ⟨bb, off, rfl, hB⟩ := h.at_ (by omega)
      have hk2 : k < S.size := by rw [HL.out]; exact hlt
      obtain ⟨cv, hcv⟩ : ∃ cv : Nat, S[k].toNat = cv := ⟨_, rfl⟩
      have hc1 : cv < 256 := by rw [← hcv]; exact S[k].toNat_lt
      have c0 := Ext.cell hx (hB k hk2)
      rw [hcv] at c0
      have HS := Lib.hid (tagAt_succ hk2)
      rw [hcv] at HS
      obtain ⟨x, y, hxy⟩ : ∃ x y, tagAt S k = (x, y) := ⟨_, _, rfl⟩
      rw [hxy] at ha hb HS
      have hm2 : Mod2 (x, y) := by rw [← hxy]; exact tagL_mod _
      obtain ⟨b1, b2, b3, b4⟩ := hm2
      have b1 : 0 ≤ x := b1
      have b2 : x ≤ 1048572 := b2
      have b3 : 0 ≤ y := b3
      have b4 : y ≤ 1048572 := b4
      obtain ⟨r1, m1, w1⟩ := Fl.add_whole (itof (cv : Int) (by omega)) one_whole (by omega)
      obtain ⟨r2, m2, w2⟩ := Fl.sub_whole w256_whole (itof (cv : Int) (by omega)) (by omega)
      have k1 := fun w => run_fadd m1 54 w
      have k2 := fun w => run_fsub m2 54 w
      clear m1 m2 hcv hk2 hxy
      have ha' : Fl.Wh a x := ha.out
      have hb' : Fl.Wh b y := hb.out
      clear ha hb
      go_wp2_with fail
      refine (times_whole ha' hb' three_whole two_whole ⟨b1, b2⟩ ⟨b3, b4⟩ (by decide) (by decide) _).mono ?_
      rintro e w3 ⟨r, s, rfl, hr, hs, rfl⟩
      obtain ⟨r3, m3, w4⟩ := Fl.add_whole hr w1 (by omega)
      obtain ⟨r4, m4, w5⟩ := Fl.add_whole hs w2 (by omega)
      have k3 := fun w => run_cadd m3 m4 51 w
      clear m3 m4
      go_wp2_with fail
      refine (small_whole w4 w5 _).mono ?_
      rintro e w6 ⟨r5, s5, rfl, hr5, hs5, rfl⟩
      go_wp2
      go_round
      case rel =>
        refine ⟨k + 1, r5, s5, by omega, by go_num, rfl, ?_, ?_⟩
        · show Fl.Wh r5 (tagAt S (k + 1)).1
          rw [HS.out]
          exact hr5
        · show Fl.Wh s5 (tagAt S (k + 1)).2
          rw [HS.out]
          exact hs5
      case measure => simp [intOf]; omega
    · obtain rfl : k = n := by omega
      have hT : tagAt S k = tagOf S := tagAt_all (by rw [HL.out]; exact Nat.le_refl _)
      rw [hT] at ha hb
      clear hT
      go_wp2_with fail
      refine (told_any ha.out hb.out (tagL_mod _) _).mono ?_
      rintro e w1 ⟨rfl, x1⟩
      have hx2 := Ext.of hx x1
      obtain ⟨hc, hf⟩ := bcell x1
      have hz : w.heap.size < w1.heap.size := by have := x1.size; simp at this; omega
      have c0 := hc w.heap.size 0 (by simp)
      have c1 := hc w.heap.size 1 (by simp)
      have f0 := hf w.heap.size 0 (by simp)
      have f1 := hf w.heap.size 1 (by simp)
      simp [World.cell?_alloc_at] at c0 c1
      clear hc hf
      go_wp2
      refine bodyPost_ret (v := tagV (tagOf S)) (by simp [results, Try.results14, go_sem, c0, c1]) rfl ⟨rfl, ?_⟩
      exact (hx2.setCell (Nat.le_refl _) _).setCell (Nat.le_refl _) _

end Go.Proofs.Ytmajagdgpmbnhaa
