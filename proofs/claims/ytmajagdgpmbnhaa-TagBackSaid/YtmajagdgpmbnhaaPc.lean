/-
  Parse of the program.
-/
import Derived.Test.YtmajagdgpmbnhaaPb
namespace Go.Proofs.Ytmajagdgpmbnhaa
open Go.RowKit

theorem Cel.put0 {w : World} {b : Nat} {x y : Int} (h : Cel w b x y) (x' : Int) : Cel (w.setCell ⟨b, 0, none⟩ (.int .i64 x')) b x' y := by
  obtain ⟨h0, h1, h2, h3, h4⟩ := h
  exact ⟨by simpa using h0, by go_simp, by go_simp, by go_simp, by go_simp⟩
theorem Cel.put1 {w : World} {b : Nat} {x y : Int} (h : Cel w b x y) (y' : Int) : Cel (w.setCell ⟨b, 1, none⟩ (.int .i64 y')) b x y' := by
  obtain ⟨h0, h1, h2, h3, h4⟩ := h
  exact ⟨by simpa using h0, by go_simp, by go_simp, by go_simp, by go_simp⟩
/-- What stands in the two numbers behind k bytes. -/
def two0 (S : ByteArray) (k : Nat) : Option Nat := vals (S.data.toList.take (min k 5)) 0
def two1 (S : ByteArray) (k : Nat) : Option Nat := vals ((S.data.toList.drop 5).take (k - 5)) 0
theorem two0_succ {S : ByteArray} {k m d : Nat} (h : k < S.size) (hk : k < 5) (hm : two0 S k = some m) (hd : dv S[k].toNat = some d) : two0 S (k + 1) = some (16 * m + d) := by
  unfold two0 at *
  rw [show min (k + 1) 5 = k + 1 by omega]
  rw [show min k 5 = k by omega] at hm
  have := valAt_succ h
  unfold valAt at this
  rw [this, hm, hd]
theorem two0_keep {S : ByteArray} {k m : Nat} (hk : 5 ≤ k) (hm : two0 S k = some m) : two0 S (k + 1) = some m := by
  unfold two0 at *
  rw [show min (k + 1) 5 = min k 5 by omega]
  exact hm
theorem two1_keep {S : ByteArray} {k m : Nat} (hk : k < 5) (hm : two1 S k = some m) : two1 S (k + 1) = some m := by
  unfold two1 at *
  rw [show k + 1 - 5 = k - 5 by omega]
  exact hm
theorem two1_succ {S : ByteArray} {k m d : Nat} (h : k < S.size) (hk : 5 ≤ k) (hm : two1 S k = some m) (hd : dv S[k].toNat = some d) : two1 S (k + 1) = some (16 * m + d) := by
  unfold two1 at *
  obtain ⟨j, rfl⟩ : ∃ j, k = 5 + j := ⟨k - 5, by omega⟩
  rw [show 5 + j + 1 - 5 = j + 1 by omega]
  rw [show 5 + j - 5 = j by omega] at hm
  have hl : S.data.toList.length = S.size := by simp
  have hj : j < (S.data.toList.drop 5).length := by rw [List.length_drop]; omega
  rw [List.take_succ_eq_append_getElem hj, vals_append, hm]
  have e : (S.data.toList.drop 5)[j] = S[5 + j] := by
    rw [List.getElem_drop]
    rfl
  rw [e, hd]
theorem two_lt {S : ByteArray} {k m : Nat} (h : two0 S k = some m ∨ two1 S k = some m) (hk : k ≤ 10) : m < 1048576 := by
  have key : ∀ l : List UInt8, l.length ≤ 5 → vals l 0 = some m → m < 1048576 := by
    intro l hl hv
    have h1 := vals_lt _ _ _ hv
    have h3 : 16 ^ l.length ≤ 16 ^ 5 := Nat.pow_le_pow_right (by decide) hl
    rw [Nat.zero_add, Nat.mul_one] at h1
    exact Nat.lt_of_lt_of_le h1 h3
  rcases h with h | h
  · exact key _ (by rw [List.length_take]; omega) h
  · exact key _ (by rw [List.length_take]; omega) h
theorem two_done {S : ByteArray} {m q : Nat} (h : S.size = 10) (h0 : two0 S 10 = some m) (h1 : two1 S 10 = some q) : pa S = m ∧ pb S = q := by
  unfold two0 at h0
  unfold two1 at h1
  have hl : S.data.toList.length = S.size := by simp
  rw [show min 10 5 = 5 by omega] at h0
  rw [List.take_of_length_le (by rw [List.length_drop]; omega)] at h1
  unfold pa pb valI
  rw [h0, h1]
  exact ⟨rfl, rfl⟩
theorem right_minus1 (y : Int) : right (-1, y) = false := right_no1 (by omega)
theorem right_minus2 (x : Int) : right (x, -1) = false := right_no2 (by omega)
/-- A byte that is no digit. -/
theorem two_stop {S : ByteArray} {k m q : Nat} (h : k < S.size) (h10 : S.size = 10) (h0 : two0 S k = some m) (h1 : two1 S k = some q) (hd : dv S[k].toNat = none) : pOk S = false := by
  have hl : S.data.toList.length = S.size := by simp
  unfold pOk
  rw [decide_eq_true h10, Bool.true_and]
  rcases Nat.lt_or_ge k 5 with hk | hk
  · have e : pa S = -1 := by
      unfold two0 at h0
      rw [show min k 5 = k by omega] at h0
      have h2 := valAt_succ h
      unfold valAt at h2
      rw [h0, hd] at h2
      have h3 := vals_stop (S.data.toList.take (k + 1)) ((S.data.toList.take 5).drop (k + 1)) 0 h2
      have e2 : S.data.toList.take (k + 1) = (S.data.toList.take 5).take (k + 1) := by rw [List.take_take, show min (k + 1) 5 = k + 1 by omega]
      rw [e2, List.take_append_drop] at h3
      unfold pa valI
      rw [h3]
    rw [e]
    exact right_minus1 _
  · have e : pb S = -1 := by
      unfold two1 at h1
      obtain ⟨j, rfl⟩ : ∃ j, k = 5 + j := ⟨k - 5, by omega⟩
      rw [show 5 + j - 5 = j by omega] at h1
      have hj : j < (S.data.toList.drop 5).length := by rw [List.length_drop]; omega
      have e1 : (S.data.toList.drop 5)[j] = S[5 + j] := by
        rw [List.getElem_drop]
        rfl
      have h2 : vals ((S.data.toList.drop 5).take (j + 1)) 0 = none := by
        rw [List.take_succ_eq_append_getElem hj, vals_append, h1, e1, hd]
      have h3 := vals_stop _ ((S.data.toList.drop 5).drop (j + 1)) 0 h2
      rw [List.take_append_drop] at h3
      unfold pb valI
      rw [h3]
    rw [e]
    exact right_minus2 _
theorem or_shift {m d : Nat} (hm : m < 1048576) (hd : d < 16) : bits BinOp.or IntKind.i64 ((m : Int) * 16) (d : Int) = ((16 * m + d : Nat) : Int) := by
  have h2 : 16 * m ||| d = 16 * m + d := by
    have := Nat.two_pow_add_eq_or_of_lt (i := 4) (b := d) hd m
    exact this.symm
  have e : (m : Int) * 16 = ((16 * m : Nat) : Int) := by omega
  rw [e]
  show IntKind.i64.wrap ((BitVec.ofInt 64 ((16 * m : Nat) : Int) ||| BitVec.ofInt 64 (d : Int)).toNat : Int) = _
  rw [BitVec.toNat_or, ofInt_u64 (16 * m) (by omega), ofInt_u64 d (by omega), h2, IntKind.wrap_i64]
  omega

set_option maxRecDepth 100000 in
set_option maxHeartbeats 2000000 in
theorem parse_any (S : ByteArray) (_ : S.size ≤ 9223372036854775807) (w : World) : Calls Try.prog 22 #[.string S] w (RetP S w) := by
  have hA := Cel.new w 0 0 28
  have X := Ext.al w (.cells #[.int .i64 0, .int .i64 0] 28)
  by_cases h10 : S.size = 10
  · have H10 := Lib.hid h10
    have g0 : ((S.size : Int) != 10) = false := by rw [h10]; rfl
    have hB0 : Cel ((w.alloc (.cells #[.int .i64 0, .int .i64 0] 28)).alloc (.cells #[.int .i64 0, .int .i64 0] 63)) (w.heap.size + 1) 0 0 := by
      have h := Cel.new (w.alloc (.cells #[.int .i64 0, .int .i64 0] 28)) 0 0 63
      have e : (w.alloc (.cells #[.int .i64 0, .int .i64 0] 28)).heap.size = w.heap.size + 1 := by simp
      rw [e] at h
      exact h
    have hA0 := hA.ext (Ext.al _ (.cells #[.int .i64 0, .int .i64 0] 63))
    have X0 := Ext.of X (Ext.al _ (.cells #[.int .i64 0, .int .i64 0] 63))
    clear h10 hA X
    go_enter Try.func22, Try.ntmps22
    go_wp2
    go_loopw [13] (fun i wr => ∃ k m q : Nat, k ≤ 10 ∧ i = .int .i64 k ∧ Cel wr w.heap.size 0 0 ∧ Cel wr (w.heap.size + 1) m q ∧ Ext w wr ∧ Hid (two0 S k = some m) ∧ Hid (two1 S k = some q)) (fun i _ => 10 - (intOf i).toNat)
    case atStart => exact ⟨0, 0, 0, by omega, rfl, hA0, hB0, X0, rfl, rfl⟩
    case round =>
      clear hA0 hB0 X0
      obtain ⟨k, m, q, hk, rfl, hA, hB, hX, h0, h1⟩ := hrel
      have bm : m < 1048576 := two_lt (.inl h0.out) hk
      have bq : q < 1048576 := two_lt (.inr h1.out) hk
      by_cases hlt : k < 10
      · have hks : k < S.size := by rw [H10.out]; exact hlt
        obtain ⟨c, hc⟩ : ∃ c : Nat, S[k].toNat = c := ⟨_, rfl⟩
        have hc1 : c < 256 := by rw [← hc]; exact S[k].toNat_lt
        have HC := Lib.hid hc
        cases hd : dv c with
        | some d =>
          have HD := Lib.hid hd
          have hD := fun w => digit_yes hc1 hd w
          have hd1 := dv_lt hd
          clear hd
          obtain ⟨l0, b0, b1, f0, f1⟩ := id hB
          by_cases h5 : k < 5
          · have hq : (k : Int) / 5 = 0 := by omega
            have eo := or_shift bm hd1
            have hB2 := hB.put0 (16 * (m : Int) + d)
            have hA2 := hA.one (c := w.heap.size + 1) (i := 0) (by omega) (.int .i64 (16 * (m : Int) + d))
            have X2 := hX.setCell (p := ⟨w.heap.size + 1, 0, none⟩) (by show _ ≤ w.heap.size + 1; omega) (.int .i64 (16 * (m : Int) + d))
            have h2 := Lib.hid (two0_succ hks h5 h0.out (by rw [HC.out]; exact HD.out))
            have h3 := Lib.hid (two1_keep h5 h1.out)
            go_wp2_with fail
            refine (hD _).mono ?_
            rintro e w1 ⟨rfl, rfl⟩
            go_wp2
            clear b0 b1 f0 f1 hD eo hq
            go_roundw
            case rel => exact ⟨k + 1, 16 * m + d, q, by omega, by go_num, hA2, by rw [show ((16 * m + d : Nat) : Int) = 16 * (m : Int) + d by omega]; exact hB2, X2, h2, h3⟩
            case measure => simp [intOf]; omega
          · have hq : (k : Int) / 5 = 1 := by omega
            have eo := or_shift bq hd1
            have hB2 := hB.put1 (16 * (q : Int) + d)
            have hA2 := hA.one (c := w.heap.size + 1) (i := 1) (by omega) (.int .i64 (16 * (q : Int) + d))
            have X2 := hX.setCell (p := ⟨w.heap.size + 1, 1, none⟩) (by show _ ≤ w.heap.size + 1; omega) (.int .i64 (16 * (q : Int) + d))
            have h2 := Lib.hid (two1_succ hks (by omega) h1.out (by rw [HC.out]; exact HD.out))
            have h3 := Lib.hid (two0_keep (by omega) h0.out)
            go_wp2_with fail
            refine (hD _).mono ?_
            rintro e w1 ⟨rfl, rfl⟩
            go_wp2
            clear b0 b1 f0 f1 hD eo hq
            go_roundw
            case rel => exact ⟨k + 1, m, 16 * q + d, by omega, by go_num, hA2, by rw [show ((16 * q + d : Nat) : Int) = 16 * (q : Int) + d by omega]; exact hB2, X2, h3, h2⟩
            case measure => simp [intOf]; omega
        | none =>
          have hstop := two_stop hks H10.out h0.out h1.out (by rw [HC.out]; exact hd)
          have hQ : ∀ w', Ext w w' → RetP S w (.returned (.tuple #[tagV (0, 0), .int .i64 4])) w' := by
            intro w' hx
            rw [RetP.no hstop]
            exact ⟨rfl, hx⟩
          have hD := fun w => digit_no hc1 hd w
          clear hd hstop
          obtain ⟨l0, a0, a1, f0, f1⟩ := hA
          go_wp2_with fail
          refine (hD _).mono ?_
          rintro e w1 ⟨rfl, rfl⟩
          go_wp2
          exact bodyPost_ret (v := .tuple #[tagV (0, 0), .int .i64 4]) (by simp [results, Try.results22, go_sem, a0, a1]) rfl (hQ _ (hX.set (Nat.le_refl _) _ _))
      · obtain rfl : k = 10 := by omega
        obtain ⟨e1, e2⟩ := two_done H10.out h0.out h1.out
        have hp : pOk S = right ((m : Int), (q : Int)) := by
          unfold pOk
          rw [decide_eq_true H10.out, e1, e2]
          exact Bool.true_and _
        have hA3 := hA.ext (Ext.al wr (.cells #[.int .i64 m, .int .i64 q] 28))
        have hT3 := Cel.new wr m q 28
        have X3 := Ext.of hX (Ext.al wr (.cells #[.int .i64 m, .int .i64 q] 28))
        obtain ⟨l0, b0, b1, f0, f1⟩ := hB
        cases hr : right ((m : Int), (q : Int)) with
        | true =>
          have hQ : ∀ w', Ext w w' → RetP S w (.returned (.tuple #[tagV ((m : Int), (q : Int)), .int .i64 0])) w' := by
            intro w' hx
            rw [RetP.yes (by rw [hp, hr]), e1, e2]
            exact ⟨rfl, hx⟩
          have hK := fun w => tcheck_is (t := ((m : Int), (q : Int))) (chkT_yes hr) w
          clear hp hr e1 e2 h0 h1 H10
          obtain ⟨-, c0, c1, -, -⟩ := id hT3
          go_wp2_with fail
          refine (hK _).mono ?_
          rintro e w1 ⟨rfl, x1⟩
          have X4 := Ext.of X3 x1
          have hA4 := hA3.ext x1
          have hT4 := hT3.ext x1
          clear c0 c1 hA3 hT3 X3 x1 hA hX b0 b1 f0 f1
          obtain ⟨-, c0, c1, -, -⟩ := hT4
          obtain ⟨l1, a0, a1, f0, f1⟩ := hA4
          go_wp2
          exact bodyPost_ret (v := .tuple #[tagV ((m : Int), (q : Int)), .int .i64 0]) (by simp [results, Try.results22, go_sem, a0, a1]) rfl (hQ _ (X4.set (Nat.le_refl _) _ _))
        | false =>
          have hQ : ∀ w', Ext w w' → RetP S w (.returned (.tuple #[tagV (0, 0), .int .i64 4])) w' := by
            intro w' hx
            rw [RetP.no (by rw [hp, hr])]
            exact ⟨rfl, hx⟩
          have hK := fun w => tcheck_is (t := ((m : Int), (q : Int))) (chkT_no hr) w
          clear hp hr e1 e2 h0 h1 H10
          obtain ⟨-, c0, c1, -, -⟩ := id hT3
          go_wp2_with fail
          refine (hK _).mono ?_
          rintro e w1 ⟨rfl, x1⟩
          have X4 := Ext.of X3 x1
          have hA4 := hA3.ext x1
          clear c0 c1 hA3 hT3 X3 x1 hA hX b0 b1 f0 f1
          obtain ⟨l1, a0, a1, f0, f1⟩ := hA4
          go_wp2
          exact bodyPost_ret (v := .tuple #[tagV (0, 0), .int .i64 4]) (by simp [results, Try.results22, go_sem, a0, a1]) rfl (hQ _ (X4.set (Nat.le_refl _) _ _))
  · rw [RetP.no (by unfold pOk; rw [decide_eq_false h10]; rfl)]
    have g0 : ((S.size : Int) != 10) = true := by rw [bne_iff_ne]; omega
    clear h10
    obtain ⟨l0, a0, a1, f0, f1⟩ := hA
    go_enter Try.func22, Try.ntmps22
    go_wp2
    exact bodyPost_ret (v := .tuple #[tagV (0, 0), .int .i64 4]) (by simp [results, Try.results22, go_sem]) rfl ⟨rfl, X⟩

end Go.Proofs.Ytmajagdgpmbnhaa
