/-
  few, least, formed; Need of both sides.
-/
import Derived.Test.YtpfjikkpfnmepaaMem
namespace Go.Proofs.Ytpfjikkpfnmepaa
open Go.RowKit

def fewB (L : List ByteArray) : Bool := decide (L.length ≤ 100) && L.all fun x => decide (x.size ≤ 10000)
theorem few_of {L : List ByteArray} {n : Nat} (hn : L.length = n) (h : n ≤ 100) (ha : ∀ (j : Nat) x, L[j]? = some x → x.size ≤ 10000) : fewB L = true := by
  subst hn
  simp [fewB, h]
  intro x hx
  obtain ⟨j, hj⟩ := List.getElem?_of_mem hx
  exact ha j x hj
theorem few_not {L : List ByteArray} {j : Nat} {x : ByteArray} (hx : L[j]? = some x) (h : ¬ x.size ≤ 10000) : fewB L = false := by
  simp [fewB]
  intro _
  exact ⟨x, List.mem_of_getElem? hx, by omega⟩
theorem few_long {L : List ByteArray} {n : Nat} (hn : L.length = n) (h : ¬ n ≤ 100) : fewB L = false := by
  subst hn
  simp [fewB]
  intro h'
  omega

theorem few_any {A : Option Addr} {n c : Nat} {L : List ByteArray} {w : World} (hS : n ≤ 1000 → Sl w A n c L) (hn : n ≤ 9223372036854775807) (hL : L.length = n ∨ 1000 < n) :
    Calls Try.prog 7 #[.slice A n c] w fun e w' => e = .returned (.bool (decide (n ≤ 1000) && fewB L)) ∧ w' = w := by
  by_cases hbig : n ≤ 100
  · have h := hS (by omega)
    have HL := Lib.hid h.len
    have HB := Lib.hid hbig
    have HD : Hid (decide (n ≤ 1000) = true) := by show _ = _; simp; omega
    clear hS hL
    go_enter Try.func7, Try.ntmps7
    go_wp2
    go_loop [3] (fun i => ∃ k : Nat, k ≤ n ∧ i = .int .i64 k ∧ Hid (∀ (j : Nat) x, j < k → L[j]? = some x → x.size ≤ 10000)) (fun i => n - (intOf i).toNat)
    case atStart => exact ⟨0, Nat.zero_le _, rfl, fun j x hj => absurd hj (by omega)⟩
    case round =>
      obtain ⟨k, hk, rfl, hall⟩ := hrel
      by_cases hlt : k < n
      · obtain ⟨b, off, rfl, ha⟩ := h.at_ (by omega)
        obtain ⟨x, hx, hx1⟩ := h.get hlt
        have c0 := ha k _ hx.out
        by_cases hs : x.size ≤ 10000
        · go_wp2
          go_round
          case rel =>
            refine ⟨k + 1, by omega, by go_num, fun j y hj hy => ?_⟩
            rcases Nat.lt_or_ge j k with hl | hl
            · exact hall.out j y hl hy
            · obtain rfl : j = k := by omega
              have e := hx.out.symm.trans hy
              injection e with e
              rw [← e]
              exact hs
          case measure => simp [intOf]; omega
        · have HF := Lib.hid (few_not hx.out hs)
          go_wp2
          go_ret
          exact ⟨ret_bool (by rw [HF.out]; simp), rfl⟩
      · have HF := Lib.hid (few_of HL.out HB.out (fun j x hx => hall.out j x (by have := (List.getElem?_eq_some_iff.1 hx).1; have := HL.out; omega) hx))
        go_wp2
        go_ret
        exact ⟨ret_bool (by rw [HF.out, HD.out]; rfl), rfl⟩
  · have HF : Hid ((decide (n ≤ 1000) && fewB L) = false) := by
      show _ = _
      rcases hL with hl | hl
      · rw [few_long hl hbig]; simp
      · simp; intro h'; omega
    go_enter Try.func7, Try.ntmps7
    go_wp2
    go_ret
    exact ⟨ret_bool HF.out.symm, rfl⟩

def leastB (x y z : Int) : Bool := decide (0 ≤ x) && decide (0 ≤ y) && decide (0 ≤ z)

theorem least_any {b : Nat} {x y z : Int} {c : Nat} {w : World} (h0 : w.cell? ⟨b, 0, none⟩ = some (.int .i64 x)) (h1 : w.cell? ⟨b, 1, none⟩ = some (.int .i64 y)) (h2 : w.cell? ⟨b, 2, none⟩ = some (.int .i64 z)) :
    Calls Try.prog 25 #[.slice (some ⟨b, 0, none⟩) 3 c] w fun e w' => e = .returned (.bool (leastB x y z)) ∧ w' = w := by
  go_enter Try.func25, Try.ntmps25
  go_wp2
  refine wp_loop_rounds 4 ?_
  rw [rounds_succ]
  go_wp2
  · go_ret
    exact ⟨ret_bool (by simp [leastB]; omega), rfl⟩
  rw [rounds_succ]
  go_wp2
  · go_ret
    exact ⟨ret_bool (by simp [leastB]; omega), rfl⟩
  rw [rounds_succ]
  go_wp2
  · go_ret
    exact ⟨ret_bool (by simp [leastB]; omega), rfl⟩
  rw [rounds_succ]
  go_wp2
  go_ret
  exact ⟨ret_bool (by simp [leastB]; omega), rfl⟩

theorem least_is {b : Nat} {x y z : Int} {c : Nat} {w : World} {r : Bool} (h0 : w.cell? ⟨b, 0, none⟩ = some (.int .i64 x)) (h1 : w.cell? ⟨b, 1, none⟩ = some (.int .i64 y)) (h2 : w.cell? ⟨b, 2, none⟩ = some (.int .i64 z)) (hr : leastB x y z = r) :
    Calls Try.prog 25 #[.slice (some ⟨b, 0, none⟩) 3 c] w fun e w' => e = .returned (.bool r) ∧ w' = w := by
  subst hr
  exact least_any h0 h1 h2
theorem three_new (w : World) (x y z : Int) (t : TypeId) : (w.alloc (.cells #[.int .i64 x, .int .i64 y, .int .i64 z] t)).cell? ⟨w.heap.size, 0, none⟩ = some (.int .i64 x) ∧ (w.alloc (.cells #[.int .i64 x, .int .i64 y, .int .i64 z] t)).cell? ⟨w.heap.size, 1, none⟩ = some (.int .i64 y) ∧
    (w.alloc (.cells #[.int .i64 x, .int .i64 y, .int .i64 z] t)).cell? ⟨w.heap.size, 2, none⟩ = some (.int .i64 z) := by
  refine ⟨?_, ?_, ?_⟩ <;> simp [World.cell?_alloc_at]

/-- Which chunks bytes stand in. -/
def needB (size from_ n : Int) : Bool := leastB size from_ n && decide (size ≤ 2560) && decide (from_ ≤ size)
def need1 (size from_ n : Int) : Int := if needB size from_ n = true ∧ min n (size - from_) ≠ 0 then from_ / 160 else 0
def need2 (size from_ n : Int) : Int := if needB size from_ n = true ∧ min n (size - from_) ≠ 0 then (from_ + min n (size - from_) - 1) / 160 - from_ / 160 + 1 else 0
def need3 (size from_ n : Int) : Int := if needB size from_ n = true then 0 else 2
theorem ret_three {a b c d e f : Int} (h1 : a = b) (h2 : c = d) (h3 : e = f) : Ending.returned (.tuple #[.int .i64 a, .int .i64 c, .int .i64 e]) = .returned (.tuple #[.int .i64 b, .int .i64 d, .int .i64 f]) := by rw [h1, h2, h3]
def RetNeed (s f n : Int) (e : Ending) : Prop := e = .returned (.tuple #[.int .i64 (need1 s f n), .int .i64 (need2 s f n), .int .i64 (need3 s f n)])
theorem need_no {s f n : Int} (h : needB s f n = false) : RetNeed s f n (.returned (.tuple #[.int .i64 0, .int .i64 0, .int .i64 2])) := ret_three (by simp [need1, h]) (by simp [need2, h]) (by simp [need3, h])
theorem need_none {s f n : Int} (h : needB s f n = true) (h0 : min n (s - f) = 0) : RetNeed s f n (.returned (.tuple #[.int .i64 0, .int .i64 0, .int .i64 0])) := ret_three (by simp [need1, h0]) (by simp [need2, h0]) (by simp [need3, h])
theorem need_some {s f n m : Int} (h : needB s f n = true) (hm : min n (s - f) = m) (h0 : m ≠ 0) : RetNeed s f n (.returned (.tuple #[.int .i64 (f / 160), .int .i64 ((f + m - 1) / 160 - f / 160 + 1), .int .i64 0])) :=
  ret_three (by simp [need1, h, hm, h0]) (by simp [need2, h, hm, h0]) (by simp [need3, h])
theorem need_of {s f n : Int} (h : needB s f n = true) : 0 ≤ s ∧ 0 ≤ f ∧ 0 ≤ n ∧ s ≤ 2560 ∧ f ≤ s := by
  simp [needB, leastB] at h
  omega

theorem wrap_small {x : Int} (h1 : -9223372036854775808 ≤ x) (h2 : x ≤ 9223372036854775807) : wrap64 x = x := by
  unfold wrap64
  omega
theorem need_wrapped {s f n m : Int} (h : needB s f n = true) (hm : min n (s - f) = m) (h0 : m ≠ 0) : RetNeed s f n (.returned (.tuple #[.int .i64 (f / 160), .int .i64 (wrap64 (wrap64 ((f + m - 1).tdiv 160 - f / 160) + 1)), .int .i64 0])) := by
  obtain ⟨p1, p2, p3, p4, p5⟩ := need_of h
  have e : (f + m - 1).tdiv 160 = (f + m - 1) / 160 := Int.tdiv_eq_ediv_of_nonneg (by omega)
  rw [e, wrap_small (x := (f + m - 1) / 160 - f / 160) (by omega) (by omega), wrap_small (by omega) (by omega)]
  exact need_some h hm h0

theorem need_any (s f n : Int) (w : World) : Calls Try.prog 16 #[.int .i64 s, .int .i64 f, .int .i64 n] w fun e w' => RetNeed s f n e ∧ Ext w w' := by
  obtain ⟨c0, c1, c2⟩ := three_new w s f n 3
  have x0 := Ext.alloc w (.cells #[.int .i64 s, .int .i64 f, .int .i64 n] 3)
  cases hl : leastB s f n with
  | false =>
    have HL := Lib.hid hl
    have HN := Lib.hid (show needB s f n = false by simp [needB, hl])
    clear hl
    go_enter Try.func16, Try.ntmps16
    go_wp2_with fail
    refine (least_is c0 c1 c2 HL.out).mono ?_
    rintro e w1 ⟨rfl, rfl⟩
    go_wp2
    go_ret3
    exact ⟨need_no HN.out, x0⟩
  | true =>
    have HL := Lib.hid hl
    by_cases hb : s ≤ 2560 ∧ f ≤ s
    · have hN : needB s f n = true := by simp [needB, hl, hb]
      obtain ⟨p1, p2, p3, p4, p5⟩ := need_of hN
      have HN := Lib.hid hN
      clear hl hN hb
      go_enter Try.func16, Try.ntmps16
      go_wp2_with fail
      refine (least_is c0 c1 c2 HL.out).mono ?_
      rintro e w1 ⟨rfl, rfl⟩
      by_cases hmn : n ≤ s - f
      · have hE : min n (s - f) = n := by omega
        have HE := Lib.hid hE
        clear hE
        by_cases hz : n = 0
        · have HZ := Lib.hid hz
          have hz' : (n == 0) = true := by simpa using hz
          clear hz
          go_wp2
          go_ret3
          exact ⟨need_none HN.out (HE.out.trans HZ.out), x0⟩
        · have HZ := Lib.hid hz
          have hz' : (n == 0) = false := by simpa using hz
          clear hz
          go_wp2
          go_ret3
          exact ⟨need_wrapped HN.out HE.out HZ.out, x0⟩
      · have hE : min n (s - f) = s - f := by omega
        have HE := Lib.hid hE
        clear hE
        by_cases hz : s - f = 0
        · have HZ := Lib.hid hz
          have hz' : (s - f == 0) = true := by simpa using hz
          clear hz
          go_wp2
          go_ret3
          exact ⟨need_none HN.out (HE.out.trans HZ.out), x0⟩
        · have HZ := Lib.hid hz
          have hz' : (s - f == 0) = false := by simpa using hz
          clear hz
          go_wp2
          go_ret3
          exact ⟨need_wrapped HN.out HE.out HZ.out, x0⟩
    · have HN := Lib.hid (show needB s f n = false by simp [needB, hl]; omega)
      clear hl
      go_enter Try.func16, Try.ntmps16
      go_wp2_with fail
      refine (least_is c0 c1 c2 HL.out).mono ?_
      rintro e w1 ⟨rfl, rfl⟩
      go_wp2
      all_goals first | (go_ret3; exact ⟨need_no HN.out, x0⟩) | (exfalso; omega)

theorem rneed_any (s f n : Int) (w : World) : Calls Try.prog 17 #[.int .i64 s, .int .i64 f, .int .i64 n] w fun e w' => RetNeed s f n e ∧ Ext w w' := by
  have x0 := Below.refl w.heap.size w
  by_cases hN : needB s f n = true
  · obtain ⟨p1, p2, p3, p4, p5⟩ := need_of hN
    have HN := Lib.hid hN
    clear hN
    go_enter Try.func17, Try.ntmps17
    by_cases hmn : n ≤ s - f
    · have hE : min n (s - f) = n := by omega
      have HE := Lib.hid hE
      clear hE
      by_cases hz : n = 0
      · have HZ := Lib.hid hz
        have hz' : (n == 0) = true := by simpa using hz
        clear hz
        go_wp2
        go_ret3
        exact ⟨need_none HN.out (HE.out.trans HZ.out), x0⟩
      · have HZ := Lib.hid hz
        have hz' : (n == 0) = false := by simpa using hz
        clear hz
        go_wp2
        go_ret3
        exact ⟨need_wrapped HN.out HE.out HZ.out, x0⟩
    · have hE : min n (s - f) = s - f := by omega
      have HE := Lib.hid hE
      clear hE
      by_cases hz : s - f = 0
      · have HZ := Lib.hid hz
        have hz' : (s - f == 0) = true := by simpa using hz
        clear hz
        go_wp2
        go_ret3
        exact ⟨need_none HN.out (HE.out.trans HZ.out), x0⟩
      · have HZ := Lib.hid hz
        have hz' : (s - f == 0) = false := by simpa using hz
        clear hz
        go_wp2
        go_ret3
        exact ⟨need_wrapped HN.out HE.out HZ.out, x0⟩
  · have HN := Lib.hid (Bool.eq_false_iff.2 hN)
    have hb : ¬ (0 ≤ s ∧ 0 ≤ f ∧ 0 ≤ n ∧ s ≤ 2560 ∧ f ≤ s) := fun h => hN (by simp [needB, leastB]; omega)
    have HB := Lib.hid hb
    clear hN hb
    go_enter Try.func17, Try.ntmps17
    go_wp2
    all_goals first | (go_ret3; exact ⟨need_no HN.out, x0⟩) | (exfalso; have := HB.out; omega)

/-- Have texts the lengths of chunks? -/
def okAt (L : List ByteArray) (i : Nat) : Bool := match L[i]? with | some x => decide (x.size ≠ 0) && decide (x.size ≤ 160) && (decide (L.length ≤ i + 1) || decide (x.size = 160)) | none => false
def formB (L : List ByteArray) : Bool := (List.range L.length).all (okAt L)
theorem form_of {L : List ByteArray} {n : Nat} (hn : L.length = n) (h : ∀ j, j < n → okAt L j = true) : formB L = true := by
  subst hn
  simpa [formB] using h
theorem form_not {L : List ByteArray} {n k : Nat} (hn : L.length = n) (hk : k < n) (h : okAt L k = false) : formB L = false := by
  subst hn
  unfold formB
  rw [List.all_eq_false]
  exact ⟨k, by simpa using hk, by simp [h]⟩
theorem form_at {L : List ByteArray} (h : formB L = true) {i : Nat} (hi : i < L.length) : okAt L i = true := by
  unfold formB at h
  rw [List.all_eq_true] at h
  exact h i (by simpa using hi)
theorem okAt_last {L : List ByteArray} {i n : Nat} {x : ByteArray} (hn : L.length = n) (hx : L[i]? = some x) (hi : n ≤ i + 1) : okAt L i = (decide (x.size ≠ 0) && decide (x.size ≤ 160)) := by
  subst hn
  simp [okAt, hx, hi]
theorem okAt_mid {L : List ByteArray} {i n : Nat} {x : ByteArray} (hn : L.length = n) (hx : L[i]? = some x) (hi : i + 1 < n) : okAt L i = decide (x.size = 160) := by
  subst hn
  have h : ¬ L.length ≤ i + 1 := by omega
  by_cases e : x.size = 160 <;> simp [okAt, hx, h, e]

theorem formed_any {A : Option Addr} {n c : Nat} {L : List ByteArray} {w : World} (h : Sl w A n c L) : Calls Try.prog 23 #[.slice A n c] w fun e w' => e = .returned (.bool (formB L)) ∧ w' = w := by
  have hb := h.big
  have HL := Lib.hid h.len
  go_enter Try.func23, Try.ntmps23
  go_wp2
  go_loop [7] (fun i => ∃ k : Nat, k ≤ n ∧ i = .int .i64 k ∧ Hid (∀ j, j < k → okAt L j = true)) (fun i => n - (intOf i).toNat)
  case atStart => exact ⟨0, Nat.zero_le _, rfl, fun j hj => absurd hj (by omega)⟩
  case round =>
    obtain ⟨k, hk, rfl, hall⟩ := hrel
    by_cases hlt : k < n
    · obtain ⟨b, off, rfl, ha⟩ := h.at_ (by omega)
      obtain ⟨x, hx, hx1⟩ := h.get hlt
      have c0 := ha k _ hx.out
      cases ho : okAt L k with
      | true =>
        have HO := Lib.hid ho
        by_cases hm : n ≤ k + 1
        · rw [okAt_last HL.out hx.out hm] at ho
          have o1 : x.size ≠ 0 ∧ x.size ≤ 160 := by simpa using ho
          have h0 : ((x.size : Int) == 0) = false := by rw [beq_eq_false_iff_ne]; omega
          have h1 : decide (160 < (x.size : Int)) = false := decide_eq_false (by omega)
          have h2 : decide ((k : Int) < (n : Int) - 1) = false := decide_eq_false (by omega)
          clear ho o1
          go_wp2
          go_round
          case rel =>
            refine ⟨k + 1, by omega, by go_num, fun j hj => ?_⟩
            rcases Nat.lt_or_ge j k with hl | hl
            · exact hall.out j hl
            · obtain rfl : j = k := by omega
              exact HO.out
          case measure => simp [intOf]; omega
        · rw [okAt_mid HL.out hx.out (by omega)] at ho
          have o1 : x.size = 160 := by simpa using ho
          have h0 : ((x.size : Int) == 0) = false := by rw [beq_eq_false_iff_ne]; omega
          have h1 : decide (160 < (x.size : Int)) = false := decide_eq_false (by omega)
          have h2 : decide ((k : Int) < (n : Int) - 1) = true := decide_eq_true (by omega)
          have h3 : decide ((x.size : Int) < 160) = false := decide_eq_false (by omega)
          clear ho o1
          go_wp2
          go_round
          case rel =>
            refine ⟨k + 1, by omega, by go_num, fun j hj => ?_⟩
            rcases Nat.lt_or_ge j k with hl | hl
            · exact hall.out j hl
            · obtain rfl : j = k := by omega
              exact HO.out
          case measure => simp [intOf]; omega
      | false =>
        have HF := Lib.hid (form_not HL.out hlt ho)
        by_cases z0 : x.size = 0
        · have h0 : ((x.size : Int) == 0) = true := by rw [beq_iff_eq]; omega
          clear ho z0
          go_wp2
          go_ret
          exact ⟨ret_bool HF.out.symm, rfl⟩
        · have h0 : ((x.size : Int) == 0) = false := by rw [beq_eq_false_iff_ne]; omega
          by_cases z1 : 160 < x.size
          · have h1 : decide (160 < (x.size : Int)) = true := decide_eq_true (by omega)
            clear ho z0 z1
            go_wp2
            go_ret
            exact ⟨ret_bool HF.out.symm, rfl⟩
          · have h1 : decide (160 < (x.size : Int)) = false := decide_eq_false (by omega)
            have z2 : k + 1 < n := by
              rcases Nat.lt_or_ge (k + 1) n with hh | hh
              · exact hh
              · rw [okAt_last HL.out hx.out hh] at ho
                rw [Bool.and_eq_false_iff] at ho
                rcases ho with h | h
                · exact absurd (by simpa using h) z0
                · exact absurd (by simpa using h) z1
            rw [okAt_mid HL.out hx.out z2] at ho
            have z3 : ¬ x.size = 160 := by simpa using ho
            have h2 : decide ((k : Int) < (n : Int) - 1) = true := decide_eq_true (by omega)
            have h3 : decide ((x.size : Int) < 160) = true := decide_eq_true (by omega)
            clear ho z0 z1 z2 z3
            go_wp2
            go_ret
            exact ⟨ret_bool HF.out.symm, rfl⟩
    · have HF := Lib.hid (form_of HL.out (fun j hj => hall.out j (by omega)))
      go_wp2
      go_ret
      exact ⟨ret_bool HF.out.symm, rfl⟩
theorem formed_is {A : Option Addr} {n c : Nat} {L : List ByteArray} {w : World} {b : Bool} (h : Sl w A n c L) (hb : formB L = b) : Calls Try.prog 23 #[.slice A n c] w fun e w' => e = .returned (.bool b) ∧ w' = w := by
  subst hb
  exact formed_any h

end Go.Proofs.Ytpfjikkpfnmepaa
