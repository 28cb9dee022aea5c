/-
  Piece of both sides.
-/
import Derived.Test.YtpfjikkpfnmepaaSmall
import Derived.Test.YtpfjikkpfnmepaaShelf
namespace Go.Proofs.Ytpfjikkpfnmepaa
open Go.RowKit

def Num64 (x : Int) : Prop := -9223372036854775808 ≤ x ∧ x ≤ 9223372036854775807
def bytes (L : List ByteArray) : List UInt8 := (L.map (·.data.toList)).flatten
def whole (L : List ByteArray) : ByteArray := ⟨(bytes L).toArray⟩
theorem join_bytes (L : List ByteArray) : Lib.join (L.map (·.data.toList)) [] = bytes L := by
  cases L with
  | nil => rfl
  | cons a l =>
    rw [List.map_cons, Lib.join_cons]
    simp [Lib.joinTail, bytes, Function.comp_def]
theorem bytes_snoc {L : List ByteArray} {k : Nat} {x : ByteArray} (h : L[k]? = some x) : bytes (L.take (k + 1)) = bytes (L.take k) ++ x.data.toList := by
  rw [← take_snoc h]
  simp [bytes]
theorem whole_snoc {L : List ByteArray} {k : Nat} {x : ByteArray} (h : L[k]? = some x) : whole (L.take k) ++ x = whole (L.take (k + 1)) := by
  unfold whole
  rw [bytes_snoc h]
  apply ByteArray.ext
  simp
theorem whole_size (L : List ByteArray) : (whole L).size = (bytes L).length := by
  unfold whole
  simp [ByteArray.size]
theorem few_parts {L : List ByteArray} (h : fewB L = true) : L.length ≤ 100 ∧ ∀ x ∈ L, x.size ≤ 10000 := by
  unfold fewB at h
  rw [Bool.and_eq_true, List.all_eq_true] at h
  exact ⟨of_decide_eq_true h.1, fun x hx => of_decide_eq_true (h.2 x hx)⟩
theorem bytes_few {L : List ByteArray} (h : fewB L = true) (k : Nat) : (bytes (L.take k)).length ≤ 10000 * k := by
  induction k with
  | zero => simp [bytes]
  | succ k ih =>
    cases hk : L[k]? with
    | none =>
      rw [List.getElem?_eq_none_iff] at hk
      rw [List.take_of_length_le (by omega)]
      rw [List.take_of_length_le hk] at ih
      omega
    | some x =>
      rw [bytes_snoc hk, List.length_append]
      have : x.size ≤ 10000 := by
        exact (few_parts h).2 x (List.mem_of_getElem? hk)
      have hx : x.data.toList.length = x.size := by rw [Array.length_toList]; rfl
      omega
theorem total_few {L : List ByteArray} (h : fewB L = true) : (bytes L).length ≤ 1000000 := by
  have h1 := bytes_few h L.length
  rw [List.take_length] at h1
  have h2 := (few_parts h).1
  omega

theorem join_any {A : Option Addr} {n c : Nat} {L : List ByteArray} {w : World} (h : Sl w A n c L) (hf : (bytes L).length ≤ 1000000) :
    Calls Try.prog 21 #[.slice A n c, .string ⟨#[]⟩] w fun e w' => e = .returned (.string (whole L)) ∧ Ext w w' := by
  have hb := h.big
  have hl := h.len
  rcases Nat.eq_zero_or_pos n with h0 | h0
  · subst h0
    have hL : L = [] := List.eq_nil_of_length_eq_zero hl
    subst hL
    exact (Try.strings_Join_none A c ⟨#[]⟩ w).mono fun e w' ⟨he, hw⟩ => ⟨he, hw ▸ Below.refl _ _⟩
  · obtain ⟨b, off, rfl, ha⟩ := h.at_ h0
    have hlt : b < w.heap.size := by
      obtain ⟨x, hx⟩ : ∃ x, L[0]? = some x := ⟨_, List.getElem?_eq_getElem (by omega)⟩
      exact World.block_lt_of_cell? _ _ (ha 0 x hx)
    have hcap := h.cap
    subst hl
    refine (Try.strings_Join b off c L ⟨#[]⟩ w (fun j x hx => ha j x hx) hlt (by omega) hcap (by rw [show (⟨#[]⟩ : ByteArray).data.toList = [] from rfl, join_bytes]; omega)).mono fun e w' ⟨he, hw⟩ => ⟨?_, hw⟩
    rw [he, show (⟨#[]⟩ : ByteArray).data.toList = [] from rfl, join_bytes]
    rfl

/-! ### Piece -/
def pieceB (f a n : Int) : Bool := leastB f a n && decide (f ≤ a / 160)
def pieceAt (f a : Int) : Int := a - f * 160
def pieceE (L : List ByteArray) (f a n : Int) : Int := if pieceB f a n = true then (if pieceAt f a ≤ (whole L).size then (if formB L = true then 0 else 4) else 2) else 2
def pieceS (L : List ByteArray) (f a n : Int) : ByteArray :=
  if pieceE L f a n = 0 then (whole L).extract (pieceAt f a).toNat (pieceAt f a + min n ((whole L).size - pieceAt f a)).toNat else ⟨#[]⟩
def RetPiece (L : List ByteArray) (f a n : Int) (e : Ending) : Prop := e = .returned (.tuple #[.string (pieceS L f a n), .int .i64 (pieceE L f a n)])
theorem ret_piece {s t : ByteArray} {i j : Int} (h1 : s = t) (h2 : i = j) : Ending.returned (.tuple #[.string s, .int .i64 i]) = .returned (.tuple #[.string t, .int .i64 j]) := by rw [h1, h2]
theorem piece_err {L : List ByteArray} {f a n r : Int} (h : pieceE L f a n = r) (hr : r ≠ 0) : RetPiece L f a n (.returned (.tuple #[.string ⟨#[]⟩, .int .i64 r])) :=
  ret_piece (by unfold pieceS; rw [if_neg (by rw [h]; exact hr)]) h.symm
theorem piece_no {L : List ByteArray} {f a n : Int} (h : pieceB f a n = false) : pieceE L f a n = 2 := by simp [pieceE, h]
theorem piece_far {L : List ByteArray} {f a n : Int} (h : pieceB f a n = true) (h' : ¬ pieceAt f a ≤ (whole L).size) : pieceE L f a n = 2 := by simp [pieceE, h, h']
theorem piece_form {L : List ByteArray} {f a n : Int} (h : pieceB f a n = true) (h' : pieceAt f a ≤ (whole L).size) (hf : formB L = false) : pieceE L f a n = 4 := by simp [pieceE, h, h', hf]
theorem piece_ok {L : List ByteArray} {f a n : Int} (h : pieceB f a n = true) (h' : pieceAt f a ≤ (whole L).size) (hf : formB L = true) : pieceE L f a n = 0 := by simp [pieceE, h, h', hf]
theorem piece_of {f a n : Int} (h : pieceB f a n = true) : 0 ≤ f ∧ 0 ≤ a ∧ 0 ≤ n ∧ f ≤ a / 160 := by
  simp [pieceB, leastB] at h
  omega
theorem piece_ret {L : List ByteArray} {f a n q : Int} (h : pieceE L f a n = 0) (hq : pieceAt f a = q) : RetPiece L f a n (.returned (.tuple #[.string ((whole L).extract q.toNat (q + min n ((whole L).size - q)).toNat), .int .i64 0])) :=
  ret_piece (by unfold pieceS; rw [if_pos h, hq]) h.symm

set_option maxHeartbeats 1000000 in
theorem piece_any {A : Option Addr} {k c : Nat} {L : List ByteArray} {f a n : Int} {w : World} (h : Sl w A k c L) (hf : (bytes L).length ≤ 1000000) (hna : Num64 a) (hnn : Num64 n) :
    Calls Try.prog 18 #[.slice A k c, .int .i64 f, .int .i64 a, .int .i64 n] w fun e w' => RetPiece L f a n e ∧ Ext w w' := by
  obtain ⟨c0, c1, c2⟩ := three_new w f a n 3
  have x0 := Ext.alloc w (.cells #[.int .i64 f, .int .i64 a, .int .i64 n] 3)
  have HF := Lib.hid hf
  have hs0 := h.ext x0
  unfold Num64 at hna hnn
  clear hf
  cases hl : leastB f a n with
  | false =>
    have HL := Lib.hid hl
    have HE := Lib.hid (piece_no (L := L) (f := f) (a := a) (n := n) (by simp [pieceB, hl]))
    clear hl
    go_enter Try.func18, Try.ntmps18
    go_wp2_with fail
    refine (least_is c0 c1 c2 HL.out).mono ?_
    rintro e w1 ⟨rfl, rfl⟩
    go_wp2
    go_ret2
    exact ⟨piece_err HE.out (by omega), x0⟩
  | true =>
    have HL := Lib.hid hl
    have hL : 0 ≤ f ∧ 0 ≤ a ∧ 0 ≤ n := by simp [leastB] at hl; omega
    obtain ⟨p1, p2, p3⟩ := hL
    by_cases hfa : f ≤ a / 160
    · have HB := Lib.hid (show pieceB f a n = true by simp [pieceB, hl, hfa])
      have hgt : decide (a / 160 < f) = false := decide_eq_false (by omega)
      clear hl
      obtain ⟨q, hq⟩ : ∃ q, pieceAt f a = q := ⟨_, rfl⟩
      have hq' : a - f * 160 = q := hq
      have HQ := Lib.hid hq
      have hq0 : 0 ≤ q := by omega
      go_enter Try.func18, Try.ntmps18
      go_wp2_with fail
      refine (least_is c0 c1 c2 HL.out).mono ?_
      rintro e w1 ⟨rfl, rfl⟩
      go_wp2_with fail
      refine (join_any hs0 HF.out).mono ?_
      rintro e w2 ⟨rfl, x2⟩
      have X2 := Ext.of x0 x2
      have hs2 := hs0.ext x2
      have hsz : (whole L).size ≤ 1000000 := by rw [whole_size]; exact HF.out
      clear x0 x2 hs0 c0 c1 c2
      by_cases hfar : q ≤ (whole L).size
      · cases hfm : formB L with
        | true =>
          have HE := Lib.hid (piece_ok HB.out (by rw [HQ.out]; exact hfar) hfm)
          have HFM := Lib.hid hfm
          clear hfm
          go_wp2_with fail
          refine (formed_is hs2 HFM.out).mono ?_
          rintro e w3 ⟨rfl, rfl⟩
          go_wp2
          go_ret2
          exact ⟨piece_ret HE.out HQ.out, X2⟩
        | false =>
          have HE := Lib.hid (piece_form HB.out (by rw [HQ.out]; exact hfar) hfm)
          have HFM := Lib.hid hfm
          clear hfm
          go_wp2_with fail
          refine (formed_is hs2 HFM.out).mono ?_
          rintro e w3 ⟨rfl, rfl⟩
          go_wp2
          go_ret2
          exact ⟨piece_err HE.out (by omega), X2⟩
      · have HE := Lib.hid (piece_far HB.out (by rw [HQ.out]; exact hfar))
        go_wp2
        go_ret2
        exact ⟨piece_err HE.out (by omega), X2⟩
    · have HE := Lib.hid (piece_no (L := L) (f := f) (a := a) (n := n) (by simp [pieceB]; intro _; omega))
      have hgt : decide (a / 160 < f) = true := decide_eq_true (by omega)
      clear hl
      go_enter Try.func18, Try.ntmps18
      go_wp2_with fail
      refine (least_is c0 c1 c2 HL.out).mono ?_
      rintro e w1 ⟨rfl, rfl⟩
      go_wp2
      go_ret2
      exact ⟨piece_err HE.out (by omega), x0⟩

theorem bytes_take_le (L : List ByteArray) (k : Nat) : (bytes (L.take k)).length ≤ (bytes L).length := by
  have h : bytes L = bytes (L.take k) ++ bytes (L.drop k) := by
    unfold bytes
    rw [← List.flatten_append, ← List.map_append, List.take_append_drop]
  rw [h, List.length_append]
  omega
theorem okAt_no_mid {L : List ByteArray} {i n : Nat} {x : ByteArray} (hn : L.length = n) (hx : L[i]? = some x) (hi : i + 1 < n) (h : x.size ≠ 160) : okAt L i = false := by rw [okAt_mid hn hx hi]; simpa using h
theorem okAt_no_last {L : List ByteArray} {i n : Nat} {x : ByteArray} (hn : L.length = n) (hx : L[i]? = some x) (hi : n ≤ i + 1) (h : x.size = 0 ∨ 160 < x.size) : okAt L i = false := by
  rw [okAt_last hn hx hi, Bool.and_eq_false_iff]
  rcases h with h | h
  · exact .inl (by simpa using h)
  · exact .inr (by simpa using h)

set_option maxHeartbeats 2000000 in
theorem rpiece_any {A : Option Addr} {k c : Nat} {L : List ByteArray} {f a n : Int} {w : World} (h : Sl w A k c L) (hf : (bytes L).length ≤ 1000000) (hna : Num64 a) (hnn : Num64 n) :
    Calls Try.prog 19 #[.slice A k c, .int .i64 f, .int .i64 a, .int .i64 n] w fun e w' => RetPiece L f a n e ∧ Ext w w' := by
  have HF := Lib.hid hf
  have hb := h.big
  have HL := Lib.hid h.len
  have x0 := Below.refl w.heap.size w
  unfold Num64 at hna hnn
  clear hf
  by_cases hp : pieceB f a n = true
  · obtain ⟨p1, p2, p3, p4⟩ := piece_of hp
    have HB := Lib.hid hp
    have hgt : decide (a / 160 < f) = false := decide_eq_false (by omega)
    obtain ⟨q, hq⟩ : ∃ q, pieceAt f a = q := ⟨_, rfl⟩
    have hq' : a - f * 160 = q := hq
    have HQ := Lib.hid hq
    have hq0 : 0 ≤ q := by omega
    have HS := Lib.hid (whole_size L)
    clear hp
    go_enter Try.func19, Try.ntmps19
    go_wp2
    go_loop [11, 12] (fun t i => ∃ j : Nat, j ≤ k ∧ i = .int .i64 j ∧ t = .int .i64 ((bytes (L.take j)).length : Nat)) (fun _ i => k - (intOf i).toNat)
    case atStart => exact ⟨0, Nat.zero_le _, rfl, rfl⟩
    case round =>
      obtain ⟨j, hj, rfl, rfl⟩ := hrel
      by_cases hlt : j < k
      · obtain ⟨b, off, rfl, ha⟩ := h.at_ (by omega)
        obtain ⟨x, hx, hx1⟩ := h.get hlt
        have c0 := ha j _ hx.out
        have hsn := congrArg List.length (bytes_snoc hx.out)
        rw [List.length_append, Array.length_toList] at hsn
        have HN : Hid ((bytes (L.take (j + 1))).length = (bytes (L.take j)).length + x.size) := hsn
        have hle : (bytes (L.take j)).length + x.size ≤ 1000000 := by rw [← HN.out]; exact Nat.le_trans (bytes_take_le _ _) HF.out
        clear hsn
        generalize (bytes (L.take j)).length = T at *
        go_wp2
        go_round
        case rel => exact ⟨j + 1, by omega, by go_num, by rw [HN.out]; go_num⟩
        case measure => simp [intOf]; omega
      · obtain rfl : j = k := by omega
        have hT : (bytes (L.take j)).length = (whole L).size := by rw [HS.out, ← HL.out, List.take_length]
        rw [hT]
        have hsz : (whole L).size ≤ 1000000 := by rw [HS.out]; exact HF.out
        clear hT
        by_cases hfar : q ≤ (whole L).size
        · go_wp2
          go_loop [13] (fun i => ∃ m : Nat, m ≤ j ∧ i = .int .i64 m ∧ Hid (∀ u, u < m → okAt L u = true)) (fun i => j - (intOf i).toNat)
          case atStart => exact ⟨0, Nat.zero_le _, rfl, fun u hu => absurd hu (by omega)⟩
          case round =>
            obtain ⟨m, hm, rfl, hall⟩ := hrel
            by_cases hlm : m < j
            · obtain ⟨b, off, rfl, ha⟩ := h.at_ (by omega)
              obtain ⟨x, hx, hx1⟩ := h.get hlm
              have c0 := ha m _ hx.out
              by_cases hmid : m + 1 < j
              · have h2 : decide ((m : Int) < (j : Int) - 1) = true := decide_eq_true (by omega)
                by_cases z : x.size = 160
                · have HO := Lib.hid (show okAt L m = true by rw [okAt_mid HL.out hx.out hmid]; simpa using z)
                  have h0 : ((x.size : Int) == 0) = false := by rw [beq_eq_false_iff_ne]; omega
                  have h1 : decide (160 < (x.size : Int)) = false := decide_eq_false (by omega)
                  have h3 : ((x.size : Int) != 160) = false := by rw [z]; rfl
                  clear z hmid
                  go_wp2
                  go_round
                  case rel =>
                    refine ⟨m + 1, by omega, by go_num, fun u hu => ?_⟩
                    rcases Nat.lt_or_ge u m with hl | hl
                    · exact hall.out u hl
                    · obtain rfl : u = m := by omega
                      exact HO.out
                  case measure => simp [intOf]; omega
                · have HO := Lib.hid (okAt_no_mid HL.out hx.out hmid z)
                  have h3 : ((x.size : Int) != 160) = true := by rw [bne_iff_ne]; omega
                  clear z hmid
                  have HE := Lib.hid (piece_form HB.out (by rw [HQ.out]; exact hfar) (form_not HL.out hlm HO.out))
                  go_wp2
                  go_ret2
                  exact ⟨piece_err HE.out (by omega), x0⟩
              · have h2 : decide ((m : Int) < (j : Int) - 1) = false := decide_eq_false (by omega)
                by_cases z : x.size = 0
                · have HO := Lib.hid (okAt_no_last HL.out hx.out (by omega) (.inl z))
                  have h0 : ((x.size : Int) == 0) = true := by rw [beq_iff_eq]; omega
                  clear z hmid
                  have HE := Lib.hid (piece_form HB.out (by rw [HQ.out]; exact hfar) (form_not HL.out hlm HO.out))
                  go_wp2
                  go_ret2
                  exact ⟨piece_err HE.out (by omega), x0⟩
                · have h0 : ((x.size : Int) == 0) = false := by rw [beq_eq_false_iff_ne]; omega
                  by_cases z1 : 160 < x.size
                  · have HO := Lib.hid (okAt_no_last HL.out hx.out (by omega) (.inr z1))
                    have h1 : decide (160 < (x.size : Int)) = true := decide_eq_true (by omega)
                    clear z z1 hmid
                    have HE := Lib.hid (piece_form HB.out (by rw [HQ.out]; exact hfar) (form_not HL.out hlm HO.out))
                    go_wp2
                    go_ret2
                    exact ⟨piece_err HE.out (by omega), x0⟩
                  · have HO := Lib.hid (show okAt L m = true by rw [okAt_last HL.out hx.out (by omega), decide_eq_true z, decide_eq_true (show x.size ≤ 160 by omega)]; rfl)
                    have h1 : decide (160 < (x.size : Int)) = false := decide_eq_false (by omega)
                    clear z z1 hmid
                    go_wp2
                    go_round
                    case rel =>
                      refine ⟨m + 1, by omega, by go_num, fun u hu => ?_⟩
                      rcases Nat.lt_or_ge u m with hl | hl
                      · exact hall.out u hl
                      · obtain rfl : u = m := by omega
                        exact HO.out
                    case measure => simp [intOf]; omega
            · have HE := Lib.hid (piece_ok HB.out (by rw [HQ.out]; exact hfar) (form_of HL.out (fun u hu => hall.out u (by omega))))
              go_wp2
              go_loop [14, 15] (fun t i => ∃ u : Nat, u ≤ j ∧ i = .int .i64 u ∧ t = .string (whole (L.take u))) (fun _ i => j - (intOf i).toNat)
              case atStart => exact ⟨0, Nat.zero_le _, rfl, rfl⟩
              case round =>
                obtain ⟨u, hu, rfl, rfl⟩ := hrel
                by_cases hlu : u < j
                · obtain ⟨b, off, rfl, ha⟩ := h.at_ (by omega)
                  obtain ⟨x, hx, hx1⟩ := h.get hlu
                  have c0 := ha u _ hx.out
                  have HN := Lib.hid (whole_snoc hx.out)
                  have hle : (whole (L.take u)).size + x.size ≤ 1000000 := by
                    have e := congrArg List.length (bytes_snoc hx.out)
                    rw [List.length_append] at e
                    rw [whole_size]
                    have := bytes_take_le L (u + 1)
                    have := HF.out
                    have hz : x.data.toList.length = x.size := by rw [Array.length_toList]; rfl
                    omega
                  go_wp2
                  go_round
                  case rel => exact ⟨u + 1, by omega, by go_num, by rw [← HN.out]⟩
                  case measure => simp [intOf]; omega
                · have HW : Hid (whole (L.take u) = whole L) := by show _ = _; rw [List.take_of_length_le (by rw [HL.out]; omega)]
                  rw [HW.out]
                  go_wp2
                  go_ret2
                  exact ⟨piece_ret HE.out HQ.out, x0⟩
        · have HE := Lib.hid (piece_far HB.out (by rw [HQ.out]; exact hfar))
          go_wp2
          go_ret2
          exact ⟨piece_err HE.out (by omega), x0⟩
  · have HE := Lib.hid (piece_no (L := L) (Bool.eq_false_iff.2 hp))
    have hb' : ¬ (0 ≤ f ∧ 0 ≤ a ∧ 0 ≤ n ∧ f ≤ a / 160) := fun hh => hp (by simp [pieceB, leastB]; omega)
    have HB := Lib.hid hb'
    clear hp hb'
    go_enter Try.func19, Try.ntmps19
    go_wp2
    all_goals first | (go_ret2; exact ⟨piece_err HE.out (by omega), x0⟩) | (exfalso; have := HB.out; omega)

end Go.Proofs.Ytpfjikkpfnmepaa
