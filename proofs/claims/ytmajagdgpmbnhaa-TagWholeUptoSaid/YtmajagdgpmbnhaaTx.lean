/-
  A tag's text, both sides.
-/
import Derived.Test.YtmajagdgpmbnhaaRi
namespace Go.Proofs.Ytmajagdgpmbnhaa
open Go.RowKit

def hexd (d : Nat) : UInt8 := UInt8.ofNat (if d < 10 then 48 + d else 87 + d)
def five (n : Nat) : List UInt8 := [hexd (n / 65536 % 16), hexd (n / 4096 % 16), hexd (n / 256 % 16), hexd (n / 16 % 16), hexd (n % 16)]
def txtS (t : Int × Int) : ByteArray := if right t = true then ⟨(five t.1.toNat ++ five t.2.toNat).toArray⟩ else ⟨#[]⟩
def RetT (t : Int × Int) (w : World) (e : Ending) (w' : World) : Prop := e = .returned (.tuple #[.string (txtS t), .int .i64 (chkT t)]) ∧ Ext w w'

/-- Digit j of a number of five. -/
def dg (n j : Nat) : Nat := n / 2 ^ (16 - 4 * j) % 16
def ten (a b k : Nat) (j : Nat) : Int := if j < 5 then (if j < k then ((hexd (dg a j)).toNat : Int) else 0) else (if j < 5 + k then ((hexd (dg b (j - 5))).toNat : Int) else 0)
structure Ten (w : World) (B : Nat) (f : Nat → Int) : Prop where
  lt : B < w.heap.size
  c : ∀ j, j < 10 → w.cell? ⟨B, j, none⟩ = some (.int .u8 (f j))
  z : ∀ j, j < 10 → w.frozen? ⟨B, j, none⟩ = false
theorem Ten.set {w : World} {B : Nat} {f : Nat → Int} (h : Ten w B f) (i : Nat) (hi : i < 10) (v : Int) : Ten (w.setCell ⟨B, i, none⟩ (.int .u8 v)) B (fun j => if j = i then v else f j) := by
  obtain ⟨h0, hc, hz⟩ := h
  refine ⟨by simpa using h0, fun j hj => ?_, fun j hj => ?_⟩
  · by_cases e : j = i
    · subst e
      have := hc j hj
      rw [if_pos rfl]
      go_simp
    · have := hc j hj
      have e2 : ¬ i = j := fun h => e h.symm
      rw [if_neg e]
      go_simp
  · have := hz j hj
    go_simp
theorem Ten.same {w : World} {B : Nat} {f g : Nat → Int} (h : Ten w B f) (e : ∀ j, j < 10 → f j = g j) : Ten w B g :=
  ⟨h.lt, fun j hj => by rw [← e j hj]; exact h.c j hj, h.z⟩
theorem ten_step {a b k d g : Nat} (hk : k < 5) (hd : dg a k = d) (hg : dg b k = g) (j : Nat) (hj : j < 10) :
    (if j = 5 + k then ((hexd g).toNat : Int) else if j = k then ((hexd d).toNat : Int) else ten a b k j) = ten a b (k + 1) j := by
  unfold ten
  by_cases h5 : j < 5
  · rw [if_neg (by omega), if_pos h5, if_pos h5]
    by_cases hjk : j = k
    · subst hjk
      rw [if_pos rfl, if_pos (by omega), hd]
    · rw [if_neg hjk]
      by_cases h6 : j < k
      · rw [if_pos h6, if_pos (by omega)]
      · rw [if_neg h6, if_neg (by omega)]
  · rw [if_neg h5, if_neg h5]
    by_cases hjk : j = 5 + k
    · subst hjk
      rw [if_pos rfl, if_pos (by omega), show 5 + k - 5 = k by omega, hg]
    · rw [if_neg hjk, if_neg (by omega)]
      by_cases h6 : j < 5 + k
      · rw [if_pos h6, if_pos (by omega)]
      · rw [if_neg h6, if_neg (by omega)]
def txtB (a b : Nat) : ByteArray := ⟨(five a ++ five b).toArray⟩
theorem txtB_size (a b : Nat) : (txtB a b).size = 10 := rfl
theorem ten_done (a b i : Nat) (hi : i < (txtB a b).size) : ten a b 5 i = (((txtB a b)[i]).toNat : Int) := by
  have h : i = 0 ∨ i = 1 ∨ i = 2 ∨ i = 3 ∨ i = 4 ∨ i = 5 ∨ i = 6 ∨ i = 7 ∨ i = 8 ∨ i = 9 := by rw [txtB_size] at hi; omega
  rcases h with rfl | rfl | rfl | rfl | rfl | rfl | rfl | rfl | rfl | rfl
  · rfl
  · rfl
  · rfl
  · rfl
  · show ((hexd (a / 1 % 16)).toNat : Int) = ((hexd (a % 16)).toNat : Int); rw [Nat.div_one]
  · rfl
  · rfl
  · rfl
  · rfl
  · show ((hexd (b / 1 % 16)).toNat : Int) = ((hexd (b % 16)).toNat : Int); rw [Nat.div_one]
theorem Ten.text {w : World} {B a b : Nat} (h : Ten w B (ten a b 5)) : (convert 22 9 (.slice (some ⟨B, 0, none⟩) 10 10)).run Try.prog w = .ok (.string (txtB a b)) w := by
  have hb : Lib.Bytes w B 0 (txtB a b) := by
    intro i hi
    rw [Nat.zero_add, h.c i (by rw [txtB_size] at hi; exact hi), ten_done a b i hi]
  have h1 := Lib.run_convert_whole (P := Try.prog) w 22 5 9 Try.underlying22 Try.underlying5 Try.underlying9 B 0 (txtB a b) hb 10
  rw [txtB_size] at h1
  exact h1
theorem Cel.one {w : World} {b : Nat} {x y : Int} (h : Cel w b x y) {c i : Nat} (hc : b ≠ c) (u : Value) : Cel (w.setCell ⟨c, i, none⟩ u) b x y := by
  obtain ⟨h0, h1, h2, h3, h4⟩ := h
  exact ⟨by simpa using h0, by go_simp, by go_simp, by go_simp, by go_simp⟩
theorem Ten.new (w : World) (a b : Nat) : Ten (w.alloc (.cells #[.int .u8 0, .int .u8 0, .int .u8 0, .int .u8 0, .int .u8 0, .int .u8 0, .int .u8 0, .int .u8 0, .int .u8 0, .int .u8 0] 64)) w.heap.size (ten a b 0) := by
  have hz : ∀ j, j < 10 → ten a b 0 j = 0 := by
    intro j hj
    unfold ten
    by_cases h5 : j < 5
    · rw [if_pos h5, if_neg (by omega)]
    · rw [if_neg h5, if_neg (by omega)]
  refine ⟨by simp, fun j hj => ?_, fun j hj => by go_simp⟩
  rw [hz j hj]
  have h : j = 0 ∨ j = 1 ∨ j = 2 ∨ j = 3 ∨ j = 4 ∨ j = 5 ∨ j = 6 ∨ j = 7 ∨ j = 8 ∨ j = 9 := by omega
  rcases h with rfl | rfl | rfl | rfl | rfl | rfl | rfl | rfl | rfl | rfl <;> simp [World.cell?_alloc_at]
theorem RetT.yes {a b : Nat} {w w' : World} (ha : a < 1048573) (hb : b < 1048573) (hx : Ext w w') : RetT ((a : Int), (b : Int)) w (.returned (.tuple #[.string (txtB a b), .int .i64 0])) w' := by
  have h : right ((a : Int), (b : Int)) = true := right_mk ⟨by show (0 : Int) ≤ a; omega, by show (a : Int) ≤ 1048572; omega, by show (0 : Int) ≤ b; omega, by show (b : Int) ≤ 1048572; omega⟩
  refine ⟨?_, hx⟩
  rw [chkT_yes h]
  unfold txtS
  rw [if_pos h]
  rfl
theorem hex_0 (w : World) : (Instr.index 9 (.string ⟨#[48, 49, 50, 51, 52, 53, 54, 55, 56, 57, 97, 98, 99, 100, 101, 102]⟩) (.int .i64 0)).run Try.prog w = .ok (.int .u8 48) w := by kernel_rfl
theorem hex_1 (w : World) : (Instr.index 9 (.string ⟨#[48, 49, 50, 51, 52, 53, 54, 55, 56, 57, 97, 98, 99, 100, 101, 102]⟩) (.int .i64 1)).run Try.prog w = .ok (.int .u8 49) w := by kernel_rfl
theorem hex_2 (w : World) : (Instr.index 9 (.string ⟨#[48, 49, 50, 51, 52, 53, 54, 55, 56, 57, 97, 98, 99, 100, 101, 102]⟩) (.int .i64 2)).run Try.prog w = .ok (.int .u8 50) w := by kernel_rfl
theorem hex_3 (w : World) : (Instr.index 9 (.string ⟨#[48, 49, 50, 51, 52, 53, 54, 55, 56, 57, 97, 98, 99, 100, 101, 102]⟩) (.int .i64 3)).run Try.prog w = .ok (.int .u8 51) w := by kernel_rfl
theorem hex_4 (w : World) : (Instr.index 9 (.string ⟨#[48, 49, 50, 51, 52, 53, 54, 55, 56, 57, 97, 98, 99, 100, 101, 102]⟩) (.int .i64 4)).run Try.prog w = .ok (.int .u8 52) w := by kernel_rfl
theorem hex_5 (w : World) : (Instr.index 9 (.string ⟨#[48, 49, 50, 51, 52, 53, 54, 55, 56, 57, 97, 98, 99, 100, 101, 102]⟩) (.int .i64 5)).run Try.prog w = .ok (.int .u8 53) w := by kernel_rfl
theorem hex_6 (w : World) : (Instr.index 9 (.string ⟨#[48, 49, 50, 51, 52, 53, 54, 55, 56, 57, 97, 98, 99, 100, 101, 102]⟩) (.int .i64 6)).run Try.prog w = .ok (.int .u8 54) w := by kernel_rfl
theorem hex_7 (w : World) : (Instr.index 9 (.string ⟨#[48, 49, 50, 51, 52, 53, 54, 55, 56, 57, 97, 98, 99, 100, 101, 102]⟩) (.int .i64 7)).run Try.prog w = .ok (.int .u8 55) w := by kernel_rfl
theorem hex_8 (w : World) : (Instr.index 9 (.string ⟨#[48, 49, 50, 51, 52, 53, 54, 55, 56, 57, 97, 98, 99, 100, 101, 102]⟩) (.int .i64 8)).run Try.prog w = .ok (.int .u8 56) w := by kernel_rfl
theorem hex_9 (w : World) : (Instr.index 9 (.string ⟨#[48, 49, 50, 51, 52, 53, 54, 55, 56, 57, 97, 98, 99, 100, 101, 102]⟩) (.int .i64 9)).run Try.prog w = .ok (.int .u8 57) w := by kernel_rfl
theorem hex_10 (w : World) : (Instr.index 9 (.string ⟨#[48, 49, 50, 51, 52, 53, 54, 55, 56, 57, 97, 98, 99, 100, 101, 102]⟩) (.int .i64 10)).run Try.prog w = .ok (.int .u8 97) w := by kernel_rfl
theorem hex_11 (w : World) : (Instr.index 9 (.string ⟨#[48, 49, 50, 51, 52, 53, 54, 55, 56, 57, 97, 98, 99, 100, 101, 102]⟩) (.int .i64 11)).run Try.prog w = .ok (.int .u8 98) w := by kernel_rfl
theorem hex_12 (w : World) : (Instr.index 9 (.string ⟨#[48, 49, 50, 51, 52, 53, 54, 55, 56, 57, 97, 98, 99, 100, 101, 102]⟩) (.int .i64 12)).run Try.prog w = .ok (.int .u8 99) w := by kernel_rfl
theorem hex_13 (w : World) : (Instr.index 9 (.string ⟨#[48, 49, 50, 51, 52, 53, 54, 55, 56, 57, 97, 98, 99, 100, 101, 102]⟩) (.int .i64 13)).run Try.prog w = .ok (.int .u8 100) w := by kernel_rfl
theorem hex_14 (w : World) : (Instr.index 9 (.string ⟨#[48, 49, 50, 51, 52, 53, 54, 55, 56, 57, 97, 98, 99, 100, 101, 102]⟩) (.int .i64 14)).run Try.prog w = .ok (.int .u8 101) w := by kernel_rfl
theorem hex_15 (w : World) : (Instr.index 9 (.string ⟨#[48, 49, 50, 51, 52, 53, 54, 55, 56, 57, 97, 98, 99, 100, 101, 102]⟩) (.int .i64 15)).run Try.prog w = .ok (.int .u8 102) w := by kernel_rfl
theorem hex_index (d : Nat) (hd : d < 16) (w : World) : (Instr.index 9 (.string ⟨#[48, 49, 50, 51, 52, 53, 54, 55, 56, 57, 97, 98, 99, 100, 101, 102]⟩) (.int .i64 (d : Int))).run Try.prog w = .ok (.int .u8 ((hexd d).toNat : Int)) w := by
  match d, hd with
  | 0, _ => exact hex_0 w
  | 1, _ => exact hex_1 w
  | 2, _ => exact hex_2 w
  | 3, _ => exact hex_3 w
  | 4, _ => exact hex_4 w
  | 5, _ => exact hex_5 w
  | 6, _ => exact hex_6 w
  | 7, _ => exact hex_7 w
  | 8, _ => exact hex_8 w
  | 9, _ => exact hex_9 w
  | 10, _ => exact hex_10 w
  | 11, _ => exact hex_11 w
  | 12, _ => exact hex_12 w
  | 13, _ => exact hex_13 w
  | 14, _ => exact hex_14 w
  | 15, _ => exact hex_15 w
  | n + 16, h => omega
theorem shr_four (a k : Nat) : (a : Int) / 2 ^ (16 - 4 * k) = ((a / 2 ^ (16 - 4 * k) : Nat) : Int) := by simp
theorem and15_i64 (p : Nat) (h : p < 9223372036854775808) : bits BinOp.and IntKind.i64 (p : Int) 15 = ((p % 16 : Nat) : Int) := by
  have h2 : p &&& 15 = p % 16 := by
    have := Nat.and_two_pow_sub_one_eq_mod p 4
    rwa [show 2 ^ 4 - 1 = 15 from rfl] at this
  show IntKind.i64.wrap ((BitVec.ofInt 64 (p : Int) &&& BitVec.ofInt 64 ((15 : Nat) : Int)).toNat : Int) = _
  rw [BitVec.toNat_and, ofInt_u64 p (by omega), ofInt_u64 15 (by omega), h2, IntKind.wrap_i64]
  omega

set_option maxRecDepth 100000 in
set_option maxHeartbeats 1000000 in
theorem text_any (t : Int × Int) (w : World) : Calls Try.prog 20 #[tagV t] w (RetT t w) := by
  obtain ⟨x, y⟩ := t
  have hx := Ext.al w (.cells #[.int .i64 x, .int .i64 y] 28)
  cases h : right (x, y) with
  | true =>
    obtain ⟨b1, b2, b3, b4⟩ := right_of h
    obtain ⟨a, rfl⟩ : ∃ a : Nat, x = a := ⟨x.toNat, by have : 0 ≤ x := b1; omega⟩
    obtain ⟨b, rfl⟩ : ∃ b : Nat, y = b := ⟨y.toNat, by have : 0 ≤ y := b3; omega⟩
    have hA := Cel.new w a b 28
    obtain ⟨-, c0, c1, -, -⟩ := Cel.new w a b 28
    have HE := Lib.hid (chkT_yes h)
    have ha9 : a < 1048573 := by have : (a : Int) ≤ 1048572 := b2; omega
    have hb9 : b < 1048573 := by have : (b : Int) ≤ 1048572 := b4; omega
    clear h b1 b2 b3 b4
    show Calls Try.prog 20 #[.agg #[.int .i64 a, .int .i64 b]] w _
    go_enter Try.func20, Try.ntmps20
    go_wp2_with fail
    refine (tcheck_is (t := ((a : Int), (b : Int))) HE.out _).mono ?_
    rintro e w1 ⟨rfl, x1⟩
    have X := Ext.of hx x1
    have hA1 := hA.ext x1
    clear hA c0 c1 HE
    obtain ⟨l0, c0, c1, f0, f1⟩ := hA1
    go_wp2
    have hT0 := Ten.new w1 a b
    have hC0 := (Cel.mk l0 c0 c1 f0 f1).ext (Ext.al w1 (.cells #[.int .u8 0, .int .u8 0, .int .u8 0, .int .u8 0, .int .u8 0, .int .u8 0, .int .u8 0, .int .u8 0, .int .u8 0, .int .u8 0] 64))
    have HB : w.heap.size < w1.heap.size := l0
    have HBL := X.size
    clear c0 c1 f0 f1 l0
    have X0 := Ext.of X (Ext.al w1 (.cells #[.int .u8 0, .int .u8 0, .int .u8 0, .int .u8 0, .int .u8 0, .int .u8 0, .int .u8 0, .int .u8 0, .int .u8 0, .int .u8 0] 64))
    go_loopw [12] (fun i wr => ∃ k : Nat, k ≤ 5 ∧ i = .int .i64 k ∧ Ten wr w1.heap.size (ten a b k) ∧ Cel wr w.heap.size a b ∧ Ext w wr) (fun i _ => 5 - (intOf i).toNat)
    case atStart => exact ⟨0, Nat.zero_le _, rfl, hT0, hC0, X0⟩
    case round =>
      obtain ⟨k, hk, rfl, hT, hC, hx2⟩ := hrel
      by_cases hlt : k < 5
      · obtain ⟨l0, c0, c1, f0, f1⟩ := hC
        obtain ⟨p, hp⟩ : ∃ p, a / 2 ^ (16 - 4 * k) = p := ⟨_, rfl⟩
        obtain ⟨q, hq⟩ : ∃ q, b / 2 ^ (16 - 4 * k) = q := ⟨_, rfl⟩
        have e1 := shr_four a k
        have e2 := shr_four b k
        rw [hp] at e1
        rw [hq] at e2
        have hp1 : p < 9223372036854775808 := by rw [← hp]; exact Nat.lt_of_le_of_lt (Nat.div_le_self _ _) (by omega)
        have hq1 : q < 9223372036854775808 := by rw [← hq]; exact Nat.lt_of_le_of_lt (Nat.div_le_self _ _) (by omega)
        have HD : Hid (dg a k = p % 16) := by show _ = _; unfold dg; rw [hp]
        have HG : Hid (dg b k = q % 16) := by show _ = _; unfold dg; rw [hq]
        have e3 := and15_i64 p hp1
        have e4 := and15_i64 q hq1
        obtain ⟨d, hd⟩ : ∃ d, p % 16 = d := ⟨_, rfl⟩
        obtain ⟨g, hg⟩ : ∃ g, q % 16 = g := ⟨_, rfl⟩
        rw [hd] at e3 HD
        rw [hg] at e4 HG
        have hd1 : d < 16 := by omega
        have hg1 : g < 16 := by omega
        have e5 := hex_index d hd1
        have e6 := hex_index g hg1
        clear hp1 hq1 hp hq hd hg
        have z0 := hT.c k (by omega)
        have z1 := hT.z k (by omega)
        have z2 := hT.c (5 + k) (by omega)
        have z3 := hT.z (5 + k) (by omega)
        have hT1 := (hT.set k (by omega) ((hexd d).toNat : Int)).set (5 + k) (by omega) ((hexd g).toNat : Int)
        have hT2 := hT1.same (ten_step hlt HD.out HG.out)
        have hC1 := ((Cel.mk l0 c0 c1 f0 f1).one (c := w1.heap.size) (i := k) (by omega) (.int .u8 ((hexd d).toNat : Int))).one (c := w1.heap.size) (i := 5 + k) (by omega) (.int .u8 ((hexd g).toNat : Int))
        have hx3 := (hx2.setCell (p := ⟨w1.heap.size, k, none⟩) (by show _ ≤ w1.heap.size; omega) (.int .u8 ((hexd d).toNat : Int))).setCell (p := ⟨w1.heap.size, 5 + k, none⟩) (by show _ ≤ w1.heap.size; omega) (.int .u8 ((hexd g).toNat : Int))
        clear hT1
        go_wp2
        go_roundw
        case rel => exact ⟨k + 1, by omega, by go_num, hT2, hC1, hx3⟩
        case measure => simp [intOf]; omega
      · obtain rfl : k = 5 := by omega
        have hconv := hT.text
        have l1 := hT.lt
        go_wp2
        go_ret2
        exact RetT.yes ha9 hb9 hx2
  | false =>
    have hE := chkT_no h
    have hS : txtS (x, y) = ⟨#[]⟩ := by simp [txtS, h]
    have HX : RetT (x, y) = fun w e w' => e = .returned (.tuple #[.string ⟨#[]⟩, .int .i64 2]) ∧ Ext w w' := by
      funext w e w'
      unfold RetT
      rw [hS, hE]
    rw [HX]
    obtain ⟨-, c0, c1, -, -⟩ := Cel.new w x y 28
    have hC := fun w => tcheck_is (t := (x, y)) hE w
    clear h hE hS HX
    show Calls Try.prog 20 #[.agg #[.int .i64 x, .int .i64 y]] w _
    go_enter Try.func20, Try.ntmps20
    go_wp2_with fail
    refine (hC _).mono ?_
    rintro e w1 ⟨rfl, x1⟩
    have X := Ext.of hx x1
    go_wp2
    go_ret2
    exact ⟨rfl, X⟩

end Go.Proofs.Ytmajagdgpmbnhaa
