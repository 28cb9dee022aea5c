/-
  Gauss' numbers, plain: products, powers, what is left of them.
-/
import GoSem.Core.Value
namespace Go.Proofs.Ytmajagdgpmbnhaa

def gm (s t : Int × Int) : Int × Int := (s.1 * t.1 - s.2 * t.2, s.1 * t.2 + s.2 * t.1)
def ga (s t : Int × Int) : Int × Int := (s.1 + t.1, s.2 + t.2)
def gpow (b : Int × Int) : Nat → Int × Int
  | 0 => (1, 0)
  | n + 1 => gm (gpow b n) b
def red (s : Int × Int) : Int × Int := (s.1 % 1048573, s.2 % 1048573)
theorem gm_assoc (a b c : Int × Int) : gm (gm a b) c = gm a (gm b c) := by
  unfold gm
  refine Prod.ext ?_ ?_ <;> simp only <;> grind
theorem gm_comm (a b : Int × Int) : gm a b = gm b a := by
  unfold gm
  refine Prod.ext ?_ ?_ <;> simp only <;> grind
theorem gm_one (a : Int × Int) : gm a (1, 0) = a := by
  unfold gm
  refine Prod.ext ?_ ?_ <;> simp
theorem gm_ga (a b c : Int × Int) : gm (ga a b) c = ga (gm a c) (gm b c) := by
  unfold gm ga
  refine Prod.ext ?_ ?_ <;> simp only <;> grind
theorem ga_assoc (a b c : Int × Int) : ga (ga a b) c = ga a (ga b c) := by
  unfold ga
  refine Prod.ext ?_ ?_ <;> simp only <;> omega
theorem gpow_add (b : Int × Int) (m n : Nat) : gpow b (m + n) = gm (gpow b m) (gpow b n) := by
  induction n with
  | zero => exact (gm_one _).symm
  | succ n ih =>
    show gm (gpow b (m + n)) b = gm (gpow b m) (gm (gpow b n) b)
    rw [ih, gm_assoc]
theorem gpow_sq (b : Int × Int) (k : Nat) : gpow (gm b b) k = gpow b (2 * k) := by
  induction k with
  | zero => rfl
  | succ k ih =>
    show gm (gpow (gm b b) k) (gm b b) = gpow b (2 * k + 2)
    rw [ih, gpow_add b (2 * k) 2]
    congr 1
    show gm b b = gm (gm (1, 0) b) b
    rw [gm_comm (1, 0) b, gm_one]
theorem red_gm (s t : Int × Int) : red (gm (red s) (red t)) = red (gm s t) := by
  unfold red gm
  refine Prod.ext ?_ ?_
  · simp only
    rw [Int.sub_emod, ← Int.mul_emod, ← Int.mul_emod, ← Int.sub_emod]
  · simp only
    rw [Int.add_emod, ← Int.mul_emod, ← Int.mul_emod, ← Int.add_emod]
theorem red_ga (s t : Int × Int) : red (ga (red s) (red t)) = red (ga s t) := by
  unfold red ga
  refine Prod.ext ?_ ?_
  · simp only
    rw [← Int.add_emod]
  · simp only
    rw [← Int.add_emod]
theorem red_red (s : Int × Int) : red (red s) = red s := by
  unfold red
  refine Prod.ext ?_ ?_ <;> simp
theorem red_bounds (s : Int × Int) : 0 ≤ (red s).1 ∧ (red s).1 ≤ 1048572 ∧ 0 ≤ (red s).2 ∧ (red s).2 ≤ 1048572 := by
  unfold red
  refine ⟨?_, ?_, ?_, ?_⟩ <;> simp only <;> omega
theorem red_small {s : Int × Int} (h1 : 0 ≤ s.1) (h2 : s.1 ≤ 1048572) (h3 : 0 ≤ s.2) (h4 : s.2 ≤ 1048572) : red s = s := by
  unfold red
  refine Prod.ext ?_ ?_ <;> simp only <;> omega

/-- What a tag is multiplied by, n times. -/
def tpow (n : Nat) : Int × Int := red (gpow (3, 2) n)
/-- A round of the power: p * b^m stays. -/
def Pw (n m : Nat) (p b : Int × Int) : Prop := ∃ a c, red a = p ∧ red c = b ∧ gm a (gpow c m) = gpow (3, 2) n
theorem Pw.start (n : Nat) : Pw n n (1, 0) (3, 2) := by
  refine ⟨(1, 0), (3, 2), by decide, by decide, ?_⟩
  rw [gm_comm, gm_one]
theorem Pw.even {n m : Nat} {p b : Int × Int} (h : Pw n m p b) (hm : m % 2 = 0) : Pw n (m / 2) p (red (gm b b)) := by
  obtain ⟨a, c, h1, h2, h3⟩ := h
  refine ⟨a, gm c c, h1, ?_, ?_⟩
  · rw [← h2, red_gm]
  · rw [gpow_sq, show 2 * (m / 2) = m by omega]
    exact h3
theorem Pw.odd {n m : Nat} {p b : Int × Int} (h : Pw n m p b) (hm : m % 2 = 1) : Pw n (m / 2) (red (gm p b)) (red (gm b b)) := by
  obtain ⟨a, c, h1, h2, h3⟩ := h
  refine ⟨gm a c, gm c c, ?_, ?_, ?_⟩
  · rw [← h1, ← h2, red_gm]
  · rw [← h2, red_gm]
  · rw [gpow_sq, gm_assoc]
    have e : gm c (gpow c (2 * (m / 2))) = gpow c m := by
      rw [gm_comm]
      show gpow c (2 * (m / 2) + 1) = _
      congr 1
      omega
    rw [e]
    exact h3
theorem Pw.done {n : Nat} {p b : Int × Int} (h : Pw n 0 p b) : p = tpow n := by
  obtain ⟨a, c, h1, h2, h3⟩ := h
  have e : gm a (1, 0) = gpow (3, 2) n := h3
  rw [gm_one] at e
  unfold tpow
  rw [← e, h1]

end Go.Proofs.Ytmajagdgpmbnhaa
