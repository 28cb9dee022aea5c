/-
  A region that draws its order, walked by ONE schedule: operations that yield the same in every world are taken as soon as they are ready; the others come one by one, each when nothing else is ready.
-/
import Derived.Test.YtpfjikkpfnmepaaBase
namespace Go.Proofs.Ytpfjikkpfnmepaa
open Go.RowKit

section
variable {P : Program} {md : Region.Mode} {ops : Array Oper} {Q : Exit → Act → World → Prop}

def schedB (md : Region.Mode) (ops : Array Oper) : List (Nat × Bool) → Array Bool → Bool
  | [], listed => (Region.ready md ops listed).isEmpty
  | (i, c) :: r, listed => (if c = true then (Region.ready md ops listed).contains i && Region.free md ops listed i else Region.ready md ops listed == [i]) && schedB md ops r (listed.setIfInBounds i true)

def pick (l : List Oper) : List (Nat × Bool) → List (Oper × Bool)
  | [] => []
  | (i, c) :: r => match l[i]? with | some o => (o, c) :: pick l r | none => pick l r

def wpMix (P : Program) (ops : Array Oper) (Q : Exit → Act → World → Prop) : List (Oper × Bool) → Act → World → Prop
  | [], a, w => Q .normal a w
  | (o, c) :: r, a, w =>
    if Region.wanted o (yielded ops a.tmps) = true then
      (if c = true then o.quiet P a (fun _ => True) (fun a' => wpMix P ops Q r a' w) else o.wp P a w (wpMix P ops Q r) Q)
    else wpMix P ops Q r (a.put o.dst undef) w

theorem mix_calm {a : Act} {o : Oper} {r : List (Oper × Bool)} {w : World} (hw : Region.wanted o (yielded ops a.tmps) = true)
    (h : ∀ K : Act → Prop, (∀ a', wpMix P ops Q r a' w → K a') → o.quiet P a (fun _ => True) K) : wpMix P ops Q ((o, true) :: r) a w := by
  unfold wpMix
  rw [if_pos hw, if_pos rfl]
  exact h _ fun _ h => h
theorem mix_sole {a : Act} {o : Oper} {r : List (Oper × Bool)} {w : World} (hw : Region.wanted o (yielded ops a.tmps) = true)
    (h : ∀ K : Act → World → Prop, (∀ a' w', wpMix P ops Q r a' w' → K a' w') → o.wp P a w K Q) : wpMix P ops Q ((o, false) :: r) a w := by
  unfold wpMix
  rw [if_pos hw, if_neg (by decide)]
  exact h _ fun _ _ h => h
theorem mix_skip {a : Act} {o : Oper} {c : Bool} {r : List (Oper × Bool)} {w : World} (hw : Region.wanted o (yielded ops a.tmps) = false)
    (h : wpMix P ops Q r (a.put o.dst undef) w) : wpMix P ops Q ((o, c) :: r) a w := by
  unfold wpMix
  rw [if_neg (by rw [hw]; decide)]
  exact h
theorem mix_nil {a : Act} {w : World} (h : Q .normal a w) : wpMix P ops Q [] a w := h

/-- An operation whose only outcome, if it has one, is a value. -/
def plainOp (o : Oper) : Bool :=
  match o.op with
  | .move _ | .assign _ | .pick _ _ _ | .binOp _ _ _ _ _ | .unOp _ _ _ | .convert _ _ _ | .slice _ _ _ _ _ | .fieldAddr _ _ _ | .field _ _ _ | .indexAddr _ _ _ | .index _ _ _ | .extract _ _ | .makeInterface _ _ | .build _ _ => true
  | .call c => (match c.callee with | .builtin .len => true | .builtin .cap => true | .builtin .min => true | .builtin .max => true | _ => false)
  | _ => false

theorem value_of_bind {s : Sem Value} {w w' : World} {n : Next} (h : (do pure (.value (← s)) : Sem Next).run P w = .ok n w') : ∃ v, n = .value v := by
  simp only [Sem.run_bind] at h
  cases hs : s.run P w with
  | ok v w1 => rw [hs] at h; simp at h; exact ⟨v, h.1.symm⟩
  | halt x w1 => rw [hs] at h; simp at h

theorem plain_value {o : Oper} (ho : plainOp o = true) {ρ : Operand → Value} {w w' : World} {n : Next} (h : (execOp ρ o).run P w = .ok n w') : ∃ v, n = .value v := by
  obtain ⟨dst, op, type, pos, after, guard⟩ := o
  cases op with
  | call c =>
    obtain ⟨callee, args, types⟩ := c
    cases callee with
    | builtin b =>
      cases b with
      | len | cap | min | max => simp only [execOp, resolve, invoke, builtin, Sem.run_bind, Sem.run_pure, Result.andThen_ok] at h; exact value_of_bind (by simpa only [Sem.run_bind, Sem.run_pure] using h)
      | _ => simp [plainOp] at ho
    | _ => simp [plainOp] at ho
  | move x => simp [execOp] at h; exact ⟨_, h.1.symm⟩
  | assign x => simp [execOp] at h; exact ⟨_, h.1.symm⟩
  | pick c a b =>
    simp only [execOp] at h
    refine value_of_bind (s := do pure (if ← asBool (ρ c) then ρ a else ρ b)) (n := n) (w := w) (w' := w') (P := P) ?_
    rw [← h]
    simp
  | binOp | unOp | convert | slice | fieldAddr | field | indexAddr | index | extract | makeInterface | build => exact value_of_bind h
  | _ => simp [plainOp] at ho

theorem plain_yields {o : Oper} (ho : plainOp o = true) {a : Act} {v : Value} (h : ∀ w, o.quietAt P a (fun _ => True) w v) (w : World) : (execOp a.eval o).run P w = .ok (.value v) w := by
  have h1 := h w
  unfold Oper.quietAt at h1
  cases hr : (execOp a.eval o).run P w with
  | halt x w' => rw [hr] at h1; exact h1.elim
  | ok n w' =>
    obtain ⟨u, rfl⟩ := plain_value ho hr
    rw [hr] at h1
    obtain ⟨e1, e2⟩ := h1
    rw [e1, e2]

theorem wpAny_mix (hs : Region.noSelect ops = true) (hQ : ∀ c a d v w, Q (.panic c) (a.put d v) w → Q (.panic c) a w) :
    ∀ (σ : List (Nat × Bool)) (k : Nat) (listed : Array Bool) (a : Act) (w : World), schedB md ops σ listed = true →
      (∀ i o, (i, true) ∈ σ → ops[i]? = some o → plainOp o = true) →
      wpMix P ops Q (pick ops.toList σ) a w → wpAny P md ops Q (σ.length + k) listed a w := by
  intro σ
  induction σ with
  | nil =>
    intro k listed a w hb _ h
    exact wpAny_done (by simpa [schedB] using hb) h _
  | cons x r ih =>
    obtain ⟨i, c⟩ := x
    intro k listed a w hb hc h
    simp only [schedB, Bool.and_eq_true] at hb
    obtain ⟨hb1, hb2⟩ := hb
    have hi : i ∈ Region.ready md ops listed := by
      cases c with
      | true => rw [if_pos rfl] at hb1; simp only [Bool.and_eq_true] at hb1; simpa using hb1.1
      | false => rw [if_neg (by decide)] at hb1; simp at hb1; rw [hb1]; simp
    have hsz : i < ops.size := by
      unfold Region.ready at hi
      exact List.mem_range.1 (List.mem_filter.1 hi).1
    have ho : ops[i]? = some ops[i] := Array.getElem?_eq_getElem hsz
    generalize ops[i] = o at ho
    have hol : ops.toList[i]? = some o := by rw [← ho]; simp
    have hp : pick ops.toList ((i, c) :: r) = (o, c) :: pick ops.toList r := by simp only [pick, hol]
    rw [hp] at h
    have hc' : ∀ i o, (i, true) ∈ r → ops[i]? = some o → plainOp o = true := fun i o hm => hc i o (List.mem_cons_of_mem _ hm)
    have key := fun a w h => ih k (listed.setIfInBounds i true) a w hb2 hc' h
    rw [show ((i, c) :: r).length + k = (r.length + k) + 1 by simp only [List.length_cons]; omega]
    unfold wpMix at h
    cases c with
    | true =>
      rw [if_pos rfl] at hb1
      simp only [Bool.and_eq_true] at hb1
      by_cases hw : Region.wanted o (yielded ops a.tmps) = true
      · rw [if_pos hw, if_pos rfl] at h
        obtain ⟨v, hv, hn⟩ := h
        exact wpAny_take ho hs hb1.2 hb1.1 (fun c a w h => hQ c a _ _ w h) (.inl ⟨hw, plain_yields (hc i o (by simp) ho) fun w => hv w trivial⟩) (key _ _ hn)
      · rw [if_neg hw] at h
        exact wpAny_take (v := undef) ho hs hb1.2 hb1.1 (fun c a w h => hQ c a _ _ w h) (.inr ⟨by simpa using hw, rfl⟩) (key _ _ h)
    | false =>
      rw [if_neg (by decide)] at hb1
      have hr : Region.ready md ops listed = [i] := by simpa using hb1
      refine wpAny_all hr (by simp) ?_
      intro j hj
      obtain rfl : j = i := by simpa using hj
      unfold wpOp
      simp only [ho]
      by_cases hw : Region.wanted o (yielded ops a.tmps) = true
      · rw [if_pos hw, if_neg (by decide)] at h
        rw [if_pos hw]
        exact .inl (Oper.wp_mono (fun a w h => key a w h) h)
      · rw [if_neg hw] at h
        rw [if_neg hw]
        exact key _ _ h

def calmB (ops : Array Oper) (σ : List (Nat × Bool)) : Bool := σ.all fun x => !x.2 || match ops[x.1]? with | some o => plainOp o | none => true

theorem wp_region_mix {id : Nat} {a : Act} {w : World} {l : List Oper} (σ : List (Nat × Bool)) (hm : P.follows .mixedOrders = true) (hs : Region.noSelect l.toArray = true)
    (hb : schedB .any l.toArray σ (Array.replicate l.toArray.size false) = true) (hc : calmB l.toArray σ = true) (hl : σ.length = l.toArray.size)
    (hQ : ∀ c a d v w, Q (.panic c) (a.put d v) w → Q (.panic c) a w) (h : ∀ w', Ext w w' → wpMix P l.toArray Q (pick l σ) a w') : (Code.region id l.toArray true).wp P Q a w := by
  refine wp_region_any hm ?_
  rw [← hl]
  refine wpAny_mix (k := 0) hs hQ σ _ a _ (by rw [hl]; exact hb) ?_ (h _ ((Below.refl _ _).drew))
  intro i o hi ho
  unfold calmB at hc
  rw [List.all_eq_true] at hc
  have := hc _ hi
  simp only [Bool.not_true, Bool.false_or] at this
  rw [ho] at this
  exact this
end

end Go.Proofs.Ytpfjikkpfnmepaa
