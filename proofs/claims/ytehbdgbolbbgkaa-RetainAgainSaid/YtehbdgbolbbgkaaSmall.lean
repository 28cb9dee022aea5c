/-
  Policies, rising numbers, numbers that are the same, how often a number stands among others; clones.
-/
import Derived.Test.YtehbdgbolbbgkaaMem
namespace Go.Proofs.Ytehbdgbolbbgkaa
open Go.RowKit

/-- Last, Every, Rows. -/
structure Pol where
  l : Int
  e : Int
  r : Int

def polB (p : Pol) : Bool := decide (1 ≤ p.l) && decide (p.l ≤ 1000) && decide (1 ≤ p.e) && decide (p.e ≤ 1152921504606846976) && decide (0 ≤ p.r) && decide (p.r ≤ 1000)
def pchk (p : Pol) : Int := if polB p = true then 0 else 2
theorem pchk_yes {p : Pol} (h : polB p = true) : pchk p = 0 := by simp [pchk, h]
theorem pchk_no {p : Pol} (h : polB p = false) : pchk p = 2 := by simp [pchk, h]
theorem pchk_is {p : Pol} {b : Bool} (h : polB p = b) : pchk p = if b = true then 0 else 2 := by subst h; rfl

theorem pcheck_any (l e r : Int) (w : World) : Calls Try.prog 15 #[.agg #[.int .i64 l, .int .i64 e, .int .i64 r]] w fun x w' => x = .returned (.int .i64 (pchk ⟨l, e, r⟩)) ∧ Ext w w' := by
  go_enter Try.func15, Try.ntmps15
  go_wp2
  all_goals
    go_ret
    refine ⟨ret_int (Eq.symm ?_), Ext.alloc _ _⟩
    first
      | (refine pchk_yes ?_; simp [polB, *]; done)
      | (refine pchk_no ?_; simp [polB, *]; omega)
      | (refine pchk_no ?_; simp [polB, *]; done)

theorem pright_any (l e r : Int) (w : World) : Calls Try.prog 25 #[.agg #[.int .i64 l, .int .i64 e, .int .i64 r]] w fun x w' => x = .returned (.bool (polB ⟨l, e, r⟩)) ∧ Ext w w' := by
  go_enter Try.func25, Try.ntmps25
  go_wp2
  all_goals
    go_ret
    refine ⟨ret_bool (Eq.symm ?_), Ext.alloc _ _⟩
    simp [polB, *]
    try omega

theorem pcheck_is {l e r : Int} {x : Int} (h : pchk ⟨l, e, r⟩ = x) (w : World) : Calls Try.prog 15 #[.agg #[.int .i64 l, .int .i64 e, .int .i64 r]] w fun y w' => y = .returned (.int .i64 x) ∧ Ext w w' := by
  subst h
  exact pcheck_any l e r w
theorem pright_is {l e r : Int} {b : Bool} (h : polB ⟨l, e, r⟩ = b) (w : World) : Calls Try.prog 25 #[.agg #[.int .i64 l, .int .i64 e, .int .i64 r]] w fun y w' => y = .returned (.bool b) ∧ Ext w w' := by
  subst h
  exact pright_any l e r w

theorem pol_new (w : World) (l e r : Int) (ty : TypeId) : (w.alloc (.cells #[.int .i64 l, .int .i64 e, .int .i64 r] ty)).cell? ⟨w.heap.size, 0, none⟩ = some (.int .i64 l) ∧ (w.alloc (.cells #[.int .i64 l, .int .i64 e, .int .i64 r] ty)).cell? ⟨w.heap.size, 1, none⟩ = some (.int .i64 e) ∧
    (w.alloc (.cells #[.int .i64 l, .int .i64 e, .int .i64 r] ty)).cell? ⟨w.heap.size, 2, none⟩ = some (.int .i64 r) := by
  refine ⟨?_, ?_, ?_⟩ <;> simp [World.cell?_alloc_at]

theorem rcheck_any (l e r : Int) (w : World) : Calls Try.prog 16 #[.agg #[.int .i64 l, .int .i64 e, .int .i64 r]] w fun x w' => x = .returned (.int .i64 (pchk ⟨l, e, r⟩)) ∧ Ext w w' := by
  have x0 := Ext.alloc w (.cells #[.int .i64 l, .int .i64 e, .int .i64 r] 24)
  obtain ⟨g0, g1, g2⟩ := pol_new w l e r 24
  cases hc : polB ⟨l, e, r⟩ with
  | true =>
    have HK := Lib.hid (pchk_yes hc)
    have HC := Lib.hid hc
    clear hc
    go_enter Try.func16, Try.ntmps16
    go_wp2_with fail
    refine (pright_is HC.out _).mono ?_
    rintro y w1 ⟨rfl, x1⟩
    have X := Ext.of x0 x1
    clear x0 x1
    go_wp2
    go_ret
    exact ⟨ret_int HK.out.symm, X⟩
  | false =>
    have HK := Lib.hid (pchk_no hc)
    have HC := Lib.hid hc
    clear hc
    go_enter Try.func16, Try.ntmps16
    go_wp2_with fail
    refine (pright_is HC.out _).mono ?_
    rintro y w1 ⟨rfl, x1⟩
    have X := Ext.of x0 x1
    clear x0 x1
    go_wp2
    go_ret
    exact ⟨ret_int HK.out.symm, X⟩

def okAt (L : List Int) (i : Nat) : Bool :=
  match L[i]? with
  | none => false
  | some v => decide (1 ≤ v) && decide (v ≤ 1152921504606846976) && (i == 0 || match L[i - 1]? with | none => false | some u => decide (u < v))
def riseB (L : List Int) : Bool := (List.range L.length).all (okAt L)
def timeB (v : Int) : Bool := decide (1 ≤ v) && decide (v ≤ 1152921504606846976)

theorem okAt_zero {L : List Int} {v : Int} (h : L[0]? = some v) : okAt L 0 = timeB v := by simp [okAt, h, timeB]
theorem okAt_succ {L : List Int} {k : Nat} {v u : Int} (h : L[k + 1]? = some v) (g : L[k]? = some u) : okAt L (k + 1) = (timeB v && decide (u < v)) := by simp [okAt, h, g, timeB]
theorem okAt_wrong {L : List Int} {k : Nat} {v : Int} (h : L[k]? = some v) (hr : timeB v = false) : okAt L k = false := by simp [okAt, h]; intro a b; simp [timeB] at hr; omega
theorem ok_step {L : List Int} {k : Nat} (h : Hid (∀ j, j < k → okAt L j = true)) (hk : okAt L k = true) : Hid (∀ j, j < k + 1 → okAt L j = true) := fun j hj => by
  by_cases e : j = k
  · rw [e]; exact hk
  · exact h.out j (by omega)
theorem riseB_of {L : List Int} {n : Nat} (hn : L.length = n) (h : ∀ j, j < n → okAt L j = true) : riseB L = true := by
  subst hn
  simpa [riseB] using h
theorem riseB_not {L : List Int} {n k : Nat} (hn : L.length = n) (hk : k < n) (h : okAt L k = false) : riseB L = false := by
  subst hn
  unfold riseB
  rw [List.all_eq_false]
  exact ⟨k, by simpa using hk, by simp [h]⟩
theorem riseB_at {L : List Int} (h : riseB L = true) {i : Nat} (hi : i < L.length) : okAt L i = true := by
  unfold riseB at h
  rw [List.all_eq_true] at h
  exact h i (by simpa using hi)

set_option maxHeartbeats 400000 in
theorem rise_any {A : Option Addr} {n c : Nat} {L : List Int} {w : World} (h : Sl w A n c L) : Calls Try.prog 18 #[.slice A n c] w fun e w' => e = .returned (.bool (riseB L)) ∧ Ext w w' := by
  have hcap := h.cap
  have hbig := h.big
  go_enter Try.func18, Try.ntmps18
  go_wp2
  go_loop [7] (fun i => ∃ k : Nat, k ≤ n ∧ i = .int .i64 k ∧ Hid (∀ j, j < k → okAt L j = true)) (fun i => n - (intOf i).toNat)
  case atStart => exact ⟨0, Nat.zero_le _, rfl, (fun j hj => absurd hj (by omega))⟩
  case round =>
    obtain ⟨k, hk, rfl, hall⟩ := hrel
    by_cases hlt : k < n
    · obtain ⟨b, off, rfl, ha⟩ := h.at_ (by omega)
      obtain ⟨t, hg, -, -⟩ := h.get hlt
      have c0 := ha k _ hg.out
      by_cases hr : 1 ≤ t ∧ t ≤ 1152921504606846976
      · obtain ⟨hr1, hr2⟩ := hr
        have HT : Hid (timeB t = true) := by show _ = _; simp [timeB, hr1, hr2]
        rcases k with _ | j
        · simp only [Nat.add_zero] at c0
          go_wp2
          go_round
          case rel => exact ⟨1, by omega, by go_num, (fun j hj => by rw [show j = 0 by omega, okAt_zero hg.out]; exact HT.out)⟩
          case measure => simp [intOf]; omega
        · obtain ⟨u, hg', -, -⟩ := h.get (show j < n by omega)
          have d0 := ha j _ hg'.out
          by_cases hc : u < t
          · go_wp2
            go_round
            case rel => exact ⟨j + 1 + 1, by omega, by go_num, ok_step hall (by rw [okAt_succ hg.out hg'.out, HT.out]; simpa using hc)⟩
            case measure => simp [intOf]; omega
          · go_wp2
            go_ret
            exact ⟨ret_bool (riseB_not h.len hlt (by rw [okAt_succ hg.out hg'.out, HT.out]; simp; omega)).symm, Below.refl _ _⟩
      · have HT : Hid (timeB t = false) := by show _ = _; simp [timeB]; omega
        by_cases h1 : t < 1
        · go_wp2
          go_ret
          exact ⟨ret_bool (riseB_not h.len hlt (okAt_wrong hg.out HT.out)).symm, Below.refl _ _⟩
        · have h2 : 1152921504606846976 < t := by omega
          go_wp2
          go_ret
          exact ⟨ret_bool (riseB_not h.len hlt (okAt_wrong hg.out HT.out)).symm, Below.refl _ _⟩
    · go_wp2
      go_ret
      exact ⟨ret_bool (riseB_of h.len fun j hj => hall.out j (by omega)).symm, Below.refl _ _⟩

set_option maxHeartbeats 400000 in
theorem rrise_any {A : Option Addr} {n c : Nat} {L : List Int} {w : World} (h : Sl w A n c L) : Calls Try.prog 26 #[.slice A n c] w fun e w' => e = .returned (.bool (riseB L)) ∧ Ext w w' := by
  have hcap := h.cap
  have hbig := h.big
  go_enter Try.func26, Try.ntmps26
  go_wp2
  go_loopw [3] (fun i wr => ∃ k : Nat, k ≤ n ∧ i = .int .i64 k ∧ Hid (∀ j, j < k → okAt L j = true) ∧ Ext w wr) (fun i _ => n - (intOf i).toNat)
  case atStart => exact ⟨0, Nat.zero_le _, rfl, (fun j hj => absurd hj (by omega)), Below.refl _ _⟩
  case round =>
    obtain ⟨k, hk, rfl, hall, hx⟩ := hrel
    by_cases hlt : k < n
    · obtain ⟨b, off, rfl, ha⟩ := h.at_ (by omega)
      obtain ⟨t, hg, -, -⟩ := h.get hlt
      have c0 := (ha.ext hx).later hg.out
      go_wp2
      by_cases hr : 1 ≤ t ∧ t ≤ 1152921504606846976
      · obtain ⟨hr1, hr2⟩ := hr
        have HT : Hid (timeB t = true) := by show _ = _; simp [timeB, hr1, hr2]
        have q1 : decide (t < 1) = false := by simp; omega
        have q2 : decide (1152921504606846976 < t) = false := by simp; omega
        rcases k with _ | j
        · simp only [Nat.add_zero] at c0
          refine wp_region_later (by kernel_rfl) (by kernel_rfl) ?_
          repeat (go_big_quiet_step (fail))
          refine wpQuiet_nil ?_
          intro w1 hw1
          go_wp2
          go_roundw
          case rel => exact ⟨1, by omega, by go_num, (fun j hj => by rw [show j = 0 by omega, okAt_zero hg.out]; exact HT.out), Ext.of hx hw1⟩
          case measure => simp [intOf]; omega
        · obtain ⟨u, hg', -, -⟩ := h.get (show j < n by omega)
          have d0 := (ha.ext hx).later hg'.out
          by_cases hc : u < t
          · refine wp_region_later (by kernel_rfl) (by kernel_rfl) ?_
            repeat (go_big_quiet_step (fail))
            refine wpQuiet_nil ?_
            intro w1 hw1
            go_wp2
            go_roundw
            case rel => exact ⟨j + 1 + 1, by omega, by go_num, ok_step hall (by rw [okAt_succ hg.out hg'.out, HT.out]; simpa using hc), Ext.of hx hw1⟩
            case measure => simp [intOf]; omega
          · refine wp_region_later (by kernel_rfl) (by kernel_rfl) ?_
            repeat (go_big_quiet_step (fail))
            refine wpQuiet_nil ?_
            intro w1 hw1
            go_wp2
            go_ret
            exact ⟨ret_bool (riseB_not h.len hlt (by rw [okAt_succ hg.out hg'.out, HT.out]; simp; omega)).symm, Ext.of hx hw1⟩
      · have HT : Hid (timeB t = false) := by show _ = _; simp [timeB]; omega
        by_cases h1 : t < 1
        · have q1 : decide (t < 1) = true := by simp; omega
          refine wp_region_later (by kernel_rfl) (by kernel_rfl) ?_
          repeat (go_big_quiet_step (fail))
          refine wpQuiet_nil ?_
          intro w1 hw1
          go_wp2
          go_ret
          exact ⟨ret_bool (riseB_not h.len hlt (okAt_wrong hg.out HT.out)).symm, Ext.of hx hw1⟩
        · have h2 : 1152921504606846976 < t := by omega
          have q1 : decide (t < 1) = false := by simp; omega
          have q2 : decide (1152921504606846976 < t) = true := by simp; omega
          refine wp_region_later (by kernel_rfl) (by kernel_rfl) ?_
          repeat (go_big_quiet_step (fail))
          refine wpQuiet_nil ?_
          intro w1 hw1
          go_wp2
          go_ret
          exact ⟨ret_bool (riseB_not h.len hlt (okAt_wrong hg.out HT.out)).symm, Ext.of hx hw1⟩
    · go_wp2
      go_ret
      exact ⟨ret_bool (riseB_of h.len fun j hj => hall.out j (by omega)).symm, hx⟩

theorem rise_is {A : Option Addr} {n c : Nat} {L : List Int} {w : World} {b : Bool} (hb : riseB L = b) (h : Sl w A n c L) : Calls Try.prog 18 #[.slice A n c] w fun e w' => e = .returned (.bool b) ∧ Ext w w' := by
  subst hb
  exact rise_any h
theorem rrise_is {A : Option Addr} {n c : Nat} {L : List Int} {w : World} {b : Bool} (hb : riseB L = b) (h : Sl w A n c L) : Calls Try.prog 26 #[.slice A n c] w fun e w' => e = .returned (.bool b) ∧ Ext w w' := by
  subst hb
  exact rrise_any h

theorem same_yes {A A' : Option Addr} {n n' c c' : Nat} {L L' : List Int} {w : World} (h : Sl w A n c L) (h' : Sl w A' n' c' L') (hll : L = L') :
    Calls Try.prog 14 #[.slice A n c, .slice A' n' c'] w fun e w' => e = .returned (.bool true) ∧ Ext w w' := by
  subst hll
  obtain rfl : n = n' := h.len.symm.trans h'.len
  have hb := h.big
  have hnn : ((n : Int) != (n : Int)) = false := by simp
  go_enter Try.func14, Try.ntmps14
  go_wp2
  go_loopw [5] (fun i wr => ∃ k : Nat, k ≤ n ∧ i = .int .i64 k ∧ Ext w wr) (fun i _ => n - (intOf i).toNat)
  case atStart => exact ⟨0, Nat.zero_le _, rfl, Below.refl _ _⟩
  case round =>
    obtain ⟨k, hk, rfl, hx⟩ := hrel
    by_cases hlt : k < n
    · obtain ⟨b, off, rfl, ha⟩ := h.at_ (by omega)
      obtain ⟨b', off', rfl, ha'⟩ := h'.at_ (by omega)
      obtain ⟨t, hg, -, -⟩ := h.get hlt
      have c0 := (ha.ext hx).later hg.out
      have d0 := (ha'.ext hx).later hg.out
      have htt : (t != t) = false := by simp
      go_wp2
      refine wp_region_later (by kernel_rfl) (by kernel_rfl) ?_
      repeat (go_big_quiet_step (fail))
      refine wpQuiet_nil ?_
      intro w3 hx3
      go_wp2
      go_roundw
      case rel => exact ⟨k + 1, by omega, by go_num, Ext.of hx hx3⟩
      case measure => simp [intOf]; omega
    · go_wp2
      go_ret
      exact ⟨rfl, hx⟩

/-- How often a number stands among others. -/
def amongN (L : List Int) (x : Int) : Nat := L.countP fun y => y == x
theorem among_snoc {L : List Int} {k : Nat} {v : Int} (x : Int) (h : L[k]? = some v) : amongN (L.take (k + 1)) x = amongN (L.take k) x + if (v == x) = true then 1 else 0 := by
  rw [← take_snoc h]
  unfold amongN
  rw [List.countP_append]
  simp [List.countP_cons]
theorem among_le (L : List Int) (k : Nat) (x : Int) : amongN (L.take k) x ≤ k := by
  unfold amongN
  exact Nat.le_trans List.countP_le_length (List.length_take_le _ _)

theorem among_any {A : Option Addr} {n c : Nat} {L : List Int} (x : Int) {w : World} (h : Sl w A n c L) :
    Calls Try.prog 17 #[.slice A n c, .int .i64 x] w fun e w' => e = .returned (.int .i64 (amongN L x)) ∧ Ext w w' := by
  have hb := h.big
  go_enter Try.func17, Try.ntmps17
  go_wp2
  go_loop [5, 6] (fun q i => ∃ k : Nat, k ≤ n ∧ i = .int .i64 k ∧ q = .int .i64 (amongN (L.take k) x)) (fun _ i => n - (intOf i).toNat)
  case atStart => exact ⟨0, Nat.zero_le _, rfl, rfl⟩
  case round =>
    obtain ⟨k, hk, rfl, rfl⟩ := hrel
    have hle := among_le L k x
    by_cases hlt : k < n
    · obtain ⟨b, off, rfl, ha⟩ := h.at_ (by omega)
      obtain ⟨t, hg, -, -⟩ := h.get hlt
      have c0 := ha k _ hg.out
      have HS := Lib.hid (among_snoc x hg.out)
      by_cases hc : t = x
      · have hc' : (t == x) = true := by simpa using hc
        have HQ : Hid (amongN (L.take (k + 1)) x = amongN (L.take k) x + 1) := by show _ = _; rw [HS.out, if_pos hc']
        have HC := Lib.hid hc
        clear hc
        generalize amongN (L.take k) x = q at *
        go_wp2
        go_round
        case rel => exact ⟨k + 1, by omega, by go_num, by rw [HQ.out]; go_num⟩
        case measure => simp [intOf]; omega
      · have hc' : (t == x) = false := by simpa using hc
        have HQ : Hid (amongN (L.take (k + 1)) x = amongN (L.take k) x) := by show _ = _; rw [HS.out, if_neg (by rw [hc']; decide), Nat.add_zero]
        clear hc
        generalize amongN (L.take k) x = q at *
        go_wp2
        go_round
        case rel => exact ⟨k + 1, by omega, by go_num, by rw [HQ.out]⟩
        case measure => simp [intOf]; omega
    · have HE : Hid (L.take k = L) := List.take_of_length_le (by rw [h.len]; omega)
      go_wp2
      go_ret
      exact ⟨ret_int (by rw [HE.out]), Below.refl _ _⟩

theorem clone_any {A : Option Addr} {n c : Nat} {L : List Int} {w : World} (h : Sl w A n c L) :
    Calls Try.prog 24 #[.slice A n c] w fun e w' => (∃ v, e = .returned v ∧ Own w' w.heap.size v n L) ∧ Ext w w' := by
  have hb := h.big
  have hn := h.cap
  have heq := fun (W : World) (a : Option Addr) => Lib.run_eql_slice_nil (P := Try.prog) W 22 3 a n c 0 0 Try.underlying22
  rcases A with _ | a
  · obtain ⟨rfl, rfl⟩ := h.nil rfl
    have hL : L = [] := List.eq_nil_of_length_eq_zero h.len
    have HL := Lib.hid hL
    clear hL
    go_enter Try.func24, Try.ntmps24
    go_wp2
    go_ret
    exact ⟨⟨_, rfl, by rw [HL.out]; exact Own.nil_ w _⟩, Below.refl _ _⟩
  · have hx := Ext.alloc w (.cells #[] 3)
    have ho := Own.made w w.heap.size (Nat.le_refl _)
    have hs := h.ext hx
    have HZ := Lib.hid (show w.heap.size ≤ (w.alloc (.cells #[] 3)).heap.size by simp)
    go_enter Try.func24, Try.ntmps24
    go_wp2_with (at_builtin; refine wpList_append_int rfl _ _ rfl rfl ho rfl hs (by omega) HZ.out ?_; intro v1 w1 hown hg)
    have hown' := hown
    simp only [Nat.zero_add, List.nil_append] at hown'
    go_ret
    exact ⟨⟨_, rfl, hown'⟩, hown.keep ho hg hx HZ.out⟩

end Go.Proofs.Ytehbdgbolbbgkaa
