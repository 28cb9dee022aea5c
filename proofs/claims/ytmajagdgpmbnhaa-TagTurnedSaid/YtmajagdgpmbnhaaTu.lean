/-
  The walk of TagTurned.
-/
import Derived.Test.YtmajagdgpmbnhaaAp
import Derived.Test.YtmajagdgpmbnhaaCrc
namespace Go.Proofs.Ytmajagdgpmbnhaa
open Go.RowKit

/-- The append of a guarded operation that is wanted. -/
theorem wpList_append_byG {ops : Array Oper} {rest : List Oper} {o : Oper} {a : Act} {Q : Exit → Act → World → Prop} {w : World} (hgd : Region.wanted o (yielded ops a.tmps) = true) (s x : Operand)
    (ho : o.op = .call { callee := .builtin .append, args := #[s, x], argTypes := #[22, 22] }) {base : Nat} {v : Value} {n : Nat} {k : List UInt8} (hv : a.eval s = v) (hown : OwnB w base v n k)
    {A : Option Addr} {m c : Nat} {S : ByteArray} (hx : a.eval x = .slice A m c) (hs : By w A m S) (hm : 0 < m) (hnm : n + m ≤ 140737488355328) (hbase : base ≤ w.heap.size)
    (h : ∀ v' w', OwnB w' base v' (n + m) (k ++ S.data.toList) → w.grownBy w' v.ownBlock → (v'.ownBlock = v.ownBlock ∨ v'.ownBlock = some w.heap.size) → wpList Try.prog ops Q rest (a.put o.dst v') w') : wpList Try.prog ops Q (o :: rest) a w := by
  obtain ⟨v', w', hr, h1, h2, h3⟩ := run_append_by o.type hown hs hm hnm hbase
  refine wpList_step fun K hK => ?_
  rw [if_pos hgd]
  exact Lib.wp_append_run w s x 22 22 ho _ _ hv hx v' w' hr (hK _ _ (h v' w' h1 h2 h3))

theorem OwnB.shape {w : World} {base : Nat} {v : Value} {n : Nat} {l : List UInt8} (h : OwnB w base v n l) (hn : 0 < n) : ∃ g cap, v = .slice (some ⟨g, 0, none⟩) n cap ∧ base ≤ g ∧ g < w.heap.size ∧ n ≤ cap := by
  rcases h.row.2 with ⟨_, rfl⟩ | ⟨g, cap, cur, rfl, hbg, hg, hnc, hcm, hcs, htake⟩
  · omega
  · exact ⟨g, cap, rfl, hbg, (Array.getElem?_eq_some_iff.1 hg).1, hnc⟩
theorem from_is {n : Nat} (hm : 0 < n) (hn : n ≤ 140737488355328) (z : Int) : ∃ F : Nat, wrap64 ((IntKind.u64.wrap z).tmod (8 * (n : Int))) = (F : Int) ∧ F < 8 * n := by
  have h0 : 0 ≤ IntKind.u64.wrap z := wrap_u64_nonneg z
  have e : (IntKind.u64.wrap z).tmod (8 * (n : Int)) = IntKind.u64.wrap z % (8 * (n : Int)) := Int.tmod_eq_emod_of_nonneg h0
  have h1 := Int.emod_nonneg (IntKind.u64.wrap z) (show (8 * (n : Int)) ≠ 0 by omega)
  have h2 := Int.emod_lt_of_pos (IntKind.u64.wrap z) (show 0 < 8 * (n : Int) by omega)
  rw [e]
  generalize IntKind.u64.wrap z % (8 * (n : Int)) = q at *
  refine ⟨q.toNat, ?_, by omega⟩
  unfold wrap64
  omega
theorem flip_cell (c : UInt8) {j : Nat} (hj : j < 8) : bits BinOp.xor IntKind.u8 (c.toNat : Int) (2 ^ j % 256) = ((UInt8.ofNat (c.toNat ^^^ 2 ^ j)).toNat : Int) := by
  have hp : 2 ^ j < 2 ^ 8 := Nat.pow_lt_pow_right (by decide) hj
  have e : (2 : Int) ^ j % 256 = ((2 ^ j : Nat) : Int) := by
    have e0 : ((2 ^ j : Nat) : Int) = (2 : Int) ^ j := by rw [Int.natCast_pow]; rfl
    rw [← e0]
    generalize 2 ^ j = z at *
    omega
  rw [e, u8_xor_nat _ _ c.toNat_lt hp, UInt8.toNat_ofNat', Nat.mod_eq_of_lt (Nat.xor_lt_two_pow (n := 8) c.toNat_lt hp)]
theorem OwnB.flip {w : World} {base g n cap : Nat} {l : List UInt8} (h : OwnB w base (.slice (some ⟨g, 0, none⟩) n cap) n l) (k : Nat) {c : UInt8} (hc : l[k / 8]? = some c) :
    OwnB (w.setCell ⟨g, k / 8, none⟩ (.int .u8 (bits BinOp.xor IntKind.u8 (c.toNat : Int) (2 ^ (k % 8) % 256)))) base (.slice (some ⟨g, 0, none⟩) n cap) n (Crc.flip l k) := by
  have hs := (h.row.stored (k / 8) (.int .u8 (bits BinOp.xor IntKind.u8 (c.toNat : Int) (2 ^ (k % 8) % 256)))).1
  refine ⟨?_⟩
  have e : cellsB (Crc.flip l k) = (cellsB l).set (k / 8) (.int .u8 (bits BinOp.xor IntKind.u8 (c.toNat : Int) (2 ^ (k % 8) % 256))) := by
    rw [flip_cell c (Nat.mod_lt _ (by decide))]
    unfold cellsB Crc.flip
    rw [List.map_set, hc]
    rfl
  rw [e]
  exact hs
set_option maxRecDepth 100000 in
set_option maxHeartbeats 4000000 in
theorem turned_walk {w : World} (A : Option Addr) (n c : Nat) (S : ByteArray) (h : By w A n S) (hn : n ≤ 140737488355328) (at_ : Int) (_ : -9223372036854775808 ≤ at_ ∧ at_ ≤ 9223372036854775807) (b : Nat) (hb : b < 4294967296) :
    Calls Try.prog 5 #[.slice A n c, .int .i64 at_, .int .u32 (b : Int)] w fun e w' => e = .returned (.bool true) ∧ Ext w w' := by
  by_cases h0 : n = 0
  · have g0 : ((8 * (n : Int)) == 0) = true := by rw [h0]; rfl
    subst h0
    go_enter Try.func5, Try.ntmps5
    go_wp2_with fail
    refine (lives_any _).mono ?_
    rintro e w1 ⟨rfl, x1⟩
    go_wp2
    go_ret
    exact ⟨rfl, x1⟩
  · have g0 : ((8 * (n : Int)) == 0) = false := by rw [beq_eq_false_iff_ne]; omega
    by_cases hb0 : b = 0
    · subst hb0
      go_enter Try.func5, Try.ntmps5
      go_wp2_with fail
      refine (lives_any _).mono ?_
      rintro e w1 ⟨rfl, x1⟩
      go_wp2
      go_ret
      exact ⟨rfl, x1⟩
    · have g1 : ((b : Int) == 0) = false := by rw [beq_eq_false_iff_ne]; omega
      have hm : 0 < n := by omega
      clear h0 hb0
      obtain ⟨F, hF, hF8⟩ : ∃ F : Nat, wrap64 ((IntKind.u64.wrap at_).tmod (8 * (n : Int))) = (F : Int) ∧ F < 8 * n := from_is hm hn at_
      go_enter Try.func5, Try.ntmps5
      go_wp2_with (at_builtin; refine wpList_append_by rfl _ _ rfl rfl (OwnB.made w w.heap.size (Nat.le_refl _)) rfl (h.ext (Ext.al _ _)) hm ?_ ?_ ?_; omega; simp; intro v1 w1 ho1 hg1 hb1)
      clear hF g0 g1
      have X1 := own_ext ho1 hg1
      rw [Nat.zero_add, List.nil_append] at ho1
      obtain ⟨gb, cap, rfl, hgb, hgl, hcap⟩ := ho1.shape hm
      clear hg1 hb1
      have hR0 : Hid (Crc.Round S.data.toList S.data.toList F b 0) := Crc.Round.start _ _ _
      go_loopw [10, 11] (fun t i wr => ∃ (k : Nat) (l : List UInt8), k ≤ 32 ∧ F + k ≤ 8 * n ∧ i = .int .i64 k ∧ t = .bool (decide (b % 2 ^ k ≠ 0)) ∧ OwnB wr w.heap.size (.slice (some ⟨gb, 0, none⟩) n cap) n l ∧ Ext w wr ∧ Hid (Crc.Round S.data.toList l F b k)) (fun _ i _ => 32 - (intOf i).toNat)
      case atStart => exact ⟨0, _, by omega, by omega, rfl, by simp [Nat.mod_one], ho1, X1, hR0⟩
      case round =>
        clear hR0 ho1 X1
        obtain ⟨k, l, hk, hF2, rfl, rfl, ho, hX, hR⟩ := hrel
        by_cases hlt : k < 32 ∧ F + k < 8 * n
        · obtain ⟨h1, h2⟩ := hlt
          have d1 : decide ((k : Int) < 32) = true := decide_eq_true (by omega)
          have d2 : decide ((F : Int) + (k : Int) < 8 * (n : Int)) = true := decide_eq_true (by omega)
          have hqe : (b : Int) / 2 ^ k = ((b / 2 ^ k : Nat) : Int) := by rw [Int.natCast_ediv, Int.natCast_pow]; rfl
          have hql : b / 2 ^ k < 4294967296 := Nat.lt_of_le_of_lt (Nat.div_le_self _ _) hb
          have hbit : bits BinOp.and IntKind.u32 ((b : Int) / 2 ^ k) 1 = ((b / 2 ^ k % 2 : Nat) : Int) := by rw [hqe]; exact low_eq hql
          have hll := ho.len
          have hj8 : (F + k) / 8 < n := by omega
          by_cases hq : b / 2 ^ k % 2 = 1
          · have g2 : (bits BinOp.and IntKind.u32 ((b : Int) / 2 ^ k) 1 == 1) = true := by rw [hbit, hq]; rfl
            obtain ⟨c0, hc0⟩ : ∃ c0, l[(F + k) / 8]? = some c0 := ⟨_, List.getElem?_eq_getElem (by omega)⟩
            have hcell : wr.cell? ⟨gb, (F + k) / 8, none⟩ = some (.int .u8 (c0.toNat : Int)) := by
              rw [ho.row.cellAt _ (by omega)]
              exact cellsB_at hc0
            have hfz : wr.frozen? ⟨gb, (F + k) / 8, none⟩ = false := ho.row.frozenAt _
            clear hbit hqe hql
            go_wp2
            have hF := ho.flip (F + k) hc0
            have hX2 := hX.setCell (p := ⟨gb, (F + k) / 8, none⟩) hgb (.int .u8 (bits BinOp.xor IntKind.u8 (c0.toNat : Int) (2 ^ ((F + k) % 8) % 256)))
            have hR2 : Hid (Crc.Round S.data.toList (Crc.flip l (F + k)) F b (k + 1)) := Crc.Round.turn hR hq (by have hl2 : S.data.toList.length = n := Array.length_toList.trans h.len; omega)
            have ht : decide (b % 2 ^ (k + 1) ≠ 0) = true := by
              rw [decide_eq_true_eq, Crc.mod_step, if_pos hq]
              have := Nat.two_pow_pos k
              omega
            clear g2 hcell hfz hR d1 d2
            go_roundw
            case rel => exact ⟨k + 1, _, by omega, by omega, by go_num, by rw [ht], hF, hX2, hR2⟩
            case measure => simp [intOf]; omega
          · have g2 : (bits BinOp.and IntKind.u32 ((b : Int) / 2 ^ k) 1 == 1) = false := by
              rw [hbit, beq_eq_false_iff_ne]
              omega
            clear hbit hqe hql
            go_wp2
            have hR2 : Hid (Crc.Round S.data.toList l F b (k + 1)) := Crc.Round.keep hR hq
            have ht : b % 2 ^ (k + 1) = b % 2 ^ k := by rw [Crc.mod_step, if_neg hq]
            clear g2 hR d1 d2
            go_roundw
            case rel => exact ⟨k + 1, l, by omega, by omega, by go_num, by rw [ht], ho, hX, hR2⟩
            case measure => simp [intOf]; omega
        · have hBw : By wr A n S := h.ext hX
          obtain ⟨A2, c2, e2, hB2⟩ := ho.slice (by omega)
          injection e2 with e2 _ e3
          subst e2 e3
          by_cases hz : b % 2 ^ k = 0
          · have gz : decide (b % 2 ^ k ≠ 0) = false := decide_eq_false fun h => h hz
            rw [gz]
            have key : (decide ((k : Int) < 32) = false) ∨ (decide ((k : Int) < 32) = true ∧ decide ((F : Int) + (k : Int) < 8 * (n : Int)) = false) := by
              by_cases h1 : k < 32
              · exact .inr ⟨decide_eq_true (by omega), decide_eq_false (by omega)⟩
              · exact .inl (decide_eq_false (by omega))
            clear hlt hz gz hR
            rcases key with d1 | ⟨d1, d2⟩
            all_goals
              go_wp2_with fail
              refine (sum_any hBw).mono ?_
              rintro e w2 ⟨rfl, rfl⟩
              go_wp2_with (at_builtin; refine wpList_append_byG rfl _ _ rfl rfl (OwnB.made w2 w2.heap.size (Nat.le_refl _)) rfl (hBw.ext (Ext.al _ _)) hm ?_ ?_ ?_; omega; simp; intro v3 w3 ho3 hg3 hb3)
              have X3 := hX.of (own_ext ho3 hg3)
              rw [Nat.zero_add, List.nil_append] at ho3
              obtain ⟨A3, c3, rfl, hB3⟩ := ho3.slice (by omega)
              refine (sum_any hB3).mono ?_
              rintro e w4 ⟨rfl, rfl⟩
              go_wp2_with fail
              refine (lives_any _).mono ?_
              rintro e w5 ⟨rfl, x5⟩
              go_wp2
              go_ret
              exact ⟨rfl, X3.of x5⟩
          · have gz : decide (b % 2 ^ k ≠ 0) = true := decide_eq_true hz
            have hne : ¬ (((Crc.sum S.data.toList : Nat) : Int) = ((Crc.sum l : Nat) : Int)) := by
              have := Crc.Round.other hR hk hz
              omega
            rw [gz]
            have key : (decide ((k : Int) < 32) = false) ∨ (decide ((k : Int) < 32) = true ∧ decide ((F : Int) + (k : Int) < 8 * (n : Int)) = false) := by
              by_cases h1 : k < 32
              · exact .inr ⟨decide_eq_true (by omega), decide_eq_false (by omega)⟩
              · exact .inl (decide_eq_false (by omega))
            clear hlt hz gz hR
            rcases key with d1 | ⟨d1, d2⟩
            all_goals
              go_wp2_with fail
              refine (sum_any hBw).mono ?_
              rintro e w8 ⟨rfl, rfl⟩
              go_wp2_with fail
              refine (sum_any hB2).mono ?_
              rintro e w9 ⟨rfl, rfl⟩
              go_wp2_with fail
              refine (sum_any hBw).mono ?_
              rintro e w2 ⟨rfl, rfl⟩
              go_wp2_with (at_builtin; refine wpList_append_byG (by simp [Region.wanted, yielded, hne]) _ _ rfl rfl (OwnB.made w2 w2.heap.size (Nat.le_refl _)) rfl (hBw.ext (Ext.al _ _)) hm ?_ ?_ ?_; omega; simp; intro v3 w3 ho3 hg3 hb3)
              have X3 := hX.of (own_ext ho3 hg3)
              rw [Nat.zero_add, List.nil_append] at ho3
              obtain ⟨A3, c3, rfl, hB3⟩ := ho3.slice (by omega)
              refine (sum_any hB3).mono ?_
              rintro e w4 ⟨rfl, rfl⟩
              go_wp2_with fail
              refine (lives_any _).mono ?_
              rintro e w5 ⟨rfl, x5⟩
              go_wp2
              go_ret
              exact ⟨by simp [hne], X3.of x5⟩

end Go.Proofs.Ytmajagdgpmbnhaa
