/-
  BlobPieces returns true for every input. No condition.
-/
import Derived.Test.YtpfjikkpfnmepaaLives
import Derived.Test.YtpfjikkpfnmepaaSeg
import Derived.Test.YtpfjikkpfnmepaaOpen
import Derived.Test.YtpfjikkpfnmepaaRows
namespace Go.Proofs.Ytpfjikkpfnmepaa
open Go.RowKit Go.ChangeShapes Go.WideShapes Go.ChangeAt

theorem piece_is {A : Option Addr} {k c : Nat} {L : List ByteArray} {f a n : Int} {w : World} {s : ByteArray} {r : Int} (h : Sl w A k c L) (hf : (bytes L).length ≤ 1000000) (hna : Num64 a) (hnn : Num64 n) (hs : pieceS L f a n = s) (hr : pieceE L f a n = r) :
    Calls Try.prog 18 #[.slice A k c, .int .i64 f, .int .i64 a, .int .i64 n] w fun e w' => e = .returned (.tuple #[.string s, .int .i64 r]) ∧ Ext w w' := by
  subst hs hr
  exact piece_any h hf hna hnn

theorem seg_total {S : ByteArray} {F k : Nat} (h : F + k ≤ cn S) : (bytes (seg S F k)).length ≤ S.size := by
  rw [← whole_size, seg_whole h, extract_size]
  omega

set_option maxRecDepth 100000 in
set_option maxHeartbeats 4000000 in
theorem pieces_walk {w : World} (S : ByteArray) (hS : S.size ≤ 9223372036854775807) (f : Int) (wf : (Lit.int IntKind.i64 f).wf = true) (n : Int) (wn : (Lit.int IntKind.i64 n).wf = true) :
    Calls Try.prog 6 #[.string S, .int .i64 f, .int .i64 n] w fun x w' => x = .returned (.bool true) ∧ Below w.heap.size w w' := by
  have HF : Hid (Num64 f) := bounds_i64 wf
  have HN : Hid (Num64 n) := bounds_i64 wn
  by_cases hb : S.size ≤ 2560
  · have HB := Lib.hid hb
    have hcE : cutE S = 0 := by simp [cutE, hb]
    have hcL : cutL S = chunks S (cn S) := by simp [cutL, hb]
    have HCE := Lib.hid hcE
    have HCL := Lib.hid hcL
    clear hcE hcL
    go_enter Try.func6, Try.ntmps6
    go_wp2_with fail
    refine (cut_any S _ hS).mono ?_
    rintro y w1 ⟨⟨v, K, rfl, ho, hk⟩, x1⟩
    rw [HCE.out]
    rw [HCL.out] at ho
    have hK : K = cn S := by have := ho.len; rw [chunks_len] at this; exact this.symm
    obtain ⟨A, c, rfl, hs⟩ := ho.slice (by omega)
    clear ho
    by_cases hq : needB S.size f n = true
    · obtain ⟨p1, p2, p3, p4, p5⟩ := need_of hq
      obtain ⟨F0, rfl⟩ : ∃ q : Nat, f = q := ⟨f.toNat, by omega⟩
      obtain ⟨m, hm⟩ : ∃ m : Nat, min n ((S.size : Int) - F0) = m := ⟨(min n ((S.size : Int) - F0)).toNat, by omega⟩
      by_cases hm0 : m = 0
      · subst hm0
        have hm' : min n ((S.size : Int) - F0) = 0 := hm
        have HM := Lib.hid hm'
        have HQ := Lib.hid hq
        clear hq hm
        go_wp2_with fail
        refine (need_is S.size F0 n 0 0 0 (by simp [need1, HM.out]) (by simp [need2, HM.out]) (by simp [need3, HQ.out]) _).mono ?_
        rintro y w2 ⟨rfl, x2⟩
        have X2 := Ext.of x1 x2
        clear x1 x2 hs
        go_wp2_with fail
        refine (lives_any _).mono ?_
        rintro y w9 ⟨rfl, x9⟩
        have X9 := Ext.of X2 x9
        clear X2 x9
        go_wp2
        go_ret
        exact ⟨rfl, X9⟩
      · have HM := Lib.hid hm
        have HQ := Lib.hid hq
        obtain ⟨c1, c2⟩ := cn_size S
        obtain ⟨F, hF⟩ : ∃ F, F = F0 / 160 := ⟨_, rfl⟩
        obtain ⟨k, hk1⟩ : ∃ k, k = (F0 + m - 1) / 160 - F + 1 := ⟨_, rfl⟩
        have hms : F0 + m ≤ S.size := by omega
        have hmn : (m : Int) ≤ n := by omega
        have hFk : F + k ≤ cn S := by omega
        have hk0 : 1 ≤ k := by omega
        have hFF := hF
        have hkk := hk1
        have n1 : need1 S.size F0 n = F := by unfold need1; rw [if_pos ⟨HQ.out, by rw [HM.out]; omega⟩]; omega
        have n2 : need2 S.size F0 n = k := by unfold need2; rw [if_pos ⟨HQ.out, by rw [HM.out]; omega⟩, HM.out]; omega
        have n3 : need3 S.size F0 n = 0 := by simp [need3, HQ.out]
        have N1 := Lib.hid n1
        have N2 := Lib.hid n2
        have N3 := Lib.hid n3
        obtain ⟨P1, P2⟩ := seg_piece (S := S) (F := F) (k := k) (f := F0) (r := m) (n := n) hFk hF rfl (by omega) p3 (by omega)
        have HP1 := Lib.hid P1
        have HP2 := Lib.hid P2
        have HK := Lib.hid hK
        have HFF := Lib.hid hFF
        have HKK := Lib.hid hkk
        have HMS := Lib.hid hms
        have HC := Lib.hid c2
        clear hFF hkk
        obtain ⟨b, off, rfl, -⟩ := hs.at_ (by omega)
        have hcap := hs.cap
        have hFK : F < K := by omega
        have hFkK : F + k ≤ K := by omega
        have hk16 : F + k ≤ 16 := by omega
        clear n1 n2 n3 P1 P2 hF hk1 c1 c2 hFk hq hK
        go_wp2_with fail
        refine (need_is S.size F0 n F k 0 N1.out N2.out N3.out _).mono ?_
        rintro y w2 ⟨rfl, x2⟩
        have X2 := Ext.of x1 x2
        have hs2 := hs.ext x2
        clear x1 x2 hs
        have hk' : ((k : Int) == 0) = false := by rw [beq_eq_false_iff_ne]; omega
        have hseg := seg_total (S := S) (F := F) (k := k) (by have := HK.out; omega)
        have HSG := Lib.hid hseg
        have hu2 : Sl w2 (some ⟨b, off + F, none⟩) k (c - F) (seg S F k) := by
          unfold seg
          rw [← HK.out]
          rw [← HK.out] at hs2
          exact hs2.sub hFkK hFK
        clear hseg
        go_wp2_with fail
        refine (piece_is hu2 (by have := HSG.out; have := HB.out; omega) HF.out HN.out HP2.out HP1.out).mono ?_
        rintro y w3 ⟨rfl, x3⟩
        have X3 := Ext.of X2 x3
        have hs3 := hs2.ext x3
        clear X2 x3 hs2 hu2
        by_cases hk1 : k = 1
        · have h1 : ((k : Int) == 1) = true := by rw [hk1]; rfl
          clear hs3
          go_wp2_with fail
          refine (lives_any _).mono ?_
          rintro y w9 ⟨rfl, x9⟩
          have X9 := Ext.of X3 x9
          clear X3 x9
          go_wp2
          go_ret
          exact ⟨rfl, X9⟩
        · have h1 : ((k : Int) == 1) = false := by rw [beq_eq_false_iff_ne]; omega
          obtain ⟨k2, rfl⟩ : ∃ q, k = q + 1 := ⟨k - 1, by omega⟩
          have hk2 : 1 ≤ k2 := by omega
          clear hk1
          obtain ⟨r, hr⟩ : ∃ r, r = 160 * (F + k2) - F0 := ⟨_, rfl⟩
          have g1 : F0 + r = 160 * (F + k2) := by have := HFF.out; omega
          have g2 : r < m := by have := HKK.out; have := HFF.out; omega
          have g3 : 160 * (F + k2) ≤ S.size := by omega
          obtain ⟨P1, P2⟩ := seg_piece (S := S) (F := F) (k := k2) (f := F0) (r := r) (n := n) (e := 160 * (F + k2)) (by have := HK.out; omega) HFF.out (by omega) (by omega) p3 (by omega)
          have HP3 := Lib.hid P1
          have HP4 := Lib.hid P2
          have hseg := seg_total (S := S) (F := F) (k := k2) (by have := HK.out; omega)
          have HSG2 := Lib.hid hseg
          have hu3 : Sl w3 (some ⟨b, off + F, none⟩) k2 (c - F) (seg S F k2) := by
            unfold seg
            rw [← HK.out]
            rw [← HK.out] at hs3
            exact hs3.sub (by omega) hFK
          have z1 : (S.extract F0 (F0 + r)).size = r := by rw [extract_size]; omega
          have z2 : (S.extract F0 (F0 + m)).size = m := by rw [extract_size]; have := HMS.out; omega
          have z3 : (S.extract F0 (F0 + m)).extract 0 r = S.extract F0 (F0 + r) := by
            rw [extract_extract]
            congr 1
            omega
          have z4 : decide ((r : Int) < (m : Int)) = true := decide_eq_true (by omega)
          clear P1 P2 hseg hr
          go_wp2_with fail
          refine (piece_is hu3 (by have := HSG2.out; have := HB.out; omega) HF.out HN.out HP4.out HP3.out).mono ?_
          rintro y w4 ⟨rfl, x4⟩
          have X4 := Ext.of X3 x4
          clear X3 x4 hs3 hu3 g1 g3
          go_wp2_with fail
          refine (lives_any _).mono ?_
          rintro y w9 ⟨rfl, x9⟩
          have X9 := Ext.of X4 x9
          clear X4 x9
          go_wp2
          go_ret
          exact ⟨rfl, X9⟩
    · have HQ := Lib.hid (Bool.eq_false_iff.2 hq)
      have hno : f < 0 ∨ (S.size : Int) < f ∨ n < 0 := by
        by_cases h1 : f < 0
        · exact .inl h1
        · by_cases h2 : (S.size : Int) < f
          · exact .inr (.inl h2)
          · by_cases h3 : n < 0
            · exact .inr (.inr h3)
            · exact absurd (by simp [needB, leastB]; omega) hq
      have HNO := Lib.hid hno
      clear hq hno
      go_wp2_with fail
      refine (need_is S.size f n 0 0 2 (by simp [need1, HQ.out]) (by simp [need2, HQ.out]) (by simp [need3, HQ.out]) _).mono ?_
      rintro y w2 ⟨rfl, x2⟩
      have X2 := Ext.of x1 x2
      clear x1 x2 hs
      by_cases h1 : f < 0
      · go_wp2_with fail
        refine (lives_any _).mono ?_
        rintro y w9 ⟨rfl, x9⟩
        have X9 := Ext.of X2 x9
        clear X2 x9
        go_wp2
        go_ret
        exact ⟨rfl, X9⟩
      · by_cases h2 : (S.size : Int) < f
        · go_wp2_with fail
          refine (lives_any _).mono ?_
          rintro y w9 ⟨rfl, x9⟩
          have X9 := Ext.of X2 x9
          clear X2 x9
          go_wp2
          go_ret
          exact ⟨rfl, X9⟩
        · have h3 : n < 0 := by have := HNO.out; omega
          go_wp2_with fail
          refine (lives_any _).mono ?_
          rintro y w9 ⟨rfl, x9⟩
          have X9 := Ext.of X2 x9
          clear X2 x9
          go_wp2
          go_ret
          exact ⟨rfl, X9⟩
  · have hcE : cutE S = 5 := by simp [cutE, hb]
    have HCE := Lib.hid hcE
    clear hcE hb
    go_enter Try.func6, Try.ntmps6
    go_wp2_with fail
    refine (cut_any S _ hS).mono ?_
    rintro y w1 ⟨⟨v, K, rfl, ho, hk⟩, x1⟩
    rw [HCE.out]
    obtain ⟨A, c, rfl, hs⟩ := ho.slice (by omega)
    clear ho hs
    go_wp2_with fail
    refine (lives_any _).mono ?_
    rintro y w9 ⟨rfl, x9⟩
    have X9 := Ext.of x1 x9
    clear x1 x9
    go_wp2
    go_ret
    exact ⟨rfl, X9⟩

set_option maxRecDepth 100000 in
theorem pieces_lifted (os : Os) (started : os.Started) (H : Type) (enc : TypeId × Value → H) :
    ReturnsInHanded {} Try.checked os 6 .any (Rows.blobPiecesSpec.pre6 enc Try.prog Try.f6 Rows.blobPiecesRow.domain false) (Rows.blobPiecesSpec.post enc Try.prog Try.f6 false true false false) := by
  refine returnsInHanded_of_change (C := Try.checked) ownK started (by kernel_rfl) Try.func6
    (ChangeSpec.witness6 (enc := enc) (C := Try.checked) false ⟨#[], #[.string ⟨#[]⟩, .int .i64 0, .int .i64 0], []⟩ 8 (by kernel_rfl) (by kernel_rfl) (by kernel_rfl) (by kernel_rfl)) ?_
  intro W base args ds gs before hval0 hW hcnd _
  have hval : ∀ (j : Nat) t v, Try.f6.params[j]? = some t → args[j]? = some v → Value.okWide Try.prog W .any base t v := hval0
  have hW' := hW
  obtain ⟨p, q, hA0, hV, rfl, hfz, hnd⟩ := hW
  have hA : DataW.TrodAll enc Try.prog W 0 (fun _ => true) true Try.f6.params.toList args.toList ds p := hA0
  rw [Try.params6] at hA hval
  obtain ⟨v0, vs0, d0, ds0, p0, q0, hargs, rfl, rfl, h0, r0⟩ := trodAll_cons hA
  obtain ⟨v1, vs1, d1, ds1, p1, q1, rfl, rfl, rfl, h1, r1⟩ := trodAll_cons r0
  obtain ⟨v2, vs2, d2, ds2, p2, q2, rfl, rfl, rfl, h2, r2⟩ := trodAll_cons r1
  obtain ⟨rfl, rfl, rfl⟩ := trodAll_nil r2
  obtain rfl : args = #[v0, v1, v2] := by cases args; simp_all
  obtain ⟨rfl, rfl⟩ := trodVars_none hV
  have k0 := h0
  have lt0 : ∀ x ∈ p0, x.block < W.heap.size := by obtain ⟨m, hm⟩ := k0; exact DataW.trod_lt m _ _ _ hm
  obtain ⟨s0, rfl, hs0⟩ := open_text (hval 0 9 v0 rfl rfl) h0
  obtain ⟨a1, rfl, rfl, rfl, w1⟩ := open_int Try.underlying3 (hval 1 3 v1 rfl rfl) h1
  obtain ⟨a2, rfl, rfl, rfl, w2⟩ := open_int Try.underlying3 (hval 2 3 v2 rfl rfl) h2
  clear hA0 hval0
  refine (pieces_walk (w := W) s0 hs0 a1 w1 a2 w2).mono fun e W' ⟨he, bel⟩ => ?_
  subst he
  exact ⟨_, rfl, _, _, _, [], _, [], hW', trodAll_mk1 (shut_bool Try.underlying4 _), (trodAll_cons_mk (Below.trod laidOut (by kernel_rfl) (of_decide_eq_true (by kernel_rfl)) k0 bel lt0) (trodAll_cons_mk (shut_int Try.underlying3 w1) (trodAll_cons_mk (shut_int Try.underlying3 w2) trodAll_mk0))), rfl, bel.frame _, fun h => by cases h⟩

theorem pieces_over : Rows.blobPiecesRow.holds Try.pinned (OpenSpec.ofChange Rows.blobPiecesSpec) :=
  OpenClaim.holds_of_wide 6 Try.f6 rfl rfl rfl rfl rfl rfl rfl ⟨rfl, rfl, rfl, rfl, rfl⟩ rfl rfl rfl rfl rfl (by kernel_rfl) Try.func6 (by kernel_rfl)
    (of_decide_eq_true (by kernel_rfl)) (by unfold Func.isWrapper; first | (rw [if_pos (by decide +kernel)]; kernel_rfl) | (rw [if_neg (by decide +kernel)]; exact ⟨rfl, rfl⟩))
    (fun os started H enc _ => pieces_lifted os started H enc)

/-- The statement. -/
theorem pieces_holds : Rows.BlobPiecesSaid := pieces_over

#print axioms pieces_holds
end Go.Proofs.Ytpfjikkpfnmepaa
