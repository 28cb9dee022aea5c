/-
  Tags compared.
-/
import Derived.Test.YtmajagdgpmbnhaaRof
import Derived.Laws.StructEq
import Derived.Lib.ConvBytes
namespace Go.Proofs.Ytmajagdgpmbnhaa
open Go.RowKit

theorem tag_fields : (Try.prog.fieldsOf 28).toList.map (fun f => (decide (f.name ≠ "_"), f.type, f.offset)) = [(true, 3, 0), (true, 3, 1)] := by kernel_rfl
theorem tag_two : ∃ a b : Field, (Try.prog.fieldsOf 28).toList = [a, b] ∧ a.type = 3 ∧ b.type = 3 ∧ a.offset = 0 ∧ b.offset = 1 ∧ a.name ≠ "_" ∧ b.name ≠ "_" := by
  obtain ⟨a, l, h1, ha, hl⟩ := List.map_eq_cons_iff.1 tag_fields
  obtain ⟨b, l2, h2, hb, hl2⟩ := List.map_eq_cons_iff.1 hl
  have h3 := List.map_eq_nil_iff.1 hl2
  simp only [Prod.mk.injEq, decide_eq_true_eq] at ha hb
  exact ⟨a, b, by rw [h1, h2, h3], ha.2.1, hb.2.1, ha.2.2, hb.2.2, ha.1, hb.1⟩
theorem run_tag_eq0 (s t : Int × Int) (w : World) : (Op.equalIn 10000 28 (tagV s) (tagV t)).run Try.prog w = .ok (decide (s = t)) w := by
  have h := run_equalIn_agg (P := Try.prog) w 9999 28 #[.int .i64 s.1, .int .i64 s.2] #[.int .i64 t.1, .int .i64 t.2] (by kernel_rfl) (by kernel_rfl)
  refine h.trans ?_
  obtain ⟨a, b, h2, ha, hb, hc, hd, he, hf⟩ := tag_two
  rw [h2]
  simp only [Op.eqFields, ha, hb, hc, hd, if_pos he, if_pos hf]
  obtain ⟨s1, s2⟩ := s
  obtain ⟨t1, t2⟩ := t
  have k1 := fun w => run_equalIn_int (P := Try.prog) w 9998 3 .i64 .i64 s1 t1 Try.underlying3
  have k2 := fun w => run_equalIn_int (P := Try.prog) w 9998 3 .i64 .i64 s2 t2 Try.underlying3
  go_simp
  by_cases e1 : s1 = t1
  · by_cases e2 : s2 = t2 <;> simp [e1, e2]
  · simp [e1]
theorem run_tag_neq (s t : Int × Int) (w : World) : (binOp .neq 28 (tagV s) (tagV t)).run Try.prog w = .ok (.bool (!decide (s = t))) w := by
  rw [run_neq_struct, run_tag_eq0]
  rfl
theorem run_tag_eql (s t : Int × Int) (w : World) : (binOp .eql 28 (tagV s) (tagV t)).run Try.prog w = .ok (.bool (decide (s = t))) w := by
  rw [run_eql_struct, run_tag_eq0]
  rfl
theorem ext_bytes (w : World) (e : TypeId) (s : ByteArray) : Ext w (Lib.bytesWorld w e s) :=
  ⟨rfl, rfl, rfl, by rw [Lib.bytesWorld_size]; omega, fun k hk => Lib.bytesWorld_at_old w e s k hk⟩
theorem run_tobytes (S : ByteArray) (w : World) : (convert 9 22 (.string S)).run Try.prog w = .ok (.slice (some ⟨w.heap.size, 0, none⟩) S.size (grownCap w S.size 0 5)) (Lib.bytesWorld w 5 S) :=
  Lib.run_convert_string_bytes w 9 22 5 S Try.underlying9 Try.underlying22 Try.underlying5
theorem by_bytes (S : ByteArray) (w : World) (h : S.size ≤ 9223372036854775807) : By (Lib.bytesWorld w 5 S) (some ⟨w.heap.size, 0, none⟩) S.size S := by
  refine ⟨rfl, h, fun _ => ⟨_, 0, rfl, fun i hi => ?_⟩⟩
  have h1 := Lib.bytesWorld_cell w 5 S i hi
  rw [Nat.zero_add, h1]
  congr 3
  have h2 : i < S.data.toList.length := by rw [Array.length_toList]; exact hi
  rw [List.getD_eq_getElem?_getD, List.getElem?_eq_getElem h2]
  rfl

end Go.Proofs.Ytmajagdgpmbnhaa
