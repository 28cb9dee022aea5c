/-
  The iterator's contract, as the law of the loop over it wants it; a law for regions that draw, without a premise on panics.
-/
import Derived.Test.YtehbdgbolbbgkaaIter2
namespace Go.Proofs.Ytehbdgbolbbgkaa
open Go.RowKit

theorem cell_lt {w : World} {p : Addr} {v : Value} (h : w.cell? p = some v) : p.block < w.heap.size := by
  rcases Nat.lt_or_ge p.block w.heap.size with h' | h'
  · exact h'
  · simp [World.cell?, Array.getElem?_eq_none h'] at h

theorem KpB.b {n₀ B : Nat} {w : World} (hn : n₀ = w.heap.size) (W : World) (l : Nat) (o o' : Obj) (hl : w.heap.size ≤ l) (h : W.heap[l]? = some o) (h1 : o.isCells = false) (h2 : o.isWalk = false) : KpB n₀ B W (W.putObj l o') := by
  have hb := belowK_b (w := w) (Nat.le_of_eq hn) W l o o' hl h h1 h2
  exact ⟨hb.os, hb.tape, hb.output, hb.size, fun k hk _ => hb.block k hk⟩

theorem rows_stops {n : Nat} (hn : 1 ≤ n) (Bs Be B : Nat) (A : Option Addr) (m c : Nat) (L : List Int) (e : Int) (hm : m ≤ 1099511627776) (he : 1 ≤ e) (hr : ∀ (i : Nat) (v : Int), L[i]? = some v → 1 ≤ v ∧ v ≤ 1152921504606846976)
    (hlen : m ≤ L.length) {w : World} (hBs : Bs < w.heap.size) (hBe : Be < w.heap.size) (hBs' : Bs ≠ B) (hBe' : Be ≠ B)
    (c1 : w.cell? ⟨Bs, 0, none⟩ = some (.slice A m c)) (c2 : w.cell? ⟨Be, 0, none⟩ = some (.int .i64 e))
    (ha : 0 < m → ∃ b off, A = some ⟨b, off, none⟩ ∧ b ≠ B ∧ ∀ (i : Nat) (v : Int), L[i]? = some v → i < m → w.cell? ⟨b, off + i, none⟩ = some (.int .i64 v)) :
    SeqStopsK Fence.wide n Try.prog 28 #[.pointer (some ⟨Bs, 0, none⟩), .pointer (some ⟨Be, 0, none⟩)] (fun x : Int => #[Value.int .i64 x]) (KpB w.heap.size B) (fun ys => ys = DV L e m) (fun pre => pre <+: DV L e m) m w := fun l J Jx W hW hJ _ hY h0 => by
  refine rows1_in n hn l Bs Be w.heap.size B A m c L e J Jx hm he hr hlen hBs hBe hBs' hBe' hY W ?_ hW.size ((hW.cell (p := ⟨Bs, 0, none⟩) hBs).trans c1) ((hW.cell (p := ⟨Be, 0, none⟩) hBe).trans c2) ?_ h0
  · intro pre X Y hj hx
    exact hJ pre X Y none hj ⟨hx.os, hx.tape, hx.output, hx.size, fun k hk _ => hx.block k hk⟩ (fun r hr => by cases hr)
  · intro h
    obtain ⟨b, off, rfl, hb, hc⟩ := ha h
    have hlt : b < w.heap.size := by
      obtain ⟨v, hv⟩ : ∃ v, L[0]? = some v := ⟨_, List.getElem?_eq_getElem (by omega)⟩
      exact cell_lt (hc 0 v hv h)
    exact ⟨b, off, rfl, hlt, hb, fun i v hi hm => (hW.cell (p := ⟨b, off + i, none⟩) hlt).trans (hc i v hi hm)⟩

variable {P : Program}
theorem wp_region_mix' {id : Nat} {a : Act} {w : World} {l : List Oper} {Q : Exit → Act → World → Prop} (σ : List (Nat × Bool)) (hm : P.follows .mixedOrders = true) (hs : Region.noSelect l.toArray = true)
    (hb : schedB .any l.toArray σ (Array.replicate l.toArray.size false) = true) (hc : calmB l.toArray σ = true) (hl : σ.length = l.toArray.size)
    (h : ∀ w', Ext w w' → wpMix P l.toArray (fun x a w => x = .normal ∧ Q .normal a w) (pick l σ) a w') : (Code.region id l.toArray true).wp P Q a w := by
  refine wp_mono (wp_region_mix σ hm hs hb hc hl (fun c a d v w hh => by cases hh.1) h) ?_
  rintro x a' w' ⟨rfl, hq⟩
  exact hq

end Go.Proofs.Ytehbdgbolbbgkaa
