/-
  The law for a region that draws its order whose operations only read what was there and whose callees only add blocks: one walk in the order of the text, over the class of all later worlds.
-/
import Derived.Test.YtmajagdgpmbnhaaRows
import Derived.WalkKit
import Derived.WalkLawsBesides
import Derived.WalkSpells
import Derived.BigQuiet
import Derived.Deep.LoopGhost
import Derived.Deep.DeepFit
import Derived.Lib.Hide
import Derived.Outline
namespace Go.Proofs.Ytmajagdgpmbnhaa
open Go.RowKit

/-- The worlds that are as w is below w's end. -/
structure Later (w : World) where
  world : World
  is : Below w.heap.size w world

instance laterHas (w : World) : Nonempty (Later w) := ⟨⟨w, Below.refl _ _⟩⟩

abbrev Ext (w w' : World) : Prop := Below w.heap.size w w'

theorem Ext.of {w w' w'' : World} (h : Ext w w') (k : Ext w' w'') : Ext w w'' := h.trans (k.mono h.size)

theorem wp_region_later {P : Program} {id : Nat} {Q : Exit → Act → World → Prop} {a : Act} {w : World} {l : List Oper} (hm : P.follows .mixedOrders = true) (hB : Region.lexB .any l.toArray = true)
    (h : wpQuiet P l.toArray (fun w' => ∃ x : Later w, w' = x.world) (fun a' => ∀ w', Ext w w' → Q .normal a' w') l a) : (Code.region id l.toArray true).wp P Q a w := by
  refine wp_region_quiet (C := fun w' => ∃ x : Later w, w' = x.world) hm hB ⟨⟨w.drew, (Below.refl _ _).drew⟩, rfl⟩ ?_
  have hmono : ∀ (l' : List Oper) (a' : Act) (Q1 Q2 : Act → Prop), (∀ a, Q1 a → Q2 a) → wpQuiet P l.toArray (fun w' => ∃ x : Later w, w' = x.world) Q1 l' a' → wpQuiet P l.toArray (fun w' => ∃ x : Later w, w' = x.world) Q2 l' a' := by
    intro l'
    induction l' with
    | nil => intro a' Q1 Q2 hq h; exact hq _ h
    | cons o rest ih =>
      intro a' Q1 Q2 hq h
      unfold wpQuiet at h ⊢
      split
      · rename_i hw
        rw [if_pos hw] at h
        exact Oper.quiet_mono (fun a h => ih a Q1 Q2 hq h) h
      · rename_i hw
        rw [if_neg hw] at h
        exact ih _ Q1 Q2 hq h
  simp only
  refine hmono _ _ _ _ ?_ h
  rintro a' hq w' ⟨x, rfl⟩
  exact hq _ x.is

theorem Calls.later {P : Program} {f : FuncId} {args : Array Value} {w : World} {x : Later w} {v : Value}
    (h : Calls P f args x.world fun e w' => e = .returned v ∧ Ext x.world w') : Calls P f args x.world fun e w'' => e = .returned v ∧ ∃ y : Later w, w'' = y.world :=
  h.mono fun _ w'' ⟨he, hb⟩ => ⟨he, ⟨w'', Ext.of x.is hb⟩, rfl⟩

theorem Later.cell {w : World} {a : Addr} {v : Value} (h : w.cell? a = some v) (x : Later w) : x.world.cell? a = some v :=
  (x.is.cell (World.block_lt_of_cell? w a h)).trans h

theorem Ext.cell {w w' : World} (h : Ext w w') {a : Addr} {v : Value} (hc : w.cell? a = some v) : w'.cell? a = some v :=
  (Below.cell h (World.block_lt_of_cell? w a hc)).trans hc

end Go.Proofs.Ytmajagdgpmbnhaa
