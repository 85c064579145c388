/-
  A REGION THAT DRAWS ITS ORDER AND ONLY READS, WHOSE CALLEES MAKE MEMORY BUT TURN NONE THAT WAS THERE ('Below'), EACH HANDING BACK ONE VALUE: walked once, in the order of the text. The class: all worlds that extend W.
-/
import Derived.Test.YgcoahBase
namespace Go.Proofs.Ygcoah
open Go.RowKit

/-- A world that extends W. -/
structure Ext (W : World) where
  w : World
  hb : Below W.heap.size W w

theorem Ext.cell {W : World} (x : Ext W) {a : Addr} {v : Value} (h : W.cell? a = some v) : x.w.cell? a = some v := cell_later x.hb h

theorem Ext.frozen {W : World} (x : Ext W) {a : Addr} {v : Value} (h : W.cell? a = some v) (hf : W.frozen? a = false) : x.w.frozen? a = false :=
  (x.hb.frozen (World.block_lt_of_cell? _ _ h)).trans hf
theorem Ext.some (W : World) : Nonempty (Ext W) := ⟨⟨W, Below.refl _ _⟩⟩

theorem wp_region_ext {P : Program} {id : Nat} {Q : Exit → Act → World → Prop} {a : Act} {W : World} {l : List Oper} (hm : P.follows .mixedOrders = true) (hB : Region.lexB .any l.toArray = true)
    (h : wpQuiet P l.toArray (fun w' => ∃ x : Ext W, w' = x.w) (fun a' => ∀ w', (∃ x : Ext W, w' = x.w) → Q .normal a' w') l a) : (Code.region id l.toArray true).wp P Q a W :=
  wp_region_quiet (C := fun w' => ∃ x : Ext W, w' = x.w) hm hB ⟨⟨W.drew, (Below.refl _ _).drew⟩, rfl⟩ (by simpa using h)

theorem Calls.ext_of {P : Program} {f : FuncId} {args : Array Value} {W : World} {x : Ext W} {v : Value}
    (h : Calls P f args x.w fun e w' => e = .returned v ∧ Below x.w.heap.size x.w w') : Calls P f args x.w fun e w'' => e = .returned v ∧ ∃ y : Ext W, w'' = y.w :=
  h.mono fun _ w' ⟨he, hb⟩ => ⟨he, ⟨w', x.hb.trans (hb.mono x.hb.size)⟩, rfl⟩

end Go.Proofs.Ygcoah
