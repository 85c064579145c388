/-
  A CELL OF AN OPERAND (exact's struct operand): made, and stored into.
-/
import Derived.Test.YgcoahTwo3
namespace Go.Proofs.Ygcoah
open Go.RowKit

def zs77 : Array Value := #[.int .u64 0, .bool false, .int .i8 0, .bool false, .slice none 0 0, .slice none 0 0]

theorem fresh77 (w : World) : Fresh zs77 (w.alloc (.cells #[.int .u64 0, .bool false, .int .i8 0, .bool false, .slice none 0 0, .slice none 0 0] 77)) w.heap.size := by
  intro i hi
  have hi : i < 6 := hi
  match i, hi with
  | 0, _ => exact ⟨by simp [go_sem, zs77], by simp [go_sem]⟩
  | 1, _ => exact ⟨by simp [go_sem, zs77], by simp [go_sem]⟩
  | 2, _ => exact ⟨by simp [go_sem, zs77], by simp [go_sem]⟩
  | 3, _ => exact ⟨by simp [go_sem, zs77], by simp [go_sem]⟩
  | 4, _ => exact ⟨by simp [go_sem, zs77], by simp [go_sem]⟩
  | 5, _ => exact ⟨by simp [go_sem, zs77], by simp [go_sem]⟩

theorem al77 (ev : Operand → Value) (d ty : Nat) (s : String) (A : Array Edge) (w : World) :
    ∃ w', (execOp ev ⟨some d, .alloc 77, ty, s, A, none⟩).run Oahg.prog w = .ok (.value (.pointer (some ⟨w.heap.size, 0, none⟩))) w' ∧ Below w.heap.size w w' ∧ Fresh zs77 w' w.heap.size ∧ w.heap.size < w'.heap.size :=
  ⟨w.alloc (.cells #[.int .u64 0, .bool false, .int .i8 0, .bool false, .slice none 0 0, .slice none 0 0] 77), by simp [execOp, go_sem], (Below.refl _ _).alloc (Nat.le_refl _) _, fresh77 w, by simp⟩

theorem st77 (ev : Operand → Value) (b d u ty : Nat) (s : String) (A : Array Edge) (w : World) (X c : Int) (n1 n2 : Bool) (a1 a2 : Option Addr) (l1 l2 k1 k2 : Nat) (hf : Fresh zs77 w b) (he : ev (.tmp d) = .pointer (some ⟨b, 0, none⟩)) (hu : ev (.tmp u) = .agg #[.int .u64 X, .bool n1, .int .i8 c, .bool n2, .slice a1 l1 k1, .slice a2 l2 k2]) :
    ∃ w', (execOp ev ⟨none, .store 77 (.tmp d) (.tmp u), ty, s, A, none⟩).run Oahg.prog w = .ok .skip w' ∧ Held w' b (.agg #[.int .u64 X, .bool n1, .int .i8 c, .bool n2, .slice a1 l1 k1, .slice a2 l2 k2]) ∧ St b w w' := by
  obtain ⟨c0, f0⟩ := hf 0 (by decide)
  obtain ⟨c1, f1⟩ := hf 1 (by decide)
  obtain ⟨c2, f2⟩ := hf 2 (by decide)
  obtain ⟨c3, f3⟩ := hf 3 (by decide)
  obtain ⟨c4, f4⟩ := hf 4 (by decide)
  obtain ⟨c5, f5⟩ := hf 5 (by decide)
  replace c0 : w.cell? ⟨b, 0, none⟩ = some (.int .u64 0) := c0
  replace c1 : w.cell? ⟨b, 1, none⟩ = some (.bool false) := c1
  replace c2 : w.cell? ⟨b, 2, none⟩ = some (.int .i8 0) := c2
  replace c3 : w.cell? ⟨b, 3, none⟩ = some (.bool false) := c3
  replace c4 : w.cell? ⟨b, 4, none⟩ = some (.slice none 0 0) := c4
  replace c5 : w.cell? ⟨b, 5, none⟩ = some (.slice none 0 0) := c5
  refine ⟨(((((w.setCell ⟨b, 0, none⟩ (.int .u64 X)).setCell ⟨b, 1, none⟩ (.bool n1)).setCell ⟨b, 2, none⟩ (.int .i8 c)).setCell ⟨b, 3, none⟩ (.bool n2)).setCell ⟨b, 4, none⟩ (.slice a1 l1 k1)).setCell ⟨b, 5, none⟩ (.slice a2 l2 k2), by simp [execOp, go_sem, he, hu, c0, c1, c2, c3, c4, c5, f0, f1, f2, f3, f4, f5], ⟨_, rfl, ?_⟩, ?_⟩
  · intro i hi
    have hi : i < 6 := hi
    match i, hi with
    | 0, _ => simp [go_sem, c0]
    | 1, _ => simp [go_sem, c1]
    | 2, _ => simp [go_sem, c2]
    | 3, _ => simp [go_sem, c3]
    | 4, _ => simp [go_sem, c4]
    | 5, _ => simp [go_sem, c5]
  · refine (st_of_set c0 (fun _ h => by cases h) (.int .u64 X)).trans ?_
    refine (st_of_set (b := b) (o := 1) (w := w.setCell ⟨b, 0, none⟩ (.int .u64 X)) (c := .bool false) (by simp [go_sem, c1]) (fun _ h => by cases h) (.bool n1)).trans ?_
    refine (st_of_set (b := b) (o := 2) (w := (w.setCell ⟨b, 0, none⟩ (.int .u64 X)).setCell ⟨b, 1, none⟩ (.bool n1)) (c := .int .i8 0) (by simp [go_sem, c2]) (fun _ h => by cases h) (.int .i8 c)).trans ?_
    refine (st_of_set (b := b) (o := 3) (w := ((w.setCell ⟨b, 0, none⟩ (.int .u64 X)).setCell ⟨b, 1, none⟩ (.bool n1)).setCell ⟨b, 2, none⟩ (.int .i8 c)) (c := .bool false) (by simp [go_sem, c3]) (fun _ h => by cases h) (.bool n2)).trans ?_
    refine (st_of_set (b := b) (o := 4) (w := (((w.setCell ⟨b, 0, none⟩ (.int .u64 X)).setCell ⟨b, 1, none⟩ (.bool n1)).setCell ⟨b, 2, none⟩ (.int .i8 c)).setCell ⟨b, 3, none⟩ (.bool n2)) (c := .slice none 0 0) (by simp [go_sem, c4]) (fun _ h => by cases h) (.slice a1 l1 k1)).trans ?_
    exact st_of_set (c := .slice none 0 0) (by simp [go_sem, c5]) (fun _ h => by cases h) _

theorem held77 {w : World} {b : Nat} {X c : Int} {n1 n2 : Bool} {v5 v6 : Value} (h : Held w b (.agg #[.int .u64 X, .bool n1, .int .i8 c, .bool n2, v5, v6])) :
    w.cell? ⟨b, 0, none⟩ = some (.int .u64 X) ∧ w.cell? ⟨b, 1, none⟩ = some (.bool n1) ∧ w.cell? ⟨b, 2, none⟩ = some (.int .i8 c) ∧ w.cell? ⟨b, 3, none⟩ = some (.bool n2) ∧ w.cell? ⟨b, 4, none⟩ = some v5 ∧ w.cell? ⟨b, 5, none⟩ = some v6 := by
  obtain ⟨vs, hvs, hc⟩ := h
  obtain rfl := Value.agg.inj hvs
  exact ⟨hc 0 (by simp), hc 1 (by simp), hc 2 (by simp), hc 3 (by simp), hc 4 (by simp), hc 5 (by simp)⟩

end Go.Proofs.Ygcoah
