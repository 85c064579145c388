/-
  THE REGION 'x, y := ieee.Unpack(f, a), ieee.Unpack(f, b)'.
-/
import Derived.Test.YgcoahTwo2
import Derived.Test.YgcoahUnpackA
import Derived.Test.YgcoahAddF
namespace Go.Proofs.Ygcoah
open Go.RowKit

def zs63 : Array Value := #[.bool false, .int .i8 0, .int .i16 0, .int .u64 0]

theorem al63 (ev : Operand → Value) (d ty : Nat) (s : String) (A : Array Edge) (w : World) :
    ∃ w', (execOp ev ⟨some d, .alloc 63, ty, s, A, none⟩).run Oahg.prog w = .ok (.value (.pointer (some ⟨w.heap.size, 0, none⟩))) w' ∧ Below w.heap.size w w' ∧ Fresh zs63 w' w.heap.size ∧ w.heap.size < w'.heap.size := by
  refine ⟨w.alloc (.cells #[.bool false, .int .i8 0, .int .i16 0, .int .u64 0] 63), by simp [execOp, go_sem], (Below.refl _ _).alloc (Nat.le_refl _) _, ?_, by simp⟩
  intro i hi
  have hi : i < 4 := hi
  match i, hi with
  | 0, _ => exact ⟨by simp [go_sem, zs63], by simp [go_sem]⟩
  | 1, _ => exact ⟨by simp [go_sem, zs63], by simp [go_sem]⟩
  | 2, _ => exact ⟨by simp [go_sem, zs63], by simp [go_sem]⟩
  | 3, _ => exact ⟨by simp [go_sem, zs63], by simp [go_sem]⟩

theorem st_of_set {b o : Nat} {w : World} {c : Value} (hc : w.cell? ⟨b, o, none⟩ = some c) (hn : ∀ k, c ≠ .int .u32 k) (v : Value) : St b w (w.setCell ⟨b, o, none⟩ v) := by
  refine ⟨by simp, fun c' o' h => World.cell?_setCell_other _ _ _ _ (by intro e; cases e; exact h rfl), fun c' o' h => ?_, fun W hb hle => hb.setCell hle _, fun v' x hx => hx.set hc hn v⟩
  simp [go_sem]

theorem St.trans {b : Nat} {w w1 w2 : World} (h : St b w w1) (k : St b w1 w2) : St b w w2 :=
  ⟨k.size.trans h.size, fun c o n => (k.cell c o n).trans (h.cell c o n), fun c o n => (k.frozen c o n).trans (h.frozen c o n), fun W hb hle => k.below W (h.below W hb hle) hle, fun v x hx => k.nat v x (h.nat v x hx)⟩

theorem st63 (ev : Operand → Value) (b d u ty : Nat) (s : String) (A : Array Edge) (w : World) (p : Pt) (hf : Fresh zs63 w b) (he : ev (.tmp d) = .pointer (some ⟨b, 0, none⟩)) (hu : ev (.tmp u) = ptV p) :
    ∃ w', (execOp ev ⟨none, .store 63 (.tmp d) (.tmp u), ty, s, A, none⟩).run Oahg.prog w = .ok .skip w' ∧ Held w' b (ptV p) ∧ St b w w' := by
  obtain ⟨c0, f0⟩ := hf 0 (by decide)
  obtain ⟨c1, f1⟩ := hf 1 (by decide)
  obtain ⟨c2, f2⟩ := hf 2 (by decide)
  obtain ⟨c3, f3⟩ := hf 3 (by decide)
  replace c0 : w.cell? ⟨b, 0, none⟩ = some (.bool false) := c0
  replace c1 : w.cell? ⟨b, 1, none⟩ = some (.int .i8 0) := c1
  replace c2 : w.cell? ⟨b, 2, none⟩ = some (.int .i16 0) := c2
  replace c3 : w.cell? ⟨b, 3, none⟩ = some (.int .u64 0) := c3
  unfold ptV at hu ⊢
  obtain ⟨n, c, e, m⟩ := p
  simp only [] at hu ⊢
  refine ⟨(((w.setCell ⟨b, 0, none⟩ (.bool n)).setCell ⟨b, 1, none⟩ (.int .i8 c)).setCell ⟨b, 2, none⟩ (.int .i16 e)).setCell ⟨b, 3, none⟩ (.int .u64 m), by simp [execOp, go_sem, he, hu, c0, c1, c2, c3, f0, f1, f2, f3], ⟨_, rfl, ?_⟩, ?_⟩
  · intro i hi
    have hi : i < 4 := hi
    match i, hi with
    | 0, _ => simp [go_sem, c0]
    | 1, _ => simp [go_sem, c1]
    | 2, _ => simp [go_sem, c2]
    | 3, _ => simp [go_sem, c3]
  · refine (st_of_set c0 (fun _ h => by cases h) (.bool n)).trans ?_
    refine (st_of_set (b := b) (o := 1) (w := w.setCell ⟨b, 0, none⟩ (.bool n)) (c := .int .i8 0) (by simp [go_sem, c1]) (fun _ h => by cases h) (.int .i8 c)).trans ?_
    refine (st_of_set (b := b) (o := 2) (w := (w.setCell ⟨b, 0, none⟩ (.bool n)).setCell ⟨b, 1, none⟩ (.int .i8 c)) (c := .int .i16 0) (by simp [go_sem, c2]) (fun _ h => by cases h) (.int .i16 e)).trans ?_
    exact st_of_set (c := .int .u64 0) (by simp [go_sem, c3]) (fun _ h => by cases h) _

theorem lasts_eq (v : Value) : Lasts (fun _ u => u = v) := ⟨fun _ _ _ h _ => h, fun _ _ _ _ h _ => h⟩

theorem call50 (args : Array Value) (w : World) : (callFunc 50 args).run Oahg.prog w = .ok (.enter 50 args) w := by simp [go_sem]

theorem unpack_pt (E M x : Nat) (w : World) (h : FOk E M) (hx : x < 18446744073709551616) :
    Calls Oahg.prog 50 #[.agg #[.int .u8 E, .int .u8 M], .int .u64 x] w fun e w' => (∃ v, e = .returned v ∧ v = ptV (unp E M x)) ∧ Below w.heap.size w w' := by
  refine (unpack_any E M x w h hx).mono ?_
  rintro e w' ⟨rfl, hb⟩
  exact ⟨⟨_, rfl, rfl⟩, hb⟩

theorem held63 {w : World} {b : Nat} {p : Pt} (h : Held w b (ptV p)) : w.cell? ⟨b, 0, none⟩ = some (.bool p.neg) ∧ w.cell? ⟨b, 1, none⟩ = some (.int .i8 p.cls) ∧ w.cell? ⟨b, 2, none⟩ = some (.int .i16 p.exp) ∧ w.cell? ⟨b, 3, none⟩ = some (.int .u64 p.man) := by
  obtain ⟨vs, hvs, hc⟩ := h
  unfold ptV at hvs
  obtain rfl := Value.agg.inj hvs
  exact ⟨hc 0 (by simp), hc 1 (by simp), hc 2 (by simp), hc 3 (by simp)⟩

end Go.Proofs.Ygcoah
