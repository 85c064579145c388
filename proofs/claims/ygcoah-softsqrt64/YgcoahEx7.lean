/-
  THE WALKS OF PACKAGE exact, 7: whole, scaled, MakeRat.
-/
import Derived.Test.YgcoahEx2
namespace Go.Proofs.Ygcoah
open Go.RowKit
attribute [local go_sem] eqNil neNil

/-- A Rat: its sign, and its two numbers. -/
def RatV (w : World) (v : Value) (neg : Bool) (x y : Nat) : Prop := ∃ a n c b m d, v = .agg #[.bool neg, .slice a n c, .slice b m d] ∧ NatV w (.slice a n c) x ∧ NatV w (.slice b m d) y

theorem RatV.below {w w' : World} {v : Value} {neg : Bool} {x y : Nat} (h : RatV w v neg x y) (hb : Below w.heap.size w w') : RatV w' v neg x y := by
  obtain ⟨a, n, c, b, m, d, e, h1, h2⟩ := h
  exact ⟨a, n, c, b, m, d, e, h1.below hb, h2.below hb⟩

set_option maxHeartbeats 800000 in
theorem wholeN {w : World} {a : Option Addr} {n ca x : Nat} (neg : Bool) (hx : NatV w (.slice a n ca) x) :
    Calls Oahg.prog 141 #[.bool neg, .slice a n ca] w fun e w' => (∃ v, e = .returned v ∧ RatV w' v neg x 1) ∧ Below w.heap.size w w' := by
  have hf := fun w' => fromU64_any 1 w' (by decide)
  have h1 : ((1 : Nat) : Int) = 1 := rfl
  rw [h1] at hf
  go_enter Oahg.func141, Oahg.ntmps141
  go_wp2_with fail
  have hB0 := (Below.refl w.heap.size w).alloc (Nat.le_refl _) (.cells #[.bool false, .slice none 0 0, .slice none 0 0] 75)
  refine (hf _).mono ?_
  rintro e w1 ⟨⟨v, rfl, hv⟩, hb1⟩
  obtain ⟨b, m, cb, rfl⟩ := hv.form
  have hB1 := hB0.trans (hb1.mono (by simp))
  have r0 : w1.cell? ⟨w.heap.size, 0, none⟩ = some (.bool false) := cell_later hb1 (by simp [go_sem])
  have r1 : w1.cell? ⟨w.heap.size, 1, none⟩ = some (.slice none 0 0) := cell_later hb1 (by simp [go_sem])
  have r2 : w1.cell? ⟨w.heap.size, 2, none⟩ = some (.slice none 0 0) := cell_later hb1 (by simp [go_sem])
  have q0 : w1.frozen? ⟨w.heap.size, 0, none⟩ = false := by rw [hb1.frozen (p := ⟨w.heap.size, 0, none⟩) (by simp)]; simp [go_sem]
  have q1 : w1.frozen? ⟨w.heap.size, 1, none⟩ = false := by rw [hb1.frozen (p := ⟨w.heap.size, 1, none⟩) (by simp)]; simp [go_sem]
  have q2 : w1.frozen? ⟨w.heap.size, 2, none⟩ = false := by rw [hb1.frozen (p := ⟨w.heap.size, 2, none⟩) (by simp)]; simp [go_sem]
  have hx1 := hx.below hB1
  go_wp2
  refine bodyPost_ret (v := .agg #[.bool neg, .slice a n ca, .slice b m cb]) (by simp [results, Oahg.results141, go_sem, r0, r1, r2]) rfl ⟨⟨_, rfl, _, _, _, _, _, _, rfl, ?_, ?_⟩, ?_⟩
  · exact ((hx1.set r0 (fun _ h => by cases h) _).set (c := .slice none 0 0) (by simp [go_sem, r1]) (fun _ h => by cases h) _).set (c := .slice none 0 0) (by simp [go_sem, r2]) (fun _ h => by cases h) _
  · exact ((hv.set r0 (fun _ h => by cases h) _).set (c := .slice none 0 0) (by simp [go_sem, r1]) (fun _ h => by cases h) _).set (c := .slice none 0 0) (by simp [go_sem, r2]) (fun _ h => by cases h) _
  · exact ((hB1.setCell (by simp) _).setCell (by simp) _).setCell (by simp) _

set_option maxHeartbeats 1600000 in
theorem scaledN {w : World} {a : Option Addr} {n ca x : Nat} (neg : Bool) (k : Int) (hx : NatV w (.slice a n ca) x) (sx : Small x) (k1 : -60000 ≤ k) (k2 : k ≤ 60000) :
    Calls Oahg.prog 142 #[.bool neg, .slice a n ca, .int .i64 k] w fun e w' => (∃ v, e = .returned v ∧ RatV w' v neg (x * P2 k) (P2 (-k))) ∧ Below w.heap.size w w' := by
  have hB0 := (Below.refl w.heap.size w).alloc (Nat.le_refl _) (.cells #[.bool false, .slice none 0 0, .slice none 0 0] 75)
  by_cases c : k < 0
  · obtain ⟨j, hj⟩ : ∃ j : Nat, -k = (j : Int) := ⟨(-k).toNat, by omega⟩
    have e1 : P2 k = 1 := by unfold P2; rw [show k.toNat = 0 by omega]
    have e2 : P2 (-k) = 1 * 2 ^ j := by unfold P2; rw [hj, Int.toNat_natCast, Nat.one_mul]
    have w1 : IntKind.i64.wrap (-k) = (j : Int) := by rw [IntWalk.i64_in _ (by omega)]; exact hj
    have w2 : IntKind.u16.wrap (j : Int) = (j : Int) := IntWalk.u16_in _ (by omega)
    rw [e1, e2, Nat.mul_one]
    have hf := fun w' => fromU64_any 1 w' (by decide)
    have h1 : ((1 : Nat) : Int) = 1 := rfl
    rw [h1] at hf
    have hj2 : j < 65536 := by omega
    have hs := fun (w' : World) (b : Option Addr) (m cb : Nat) (h : NatV w' (.slice b m cb) 1) => shlN h (Small.of (k := 1) (by decide) (by decide)) j hj2
    clear e1 e2 hj
    go_enter Oahg.func142, Oahg.ntmps142
    go_wp2_with fail
    refine (hf _).mono ?_
    rintro e w1 ⟨⟨v, rfl, hv⟩, hb1⟩
    obtain ⟨b, m, cb, rfl⟩ := hv.form
    have hB1 := hB0.trans (hb1.mono (by simp))
    have r0 : w1.cell? ⟨w.heap.size, 0, none⟩ = some (.bool false) := cell_later hb1 (by simp [go_sem])
    have r1 : w1.cell? ⟨w.heap.size, 1, none⟩ = some (.slice none 0 0) := cell_later hb1 (by simp [go_sem])
    have r2 : w1.cell? ⟨w.heap.size, 2, none⟩ = some (.slice none 0 0) := cell_later hb1 (by simp [go_sem])
    have q0 : w1.frozen? ⟨w.heap.size, 0, none⟩ = false := by rw [hb1.frozen (p := ⟨w.heap.size, 0, none⟩) (by simp)]; simp [go_sem]
    have q1 : w1.frozen? ⟨w.heap.size, 1, none⟩ = false := by rw [hb1.frozen (p := ⟨w.heap.size, 1, none⟩) (by simp)]; simp [go_sem]
    have q2 : w1.frozen? ⟨w.heap.size, 2, none⟩ = false := by rw [hb1.frozen (p := ⟨w.heap.size, 2, none⟩) (by simp)]; simp [go_sem]
    go_wp2_with fail
    refine (hs _ _ _ _ hv).mono ?_
    rintro e w2 ⟨⟨v, rfl, hv2⟩, hb2⟩
    obtain ⟨b2, m2, cb2, rfl⟩ := hv2.form
    have hB2 := hB1.trans (hb2.mono hB1.size)
    have q0 := frozen_later hb2 r0 q0
    have q1 := frozen_later hb2 r1 q1
    have q2 := frozen_later hb2 r2 q2
    have r0 := cell_later hb2 r0
    have r1 := cell_later hb2 r1
    have r2 := cell_later hb2 r2
    have hx1 := hx.below hB2
    clear hv hs hf
    go_wp2
    refine bodyPost_ret (v := .agg #[.bool neg, .slice a n ca, .slice b2 m2 cb2]) (by simp [results, Oahg.results142, go_sem, r0, r1, r2]) rfl ⟨⟨_, rfl, _, _, _, _, _, _, rfl, ?_, ?_⟩, ?_⟩
    · exact ((hx1.set r0 (fun _ h => by cases h) _).set (c := .slice none 0 0) (by simp [go_sem, r1]) (fun _ h => by cases h) _).set (c := .slice none 0 0) (by simp [go_sem, r2]) (fun _ h => by cases h) _
    · exact ((hv2.set r0 (fun _ h => by cases h) _).set (c := .slice none 0 0) (by simp [go_sem, r1]) (fun _ h => by cases h) _).set (c := .slice none 0 0) (by simp [go_sem, r2]) (fun _ h => by cases h) _
    · exact ((hB2.setCell (by simp) _).setCell (by simp) _).setCell (by simp) _
  · obtain ⟨j, hj⟩ : ∃ j : Nat, k = (j : Int) := ⟨k.toNat, by omega⟩
    subst hj
    have e1 : P2 (-(j : Int)) = 1 := by unfold P2; rw [show (-(j : Int)).toNat = 0 by omega]
    have e2 : P2 (j : Int) = 2 ^ j := by unfold P2; rw [Int.toNat_natCast]
    have w2 : IntKind.u16.wrap (j : Int) = (j : Int) := IntWalk.u16_in _ (by omega)
    have c' : decide ((j : Int) < 0) = false := decide_eq_false c
    rw [e1, e2]
    have hj2 : j < 65536 := by omega
    have hs := fun w' hb => shlN (hx.below (w' := w') hb) sx j hj2
    clear e1 e2
    go_enter Oahg.func142, Oahg.ntmps142
    go_wp2_with fail
    refine (hs _ hB0).mono ?_
    rintro e w1 ⟨⟨v, rfl, hv⟩, hb1⟩
    obtain ⟨b, m, cb, rfl⟩ := hv.form
    have hB1 := hB0.trans (hb1.mono (by simp))
    have r0 : w1.cell? ⟨w.heap.size, 0, none⟩ = some (.bool false) := cell_later hb1 (by simp [go_sem])
    have r1 : w1.cell? ⟨w.heap.size, 1, none⟩ = some (.slice none 0 0) := cell_later hb1 (by simp [go_sem])
    have r2 : w1.cell? ⟨w.heap.size, 2, none⟩ = some (.slice none 0 0) := cell_later hb1 (by simp [go_sem])
    have q0 : w1.frozen? ⟨w.heap.size, 0, none⟩ = false := by rw [hb1.frozen (p := ⟨w.heap.size, 0, none⟩) (by simp)]; simp [go_sem]
    have q1 : w1.frozen? ⟨w.heap.size, 1, none⟩ = false := by rw [hb1.frozen (p := ⟨w.heap.size, 1, none⟩) (by simp)]; simp [go_sem]
    have q2 : w1.frozen? ⟨w.heap.size, 2, none⟩ = false := by rw [hb1.frozen (p := ⟨w.heap.size, 2, none⟩) (by simp)]; simp [go_sem]
    go_wp2_with fail
    refine (wholeN neg hv).mono ?_
    rintro e w2 ⟨⟨v, rfl, a2, n2, c2, b2, m2, d2, rfl, hv1, hv2⟩, hb2⟩
    have hB2 := hB1.trans (hb2.mono hB1.size)
    have q0 := frozen_later hb2 r0 q0
    have q1 := frozen_later hb2 r1 q1
    have q2 := frozen_later hb2 r2 q2
    have r0 := cell_later hb2 r0
    have r1 := cell_later hb2 r1
    have r2 := cell_later hb2 r2
    clear hv hs
    go_wp2
    refine bodyPost_ret (v := .agg #[.bool neg, .slice a2 n2 c2, .slice b2 m2 d2]) (by simp [results, Oahg.results142, go_sem, r0, r1, r2]) rfl ⟨⟨_, rfl, _, _, _, _, _, _, rfl, ?_, ?_⟩, ?_⟩
    · exact ((hv1.set r0 (fun _ h => by cases h) _).set (c := .slice none 0 0) (by simp [go_sem, r1]) (fun _ h => by cases h) _).set (c := .slice none 0 0) (by simp [go_sem, r2]) (fun _ h => by cases h) _
    · exact ((hv2.set r0 (fun _ h => by cases h) _).set (c := .slice none 0 0) (by simp [go_sem, r1]) (fun _ h => by cases h) _).set (c := .slice none 0 0) (by simp [go_sem, r2]) (fun _ h => by cases h) _
    · exact ((hB2.setCell (by simp) _).setCell (by simp) _).setCell (by simp) _

set_option maxHeartbeats 1600000 in
theorem makeRatN {w : World} {a b : Option Addr} {n m ca cb x y : Nat} (neg : Bool) (hx : NatV w (.slice a n ca) x) (hy : NatV w (.slice b m cb) y) (hy0 : 0 < y) :
    Calls Oahg.prog 137 #[.bool neg, .slice a n ca, .slice b m cb] w fun e w' => (∃ v, e = .returned v ∧ RatV w' v neg x y) ∧ Below w.heap.size w w' := by
  have hB0 := (Below.refl w.heap.size w).alloc (Nat.le_refl _) (.cells #[.bool false, .slice none 0 0, .slice none 0 0] 75)
  go_enter Oahg.func137, Oahg.ntmps137
  go_wp2_with fail
  refine (takeN (hy.below hB0)).mono ?_
  rintro e w1 ⟨⟨v, rfl, hv⟩, hb1⟩
  obtain ⟨b1, m1, cb1, rfl⟩ := hv.form
  have hB1 := hB0.trans (hb1.mono (by simp))
  have hnn : b1.isNone = false := by rw [hv.isNone]; exact decide_eq_false (by omega)
  have r0 : w1.cell? ⟨w.heap.size, 0, none⟩ = some (.bool false) := cell_later hb1 (by simp [go_sem])
  have r1 : w1.cell? ⟨w.heap.size, 1, none⟩ = some (.slice none 0 0) := cell_later hb1 (by simp [go_sem])
  have r2 : w1.cell? ⟨w.heap.size, 2, none⟩ = some (.slice none 0 0) := cell_later hb1 (by simp [go_sem])
  have q0 : w1.frozen? ⟨w.heap.size, 0, none⟩ = false := by rw [hb1.frozen (p := ⟨w.heap.size, 0, none⟩) (by simp)]; simp [go_sem]
  have q1 : w1.frozen? ⟨w.heap.size, 1, none⟩ = false := by rw [hb1.frozen (p := ⟨w.heap.size, 1, none⟩) (by simp)]; simp [go_sem]
  have q2 : w1.frozen? ⟨w.heap.size, 2, none⟩ = false := by rw [hb1.frozen (p := ⟨w.heap.size, 2, none⟩) (by simp)]; simp [go_sem]
  go_wp2_with fail
  refine (takeN (hx.below hB1)).mono ?_
  rintro e w2 ⟨⟨v, rfl, hv2⟩, hb2⟩
  obtain ⟨b2, m2, cb2, rfl⟩ := hv2.form
  have hB2 := hB1.trans (hb2.mono hB1.size)
  have hv1 := hv.below hb2
  have q0 := frozen_later hb2 r0 q0
  have q1 := frozen_later hb2 r1 q1
  have q2 := frozen_later hb2 r2 q2
  have r0 := cell_later hb2 r0
  have r1 := cell_later hb2 r1
  have r2 := cell_later hb2 r2
  go_wp2
  refine bodyPost_ret (v := .agg #[.bool neg, .slice b2 m2 cb2, .slice b1 m1 cb1]) (by simp [results, Oahg.results137, go_sem, r0, r1, r2]) rfl ⟨⟨_, rfl, _, _, _, _, _, _, rfl, ?_, ?_⟩, ?_⟩
  · exact ((hv2.set r0 (fun _ h => by cases h) _).set (c := .slice none 0 0) (by simp [go_sem, r1]) (fun _ h => by cases h) _).set (c := .slice none 0 0) (by simp [go_sem, r2]) (fun _ h => by cases h) _
  · exact ((hv1.set r0 (fun _ h => by cases h) _).set (c := .slice none 0 0) (by simp [go_sem, r1]) (fun _ h => by cases h) _).set (c := .slice none 0 0) (by simp [go_sem, r2]) (fun _ h => by cases h) _
  · exact ((hB2.setCell (by simp) _).setCell (by simp) _).setCell (by simp) _

end Go.Proofs.Ygcoah
