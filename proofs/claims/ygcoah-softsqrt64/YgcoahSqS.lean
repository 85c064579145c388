/-
  THE WALKS OF PACKAGE soft: SqrtFlags.
-/
import Derived.Test.YgcoahSqW
import Derived.Test.YgcoahTwo3
import Derived.Test.YgcoahSoft5
import Derived.Test.YgcoahPl5
namespace Go.Proofs.Ygcoah
open Go.RowKit

theorem i16_and1 (n : Int) : bits .and .i16 n 1 = n % 2 := by
  have h1 : (BitVec.ofInt 16 1).toNat = 2 ^ 1 - 1 := by decide
  have key : (BitVec.ofInt 16 n &&& BitVec.ofInt 16 1).toNat = (n % ((2 ^ 16 : Nat) : Int)).toNat % 2 ^ 1 := by
    rw [BitVec.toNat_and, BitVec.toNat_ofInt, h1, Nat.and_two_pow_sub_one_eq_mod]
  show IntKind.i16.wrap ((BitVec.ofInt 16 n &&& BitVec.ofInt 16 1).toNat : Nat) = n % 2
  rw [key, IntWalk.i16_in _ (by omega)]
  omega

/-- What soft.SqrtFlags takes the root of: the significand moved up, halved where its exponent is odd; and the root's exponent. -/
def sqV (M : Nat) (p : Pt) : Nat := if (p.exp - 63 + (M : Int)) % 2 = 0 then p.man * 2 ^ (63 - M) * 18446744073709551616 else p.man * 2 ^ (63 - M) * 9223372036854775808
def sqU (M : Nat) (p : Pt) : Int := (if (p.exp - 63 + (M : Int)) % 2 = 0 then (p.exp - 63 + (M : Int)) / 2 else (p.exp - 63 + (M : Int) + 1) / 2) - 32

theorem top_range (M m1 : Nat) (hM : M ≤ 52) (h1 : 2 ^ M ≤ m1) (h2 : m1 < 2 ^ (M + 1)) : 9223372036854775808 ≤ m1 * 2 ^ (63 - M) ∧ m1 * 2 ^ (63 - M) < 18446744073709551616 ∧ m1 * 2 ^ (63 - M) % 2 = 0 := by
  have e1 : 2 ^ M * 2 ^ (63 - M) = 9223372036854775808 := by rw [← Nat.pow_add, show M + (63 - M) = 63 by omega]
  have e2 : 2 ^ (M + 1) * 2 ^ (63 - M) = 18446744073709551616 := by rw [← Nat.pow_add, show M + 1 + (63 - M) = 64 by omega]
  have a1 := Nat.mul_le_mul_right (2 ^ (63 - M)) h1
  have a2 := Nat.mul_lt_mul_of_pos_right h2 (pow_pos2 (63 - M))
  refine ⟨by omega, by omega, ?_⟩
  rw [show 63 - M = 62 - M + 1 by omega, Nat.pow_succ, ← Nat.mul_assoc]
  exact Nat.mul_mod_left _ _

/-- What both answer for zero, NaN, a negative number, an infinity. -/
def sqrtZ (E M : Nat) (p : Pt) : Nat := if p.cls = 0 then sgnP E M p.neg else if p.cls = 4 then nanP E M else if p.neg = true then nanP E M else infS E M false

set_option maxRecDepth 100000 in
set_option maxHeartbeats 3200000 in
theorem sqrt_spec (E M mode x : Nat) (w : World) (h : FOk E M) (hx : x < 18446744073709551616) (hsp : (unp E M x).cls = 0 ∨ (unp E M x).cls = 4 ∨ (unp E M x).neg = true ∨ (unp E M x).cls = 3) :
    Calls Oahg.prog 34 #[.agg #[.int .u8 E, .int .u8 M], .int .u8 mode, .int .u64 x] w fun r w' =>
      (∃ fl : Int, r = .returned (.tuple #[.int .u64 (sqrtZ E M (unp E M x)), .int .u8 fl])) ∧ Below w.heap.size w w' := by
  have fx := unp_facts E M x h
  have hux := fun w' => unpack_pt E M x w' h hx
  obtain ⟨V, hV⟩ : ∃ V, V = sqrtZ E M (unp E M x) := ⟨_, rfl⟩
  rw [← hV]
  generalize unp E M x = p at *
  obtain ⟨n1, k1, e1, m1⟩ := p
  unfold ptV at hux
  simp only [] at fx hux hV hsp
  go_enter Oahg.func34, Oahg.ntmps34
  go_wp2_with fail
  refine (okT _ _ _ h).mono ?_
  rintro e wa ⟨rfl, hba⟩
  have c0 : wa.cell? ⟨w.heap.size, 0, none⟩ = some (.int .u8 E) := cell_later hba (by simp [go_sem])
  have c1 : wa.cell? ⟨w.heap.size, 1, none⟩ = some (.int .u8 M) := cell_later hba (by simp [go_sem])
  have hBa : Below w.heap.size w wa := ((Below.refl _ _).alloc (Nat.le_refl _) _).trans (hba.mono (by simp))
  clear hba
  go_wp2_with fail
  refine (hux _).mono ?_
  rintro e wb ⟨⟨v, rfl, rfl⟩, hbb⟩
  have hBb := hBa.trans (hbb.mono hBa.size)
  have c0 := cell_later hbb c0
  have c1 := cell_later hbb c1
  clear hux
  obtain ⟨W, eW⟩ : ∃ W, W = wb.alloc (.cells #[.bool n1, .int .i8 k1, .int .i16 e1, .int .u64 m1] 63) := ⟨_, rfl⟩
  have hb : Below wb.heap.size wb W := by rw [eW]; exact (Below.refl _ _).alloc (Nat.le_refl _) _
  have hB := hBb.trans (hb.mono hBb.size)
  have c0 := cell_later hb c0
  have c1 := cell_later hb c1
  have x0 : W.cell? ⟨wb.heap.size, 0, none⟩ = some (.bool n1) := by rw [eW]; simp [go_sem]
  have x1 : W.cell? ⟨wb.heap.size, 1, none⟩ = some (.int .i8 k1) := by rw [eW]; simp [go_sem]
  have x2 : W.cell? ⟨wb.heap.size, 2, none⟩ = some (.int .i16 e1) := by rw [eW]; simp [go_sem]
  have x3 : W.cell? ⟨wb.heap.size, 3, none⟩ = some (.int .u64 m1) := by rw [eW]; simp [go_sem]
  clear hb hbb hBa hBb
  unfold sqrtZ at hV
  simp only [] at hV
  have hnan := fun w' => theNaN_any E M w' h
  have hhrd := fun w' => sheard_any E M x x w' h hx hx
  have hinf := fun b w' => inf_any E M b w' h
  have hzer := fun b w' => szero_any E M b w' h
  by_cases a1 : k1 = 0
  · have hV' : V = sgnP E M n1 := by rw [hV, if_pos a1]
    clear hV
    have b0 : ((k1 : Int) == 0) = true := by rw [beq_iff_eq]; omega
    clear a1
    subst eW
    go_wp2_with fail
    refine (hzer _ _).mono ?_
    rintro e w1 ⟨rfl, hb⟩
    have hB1 := hB.trans (hb.mono hB.size)
    go_wp2
    go_ret2
    exact ⟨⟨_, by rw [hV']; rfl⟩, hB1⟩
  have b0 : ((k1 : Int) == 0) = false := by rw [beq_eq_false_iff_ne]; omega
  rw [if_neg a1] at hV
  by_cases a2 : k1 = 4
  · have hV' : V = nanP E M := by rw [hV, if_pos a2]
    clear hV
    have b4 : ((k1 : Int) == 4) = true := by rw [beq_iff_eq]; omega
    clear a2
    subst eW
    go_wp2
    obtain ⟨W, eW⟩ : ∃ W, W = wb.alloc (.cells #[.bool n1, .int .i8 k1, .int .i16 e1, .int .u64 m1] 63) := ⟨_, rfl⟩
    rw [← eW] at c0 c1 hB
    rw [← eW]
    clear eW x0 x1 x2 x3
    have d0 : ∀ x : Ext W, x.w.cell? ⟨w.heap.size, 0, none⟩ = some (.int .u8 E) := fun x => x.cell c0
    have d1 : ∀ x : Ext W, x.w.cell? ⟨w.heap.size, 1, none⟩ = some (.int .u8 M) := fun x => x.cell c1
    have hX : Nonempty (Ext W) := Ext.some _
    refine wp_region_ext (by kernel_rfl) (by kernel_rfl) ?_
    repeat (go_big_quiet_step (first | (go_at_call 52; exact Calls.ext_of (hnan _)) | (go_at_call 53; exact Calls.ext_of (hhrd _))))
    refine wpQuiet_nil ?_
    rintro _ ⟨x, rfl⟩
    have hBx : Below w.heap.size w x.w := hB.trans (x.hb.mono hB.size)
    generalize x.w = wx at *
    clear d0 d1 hX
    go_wp2
    go_ret2
    exact ⟨⟨_, by rw [hV']; rfl⟩, hBx⟩
  have b4 : ((k1 : Int) == 4) = false := by rw [beq_eq_false_iff_ne]; omega
  rw [if_neg a2] at hV
  by_cases a3 : n1 = true
  · subst a3
    have hV' : V = nanP E M := by rw [hV, if_pos rfl]
    clear hV
    subst eW
    go_wp2_with fail
    refine (hnan _).mono ?_
    rintro e w1 ⟨rfl, hb⟩
    have hB1 := hB.trans (hb.mono hB.size)
    go_wp2
    go_ret2
    exact ⟨⟨_, by rw [hV']; rfl⟩, hB1⟩
  have a4 : n1 = false := by cases n1 <;> simp_all
  subst a4
  have a5 : k1 = 3 := by rcases hsp with z | z | z | z <;> first | omega | exact absurd z (by decide)
  have hV' : V = infS E M false := by rw [hV, if_neg (by decide)]
  clear hV
  have b3 : ((k1 : Int) == 3) = true := by rw [beq_iff_eq]; omega
  clear a5
  subst eW
  go_wp2_with fail
  refine (hinf _ _).mono ?_
  rintro e w1 ⟨rfl, hb⟩
  have hB1 := hB.trans (hb.mono hB.size)
  go_wp2
  go_ret2
  exact ⟨⟨_, by rw [hV']; rfl⟩, hB1⟩

end Go.Proofs.Ygcoah
