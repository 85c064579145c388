/-
  THE WALKS OF PACKAGE wide: Sqrt, for a whose upper word has its leading bit at 62 or 63.
-/
import Derived.Test.YgcoahRootW
import Derived.Laws.StructEq
import Derived.Test.YgcoahExt
namespace Go.Proofs.Ygcoah
open Go.RowKit

theorem eq47 (a b c d : Int) (w : World) : (binOp .eql 47 (.agg #[.int .u64 a, .int .u64 b]) (.agg #[.int .u64 c, .int .u64 d])).run Oahg.prog w = .ok (.bool (a == c && b == d)) w := by
  cases h : (a == c)
  · simp [go_sem, h]
  · by_cases h2 : b = d <;> simp [go_sem, h, h2]

theorem guard47 : Oahg.prog.eqGuardType Oahg.prog.depth 47 = false := by kernel_rfl
attribute [local go_sem] eq47 guard47

theorem eq_words (x y : Nat) : (((hiW x : Int) == (hiW y : Int)) && ((loW x : Int) == (loW y : Int))) = decide (x = y) := by
  have h1 := hi_lo x
  have h2 := hi_lo y
  by_cases c : x = y
  · subst c; simp
  · rw [decide_eq_false c, Bool.and_eq_false_iff]
    by_cases c1 : hiW x = hiW y
    · right
      rw [beq_eq_false_iff_ne]
      intro e
      have e' : loW x = loW y := by omega
      rw [c1, e'] at h1
      omega
    · left
      rw [beq_eq_false_iff_ne]
      omega

set_option maxRecDepth 100000 in
set_option maxHeartbeats 3200000 in
theorem wsqrt_any (a r : Nat) (w : World) (ha : a < 340282366920938463463374607431768211456) (h0 : 85070591730234615865843651857942052864 ≤ a) (hr : IsSqrt a r) :
    Calls Oahg.prog 57 #[.agg #[.int .u64 (hiW a), .int .u64 (loW a)]] w fun e w' => e = .returned (.tuple #[.int .u64 r, .bool (decide (r * r = a))]) ∧ Below w.heap.size w w' := by
  have hhl := hi_lo a
  have hH2 := hiW_lt ha
  have hL2 := loW_lt a
  have hH1 : 4611686018427387904 ≤ hiW a := by omega
  obtain ⟨g, hg⟩ := exists_sqrt (hiW a)
  have hbl : bl (hiW a) = 63 ∨ bl (hiW a) = 64 := by
    have h1 : bl (hiW a) ≤ 64 := (bl_le_iff _ _).2 hH2
    rcases Nat.lt_or_ge (bl (hiW a)) 63 with z | z
    · have := (bl_le_iff (hiW a) 62).1 (by omega)
      have e : (2 : Nat) ^ 62 = 4611686018427387904 := by decide
      omega
    · omega
  have hclz := fun w' => clz_any (hiW a) w' (by omega) hH2
  have hand : bits .andNot .u8 (((64 - bl (hiW a) : Nat)) : Int) 1 = 0 := by
    rcases hbl with e | e <;> rw [e] <;> decide
  have hshl := fun w' => wshl_any a 0 w' (by decide) (by rw [Nat.pow_zero, Nat.mul_one]; exact ha)
  rw [Nat.pow_zero, Nat.mul_one] at hshl
  have hroot := fun w' => root_any (hiW a) g w' hH1 hH2 hg
  have hg1 : 2147483648 ≤ g := by
    rcases Nat.lt_or_ge g 2147483648 with z | z
    · have : (g + 1) * (g + 1) ≤ 2147483648 * 2147483648 := Nat.mul_le_mul (by omega) (by omega)
      have := hg.2
      omega
    · exact z
  have hg2 : g < 4294967296 := by
    rcases Nat.lt_or_ge g 4294967296 with z | z
    · exact z
    · have : 4294967296 * 4294967296 ≤ g * g := Nat.mul_le_mul z z
      have := hg.1
      omega
  obtain ⟨R, hR⟩ : ∃ R, R = hiW a - g * g := ⟨_, rfl⟩
  rw [← hR] at hroot
  have hR2 : R ≤ 2 * g := by
    have e : (g + 1) * (g + 1) = g * g + 2 * g + 1 := by rw [Nat.add_mul, Nat.mul_add]; omega
    have := hg.2
    omega
  have hRe : hiW a = g * g + R := by have := hg.1; omega
  obtain ⟨mid, hmid⟩ : ∃ mid, mid = loW a / 4294967296 := ⟨_, rfl⟩
  have hrh := root_half (B := 4294967296) (mid := mid) (lo := loW a % 4294967296) (by omega) hRe hg.2 (by omega) (by omega) (Nat.mod_lt _ (by omega))
  have hxx : hiW a * (4294967296 * 4294967296) + mid * 4294967296 + loW a % 4294967296 = a := by
    have e : hiW a * (4294967296 * 4294967296) = 18446744073709551616 * hiW a := by rw [Nat.mul_comm]
    rw [e]
    omega
  rw [hxx] at hrh
  obtain ⟨N, hN⟩ : ∃ N, N = R * 4294967296 + mid := ⟨_, rfl⟩
  obtain ⟨A, hA⟩ : ∃ A, A = 2 * g := ⟨_, rfl⟩
  rw [← hN, ← hA] at hrh
  have hNl : N < 340282366920938463463374607431768211456 := by omega
  have hdiv := fun w' => wdiv_any N A w' (by omega) (by omega) (by unfold hiW; omega)
  obtain ⟨lw, hlw⟩ : ∃ lw, lw = N / A := ⟨_, rfl⟩
  rw [← hlw] at hrh hdiv
  obtain ⟨q, hq⟩ : ∃ q, q = min lw (4294967296 - 1) := ⟨_, rfl⟩
  rw [← hq] at hrh
  obtain ⟨S, hS⟩ : ∃ S, S = g * 4294967296 + q := ⟨_, rfl⟩
  rw [← hS] at hrh
  have hSl : S < 18446744073709551616 := by omega
  have hS0 : 0 < S := by omega
  have hmul := fun (s : Nat) (hs : s < 18446744073709551616) (w' : World) => mul64_any s s w' hs hs
  have hcmp := fun w' => wcmp_any (S * S) a w'
  obtain ⟨L, hL⟩ : ∃ L, L = R % 4294967296 * 4294967296 := ⟨_, rfl⟩
  obtain ⟨G, hG⟩ : ∃ G, G = g * 4294967296 := ⟨_, rfl⟩
  have w1 : (R : Int) / 4294967296 = (hiW N : Int) := by unfold hiW; omega
  have w2 : IntKind.u64.wrap ((R : Int) * 4294967296) = (L : Int) := by rw [IntKind.wrap_u64]; omega
  have w3 : (loW a : Int) / 4294967296 = (mid : Int) := by omega
  have w4 : bits .or .u64 (L : Int) (mid : Int) = (loW N : Int) := by
    rw [or_add 32 L mid (by omega) (by omega) (by omega) (by omega)]
    have : L + mid = loW N := by unfold loW; omega
    rw [this]
  have w5 : IntKind.u64.wrap (2 * (g : Int)) = (A : Int) := by rw [IntKind.wrap_u64]; omega
  have w6 : IntKind.u64.wrap ((g : Int) * 4294967296) = (G : Int) := by rw [IntKind.wrap_u64]; omega
  have w7 : bits .or .u64 (G : Int) (q : Int) = (S : Int) := by rw [hS, ← hG]; exact or_add 32 G q (by omega) (by omega) (by omega) (by omega)
  have hb0 : ((hiW a : Int) == 0) = false := by rw [beq_eq_false_iff_ne]; omega
  have hr1 : S * S ≤ a → S = r := fun c => IsSqrt.uniq ⟨c, hrh.1⟩ hr
  have hr2 : a < S * S → S = r + 1 := fun c => by
    rcases hrh.2 with z | ⟨z1, z2⟩
    · omega
    · have : S - 1 = r := IsSqrt.uniq ⟨z2, by rw [show S - 1 + 1 = S by omega]; exact c⟩ hr
      omega
  have hrl : r < 18446744073709551616 := by
    rcases Nat.lt_or_ge r 18446744073709551616 with z | z
    · exact z
    · have : 18446744073709551616 * 18446744073709551616 ≤ r * r := Nat.mul_le_mul z z
      have := hr.1
      omega
  have heq := eq_words (r * r) a
  have hmr := hmul r hrl
  have h47 : ∀ w' : World, (binOp .eql 47 (.agg #[.int .u64 (hiW (r * r)), .int .u64 (loW (r * r))]) (.agg #[.int .u64 (hiW a), .int .u64 (loW a)])).run Oahg.prog w' = .ok (.bool (decide (r * r = a))) w' := fun w' => by rw [eq47, heq]
  have hmS := hmul S hSl
  have z0 : ((0 : Nat) : Int) = 0 := rfl
  rw [z0] at hshl
  obtain ⟨Z, hZ⟩ : ∃ Z, Z = cmpI (S * S) a := ⟨_, rfl⟩
  rw [← hZ] at hcmp
  have HS : Hid ((S * S ≤ a → S = r) ∧ (a < S * S → S = r + 1)) := ⟨hr1, hr2⟩
  have hb64 : bl (hiW a) ≤ 64 := by omega
  generalize 64 - bl (hiW a) = CZ at *
  clear hr1 hr2 hmul hhl hH2 hL2 hH1 hbl hg hg1 hg2 hR hR2 hRe hmid hrh hxx hN hA hNl hlw hL hG hS hr hrl ha h0 hS0 hb64 z0
  by_cases cS : S * S ≤ a
  · have eS : S = r := HS.out.1 cS
    have eZ : decide (0 < Z) = false := decide_eq_false (by rw [hZ, cmpI_pos_iff]; omega)
    have eZ2 : Z ≤ 0 := by have := cmpI_pos_iff (S * S) a; rw [← hZ] at this; omega
    subst eS
    clear hZ cS HS
    by_cases cq : lw ≤ 4294967295
    · have eq : lw = q := by omega
      subst eq
      have iq : (lw : Int) ≤ 4294967295 := by omega
      have iq2 : decide ((4294967295 : Int) < (lw : Int)) = false := decide_eq_false (by omega)
      clear cq hq
      go_enter Oahg.func57, Oahg.ntmps57
      go_wp2_with fail
      refine (hclz _).mono ?_
      rintro e w1 ⟨rfl, rfl⟩
      go_wp2_with fail
      refine (hshl _).mono ?_
      rintro e w2 ⟨rfl, hb2⟩
      have hB2 : Below w.heap.size w w2 := ((Below.refl _ _).alloc (Nat.le_refl _) _).trans (hb2.mono (by simp))
      have c0 : w2.cell? ⟨w.heap.size, 0, none⟩ = some (.int .u64 (hiW a)) := cell_later hb2 (by simp [go_sem])
      have c1 : w2.cell? ⟨w.heap.size, 1, none⟩ = some (.int .u64 (loW a)) := cell_later hb2 (by simp [go_sem])
      go_wp2_with fail
      refine (hroot _).mono ?_
      rintro e w3 ⟨rfl, rfl⟩
      have hb3 := (Below.refl w2.heap.size w2).alloc (Nat.le_refl _) (.cells #[.int .u64 (hiW a), .int .u64 (loW a)] 47)
      have hB3 := hB2.trans (hb3.mono hB2.size)
      have c0 := cell_later hb3 c0
      have c1 := cell_later hb3 c1
      go_wp2_with fail
      refine (hdiv _).mono ?_
      rintro e w4 ⟨rfl, hb4⟩
      have hB4 := hB3.trans (hb4.mono hB3.size)
      have c0 := cell_later hb4 c0
      have c1 := cell_later hb4 c1
      have n0 : w4.cell? ⟨w2.heap.size, 0, none⟩ = some (.int .u64 (hiW a)) := cell_later hb4 (by simp [go_sem])
      have n1 : w4.cell? ⟨w2.heap.size, 1, none⟩ = some (.int .u64 (loW a)) := cell_later hb4 (by simp [go_sem])
      clear hb2 hb3 hb4 hB2 hB3 hclz hshl hroot hdiv
      go_wp2
      have d0 : ∀ x : Ext w4, x.w.cell? ⟨w2.heap.size, 0, none⟩ = some (.int .u64 (hiW a)) := fun x => x.cell n0
      have d1 : ∀ x : Ext w4, x.w.cell? ⟨w2.heap.size, 1, none⟩ = some (.int .u64 (loW a)) := fun x => x.cell n1
      have hX : Nonempty (Ext w4) := Ext.some _
      refine wp_region_ext (by kernel_rfl) (by kernel_rfl) ?_
      repeat (go_big_quiet_step (first | (go_at_call 84; exact Calls.ext_of (hmS _)) | (go_at_call 96; exact Calls.ext_of (hcmp _))))
      refine wpQuiet_nil ?_
      rintro _ ⟨z, rfl⟩
      have hB5 : Below w.heap.size w z.w := hB4.trans (z.hb.mono hB4.size)
      have c0 := z.cell c0
      have c1 := z.cell c1
      generalize z.w = wx at *
      clear d0 d1 hX n0 n1
      go_wp2
      have e16 : Nonempty (Ext wx) := Ext.some _
      have f0 : ∀ x : Ext wx, x.w.cell? ⟨w.heap.size, 0, none⟩ = some (.int .u64 (hiW a)) := fun x => x.cell c0
      have f1 : ∀ x : Ext wx, x.w.cell? ⟨w.heap.size, 1, none⟩ = some (.int .u64 (loW a)) := fun x => x.cell c1
      refine wp_region_ext (by kernel_rfl) (by kernel_rfl) ?_
      repeat (go_big_quiet_step ((go_at_call 84; exact Calls.ext_of (hmr _))))
      refine wpQuiet_nil ?_
      rintro _ ⟨z2, rfl⟩
      have hB6 : Below w.heap.size w z2.w := hB5.trans (z2.hb.mono hB5.size)
      generalize z2.w = wy at *
      clear f0 f1 e16
      go_wp2
      go_ret2
      exact ⟨rfl, hB6⟩
    · have eq : q = 4294967295 := by omega
      subst eq
      have e65 : ((4294967295 : Nat) : Int) = 4294967295 := rfl
      rw [e65] at w7
      have iq : (4294967295 : Int) < (lw : Int) := by omega
      have iq2 : decide ((lw : Int) ≤ 4294967295) = false := decide_eq_false (by omega)
      clear cq hq
      go_enter Oahg.func57, Oahg.ntmps57
      go_wp2_with fail
      refine (hclz _).mono ?_
      rintro e w1 ⟨rfl, rfl⟩
      go_wp2_with fail
      refine (hshl _).mono ?_
      rintro e w2 ⟨rfl, hb2⟩
      have hB2 : Below w.heap.size w w2 := ((Below.refl _ _).alloc (Nat.le_refl _) _).trans (hb2.mono (by simp))
      have c0 : w2.cell? ⟨w.heap.size, 0, none⟩ = some (.int .u64 (hiW a)) := cell_later hb2 (by simp [go_sem])
      have c1 : w2.cell? ⟨w.heap.size, 1, none⟩ = some (.int .u64 (loW a)) := cell_later hb2 (by simp [go_sem])
      go_wp2_with fail
      refine (hroot _).mono ?_
      rintro e w3 ⟨rfl, rfl⟩
      have hb3 := (Below.refl w2.heap.size w2).alloc (Nat.le_refl _) (.cells #[.int .u64 (hiW a), .int .u64 (loW a)] 47)
      have hB3 := hB2.trans (hb3.mono hB2.size)
      have c0 := cell_later hb3 c0
      have c1 := cell_later hb3 c1
      go_wp2_with fail
      refine (hdiv _).mono ?_
      rintro e w4 ⟨rfl, hb4⟩
      have hB4 := hB3.trans (hb4.mono hB3.size)
      have c0 := cell_later hb4 c0
      have c1 := cell_later hb4 c1
      have n0 : w4.cell? ⟨w2.heap.size, 0, none⟩ = some (.int .u64 (hiW a)) := cell_later hb4 (by simp [go_sem])
      have n1 : w4.cell? ⟨w2.heap.size, 1, none⟩ = some (.int .u64 (loW a)) := cell_later hb4 (by simp [go_sem])
      clear hb2 hb3 hb4 hB2 hB3 hclz hshl hroot hdiv
      go_wp2
      have d0 : ∀ x : Ext w4, x.w.cell? ⟨w2.heap.size, 0, none⟩ = some (.int .u64 (hiW a)) := fun x => x.cell n0
      have d1 : ∀ x : Ext w4, x.w.cell? ⟨w2.heap.size, 1, none⟩ = some (.int .u64 (loW a)) := fun x => x.cell n1
      have hX : Nonempty (Ext w4) := Ext.some _
      refine wp_region_ext (by kernel_rfl) (by kernel_rfl) ?_
      repeat (go_big_quiet_step (first | (go_at_call 84; exact Calls.ext_of (hmS _)) | (go_at_call 96; exact Calls.ext_of (hcmp _))))
      refine wpQuiet_nil ?_
      rintro _ ⟨z, rfl⟩
      have hB5 : Below w.heap.size w z.w := hB4.trans (z.hb.mono hB4.size)
      have c0 := z.cell c0
      have c1 := z.cell c1
      generalize z.w = wx at *
      clear d0 d1 hX n0 n1
      go_wp2
      have e16 : Nonempty (Ext wx) := Ext.some _
      have f0 : ∀ x : Ext wx, x.w.cell? ⟨w.heap.size, 0, none⟩ = some (.int .u64 (hiW a)) := fun x => x.cell c0
      have f1 : ∀ x : Ext wx, x.w.cell? ⟨w.heap.size, 1, none⟩ = some (.int .u64 (loW a)) := fun x => x.cell c1
      refine wp_region_ext (by kernel_rfl) (by kernel_rfl) ?_
      repeat (go_big_quiet_step ((go_at_call 84; exact Calls.ext_of (hmr _))))
      refine wpQuiet_nil ?_
      rintro _ ⟨z2, rfl⟩
      have hB6 : Below w.heap.size w z2.w := hB5.trans (z2.hb.mono hB5.size)
      generalize z2.w = wy at *
      clear f0 f1 e16
      go_wp2
      go_ret2
      exact ⟨rfl, hB6⟩
  · have eS : S = r + 1 := HS.out.2 (by omega)
    have eZ : 0 < Z := by rw [hZ, cmpI_pos_iff]; omega
    have wS : IntKind.u64.wrap ((S : Int) - 1) = (r : Int) := by rw [IntKind.wrap_u64]; omega
    clear hZ cS HS eS
    by_cases cq : lw ≤ 4294967295
    · have eq : lw = q := by omega
      subst eq
      have iq : (lw : Int) ≤ 4294967295 := by omega
      have iq2 : decide ((4294967295 : Int) < (lw : Int)) = false := decide_eq_false (by omega)
      clear cq hq
      go_enter Oahg.func57, Oahg.ntmps57
      go_wp2_with fail
      refine (hclz _).mono ?_
      rintro e w1 ⟨rfl, rfl⟩
      go_wp2_with fail
      refine (hshl _).mono ?_
      rintro e w2 ⟨rfl, hb2⟩
      have hB2 : Below w.heap.size w w2 := ((Below.refl _ _).alloc (Nat.le_refl _) _).trans (hb2.mono (by simp))
      have c0 : w2.cell? ⟨w.heap.size, 0, none⟩ = some (.int .u64 (hiW a)) := cell_later hb2 (by simp [go_sem])
      have c1 : w2.cell? ⟨w.heap.size, 1, none⟩ = some (.int .u64 (loW a)) := cell_later hb2 (by simp [go_sem])
      go_wp2_with fail
      refine (hroot _).mono ?_
      rintro e w3 ⟨rfl, rfl⟩
      have hb3 := (Below.refl w2.heap.size w2).alloc (Nat.le_refl _) (.cells #[.int .u64 (hiW a), .int .u64 (loW a)] 47)
      have hB3 := hB2.trans (hb3.mono hB2.size)
      have c0 := cell_later hb3 c0
      have c1 := cell_later hb3 c1
      go_wp2_with fail
      refine (hdiv _).mono ?_
      rintro e w4 ⟨rfl, hb4⟩
      have hB4 := hB3.trans (hb4.mono hB3.size)
      have c0 := cell_later hb4 c0
      have c1 := cell_later hb4 c1
      have n0 : w4.cell? ⟨w2.heap.size, 0, none⟩ = some (.int .u64 (hiW a)) := cell_later hb4 (by simp [go_sem])
      have n1 : w4.cell? ⟨w2.heap.size, 1, none⟩ = some (.int .u64 (loW a)) := cell_later hb4 (by simp [go_sem])
      clear hb2 hb3 hb4 hB2 hB3 hclz hshl hroot hdiv
      go_wp2
      have d0 : ∀ x : Ext w4, x.w.cell? ⟨w2.heap.size, 0, none⟩ = some (.int .u64 (hiW a)) := fun x => x.cell n0
      have d1 : ∀ x : Ext w4, x.w.cell? ⟨w2.heap.size, 1, none⟩ = some (.int .u64 (loW a)) := fun x => x.cell n1
      have hX : Nonempty (Ext w4) := Ext.some _
      refine wp_region_ext (by kernel_rfl) (by kernel_rfl) ?_
      repeat (go_big_quiet_step (first | (go_at_call 84; exact Calls.ext_of (hmS _)) | (go_at_call 96; exact Calls.ext_of (hcmp _))))
      refine wpQuiet_nil ?_
      rintro _ ⟨z, rfl⟩
      have hB5 : Below w.heap.size w z.w := hB4.trans (z.hb.mono hB4.size)
      have c0 := z.cell c0
      have c1 := z.cell c1
      generalize z.w = wx at *
      clear d0 d1 hX n0 n1
      go_wp2
      have e16 : Nonempty (Ext wx) := Ext.some _
      have f0 : ∀ x : Ext wx, x.w.cell? ⟨w.heap.size, 0, none⟩ = some (.int .u64 (hiW a)) := fun x => x.cell c0
      have f1 : ∀ x : Ext wx, x.w.cell? ⟨w.heap.size, 1, none⟩ = some (.int .u64 (loW a)) := fun x => x.cell c1
      refine wp_region_ext (by kernel_rfl) (by kernel_rfl) ?_
      repeat (go_big_quiet_step ((go_at_call 84; exact Calls.ext_of (hmr _))))
      refine wpQuiet_nil ?_
      rintro _ ⟨z2, rfl⟩
      have hB6 : Below w.heap.size w z2.w := hB5.trans (z2.hb.mono hB5.size)
      generalize z2.w = wy at *
      clear f0 f1 e16
      go_wp2
      go_ret2
      exact ⟨rfl, hB6⟩
    · have eq : q = 4294967295 := by omega
      subst eq
      have e65 : ((4294967295 : Nat) : Int) = 4294967295 := rfl
      rw [e65] at w7
      have iq : (4294967295 : Int) < (lw : Int) := by omega
      have iq2 : decide ((lw : Int) ≤ 4294967295) = false := decide_eq_false (by omega)
      clear cq hq
      go_enter Oahg.func57, Oahg.ntmps57
      go_wp2_with fail
      refine (hclz _).mono ?_
      rintro e w1 ⟨rfl, rfl⟩
      go_wp2_with fail
      refine (hshl _).mono ?_
      rintro e w2 ⟨rfl, hb2⟩
      have hB2 : Below w.heap.size w w2 := ((Below.refl _ _).alloc (Nat.le_refl _) _).trans (hb2.mono (by simp))
      have c0 : w2.cell? ⟨w.heap.size, 0, none⟩ = some (.int .u64 (hiW a)) := cell_later hb2 (by simp [go_sem])
      have c1 : w2.cell? ⟨w.heap.size, 1, none⟩ = some (.int .u64 (loW a)) := cell_later hb2 (by simp [go_sem])
      go_wp2_with fail
      refine (hroot _).mono ?_
      rintro e w3 ⟨rfl, rfl⟩
      have hb3 := (Below.refl w2.heap.size w2).alloc (Nat.le_refl _) (.cells #[.int .u64 (hiW a), .int .u64 (loW a)] 47)
      have hB3 := hB2.trans (hb3.mono hB2.size)
      have c0 := cell_later hb3 c0
      have c1 := cell_later hb3 c1
      go_wp2_with fail
      refine (hdiv _).mono ?_
      rintro e w4 ⟨rfl, hb4⟩
      have hB4 := hB3.trans (hb4.mono hB3.size)
      have c0 := cell_later hb4 c0
      have c1 := cell_later hb4 c1
      have n0 : w4.cell? ⟨w2.heap.size, 0, none⟩ = some (.int .u64 (hiW a)) := cell_later hb4 (by simp [go_sem])
      have n1 : w4.cell? ⟨w2.heap.size, 1, none⟩ = some (.int .u64 (loW a)) := cell_later hb4 (by simp [go_sem])
      clear hb2 hb3 hb4 hB2 hB3 hclz hshl hroot hdiv
      go_wp2
      have d0 : ∀ x : Ext w4, x.w.cell? ⟨w2.heap.size, 0, none⟩ = some (.int .u64 (hiW a)) := fun x => x.cell n0
      have d1 : ∀ x : Ext w4, x.w.cell? ⟨w2.heap.size, 1, none⟩ = some (.int .u64 (loW a)) := fun x => x.cell n1
      have hX : Nonempty (Ext w4) := Ext.some _
      refine wp_region_ext (by kernel_rfl) (by kernel_rfl) ?_
      repeat (go_big_quiet_step (first | (go_at_call 84; exact Calls.ext_of (hmS _)) | (go_at_call 96; exact Calls.ext_of (hcmp _))))
      refine wpQuiet_nil ?_
      rintro _ ⟨z, rfl⟩
      have hB5 : Below w.heap.size w z.w := hB4.trans (z.hb.mono hB4.size)
      have c0 := z.cell c0
      have c1 := z.cell c1
      generalize z.w = wx at *
      clear d0 d1 hX n0 n1
      go_wp2
      have e16 : Nonempty (Ext wx) := Ext.some _
      have f0 : ∀ x : Ext wx, x.w.cell? ⟨w.heap.size, 0, none⟩ = some (.int .u64 (hiW a)) := fun x => x.cell c0
      have f1 : ∀ x : Ext wx, x.w.cell? ⟨w.heap.size, 1, none⟩ = some (.int .u64 (loW a)) := fun x => x.cell c1
      refine wp_region_ext (by kernel_rfl) (by kernel_rfl) ?_
      repeat (go_big_quiet_step ((go_at_call 84; exact Calls.ext_of (hmr _))))
      refine wpQuiet_nil ?_
      rintro _ ⟨z2, rfl⟩
      have hB6 : Below w.heap.size w z2.w := hB5.trans (z2.hb.mono hB5.size)
      generalize z2.w = wy at *
      clear f0 f1 e16
      go_wp2
      go_ret2
      exact ⟨rfl, hB6⟩

end Go.Proofs.Ygcoah
