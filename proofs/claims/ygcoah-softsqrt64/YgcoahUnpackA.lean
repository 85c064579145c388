/-
  THE WALKS OF PACKAGE ieee, 5: Unpack whole; Signals, Binary64; heard of soft and of exact.
-/
import Derived.Test.YgcoahUnpackN
namespace Go.Proofs.Ygcoah
open Go.RowKit
attribute [local go_sem ↓] Go.wp_at_zero Go.wp_at_succ

theorem unpack_any (E M x : Nat) (w : World) (h : FOk E M) (hx : x < 18446744073709551616) :
    Calls Oahg.prog 50 #[.agg #[.int .u8 E, .int .u8 M], .int .u64 x] w fun r w' =>
      r = .returned (.agg #[.bool (unp E M x).neg, .int .i8 (unp E M x).cls, .int .i16 (unp E M x).exp, .int .u64 (unp E M x).man]) ∧ Below w.heap.size w w' := by
  by_cases c1 : expOf E M x = 2 ^ E - 1
  · exact unpack_spec E M x w h hx (Or.inl c1)
  · by_cases c3 : expOf E M x = 0
    · by_cases c2 : manOf M x = 0
      · exact unpack_spec E M x w h hx (Or.inr ⟨c3, c2⟩)
      · have e : unp E M x = ⟨negOf E M x, 1, 1 - (biasP E : Int) - (M : Int) - ((M + 1 - bl (manOf M x) : Nat) : Int), manOf M x * 2 ^ (M + 1 - bl (manOf M x))⟩ := by
          unfold unp; rw [if_neg c1, if_pos c3, if_neg c2]
        rw [e]
        exact unpack_subn E M x w h hx c1 c3 c2
    · have e : unp E M x = ⟨negOf E M x, 2, (expOf E M x : Int) - (biasP E : Int) - (M : Int), manOf M x + 2 ^ M⟩ := by
        unfold unp; rw [if_neg c1, if_neg c3]
      rw [e]
      exact unpack_normal E M x w h hx c1 c3

/-- What the parts of a pattern are: a class; the values of a finite one. -/
theorem unp_facts (E M x : Nat) (h : FOk E M) : (unp E M x).cls ≤ 4 ∧ -1200 ≤ (unp E M x).exp ∧ (unp E M x).exp ≤ 1100 ∧ (unp E M x).man < 9007199254740992 := by
  have hE := h.powE
  have hE1 := h.powE1
  have hM := h.powM
  have hF := h
  unfold FOk at hF
  have hmm : manOf M x < 2 ^ M := Nat.mod_lt _ (pow_pos2 M)
  have hee : expOf E M x < 2 ^ E := Nat.mod_lt _ (pow_pos2 E)
  have hbias : biasP E ≤ 1023 := by unfold biasP; omega
  have hb1 : biasP E + 1 = 2 ^ (E - 1) := by unfold biasP; omega
  have hE2 : 2 ^ E = 2 * 2 ^ (E - 1) := by rw [← Nat.pow_succ']; congr 1; omega
  unfold unp
  split
  · split <;> simp
  · split
    · split
      · simp
      · rename_i c2
        have hb : bl (manOf M x) ≤ M := (bl_le_iff _ _).2 hmm
        have h2 := (bl_bounds (manOf M x) (by omega)).2
        have hm : manOf M x * 2 ^ (M + 1 - bl (manOf M x)) < 2 ^ bl (manOf M x) * 2 ^ (M + 1 - bl (manOf M x)) := Nat.mul_lt_mul_of_pos_right h2 (pow_pos2 _)
        rw [← Nat.pow_add, show bl (manOf M x) + (M + 1 - bl (manOf M x)) = M + 1 by omega, Nat.pow_succ] at hm
        refine ⟨by simp, ?_, ?_, ?_⟩
        · show -1200 ≤ 1 - (biasP E : Int) - (M : Int) - ((M + 1 - bl (manOf M x) : Nat) : Int)
          omega
        · show 1 - (biasP E : Int) - (M : Int) - ((M + 1 - bl (manOf M x) : Nat) : Int) ≤ 1100
          omega
        · show manOf M x * 2 ^ (M + 1 - bl (manOf M x)) < 9007199254740992
          omega
    · refine ⟨by simp, ?_, ?_, ?_⟩
      · show -1200 ≤ (expOf E M x : Int) - (biasP E : Int) - (M : Int)
        omega
      · show (expOf E M x : Int) - (biasP E : Int) - (M : Int) ≤ 1100
        omega
      · show manOf M x + 2 ^ M < 9007199254740992
        omega

/-- A finite value that is not zero: its significand has M + 1 bits. -/
theorem unp_man (E M x : Nat) (h1 : (unp E M x).cls = 1 ∨ (unp E M x).cls = 2) : 2 ^ M ≤ (unp E M x).man ∧ (unp E M x).man < 2 ^ (M + 1) := by
  have hmm : manOf M x < 2 ^ M := Nat.mod_lt _ (pow_pos2 M)
  have hp : 2 ^ (M + 1) = 2 * 2 ^ M := by rw [Nat.pow_succ]; omega
  revert h1
  unfold unp
  split
  · split <;> simp
  · split
    · split
      · simp
      · rename_i c2
        have hb : bl (manOf M x) ≤ M := (bl_le_iff _ _).2 hmm
        obtain ⟨h1, h2⟩ := (bl_bounds (manOf M x) (by omega))
        have hb0 := bl_pos (manOf M x) (by omega)
        have hm : manOf M x * 2 ^ (M + 1 - bl (manOf M x)) < 2 ^ bl (manOf M x) * 2 ^ (M + 1 - bl (manOf M x)) := Nat.mul_lt_mul_of_pos_right h2 (pow_pos2 _)
        have hl : 2 ^ (bl (manOf M x) - 1) * 2 ^ (M + 1 - bl (manOf M x)) ≤ manOf M x * 2 ^ (M + 1 - bl (manOf M x)) := Nat.mul_le_mul_right _ h1
        rw [← Nat.pow_add, show bl (manOf M x) + (M + 1 - bl (manOf M x)) = M + 1 by omega] at hm
        rw [← Nat.pow_add, show bl (manOf M x) - 1 + (M + 1 - bl (manOf M x)) = M by omega] at hl
        intro _
        exact ⟨hl, hm⟩
    · intro _
      show 2 ^ M ≤ manOf M x + 2 ^ M ∧ manOf M x + 2 ^ M < 2 ^ (M + 1)
      omega

theorem field_cls (b : Bool) (c e m : Int) : ∀ w : World, (Instr.field 63 (.agg #[.bool b, .int .i8 c, .int .i16 e, .int .u64 m]) 1).run Oahg.prog w = .ok (.int .i8 c) w := fun _ => by kernel_rfl

/-- A NaN that signals. -/
def sigP (E M x : Nat) : Bool := decide ((unp E M x).cls = 4) && decide (x / 2 ^ (M - 1) % 2 = 0)
/-- What heard answers. -/
def hrdP (E M x y : Nat) : Int := if sigP E M x || sigP E M y then 1 else 0

theorem and_one (x k : Nat) (hx : x < 18446744073709551616) : bits .and .u64 ((x : Int) / 2 ^ k) 1 = ((x / 2 ^ k % 2 : Nat) : Int) := by
  have h3 : x / 2 ^ k < 18446744073709551616 := Nat.lt_of_le_of_lt (Nat.div_le_self _ _) hx
  have h := u64_and_nat (x / 2 ^ k) 1 h3 (by decide)
  have e : x / 2 ^ k &&& 1 = x / 2 ^ k % 2 := Nat.and_one_is_mod _
  rw [e] at h
  rw [pow_cast, ← Int.natCast_ediv]
  exact h

set_option maxHeartbeats 800000 in
set_option maxRecDepth 100000 in
theorem signals_any (E M x : Nat) (w : World) (h : FOk E M) (hx : x < 18446744073709551616) :
    Calls Oahg.prog 91 #[.agg #[.int .u8 E, .int .u8 M], .int .u64 x] w fun r w' => r = .returned (.bool (sigP E M x)) ∧ Below w.heap.size w w' := by
  obtain ⟨h1, h2, h3, h4⟩ := h.ints
  have hu := fun w' => unpack_any E M x w' h hx
  have hV : Hid (sigP E M x = (decide ((unp E M x).cls = 4) && decide (x / 2 ^ (M - 1) % 2 = 0))) := rfl
  generalize (unp E M x).neg = ng at *
  generalize (unp E M x).cls = cl at *
  generalize (unp E M x).exp = ex at *
  generalize (unp E M x).man = mn at *
  have wr : IntKind.u8.wrap ((M : Int) - 1) = ((M - 1 : Nat) : Int) := by rw [IntKind.wrap_u8]; omega
  have hm : min (M - 1) 64 = M - 1 := by omega
  have ha := and_one x (M - 1) hx
  have hq : x / 2 ^ (M - 1) % 2 < 2 := Nat.mod_lt _ (by decide)
  generalize x / 2 ^ (M - 1) % 2 = q at *
  by_cases c : cl = 4
  · subst c
    have ec : ((4 : Nat) : Int) = 4 := rfl
    rw [ec] at hu
    have hfd := field_cls ng 4 ex mn
    by_cases c2 : q = 0
    · have HV : Hid (sigP E M x = true) := by unfold Hid; rw [hV.out, c2]; rfl
      subst c2
      clear hV
      go_enter Oahg.func91, Oahg.ntmps91
      go_wp2_with fail
      refine (hu _).mono ?_
      rintro e w1 ⟨rfl, hb⟩
      have s1 : w1.cell? ⟨w.heap.size, 1, none⟩ = some (.int .u8 M) := cell_later hb (by simp [go_sem])
      have hB : Below w.heap.size w w1 := ((Below.refl _ _).alloc (Nat.le_refl _) _).trans (hb.mono (by simp))
      go_wp2
      go_ret
      exact ⟨by rw [HV.out]; rfl, hB⟩
    · have HV : Hid (sigP E M x = false) := by unfold Hid; rw [hV.out]; simp [c2]
      have b2 : ((q : Int) == 0) = false := by rw [beq_eq_false_iff_ne]; omega
      clear hV
      go_enter Oahg.func91, Oahg.ntmps91
      go_wp2_with fail
      refine (hu _).mono ?_
      rintro e w1 ⟨rfl, hb⟩
      have s1 : w1.cell? ⟨w.heap.size, 1, none⟩ = some (.int .u8 M) := cell_later hb (by simp [go_sem])
      have hB : Below w.heap.size w w1 := ((Below.refl _ _).alloc (Nat.le_refl _) _).trans (hb.mono (by simp))
      go_wp2
      go_ret
      exact ⟨by rw [HV.out]; rfl, hB⟩
  · have b : ((cl : Int) == 4) = false := by rw [beq_eq_false_iff_ne]; omega
    have HV : Hid (sigP E M x = false) := by unfold Hid; rw [hV.out]; simp [c]
    have hfd := field_cls ng cl ex mn
    clear hV
    go_enter Oahg.func91, Oahg.ntmps91
    go_wp2_with fail
    refine (hu _).mono ?_
    rintro e w1 ⟨rfl, hb⟩
    have hB : Below w.heap.size w w1 := ((Below.refl _ _).alloc (Nat.le_refl _) _).trans (hb.mono (by simp))
    go_wp2
    go_ret
    exact ⟨by rw [HV.out]; rfl, hB⟩

set_option maxHeartbeats 800000 in
theorem sheard_any (E M x y : Nat) (w : World) (h : FOk E M) (hx : x < 18446744073709551616) (hy : y < 18446744073709551616) :
    Calls Oahg.prog 53 #[.agg #[.int .u8 E, .int .u8 M], .int .u64 x, .int .u64 y] w fun r w' => r = .returned (.int .u8 (hrdP E M x y)) ∧ Below w.heap.size w w' := by
  have h1 := fun w' => signals_any E M x w' h hx
  have h2 := fun w' => signals_any E M y w' h hy
  have hV : Hid (hrdP E M x y = if sigP E M x || sigP E M y then 1 else 0) := rfl
  generalize sigP E M x = b1 at *
  generalize sigP E M y = b2 at *
  cases b1
  · cases b2
    · have HV : Hid (hrdP E M x y = 0) := hV.out
      clear hV
      go_enter Oahg.func53, Oahg.ntmps53
      go_wp2_with fail
      refine (h1 _).mono ?_
      rintro e w1 ⟨rfl, hb⟩
      have s0 : w1.cell? ⟨w.heap.size, 0, none⟩ = some (.int .u8 E) := cell_later hb (by simp [go_sem])
      have s1 : w1.cell? ⟨w.heap.size, 1, none⟩ = some (.int .u8 M) := cell_later hb (by simp [go_sem])
      have hB : Below w.heap.size w w1 := ((Below.refl _ _).alloc (Nat.le_refl _) _).trans (hb.mono (by simp))
      go_wp2_with fail
      refine (h2 _).mono ?_
      rintro e w2 ⟨rfl, hb2⟩
      have hB2 := hB.trans (hb2.mono hB.size)
      go_wp2
      go_ret
      exact ⟨by rw [HV.out]; rfl, hB2⟩
    · have HV : Hid (hrdP E M x y = 1) := hV.out
      clear hV
      go_enter Oahg.func53, Oahg.ntmps53
      go_wp2_with fail
      refine (h1 _).mono ?_
      rintro e w1 ⟨rfl, hb⟩
      have s0 : w1.cell? ⟨w.heap.size, 0, none⟩ = some (.int .u8 E) := cell_later hb (by simp [go_sem])
      have s1 : w1.cell? ⟨w.heap.size, 1, none⟩ = some (.int .u8 M) := cell_later hb (by simp [go_sem])
      have hB : Below w.heap.size w w1 := ((Below.refl _ _).alloc (Nat.le_refl _) _).trans (hb.mono (by simp))
      go_wp2_with fail
      refine (h2 _).mono ?_
      rintro e w2 ⟨rfl, hb2⟩
      have hB2 := hB.trans (hb2.mono hB.size)
      go_wp2
      go_ret
      exact ⟨by rw [HV.out]; rfl, hB2⟩
  · have HV : Hid (hrdP E M x y = 1) := by unfold Hid; rw [hV.out]; cases b2 <;> rfl
    clear hV
    go_enter Oahg.func53, Oahg.ntmps53
    go_wp2_with fail
    refine (h1 _).mono ?_
    rintro e w1 ⟨rfl, hb⟩
    have hB : Below w.heap.size w w1 := ((Below.refl _ _).alloc (Nat.le_refl _) _).trans (hb.mono (by simp))
    go_wp2
    go_ret
    exact ⟨by rw [HV.out]; rfl, hB⟩

set_option maxHeartbeats 800000 in
theorem eheard_any (E M x y : Nat) (w : World) (h : FOk E M) (hx : x < 18446744073709551616) (hy : y < 18446744073709551616) :
    Calls Oahg.prog 60 #[.agg #[.int .u8 E, .int .u8 M], .int .u64 x, .int .u64 y] w fun r w' => r = .returned (.int .u8 (hrdP E M x y)) ∧ Below w.heap.size w w' := by
  have h1 := fun w' => signals_any E M x w' h hx
  have h2 := fun w' => signals_any E M y w' h hy
  have hV : Hid (hrdP E M x y = if sigP E M x || sigP E M y then 1 else 0) := rfl
  generalize sigP E M x = b1 at *
  generalize sigP E M y = b2 at *
  cases b1
  · cases b2
    · have HV : Hid (hrdP E M x y = 0) := hV.out
      clear hV
      go_enter Oahg.func60, Oahg.ntmps60
      go_wp2_with fail
      refine (h1 _).mono ?_
      rintro e w1 ⟨rfl, hb⟩
      have s0 : w1.cell? ⟨w.heap.size, 0, none⟩ = some (.int .u8 E) := cell_later hb (by simp [go_sem])
      have s1 : w1.cell? ⟨w.heap.size, 1, none⟩ = some (.int .u8 M) := cell_later hb (by simp [go_sem])
      have hB : Below w.heap.size w w1 := ((Below.refl _ _).alloc (Nat.le_refl _) _).trans (hb.mono (by simp))
      go_wp2_with fail
      refine (h2 _).mono ?_
      rintro e w2 ⟨rfl, hb2⟩
      have hB2 := hB.trans (hb2.mono hB.size)
      go_wp2
      go_ret
      exact ⟨by rw [HV.out]; rfl, hB2⟩
    · have HV : Hid (hrdP E M x y = 1) := hV.out
      clear hV
      go_enter Oahg.func60, Oahg.ntmps60
      go_wp2_with fail
      refine (h1 _).mono ?_
      rintro e w1 ⟨rfl, hb⟩
      have s0 : w1.cell? ⟨w.heap.size, 0, none⟩ = some (.int .u8 E) := cell_later hb (by simp [go_sem])
      have s1 : w1.cell? ⟨w.heap.size, 1, none⟩ = some (.int .u8 M) := cell_later hb (by simp [go_sem])
      have hB : Below w.heap.size w w1 := ((Below.refl _ _).alloc (Nat.le_refl _) _).trans (hb.mono (by simp))
      go_wp2_with fail
      refine (h2 _).mono ?_
      rintro e w2 ⟨rfl, hb2⟩
      have hB2 := hB.trans (hb2.mono hB.size)
      go_wp2
      go_ret
      exact ⟨by rw [HV.out]; rfl, hB2⟩
  · have HV : Hid (hrdP E M x y = 1) := by unfold Hid; rw [hV.out]; cases b2 <;> rfl
    clear hV
    go_enter Oahg.func60, Oahg.ntmps60
    go_wp2_with fail
    refine (h1 _).mono ?_
    rintro e w1 ⟨rfl, hb⟩
    have hB : Below w.heap.size w w1 := ((Below.refl _ _).alloc (Nat.le_refl _) _).trans (hb.mono (by simp))
    go_wp2
    go_ret
    exact ⟨by rw [HV.out]; rfl, hB⟩

theorem binary64_any (w : World) :
    Calls Oahg.prog 14 #[] w fun r w' => r = .returned (.agg #[.int .u8 11, .int .u8 52]) ∧ Below w.heap.size w w' := by
  go_enter Oahg.func14, Oahg.ntmps14
  go_wp2
  refine bodyPost_ret (v := .agg #[.int .u8 11, .int .u8 52]) (by simp [results, Oahg.results14, go_sem]) rfl ⟨rfl, ?_⟩
  exact (Below.refl _ _).alloc (Nat.le_refl _) _
end Go.Proofs.Ygcoah
