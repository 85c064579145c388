/-
  THE WALKS OF PACKAGE soft: addFinite.
-/
import Derived.Test.YgcoahSum
namespace Go.Proofs.Ygcoah
open Go.RowKit

/-- What addFinite answers. -/
def addR (E M mode : Nat) (p q : Pt) : Nat :=
  if p.cls = 0 then
    if q.cls = 0 then sgnP E M ((p.neg && q.neg) || ((p.neg != q.neg) && decide (mode = 4)))
    else softR E M mode q.neg q.exp q.man
  else if q.cls = 0 then softR E M mode p.neg p.exp p.man
  else sumR E M mode p.neg (p.exp - 126 + (M : Int)) (p.man * 2 ^ (126 - M)) q.neg (q.exp - 126 + (M : Int)) (q.man * 2 ^ (126 - M))

/-- The value of a Parts. -/
def ptV (p : Pt) : Value := .agg #[.bool p.neg, .int .i8 p.cls, .int .i16 p.exp, .int .u64 p.man]

set_option maxHeartbeats 1600000 in
theorem addF_zz (E M mode : Nat) (na nb : Bool) (ea eb : Int) (ma mb : Int) (w : World) (h : FOk E M) :
    Calls Oahg.prog 81 #[.agg #[.int .u8 E, .int .u8 M], .int .u8 mode, .agg #[.bool na, .int .i8 0, .int .i16 ea, .int .u64 ma], .agg #[.bool nb, .int .i8 0, .int .i16 eb, .int .u64 mb]] w fun r w' =>
      (∃ fl : Int, r = .returned (.tuple #[.int .u64 (sgnP E M ((na && nb) || ((na != nb) && decide (mode = 4)))), .int .u8 fl])) ∧ Below w.heap.size w w' := by
  have hz := fun b w' => szero_any E M b w' h
  have hz1 := hz true
  have hz0 := hz false
  clear hz
  cases na
  · cases nb
    · simp only [Bool.and_self, bne_self_eq_false, Bool.false_and, Bool.or_self]
      go_enter Oahg.func81, Oahg.ntmps81
      go_wp2_with fail
      refine (hz0 _).mono ?_
      rintro e w1 ⟨rfl, hb⟩
      have hB : Below w.heap.size w w1 := ((((Below.refl _ _).alloc (Nat.le_refl _) _).alloc (by simp) _).alloc (by simp; omega) _).trans (hb.mono (by simp; omega))
      go_wp2
      go_ret2
      exact ⟨⟨0, rfl⟩, hB⟩
    · by_cases c : mode = 4
      · subst c
        have e4 : ((4 : Nat) : Int) = 4 := rfl
        rw [e4]
        simp only [Bool.false_and, Bool.false_bne, decide_true, Bool.and_self, Bool.or_true]
        go_enter Oahg.func81, Oahg.ntmps81
        go_wp2_with fail
        refine (hz1 _).mono ?_
        rintro e w1 ⟨rfl, hb⟩
        have hB : Below w.heap.size w w1 := ((((Below.refl _ _).alloc (Nat.le_refl _) _).alloc (by simp) _).alloc (by simp; omega) _).trans (hb.mono (by simp; omega))
        go_wp2
        go_ret2
        exact ⟨⟨0, rfl⟩, hB⟩
      · have b4 : ((mode : Int) == 4) = false := by rw [beq_eq_false_iff_ne]; omega
        rw [decide_eq_false c]
        simp only [Bool.false_and, Bool.and_false, Bool.or_self]
        go_enter Oahg.func81, Oahg.ntmps81
        go_wp2_with fail
        refine (hz0 _).mono ?_
        rintro e w1 ⟨rfl, hb⟩
        have hB : Below w.heap.size w w1 := ((((Below.refl _ _).alloc (Nat.le_refl _) _).alloc (by simp) _).alloc (by simp; omega) _).trans (hb.mono (by simp; omega))
        go_wp2
        go_ret2
        exact ⟨⟨0, rfl⟩, hB⟩
  · cases nb
    · by_cases c : mode = 4
      · subst c
        have e4 : ((4 : Nat) : Int) = 4 := rfl
        rw [e4]
        simp only [Bool.and_false, Bool.bne_false, decide_true, Bool.and_self, Bool.or_true]
        go_enter Oahg.func81, Oahg.ntmps81
        go_wp2_with fail
        refine (hz1 _).mono ?_
        rintro e w1 ⟨rfl, hb⟩
        have hB : Below w.heap.size w w1 := ((((Below.refl _ _).alloc (Nat.le_refl _) _).alloc (by simp) _).alloc (by simp; omega) _).trans (hb.mono (by simp; omega))
        go_wp2
        go_ret2
        exact ⟨⟨0, rfl⟩, hB⟩
      · have b4 : ((mode : Int) == 4) = false := by rw [beq_eq_false_iff_ne]; omega
        rw [decide_eq_false c]
        simp only [Bool.and_false, Bool.or_self]
        go_enter Oahg.func81, Oahg.ntmps81
        go_wp2_with fail
        refine (hz0 _).mono ?_
        rintro e w1 ⟨rfl, hb⟩
        have hB : Below w.heap.size w w1 := ((((Below.refl _ _).alloc (Nat.le_refl _) _).alloc (by simp) _).alloc (by simp; omega) _).trans (hb.mono (by simp; omega))
        go_wp2
        go_ret2
        exact ⟨⟨0, rfl⟩, hB⟩
    · simp only [Bool.and_self, Bool.true_or]
      go_enter Oahg.func81, Oahg.ntmps81
      go_wp2_with fail
      refine (hz1 _).mono ?_
      rintro e w1 ⟨rfl, hb⟩
      have hB : Below w.heap.size w w1 := ((((Below.refl _ _).alloc (Nat.le_refl _) _).alloc (by simp) _).alloc (by simp; omega) _).trans (hb.mono (by simp; omega))
      go_wp2
      go_ret2
      exact ⟨⟨0, rfl⟩, hB⟩

set_option maxHeartbeats 1600000 in
theorem addF_zn (E M mode cb mb : Nat) (na nb : Bool) (ea eb : Int) (ma : Int) (w : World) (h : FOk E M) (hcb : cb ≠ 0) (h0 : 0 < mb) (hm : mb < 18446744073709551616) (h1 : -5000 ≤ eb) (h2 : eb ≤ 5000) :
    Calls Oahg.prog 81 #[.agg #[.int .u8 E, .int .u8 M], .int .u8 mode, .agg #[.bool na, .int .i8 0, .int .i16 ea, .int .u64 ma], .agg #[.bool nb, .int .i8 cb, .int .i16 eb, .int .u64 mb]] w fun r w' =>
      (∃ fl : Int, r = .returned (.tuple #[.int .u64 (softR E M mode nb eb mb), .int .u8 fl])) ∧ Below w.heap.size w w' := by
  have hr := fun w' => roundPack_any E M mode nb eb mb w' h h0 hm h1 h2
  have bc : ((cb : Int) == 0) = false := by rw [beq_eq_false_iff_ne]; omega
  generalize softR E M mode nb eb mb = V at *
  go_enter Oahg.func81, Oahg.ntmps81
  go_wp2_with fail
  refine (hr _).mono ?_
  rintro e w1 ⟨⟨fl, rfl⟩, hb⟩
  have hB : Below w.heap.size w w1 := ((((Below.refl _ _).alloc (Nat.le_refl _) _).alloc (by simp) _).alloc (by simp; omega) _).trans (hb.mono (by simp; omega))
  go_wp2
  go_ret2
  exact ⟨⟨fl, rfl⟩, hB⟩

set_option maxHeartbeats 1600000 in
theorem addF_nz (E M mode ca ma : Nat) (na nb : Bool) (ea eb : Int) (mb : Int) (w : World) (h : FOk E M) (hca : ca ≠ 0) (h0 : 0 < ma) (hm : ma < 18446744073709551616) (h1 : -5000 ≤ ea) (h2 : ea ≤ 5000) :
    Calls Oahg.prog 81 #[.agg #[.int .u8 E, .int .u8 M], .int .u8 mode, .agg #[.bool na, .int .i8 ca, .int .i16 ea, .int .u64 ma], .agg #[.bool nb, .int .i8 0, .int .i16 eb, .int .u64 mb]] w fun r w' =>
      (∃ fl : Int, r = .returned (.tuple #[.int .u64 (softR E M mode na ea ma), .int .u8 fl])) ∧ Below w.heap.size w w' := by
  have hr := fun w' => roundPack_any E M mode na ea ma w' h h0 hm h1 h2
  have bc : ((ca : Int) == 0) = false := by rw [beq_eq_false_iff_ne]; omega
  generalize softR E M mode na ea ma = V at *
  go_enter Oahg.func81, Oahg.ntmps81
  go_wp2_with fail
  refine (hr _).mono ?_
  rintro e w1 ⟨⟨fl, rfl⟩, hb⟩
  have hB : Below w.heap.size w w1 := ((((Below.refl _ _).alloc (Nat.le_refl _) _).alloc (by simp) _).alloc (by simp; omega) _).trans (hb.mono (by simp; omega))
  go_wp2
  go_ret2
  exact ⟨⟨fl, rfl⟩, hB⟩
end Go.Proofs.Ygcoah
