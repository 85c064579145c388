/-
  THE WALKS OF PACKAGE ieee, 3: Unpack.
-/
import Derived.Test.YgcoahSubn
namespace Go.Proofs.Ygcoah
open Go.RowKit
attribute [local go_sem ↓] Go.wp_at_zero Go.wp_at_succ

theorem neg_fact (E M x : Nat) (h : FOk E M) (hx : x < 18446744073709551616) : (bits .and .u64 (x : Int) (sbP E M : Int) != 0) = negOf E M x := by
  have hp := h.pow
  rw [u64_and_nat _ _ hx (by unfold sbP; omega)]
  unfold sbP negOf
  rw [nat_bit]
  have h2 : x / 2 ^ (E + M) % 2 = 0 ∨ x / 2 ^ (E + M) % 2 = 1 := by omega
  have hpos := pow_pos2 (E + M)
  rcases h2 with h2 | h2
  · rw [h2]; simp
  · rw [h2]
    have h3 : (2 : Int) ^ (E + M) ≠ 0 := by rw [pow_cast]; generalize 2 ^ (E + M) = p at *; omega
    simpa using h3

theorem exp_fact (E M x : Nat) (h : FOk E M) (hx : x < 18446744073709551616) : bits .and .u64 ((x : Int) / 2 ^ M) ((2 : Int) ^ E - 1) = (expOf E M x : Int) := by
  have h1 := h.powE
  have e : (2 : Int) ^ E - 1 = ((2 ^ E - 1 : Nat) : Int) := by rw [pow_cast]; omega
  have h3 : x / 2 ^ M < 18446744073709551616 := Nat.lt_of_le_of_lt (Nat.div_le_self _ _) hx
  rw [e, pow_cast, ← Int.natCast_ediv, u64_and_nat _ _ h3 (by omega), Nat.and_two_pow_sub_one_eq_mod]
  rfl

theorem man_fact (E M x : Nat) (h : FOk E M) (hx : x < 18446744073709551616) : bits .and .u64 (x : Int) ((2 : Int) ^ M - 1) = (manOf M x : Int) := by
  have h1 := h.powM
  have e : (2 : Int) ^ M - 1 = ((2 ^ M - 1 : Nat) : Int) := by rw [pow_cast]; omega
  rw [e, u64_and_nat _ _ hx (by omega), Nat.and_two_pow_sub_one_eq_mod]
  rfl

set_option maxHeartbeats 1000000 in
theorem unpack_spec (E M x : Nat) (w : World) (h : FOk E M) (hx : x < 18446744073709551616) (hsp : expOf E M x = 2 ^ E - 1 ∨ expOf E M x = 0 ∧ manOf M x = 0) :
    Calls Oahg.prog 50 #[.agg #[.int .u8 E, .int .u8 M], .int .u64 x] w fun r w' =>
      r = .returned (.agg #[.bool (unp E M x).neg, .int .i8 (unp E M x).cls, .int .i16 (unp E M x).exp, .int .u64 (unp E M x).man]) ∧ Below w.heap.size w w' := by
  obtain ⟨h1, h2, h3, h4⟩ := h.ints
  obtain ⟨p1, p2⟩ := h.ipowE
  obtain ⟨p3, p4⟩ := h.ipowM
  have fN := neg_fact E M x h hx
  have fE := exp_fact E M x h hx
  have fM := man_fact E M x h hx
  have hE := h.powE
  have hmm : manOf M x < 2 ^ M := Nat.mod_lt _ (pow_pos2 M)
  have hee : expOf E M x < 2 ^ E := Nat.mod_lt _ (pow_pos2 E)
  have HU : Hid (unp E M x = if expOf E M x = 2 ^ E - 1 then
    if manOf M x = 0 then ⟨negOf E M x, 3, 0, 0⟩ else ⟨false, 4, 0, 0⟩
  else if expOf E M x = 0 then
    if manOf M x = 0 then ⟨negOf E M x, 0, 0, 0⟩
    else ⟨negOf E M x, 1, 1 - (biasP E : Int) - (M : Int) - ((M + 1 - bl (manOf M x) : Nat) : Int), manOf M x * 2 ^ (M + 1 - bl (manOf M x))⟩
  else ⟨negOf E M x, 2, (expOf E M x : Int) - (biasP E : Int) - (M : Int), manOf M x + 2 ^ M⟩) := rfl
  have iT : (2 : Int) ^ E - 1 = ((2 ^ E - 1 : Nat) : Int) := by rw [pow_cast]; omega
  have HT : Hid ((2 : Int) ^ E - 1 = ((2 ^ E - 1 : Nat) : Int)) := iT
  generalize negOf E M x = neg at *
  generalize expOf E M x = ex at *
  generalize manOf M x = mn at *
  have HMM : Hid (mn < 2 ^ M) := hmm
  clear hmm
  by_cases c1 : ex = 2 ^ E - 1
  · have b1 : ((ex : Int) == 2 ^ E - 1) = true := by rw [beq_iff_eq, iT]; omega
    by_cases c2 : mn = 0
    · rw [HU.out, if_pos c1, if_pos c2]
      subst c2
      clear c1 HU hE hee iT hsp
      go_enter Oahg.func50, Oahg.ntmps50
      go_wp2_with (first | (go_at_call 18; refine (okT _ _ _ h).mono ?_; rintro e wa ⟨rfl, hba⟩; obtain ⟨hc, hf⟩ := bcell hba; have hz0 : w.heap.size < wa.heap.size := (by have := hba.size; simp at this; omega); have hz1 : w.heap.size + 1 < wa.heap.size := (by have := hba.size; simp at this; omega)) | (go_at_call 82; refine (signBit_any _ _ _ h).mono ?_; rintro e wb ⟨rfl, hbb⟩; obtain ⟨hcb, hfb⟩ := bcell hbb))
      have hB : Below w.heap.size w wb := ((((Below.refl _ _).alloc (Nat.le_refl _) _).alloc (by simp) _).trans (hba.mono (by simp; omega))).trans (hbb.mono (by omega))
      refine bodyPost_ret (v := .agg #[.bool neg, .int .i8 3, .int .i16 0, .int .u64 0]) (by simp [results, Oahg.results50, go_sem, hc, hcb, hz1]) rfl ⟨rfl, ?_⟩
      exact (((hB.setCell (by simp) _).setCell (by simp) _).setCell (by simp) _).setCell (by simp) _
    · rw [HU.out, if_pos c1, if_neg c2]
      have b2 : ((mn : Int) != 0) = true := by rw [bne_iff_ne]; omega
      clear c1 c2 HU hE hee iT hsp
      go_enter Oahg.func50, Oahg.ntmps50
      go_wp2_with (first | (go_at_call 18; refine (okT _ _ _ h).mono ?_; rintro e wa ⟨rfl, hba⟩; obtain ⟨hc, hf⟩ := bcell hba; have hz0 : w.heap.size < wa.heap.size := (by have := hba.size; simp at this; omega); have hz1 : w.heap.size + 1 < wa.heap.size := (by have := hba.size; simp at this; omega)) | (go_at_call 82; refine (signBit_any _ _ _ h).mono ?_; rintro e wb ⟨rfl, hbb⟩; obtain ⟨hcb, hfb⟩ := bcell hbb))
      have hB : Below w.heap.size w wb := ((((Below.refl _ _).alloc (Nat.le_refl _) _).alloc (by simp) _).trans (hba.mono (by simp; omega))).trans (hbb.mono (by omega))
      refine bodyPost_ret (v := .agg #[.bool false, .int .i8 4, .int .i16 0, .int .u64 0]) (by simp [results, Oahg.results50, go_sem, hc, hcb, hz1]) rfl ⟨rfl, ?_⟩
      exact (((hB.setCell (by simp) _).setCell (by simp) _).setCell (by simp) _).setCell (by simp) _
  · have b1 : ((ex : Int) == 2 ^ E - 1) = false := by rw [beq_eq_false_iff_ne, iT]; omega
    have c3 : ex = 0 := by omega
    have c2 : mn = 0 := by omega
    rw [HU.out, if_neg c1, if_pos c3, if_pos c2]
    subst c2
    subst c3
    clear c1 HU hE hee iT hsp
    go_enter Oahg.func50, Oahg.ntmps50
    go_wp2_with (first | (go_at_call 18; refine (okT _ _ _ h).mono ?_; rintro e wa ⟨rfl, hba⟩; obtain ⟨hc, hf⟩ := bcell hba; have hz0 : w.heap.size < wa.heap.size := (by have := hba.size; simp at this; omega); have hz1 : w.heap.size + 1 < wa.heap.size := (by have := hba.size; simp at this; omega)) | (go_at_call 82; refine (signBit_any _ _ _ h).mono ?_; rintro e wb ⟨rfl, hbb⟩; obtain ⟨hcb, hfb⟩ := bcell hbb))
    have hB : Below w.heap.size w wb := ((((Below.refl _ _).alloc (Nat.le_refl _) _).alloc (by simp) _).trans (hba.mono (by simp; omega))).trans (hbb.mono (by omega))
    refine bodyPost_ret (v := .agg #[.bool neg, .int .i8 0, .int .i16 0, .int .u64 0]) (by simp [results, Oahg.results50, go_sem, hc, hcb, hz1]) rfl ⟨rfl, ?_⟩
    exact (((hB.setCell (by simp) _).setCell (by simp) _).setCell (by simp) _).setCell (by simp) _

set_option maxHeartbeats 800000 in
theorem unpack_subn (E M x : Nat) (w : World) (h : FOk E M) (hx : x < 18446744073709551616) (c1 : expOf E M x ≠ 2 ^ E - 1) (c3 : expOf E M x = 0) (c2 : manOf M x ≠ 0) :
    Calls Oahg.prog 50 #[.agg #[.int .u8 E, .int .u8 M], .int .u64 x] w fun r w' =>
      r = .returned (.agg #[.bool (negOf E M x), .int .i8 1, .int .i16 (1 - (biasP E : Int) - (M : Int) - ((M + 1 - bl (manOf M x) : Nat) : Int)), .int .u64 ((manOf M x * 2 ^ (M + 1 - bl (manOf M x)) : Nat) : Int)]) ∧ Below w.heap.size w w' := by
  obtain ⟨h1, h2, h3, h4⟩ := h.ints
  obtain ⟨p1, p2⟩ := h.ipowE
  obtain ⟨p3, p4⟩ := h.ipowM
  have fN := neg_fact E M x h hx
  have fE := exp_fact E M x h hx
  have fM := man_fact E M x h hx
  have hE := h.powE
  have hmm : manOf M x < 2 ^ M := Nat.mod_lt _ (pow_pos2 M)
  have hee : expOf E M x < 2 ^ E := Nat.mod_lt _ (pow_pos2 E)
  have iT : (2 : Int) ^ E - 1 = ((2 ^ E - 1 : Nat) : Int) := by rw [pow_cast]; omega
  generalize negOf E M x = neg at *
  generalize expOf E M x = ex at *
  generalize manOf M x = mn at *
  have HMM : Hid (mn < 2 ^ M) := hmm
  clear hmm
  have b1 : ((ex : Int) == 2 ^ E - 1) = false := by rw [beq_eq_false_iff_ne, iT]; omega
  have b2 : ((mn : Int) == 0) = false := by rw [beq_eq_false_iff_ne]; omega
  have c0 : 0 < mn := by omega
  subst c3
  have hsub := fun w' => subnormal_any E M mn neg w' h c0 HMM.out
  generalize M + 1 - bl mn = u at *
  generalize 1 - (biasP E : Int) - (M : Int) - (u : Int) = ee at *
  generalize mn * 2 ^ u = mm at *
  clear c1 c2 hE hee iT
  go_enter Oahg.func50, Oahg.ntmps50
  go_wp2_with (first | (go_at_call 18; refine (okT _ _ _ h).mono ?_; rintro e wa ⟨rfl, hba⟩; obtain ⟨hc, hf⟩ := bcell hba; have hz0 : w.heap.size < wa.heap.size := (by have := hba.size; simp at this; omega); have hz1 : w.heap.size + 1 < wa.heap.size := (by have := hba.size; simp at this; omega)) | (go_at_call 82; refine (signBit_any _ _ _ h).mono ?_; rintro e wb ⟨rfl, hbb⟩; obtain ⟨hcb, hfb⟩ := bcell hbb))
  refine (hsub _).mono ?_
  clear hsub
  rintro e wc ⟨rfl, hbc⟩
  obtain ⟨hcc, hfc⟩ := bcell hbc
  have hzb : w.heap.size + 1 < wb.heap.size := by have := hbb.size; omega
  have hB0 : Below w.heap.size w wb := ((((Below.refl _ _).alloc (Nat.le_refl _) _).alloc (by simp) _).trans (hba.mono (by simp; omega))).trans (hbb.mono (by omega))
  have hB : Below w.heap.size w wc := hB0.trans (hbc.mono (by omega))
  go_wp2
  refine bodyPost_ret (v := .agg #[.bool neg, .int .i8 1, .int .i16 ee, .int .u64 (mm : Int)]) (by simp [results, Oahg.results50, go_sem, hc, hcb, hz1, hcc, hzb]) rfl ⟨rfl, ?_⟩
  exact (((hB.setCell (by simp) _).setCell (by simp) _).setCell (by simp) _).setCell (by simp) _

end Go.Proofs.Ygcoah
