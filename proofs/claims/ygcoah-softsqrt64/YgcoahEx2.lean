/-
  THE WALKS OF PACKAGE exact, 2: toU64, shift.
-/
import Derived.Test.YgcoahEx1
import Derived.Test.YgcoahSubn
namespace Go.Proofs.Ygcoah
open Go.RowKit

/-- A store into a cell that holds no limb leaves every number. -/
theorem NatV.set {w : World} {v : Value} {x : Nat} (h : NatV w v x) {p : Addr} {c : Value} (hc : w.cell? p = some c) (hn : ∀ k, c ≠ .int .u32 k) (c' : Value) : NatV (w.setCell p c') v x := by
  obtain ⟨ao, n, cap, f, e, hl, h0, h1, hv⟩ := h.ex
  refine ⟨ao, n, cap, f, e, ⟨hl.fits, hl.top, hl.lim, fun hp => ?_⟩, h0, h1, hv⟩
  obtain ⟨b, off, e1, hlt, hcs⟩ := hl.mem hp
  refine ⟨b, off, e1, by simpa using hlt, fun i hi => ?_⟩
  rw [World.cell?_setCell_other]
  · exact hcs i hi
  · intro e2
    rw [e2, hcs i hi] at hc
    exact hn _ (Option.some.inj hc).symm

theorem val_two (f : Nat → Nat) : val f 2 = f 0 + f 1 * 4294967296 := by simp [val]
theorem val_one (f : Nat → Nat) : val f 1 = f 0 := by simp [val]

set_option maxHeartbeats 800000 in
theorem toU64N {w : World} {a : Option Addr} {n ca x : Nat} (h : NatV w (.slice a n ca) x) (hx : x < 18446744073709551616) :
    Calls Oahg.prog 67 #[.slice a n ca] w fun e w' => e = .returned (.int .u64 x) ∧ w' = w := by
  obtain ⟨f, h1, h2, h3, h4⟩ := h.open
  have hcap := h1.top
  have hfit := h1.fits
  by_cases h0 : n = 0
  · subst h0
    have e : x = 0 := h4.symm
    subst e
    clear h h4 h2 h3 h1
    go_enter Oahg.func67, Oahg.ntmps67
    go_wp2
    go_ret
    exact ⟨rfl, rfl⟩
  · have hn2 : n ≤ 2 := by
      have hb := bl_limbs f n h1.lim (by omega) (h3 (by omega))
      rw [h4] at hb
      have hb2 : bl x ≤ 64 := (bl_le_iff _ _).2 hx
      have hb3 := bl_pos (f (n - 1)) (by have := h3 (by omega); omega)
      omega
    obtain ⟨b, off, rfl, hlt, hc⟩ := h1.at (by omega)
    have c0 : w.cell? ⟨b, off, none⟩ = some (.int .u32 (f 0)) := hc 0 (by omega)
    have l0 : f 0 < 4294967296 := h1.lim _ (by omega)
    by_cases hn1 : n = 1
    · subst hn1
      rw [val_one] at h4
      have e1 : bits .or .u64 0 (f 0 : Int) = (x : Int) := by
        have := u64_or_nat 0 (f 0) (by decide) (by omega)
        simp only [Nat.zero_or] at this
        rw [← h4]; exact this
      have w0 : IntKind.u64.wrap (f 0 : Int) = (f 0 : Int) := wrapN _ (by omega)
      clear hc h h1 h2 h3 h4
      generalize f 0 = g0 at *
      go_enter Oahg.func67, Oahg.ntmps67
      go_wp2
      go_ret
      exact ⟨rfl, rfl⟩
    · have e2 : n = 2 := by omega
      subst e2
      have c1 : w.cell? ⟨b, off + 1, none⟩ = some (.int .u32 (f 1)) := hc 1 (by omega)
      have l1 : f 1 < 4294967296 := h1.lim _ (by omega)
      rw [val_two] at h4
      have w0 : IntKind.u64.wrap (f 0 : Int) = (f 0 : Int) := wrapN _ (by omega)
      have w1 : IntKind.u64.wrap (f 1 : Int) = (f 1 : Int) := wrapN _ (by omega)
      have w2 : IntKind.u64.wrap ((f 1 : Int) * 4294967296) = ((f 1 * 4294967296 : Nat) : Int) := by rw [IntKind.wrap_u64]; omega
      have e1 : bits .or .u64 ((f 1 * 4294967296 : Nat) : Int) (f 0 : Int) = (x : Int) := by
        rw [u64_or_nat _ _ (by omega) (by omega), nat_join 32 (f 1 * 4294967296) (f 0) (by omega) (by omega), ← h4]
        omega
      clear hc h h1 h2 h3 h4
      generalize f 0 = g0 at *
      generalize f 1 = g1 at *
      go_enter Oahg.func67, Oahg.ntmps67
      go_wp2
      go_ret
      exact ⟨ret_int e1, rfl⟩

end Go.Proofs.Ygcoah
