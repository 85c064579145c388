/-
  THE WALKS: ieee.width, wide.Clz.
-/
import Derived.Test.YgcoahIeee1
import Derived.Test.YgcoahSmear
namespace Go.Proofs.Ygcoah
open Go.RowKit

theorem or_div (x k : Nat) (h : x < 18446744073709551616) : bits .or .u64 (x : Int) ((x : Int) / (k : Int)) = ((x ||| x / k : Nat) : Int) := by
  rw [← Int.natCast_ediv, u64_or_nat _ _ h (Nat.lt_of_le_of_lt (Nat.div_le_self _ _) h)]

/-- The six steps, as the walk shows them. -/
theorem smears (x : Nat) (h : x < 18446744073709551616) : ∃ x1 x2 x3 x4 x5 : Nat,
    bits .or .u64 (x : Int) ((x : Int) / 2) = (x1 : Int) ∧ bits .or .u64 (x1 : Int) ((x1 : Int) / 4) = (x2 : Int) ∧ bits .or .u64 (x2 : Int) ((x2 : Int) / 16) = (x3 : Int) ∧
    bits .or .u64 (x3 : Int) ((x3 : Int) / 256) = (x4 : Int) ∧ bits .or .u64 (x4 : Int) ((x4 : Int) / 65536) = (x5 : Int) ∧ bits .or .u64 (x5 : Int) ((x5 : Int) / 4294967296) = ((2 ^ bl x - 1 : Nat) : Int) := by
  have h1 := or_lt x 2 h
  have h2 := or_lt _ 4 h1
  have h3 := or_lt _ 16 h2
  have h4 := or_lt _ 256 h3
  have h5 := or_lt _ 65536 h4
  refine ⟨_, _, _, _, _, or_div x 2 h, or_div _ 4 h1, or_div _ 16 h2, or_div _ 256 h3, or_div _ 65536 h4, ?_⟩
  rw [← smear_eq x h]
  exact or_div _ 4294967296 h5

/-- The count of the 1 bits, in pairs, fours and bytes, as the walk shows it. -/
def popF (y : Int) : Int :=
  let a := IntKind.u64.wrap (y - bits .and .u64 (y / 2) 6148914691236517205)
  let b := IntKind.u64.wrap (bits .and .u64 a 3689348814741910323 + bits .and .u64 (a / 4) 3689348814741910323)
  IntKind.u64.wrap (bits .and .u64 (IntKind.u64.wrap (b + b / 16)) 1085102592571150095 * 72340172838076673) / 72057594037927936 % 256

theorem popF_all : ∀ b : Fin 65, popF ((2 ^ b.val - 1 : Nat) : Int) = (b.val : Int) := by decide +kernel

/-- The window that tells the highest bit, as the walk shows it. -/
def winF (y : Int) : Int := IntKind.u64.wrap (bits .xor .u64 y (y / 2) * 285870213051386505) / 288230376151711744

theorem winF_all : ∀ b : Fin 65, 0 ≤ winF ((2 ^ b.val - 1 : Nat) : Int) ∧ winF ((2 ^ b.val - 1 : Nat) : Int) < 64 := by decide +kernel

def clzL : List Nat := [63, 62, 15, 61, 6, 14, 35, 60, 2, 5, 13, 21, 25, 34, 46, 59, 1, 8, 4, 27, 10, 12, 20, 41, 18, 24, 30, 33, 39, 45, 51, 58, 0, 16, 7, 36, 3, 22, 26, 47, 9, 28, 11, 42, 19, 31, 40, 52, 17, 37, 23, 48, 29, 43, 32, 53, 38, 49, 44, 54, 50, 55, 56, 57]
def clzTab : ByteArray := ⟨#[63, 62, 15, 61, 6, 14, 35, 60, 2, 5, 13, 21, 25, 34, 46, 59, 1, 8, 4, 27, 10, 12, 20, 41, 18, 24, 30, 33, 39, 45, 51, 58, 0, 16, 7, 36, 3, 22, 26, 47, 9, 28, 11, 42, 19, 31, 40, 52, 17, 37, 23, 48, 29, 43, 32, 53, 38, 49, 44, 54, 50, 55, 56, 57]⟩
theorem clzTab_size : clzTab.size = 64 := by decide +kernel
theorem clzTab_get : ∀ i : Fin 64, (clzTab[i.val]'(by rw [clzTab_size]; exact i.isLt)).toNat = clzL.getD i.val 0 := by decide +kernel
theorem winF_tab : ∀ b : Fin 65, 0 < b.val → clzL.getD (winF ((2 ^ b.val - 1 : Nat) : Int)).toNat 0 = 64 - b.val := by decide +kernel

set_option maxHeartbeats 400000 in
theorem width_any (x : Nat) (w : World) (h : x < 18446744073709551616) :
    Calls Oahg.prog 139 #[.int .u64 x] w fun r w' => r = .returned (.int .u8 (bl x)) ∧ w' = w := by
  obtain ⟨x1, x2, x3, x4, x5, s1, s2, s3, s4, s5, s6⟩ := smears x h
  have hb : bl x ≤ 64 := (bl_le_iff _ _).2 h
  obtain ⟨y, ey⟩ : ∃ y, y = 2 ^ bl x - 1 := ⟨_, rfl⟩
  have EY : Hid (y = 2 ^ bl x - 1) := ey
  rw [← ey] at s6
  clear ey
  have HF : Hid (popF (y : Int) = (bl x : Int)) := by
    have := popF_all ⟨bl x, by omega⟩
    unfold Hid
    rw [EY.out]
    exact this
  go_enter Oahg.func139, Oahg.ntmps139
  go_wp2
  go_ret
  exact ⟨ret_int HF.out, rfl⟩

set_option maxHeartbeats 400000 in
theorem clz_any (x : Nat) (w : World) (h0 : 0 < x) (h : x < 18446744073709551616) :
    Calls Oahg.prog 93 #[.int .u64 x] w fun r w' => r = .returned (.int .u8 (64 - bl x : Nat)) ∧ w' = w := by
  obtain ⟨x1, x2, x3, x4, x5, s1, s2, s3, s4, s5, s6⟩ := smears x h
  have hb : bl x ≤ 64 := (bl_le_iff _ _).2 h
  obtain ⟨y, ey⟩ : ∃ y, y = 2 ^ bl x - 1 := ⟨_, rfl⟩
  have EY : Hid (y = 2 ^ bl x - 1) := ey
  rw [← ey] at s6
  clear ey
  obtain ⟨i, hi⟩ : ∃ i : Nat, winF (y : Int) = (i : Int) := by
    have := (winF_all ⟨bl x, by omega⟩).1
    rw [EY.out]
    exact ⟨_, Int.eq_ofNat_of_zero_le this |>.choose_spec⟩
  have hi64 : i < 64 := by
    have h1 := (winF_all ⟨bl x, by omega⟩).2
    rw [EY.out] at hi
    have h2 : winF ((2 ^ bl x - 1 : Nat) : Int) < 64 := h1
    rw [hi] at h2
    omega
  have HI : Hid (winF (y : Int) = (i : Int)) := hi
  unfold winF at hi
  go_enter Oahg.func93, Oahg.ntmps93
  go_wp2
  go_ret
  refine ⟨ret_int (a := ((clzTab[i]'(by rw [clzTab_size]; exact hi64)).toNat : Int)) ?_, rfl⟩
  rw [clzTab_get ⟨i, hi64⟩]
  have h1 := winF_tab ⟨bl x, by omega⟩ (bl_pos x h0)
  have h2 : winF ((2 ^ bl x - 1 : Nat) : Int) = (i : Int) := by rw [← EY.out]; exact HI.out
  rw [h2] at h1
  rw [Int.toNat_natCast] at h1
  rw [h1]

set_option maxHeartbeats 400000 in
theorem clz_zero (w : World) : Calls Oahg.prog 93 #[.int .u64 0] w fun r w' => r = .returned (.int .u8 64) ∧ w' = w := by
  go_enter Oahg.func93, Oahg.ntmps93
  go_wp2
  go_ret
  exact ⟨rfl, rfl⟩
end Go.Proofs.Ygcoah
