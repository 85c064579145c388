/-
  PLAIN: the rounding rule and the pattern that a rounded value has. No Go in sight.
-/
import Derived.Test.YgcoahFmt
namespace Go.Proofs.Ygcoah

/-- Does a floor, odd or not, go up by one? c: how what is left stands to one half; s: is anything left? -/
def raiseQ (mode : Nat) (neg odd : Bool) (c : Int) (s : Bool) : Bool :=
  if mode = 1 then decide (0 ≤ c)
  else if mode = 2 then false
  else if mode = 3 then s && !neg
  else if mode = 4 then s && neg
  else decide (0 < c) || (decide (c = 0) && odd)

/-- Beyond the greatest finite value: does the mode stay there? -/
def staysB (mode : Nat) (neg : Bool) : Bool := decide (mode = 2) || (decide (mode = 3) && neg) || (decide (mode = 4) && !neg)
def ovfP (E M mode : Nat) (neg : Bool) : Nat := if staysB mode neg then maxS E M neg else infS E M neg

/-- What cut leaves: the part below as a fraction of 2^64, its lowest bit for all that lies deeper. -/
def cutR (s k : Nat) : Nat := if k ≤ 64 then s * 2 ^ (64 - k) % 18446744073709551616 else if s = 0 then 0 else 1

def eminI (E : Nat) : Int := 1 - (biasP E : Int)

/-- The pattern of n * 2^(e-M), n raised or not, with its sign; beyond the finite values: ovfP. -/
def packP (E M mode : Nat) (neg : Bool) (e : Int) (n : Nat) : Nat :=
  if infP E M ≤ (e - eminI E).toNat * 2 ^ M + n then ovfP E M mode neg else (e - eminI E).toNat * 2 ^ M + n + sgnP E M neg

/-- What roundPack answers, sig not zero. -/
def softR (E M mode : Nat) (neg : Bool) (exp : Int) (sig : Nat) : Nat :=
  let lead := 64 - bl sig
  let s := sig * 2 ^ lead
  let real := exp - (lead : Int) + 63
  let e := max real (eminI E)
  if (biasP E : Int) < e then ovfP E M mode neg
  else
    let k := (63 - (M : Int) + e - real).toNat
    packP E M mode neg e (s / 2 ^ k + if raiseQ mode neg (decide (s / 2 ^ k % 2 = 1)) (cmpI (cutR s k) 9223372036854775808) (decide (cutR s k ≠ 0)) then 1 else 0)

theorem softR_of {E M mode : Nat} {neg : Bool} {exp : Int} {sig ld s k : Nat} {rl ee : Int} (hld : ld = 64 - bl sig) (hs : s = sig * 2 ^ ld) (hrl : rl = exp - (ld : Int) + 63) (hee : ee = max rl (eminI E)) (hov : ¬ (biasP E : Int) < ee) (hk : 63 - (M : Int) + ee - rl = (k : Int)) :
    softR E M mode neg exp sig = packP E M mode neg ee (s / 2 ^ k + if raiseQ mode neg (decide (s / 2 ^ k % 2 = 1)) (cmpI (cutR s k) 9223372036854775808) (decide (cutR s k ≠ 0)) then 1 else 0) := by
  unfold softR
  simp only []
  rw [← hld, ← hs, ← hrl, ← hee, if_neg hov, hk, Int.toNat_natCast]

theorem softR_over {E M mode : Nat} {neg : Bool} {exp : Int} {sig ld : Nat} {rl ee : Int} (hld : ld = 64 - bl sig) (hrl : rl = exp - (ld : Int) + 63) (hee : ee = max rl (eminI E)) (hov : (biasP E : Int) < ee) :
    softR E M mode neg exp sig = ovfP E M mode neg := by
  unfold softR
  simp only []
  rw [← hld, ← hrl, ← hee, if_pos hov]

theorem packP_of {E M mode : Nat} {neg : Bool} {e : Int} {n Y : Nat} (hY : Y = (e - eminI E).toNat * 2 ^ M) :
    packP E M mode neg e n = if infP E M ≤ Y + n then ovfP E M mode neg else Y + n + sgnP E M neg := by
  unfold packP; rw [← hY]

end Go.Proofs.Ygcoah
