/-
  No cell of these rows narrows 'for every input' (looked for: loops, veiled, ifaces, maps, wideKeys, modest, calm, conditions, laid).
  DERIVED. THE GIVEN ROWS OF THIS SEAT. 10 by the template 'for every input the law returns true; each argument reads behind the call as it read before'; 0 by the template 'total and deterministic' (their statements: YgcoahTotals.lean).
  GIVEN WITH THE SEED: the statements are not yours to turn. If you find one false, say at which input.
  Laid BY PROGRAM, IN A SANDBOX (cutbox-rows.mjs): the forced cells as the released guide's own fill.sh prints them over the translation e74f7f15f3c782a2… (all of the seat's roots in one cut). By AI agents, Wed Nov 11 2026. No macro, syntax, notation, axiom, sorry.
-/
import Derived.Test.YgcoahChecked
import GoSem.Claim
import GoSem.ClaimJoined
import GoSem.ClaimMapViews
import Derived.JoinedTies
import Derived.KernelRfl
namespace Go.Proofs.Ygcoah
/- THE CELL 'sum', in the pinned program and in every row, IS THE sha256 OF THE DUMP (.gsa) THAT YgcoahProg.lean LOADS. Nothing in Lean hashes anything: it is a label: what it is worth is what the hold of that sum in a sandbox is worth. -/
noncomputable def Oahg.pinned : Pinned := { name := "ygcoah", sum := "e74f7f15f3c782a2555bae0cd37e920e96a841a607f725cc8342fbe6cc7a4efa", checked := Oahg.checked }
namespace Rows
def none {H : Type} : Left H := { results := [], args := [] }

/-- 'law.SoftSub': WHATEVER THE INPUT: true; the input reads as it did. -/
def softSubSpec : ChangeSpec := { name := "softSub", fn := fun _ => fun
  | [d1, d2, d3, d4] => { results := [.lit (.bool true)], args := [d1, d2, d3, d4] }
  | _ => none }
def softSubRow : OpenClaim := { program := "ygcoah", sum := "e74f7f15f3c782a2555bae0cd37e920e96a841a607f725cc8342fbe6cc7a4efa", func := "softfloat/law.SoftSub", spec := "softSub", apart := false }
def SoftSubSaid : Prop := softSubRow.holds Oahg.pinned (OpenSpec.ofChange softSubSpec)

/-- ITS FALSE NEIGHBOUR: 'it returns false'. Refute it at one input. -/
def softSubWrong : ChangeSpec := { name := "softSub", fn := fun _ => fun
  | [d1, d2, d3, d4] => { results := [.lit (.bool false)], args := [d1, d2, d3, d4] }
  | _ => none }
def SoftSubWrongFalsely : Prop := softSubRow.holds Oahg.pinned (OpenSpec.ofChange softSubWrong)

/-- 'law.SoftMul': WHATEVER THE INPUT: true; the input reads as it did. -/
def softMulSpec : ChangeSpec := { name := "softMul", fn := fun _ => fun
  | [d1, d2, d3, d4] => { results := [.lit (.bool true)], args := [d1, d2, d3, d4] }
  | _ => none }
def softMulRow : OpenClaim := { program := "ygcoah", sum := "e74f7f15f3c782a2555bae0cd37e920e96a841a607f725cc8342fbe6cc7a4efa", func := "softfloat/law.SoftMul", spec := "softMul", apart := false }
def SoftMulSaid : Prop := softMulRow.holds Oahg.pinned (OpenSpec.ofChange softMulSpec)

/-- ITS FALSE NEIGHBOUR: 'it returns false'. Refute it at one input. -/
def softMulWrong : ChangeSpec := { name := "softMul", fn := fun _ => fun
  | [d1, d2, d3, d4] => { results := [.lit (.bool false)], args := [d1, d2, d3, d4] }
  | _ => none }
def SoftMulWrongFalsely : Prop := softMulRow.holds Oahg.pinned (OpenSpec.ofChange softMulWrong)

/-- 'law.SoftDiv': WHATEVER THE INPUT: true; the input reads as it did. -/
def softDivSpec : ChangeSpec := { name := "softDiv", fn := fun _ => fun
  | [d1, d2, d3, d4] => { results := [.lit (.bool true)], args := [d1, d2, d3, d4] }
  | _ => none }
def softDivRow : OpenClaim := { program := "ygcoah", sum := "e74f7f15f3c782a2555bae0cd37e920e96a841a607f725cc8342fbe6cc7a4efa", func := "softfloat/law.SoftDiv", spec := "softDiv", apart := false }
def SoftDivSaid : Prop := softDivRow.holds Oahg.pinned (OpenSpec.ofChange softDivSpec)

/-- ITS FALSE NEIGHBOUR: 'it returns false'. Refute it at one input. -/
def softDivWrong : ChangeSpec := { name := "softDiv", fn := fun _ => fun
  | [d1, d2, d3, d4] => { results := [.lit (.bool false)], args := [d1, d2, d3, d4] }
  | _ => none }
def SoftDivWrongFalsely : Prop := softDivRow.holds Oahg.pinned (OpenSpec.ofChange softDivWrong)

/-- 'law.SoftAdd64': WHATEVER THE INPUT: true; the input reads as it did. -/
def softAdd64Spec : ChangeSpec := { name := "softAdd64", fn := fun _ => fun
  | [d1, d2] => { results := [.lit (.bool true)], args := [d1, d2] }
  | _ => none }
def softAdd64Row : OpenClaim := { program := "ygcoah", sum := "e74f7f15f3c782a2555bae0cd37e920e96a841a607f725cc8342fbe6cc7a4efa", func := "softfloat/law.SoftAdd64", spec := "softAdd64", apart := false }
def SoftAdd64Said : Prop := softAdd64Row.holds Oahg.pinned (OpenSpec.ofChange softAdd64Spec)

/-- ITS FALSE NEIGHBOUR: 'it returns false'. Refute it at one input. -/
def softAdd64Wrong : ChangeSpec := { name := "softAdd64", fn := fun _ => fun
  | [d1, d2] => { results := [.lit (.bool false)], args := [d1, d2] }
  | _ => none }
def SoftAdd64WrongFalsely : Prop := softAdd64Row.holds Oahg.pinned (OpenSpec.ofChange softAdd64Wrong)

/-- 'law.SoftSub64': WHATEVER THE INPUT: true; the input reads as it did. -/
def softSub64Spec : ChangeSpec := { name := "softSub64", fn := fun _ => fun
  | [d1, d2] => { results := [.lit (.bool true)], args := [d1, d2] }
  | _ => none }
def softSub64Row : OpenClaim := { program := "ygcoah", sum := "e74f7f15f3c782a2555bae0cd37e920e96a841a607f725cc8342fbe6cc7a4efa", func := "softfloat/law.SoftSub64", spec := "softSub64", apart := false }
def SoftSub64Said : Prop := softSub64Row.holds Oahg.pinned (OpenSpec.ofChange softSub64Spec)

/-- ITS FALSE NEIGHBOUR: 'it returns false'. Refute it at one input. -/
def softSub64Wrong : ChangeSpec := { name := "softSub64", fn := fun _ => fun
  | [d1, d2] => { results := [.lit (.bool false)], args := [d1, d2] }
  | _ => none }
def SoftSub64WrongFalsely : Prop := softSub64Row.holds Oahg.pinned (OpenSpec.ofChange softSub64Wrong)

/-- 'law.SoftMul64': WHATEVER THE INPUT: true; the input reads as it did. -/
def softMul64Spec : ChangeSpec := { name := "softMul64", fn := fun _ => fun
  | [d1, d2] => { results := [.lit (.bool true)], args := [d1, d2] }
  | _ => none }
def softMul64Row : OpenClaim := { program := "ygcoah", sum := "e74f7f15f3c782a2555bae0cd37e920e96a841a607f725cc8342fbe6cc7a4efa", func := "softfloat/law.SoftMul64", spec := "softMul64", apart := false }
def SoftMul64Said : Prop := softMul64Row.holds Oahg.pinned (OpenSpec.ofChange softMul64Spec)

/-- ITS FALSE NEIGHBOUR: 'it returns false'. Refute it at one input. -/
def softMul64Wrong : ChangeSpec := { name := "softMul64", fn := fun _ => fun
  | [d1, d2] => { results := [.lit (.bool false)], args := [d1, d2] }
  | _ => none }
def SoftMul64WrongFalsely : Prop := softMul64Row.holds Oahg.pinned (OpenSpec.ofChange softMul64Wrong)

/-- 'law.SoftDiv64': WHATEVER THE INPUT: true; the input reads as it did. -/
def softDiv64Spec : ChangeSpec := { name := "softDiv64", fn := fun _ => fun
  | [d1, d2] => { results := [.lit (.bool true)], args := [d1, d2] }
  | _ => none }
def softDiv64Row : OpenClaim := { program := "ygcoah", sum := "e74f7f15f3c782a2555bae0cd37e920e96a841a607f725cc8342fbe6cc7a4efa", func := "softfloat/law.SoftDiv64", spec := "softDiv64", apart := false }
def SoftDiv64Said : Prop := softDiv64Row.holds Oahg.pinned (OpenSpec.ofChange softDiv64Spec)

/-- ITS FALSE NEIGHBOUR: 'it returns false'. Refute it at one input. -/
def softDiv64Wrong : ChangeSpec := { name := "softDiv64", fn := fun _ => fun
  | [d1, d2] => { results := [.lit (.bool false)], args := [d1, d2] }
  | _ => none }
def SoftDiv64WrongFalsely : Prop := softDiv64Row.holds Oahg.pinned (OpenSpec.ofChange softDiv64Wrong)

/-- 'law.SoftSqrt64': WHATEVER THE INPUT: true; the input reads as it did. -/
def softSqrt64Spec : ChangeSpec := { name := "softSqrt64", fn := fun _ => fun
  | [d] => { results := [.lit (.bool true)], args := [d] }
  | _ => none }
def softSqrt64Row : OpenClaim := { program := "ygcoah", sum := "e74f7f15f3c782a2555bae0cd37e920e96a841a607f725cc8342fbe6cc7a4efa", func := "softfloat/law.SoftSqrt64", spec := "softSqrt64", apart := false }
def SoftSqrt64Said : Prop := softSqrt64Row.holds Oahg.pinned (OpenSpec.ofChange softSqrt64Spec)

/-- ITS FALSE NEIGHBOUR: 'it returns false'. Refute it at one input. -/
def softSqrt64Wrong : ChangeSpec := { name := "softSqrt64", fn := fun _ => fun
  | [d] => { results := [.lit (.bool false)], args := [d] }
  | _ => none }
def SoftSqrt64WrongFalsely : Prop := softSqrt64Row.holds Oahg.pinned (OpenSpec.ofChange softSqrt64Wrong)

/-- 'law.Ryu64': WHATEVER THE INPUT: true; the input reads as it did. -/
def ryu64Spec : ChangeSpec := { name := "ryu64", fn := fun _ => fun
  | [d] => { results := [.lit (.bool true)], args := [d] }
  | _ => none }
def ryu64Row : OpenClaim := { program := "ygcoah", sum := "e74f7f15f3c782a2555bae0cd37e920e96a841a607f725cc8342fbe6cc7a4efa", func := "softfloat/law.Ryu64", spec := "ryu64", apart := false }
def Ryu64Said : Prop := ryu64Row.holds Oahg.pinned (OpenSpec.ofChange ryu64Spec)

/-- ITS FALSE NEIGHBOUR: 'it returns false'. Refute it at one input. -/
def ryu64Wrong : ChangeSpec := { name := "ryu64", fn := fun _ => fun
  | [d] => { results := [.lit (.bool false)], args := [d] }
  | _ => none }
def Ryu64WrongFalsely : Prop := ryu64Row.holds Oahg.pinned (OpenSpec.ofChange ryu64Wrong)

/-- 'law.Parse64': WHATEVER THE INPUT: true; the input reads as it did. -/
def parse64Spec : ChangeSpec := { name := "parse64", fn := fun _ => fun
  | [d1, d2, d3, d4] => { results := [.lit (.bool true)], args := [d1, d2, d3, d4] }
  | _ => none }
def parse64Row : OpenClaim := { program := "ygcoah", sum := "e74f7f15f3c782a2555bae0cd37e920e96a841a607f725cc8342fbe6cc7a4efa", func := "softfloat/law.Parse64", spec := "parse64", inPlace := ["math.Float64bits", "math.Float32bits"], apart := false }
def Parse64Said : Prop := parse64Row.holds Oahg.pinned (OpenSpec.ofChange parse64Spec)

/-- ITS FALSE NEIGHBOUR: 'it returns false'. Refute it at one input. -/
def parse64Wrong : ChangeSpec := { name := "parse64", fn := fun _ => fun
  | [d1, d2, d3, d4] => { results := [.lit (.bool false)], args := [d1, d2, d3, d4] }
  | _ => none }
def Parse64WrongFalsely : Prop := parse64Row.holds Oahg.pinned (OpenSpec.ofChange parse64Wrong)

end Rows
end Go.Proofs.Ygcoah
