/-
  THE PROOF OF 'Rows.SoftSubSaid': the walk is YgcoahTopA's; a struct by value among the arguments.
-/
import Derived.Test.YgcoahRows
import Derived.Test.YgcoahTopA
import Derived.WalkKit
import Derived.ProofKit
import Derived.OpenShut
import Derived.ShutString
import Derived.Lib.SmallJoins
namespace Go.Proofs.Ygcoah.softSub
open Go.ChangeShapes Go.WideShapes Go.ChangeAt Go.RowKit Go.Joins

theorem own : ownKnob Oahg.prog.godebug = none := by kernel_rfl
theorem cells23 : Oahg.prog.cellsOf 23 = 2 := by kernel_rfl

theorem wf64 {a : Int} (h : (Lit.int .u64 a).wf = true) : ∃ x : Nat, x < 18446744073709551616 ∧ a = (x : Int) := by
  have h1 : IntKind.u64.min ≤ a ∧ a ≤ IntKind.u64.max := by simpa [Lit.wf] using h
  have e1 : IntKind.u64.min = 0 := by decide
  have e2 : IntKind.u64.max = 18446744073709551615 := by decide
  rw [e1, e2] at h1
  exact ⟨a.toNat, by omega, by omega⟩
theorem wf8 {a : Int} (h : (Lit.int .u8 a).wf = true) : ∃ x : Nat, a = (x : Int) := by
  have h1 : IntKind.u8.min ≤ a ∧ a ≤ IntKind.u8.max := by simpa [Lit.wf] using h
  have e1 : IntKind.u8.min = 0 := by decide
  rw [e1] at h1
  exact ⟨a.toNat, by omega⟩

/-- THE WALK: the Go text returns true; only new memory. -/
theorem walk (e m a0 : Int) (a1 a2 : Int) (we : (Lit.int .u8 e).wf = true) (wm : (Lit.int .u8 m).wf = true) (w0 : (Lit.int .u8 a0).wf = true) (w1 : (Lit.int .u64 a1).wf = true) (w2 : (Lit.int .u64 a2).wf = true) (w : World) :
    Calls Oahg.prog 3 #[.agg #[.int .u8 e, .int .u8 m], .int .u8 a0, .int .u64 a1, .int .u64 a2] w fun e w' => e = .returned (.bool true) ∧ Below w.heap.size w w' := by
  obtain ⟨E, rfl⟩ := wf8 we
  obtain ⟨M, rfl⟩ := wf8 wm
  obtain ⟨mode, rfl⟩ := wf8 w0
  obtain ⟨x, hx, rfl⟩ := wf64 w1
  obtain ⟨y, hy, rfl⟩ := wf64 w2
  exact lawF_sub E M mode x y w hx hy

set_option maxRecDepth 100000 in
theorem lifted (os : Os) (started : os.Started) (H : Type) (enc : TypeId × Value → H) :
    ReturnsInHanded {} Oahg.checked os 3 .any (Rows.softSubSpec.pre6 enc Oahg.prog Oahg.f3 Rows.softSubRow.domain false) (Rows.softSubSpec.post enc Oahg.prog Oahg.f3 false true false false) := by
  refine returnsInHanded_of_change (C := Oahg.checked) own started (by kernel_rfl) Oahg.func3
    (ChangeSpec.witness6 (enc := enc) (C := Oahg.checked) false ⟨#[], #[.agg #[.int .u8 0, .int .u8 0], .int .u8 0, .int .u64 0, .int .u64 0], []⟩ 8 (by kernel_rfl) (by kernel_rfl) (by kernel_rfl) (by kernel_rfl)) ?_
  intro W base args ds gs before hval0 hW hcnd _
  have hval : ∀ (j : Nat) t v, Oahg.f3.params[j]? = some t → args[j]? = some v → Value.okWide Oahg.prog W .any base t v := hval0
  have hW' := hW
  obtain ⟨p, q, hA0, hV, rfl, hfz, hnd⟩ := hW
  have hA : DataW.TrodAll enc Oahg.prog W 0 (fun _ => true) true Oahg.f3.params.toList args.toList ds p := hA0
  rw [Oahg.params3] at hA hval
  obtain ⟨v0, vs0, d0, ds0, p0, q0, hargs, rfl, rfl, h0, r0⟩ := trodAll_cons hA
  obtain ⟨v1, vs1, d1, ds1, p1, q1, rfl, rfl, rfl, h1, r1⟩ := trodAll_cons r0
  obtain ⟨v2, vs2, d2, ds2, p2, q2, rfl, rfl, rfl, h2, r2⟩ := trodAll_cons r1
  obtain ⟨v3, vs3, d3, ds3, p3, q3, rfl, rfl, rfl, h3, r3⟩ := trodAll_cons r2
  obtain ⟨rfl, rfl, rfl⟩ := trodAll_nil r3
  obtain rfl : args = #[v0, v1, v2, v3] := by cases args; simp_all
  obtain ⟨rfl, rfl⟩ := trodVars_none hV
  obtain ⟨c0, c1, y0, y1, m, rfl, rfl, rfl, hy0, hy1⟩ := open_agg2 Oahg.underlying23 (by kernel_rfl) cells23 (hval 0 23 v0 rfl rfl) h0
  obtain ⟨ea, ee0, rfl, we⟩ := DataW.trod_int Oahg.underlying5 hy0
  obtain ⟨ma, ee1, rfl, wm⟩ := DataW.trod_int Oahg.underlying5 hy1
  simp at ee0 ee1
  subst ee0 ee1
  obtain ⟨a1, rfl, rfl, rfl, w1⟩ := open_int Oahg.underlying24 (hval 1 24 v1 rfl rfl) h1
  obtain ⟨a2, rfl, rfl, rfl, w2⟩ := open_int Oahg.underlying25 (hval 2 25 v2 rfl rfl) h2
  obtain ⟨a3, rfl, rfl, rfl, w3⟩ := open_int Oahg.underlying25 (hval 3 25 v3 rfl rfl) h3
  clear hA0 hval0
  simp only [List.append_nil] at hW'
  have structReads : ∀ (W' : World) (sp : Nat → Bool), DataW.Trod enc Oahg.prog W' 0 sp true 23 (.agg #[.int .u8 ea, .int .u8 ma]) (.agg [.lit (.int .u8 ea), .lit (.int .u8 ma)]) [] := fun W' sp =>
    shut_agg2 (y0 := (.lit (.int .u8 ea), [])) (y1 := (.lit (.int .u8 ma), [])) Oahg.underlying23 (by kernel_rfl) cells23 ⟨1, by simp [DataW.trod, Oahg.underlying5, we]⟩ ⟨1, by simp [DataW.trod, Oahg.underlying5, wm]⟩
  refine (walk ea ma a1 a2 a3 we wm w1 w2 w3 W).mono fun e W' ⟨he, hg⟩ => ?_
  subst he
  exact ⟨_, rfl, _, _, _, [], _, [], hW', trodAll_mk1 (shut_bool Oahg.underlying4 _), (trodAll_cons_mk (structReads _ _) (trodAll_cons_mk (shut_int Oahg.underlying24 w1) (trodAll_cons_mk (shut_int Oahg.underlying25 w2) (trodAll_cons_mk (shut_int Oahg.underlying25 w3) trodAll_mk0)))), rfl, hg.frame _, fun h => by cases h⟩

theorem over : Rows.softSubRow.holds Oahg.pinned (OpenSpec.ofChange Rows.softSubSpec) :=
  OpenClaim.holds_of_wide 3 Oahg.f3 rfl rfl rfl rfl rfl rfl rfl ⟨rfl, rfl, rfl, rfl, rfl⟩ rfl rfl rfl rfl rfl (by kernel_rfl) Oahg.func3 (by kernel_rfl)
    (of_decide_eq_true (by kernel_rfl)) (by unfold Func.isWrapper; first | (rw [if_pos (by decide +kernel)]; kernel_rfl) | (rw [if_neg (by decide +kernel)]; exact ⟨rfl, rfl⟩))
    (fun os started H enc _ => lifted os started H enc)

/-- ████ THE STATEMENT ████ -/
theorem proved : Rows.SoftSubSaid :=
  over
end Go.Proofs.Ygcoah.softSub
