/-
  THE WALKS OF THE TOP: soft's and exact's Sqrt, the law SoftSqrt at Binary64 and NearestEven, SoftSqrt64.
-/
import Derived.Test.YgcoahPl9
import Derived.Test.YgcoahSqN
import Derived.Test.YgcoahXn
namespace Go.Proofs.Ygcoah
open Go.RowKit

/-- In Binary64 both roots answer one pattern. -/
theorem sqrts64 (x : Nat) (hx : x < 18446744073709551616) : ∃ V : Nat,
    (∀ w : World, Calls Oahg.prog 34 #[.agg #[.int .u8 ((11 : Nat) : Int), .int .u8 ((52 : Nat) : Int)], .int .u8 ((0 : Nat) : Int), .int .u64 x] w fun r w' => (∃ fl : Int, r = .returned (.tuple #[.int .u64 V, .int .u8 fl])) ∧ Below w.heap.size w w') ∧
    (∀ w : World, Calls Oahg.prog 35 #[.agg #[.int .u8 ((11 : Nat) : Int), .int .u8 ((52 : Nat) : Int)], .int .u8 ((0 : Nat) : Int), .int .u64 x] w fun r w' => (∃ fl : Int, r = .returned (.tuple #[.int .u64 V, .int .u8 fl])) ∧ Below w.heap.size w w') := by
  have h : FOk 11 52 := ⟨by decide, by decide, by decide, by decide⟩
  have f := unp_facts 11 52 x h
  have hn := unp_neg 11 52 x
  by_cases c : (unp 11 52 x).cls = 0 ∨ (unp 11 52 x).cls = 4 ∨ (unp 11 52 x).neg = true ∨ (unp 11 52 x).cls = 3
  · refine ⟨sqrtZ 11 52 (unp 11 52 x), fun w => sqrt_spec 11 52 0 x w h hx c, fun w => ?_⟩
    rw [sqrtZ_same 11 52 x c]
    refine sqrtX_spec 11 52 0 x w h hx ?_
    by_cases c4 : (unp 11 52 x).cls = 4
    · exact Or.inr (Or.inl c4)
    · rw [hn c4]; exact c
  · have hc : (unp 11 52 x).cls = 1 ∨ (unp 11 52 x).cls = 2 := by omega
    have hneg : (unp 11 52 x).neg = false := by
      cases hh : (unp 11 52 x).neg
      · rfl
      · exact absurd (Or.inr (Or.inr (Or.inl hh))) c
    have hno : negOf 11 52 x = false := by rw [hn (by omega)]; exact hneg
    obtain ⟨s, hs⟩ := exists_sqrt (sqV 52 (unp 11 52 x))
    obtain ⟨r, rl, p1, p2, p3, p4, p5, p6⟩ := sqrt64_plain 0 x s hc hs
    refine ⟨softR 11 52 0 false (sqU 52 (unp 11 52 x)) (if s * s = sqV 52 (unp 11 52 x) then s else s ||| 1), fun w => sqrt_num 11 52 0 x s w h hx hc hneg hs, fun w => ?_⟩
    rw [p6]
    exact sqrtX_num 11 52 0 x r rl w h hx hc hno p1 p2 p3 p4 p5

set_option maxRecDepth 100000 in
set_option maxHeartbeats 1600000 in
theorem law64_sqrt (x : Nat) (w : World) (hx : x < 18446744073709551616) :
    Calls Oahg.prog 10 #[.int .u64 x] w fun r w' => r = .returned (.bool true) ∧ Below w.heap.size w w' := by
  obtain ⟨V, hS, hX⟩ := sqrts64 x hx
  have e1 : ((11 : Nat) : Int) = 11 := rfl
  have e2 : ((52 : Nat) : Int) = 52 := rfl
  have e3 : ((0 : Nat) : Int) = 0 := rfl
  have h : FOk 11 52 := ⟨by decide, by decide, by decide, by decide⟩
  have hok := fun w' => okT 11 52 w' h
  rw [e1, e2, e3] at hS hX
  rw [e1, e2] at hok
  have hs : ∀ w' : World, Calls Oahg.prog 21 #[.agg #[.int .u8 11, .int .u8 52], .int .u8 0, .int .u64 x] w' fun r w'' => r = .returned (.int .u64 V) ∧ Below w'.heap.size w' w'' := by
    intro w
    go_enter Oahg.func21, Oahg.ntmps21
    go_wp2_with fail
    refine (hS _).mono ?_
    rintro e w1 ⟨⟨fl, rfl⟩, hb⟩
    have hB : Below w.heap.size w w1 := ((Below.refl _ _).alloc (Nat.le_refl _) _).trans (hb.mono (by simp))
    go_wp2
    go_ret
    exact ⟨rfl, hB⟩
  have he : ∀ w' : World, Calls Oahg.prog 22 #[.agg #[.int .u8 11, .int .u8 52], .int .u8 0, .int .u64 x] w' fun r w'' => r = .returned (.int .u64 V) ∧ Below w'.heap.size w' w'' := by
    intro w
    go_enter Oahg.func22, Oahg.ntmps22
    go_wp2_with fail
    refine (hX _).mono ?_
    rintro e w1 ⟨⟨fl, rfl⟩, hb⟩
    have hB : Below w.heap.size w w1 := ((Below.refl _ _).alloc (Nat.le_refl _) _).trans (hb.mono (by simp))
    go_wp2
    go_ret
    exact ⟨rfl, hB⟩
  have hl : ∀ w' : World, Calls Oahg.prog 15 #[.agg #[.int .u8 11, .int .u8 52], .int .u8 0, .int .u64 x] w' fun r w'' => r = .returned (.bool true) ∧ Below w'.heap.size w' w'' := by
    intro w
    go_enter Oahg.func15, Oahg.ntmps15
    go_wp2
    obtain ⟨W, eW⟩ : ∃ W, W = w.alloc (.cells #[.int .u8 11, .int .u8 52] 23) := ⟨_, rfl⟩
    have hB : Below w.heap.size w W := by rw [eW]; exact (Below.refl _ _).alloc (Nat.le_refl _) _
    have c0 : W.cell? ⟨w.heap.size, 0, none⟩ = some (.int .u8 11) := by rw [eW]; simp [go_sem]
    have c1 : W.cell? ⟨w.heap.size, 1, none⟩ = some (.int .u8 52) := by rw [eW]; simp [go_sem]
    rw [← eW]
    clear eW
    have d0 : ∀ x : Ext W, x.w.cell? ⟨w.heap.size, 0, none⟩ = some (.int .u8 11) := fun x => x.cell c0
    have d1 : ∀ x : Ext W, x.w.cell? ⟨w.heap.size, 1, none⟩ = some (.int .u8 52) := fun x => x.cell c1
    have hX : Nonempty (Ext W) := Ext.some _
    refine wp_region_ext (by kernel_rfl) (by kernel_rfl) ?_
    repeat (go_big_quiet_step (first | (go_at_call 18; exact Calls.ext_of (hok _)) | (go_at_call 21; exact Calls.ext_of (hs _)) | (go_at_call 22; exact Calls.ext_of (he _))))
    refine wpQuiet_nil ?_
    rintro _ ⟨z, rfl⟩
    have hBx : Below w.heap.size w z.w := hB.trans (z.hb.mono hB.size)
    generalize z.w = wx at *
    clear d0 d1 hX
    go_wp2
    go_ret
    exact ⟨rfl, hBx⟩
  clear hS hX hs he hok e1 e2 e3 h
  go_enter Oahg.func10, Oahg.ntmps10
  go_wp2_with fail
  refine (binary64_any _).mono ?_
  rintro e w1 ⟨rfl, hb1⟩
  go_wp2_with fail
  refine (hl _).mono ?_
  rintro e w2 ⟨rfl, hb2⟩
  have hB : Below w.heap.size w w2 := hb1.trans (hb2.mono hb1.size)
  go_wp2
  go_ret
  exact ⟨rfl, hB⟩

end Go.Proofs.Ygcoah
