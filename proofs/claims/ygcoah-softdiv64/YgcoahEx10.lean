/-
  THE WALKS OF PACKAGE exact, 10: open.
-/
import Derived.Test.YgcoahEx9
import Derived.Test.YgcoahTwo4
import Derived.Test.YgcoahLast
namespace Go.Proofs.Ygcoah
open Go.RowKit

/-- A pattern's own bits. -/
def cutP (E M x : Nat) : Nat := x % 2 ^ (E + M + 1)

theorem cutP_unp (E M x : Nat) : unp E M (cutP E M x) = unp E M x ∧ negOf E M (cutP E M x) = negOf E M x := by
  have e1 : negOf E M (cutP E M x) = negOf E M x := by
    unfold negOf cutP
    rw [Nat.pow_succ, Nat.mod_mul_right_div_self, Nat.mod_mod]
  have e2 : expOf E M (cutP E M x) = expOf E M x := by
    unfold expOf cutP
    rw [show E + M + 1 = M + (E + 1) by omega, Nat.pow_add, Nat.mod_mul_right_div_self, Nat.mod_mod_of_dvd _ ⟨2, Nat.pow_succ _ _⟩]
  have e3 : manOf M (cutP E M x) = manOf M x := by
    unfold manOf cutP
    rw [show E + M + 1 = M + (E + 1) by omega, Nat.pow_add, Nat.mod_mod_of_dvd _ ⟨_, rfl⟩]
  refine ⟨?_, e1⟩
  unfold unp
  rw [e1, e2, e3]

theorem cutP_lt {E M : Nat} (h : FOk E M) (x : Nat) : cutP E M x < 18446744073709551616 := by
  have h1 := h.pow
  have h2 : cutP E M x < 2 ^ (E + M + 1) := Nat.mod_lt _ (pow_pos2 _)
  rw [Nat.pow_succ] at h2
  omega

theorem and_maskP (E M x : Nat) (h : FOk E M) (hx : x < 18446744073709551616) : bits .and .u64 (x : Int) (mskP E M : Int) = (cutP E M x : Int) := by
  have h1 := h.pow
  have h2 := Nat.pow_succ (n := 2) (m := E + M)
  rw [u64_and_nat _ _ hx (by unfold mskP; omega)]
  unfold mskP cutP
  rw [Nat.and_two_pow_sub_one_eq_mod]

/-- The fraction that an operand bears. -/
def opN (p : Pt) : Nat := if p.cls ≤ 2 then p.man * P2 p.exp else 0
def opD (p : Pt) : Nat := if p.cls ≤ 2 then P2 (-p.exp) else 1
def opS (p : Pt) : Bool := if p.cls ≤ 2 then p.neg else false

theorem value_any (E M x : Nat) (w : World) (h : FOk E M) (hx : x < 18446744073709551616) :
    Calls Oahg.prog 101 #[.agg #[.int .u8 E, .int .u8 M], .int .u64 x] w fun e w' => (∃ v, e = .returned (.tuple #[v, .int .i8 (unp E M x).cls]) ∧ RatV w' v (opS (unp E M x)) (opN (unp E M x)) (opD (unp E M x))) ∧ Below w.heap.size w w' := by
  obtain ⟨f1, f2, f3, f4⟩ := unp_facts E M x h
  unfold opS opN opD
  by_cases c : (unp E M x).cls ≤ 2
  · rw [if_pos c, if_pos c, if_pos c]
    exact value_num E M x _ _ _ _ w h hx rfl c f4 f2 f3
  · rw [if_neg c, if_neg c, if_neg c]
    exact value_spec E M x _ (unp E M x).man (unp E M x).neg (unp E M x).exp w h hx rfl (by omega)

/-- An operand. -/
def OpV (E M x : Nat) (w : World) (v : Value) : Prop := ∃ a n c b m d, v = .agg #[.int .u64 (cutP E M x), .bool (negOf E M x), .int .i8 (unp E M x).cls, .bool (opS (unp E M x)), .slice a n c, .slice b m d] ∧
  NatV w (.slice a n c) (opN (unp E M x)) ∧ NatV w (.slice b m d) (opD (unp E M x))

theorem wpOp_st77 {ops : Array Oper} {Q : Exit → Act → World → Prop} {i : Nat} {K : Act → World → Prop} {a : Act} {w : World} {b d u ty : Nat} {s : String} {A : Array Edge} {X c : Int} {n1 n2 : Bool} {a1 a2 : Option Addr} {l1 l2 k1 k2 : Nat} (ho : ops[i]? = some ⟨none, .store 77 (.tmp d) (.tmp u), ty, s, A, none⟩)
    (hf : Fresh zs77 w b) (he : a.eval (.tmp d) = .pointer (some ⟨b, 0, none⟩)) (hu : a.eval (.tmp u) = .agg #[.int .u64 X, .bool n1, .int .i8 c, .bool n2, .slice a1 l1 k1, .slice a2 l2 k2])
    (h : ∀ w', Held w' b (.agg #[.int .u64 X, .bool n1, .int .i8 c, .bool n2, .slice a1 l1 k1, .slice a2 l2 k2]) → St b w w' → K (a.put none undef) w') : wpOp Oahg.prog ops Q i K a w := by
  obtain ⟨w', hrun, hh, hs⟩ := st77 a.eval b d u ty s A w X c n1 n2 a1 a2 l1 l2 k1 k2 hf he hu
  exact wpOp_skip ho rfl hrun (h w' hh hs)

set_option maxRecDepth 100000 in
set_option maxHeartbeats 3200000 in
theorem open_any (E M x : Nat) (w : World) (h : FOk E M) (hx : x < 18446744073709551616) :
    Calls Oahg.prog 59 #[.agg #[.int .u8 E, .int .u8 M], .int .u64 x] w fun e w' => (∃ v, e = .returned v ∧ OpV E M x w' v) ∧ Below w.heap.size w w' := by
  have hxc := cutP_lt h x
  obtain ⟨u1, u2⟩ := cutP_unp E M x
  have hva := fun w' => value_any E M (cutP E M x) w' h hxc
  have hng := neg_fact E M (cutP E M x) h hxc
  rw [u1] at hva
  rw [u2] at hng
  have hma := fun w' => mask_any E M w' h
  have hsb := fun w' => signBit_any E M w' h
  have han := and_maskP E M x h hx
  unfold OpV
  generalize cutP E M x = X at *
  generalize negOf E M x = NG at *
  generalize hcls : (unp E M x).cls = cls at *
  generalize opS (unp E M x) = S1 at *
  generalize opN (unp E M x) = N1 at *
  generalize opD (unp E M x) = D1 at *
  clear u1 u2 hcls hxc
  go_enter Oahg.func59, Oahg.ntmps59
  go_wp2_with fail
  refine (hma _).mono ?_
  rintro e wa ⟨rfl, hba⟩
  have c0 : wa.cell? ⟨w.heap.size, 0, none⟩ = some (.int .u8 E) := cell_later hba (by simp [go_sem])
  have c1 : wa.cell? ⟨w.heap.size, 1, none⟩ = some (.int .u8 M) := cell_later hba (by simp [go_sem])
  have fr0 := fresh77 (w.alloc (.cells #[.int .u8 E, .int .u8 M] 23))
  have fr : Hid (Fresh zs77 wa (w.heap.size + 1)) := by
    have e : (w.alloc (.cells #[.int .u8 E, .int .u8 M] 23)).heap.size = w.heap.size + 1 := by simp
    rw [e] at fr0
    exact fr0.below hba
  clear fr0
  have hBa : Below w.heap.size w wa := (((Below.refl _ _).alloc (Nat.le_refl _) _).alloc (by simp) _).trans (hba.mono (by simp; omega))
  clear hba
  go_wp2_with fail
  refine (hva _).mono ?_
  rintro e wb ⟨⟨v, rfl, a3, n3, k3, a4, n4, k4, rfl, hv3, hv4⟩, hbb⟩
  have hBb := hBa.trans (hbb.mono hBa.size)
  have c0 := cell_later hbb c0
  have c1 := cell_later hbb c1
  have fr : Hid (Fresh zs77 wb (w.heap.size + 1)) := fr.out.below hbb
  clear hva hma hBa
  go_wp2
  obtain ⟨W, eW⟩ : ∃ W, W = wb.alloc (.cells #[.bool S1, .slice a3 n3 k3, .slice a4 n4 k4] 75) := ⟨_, rfl⟩
  have hbW : Below wb.heap.size wb W := by rw [eW]; exact (Below.refl _ _).alloc (Nat.le_refl _) _
  have s0 : W.cell? ⟨wb.heap.size, 0, none⟩ = some (.bool S1) := by rw [eW]; simp [go_sem]
  have s1 : W.cell? ⟨wb.heap.size, 1, none⟩ = some (.slice a3 n3 k3) := by rw [eW]; simp [go_sem]
  have s2 : W.cell? ⟨wb.heap.size, 2, none⟩ = some (.slice a4 n4 k4) := by rw [eW]; simp [go_sem]
  rw [← eW]
  clear eW
  have hBW := hBb.trans (hbW.mono hBb.size)
  have fr : Hid (Fresh zs77 W (w.heap.size + 1)) := fr.out.below hbW
  have c0 := cell_later hbW c0
  have c1 := cell_later hbW c1
  have hv3 := hv3.below hbW
  have hv4 := hv4.below hbW
  clear hBb hbb hbW
  generalize wb.heap.size = bp at *
  have d0 : ∀ x : Ext W, x.w.cell? ⟨w.heap.size, 0, none⟩ = some (.int .u8 E) := fun x => x.cell c0
  have d1 : ∀ x : Ext W, x.w.cell? ⟨w.heap.size, 1, none⟩ = some (.int .u8 M) := fun x => x.cell c1
  have d2 : ∀ x : Ext W, x.w.cell? ⟨bp, 0, none⟩ = some (.bool S1) := fun x => x.cell s0
  have d3 : ∀ x : Ext W, x.w.cell? ⟨bp, 1, none⟩ = some (.slice a3 n3 k3) := fun x => x.cell s1
  have d4 : ∀ x : Ext W, x.w.cell? ⟨bp, 2, none⟩ = some (.slice a4 n4 k4) := fun x => x.cell s2
  have hX : Nonempty (Ext W) := Ext.some _
  refine wp_region_ext_last (l := [⟨some 17, .move (.tmp 1), 25, _, #[], none⟩, ⟨some 18, .move (.tmp 1), 25, _, #[], none⟩, ⟨some 19, .load 23 (.tmp 2), 23, _, #[], none⟩,
    ⟨some 20, .call { callee := .value (.func 82), args := #[.tmp 19], argTypes := #[23] }, 25, _, #[{ on := 2, ground := .data }], none⟩,
    ⟨some 21, .binOp .and 25 (.tmp 18) (.tmp 20) 25, 25, _, #[{ on := 1, ground := .data }, { on := 3, ground := .data }], none⟩,
    ⟨some 22, .binOp .neq 25 (.tmp 21) (.const (.int .u64 0)) 25, 4, _, #[{ on := 4, ground := .data }], none⟩, ⟨some 23, .move (.tmp 6), 61, _, #[], none⟩, ⟨some 24, .load 75 (.tmp 5), 75, _, #[], none⟩,
    ⟨some 25, .build 77 #[(0, .tmp 17), (1, .tmp 22), (2, .tmp 23), (3, .tmp 24)], 77, _, #[{ on := 0, ground := .data }, { on := 5, ground := .data }, { on := 6, ground := .data }, { on := 7, ground := .data }], none⟩])
    (last := ⟨none, .store 77 (.tmp 4) (.tmp 25), 0, _, #[{ on := 8, ground := .data }, { on := 3, ground := .chain }, { on := 0, ground := .phase }, { on := 1, ground := .phase }, { on := 2, ground := .phase }, { on := 3, ground := .phase }, { on := 4, ground := .phase }, { on := 5, ground := .phase }, { on := 6, ground := .phase }, { on := 7, ground := .phase }, { on := 8, ground := .phase }], none⟩)
    rfl (by kernel_rfl) (by kernel_rfl) (by kernel_rfl) (by decide) ?_ ?_
  · intro j o ho
    have hj : j < 9 := (Array.getElem?_eq_some_iff.1 ho).1
    match j, hj with
    | 0, _ => obtain rfl := (Option.some.inj ho).symm; rfl
    | 1, _ => obtain rfl := (Option.some.inj ho).symm; rfl
    | 2, _ => obtain rfl := (Option.some.inj ho).symm; rfl
    | 3, _ => obtain rfl := (Option.some.inj ho).symm; rfl
    | 4, _ => obtain rfl := (Option.some.inj ho).symm; rfl
    | 5, _ => obtain rfl := (Option.some.inj ho).symm; rfl
    | 6, _ => obtain rfl := (Option.some.inj ho).symm; rfl
    | 7, _ => obtain rfl := (Option.some.inj ho).symm; rfl
    | 8, _ => obtain rfl := (Option.some.inj ho).symm; rfl
  repeat (go_big_quiet_step ((go_at_call 82; exact Calls.ext_of (hsb _))))
  refine wpQuiet_nil ?_
  rintro _ ⟨z, rfl⟩
  have hBx : Below w.heap.size w z.w := hBW.trans (z.hb.mono hBW.size)
  have frz := fr.out.below z.hb
  have hw3 := hv3.below z.hb
  have hw4 := hv4.below z.hb
  refine wpOp_st77 (b := w.heap.size + 1) (X := X) (c := cls) (n1 := NG) (n2 := S1) (a1 := a3) (a2 := a4) (l1 := n3) (l2 := n4) (k1 := k3) (k2 := k4) (by rfl) frz (by rfl) (by rfl) ?_
  intro w' hh hs
  obtain ⟨t0, t1, t2, t3, t4, t5⟩ := held77 hh
  have hBy := hs.below _ hBx (by simp)
  have hy3 := hs.nat _ _ hw3
  have hy4 := hs.nat _ _ hw4
  clear hs hh frz hw3 hw4 hv3 hv4 fr s0 s1 s2 c0 c1 d0 d1 d2 d3 d4 hX
  simp only [Act.put]
  go_wp2
  exact bodyPost_ret (v := .agg #[.int .u64 X, .bool NG, .int .i8 cls, .bool S1, .slice a3 n3 k3, .slice a4 n4 k4]) (by simp [results, Oahg.results59, go_sem, t0, t1, t2, t3, t4, t5]) rfl ⟨⟨_, rfl, _, _, _, _, _, _, rfl, hy3, hy4⟩, hBy⟩

end Go.Proofs.Ygcoah
