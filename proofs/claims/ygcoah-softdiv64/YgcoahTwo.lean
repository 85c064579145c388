/-
  THE REGION 'x, y := f(a), f(b)' (two calls, two cells of their own, two stores, their order drawn), once for all functions that hold it: by an invariant.
-/
import Derived.Test.YgcoahInv
import Derived.Test.YgcoahEx2
import Derived.Great.Frames
namespace Go.Proofs.Ygcoah
open Go.RowKit

/-! ### Frames -/
theorem Act.ext' {a b : Act} (h1 : a.defers = b.defers) (h2 : a.tmps = b.tmps) : a = b := by cases a; cases b; simp_all

theorem put_put (a : Act) (d : Nat) (u v : Value) : (a.put (some d) u).put (some d) v = a.put (some d) v := by
  unfold Act.put; simp [Array.setIfInBounds_setIfInBounds]

theorem put_self (a : Act) (d : Nat) : a.put (some d) (a.eval (.tmp d)) = a := by
  have e : a.tmps.setIfInBounds d (a.tmps.getD d undef) = a.tmps := by
    refine Array.ext (by simp) fun i h1 h2 => ?_
    rw [Array.getElem_setIfInBounds]
    split
    · rename_i e; subst e; simp [h2]
    · rfl
  exact Act.ext' rfl e

theorem put_swap (a : Act) {d e : Nat} (u v : Value) (h : d ≠ e) : (a.put (some d) u).put (some e) v = (a.put (some e) v).put (some d) u :=
  (Act.put_comm a v u (fun x hx hy => by cases hx; cases hy; exact h rfl)).symm

section
variable (a : Act) (p0 p1 p2 q0 q1 q2 : Nat)
def puts8 (u0 u1 u2 u3 u4 u5 u6 u7 : Value) : Act :=
  (((((((a.put (some p0) u0).put (some p1) u1).put (some p2) u2).put (some q0) u3).put (some q1) u4).put (some q2) u5).put (some 10) u6).put (some 11) u7
end

/-- The slots: apart from each other and from 2, 3, 4, 10, 11; within the frame. -/
structure Slots (n p0 p1 p2 q0 q1 q2 : Nat) : Prop where
  lt : 11 < p0 ∧ p0 < p1 ∧ p1 < p2 ∧ p2 < q0 ∧ q0 < q1 ∧ q1 < q2 ∧ q2 < n

theorem puts8_0 {a : Act} {p0 p1 p2 q0 q1 q2 : Nat} (S : Slots a.tmps.size p0 p1 p2 q0 q1 q2) (u0 u1 u2 u3 u4 u5 u6 u7 v : Value) : (puts8 a p0 p1 p2 q0 q1 q2 u0 u1 u2 u3 u4 u5 u6 u7).put (some p0) v = puts8 a p0 p1 p2 q0 q1 q2 v u1 u2 u3 u4 u5 u6 u7 := by
  obtain ⟨l0, l1, l2, l3, l4, l5, l6⟩ := S.lt
  unfold puts8
  rw [put_swap _ _ _ (by omega : 11 ≠ p0), put_swap _ _ _ (by omega : 10 ≠ p0), put_swap _ _ _ (by omega : q2 ≠ p0), put_swap _ _ _ (by omega : q1 ≠ p0), put_swap _ _ _ (by omega : q0 ≠ p0), put_swap _ _ _ (by omega : p2 ≠ p0), put_swap _ _ _ (by omega : p1 ≠ p0), put_put]
theorem puts8_1 {a : Act} {p0 p1 p2 q0 q1 q2 : Nat} (S : Slots a.tmps.size p0 p1 p2 q0 q1 q2) (u0 u1 u2 u3 u4 u5 u6 u7 v : Value) : (puts8 a p0 p1 p2 q0 q1 q2 u0 u1 u2 u3 u4 u5 u6 u7).put (some p1) v = puts8 a p0 p1 p2 q0 q1 q2 u0 v u2 u3 u4 u5 u6 u7 := by
  obtain ⟨l0, l1, l2, l3, l4, l5, l6⟩ := S.lt
  unfold puts8
  rw [put_swap _ _ _ (by omega : 11 ≠ p1), put_swap _ _ _ (by omega : 10 ≠ p1), put_swap _ _ _ (by omega : q2 ≠ p1), put_swap _ _ _ (by omega : q1 ≠ p1), put_swap _ _ _ (by omega : q0 ≠ p1), put_swap _ _ _ (by omega : p2 ≠ p1), put_put]
theorem puts8_2 {a : Act} {p0 p1 p2 q0 q1 q2 : Nat} (S : Slots a.tmps.size p0 p1 p2 q0 q1 q2) (u0 u1 u2 u3 u4 u5 u6 u7 v : Value) : (puts8 a p0 p1 p2 q0 q1 q2 u0 u1 u2 u3 u4 u5 u6 u7).put (some p2) v = puts8 a p0 p1 p2 q0 q1 q2 u0 u1 v u3 u4 u5 u6 u7 := by
  obtain ⟨l0, l1, l2, l3, l4, l5, l6⟩ := S.lt
  unfold puts8
  rw [put_swap _ _ _ (by omega : 11 ≠ p2), put_swap _ _ _ (by omega : 10 ≠ p2), put_swap _ _ _ (by omega : q2 ≠ p2), put_swap _ _ _ (by omega : q1 ≠ p2), put_swap _ _ _ (by omega : q0 ≠ p2), put_put]
theorem puts8_3 {a : Act} {p0 p1 p2 q0 q1 q2 : Nat} (S : Slots a.tmps.size p0 p1 p2 q0 q1 q2) (u0 u1 u2 u3 u4 u5 u6 u7 v : Value) : (puts8 a p0 p1 p2 q0 q1 q2 u0 u1 u2 u3 u4 u5 u6 u7).put (some q0) v = puts8 a p0 p1 p2 q0 q1 q2 u0 u1 u2 v u4 u5 u6 u7 := by
  obtain ⟨l0, l1, l2, l3, l4, l5, l6⟩ := S.lt
  unfold puts8
  rw [put_swap _ _ _ (by omega : 11 ≠ q0), put_swap _ _ _ (by omega : 10 ≠ q0), put_swap _ _ _ (by omega : q2 ≠ q0), put_swap _ _ _ (by omega : q1 ≠ q0), put_put]
theorem puts8_4 {a : Act} {p0 p1 p2 q0 q1 q2 : Nat} (S : Slots a.tmps.size p0 p1 p2 q0 q1 q2) (u0 u1 u2 u3 u4 u5 u6 u7 v : Value) : (puts8 a p0 p1 p2 q0 q1 q2 u0 u1 u2 u3 u4 u5 u6 u7).put (some q1) v = puts8 a p0 p1 p2 q0 q1 q2 u0 u1 u2 u3 v u5 u6 u7 := by
  obtain ⟨l0, l1, l2, l3, l4, l5, l6⟩ := S.lt
  unfold puts8
  rw [put_swap _ _ _ (by omega : 11 ≠ q1), put_swap _ _ _ (by omega : 10 ≠ q1), put_swap _ _ _ (by omega : q2 ≠ q1), put_put]
theorem puts8_5 {a : Act} {p0 p1 p2 q0 q1 q2 : Nat} (S : Slots a.tmps.size p0 p1 p2 q0 q1 q2) (u0 u1 u2 u3 u4 u5 u6 u7 v : Value) : (puts8 a p0 p1 p2 q0 q1 q2 u0 u1 u2 u3 u4 u5 u6 u7).put (some q2) v = puts8 a p0 p1 p2 q0 q1 q2 u0 u1 u2 u3 u4 v u6 u7 := by
  obtain ⟨l0, l1, l2, l3, l4, l5, l6⟩ := S.lt
  unfold puts8
  rw [put_swap _ _ _ (by omega : 11 ≠ q2), put_swap _ _ _ (by omega : 10 ≠ q2), put_put]
theorem puts8_6 {a : Act} {p0 p1 p2 q0 q1 q2 : Nat} (u0 u1 u2 u3 u4 u5 u6 u7 v : Value) : (puts8 a p0 p1 p2 q0 q1 q2 u0 u1 u2 u3 u4 u5 u6 u7).put (some 10) v = puts8 a p0 p1 p2 q0 q1 q2 u0 u1 u2 u3 u4 u5 v u7 := by
  unfold puts8
  rw [put_swap _ _ _ (by decide : 11 ≠ 10), put_put]
theorem puts8_7 {a : Act} {p0 p1 p2 q0 q1 q2 : Nat} (u0 u1 u2 u3 u4 u5 u6 u7 v : Value) : (puts8 a p0 p1 p2 q0 q1 q2 u0 u1 u2 u3 u4 u5 u6 u7).put (some 11) v = puts8 a p0 p1 p2 q0 q1 q2 u0 u1 u2 u3 u4 u5 u6 v := by
  unfold puts8
  rw [put_put]

theorem puts8_evals {a : Act} {p0 p1 p2 q0 q1 q2 : Nat} (S : Slots a.tmps.size p0 p1 p2 q0 q1 q2) (u0 u1 u2 u3 u4 u5 u6 u7 : Value) : (puts8 a p0 p1 p2 q0 q1 q2 u0 u1 u2 u3 u4 u5 u6 u7).eval (.tmp p0) = u0 ∧ (puts8 a p0 p1 p2 q0 q1 q2 u0 u1 u2 u3 u4 u5 u6 u7).eval (.tmp p1) = u1 ∧
    (puts8 a p0 p1 p2 q0 q1 q2 u0 u1 u2 u3 u4 u5 u6 u7).eval (.tmp p2) = u2 ∧ (puts8 a p0 p1 p2 q0 q1 q2 u0 u1 u2 u3 u4 u5 u6 u7).eval (.tmp q0) = u3 ∧ (puts8 a p0 p1 p2 q0 q1 q2 u0 u1 u2 u3 u4 u5 u6 u7).eval (.tmp q1) = u4 ∧
    (puts8 a p0 p1 p2 q0 q1 q2 u0 u1 u2 u3 u4 u5 u6 u7).eval (.tmp q2) = u5 ∧ (puts8 a p0 p1 p2 q0 q1 q2 u0 u1 u2 u3 u4 u5 u6 u7).eval (.tmp 10) = u6 ∧ (puts8 a p0 p1 p2 q0 q1 q2 u0 u1 u2 u3 u4 u5 u6 u7).eval (.tmp 11) = u7 ∧
    (∀ t : Nat, t = 2 ∨ t = 3 ∨ t = 4 → (puts8 a p0 p1 p2 q0 q1 q2 u0 u1 u2 u3 u4 u5 u6 u7).eval (.tmp t) = a.eval (.tmp t)) := by
  obtain ⟨l0, l1, l2, l3, l4, l5, l6⟩ := S.lt
  unfold puts8
  refine ⟨?_, ?_, ?_, ?_, ?_, ?_, ?_, ?_, ?_⟩
  · rw [Act.eval_put_ne _ _ _ _ (by omega), Act.eval_put_ne _ _ _ _ (by omega), Act.eval_put_ne _ _ _ _ (by omega), Act.eval_put_ne _ _ _ _ (by omega), Act.eval_put_ne _ _ _ _ (by omega), Act.eval_put_ne _ _ _ _ (by omega), Act.eval_put_ne _ _ _ _ (by omega)]
    exact Act.eval_put_same _ _ _ (by omega)
  · rw [Act.eval_put_ne _ _ _ _ (by omega), Act.eval_put_ne _ _ _ _ (by omega), Act.eval_put_ne _ _ _ _ (by omega), Act.eval_put_ne _ _ _ _ (by omega), Act.eval_put_ne _ _ _ _ (by omega), Act.eval_put_ne _ _ _ _ (by omega)]
    exact Act.eval_put_same _ _ _ (by simp only [Act.size_put]; omega)
  · rw [Act.eval_put_ne _ _ _ _ (by omega), Act.eval_put_ne _ _ _ _ (by omega), Act.eval_put_ne _ _ _ _ (by omega), Act.eval_put_ne _ _ _ _ (by omega), Act.eval_put_ne _ _ _ _ (by omega)]
    exact Act.eval_put_same _ _ _ (by simp only [Act.size_put]; omega)
  · rw [Act.eval_put_ne _ _ _ _ (by omega), Act.eval_put_ne _ _ _ _ (by omega), Act.eval_put_ne _ _ _ _ (by omega), Act.eval_put_ne _ _ _ _ (by omega)]
    exact Act.eval_put_same _ _ _ (by simp only [Act.size_put]; omega)
  · rw [Act.eval_put_ne _ _ _ _ (by omega), Act.eval_put_ne _ _ _ _ (by omega), Act.eval_put_ne _ _ _ _ (by omega)]
    exact Act.eval_put_same _ _ _ (by simp only [Act.size_put]; omega)
  · rw [Act.eval_put_ne _ _ _ _ (by omega), Act.eval_put_ne _ _ _ _ (by omega)]
    exact Act.eval_put_same _ _ _ (by simp only [Act.size_put]; omega)
  · rw [Act.eval_put_ne _ _ _ _ (by omega)]
    exact Act.eval_put_same _ _ _ (by simp only [Act.size_put]; omega)
  · exact Act.eval_put_same _ _ _ (by simp only [Act.size_put]; omega)
  · intro t ht
    rw [Act.eval_put_ne _ 11 t _ (by omega), Act.eval_put_ne _ 10 t _ (by omega), Act.eval_put_ne _ q2 t _ (by omega), Act.eval_put_ne _ q1 t _ (by omega), Act.eval_put_ne _ q0 t _ (by omega), Act.eval_put_ne _ p2 t _ (by omega), Act.eval_put_ne _ p1 t _ (by omega), Act.eval_put_ne _ p0 t _ (by omega)]

theorem puts8_self (a : Act) (p0 p1 p2 q0 q1 q2 : Nat) :
    puts8 a p0 p1 p2 q0 q1 q2 (a.eval (.tmp p0)) (a.eval (.tmp p1)) (a.eval (.tmp p2)) (a.eval (.tmp q0)) (a.eval (.tmp q1)) (a.eval (.tmp q2)) (a.eval (.tmp 10)) (a.eval (.tmp 11)) = a := by
  unfold puts8
  rw [put_self a p0, put_self a p1, put_self a p2, put_self a q0, put_self a q1, put_self a q2, put_self a 10, put_self a 11]

/-! ### Memory -/
/-- The block b is whole at its zeros zs. -/
def Fresh (zs : Array Value) (w : World) (b : Nat) : Prop := ∀ i (h : i < zs.size), w.cell? ⟨b, i, none⟩ = some zs[i] ∧ w.frozen? ⟨b, i, none⟩ = false
/-- The block b holds the parts of v. -/
def Held (w : World) (b : Nat) (v : Value) : Prop := ∃ vs : Array Value, v = .agg vs ∧ ∀ i (h : i < vs.size), w.cell? ⟨b, i, none⟩ = some vs[i]

/-- A store into block b. -/
structure St (b : Nat) (w w' : World) : Prop where
  size : w'.heap.size = w.heap.size
  cell : ∀ c o, c ≠ b → w'.cell? ⟨c, o, none⟩ = w.cell? ⟨c, o, none⟩
  frozen : ∀ c o, c ≠ b → w'.frozen? ⟨c, o, none⟩ = w.frozen? ⟨c, o, none⟩
  below : ∀ W : World, Below W.heap.size W w → W.heap.size ≤ b → Below W.heap.size W w'
  nat : ∀ v x, NatV w v x → NatV w' v x

theorem Fresh.below {zs : Array Value} {w w' : World} {b : Nat} (h : Fresh zs w b) (hb : Below w.heap.size w w') : Fresh zs w' b := fun i hi =>
  ⟨cell_later hb (h i hi).1, frozen_later hb (h i hi).1 (h i hi).2⟩
theorem Held.below {w w' : World} {b : Nat} {v : Value} (h : Held w b v) (hb : Below w.heap.size w w') : Held w' b v := by
  obtain ⟨vs, e, hc⟩ := h
  exact ⟨vs, e, fun i hi => cell_later hb (hc i hi)⟩
theorem Fresh.st {zs : Array Value} {w w' : World} {b c : Nat} (h : Fresh zs w b) (hs : St c w w') (hn : b ≠ c) : Fresh zs w' b := fun i hi =>
  ⟨(hs.cell b i hn).trans (h i hi).1, (hs.frozen b i hn).trans (h i hi).2⟩
theorem Held.st {w w' : World} {b c : Nat} {v : Value} (h : Held w b v) (hs : St c w w') (hn : b ≠ c) : Held w' b v := by
  obtain ⟨vs, e, hc⟩ := h
  exact ⟨vs, e, fun i hi => (hs.cell b i hn).trans (hc i hi)⟩

/-- A pointer to a block of one's own: at its zeros, or holding v. -/
def Blk (zs : Array Value) (W w : World) (st : Bool) (p v : Value) : Prop := ∃ b, p = .pointer (some ⟨b, 0, none⟩) ∧ W.heap.size ≤ b ∧ b < w.heap.size ∧ (st = false → Fresh zs w b) ∧ (st = true → Held w b v)

theorem Blk.below {zs : Array Value} {W w w' : World} {st : Bool} {p v : Value} (h : Blk zs W w st p v) (hb : Below w.heap.size w w') : Blk zs W w' st p v := by
  obtain ⟨b, e, h1, h2, h3, h4⟩ := h
  exact ⟨b, e, h1, Nat.lt_of_lt_of_le h2 hb.size, fun c => (h3 c).below hb, fun c => (h4 c).below hb⟩

theorem Blk.st {zs : Array Value} {W w w' : World} {st : Bool} {p v : Value} {c : Nat} (h : Blk zs W w st p v) (hs : St c w w') (hn : p ≠ .pointer (some ⟨c, 0, none⟩)) : Blk zs W w' st p v := by
  obtain ⟨b, e, h1, h2, h3, h4⟩ := h
  have hbc : b ≠ c := fun x => hn (by rw [e, x])
  exact ⟨b, e, h1, by rw [hs.size]; exact h2, fun c => (h3 c).st hs hbc, fun c => (h4 c).st hs hbc⟩

/-- What a value's meaning must bear: new memory, and a store. -/
structure Lasts (R : World → Value → Prop) : Prop where
  below : ∀ w w' v, R w v → Below w.heap.size w w' → R w' v
  st : ∀ b w w' v, R w v → St b w w' → R w' v

/-- The state of the region, by what has come up. -/
structure TwoJ (zs : Array Value) (W : World) (R1 R2 : World → Value → Prop) (fm X Y : Value) (l0 l1 l2 l3 l4 l5 l6 l7 l8 l9 : Bool) (u0 u1 u2 u3 u4 u5 u6 u7 : Value) (w : World) : Prop where
  bel : Below W.heap.size W w
  j0 : l0 = true → u0 = fm
  j1 : l1 = true → u1 = X
  j2 : l2 = true → R1 w u2
  j3 : l3 = true → u3 = fm
  j4 : l4 = true → u4 = Y
  j5 : l5 = true → R2 w u5
  j6 : l6 = true → Blk zs W w l8 u6 u2
  j7 : l7 = true → Blk zs W w l9 u7 u5
  jn : l6 = true → l7 = true → u6 ≠ u7
  j8 : l8 = true → l2 = true
  j9 : l9 = true → l5 = true
  j86 : l8 = true → l6 = true
  j97 : l9 = true → l7 = true

/-- One operation that is wanted and yields a value, or nothing, or calls. -/
theorem wpOp_value {P : Program} {ops : Array Oper} {Q : Exit → Act → World → Prop} {i : Nat} {K : Act → World → Prop} {a : Act} {w w' : World} {o : Oper} {v : Value} (ho : ops[i]? = some o) (hg : o.guard = none) (hx : (execOp a.eval o).run P w = .ok (.value v) w') (h : K (a.put o.dst v) w') : wpOp P ops Q i K a w := by
  unfold wpOp
  simp only [ho]
  rw [if_pos (by unfold Region.wanted; rw [hg])]
  left
  unfold Oper.wp
  rw [hx]
  exact h
theorem wpOp_skip {P : Program} {ops : Array Oper} {Q : Exit → Act → World → Prop} {i : Nat} {K : Act → World → Prop} {a : Act} {w w' : World} {o : Oper} (ho : ops[i]? = some o) (hg : o.guard = none) (hx : (execOp a.eval o).run P w = .ok .skip w') (h : K (a.put o.dst undef) w') : wpOp P ops Q i K a w := by
  unfold wpOp
  simp only [ho]
  rw [if_pos (by unfold Region.wanted; rw [hg])]
  left
  unfold Oper.wp
  rw [hx]
  exact h
theorem wpOp_call {P : Program} {ops : Array Oper} {Q : Exit → Act → World → Prop} {i : Nat} {K : Act → World → Prop} {a : Act} {w : World} {o : Oper} {f : FuncId} {args : Array Value} (ho : ops[i]? = some o) (hg : o.guard = none) (hx : (execOp a.eval o).run P w = .ok (.enter f args) w) (h : Calls P f args w fun e w' => ∃ v, e = .returned v ∧ K (a.put o.dst v) w') : wpOp P ops Q i K a w := by
  unfold wpOp
  simp only [ho]
  rw [if_pos (by unfold Region.wanted; rw [hg])]
  left
  unfold Oper.wp
  rw [hx]
  exact h.mono fun e w' ⟨v, he, hk⟩ => by subst he; exact hk

theorem x_load {ev : Operand → Value} {b E M d : Nat} {s : String} {A : Array Edge} {w : World} (he : ev (.tmp 4) = .pointer (some ⟨b, 0, none⟩)) (c0 : w.cell? ⟨b, 0, none⟩ = some (.int .u8 E)) (c1 : w.cell? ⟨b, 1, none⟩ = some (.int .u8 M)) :
    (execOp ev ⟨some d, .load 23 (.tmp 4), 23, s, A, none⟩).run Oahg.prog w = .ok (.value (.agg #[.int .u8 E, .int .u8 M])) w := by
  simp [execOp, go_sem, he, c0, c1]

theorem x_move {ev : Operand → Value} {t d : Nat} {s : String} {A : Array Edge} {w : World} {v : Value} (he : ev (.tmp t) = v) :
    (execOp ev ⟨some d, .move (.tmp t), 25, s, A, none⟩).run Oahg.prog w = .ok (.value v) w := by
  simp [execOp, go_sem, he]

theorem x_call {ev : Operand → Value} {F T p0 p1 d : Nat} {s : String} {A : Array Edge} {w : World} {u v : Value} (hF : ev (.func F) = .func (.func F) #[] #[]) (hu : ev (.tmp p0) = u) (hv : ev (.tmp p1) = v) (hc : (callFunc F #[u, v]).run Oahg.prog w = .ok (.enter F #[u, v]) w) :
    (execOp ev ⟨some d, .call { callee := .value (.func F), args := #[.tmp p0, .tmp p1], argTypes := #[23, 25] }, T, s, A, none⟩).run Oahg.prog w = .ok (.enter F #[u, v]) w := by
  simp [execOp, go_sem, hF, hu, hv, hc]

/-- Does an operation wait for number i? -/
def waitsOn (A : Array Edge) (i : Nat) : Bool := A.toList.any fun e => e.on == i && Region.binds .any e
theorem waitsOn_spec {A : Array Edge} {i : Nat} (h : waitsOn A i = true) {L : Nat → Bool} (hL : ∀ e ∈ A, Region.binds .any e = true → L e.on = true) : L i = true := by
  unfold waitsOn at h
  rw [List.any_eq_true] at h
  obtain ⟨e, he, h2⟩ := h
  simp only [Bool.and_eq_true, beq_iff_eq] at h2
  rw [← h2.1]
  exact hL e (by simpa using he) h2.2

end Go.Proofs.Ygcoah
