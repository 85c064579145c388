/-
  THE REGION 'x, y := f(a), f(b)': the law.
-/
import Derived.Test.YgcoahTwo
namespace Go.Proofs.Ygcoah
open Go.RowKit

theorem ptr_inj {b c : Nat} (h : Value.pointer (some ⟨b, 0, none⟩) = Value.pointer (some ⟨c, 0, none⟩)) : b = c := by cases h; rfl
theorem put_none (a : Act) (v : Value) : a.put none v = a := rfl

section
variable {W : World} {R1 R2 : World → Value → Prop} {fm X Y : Value} {F T p0 p1 p2 q0 q1 q2 : Nat} {zs : Array Value}

set_option maxHeartbeats 1600000 in
theorem two_region {id : Nat} {Q : Exit → Act → World → Prop} {a0 : Act} {ty2 ty5 ty6 ty7 ty8 ty9 : Nat} {s0 s1 s2 s3 s4 s5 s6 s7 s8 s9 : String} {A0 A1 A2 A3 A4 A5 A6 A7 A8 A9 : Array Edge} {bf E M : Nat}
    (hd : edgesDown #[⟨some p0, .load 23 (.tmp 4), 23, s0, A0, none⟩, ⟨some p1, .move (.tmp 2), 25, s1, A1, none⟩,
      ⟨some p2, .call { callee := .value (.func F), args := #[.tmp p0, .tmp p1], argTypes := #[23, 25] }, ty2, s2, A2, none⟩, ⟨some q0, .load 23 (.tmp 4), 23, s3, A3, none⟩, ⟨some q1, .move (.tmp 3), 25, s4, A4, none⟩,
      ⟨some q2, .call { callee := .value (.func F), args := #[.tmp q0, .tmp q1], argTypes := #[23, 25] }, ty5, s5, A5, none⟩,
      ⟨some 10, .alloc T, ty6, s6, A6, none⟩, ⟨some 11, .alloc T, ty7, s7, A7, none⟩, ⟨none, .store T (.tmp 10) (.tmp p2), ty8, s8, A8, none⟩, ⟨none, .store T (.tmp 11) (.tmp q2), ty9, s9, A9, none⟩] = true)
    (S : Slots a0.tmps.size p0 p1 p2 q0 q1 q2)
    (w20 : waitsOn A2 0 = true) (w21 : waitsOn A2 1 = true) (w53 : waitsOn A5 3 = true) (w54 : waitsOn A5 4 = true) (w82 : waitsOn A8 2 = true) (w86 : waitsOn A8 6 = true) (w95 : waitsOn A9 5 = true) (w97 : waitsOn A9 7 = true)
    (hf : fm = .agg #[.int .u8 E, .int .u8 M]) (e4 : a0.eval (.tmp 4) = .pointer (some ⟨bf, 0, none⟩)) (c0 : W.cell? ⟨bf, 0, none⟩ = some (.int .u8 E)) (c1 : W.cell? ⟨bf, 1, none⟩ = some (.int .u8 M))
    (e2 : a0.eval (.tmp 2) = X) (e3 : a0.eval (.tmp 3) = Y)
    (hc : ∀ (args : Array Value) (w : World), (callFunc F args).run Oahg.prog w = .ok (.enter F args) w)
    (L1 : Lasts R1) (L2 : Lasts R2)
    (h1 : ∀ w, Below W.heap.size W w → Calls Oahg.prog F #[fm, X] w fun e w' => (∃ v, e = .returned v ∧ R1 w' v) ∧ Below w.heap.size w w')
    (h2 : ∀ w, Below W.heap.size W w → Calls Oahg.prog F #[fm, Y] w fun e w' => (∃ v, e = .returned v ∧ R2 w' v) ∧ Below w.heap.size w w')
    (hal : ∀ (ev : Operand → Value) (d ty : Nat) (s : String) (A : Array Edge) (w : World), ∃ w', (execOp ev ⟨some d, .alloc T, ty, s, A, none⟩).run Oahg.prog w = .ok (.value (.pointer (some ⟨w.heap.size, 0, none⟩))) w' ∧ Below w.heap.size w w' ∧ Fresh zs w' w.heap.size ∧ w.heap.size < w'.heap.size)
    (hst : ∀ (ev : Operand → Value) (b d u ty : Nat) (s : String) (A : Array Edge) (w : World) (v : Value), (R1 w v ∨ R2 w v) → Fresh zs w b → ev (.tmp d) = .pointer (some ⟨b, 0, none⟩) → ev (.tmp u) = v →
      ∃ w', (execOp ev ⟨none, .store T (.tmp d) (.tmp u), ty, s, A, none⟩).run Oahg.prog w = .ok .skip w' ∧ Held w' b v ∧ St b w w')
    (hend : ∀ (b c : Nat) (v u : Value) (w' : World), Below W.heap.size W w' → W.heap.size ≤ b → W.heap.size ≤ c → b < w'.heap.size → c < w'.heap.size → b ≠ c → R1 w' v → R2 w' u → Held w' b v → Held w' c u →
      Q .normal (puts8 a0 p0 p1 p2 q0 q1 q2 fm X v fm Y u (.pointer (some ⟨b, 0, none⟩)) (.pointer (some ⟨c, 0, none⟩))) w') :
    (Code.region id #[⟨some p0, .load 23 (.tmp 4), 23, s0, A0, none⟩, ⟨some p1, .move (.tmp 2), 25, s1, A1, none⟩,
      ⟨some p2, .call { callee := .value (.func F), args := #[.tmp p0, .tmp p1], argTypes := #[23, 25] }, ty2, s2, A2, none⟩, ⟨some q0, .load 23 (.tmp 4), 23, s3, A3, none⟩, ⟨some q1, .move (.tmp 3), 25, s4, A4, none⟩,
      ⟨some q2, .call { callee := .value (.func F), args := #[.tmp q0, .tmp q1], argTypes := #[23, 25] }, ty5, s5, A5, none⟩,
      ⟨some 10, .alloc T, ty6, s6, A6, none⟩, ⟨some 11, .alloc T, ty7, s7, A7, none⟩, ⟨none, .store T (.tmp 10) (.tmp p2), ty8, s8, A8, none⟩, ⟨none, .store T (.tmp 11) (.tmp q2), ty9, s9, A9, none⟩] true).wp Oahg.prog Q a0 W := by
  refine wp_region_inv (by kernel_rfl) hd (fun L a w => ∃ u0 u1 u2 u3 u4 u5 u6 u7, a = puts8 a0 p0 p1 p2 q0 q1 q2 u0 u1 u2 u3 u4 u5 u6 u7 ∧
    TwoJ zs W R1 R2 fm X Y (L 0) (L 1) (L 2) (L 3) (L 4) (L 5) (L 6) (L 7) (L 8) (L 9) u0 u1 u2 u3 u4 u5 u6 u7 w) ?_ ?_ ?_
  · refine ⟨_, _, _, _, _, _, _, _, (puts8_self a0 p0 p1 p2 q0 q1 q2).symm, ?_⟩
    exact ⟨(Below.refl _ _).drew, (fun h => by cases h), (fun h => by cases h), (fun h => by cases h), (fun h => by cases h), (fun h => by cases h), (fun h => by cases h), (fun h => by cases h), (fun h => by cases h), (fun h => by cases h), (fun h => by cases h), (fun h => by cases h), (fun h => by cases h), (fun h => by cases h)⟩
  · rintro L a w ⟨u0, u1, u2, u3, u4, u5, u6, u7, rfl, J⟩ i o ho hL hA
    obtain ⟨v0, v1, v2, v3, v4, v5, v6, v7, v8⟩ := puts8_evals S u0 u1 u2 u3 u4 u5 u6 u7
    have v4' := (v8 4 (by decide)).trans e4
    have v2' := (v8 2 (by decide)).trans e2
    have v3' := (v8 3 (by decide)).trans e3
    clear v8
    have hi : i < 10 := (Array.getElem?_eq_some_iff.1 ho).1
    match i, hi with
    | 0, _ =>
      obtain rfl := (Option.some.inj ho).symm
      refine wpOp_value ho rfl (x_load v4' (cell_later J.bel c0) (cell_later J.bel c1)) ⟨fm, u1, u2, u3, u4, u5, u6, u7, ?_, ?_⟩
      · rw [← hf]; exact puts8_0 S u0 u1 u2 u3 u4 u5 u6 u7 fm
      · exact ⟨J.bel, fun _ => rfl, J.j1, J.j2, J.j3, J.j4, J.j5, J.j6, J.j7, J.jn, J.j8, J.j9, J.j86, J.j97⟩
    | 1, _ =>
      obtain rfl := (Option.some.inj ho).symm
      refine wpOp_value ho rfl (x_move v2') ⟨u0, X, u2, u3, u4, u5, u6, u7, puts8_1 S u0 u1 u2 u3 u4 u5 u6 u7 X, ?_⟩
      exact ⟨J.bel, J.j0, fun _ => rfl, J.j2, J.j3, J.j4, J.j5, J.j6, J.j7, J.jn, J.j8, J.j9, J.j86, J.j97⟩
    | 2, _ =>
      obtain rfl := (Option.some.inj ho).symm
      have k0 := J.j0 (waitsOn_spec w20 hA)
      have k1 := J.j1 (waitsOn_spec w21 hA)
      refine wpOp_call ho rfl (x_call rfl (v0.trans k0) (v1.trans k1) (hc _ _)) ?_
      refine (h1 w J.bel).mono ?_
      rintro e w' ⟨⟨v, rfl, hv⟩, hb⟩
      refine ⟨v, rfl, u0, u1, v, u3, u4, u5, u6, u7, puts8_2 S u0 u1 u2 u3 u4 u5 u6 u7 v, ?_⟩
      have n8 : L 8 = false := by
        rcases h : L 8 with _ | _
        · rfl
        · have := J.j8 h; rw [hL] at this; cases this
      refine ⟨J.bel.trans (hb.mono J.bel.size), J.j0, J.j1, fun _ => hv, J.j3, J.j4, fun h => L2.below _ _ _ (J.j5 h) hb, fun h => ?_, fun h => (J.j7 h).below hb, J.jn, fun _ => rfl, J.j9, J.j86, J.j97⟩
      obtain ⟨b, e, g1, g2, g3, g4⟩ := (J.j6 h).below hb
      exact ⟨b, e, g1, g2, g3, fun h => by have h' : L 8 = true := h; rw [n8] at h'; cases h'⟩
    | 3, _ =>
      obtain rfl := (Option.some.inj ho).symm
      refine wpOp_value ho rfl (x_load v4' (cell_later J.bel c0) (cell_later J.bel c1)) ⟨u0, u1, u2, fm, u4, u5, u6, u7, ?_, ?_⟩
      · rw [← hf]; exact puts8_3 S u0 u1 u2 u3 u4 u5 u6 u7 fm
      · exact ⟨J.bel, J.j0, J.j1, J.j2, fun _ => rfl, J.j4, J.j5, J.j6, J.j7, J.jn, J.j8, J.j9, J.j86, J.j97⟩
    | 4, _ =>
      obtain rfl := (Option.some.inj ho).symm
      refine wpOp_value ho rfl (x_move v3') ⟨u0, u1, u2, u3, Y, u5, u6, u7, puts8_4 S u0 u1 u2 u3 u4 u5 u6 u7 Y, ?_⟩
      exact ⟨J.bel, J.j0, J.j1, J.j2, J.j3, fun _ => rfl, J.j5, J.j6, J.j7, J.jn, J.j8, J.j9, J.j86, J.j97⟩
    | 5, _ =>
      obtain rfl := (Option.some.inj ho).symm
      have k3 := J.j3 (waitsOn_spec w53 hA)
      have k4 := J.j4 (waitsOn_spec w54 hA)
      refine wpOp_call ho rfl (x_call rfl (v3.trans k3) (v4.trans k4) (hc _ _)) ?_
      refine (h2 w J.bel).mono ?_
      rintro e w' ⟨⟨v, rfl, hv⟩, hb⟩
      refine ⟨v, rfl, u0, u1, u2, u3, u4, v, u6, u7, puts8_5 S u0 u1 u2 u3 u4 u5 u6 u7 v, ?_⟩
      have n9 : L 9 = false := by
        rcases h : L 9 with _ | _
        · rfl
        · have := J.j9 h; rw [hL] at this; cases this
      refine ⟨J.bel.trans (hb.mono J.bel.size), J.j0, J.j1, fun h => L1.below _ _ _ (J.j2 h) hb, J.j3, J.j4, fun _ => hv, fun h => (J.j6 h).below hb, fun h => ?_, J.jn, J.j8, fun _ => rfl, J.j86, J.j97⟩
      obtain ⟨b, e, g1, g2, g3, g4⟩ := (J.j7 h).below hb
      exact ⟨b, e, g1, g2, g3, fun h => by have h' : L 9 = true := h; rw [n9] at h'; cases h'⟩
    | 6, _ =>
      obtain rfl := (Option.some.inj ho).symm
      obtain ⟨w', hx, hb, hfr, hlt⟩ := hal (puts8 a0 p0 p1 p2 q0 q1 q2 u0 u1 u2 u3 u4 u5 u6 u7).eval 10 ty6 s6 A6 w
      refine wpOp_value ho rfl hx ⟨u0, u1, u2, u3, u4, u5, _, u7, puts8_6 u0 u1 u2 u3 u4 u5 u6 u7 _, ?_⟩
      have n8 : L 8 = false := by
        rcases h : L 8 with _ | _
        · rfl
        · have := J.j86 h; rw [hL] at this; cases this
      refine ⟨J.bel.trans (hb.mono J.bel.size), J.j0, J.j1, fun h => L1.below _ _ _ (J.j2 h) hb, J.j3, J.j4, fun h => L2.below _ _ _ (J.j5 h) hb, fun _ => ?_, fun h => (J.j7 h).below hb, fun _ h => ?_, J.j8, J.j9, fun _ => rfl, J.j97⟩
      · exact ⟨_, rfl, J.bel.size, hlt, fun _ => hfr, fun h => by have h' : L 8 = true := h; rw [n8] at h'; cases h'⟩
      · obtain ⟨c, e, g1, g2, _⟩ := J.j7 h
        rw [e]
        intro e'
        have e2 : w.heap.size = c := ptr_inj e'
        omega
    | 7, _ =>
      obtain rfl := (Option.some.inj ho).symm
      obtain ⟨w', hx, hb, hfr, hlt⟩ := hal (puts8 a0 p0 p1 p2 q0 q1 q2 u0 u1 u2 u3 u4 u5 u6 u7).eval 11 ty7 s7 A7 w
      refine wpOp_value ho rfl hx ⟨u0, u1, u2, u3, u4, u5, u6, _, puts8_7 u0 u1 u2 u3 u4 u5 u6 u7 _, ?_⟩
      have n9 : L 9 = false := by
        rcases h : L 9 with _ | _
        · rfl
        · have := J.j97 h; rw [hL] at this; cases this
      refine ⟨J.bel.trans (hb.mono J.bel.size), J.j0, J.j1, fun h => L1.below _ _ _ (J.j2 h) hb, J.j3, J.j4, fun h => L2.below _ _ _ (J.j5 h) hb, fun h => (J.j6 h).below hb, fun _ => ?_, fun h _ => ?_, J.j8, J.j9, J.j86, fun _ => rfl⟩
      · exact ⟨_, rfl, J.bel.size, hlt, fun _ => hfr, fun h => by have h' : L 9 = true := h; rw [n9] at h'; cases h'⟩
      · obtain ⟨c, e, g1, g2, _⟩ := J.j6 h
        rw [e]
        intro e'
        have e2 : c = w.heap.size := ptr_inj e'
        omega
    | 8, _ =>
      obtain rfl := (Option.some.inj ho).symm
      have k2 := waitsOn_spec w82 hA
      have k6 := waitsOn_spec w86 hA
      obtain ⟨b, e, g1, g2, g3, g4⟩ := J.j6 k6
      obtain ⟨w', hx, hh, hs⟩ := hst (puts8 a0 p0 p1 p2 q0 q1 q2 u0 u1 u2 u3 u4 u5 u6 u7).eval b 10 p2 ty8 s8 A8 w u2 (Or.inl (J.j2 k2)) (g3 hL) (v6.trans e) v2
      refine wpOp_skip ho rfl hx ⟨u0, u1, u2, u3, u4, u5, u6, u7, put_none _ _, ?_⟩
      refine ⟨hs.below _ J.bel g1, J.j0, J.j1, fun h => L1.st _ _ _ _ (J.j2 h) hs, J.j3, J.j4, fun h => L2.st _ _ _ _ (J.j5 h) hs, fun _ => ?_, fun h => (J.j7 h).st hs ?_, J.jn, fun _ => k2, J.j9, fun _ => k6, J.j97⟩
      · exact ⟨b, e, g1, by rw [hs.size]; exact g2, fun h => Bool.noConfusion (h : true = false), fun _ => hh⟩
      · rw [← e]; exact fun h' => J.jn k6 h h'.symm
    | 9, _ =>
      obtain rfl := (Option.some.inj ho).symm
      have k5 := waitsOn_spec w95 hA
      have k7 := waitsOn_spec w97 hA
      obtain ⟨b, e, g1, g2, g3, g4⟩ := J.j7 k7
      obtain ⟨w', hx, hh, hs⟩ := hst (puts8 a0 p0 p1 p2 q0 q1 q2 u0 u1 u2 u3 u4 u5 u6 u7).eval b 11 q2 ty9 s9 A9 w u5 (Or.inr (J.j5 k5)) (g3 hL) (v7.trans e) v5
      refine wpOp_skip ho rfl hx ⟨u0, u1, u2, u3, u4, u5, u6, u7, put_none _ _, ?_⟩
      refine ⟨hs.below _ J.bel g1, J.j0, J.j1, fun h => L1.st _ _ _ _ (J.j2 h) hs, J.j3, J.j4, fun h => L2.st _ _ _ _ (J.j5 h) hs, fun h => (J.j6 h).st hs ?_, fun _ => ?_, J.jn, J.j8, fun _ => k5, J.j86, fun _ => k7⟩
      · rw [← e]; exact fun h' => J.jn h k7 h'
      · exact ⟨b, e, g1, by rw [hs.size]; exact g2, fun h => Bool.noConfusion (h : true = false), fun _ => hh⟩
  · rintro L a w hall ⟨u0, u1, u2, u3, u4, u5, u6, u7, rfl, J⟩
    have hl : ∀ i, i < 10 → L i = true := hall
    obtain ⟨b, e, g1, g2, _, g4⟩ := J.j6 (hl 6 (by decide))
    obtain ⟨c, e', k1, k2, _, k4⟩ := J.j7 (hl 7 (by decide))
    have hn := J.jn (hl 6 (by decide)) (hl 7 (by decide))
    obtain rfl := J.j0 (hl 0 (by decide))
    obtain rfl := J.j1 (hl 1 (by decide))
    obtain rfl := J.j3 (hl 3 (by decide))
    obtain rfl := J.j4 (hl 4 (by decide))
    subst e e'
    exact hend b c u2 u5 w J.bel g1 k1 g2 k2 (fun h => hn (by rw [h])) (J.j2 (hl 2 (by decide))) (J.j5 (hl 5 (by decide))) (g4 (hl 8 (by decide))) (k4 (hl 9 (by decide)))
end

end Go.Proofs.Ygcoah
