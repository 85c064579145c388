/-
  A REGION THAT DRAWS ITS ORDER, ALL OF WHOSE OPERATIONS BUT THE LAST ARE QUIET IN A CLASS OF WORLDS, AND WHOSE LAST WAITS FOR ALL OTHERS: the quiet ones walked once, then the last.
-/
import Derived.Test.YgcoahTwo
import Derived.Test.YgcoahExt
namespace Go.Proofs.Ygcoah
open Go.RowKit

theorem ready_all {ops : Array Oper} {listed : Array Bool} (hs : listed.size = ops.size) (h : ∀ i, i < ops.size → listed.getD i false = true) : Region.ready .any ops listed = [] := by
  rw [List.eq_nil_iff_forall_not_mem]
  intro i hi
  obtain ⟨h1, o, ho, _⟩ := mem_ready.1 hi
  have hi' : i < ops.size := (Array.getElem?_eq_some_iff.1 ho).1
  have h2 := h i hi'
  rw [Array.getD_eq_getD_getElem?, Array.getElem?_eq_getElem (by omega)] at h1 h2
  simp at h1 h2
  rw [h1] at h2
  cases h2

theorem push_getD {listed : Array Bool} {i : Nat} (b d : Bool) (h : i < listed.size) : (listed.push b).getD i d = listed.getD i d := by
  rw [Array.getD_eq_getD_getElem?, Array.getElem?_push_lt h, Array.getD_eq_getD_getElem?, Array.getElem?_eq_getElem h]

theorem push_set {listed : Array Bool} {i : Nat} (h : i < listed.size) : (listed.push false).setIfInBounds i true = (listed.setIfInBounds i true).push false := by
  refine Array.ext_getElem? fun j => ?_
  rw [Array.getElem?_setIfInBounds, Array.getElem?_push, Array.getElem?_push, Array.getElem?_setIfInBounds, Array.size_setIfInBounds, Array.size_push]
  by_cases c : i = j
  · subst c
    rw [if_pos rfl, if_pos (by omega), if_neg (by omega), if_pos rfl, if_pos h]
  · rw [if_neg c, if_neg c]

theorem wpAny_last {P : Program} {init : Array Oper} {last : Oper} {C : World → Prop} {Qa : Act → Prop} {Q : Exit → Act → World → Prop} (hd : edgesDown (init.push last) = true) (hw : ∀ j, j < init.size → waitsOn last.after j = true) (hg : ∀ (j : Nat) (o : Oper), init[j]? = some o → o.guard = none)
    (hlast : ∀ a w, C w → Qa a → wpOp P (init.push last) Q init.size (fun a' w' => Q .normal a' w') a w) :
    ∀ (fuel : Nat) (listed : Array Bool) (a : Act) (w : World), listed.size = init.size → C w → wpAnyQ P .any init C Qa fuel listed a → wpAny P .any (init.push last) Q (fuel + 1) (listed.push false) a w := by
  have rdy : ∀ (listed : Array Bool) (i : Nat), listed.size = init.size → i < init.size → i ∈ Region.ready .any (init.push last) (listed.push false) → i ∈ Region.ready .any init listed := by
    intro listed i hs hi h
    obtain ⟨h1, o, ho, h2⟩ := mem_ready.1 h
    have hed := edgesDown_spec hd ho
    rw [Array.getElem?_push_lt hi] at ho
    refine mem_ready.2 ⟨?_, o, by rw [← ho, Array.getElem?_eq_getElem hi], fun e he hb => ?_⟩
    · rw [push_getD _ _ (by omega)] at h1; exact h1
    · have h3 := h2 e he hb
      rw [push_getD _ _ (by have := hed e he; omega)] at h3
      exact h3
  have notNil : ∀ (listed : Array Bool), listed.size = init.size → Region.ready .any (init.push last) (listed.push false) ≠ [] := by
    intro listed hs h0
    have := ready_nil hd (by simp [hs]) h0 init.size (by simp)
    rw [← hs, Array.getD_eq_getD_getElem?, Array.getElem?_push_size] at this
    simp at this
  have idx : ∀ (listed : Array Bool) (i : Nat), i ∈ Region.ready .any (init.push last) (listed.push false) → i < init.size ∨ i = init.size := by
    intro listed i hi
    obtain ⟨_, o, ho, _⟩ := mem_ready.1 hi
    have := (Array.getElem?_eq_some_iff.1 ho).1
    simp at this
    omega
  have allL : ∀ (listed : Array Bool), listed.size = init.size → init.size ∈ Region.ready .any (init.push last) (listed.push false) → ∀ j, j < init.size → listed.getD j false = true := by
    intro listed hs hi j hj
    obtain ⟨_, o, ho, h2⟩ := mem_ready.1 hi
    rw [Array.getElem?_push_size] at ho
    obtain rfl := (Option.some.inj ho)
    have := waitsOn_spec (hw j hj) (L := fun j => (listed.push false).getD j false) h2
    have this' : (listed.push false).getD j false = true := this
    rw [push_getD _ _ (by omega)] at this'
    exact this'
  have allDone : ∀ (listed : Array Bool), listed.size = init.size → (∀ j, j < init.size → listed.getD j false = true) → Region.ready .any (init.push last) ((listed.push false).setIfInBounds init.size true) = [] := by
    intro listed hs hall
    refine ready_all (by simp [hs]) fun i hi => ?_
    simp at hi
    by_cases c : i = init.size
    · subst c
      rw [Array.getD_eq_getD_getElem?, Array.getElem?_setIfInBounds_self_of_lt (by simp [hs])]
      rfl
    · rw [Array.getD_eq_getD_getElem?, Array.getElem?_setIfInBounds_ne (fun e => c e.symm), ← Array.getD_eq_getD_getElem?, push_getD _ _ (by omega)]
      exact hall i (by omega)
  intro fuel
  induction fuel with
  | zero =>
    intro listed a w hs hC h
    refine ⟨fun h0 => absurd h0 (notNil listed hs), fun i hi => ?_⟩
    rcases idx listed i hi with c | c
    · have := rdy listed i hs c hi
      rw [h.1] at this
      cases this
    · subst c
      exact wpOp_mono (fun a' w' hq => ⟨allDone listed hs (allL listed hs hi), hq⟩) (hlast a w hC h.2)
  | succ fuel ih =>
    intro listed a w hs hC h
    refine ⟨fun h0 => absurd h0 (notNil listed hs), fun i hi => ?_⟩
    rcases idx listed i hi with c | c
    · have hq := h.2 i (rdy listed i hs c hi)
      have ho : init[i]? = some init[i] := Array.getElem?_eq_getElem c
      have ho' : (init.push last)[i]? = some init[i] := Array.getElem?_push_lt c
      have hgi := hg i _ ho
      unfold qOp at hq
      simp only [ho] at hq
      rw [if_pos (by unfold Region.wanted; rw [hgi])] at hq
      unfold wpOp
      simp only [ho']
      rw [if_pos (by unfold Region.wanted; rw [hgi])]
      left
      refine Oper.wp_of_quiet hC (fun a' w' hw' hk => ?_) hq
      rw [push_set (by omega)]
      exact ih _ a' w' (by simpa using hs) hw' hk
    · subst c
      have hall := allL listed hs hi
      have hQa := h.1 (ready_all hs hall)
      have hdn := allDone listed hs hall
      exact wpOp_mono (fun a' w' hq => ⟨fun _ => hq, fun j hj => by rw [hdn] at hj; cases hj⟩) (hlast a w hC hQa)

/-- The law, at the class of all worlds that extend W. -/
theorem wp_region_ext_last {P : Program} {id : Nat} {Q : Exit → Act → World → Prop} {a : Act} {W : World} {l : List Oper} {last : Oper} {ops : Array Oper} (hops : ops = l.toArray.push last) (hm : P.follows .mixedOrders = true) (hB : Region.lexB .any l.toArray = true)
    (hd : edgesDown ops = true) (hw : ∀ j, j < l.toArray.size → waitsOn last.after j = true) (hg : ∀ (j : Nat) (o : Oper), l.toArray[j]? = some o → o.guard = none)
    (h : wpQuiet P l.toArray (fun w' => ∃ x : Ext W, w' = x.w) (fun a' => ∀ w', (∃ x : Ext W, w' = x.w) → wpOp P ops Q l.toArray.size (fun a'' w'' => Q .normal a'' w'') a' w') l a) : (Code.region id ops true).wp P Q a W := by
  subst hops
  refine wp_region_any hm ?_
  have e : Array.replicate (l.toArray.push last).size false = (Array.replicate l.toArray.size false).push false := by
    simp [Array.replicate_succ]
  rw [e, Array.size_push]
  simp only [Region.lexB, Bool.and_eq_true] at hB
  refine wpAny_last (C := fun w' => ∃ x : Ext W, w' = x.w) (Qa := fun a' => ∀ w', (∃ x : Ext W, w' = x.w) → wpOp P (l.toArray.push last) Q l.toArray.size (fun a'' w'' => Q .normal a'' w'') a' w') hd hw hg (fun a w hC hq => hq w hC) l.toArray.size _ a _ (by simp) ⟨⟨W.drew, (Below.refl _ _).drew⟩, rfl⟩ ?_
  have := wpAnyQ_lex (C := fun w' => ∃ x : Ext W, w' = x.w) (md := .any) hB.1 l 0 (Array.replicate l.toArray.size false) a (by simp) (by simpa using hB.2) h
  simpa using this

end Go.Proofs.Ygcoah
