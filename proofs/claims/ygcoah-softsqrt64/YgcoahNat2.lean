/-
  THE WALKS OF PACKAGE nat, 2: FromU64, Take, Succ.
-/
import Derived.Test.YgcoahNat1
import Derived.Laws.CopyOwn
namespace Go.Proofs.Ygcoah
open Go.RowKit

theorem Oahg.info97 : (Oahg.prog.info? 97).map (fun i => (i.zero, i.size, i.bytes)) = some (some (.int .u32 0), 1, 4) := by kernel_rfl
theorem Oahg.size97 : (Oahg.prog.info? 97).map (·.size) = some 1 := by kernel_rfl

/-- 'make(Nat, n)'. -/
theorem make54 (n : Nat) (h : n ≤ 1000000000) (w : World) : (Instr.makeSlice 54 (.int .i64 (n : Int)) (.int .i64 (n : Int))).run Oahg.prog w = .ok (.slice (some ⟨w.heap.size, 0, none⟩) n n) (w.alloc (.cells (madeCells #[.int .u32 0] n) 97)) :=
  run_make_row' 54 97 (.int .u32 0) 4 Oahg.underlying54 Oahg.info97 rfl .i64 .i64 n (by omega) (by omega) w

/-- Block g is a row of n limbs c, of the call's own. -/
def Row (w : World) (g n : Nat) (c : Nat → Nat) : Prop := w.rowIs g 97 n (fun i => .int .u32 (c i))

theorem Row.made (w : World) (n : Nat) : Row (w.alloc (.cells (madeCells #[.int .u32 0] n) 97)) w.heap.size n (fun _ => 0) := World.rowIs_made w (.int .u32 0) n 97
theorem Row.cell {w : World} {g n : Nat} {c : Nat → Nat} (h : Row w g n c) {i : Nat} (hi : i < n) : w.cell? ⟨g, i, none⟩ = some (.int .u32 (c i)) := World.rowIs.cell h hi
theorem Row.frozen {w : World} {g n : Nat} {c : Nat → Nat} (h : Row w g n c) (i : Nat) : w.frozen? ⟨g, i, none⟩ = false := World.rowIs.frozen h i
theorem Row.lt {w : World} {g n : Nat} {c : Nat → Nat} (h : Row w g n c) : g < w.heap.size := World.rowIs.lt h
theorem Row.congr {w : World} {g n : Nat} {c d : Nat → Nat} (h : Row w g n c) (e : ∀ i, i < n → c i = d i) : Row w g n d := World.rowIs.congr h (fun i hi => by rw [e i hi])
theorem Row.set {w : World} {g n : Nat} {c : Nat → Nat} (h : Row w g n c) (k x : Nat) : Row (w.setCell ⟨g, k, none⟩ (.int .u32 (x : Int))) g n (fun j => if j = k then x else c j) := by
  refine World.rowIs.congr (World.rowIs.set h k _) (fun i _ => ?_)
  by_cases e : i = k <;> simp [e]
theorem Row.drewN {w : World} {g n : Nat} {c : Nat → Nat} (h : Row w g n c) (q : Nat) : Row (w.drewN q) g n c := World.rowIs.of_block h rfl
theorem Row.below {w w' : World} {g n : Nat} {c : Nat → Nat} (h : Row w g n c) {B : Nat} (hB : g < B) (hb : Below B w w') : Row w' g n c := World.rowIs.of_block h (hb.block g hB)

/-- A row of the call's own is a number's memory. -/
theorem Row.lm {w : World} {g n : Nat} {c : Nat → Nat} (h : Row w g n c) (hn : n ≤ 1000000000) (hl : ∀ i, i < n → c i < 4294967296) : Lm w (some ⟨g, 0, none⟩) n n c :=
  ⟨Nat.le_refl _, hn, hl, fun _ => ⟨g, 0, rfl, h.lt, fun i hi => by rw [Nat.zero_add]; exact h.cell hi⟩⟩

/-- 'copy(c, a)', c a row of the call's own, a no longer than c. -/
theorem run_copy54 (w : World) (ty : TypeId) (g n cap m mcap : Nat) (c f : Nat → Nat) (ao : Option Addr) (hr : Row w g n c) (hs : Lm w ao m mcap f) (hle : m ≤ n) (hz : m = 0 → ao = none ∧ mcap = 0) :
    ∃ w', (Builtin.copy_ #[54, 54] ty #[.slice (some ⟨g, 0, none⟩) n cap, .slice ao m mcap]).run Oahg.prog w = .ok (goInt m) w' ∧ Row w' g n (fun i => if i < m then f i else c i) ∧ Below g w w' ∧ w'.heap.size = w.heap.size := by
  by_cases h0 : m = 0
  · obtain ⟨rfl, rfl⟩ := hz h0
    subst h0
    exact ⟨w, run_copy_nil _ w 54 54 ty 97 _ n cap Oahg.underlying54 (by rw [Oahg.size97]; rfl), hr.congr (fun i _ => by simp), Below.refl _ _, rfl⟩
  · obtain ⟨b, off, rfl, hlt, hc⟩ := hs.at (by omega)
    obtain ⟨cur, hb, hcs, hcc⟩ := hr
    have hrun := run_copy_row (P := Oahg.prog) w 54 54 ty 97 g 0 n cap ⟨b, off, none⟩ m mcap cur 97 ((List.range m).map (fun i => .int .u32 (f i : Int))) Oahg.underlying54 Oahg.size97 hb
      (by show _ = min m n; simp; omega) (by
        intro j v hj
        have hj' := List.getElem?_eq_some_iff.1 hj
        obtain ⟨hjl, hjv⟩ := hj'
        simp at hjl hjv
        rw [← hjv]
        rw [WideShapes.add_plain]
        exact hc j hjl) (by simp; omega) (by
        intro v hv
        obtain ⟨i, _, rfl⟩ := List.mem_map.1 hv
        rfl)
    refine ⟨_, by simpa using hrun, ⟨_, setRow_heap w g _ _ 97 _ hb, by simp; omega, fun i hi => ?_⟩, below_setRow (Below.refl _ _) (Nat.le_refl _) _, by simp⟩
    by_cases e : i < m
    · simp [e, List.getElem?_append]
    · simp [e, List.getElem?_append]
      rw [show m + (i - m) = i by omega]
      exact hcc i hi


attribute [local go_sem] eqNil neNil

/-- The two limbs of a word. -/
def limbs2 (x : Nat) : Nat → Nat := fun i => if i = 0 then x % 4294967296 else x / 4294967296
theorem val_limbs2 (x : Nat) : val (limbs2 x) 2 = x := by simp [val, limbs2]; omega

theorem limbs2_lm (x : Nat) (w : World) (h : x < 18446744073709551616) : Lm (w.alloc (.cells #[.int .u32 ((x : Int) % 4294967296), .int .u32 ((x : Int) / 4294967296)] 97)) (some ⟨w.heap.size, 0, none⟩) 2 2 (limbs2 x) := by
  refine ⟨Nat.le_refl _, by omega, ?_, fun _ => ⟨w.heap.size, 0, rfl, by simp, ?_⟩⟩
  · intro i _
    simp only [limbs2]
    split <;> omega
  · intro i hi
    rw [Nat.zero_add, World.cell?_alloc_at _ _ _ _ rfl]
    match i, hi with
    | 0, _ => simp [limbs2]
    | 1, _ => simp [limbs2]

set_option maxHeartbeats 400000 in
theorem fromU64_any (x : Nat) (w : World) (h : x < 18446744073709551616) :
    Calls Oahg.prog 38 #[.int .u64 x] w fun e w' => (∃ v, e = .returned v ∧ NatV w' v x) ∧ Below w.heap.size w w' := by
  have HL := limbs2_lm x w h
  go_enter Oahg.func38, Oahg.ntmps38
  go_wp2_with fail
  refine (trim_any _ 2 2 (limbs2 x) _ HL).mono ?_
  rintro e w1 ⟨⟨ao', n', cap', rfl, hT⟩, rfl⟩
  have hN := hT.natV
  rw [val_limbs2] at hN
  clear hT HL
  go_wp2
  go_ret
  exact ⟨⟨_, rfl, hN⟩, (Below.refl _ _).alloc (Nat.le_refl _) _⟩

set_option maxHeartbeats 400000 in
theorem take_any (ao : Option Addr) (n cap : Nat) (f : Nat → Nat) (w : World) (h : Lm w ao n cap f) :
    Calls Oahg.prog 119 #[.slice ao n cap] w fun e w' => (∃ v, e = .returned v ∧ NatV w' v (val f n)) ∧ Below w.heap.size w w' := by
  go_enter Oahg.func119, Oahg.ntmps119
  go_wp2_with fail
  refine (trim_any ao n cap f _ h).mono ?_
  rintro e w1 ⟨⟨ao', n', cap', rfl, hT⟩, rfl⟩
  have HT : Hid (Trimmed w1 f n ao' n' cap') := hT
  obtain ⟨hl, hz, htop, hle, hv⟩ := hT
  have hcap := hl.top
  have hfit := hl.fits
  by_cases h0 : n' = 0
  · obtain ⟨rfl, rfl⟩ := hz h0
    subst h0
    clear hv hz htop hl
    go_wp2
    go_ret
    exact ⟨⟨_, rfl, HT.out.natV⟩, Below.refl _ _⟩
  · obtain ⟨b, off, rfl, hlt, hc⟩ := hl.at (by omega)
    have hmk := make54 n' (by omega)
    obtain ⟨w2, hcopy, hrow, hbel, hsz⟩ := run_copy54 (w1.alloc (.cells (madeCells #[.int .u32 0] n') 97)) 3 w1.heap.size n' n' n' cap' (fun _ => 0) f (some ⟨b, off, none⟩) (Row.made w1 n') (hl.below ((Below.refl _ _).alloc (Nat.le_refl _) _)) (Nat.le_refl _) (fun h => absurd h h0)
    have hN : NatV w2 (.slice (some ⟨w1.heap.size, 0, none⟩) n' n') (val f n) :=
      ⟨_, n', n', f, rfl, (hrow.congr (fun i hi => if_pos hi)).lm (by omega) hl.lim, fun h => absurd h h0, htop, hv⟩
    clear hc hv hz htop hl
    go_wp2
    go_ret
    exact ⟨⟨_, rfl, hN⟩, ((Below.refl _ _).alloc (Nat.le_refl _) _).trans hbel⟩

/-- What Succ's row holds at the head of round k. -/
def succRow (F : Nat → Nat) (k : Nat) : Nat → Nat := fun i => if i < k then 0 else F i

theorem val_succRow (F : Nat → Nat) (L : Nat) : ∀ k, k ≤ L → (∀ i, i < k → F i = 4294967295) → val (succRow F k) L + 4294967296 ^ k = val F L + 1 := by
  intro k
  induction k with
  | zero => intro _ _; rw [val_congr (succRow F 0) F L (fun i _ => by simp [succRow])]
  | succ k ih =>
    intro hk hF
    have h1 := ih (by omega) (fun i hi => hF i (by omega))
    have h2 := val_set (succRow F k) L k 0 (by omega)
    have e : val (succRow F (k + 1)) L = val (fun j => if j = k then 0 else succRow F k j) L := val_congr _ _ L (fun i _ => by
      simp only [succRow]
      by_cases e1 : i = k
      · simp [e1]
      · by_cases e2 : i < k
        · simp [e2, show i < k + 1 by omega]
        · simp [e1, e2, show ¬ i < k + 1 by omega])
    rw [e]
    have e2 : succRow F k k = 4294967295 := by simp [succRow, hF k (by omega)]
    rw [e2] at h2
    rw [Nat.pow_succ]
    omega

theorem succRow_lim (F : Nat → Nat) (L k : Nat) (hF : ∀ i, i < L → F i < 4294967296) : ∀ i, i < L → succRow F k i < 4294967296 := by
  intro i hi
  simp only [succRow]
  split
  · omega
  · exact hF i hi

/-- Limbs with zeros above. -/
def ext0 (f : Nat → Nat) (n : Nat) : Nat → Nat := fun i => if i < n then f i else 0
theorem ext0_lt {f : Nat → Nat} {n i : Nat} (h : i < n) : ext0 f n i = f i := if_pos h
theorem ext0_ge {f : Nat → Nat} {n i : Nat} (h : n ≤ i) : ext0 f n i = 0 := if_neg (by omega)
theorem ext0_lim {f : Nat → Nat} {n : Nat} (hl : ∀ i, i < n → f i < 4294967296) (i : Nat) : ext0 f n i < 4294967296 := by
  unfold ext0
  split
  · exact hl i (by assumption)
  · omega
theorem val_ext0 (f : Nat → Nat) (n m : Nat) (h : n ≤ m) : val (ext0 f n) m = val f n := by
  rw [val_zeros (ext0 f n) n m h (fun i h1 _ => ext0_ge h1)]
  exact val_congr _ _ n (fun i hi => ext0_lt hi)

theorem succRow_step {w : World} {g L : Nat} {F : Nat → Nat} {k : Nat} (h : Row w g L (succRow F k)) : Row (w.setCell ⟨g, k, none⟩ (.int .u32 0)) g L (succRow F (k + 1)) := by
  refine (h.set k 0).congr (fun i _ => ?_)
  simp only [succRow]
  by_cases e1 : i = k
  · simp [e1]
  · by_cases e2 : i < k
    · simp [e2, show i < k + 1 by omega]
    · simp [e1, e2, show ¬ i < k + 1 by omega]

set_option maxHeartbeats 400000 in
theorem succ_any (ao : Option Addr) (n cap : Nat) (f : Nat → Nat) (w : World) (h : Lm w ao n cap f) (hn : n ≤ 100000000) :
    Calls Oahg.prog 105 #[.slice ao n cap] w fun e w' => (∃ v, e = .returned v ∧ NatV w' v (val f n + 1)) ∧ Below w.heap.size w w' := by
  go_enter Oahg.func105, Oahg.ntmps105
  go_wp2_with fail
  refine (trim_any ao n cap f _ h).mono ?_
  rintro e w1 ⟨⟨ao', n', cap', rfl, hT⟩, rfl⟩
  obtain ⟨hl, hz, htop, hle, hv⟩ := hT
  have hcap := hl.top
  have hfit := hl.fits
  have hmk := make54 (n' + 1) (by omega)
  rw [show ((n' + 1 : Nat) : Int) = (n' : Int) + 1 from by omega] at hmk
  obtain ⟨w2, hcopy, hrow, hbel, hsz⟩ := run_copy54 (w1.alloc (.cells (madeCells #[.int .u32 0] (n' + 1)) 97)) 3 w1.heap.size (n' + 1) (n' + 1) n' cap' (fun _ => 0) f ao' (Row.made w1 (n' + 1)) (hl.below ((Below.refl _ _).alloc (Nat.le_refl _) _)) (by omega) hz
  have hbel1 : Below w1.heap.size w1 w2 := ((Below.refl _ _).alloc (Nat.le_refl _) _).trans hbel
  have HF : Hid (∀ i, ext0 f n' i < 4294967296) := fun i => ext0_lim hl.lim i
  have HV : Hid (val (ext0 f n') (n' + 1) = val f n) := by
    unfold Hid
    rw [val_ext0 _ _ _ (by omega), hv]
  have hrow1 : Row w2 w1.heap.size (n' + 1) (succRow (ext0 f n') 0) := hrow.congr (fun i _ => by simp [succRow, ext0])
  clear hv hz htop hrow
  go_wp2
  go_loopw [16] (fun t wr => ∃ k : Nat, k ≤ n' ∧ t = .int .i64 k ∧ Row wr w1.heap.size (n' + 1) (succRow (ext0 f n') k) ∧ Below w1.heap.size w1 wr ∧ Hid (∀ i, i < k → ext0 f n' i = 4294967295)) (fun t _ => n' + 1 - (intOf t).toNat)
  case atStart => exact ⟨0, by omega, rfl, hrow1, hbel1, by unfold Hid; intro i hi; omega⟩
  case round =>
    obtain ⟨k, hk, rfl, hr, hb, HZ⟩ := hrel
    have hc : wr.cell? ⟨w1.heap.size, k, none⟩ = some (.int .u32 (ext0 f n' k)) := by
      rw [hr.cell (by omega)]; simp [succRow]
    have hf := hr.frozen k
    have hFk := HF.out k
    by_cases hm : ext0 f n' k = 4294967295
    · have hkn : k < n' := by
        false_or_by_contra
        have := ext0_ge (f := f) (n := n') (i := k) (by omega)
        omega
      have HM : Hid (ext0 f n' k = 4294967295) := hm
      rw [hm] at hc
      clear hm hFk hcopy hmk hrow1
      go_wp2
      go_roundw
      case rel =>
        refine ⟨k + 1, by omega, by go_num, succRow_step hr, hb.setCell (Nat.le_refl _) _, ?_⟩
        unfold Hid
        intro i hi
        by_cases e : i = k
        · rw [e]; exact HM.out
        · exact HZ.out i (by omega)
      case measure => simp [intOf]; omega
    · have hlt : ext0 f n' k < 4294967295 := by omega
      have hset : Row (wr.setCell ⟨w1.heap.size, k, none⟩ (.int .u32 ((ext0 f n' k : Int) + 1))) w1.heap.size (n' + 1) (fun j => if j = k then ext0 f n' k + 1 else succRow (ext0 f n') k j) := by
        have := hr.set k (ext0 f n' k + 1)
        rw [show ((ext0 f n' k + 1 : Nat) : Int) = (ext0 f n' k : Int) + 1 from by omega] at this
        exact this
      have hlm := hset.lm (by omega) (fun i hi => by
        show (if i = k then ext0 f n' k + 1 else succRow (ext0 f n') k i) < 4294967296
        split
        · omega
        · exact succRow_lim _ (n' + 1) k (fun i _ => HF.out i) i hi)
      have HVV : Hid (val (fun j => if j = k then ext0 f n' k + 1 else succRow (ext0 f n') k j) (n' + 1) = val f n + 1) := by
        unfold Hid
        have h1 := val_set (succRow (ext0 f n') k) (n' + 1) k (ext0 f n' k + 1) (by omega)
        have h2 := val_succRow (ext0 f n') (n' + 1) k (by omega) HZ.out
        have e2 : succRow (ext0 f n') k k = ext0 f n' k := by simp [succRow]
        rw [e2] at h1
        rw [HV.out] at h2
        rw [Nat.add_mul] at h1
        omega
      generalize (fun j => if j = k then ext0 f n' k + 1 else succRow (ext0 f n') k j) = G at *
      clear hm hFk hcopy hmk hrow1
      go_wp2_with fail
      refine (trim_any _ _ _ G _ hlm).mono ?_
      rintro e w3 ⟨⟨ao3, n3, cap3, rfl, hT⟩, rfl⟩
      have hN := hT.natV
      rw [HVV.out] at hN
      clear hT hlm hset
      go_wp2
      go_ret
      exact ⟨⟨_, rfl, hN⟩, hb.setCell (Nat.le_refl _) _⟩

theorem Row.setI {w : World} {g n : Nat} {c : Nat → Nat} (h : Row w g n c) (k x : Nat) {z : Int} (hz : z = (x : Int)) : Row (w.setCell ⟨g, k, none⟩ (.int .u32 z)) g n (fun j => if j = k then x else c j) := by
  rw [hz]; exact h.set k x

end Go.Proofs.Ygcoah
