/-
  THE WALKS OF PACKAGE nat, 10: takeAway, putBack.
-/
import Derived.Test.YgcoahNat9
namespace Go.Proofs.Ygcoah
open Go.RowKit

/-- The world w' is w but for the content of block g. -/
structure But (g : Nat) (w w' : World) : Prop where
  os : w'.os = w.os
  tape : w'.tape = w.tape
  output : w'.output = w.output
  size : w'.heap.size = w.heap.size
  block : ∀ k, k ≠ g → w'.heap[k]? = w.heap[k]?

theorem But.refl (g : Nat) (w : World) : But g w w := ⟨rfl, rfl, rfl, rfl, fun _ _ => rfl⟩
theorem But.trans {g : Nat} {a b c : World} (h : But g a b) (k : But g b c) : But g a c :=
  ⟨k.os.trans h.os, k.tape.trans h.tape, k.output.trans h.output, k.size.trans h.size, fun i hi => (k.block i hi).trans (h.block i hi)⟩
theorem But.set {g : Nat} {a w : World} (h : But g a w) (o : Nat) (v : Value) : But g a (w.setCell ⟨g, o, none⟩ v) :=
  h.trans ⟨rfl, rfl, rfl, by simp [World.setCell], fun k hk => Below.heap_setCell _ _ _ _ hk⟩
theorem But.cell {g : Nat} {w w' : World} (h : But g w w') {b o : Nat} (hb : b ≠ g) : w'.cell? ⟨b, o, none⟩ = w.cell? ⟨b, o, none⟩ := World.cell?_of_block (w := w) (h.block b hb)
theorem But.below {g B : Nat} {w w' : World} (h : But g w w') (hB : B ≤ g) : Below B w w' :=
  ⟨h.os, h.tape, h.output, by rw [h.size]; exact Nat.le_refl _, fun k hk => h.block k (by omega)⟩
theorem But.row {g b n : Nat} {w w' : World} {c : Nat → Nat} (h : But g w w') (hb : b ≠ g) (hr : Row w b n c) : Row w' b n c := World.rowIs.of_block hr (h.block b hb)
theorem But.lm {g : Nat} {w w' : World} {ao : Option Addr} {n cap : Nat} {f : Nat → Nat} (h : But g w w') (hl : Lm w ao n cap f) (ha : ∀ b o, ao = some ⟨b, o, none⟩ → b ≠ g) : Lm w' ao n cap f := by
  refine ⟨hl.fits, hl.top, hl.lim, fun h0 => ?_⟩
  obtain ⟨b, off, e, hlt, hc⟩ := hl.at h0
  exact ⟨b, off, e, by rw [h.size]; exact hlt, fun i hi => (h.cell (ha b off e)).trans (hc i hi)⟩


theorem and_mask (t : Nat) (ht : t < 18446744073709551616) : bits .and .u64 (t : Int) 4294967295 = ((t % 4294967296 : Nat) : Int) := by
  have h := u64_and_nat t 4294967295 ht (by decide)
  rw [nat_mask32] at h
  exact h

theorem part_set (c : Nat → Nat) (o k x : Nat) : part (fun j => if j = o + k then x else c j) o = fun j => if j = k then x else part c o j := by
  funext j
  simp only [part]
  by_cases e : j = k
  · simp [e]
  · rw [if_neg (by omega), if_neg e]

theorem ta_step {X X0 D : Nat → Nat} {k y b q t p : Nat} (h : val X k + q * val D k = val X0 k + (b + y) * 4294967296 ^ k) (ht : t = y + q * D k) (hp : p = t % 4294967296) (hX : X k = X0 k) (hx : X0 k < 4294967296) (hb : b ≤ 1) :
    val (fun j => if j = k then (X0 k + 8589934592 - p - b) % 4294967296 else X j) (k + 1) + q * val D (k + 1) = val X0 (k + 1) + (bor (X0 k) p b + t / 4294967296) * 4294967296 ^ (k + 1) := by
  have h1 := val_set X (k + 1) k ((X0 k + 8589934592 - p - b) % 4294967296) (by omega)
  have h3 : val X (k + 1) = val X k + X k * 4294967296 ^ k := rfl
  have h4 : val X0 (k + 1) = val X0 k + X0 k * 4294967296 ^ k := rfl
  have h5 : q * val D (k + 1) = q * val D k + q * D k * 4294967296 ^ k := by
    show q * (val D k + D k * 4294967296 ^ k) = _
    rw [Nat.mul_add, Nat.mul_assoc]
  have key : (X0 k + 8589934592 - p - b) % 4294967296 + q * D k + (b + y) = X0 k + (bor (X0 k) p b + t / 4294967296) * 4294967296 := by
    unfold bor
    split <;> omega
  have h6 : ((X0 k + 8589934592 - p - b) % 4294967296 + q * D k + (b + y)) * 4294967296 ^ k = (X0 k + (bor (X0 k) p b + t / 4294967296) * 4294967296) * 4294967296 ^ k := by rw [key]
  rw [Nat.add_mul, Nat.add_mul, Nat.add_mul (X0 k)] at h6
  have h7 : (bor (X0 k) p b + t / 4294967296) * 4294967296 ^ (k + 1) = (bor (X0 k) p b + t / 4294967296) * 4294967296 * 4294967296 ^ k := by rw [Nat.pow_succ, Nat.mul_assoc, Nat.mul_comm (4294967296 ^ k)]
  rw [hX] at h1 h3
  omega

theorem ta_word (a p b : Nat) (ha : a < 4294967296) (hp : p < 4294967296) (hb : b ≤ 1) :
    IntKind.u64.wrap (IntKind.u64.wrap ((a : Int) - (p : Int)) - (b : Int)) / 9223372036854775808 = ((bor a p b : Nat) : Int) ∧
    IntKind.u64.wrap (IntKind.u64.wrap ((a : Int) - (p : Int)) - (b : Int)) % 4294967296 = (((a + 8589934592 - p - b) % 4294967296 : Nat) : Int) := by
  simp only [IntKind.wrap_u64]
  unfold bor
  split <;> omega

theorem ta_same {c c0 : Nat → Nat} {o k x : Nat} (h : ∀ i, i < o ∨ o + k ≤ i → c i = c0 i) : ∀ i, i < o ∨ o + (k + 1) ≤ i → (fun j => if j = o + k then x else c j) i = c0 i := by
  intro i hi
  show (if i = o + k then x else c i) = c0 i
  rw [if_neg (by omega)]
  exact h i (by omega)

/-- What takeAway leaves. -/
def Took (g N o n q : Nat) (c0 dl : Nat → Nat) (w : World) (e : Ending) (w' : World) : Prop :=
  ∃ (br : Bool) (c : Nat → Nat), e = .returned (.bool br) ∧ Row w' g N c ∧ (∀ i, i < N → c i < 4294967296) ∧ (∀ i, i < o ∨ o + n + 1 ≤ i → c i = c0 i) ∧
      val (part c o) (n + 1) + q * val dl n = val (part c0 o) (n + 1) + (if br then 4294967296 ^ (n + 1) else 0) ∧ But g w w'

set_option maxHeartbeats 800000 in
theorem takeAway_any (g N o n ucap : Nat) (c0 dl : Nat → Nat) (ao : Option Addr) (cap q : Nat) (w : World) (hr0 : Row w g N c0) (hN : o + n + 1 ≤ N) (hNn : N ≤ 1000000000) (hc0 : ∀ i, i < N → c0 i < 4294967296)
    (hd : Lm w ao n cap dl) (ha : ∀ b o, ao = some ⟨b, o, none⟩ → b ≠ g) (hn : 0 < n) (hq : q < 4294967296) (hu : n + 1 ≤ ucap) (hu2 : ucap ≤ 1000000000) :
    Calls Oahg.prog 151 #[.slice (some ⟨g, o, none⟩) (n + 1) ucap, .slice ao n cap, .int .u32 q] w (Took g N o n q c0 dl w) := by
  obtain ⟨b1, off, rfl, hlt, hc⟩ := hd.at hn
  have hne := ha b1 off rfl
  have htop := hd.top
  have hfit := hd.fits
  have HC : Hid (∀ i, i < n → w.cell? ⟨b1, off + i, none⟩ = some (.int .u32 (dl i))) := hc
  have HA : Hid (∀ i, i < N → c0 i < 4294967296) := hc0
  clear hc ha hc0
  go_enter Oahg.func151, Oahg.ntmps151
  go_wp2
  go_loopw [7, 8, 13] (fun cy br t wr => ∃ k y b : Nat, ∃ c : Nat → Nat, k ≤ n + 1 ∧ t = .int .i64 k ∧ cy = .int .u64 y ∧ br = .int .u64 b ∧ y < 4294967296 ∧ b ≤ 1 ∧ (k = n + 1 → y = 0) ∧ Row wr g N c ∧ Hid (∀ i, i < N → c i < 4294967296) ∧ Hid (∀ i, i < o ∨ o + k ≤ i → c i = c0 i) ∧ Hid (val (part c o) k + q * val (ext0 dl n) k = val (part c0 o) k + (b + y) * 4294967296 ^ k) ∧ But g w wr) (fun _ _ t _ => n + 1 - (intOf t).toNat)
  case atStart => exact ⟨0, 0, 0, c0, by omega, rfl, rfl, rfl, by omega, by omega, by omega, hr0, HA, by unfold Hid; intros; rfl, by unfold Hid; simp [val], But.refl _ _⟩
  case round =>
    obtain ⟨k, y, b, c, hk, rfl, rfl, rfl, hy, hb, hlast, hr, HL, HS, HV, hbut⟩ := hrel
    have HLast : Hid (k = n + 1 → y = 0) := hlast
    clear hlast
    by_cases hkn : k < n + 1
    · have c2 : wr.cell? ⟨g, o + k, none⟩ = some (.int .u32 (c (o + k))) := hr.cell (by omega)
      have f2 := hr.frozen (o + k)
      have e0 : c (o + k) = c0 (o + k) := HS.out _ (by omega)
      have f4 := HA.out (o + k) (by omega)
      rw [e0] at c2
      have E0 : Hid (c (o + k) = c0 (o + k)) := e0
      clear e0
      by_cases hkd : k < n
      · have c1 : wr.cell? ⟨b1, off + k, none⟩ = some (.int .u32 (dl k)) := (hbut.cell hne).trans (HC.out k hkd)
        have f1 : dl k < 4294967296 := hd.lim k hkd
        obtain ⟨p0, p1⟩ := prod_cast_le q (dl k) hq f1
        have HP : Hid (q * dl k ≤ 18446744065119617025) := prod_le q (dl k) hq f1
        obtain ⟨t, et⟩ : ∃ t, t = y + q * dl k := ⟨_, rfl⟩
        have ht : (y : Int) + (q : Int) * (dl k : Int) = (t : Int) := by rw [et, Int.natCast_add, Int.natCast_mul]
        have htl : t < 18446744073709551616 := by have := HP.out; omega
        have ET : Hid (t = y + q * dl k) := et
        have hmask := and_mask t htl
        obtain ⟨p, ep⟩ : ∃ p, p = t % 4294967296 := ⟨_, rfl⟩
        rw [← ep] at hmask
        have hpl : p < 4294967296 := by omega
        have EP : Hid (p = t % 4294967296) := ep
        clear ep et
        go_wp2
        go_roundw
        case rel =>
          have ew := ta_word (c0 (o + k)) p b f4 hpl hb
          refine ⟨k + 1, t / 4294967296, bor (c0 (o + k)) p b, _, by omega, by go_num, rfl, by rw [ew.1], by omega, bor_le _ _ _, by omega, hr.setI (o + k) ((c0 (o + k) + 8589934592 - p - b) % 4294967296) ew.2, add_lim HL.out (Nat.mod_lt _ (by decide)), ta_same HS.out, ?_, hbut.set _ _⟩
          unfold Hid
          rw [part_set]
          exact ta_step HV.out (by rw [ext0_lt hkd]; exact ET.out) EP.out E0.out f4 hb
        case measure => simp [intOf]; omega
      · have hmask := and_mask y (by omega)
        rw [Nat.mod_eq_of_lt hy] at hmask
        go_wp2
        go_roundw
        case rel =>
          have ew := ta_word (c0 (o + k)) y b f4 hy hb
          refine ⟨k + 1, y / 4294967296, bor (c0 (o + k)) y b, _, by omega, by go_num, by go_num, by rw [ew.1], by omega, bor_le _ _ _, by omega, hr.setI (o + k) ((c0 (o + k) + 8589934592 - y - b) % 4294967296) ew.2, add_lim HL.out (Nat.mod_lt _ (by decide)), ta_same HS.out, ?_, hbut.set _ _⟩
          unfold Hid
          rw [part_set]
          exact ta_step HV.out (by rw [ext0_ge (by omega)]; simp) (Nat.mod_eq_of_lt hy).symm E0.out f4 hb
        case measure => simp [intOf]; omega
    · have e : k = n + 1 := by omega
      subst e
      have hy0 := HLast.out rfl
      subst hy0
      by_cases hb1 : b = 1
      · subst hb1
        go_wp2
        go_ret
        refine ⟨true, c, rfl, hr, HL.out, ?_, ?_, hbut⟩
        · intro i hi; exact HS.out i (by omega)
        · have := HV.out
          rw [val_ext0 dl n _ (by omega)] at this
          simpa using this
      · have hb0 : b = 0 := by omega
        subst hb0
        go_wp2
        go_ret
        refine ⟨false, c, rfl, hr, HL.out, ?_, ?_, hbut⟩
        · intro i hi; exact HS.out i (by omega)
        · have := HV.out
          rw [val_ext0 dl n _ (by omega)] at this
          simpa using this

theorem pb_step {X X0 D : Nat → Nat} {k y t : Nat} (h : val X k + y * 4294967296 ^ k = val X0 k + val D k) (ht : t = y + X0 k + D k) (hX : X k = X0 k) :
    val (fun j => if j = k then t % 4294967296 else X j) (k + 1) + t / 4294967296 * 4294967296 ^ (k + 1) = val X0 (k + 1) + val D (k + 1) := by
  have h1 := val_set X (k + 1) k (t % 4294967296) (by omega)
  have h3 : val X (k + 1) = val X k + X k * 4294967296 ^ k := rfl
  have h4 : val X0 (k + 1) = val X0 k + X0 k * 4294967296 ^ k := rfl
  have h5 : val D (k + 1) = val D k + D k * 4294967296 ^ k := rfl
  have h6 : t / 4294967296 * 4294967296 ^ (k + 1) = t / 4294967296 * 4294967296 * 4294967296 ^ k := by rw [Nat.pow_succ, Nat.mul_assoc, Nat.mul_comm (4294967296 ^ k)]
  have h7 : t / 4294967296 * 4294967296 * 4294967296 ^ k + t % 4294967296 * 4294967296 ^ k = t * 4294967296 ^ k := by
    rw [← Nat.add_mul]; congr 1; omega
  have h8 : t * 4294967296 ^ k = y * 4294967296 ^ k + X0 k * 4294967296 ^ k + D k * 4294967296 ^ k := by rw [ht, Nat.add_mul, Nat.add_mul]
  rw [hX] at h1 h3
  omega

set_option maxHeartbeats 800000 in
theorem putBack_any (g N o n ucap : Nat) (c0 dl : Nat → Nat) (ao : Option Addr) (cap : Nat) (w : World) (hr0 : Row w g N c0) (hN : o + n + 1 ≤ N) (hNn : N ≤ 1000000000) (hc0 : ∀ i, i < N → c0 i < 4294967296)
    (hd : Lm w ao n cap dl) (ha : ∀ b o, ao = some ⟨b, o, none⟩ → b ≠ g) (hn : 0 < n) (hu : n + 1 ≤ ucap) (hu2 : ucap ≤ 1000000000) :
    Calls Oahg.prog 152 #[.slice (some ⟨g, o, none⟩) (n + 1) ucap, .slice ao n cap] w fun e w' => ∃ (y : Nat) (c : Nat → Nat), e = .returned (.tuple #[]) ∧ Row w' g N c ∧ (∀ i, i < N → c i < 4294967296) ∧ (∀ i, i < o ∨ o + n + 1 ≤ i → c i = c0 i) ∧
      val (part c o) (n + 1) + y * 4294967296 ^ (n + 1) = val (part c0 o) (n + 1) + val dl n ∧ But g w w' := by
  obtain ⟨b1, off, rfl, hlt, hc⟩ := hd.at hn
  have hne := ha b1 off rfl
  have htop := hd.top
  have hfit := hd.fits
  have HC : Hid (∀ i, i < n → w.cell? ⟨b1, off + i, none⟩ = some (.int .u32 (dl i))) := hc
  have HA : Hid (∀ i, i < N → c0 i < 4294967296) := hc0
  clear hc ha hc0
  go_enter Oahg.func152, Oahg.ntmps152
  go_wp2
  go_loopw [4, 8] (fun cy t wr => ∃ k y : Nat, ∃ c : Nat → Nat, k ≤ n + 1 ∧ t = .int .i64 k ∧ cy = .int .u64 y ∧ y ≤ 1 ∧ Row wr g N c ∧ Hid (∀ i, i < N → c i < 4294967296) ∧ Hid (∀ i, i < o ∨ o + k ≤ i → c i = c0 i) ∧ Hid (val (part c o) k + y * 4294967296 ^ k = val (part c0 o) k + val (ext0 dl n) k) ∧ But g w wr) (fun _ t _ => n + 1 - (intOf t).toNat)
  case atStart => exact ⟨0, 0, c0, by omega, rfl, rfl, by omega, hr0, HA, by unfold Hid; intros; rfl, by unfold Hid; simp [val], But.refl _ _⟩
  case round =>
    obtain ⟨k, y, c, hk, rfl, rfl, hy, hr, HL, HS, HV, hbut⟩ := hrel
    by_cases hkn : k < n + 1
    · have c2 : wr.cell? ⟨g, o + k, none⟩ = some (.int .u32 (c (o + k))) := hr.cell (by omega)
      have f2 := hr.frozen (o + k)
      have e0 : c (o + k) = c0 (o + k) := HS.out _ (by omega)
      have f4 := HA.out (o + k) (by omega)
      rw [e0] at c2
      have E0 : Hid (c (o + k) = c0 (o + k)) := e0
      clear e0
      by_cases hkd : k < n
      · have c1 : wr.cell? ⟨b1, off + k, none⟩ = some (.int .u32 (dl k)) := (hbut.cell hne).trans (HC.out k hkd)
        have f1 : dl k < 4294967296 := hd.lim k hkd
        go_wp2
        go_roundw
        case rel =>
          refine ⟨k + 1, (y + c0 (o + k) + dl k) / 4294967296, _, by omega, by go_num, by go_num, by omega, hr.setI (o + k) ((y + c0 (o + k) + dl k) % 4294967296) (by omega), add_lim HL.out (Nat.mod_lt _ (by decide)), ta_same HS.out, ?_, hbut.set _ _⟩
          unfold Hid
          rw [part_set]
          exact pb_step HV.out (by rw [ext0_lt hkd]; rfl) E0.out
        case measure => simp [intOf]; omega
      · go_wp2
        go_roundw
        case rel =>
          refine ⟨k + 1, (y + c0 (o + k)) / 4294967296, _, by omega, by go_num, by go_num, by omega, hr.setI (o + k) ((y + c0 (o + k)) % 4294967296) (by omega), add_lim HL.out (Nat.mod_lt _ (by decide)), ta_same HS.out, ?_, hbut.set _ _⟩
          unfold Hid
          rw [part_set]
          exact pb_step HV.out (by rw [ext0_ge (by omega)]; rfl) E0.out
        case measure => simp [intOf]; omega
    · have e : k = n + 1 := by omega
      subst e
      go_wp2
      go_end0
      refine ⟨y, c, rfl, hr, HL.out, ?_, ?_, hbut⟩
      · intro i hi; exact HS.out i (by omega)
      · have := HV.out
        rw [val_ext0 dl n _ (by omega)] at this
        exact this
end Go.Proofs.Ygcoah
