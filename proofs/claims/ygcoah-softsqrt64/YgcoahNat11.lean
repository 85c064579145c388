/-
  THE WALKS OF PACKAGE nat, 11: divLong.
-/
import Derived.Test.YgcoahNat10
namespace Go.Proofs.Ygcoah
open Go.RowKit
attribute [local go_sem] eqNil neNil

/-- The divisor, moved up so that its top bit is set. -/
theorem norm_div {fb : Nat → Nat} {n s : Nat} (hn : 0 < n) (hl : ∀ i, i < n → fb i < 4294967296) (ht : fb (n - 1) ≠ 0) (hs : s = 32 - bl (fb (n - 1))) :
    2147483648 * 4294967296 ^ (n - 1) ≤ val fb n * 2 ^ s ∧ val fb n * 2 ^ s < 4294967296 ^ n := by
  obtain ⟨m, rfl⟩ : ∃ m, n = m + 1 := ⟨n - 1, by omega⟩
  rw [Nat.add_sub_cancel] at *
  obtain ⟨h1, h2⟩ := bl_bounds (fb m) (by omega)
  have h3 : bl (fb m) ≤ 32 := (bl_le_iff _ _).2 (hl m (by omega))
  have h4 := bl_pos (fb m) (by omega)
  have h5 := val_lt fb m (fun i hi => hl i (by omega))
  have e : val fb (m + 1) = val fb m + fb m * 4294967296 ^ m := rfl
  have p1 : 2 ^ (bl (fb m) - 1) * 2 ^ s = 2147483648 := by rw [← Nat.pow_add, show bl (fb m) - 1 + s = 31 by omega]
  have p2 : 2 ^ bl (fb m) * 2 ^ s = 4294967296 := by rw [← Nat.pow_add, show bl (fb m) + s = 32 by omega]
  constructor
  · have : 2 ^ (bl (fb m) - 1) * 4294967296 ^ m ≤ val fb (m + 1) := by
      have := Nat.mul_le_mul_right (4294967296 ^ m) h1
      omega
    have := Nat.mul_le_mul_right (2 ^ s) this
    rw [Nat.mul_right_comm, p1] at this
    exact this
  · have : val fb (m + 1) < 2 ^ bl (fb m) * 4294967296 ^ m := by
      have := Nat.mul_le_mul_right (4294967296 ^ m) (show fb m + 1 ≤ 2 ^ bl (fb m) by omega)
      rw [Nat.add_mul] at this
      omega
    have := Nat.mul_lt_mul_of_pos_right this (Nat.pow_pos (n := s) (show 0 < 2 by decide))
    rw [Nat.mul_right_comm, p2, Nat.mul_comm 4294967296, ← Nat.pow_succ] at this
    exact this

theorem norm_limbs {f : Nat → Nat} {n k : Nat} (hn : 0 < n) (hk : ∀ i, i < k → f i < 4294967296) (ht : 0 < k → f (k - 1) ≠ 0) (h1 : 2147483648 * 4294967296 ^ (n - 1) ≤ val f k) (h2 : val f k < 4294967296 ^ n) : k = n ∧ 2147483648 ≤ f (n - 1) := by
  have hle := len_le f k n ht h2
  have hge : n ≤ k := by
    have h3 := val_lt f k hk
    have h4 := base_pos (n - 1)
    have h5 : (4294967296 : Nat) ^ (n - 1) < 4294967296 ^ k := by omega
    have := (Nat.pow_lt_pow_iff_right (a := 4294967296) (by decide)).1 h5
    omega
  have e : k = n := by omega
  subst e
  refine ⟨rfl, ?_⟩
  obtain ⟨m, rfl⟩ : ∃ m, k = m + 1 := ⟨k - 1, by omega⟩
  rw [Nat.add_sub_cancel] at *
  have h5 := val_lt f m (fun i hi => hk i (by omega))
  have e : val f (m + 1) = val f m + f m * 4294967296 ^ m := rfl
  have : 2147483648 * 4294967296 ^ m < (f m + 1) * 4294967296 ^ m := by rw [Nat.add_mul]; omega
  have := Nat.lt_of_mul_lt_mul_right this
  omega

theorem div_of {a b q r : Nat} (h : a = q * b + r) (hr : r < b) : q = a / b ∧ r = a % b := by
  have hb : 0 < b := by omega
  rw [h, Nat.mul_comm]
  exact ⟨by rw [Nat.mul_add_div hb, Nat.div_eq_of_lt hr]; rfl, by rw [Nat.mul_add_mod, Nat.mod_eq_of_lt hr]⟩

theorem div_scaled {a b Q R p : Nat} (hp : 0 < p) (h : a * p = Q * (b * p) + R) (hR : R < b * p) : Q = a / b ∧ R / p = a % b := by
  have h1 : R = (a - Q * b) * p := by
    rw [Nat.sub_mul, Nat.mul_assoc]; omega
  have h2 : Q * b ≤ a := by
    have : Q * b * p ≤ a * p := by rw [Nat.mul_assoc]; omega
    exact Nat.le_of_mul_le_mul_right this hp
  have h3 : a - Q * b < b := by
    rw [h1] at hR
    exact Nat.lt_of_mul_lt_mul_right hR
  have h4 := div_of (a := a) (b := b) (q := Q) (r := a - Q * b) (by omega) h3
  refine ⟨h4.1, ?_⟩
  rw [h1, Nat.mul_div_cancel _ hp]
  exact h4.2

set_option maxRecDepth 100000 in
set_option maxHeartbeats 1000000 in
theorem divLong_any (ao bo : Option Addr) (na capa n capb : Nat) (fa fb : Nat → Nat) (w : World) (ha : Lm w ao na capa fa) (hb : Lm w bo n capb fb) (hn : 2 ≤ n) (hna : na ≤ 50000000) (ht : fb (n - 1) ≠ 0) (hle : n ≤ na) :
    Calls Oahg.prog 121 #[.slice ao na capa, .slice bo n capb] w fun e w' => (∃ v1 v2, e = .returned (.tuple #[v1, v2]) ∧ NatV w' v1 (val fa na / val fb n) ∧ NatV w' v2 (val fa na % val fb n)) ∧ Below w.heap.size w w' := by
  have htopa := ha.top
  have hfita := ha.fits
  have htopb := hb.top
  have hfitb := hb.fits
  obtain ⟨bb, ob, rfl, hltb, hcb⟩ := hb.at (by omega)
  have c0 : w.cell? ⟨bb, ob + (n - 1), none⟩ = some (.int .u32 (fb (n - 1))) := hcb _ (by omega)
  have f0 := hb.lim (n - 1) (by omega)
  have hb1 : bl (fb (n - 1)) ≤ 32 := (bl_le_iff _ _).2 f0
  have hb0 : 0 < bl (fb (n - 1)) := bl_pos _ (by omega)
  obtain ⟨s, es⟩ : ∃ s, s = 32 - bl (fb (n - 1)) := ⟨_, rfl⟩
  obtain ⟨D1, D2⟩ := norm_div (by omega) hb.lim ht es
  have es' : (32 : Int) - (bl (fb (n - 1)) : Int) = (s : Int) := by omega
  have hs : s ≤ 31 := by omega
  have HD1 : Hid (2147483648 * 4294967296 ^ (n - 1) ≤ val fb n * 2 ^ s) := D1
  have HD2 : Hid (val fb n * 2 ^ s < 4294967296 ^ n) := D2
  have HT : Hid (fb (n - 1) ≠ 0) := ht
  clear hcb D1 D2 ht es
  go_enter Oahg.func121, Oahg.ntmps121
  go_wp2_with (go_at_call 108; refine (width32_any _ _ f0).mono ?_; rintro e w2 ⟨rfl, rfl⟩)
  refine (lift_any _ n capb s fb _ hb (by omega) (by omega)).mono ?_
  rintro e w1 ⟨⟨vd, rfl, hNd⟩, hbd⟩
  obtain ⟨ad, nd, capd, dl, rfl, hld, hzd, htd, hvd⟩ := hNd.ex
  have hnd := norm_limbs (n := n) (by omega) hld.lim htd (by rw [hvd]; exact HD1.out) (by rw [hvd]; exact HD2.out)
  obtain ⟨rfl, hdt⟩ := hnd
  obtain ⟨bd, od, rfl, hltd, hcd⟩ := hld.at (by omega)
  have ha1 := ha.below hbd
  have HVD : Hid (val dl nd = val fb nd * 2 ^ s) := hvd
  have HCD : Hid (∀ i, i < nd → w1.cell? ⟨bd, od + i, none⟩ = some (.int .u32 (dl i))) := hcd
  have hcapd := hld.top
  have hfitd := hld.fits
  have hmk := make54 (na + 1) (by omega)
  rw [show ((na + 1 : Nat) : Int) = (na : Int) + 1 from by omega] at hmk
  have hBd : Below w2.heap.size w2 w1 := hbd
  clear hzd htd hvd hcd hNd hbd c0
  go_wp2_with fail
  have hal : Below w1.heap.size w1 (w1.alloc (.cells (madeCells #[.int .u32 0] (na + 1)) 97)) := (Below.refl _ _).alloc (Nat.le_refl _) _
  refine (lift_any ao na capa s fa _ (ha1.below hal) (by omega) (by omega)).mono ?_
  rintro e w3 ⟨⟨va, rfl, hNa⟩, hba⟩
  obtain ⟨aa, nA, capA, fA, rfl, hlA, hzA, htA, hvA⟩ := hNa.ex
  have hrow : Row w3 w1.heap.size (na + 1) (fun _ => 0) := (Row.made w1 (na + 1)).below (B := (w1.alloc (.cells (madeCells #[.int .u32 0] (na + 1)) 97)).heap.size) (by simp) hba
  have hnA : nA ≤ na + 1 := by
    refine len_le fA nA (na + 1) htA ?_
    rw [hvA, Nat.pow_succ]
    have h1 := val_lt fa na ha.lim
    have h2 : 2 ^ s ≤ 2 ^ 31 := Nat.pow_le_pow_right (by decide) hs
    have h3 := Nat.mul_le_mul (Nat.le_of_lt h1) h2
    have h4 := base_pos na
    omega
  obtain ⟨w4, hcopy, hrow4, hb4, hsz4⟩ := run_copy54 w3 3 w1.heap.size (na + 1) (na + 1) nA capA (fun _ => 0) fA aa hrow hlA hnA hzA
  have HVA : Hid (val (fun i => if i < nA then fA i else 0) (na + 1) = val fa na * 2 ^ s) := by
    unfold Hid
    rw [← hvA]
    exact val_ext0 fA nA (na + 1) hnA
  have HLA : Hid (∀ i, i < na + 1 → (fun i => if i < nA then fA i else 0) i < 4294967296) := fun i _ => ext0_lim hlA.lim i
  generalize (fun i => if i < nA then fA i else 0) = u0 at *
  have hmk2 := make54 (na - nd + 1) (by omega)
  rw [show ((na - nd + 1 : Nat) : Int) = (na : Int) - (nd : Int) + 1 from by omega] at hmk2
  have hszA : w1.heap.size < w3.heap.size := hrow.lt
  have hB1 : Below w1.heap.size w1 w4 := (hal.trans (hba.mono (by simp))).trans hb4
  clear hlA hzA htA hvA hNa hba hb4 hrow
  go_wp2_with fail
  have hDlt : val dl nd < 4294967296 ^ nd := val_lt dl nd hld.lim
  have hDpos : 0 < val dl nd := val_pos dl nd (by omega) (by omega)
  have HDL : Hid (val dl nd < 4294967296 ^ nd) := hDlt
  have HDP : Hid (0 < val dl nd) := hDpos
  clear hDlt hDpos hcopy hmk hmk2 ha1
  go_loopw [11] (fun t wr => ∃ k : Nat, ∃ c e : Nat → Nat, k ≤ na - nd + 1 ∧ t = .int .i64 ((k : Int) - 1) ∧ Row wr w1.heap.size (na + 1) c ∧ Row wr w4.heap.size (na - nd + 1) e ∧ Hid (∀ i, i < na + 1 → c i < 4294967296) ∧ Hid (∀ i, i < na - nd + 1 → e i < 4294967296) ∧ Hid (∀ i, i < k → e i = 0) ∧
      Hid (val fa na * 2 ^ s = val e (na - nd + 1) * val dl nd + val c (na + 1)) ∧ Hid (val c (na + 1) < val dl nd * 4294967296 ^ k) ∧ Below w1.heap.size w1 wr) (fun t _ => (intOf t + 1).toNat)
  case atStart =>
    refine ⟨na - nd + 1, u0, fun _ => 0, by omega, ?_, hrow4.below (B := w4.heap.size) (by omega) ((Below.refl _ _).alloc (Nat.le_refl _) _), Row.made w4 _, HLA, by unfold Hid; intro i _; show 0 < 4294967296; omega, by unfold Hid; intros; rfl, ?_, ?_, hB1.alloc (by omega) _⟩
    · congr 1; omega
    · unfold Hid
      rw [val_zeros (fun _ => 0) 0 (na - nd + 1) (by omega) (fun _ _ _ => rfl)]
      simp only [val, Nat.zero_mul, Nat.zero_add]
      exact HVA.out.symm
    · unfold Hid
      rw [HVA.out, HVD.out]
      have h1 := val_lt fa na ha.lim
      have h2 := val_ge_top fb nd (by omega) HT.out
      have h3 : 4294967296 ^ (nd - 1) * 4294967296 ^ (na - nd + 1) ≤ val fb nd * 4294967296 ^ (na - nd + 1) := Nat.mul_le_mul_right _ h2
      rw [← Nat.pow_add, show nd - 1 + (na - nd + 1) = na by omega] at h3
      rw [Nat.mul_right_comm]
      exact Nat.mul_lt_mul_of_pos_right (by omega) (Nat.pow_pos (by decide))
  case round =>
    obtain ⟨k, c, e, hk, rfl, hr, hre, HL, HLe, HZ, HA, HR, hb⟩ := hrel
    by_cases hk0 : k = 0
    · subst hk0
      have hlmu := hr.lm (by omega) HL.out
      have hlme := hre.lm (by omega) HLe.out
      rw [hsz4] at hlme
      have HQR : Hid (val e (na - nd + 1) = val fa na / val fb nd ∧ val c (na + 1) / 2 ^ s = val fa na % val fb nd) := by
        have h1 := HA.out
        have h2 := HR.out
        rw [HVD.out] at h1 h2
        exact div_scaled (Nat.pow_pos (by decide)) h1 (by simpa using h2)
      go_wp2_with fail
      refine (shr_any _ _ _ s c _ hlmu (by omega) (by omega)).mono ?_
      rintro e7 w7 ⟨⟨v7, lost, rfl, hN7⟩, hb7⟩
      go_wp2_with fail
      refine (trim_any _ _ _ e _ (hlme.below hb7)).mono ?_
      rintro e8 w8 ⟨⟨ao3, n3, cap3, rfl, hT⟩, rfl⟩
      have hN := hT.natV
      rw [HQR.out.1] at hN
      rw [HQR.out.2] at hN7
      clear hT hlmu hlme
      go_wp2
      go_ret2
      exact ⟨⟨_, _, rfl, hN, hN7⟩, hBd.trans ((hb.trans (hb7.mono (by have := hb.size; omega))).mono (by have := hBd.size; omega))⟩
    · obtain ⟨j, rfl⟩ : ∃ j, k = j + 1 := ⟨k - 1, by omega⟩
      have d1 : wr.cell? ⟨w1.heap.size, j + nd, none⟩ = some (.int .u32 (c (j + nd))) := hr.cell (by omega)
      have d2 : wr.cell? ⟨w1.heap.size, j + nd - 1, none⟩ = some (.int .u32 (c (j + nd - 1))) := hr.cell (by omega)
      have d3 : wr.cell? ⟨w1.heap.size, j + nd - 2, none⟩ = some (.int .u32 (c (j + nd - 2))) := hr.cell (by omega)
      have d4 : wr.cell? ⟨bd, od + (nd - 1), none⟩ = some (.int .u32 (dl (nd - 1))) := (hb.cell (p := ⟨bd, od + (nd - 1), none⟩) hltd).trans (HCD.out _ (by omega))
      have d5 : wr.cell? ⟨bd, od + (nd - 2), none⟩ = some (.int .u32 (dl (nd - 2))) := (hb.cell (p := ⟨bd, od + (nd - 2), none⟩) hltd).trans (HCD.out _ (by omega))
      have i1 : (0 : Int) ≤ (j : Int) + (nd : Int) := by omega
      have i2 : (j : Int) + (nd : Int) < (na : Int) + 1 := by omega
      have i3 : (0 : Int) ≤ (j : Int) + (nd : Int) - 1 := by omega
      have i4 : (j : Int) + (nd : Int) - 1 < (na : Int) + 1 := by omega
      have i5 : (0 : Int) ≤ (j : Int) + (nd : Int) - 2 := by omega
      have i6 : (j : Int) + (nd : Int) - 2 < (na : Int) + 1 := by omega
      have i7 : (0 : Int) ≤ (nd : Int) - 1 := by omega
      have i8 : (0 : Int) ≤ (nd : Int) - 2 := by omega
      have g1 : dl (nd - 1) < 4294967296 := hld.lim _ (by omega)
      have g2 : dl (nd - 2) < 4294967296 := hld.lim _ (by omega)
      have g3 : c (j + nd - 1) < 4294967296 := HL.out _ (by omega)
      have g4 : c (j + nd - 2) < 4294967296 := HL.out _ (by omega)
      obtain ⟨hU1, hU2⟩ := step_U (c := c) (j := j) (n := nd) (N := na + 1) (by omega) HR.out HDL.out
      have hG := step_guess (X := part c j) (d := dl) (n := nd) hn (part_lim HL.out (by omega)) hld.lim hdt hU2
      have g5 : c (j + nd) ≤ dl (nd - 1) := hG.1
      have HG : Hid (val (part c j) (nd + 1) / val dl nd ≤ gq (c (j + nd - 1) + c (j + nd) * 4294967296) (c (j + nd - 2)) (dl (nd - 1)) (dl (nd - 2)) ∧ gq (c (j + nd - 1) + c (j + nd) * 4294967296) (c (j + nd - 2)) (dl (nd - 1)) (dl (nd - 2)) ≤ val (part c j) (nd + 1) / val dl nd + 1) := by
        have h := hG.2
        simp only [part, show j + (nd - 1) = j + nd - 1 by omega, show j + (nd - 2) = j + nd - 2 by omega] at h
        exact h
      clear hG hU1 hU2
      go_wp2_with fail
      go_quiet ((go_at_call 150; exact Calls.quiet_of (guess_any _ _ _ _ _ _ g5 g3 g4 hdt g1 g2)))
      have hGl := gq_lt (head := c (j + nd - 1) + c (j + nd) * 4294967296) (u0 := c (j + nd - 2)) (d1 := dl (nd - 1)) (d0 := dl (nd - 2))
      generalize gq (c (j + nd - 1) + c (j + nd) * 4294967296) (c (j + nd - 2)) (dl (nd - 1)) (dl (nd - 2)) = G at *
      clear d1 d2 d3 d4 d5 i3 i4 i5 i6 i7 i8 g1 g2 g3 g4 g5
      go_wp2_with fail
      rw [show j + nd + 1 - j = nd + 1 by omega]
      rw [hsz4] at hre
      have hldr : Lm (wr.drewN nq) (some ⟨bd, od, none⟩) nd capd dl := (hld.below (below_drewN hb nq))
      have hne : ∀ b o, (some ⟨bd, od, none⟩ : Option Addr) = some ⟨b, o, none⟩ → b ≠ w1.heap.size := by
        intro b o h
        simp at h
        omega
      refine (takeAway_any w1.heap.size (na + 1) j nd (na + 1 - j) c dl (some ⟨bd, od, none⟩) capd G (wr.drewN nq) (hr.drewN nq) (by omega) (by omega) HL.out hldr hne (by omega) hGl (by omega) (by omega)).mono ?_
      rintro e5 w5 ⟨br, c5, rfl, hr5, hl5, hs5, hv5, hbut5⟩
      have hx5 := val_lt (part c5 j) (nd + 1) (part_lim hl5 (by omega))
      have hDK : val dl nd < 4294967296 ^ (nd + 1) := by
        have h1 := HDL.out
        have h2 : (4294967296 : Nat) ^ nd ≤ 4294967296 ^ (nd + 1) := Nat.pow_le_pow_right (by decide) (by omega)
        omega
      have HL5 : Hid (∀ i, i < na + 1 → c5 i < 4294967296) := hl5
      have HS5 : Hid (∀ i, i < j ∨ j + nd + 1 ≤ i → c5 i = c i) := hs5
      have hre5 : Row w5 w3.heap.size (na - nd + 1) e := hbut5.row (by omega) (hre.drewN nq)
      have hce : w5.cell? ⟨w3.heap.size, j, none⟩ = some (.int .u32 (e j)) := hre5.cell (by omega)
      have hfe := hre5.frozen j
      have hb5 : Below w1.heap.size w1 w5 := (below_drewN hb nq).trans (hbut5.below (Nat.le_refl _))
      have hqd : val (part c j) (nd + 1) / val dl nd < 4294967296 := by
        have := HG.out.1
        generalize val (part c j) (nd + 1) / val dl nd = Z at *
        omega
      by_cases hq : G = val (part c j) (nd + 1) / val dl nd
      · have hR := took_right (br := if br then 4294967296 ^ (nd + 1) else 0) (K := 4294967296 ^ (nd + 1)) hv5 (by cases br <;> simp) hx5 hq
        have hbr : br = false := by
          cases br
          · rfl
          · have := hR.1
            have h0 := base_pos (nd + 1)
            simp at this
        subst hbr
        have HX : Hid (val (part c5 j) (nd + 1) = val (part c j) (nd + 1) % val dl nd) := hR.2
        have HQ : Hid (G = val (part c j) (nd + 1) / val dl nd) := hq
        clear hR hq hv5 hx5 hDK hl5 hs5 hldr hne hqd
        go_wp2_with fail
        go_roundw
        case rel =>
          have hE := step_end (c := c) (c' := c5) (e := e) (N := na + 1) (L := na - nd + 1) (j := j) (n := nd) (D := val dl nd) (A := val fa na * 2 ^ s) (by omega) (by omega) HA.out HR.out HDL.out HDP.out HL.out HS5.out HX.out (HZ.out j (by omega))
          rw [← HQ.out] at hE
          refine ⟨j, c5, _, by omega, rfl, World.rowIs.setOther hr5 (by simp; omega) _, ?_, HL5, add_lim HLe.out hGl, ?_, hE.1, hE.2, hb5.setCell (by simp; omega) _⟩
          · rw [hsz4]; exact hre5.setI j G rfl
          · unfold Hid
            intro i hi
            show (if i = j then _ else e i) = 0
            rw [if_neg (by omega)]
            exact HZ.out i (by omega)
        case measure => simp [intOf]
      · have hq' : G = val (part c j) (nd + 1) / val dl nd + 1 := by
          have h1 := HG.out.1
          have h2 := HG.out.2
          generalize val (part c j) (nd + 1) / val dl nd = Z at *
          omega
        have hR := took_more (br := if br then 4294967296 ^ (nd + 1) else 0) (K := 4294967296 ^ (nd + 1)) hv5 (by cases br <;> simp) HDP.out hq'
        have hbr : br = true := by
          cases br
          · have := hR.1
            have h0 := base_pos (nd + 1)
            simp at this
            omega
          · rfl
        subst hbr
        have HX : Hid (val (part c5 j) (nd + 1) + val dl nd = val (part c j) (nd + 1) % val dl nd + 4294967296 ^ (nd + 1)) := hR.2
        have HQ : Hid (G = val (part c j) (nd + 1) / val dl nd + 1) := hq'
        have hGp : 0 < G := by
          generalize val (part c j) (nd + 1) / val dl nd = Z at *
          omega
        have hld5 : Lm w5 (some ⟨bd, od, none⟩) nd capd dl := hld.below hb5
        have HDK : Hid (val dl nd < 4294967296 ^ (nd + 1)) := hDK
        have HNE : Hid (∀ b o, (some ⟨bd, od, none⟩ : Option Addr) = some ⟨b, o, none⟩ → b ≠ w1.heap.size) := hne
        clear hR hq hq' hv5 hx5 hDK hl5 hs5 hldr hne hqd
        go_wp2_with fail
        rw [show j + nd + 1 - j = nd + 1 by omega]
        refine (putBack_any w1.heap.size (na + 1) j nd (na + 1 - j) c5 dl (some ⟨bd, od, none⟩) capd w5 hr5 (by omega) (by omega) HL5.out hld5 HNE.out (by omega) (by omega) (by omega)).mono ?_
        rintro e6 w6 ⟨y6, c6, rfl, hr6, hl6, hs6, hv6, hbut6⟩
        have hx6 := val_lt (part c6 j) (nd + 1) (part_lim hl6 (by omega))
        have HX6 : Hid (val (part c6 j) (nd + 1) = val (part c j) (nd + 1) % val dl nd) := by
          have h1 := Nat.mod_lt (val (part c j) (nd + 1)) HDP.out
          have h2 := HDK.out
          exact put_right hv6 HX.out (by omega) hx6
        have HL6 : Hid (∀ i, i < na + 1 → c6 i < 4294967296) := hl6
        have HS6 : Hid (∀ i, i < j ∨ j + nd + 1 ≤ i → c6 i = c i) := fun i hi => (hs6 i hi).trans (HS5.out i hi)
        have hre6 : Row w6 w3.heap.size (na - nd + 1) e := hbut6.row (by omega) hre5
        have hce6 : w6.cell? ⟨w3.heap.size, j, none⟩ = some (.int .u32 (e j)) := hre6.cell (by omega)
        have hfe6 := hre6.frozen j
        have hb6 : Below w1.heap.size w1 w6 := hb5.trans (hbut6.below (Nat.le_refl _))
        clear hl6 hs6 hv6 hx6
        go_wp2_with fail
        go_roundw
        case rel =>
          have hE := step_end (c := c) (c' := c6) (e := e) (N := na + 1) (L := na - nd + 1) (j := j) (n := nd) (D := val dl nd) (A := val fa na * 2 ^ s) (by omega) (by omega) HA.out HR.out HDL.out HDP.out HL.out HS6.out HX6.out (HZ.out j (by omega))
          have eG : val (part c j) (nd + 1) / val dl nd = G - 1 := by
            rw [HQ.out, Nat.add_sub_cancel]
          rw [eG] at hE
          refine ⟨j, c6, _, by omega, rfl, World.rowIs.setOther hr6 (by simp; omega) _, ?_, HL6, add_lim HLe.out (show G - 1 < 4294967296 by omega), ?_, hE.1, hE.2, hb6.setCell (by simp; omega) _⟩
          · rw [hsz4]; exact hre6.setI j (G - 1) (by omega)
          · unfold Hid
            intro i hi
            show (if i = j then _ else e i) = 0
            rw [if_neg (by omega)]
            exact HZ.out i (by omega)
        case measure => simp [intOf]
end Go.Proofs.Ygcoah
