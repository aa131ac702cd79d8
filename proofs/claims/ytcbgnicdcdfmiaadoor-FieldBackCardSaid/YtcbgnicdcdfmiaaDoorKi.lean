/- The runs of a mask, and how many numbers it has. -/
import Derived.Test.YtcbgnicdcdfmiaaDoorKh
import Derived.Test.YtcbgnicdcdfmiaaDoorKg
namespace Go.Proofs.YtcbgnicdcdfmiaaDoor
open Go Go.B
set_option linter.unusedSimpArgs false
set_option linter.unusedVariables false
set_option linter.unusedSectionVars false
set_option maxRecDepth 20000

theorem fdivN (x k : Nat) : Int.fdiv (x : Int) ((2 : Int) ^ k) = ((x / 2 ^ k : Nat) : Int) := by
  rw [Int.fdiv_eq_ediv_of_nonneg _ (Int.pow_nonneg (by omega))]
  push_cast
  rfl

theorem andW (x : Nat) (C : Int) (hx : x < 18446744073709551616) (hC : U64 C) : IntKind.wrap .u64 ((BitVec.toNat (BitVec.ofInt (IntKind.bits .u64) (x : Int) &&& BitVec.ofInt (IntKind.bits .u64) C) : Nat) : Int) = ((x &&& C.toNat : Nat) : Int) := by
  have hand := Nat.and_le_left (n := x) (m := C.toNat)
  rw [and_toNat _ _ ⟨by omega, by omega⟩ hC, Int.toNat_natCast]
  exact wu (by omega) (by omega)

theorem addW (a b : Nat) (h : a + b < 18446744073709551616) : IntKind.wrap .u64 ((a : Int) + (b : Int)) = ((a + b : Nat) : Int) := by
  rw [wu (by omega) (by omega)]; omega

theorem ones_all {m : Nat} (hm : m < 18446744073709551616) : math_bits_OnesCount64_R (m : Int) ((bitsL (m : Int)).length : Int) := by
  have e256 : (256 : Nat) ^ 8 = 18446744073709551616 := by decide
  obtain ⟨p1, p2, p3, p4, p5⟩ := pc_all 8 m (by omega)
  have hs := dsum_pc 8 m (by omega)
  obtain ⟨c1, c2, c3, q1, q2, q3, q4, q5, q6, q7⟩ := sum8 p3 p2
  rw [hs] at q7
  have hlen : (bitsL (m : Int)).length = (lstB (Nat.testBit m) (8 * 8)).length := by unfold bitsL; rw [Int.toNat_natCast]
  rw [← hlen] at q7
  have M0 : (6148914691236517205 : Int).toNat = mk8 85 8 := by decide
  have M1 : (3689348814741910323 : Int).toNat = mk8 51 8 := by decide
  have M2 : (1085102592571150095 : Int).toNat = mk8 15 8 := by decide
  have a1 := Nat.and_le_right (n := m / 2) (m := mk8 85 8)
  have a2 := Nat.and_le_right (n := m) (m := mk8 85 8)
  have v0 : mk8 85 8 = 6148914691236517205 := by decide
  have v1 : mk8 51 8 = 3689348814741910323 := by decide
  have e1 : ∀ x : Nat, x < 18446744073709551616 → IntKind.wrap .u64 (IntKind.wrap .u64 ((BitVec.toNat (BitVec.ofInt (IntKind.bits .u64) (Int.fdiv (x : Int) (2 ^ 1)) &&& BitVec.ofInt (IntKind.bits .u64) 6148914691236517205) : Nat) : Int) + IntKind.wrap .u64 ((BitVec.toNat (BitVec.ofInt (IntKind.bits .u64) (x : Int) &&& BitVec.ofInt (IntKind.bits .u64) 6148914691236517205) : Nat) : Int)) = ((fA (mk8 85 8) x : Nat) : Int) := fun x hx => by
    have g1 := Nat.and_le_right (n := x / 2) (m := mk8 85 8)
    have g2 := Nat.and_le_right (n := x) (m := mk8 85 8)
    rw [fdivN, andW _ _ (by omega) ⟨by decide, by decide⟩, andW _ _ hx ⟨by decide, by decide⟩, M0, Nat.pow_one, addW _ _ (by omega)]
    rfl
  have e2 : ∀ x : Nat, x < 18446744073709551616 → IntKind.wrap .u64 (IntKind.wrap .u64 ((BitVec.toNat (BitVec.ofInt (IntKind.bits .u64) (Int.fdiv (x : Int) (2 ^ 2)) &&& BitVec.ofInt (IntKind.bits .u64) 3689348814741910323) : Nat) : Int) + IntKind.wrap .u64 ((BitVec.toNat (BitVec.ofInt (IntKind.bits .u64) (x : Int) &&& BitVec.ofInt (IntKind.bits .u64) 3689348814741910323) : Nat) : Int)) = ((fB (mk8 51 8) x : Nat) : Int) := fun x hx => by
    have g1 := Nat.and_le_right (n := x / 2 ^ 2) (m := mk8 51 8)
    have g2 := Nat.and_le_right (n := x) (m := mk8 51 8)
    rw [fdivN, andW _ _ (by omega) ⟨by decide, by decide⟩, andW _ _ hx ⟨by decide, by decide⟩, M1, addW _ _ (by omega)]
    rfl
  have hB : fB (mk8 51 8) (fA (mk8 85 8) m) ≤ 7378697629483820646 := by
    have g1 := Nat.and_le_right (n := fA (mk8 85 8) m / 4) (m := mk8 51 8)
    have g2 := Nat.and_le_right (n := fA (mk8 85 8) m) (m := mk8 51 8)
    unfold fB; omega
  unfold math_bits_OnesCount64_R
  rw [e1 m hm, e2 _ (by omega)]
  have e3 : IntKind.wrap .u64 (Int.fdiv ((fB (mk8 51 8) (fA (mk8 85 8) m) : Nat) : Int) (2 ^ 4) + ((fB (mk8 51 8) (fA (mk8 85 8) m) : Nat) : Int)) = ((fB (mk8 51 8) (fA (mk8 85 8) m) / 16 + fB (mk8 51 8) (fA (mk8 85 8) m) : Nat) : Int) := by
    rw [fdivN, addW _ _ (by omega)]
  rw [e3, andW _ _ (by omega) ⟨by decide, by decide⟩, M2]
  have e4 : (fB (mk8 51 8) (fA (mk8 85 8) m) / 16 + fB (mk8 51 8) (fA (mk8 85 8) m)) &&& mk8 15 8 = pcN 8 m := rfl
  rw [e4]
  have d1 : IntKind.wrap .u64 (((pcN 8 m : Nat) : Int) + Int.fdiv ((pcN 8 m : Nat) : Int) (2 ^ 8)) = (c1 : Int) := by rw [fdivN, addW _ _ (by omega), q1]
  rw [d1]
  have d2 : IntKind.wrap .u64 ((c1 : Int) + Int.fdiv (c1 : Int) (2 ^ 16)) = (c2 : Int) := by rw [fdivN, addW _ _ (by omega), q2]
  rw [d2]
  have d3 : IntKind.wrap .u64 ((c2 : Int) + Int.fdiv (c2 : Int) (2 ^ 32)) = (c3 : Int) := by rw [fdivN, addW _ _ (by omega), q3]
  rw [d3]
  have hl := bitsL_len (m : Int)
  generalize (bitsL (m : Int)).length = L at *
  have e7 : BitVec.toNat (BitVec.ofInt (IntKind.bits .i64) (IntKind.wrap .i64 (c3 : Int)) &&& BitVec.ofInt (IntKind.bits .i64) 127) = L := by
    rw [BitVec.toNat_and]
    have t1 : (BitVec.ofInt (IntKind.bits .i64) (IntKind.wrap .i64 (c3 : Int))).toNat = c3 := by
      simp only [IntKind.bits, BitVec.toNat_ofInt, IntKind.wrap, IntKind.signed]
      simp
      omega
    have t2 : (BitVec.ofInt (IntKind.bits .i64) 127).toNat = 2 ^ 7 - 1 := by decide
    rw [t1, t2, Nat.and_two_pow_sub_one_eq_mod]
    omega
  rw [e7]
  exact wi (by omega) (by omega)

theorem mask_Count_fn {m : Nat} (hm : m < 18446744073709551616) : mask_Count_R (m : Int) ((bitsL (m : Int)).length : Int) := ⟨_, ones_all hm, rfl⟩

/- runs -/

def stB (p : Nat → Bool) (i : Nat) : Bool := p i && !(decide (0 < i) && p (i - 1))

def runLen (p : Nat → Bool) : Nat → Nat → Nat
  | 0, _ => 0
  | f + 1, a => bif p a then runLen p f (a + 1) + 1 else 0

def runF (m : Nat) (a : Int) : Int × Int := (a, a + (runLen (Nat.testBit m) 64 a.toNat : Int) - 1)

def runsO (m : Nat) : List (Int × Int) := (lstB (stB (Nat.testBit m)) 64).map (runF m)

theorem runLen_eq (p : Nat → Bool) : ∀ (t f a : Nat), t < f → (∀ j, j < t → p (a + j) = true) → p (a + t) = false → runLen p f a = t
  | 0, f + 1, a, _, _, h => by
    unfold runLen; rw [Nat.add_zero] at h; rw [h]; rfl
  | t + 1, f + 1, a, h, h1, h2 => by
    unfold runLen
    have h0 := h1 0 (by omega)
    rw [Nat.add_zero] at h0
    rw [h0, runLen_eq p t f (a + 1) (by omega) (fun j hj => by rw [Nat.add_assoc, Nat.add_comm 1 j]; exact h1 (j + 1) (by omega)) (by rw [Nat.add_assoc, Nat.add_comm 1 t]; exact h2)]
    rfl

theorem starts_bits {m : Nat} (hm : m < 9223372036854775808) : ∃ s : Nat, s < 18446744073709551616 ∧ IntKind.wrap .u64 ((BitVec.toNat (BitVec.ofInt (IntKind.bits .u64) (m : Int) &&& ~~~ BitVec.ofInt (IntKind.bits .u64) (IntKind.wrap .u64 ((m : Int) * 2 ^ 1))) : Nat) : Int) = (s : Int) ∧ ∀ j, j < 64 → Nat.testBit s j = stB (Nat.testBit m) j := by
  have e1 : IntKind.wrap .u64 ((m : Int) * 2 ^ 1) = ((2 * m : Nat) : Int) := by rw [wu (by omega) (by omega)]; omega
  rw [e1]
  refine ⟨BitVec.toNat (BitVec.ofInt (IntKind.bits .u64) (m : Int) &&& ~~~ BitVec.ofInt (IntKind.bits .u64) ((2 * m : Nat) : Int)), ?_, ?_, ?_⟩
  · have := (BitVec.ofInt (IntKind.bits .u64) (m : Int) &&& ~~~ BitVec.ofInt (IntKind.bits .u64) ((2 * m : Nat) : Int)).isLt
    exact this
  · have := (BitVec.ofInt (IntKind.bits .u64) (m : Int) &&& ~~~ BitVec.ofInt (IntKind.bits .u64) ((2 * m : Nat) : Int)).isLt
    have e64 : 2 ^ (IntKind.bits .u64) = 18446744073709551616 := by decide
    rw [e64] at this
    exact wu (by omega) (by omega)
  · intro j hj
    rw [BitVec.testBit_toNat, BitVec.getLsbD_and, BitVec.getLsbD_not]
    have g : ∀ x : Nat, x < 18446744073709551616 → (BitVec.ofInt (IntKind.bits .u64) (x : Int)).getLsbD j = Nat.testBit x j := fun x hx => by
      rw [← BitVec.testBit_toNat]
      congr 1
      simp only [IntKind.bits, BitVec.toNat_ofInt]
      omega
    rw [g m (by omega), g (2 * m) (by omega)]
    have hb : decide (j < IntKind.bits .u64) = true := decide_eq_true hj
    rw [hb, Bool.true_and]
    unfold stB
    congr 2
    rw [show 2 * m = m * 2 ^ 1 by omega, ← Nat.shiftLeft_eq, Nat.testBit_shiftLeft]
    simp
    by_cases h0 : 0 < j
    · rw [decide_eq_true (show 1 ≤ j by omega), decide_eq_true h0]
    · rw [decide_eq_false (show ¬ 1 ≤ j by omega), decide_eq_false h0]

theorem run_tz {m n : Nat} (hm : m < 9223372036854775808) (hn : n < 64) : math_bits_TrailingZeros64_R (IntKind.wrap .u64 ((BitVec.toNat (BitVec.ofInt (IntKind.bits .u64) 18446744073709551615 ^^^ BitVec.ofInt (IntKind.bits .u64) ((m / 2 ^ n : Nat) : Int)) : Nat) : Int)) (runLen (Nat.testBit m) 64 n : Int) ∧ runLen (Nat.testBit m) 64 n ≤ 63 := by
  have hx : m / 2 ^ n < 9223372036854775808 := Nat.lt_of_le_of_lt (Nat.div_le_self _ _) hm
  have key : ∀ X : Nat, X < 9223372036854775808 → BitVec.toNat (BitVec.ofInt (IntKind.bits .u64) 18446744073709551615 ^^^ BitVec.ofInt (IntKind.bits .u64) (X : Int)) = 18446744073709551616 - (X + 1) := fun X hX => by
    have q1 : BitVec.ofInt (IntKind.bits .u64) 18446744073709551615 = BitVec.allOnes (IntKind.bits .u64) := by decide
    rw [q1, BitVec.allOnes_xor, BitVec.toNat_not]
    simp only [BitVec.toNat_ofInt, IntKind.bits]
    omega
  have e1 := key _ hx
  rw [e1]
  have e64 : (2 : Nat) ^ 64 = 18446744073709551616 := by decide
  have hz : 18446744073709551616 - (m / 2 ^ n + 1) ≠ 0 := by omega
  rw [wu (by generalize m / 2 ^ n = X at *; omega) (by generalize m / 2 ^ n = X at *; omega)]
  obtain ⟨t, q, ht⟩ := odd_part hz
  have hlt : 2 ^ t * (2 * q + 1) < 2 ^ 64 := by rw [← ht]; generalize m / 2 ^ n = X at *; omega
  have ht64 := pow_lt_of hlt
  -- bits of the complement
  have hbit : ∀ j, j < 64 → Nat.testBit (2 ^ t * (2 * q + 1)) j = !(Nat.testBit m (n + j)) := fun j hj => by
    rw [← ht, ← e64, Nat.testBit_two_pow_sub_succ (by generalize m / 2 ^ n = X at *; omega), decide_eq_true hj, Bool.true_and, Nat.testBit_div_two_pow, Nat.add_comm]
  have hrun : runLen (Nat.testBit m) 64 n = t := by
    refine runLen_eq _ t 64 n ht64 (fun j hj => ?_) ?_
    · have := hbit j (by omega)
      rw [tb_x, if_pos hj] at this
      simpa using this.symm
    · have := hbit t ht64
      rw [tb_x, if_neg (Nat.lt_irrefl _), Nat.sub_self, tb_odd0] at this
      simpa using this.symm
  rw [hrun, ht]
  exact ⟨tz_fn hlt, by omega⟩

theorem runs_loop {m : Nat} (hm : m < 9223372036854775808) : ∀ (s : Nat) (l : List (Int × Int)), s < 2 ^ 64 → l.length + (lstB (Nat.testBit s) 64).length ≤ 64 → ∃ k, mask_Runs_l0 k (l, (m : Int), (s : Int)) (l ++ (lstB (Nat.testBit s) 64).map (runF m), 0) := by
  intro s
  induction s using Nat.strongRecOn with
  | _ s ih =>
    intro l hs hl
    by_cases h0 : s = 0
    · subst h0
      refine ⟨1, ?_⟩
      have e : lstB (Nat.testBit 0) 64 = [] := lstB_none (fun j _ => by simp)
      rw [e]
      simp [mask_Runs_l0, br]
    · obtain ⟨k, q, rfl⟩ := odd_part h0
      have hk := pow_lt_of hs
      have hst := bits_step (q := q) hk
      have hlt : 2 ^ k * (2 * q) < 2 ^ k * (2 * q + 1) := Nat.mul_lt_mul_of_pos_left (by omega) (Nat.pow_pos (by omega))
      rw [hst] at hl ⊢
      simp only [List.length_cons] at hl
      obtain ⟨K, hK⟩ := ih (2 ^ k * (2 * q)) hlt (l ++ [runF m (k : Int)]) (Nat.lt_trans hlt hs) (by simp; omega)
      have n0 : (((2 ^ k * (2 * q + 1) : Nat) : Int) != 0) = true := by rw [bne_iff_ne, ne_eq, Int.natCast_eq_zero]; exact h0
      obtain ⟨hz, hz2⟩ := run_tz hm hk
      refine ⟨K + 1, br_yes n0 ⟨(k : Int), tz_fn hs, ?_⟩⟩
      have hw : IntKind.wrap .u64 (k : Int) = (k : Int) := wu (by omega) (by omega)
      rw [hw]
      refine ⟨yes_of (by omega), (runLen (Nat.testBit m) 64 k : Int), ?_, ?_⟩
      · have emin : min (Int.toNat (k : Int)) (IntKind.bits .u64) = k := by simp only [IntKind.bits, Int.toNat_natCast]; omega
        rw [emin, fdivN]
        exact hz
      · have er : (k : Int) + (runLen (Nat.testBit m) 64 k : Int) - 1 = (runF m (k : Int)).2 := rfl
        have ew : IntKind.wrap .i64 (IntKind.wrap .i64 ((k : Int) + (runLen (Nat.testBit m) 64 k : Int)) - 1) = (runF m (k : Int)).2 := by
          rw [wi (x := (k : Int) + (runLen (Nat.testBit m) 64 k : Int)) (by omega) (by omega), wi (by omega) (by omega), er]
        rw [ew]
        refine ⟨?_, ?_⟩
        · simp [Nat.ble_eq]; omega
        · have hpos : 0 < 2 ^ k * (2 * q + 1) := by omega
          have hp := land_pred (k := k) (q := q)
          have e64 : (2 : Nat) ^ 64 = 18446744073709551616 := by decide
          generalize hX : 2 ^ k * (2 * q + 1) = X at *
          have e1 : IntKind.wrap .u64 ((X : Int) - 1) = ((X - 1 : Nat) : Int) := by rw [wu (by omega) (by omega)]; omega
          rw [e1, and_toNat _ _ ⟨by omega, by omega⟩ ⟨by omega, by omega⟩]
          simp only [Int.toNat_natCast]
          rw [hp, wu (by omega) (by omega)]
          rw [List.map_cons]
          rw [List.append_assoc] at hK
          exact hK

theorem mask_Runs_fn {m : Nat} (hm : m < 9223372036854775808) : mask_Runs_R (m : Int) (runsO m) := by
  obtain ⟨s, h1, h2, h3⟩ := starts_bits hm
  have e64 : (2 : Nat) ^ 64 = 18446744073709551616 := by decide
  obtain ⟨k, hk⟩ := runs_loop hm s [] (by omega) (by simpa using lstB_len (Nat.testBit s) 64)
  refine ⟨(runsO m, 0), ⟨k, ?_⟩, rfl⟩
  rw [h2]
  have : lstB (Nat.testBit s) 64 = lstB (stB (Nat.testBit m)) 64 := lstB_congr h3
  rw [this, List.nil_append] at hk
  exact hk

theorem runsO_len (m : Nat) : (runsO m).length ≤ 64 := by unfold runsO; rw [List.length_map]; exact lstB_len _ 64

theorem runLen_le (p : Nat → Bool) : ∀ (f a i : Nat), a ≤ i → p i = false → a + runLen p f a ≤ i
  | 0, a, i, h, _ => h
  | f + 1, a, i, h, hp => by
    unfold runLen
    cases ha : p a
    · exact h
    · have : a ≠ i := fun e => by rw [e, hp] at ha; cases ha
      have := runLen_le p f (a + 1) i (by omega) hp
      rw [cond_true]; omega

theorem runLen_pos (p : Nat → Bool) (f a : Nat) (h : p a = true) : 1 ≤ runLen p (f + 1) a := by
  unfold runLen; rw [h, cond_true]; omega

theorem runsO_mem {m : Nat} (hm : m < 9223372036854775808) {r : Int × Int} (h : r ∈ runsO m) : 0 ≤ r.1 ∧ r.1 ≤ r.2 ∧ r.2 ≤ 62 := by
  unfold runsO at h
  obtain ⟨a, ha, rfl⟩ := List.mem_map.mp h
  have hb := lstB_mem ha
  have hp := lstB_yesmem ha
  unfold stB at hp
  rw [Bool.and_eq_true] at hp
  have h63 : Nat.testBit m 63 = false := Nat.testBit_lt_two_pow (by simpa using hm)
  have hle := runLen_le (Nat.testBit m) 64 a.toNat 63 (by omega) h63
  have hps := runLen_pos (Nat.testBit m) 63 a.toNat hp.1
  have hle : a.toNat + runLen (Nat.testBit m) 64 a.toNat ≤ 63 := hle
  have hps : 1 ≤ runLen (Nat.testBit m) 64 a.toNat := hps
  unfold runF
  generalize runLen (Nat.testBit m) 64 a.toNat = R at *
  simp only
  omega
end Go.Proofs.YtcbgnicdcdfmiaaDoor
