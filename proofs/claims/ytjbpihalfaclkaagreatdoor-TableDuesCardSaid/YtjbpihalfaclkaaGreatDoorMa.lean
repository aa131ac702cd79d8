/- What masks come to: plain law over the relations of Gx. -/
import Derived.Test.YtjbpihalfaclkaaGreatDoorUt
import Derived.Test.YtjbpihalfaclkaaGreatDoorGx
namespace Go.Proofs.YtjbpihalfaclkaaGreatDoor
open Go Go.B
set_option linter.unusedSimpArgs false
set_option linter.unusedVariables false
set_option linter.unusedSectionVars false

def U64 (m : Int) : Prop := 0 ≤ m ∧ m ≤ 18446744073709551615

def mayB (n : Int) : Bool := decide (0 ≤ n) && decide (n ≤ 63)

theorem mayB_true {n : Int} (h : mayB n = true) : 0 ≤ n ∧ n ≤ 63 := by simpa [mayB] using h

theorem mask_may_fn (n : Int) : mask_may_R n (mayB n) := by
  unfold mask_may_R mayB
  by_cases h : (0 : Int) ≤ n <;> simp [br, h]

def hasB (m n : Int) : Bool := mayB n && m.toNat.testBit n.toNat

theorem and1 (x : Int) (k : Nat) (h0 : 0 ≤ x) (h1 : x ≤ 18446744073709551615) : (BitVec.toNat (BitVec.ofInt (IntKind.bits .u64) x &&& BitVec.ofInt (IntKind.bits .u64) 1)) = x.toNat % 2 := by
  rw [BitVec.toNat_and]
  have e1 : (BitVec.ofInt (IntKind.bits .u64) x).toNat = x.toNat := by
    simp only [IntKind.bits, BitVec.toNat_ofInt]
    omega
  have e2 : (BitVec.ofInt (IntKind.bits .u64) 1).toNat = 1 := by decide
  rw [e1, e2, Nat.and_one_is_mod]

theorem mask_Has_fn {m : Int} (hm : U64 m) (n : Int) : mask_Has_R m n (hasB m n) := by
  refine ⟨_, mask_may_fn n, ?_⟩
  unfold hasB
  cases h : mayB n
  · simp [br]
  · obtain ⟨h0, h1⟩ := mayB_true h
    have e0 : IntKind.wrap .u64 n = n := wu h0 (by omega)
    simp only [br, e0]
    refine ⟨by simpa using h0, ?_⟩
    have e1 : min n.toNat (IntKind.bits .u64) = n.toNat := by simp only [IntKind.bits]; omega
    rw [e1]
    obtain ⟨m', rfl⟩ : ∃ m' : Nat, m = m' := ⟨m.toNat, by have := hm.1; omega⟩
    have e2 : Int.fdiv (m' : Int) (2 ^ n.toNat) = ((m' / 2 ^ n.toNat : Nat) : Int) := by
      rw [Int.fdiv_eq_ediv_of_nonneg _ (by exact_mod_cast Nat.zero_le _)]
      push_cast; rfl
    have hle : m' / 2 ^ n.toNat ≤ m' := Nat.div_le_self _ _
    have hm2 := hm.2
    simp only [Int.toNat_natCast]
    rw [e2, Nat.testBit_eq_decide_div_mod_eq]
    generalize m' / 2 ^ n.toNat = d at *
    rw [and1 _ n.toNat (by omega) (by omega)]
    simp only [Int.toNat_natCast]
    rw [wu (by omega) (by omega)]
    simp only [Bool.true_and]
    rcases Nat.mod_two_eq_zero_or_one d with e | e <;> simp [e]

theorem ones_fn (m : Int) : ∃ y, math_bits_OnesCount64_R m y ∧ 0 ≤ y ∧ y ≤ 127 := by
  refine ⟨_, rfl, ?_⟩
  have h := and127
  generalize (IntKind.wrap .i64 (IntKind.wrap .u64 _)) = z
  have h := and127 z
  rw [wi (by omega) (by omega)]
  omega

theorem and_toNat (x y : Int) (hx : U64 x) (hy : U64 y) : (BitVec.toNat (BitVec.ofInt (IntKind.bits .u64) x &&& BitVec.ofInt (IntKind.bits .u64) y)) = x.toNat &&& y.toNat := by
  rw [BitVec.toNat_and]
  have e : ∀ z : Int, U64 z → (BitVec.ofInt (IntKind.bits .u64) z).toNat = z.toNat := fun z hz => by
    obtain ⟨h0, h1⟩ := hz
    simp only [IntKind.bits, BitVec.toNat_ofInt]
    omega
  rw [e _ hx, e _ hy]

theorem pow_lt_of {k q : Nat} (h : 2 ^ k * (2 * q + 1) < 2 ^ 64) : k < 64 := by
  rcases Nat.lt_or_ge k 64 with h1 | h1
  · exact h1
  · exfalso
    have h2 : (2 : Nat) ^ 64 ≤ 2 ^ k := Nat.pow_le_pow_right (by omega) h1
    have h3 : 2 ^ k * 1 ≤ 2 ^ k * (2 * q + 1) := Nat.mul_le_mul_left _ (by omega)
    omega

theorem db_all : ∀ k : Fin 64, (Int.fdiv (IntKind.wrap .u64 (((2 ^ k.val : Nat) : Int) * 285870213051353865)) (2 ^ 58)).toNat < 64 ∧ 0 ≤ Int.fdiv (IntKind.wrap .u64 (((2 ^ k.val : Nat) : Int) * 285870213051353865)) (2 ^ 58) ∧ dbL.getD (Int.fdiv (IntKind.wrap .u64 (((2 ^ k.val : Nat) : Int) * 285870213051353865)) (2 ^ 58)).toNat 0 = (k.val : Int) := by decide +kernel

theorem tz_fn {k q : Nat} (h : 2 ^ k * (2 * q + 1) < 2 ^ 64) : math_bits_TrailingZeros64_R ((2 ^ k * (2 * q + 1) : Nat) : Int) k := by
  have hk := pow_lt_of h
  have hpos : 0 < 2 ^ k * (2 * q + 1) := Nat.mul_pos (Nat.pow_pos (by omega)) (by omega)
  have hl := land_neg h
  have hkp : 2 ^ k ≤ 2 ^ 63 := Nat.pow_le_pow_right (by omega) (by omega)
  generalize hX : 2 ^ k * (2 * q + 1) = X at *
  have e64 : (2 : Nat) ^ 64 = 18446744073709551616 := by decide
  have e63 : (2 : Nat) ^ 63 = 9223372036854775808 := by decide
  unfold math_bits_TrailingZeros64_R
  have n0 : (((X : Nat) : Int) == 0) = false := by simp; omega
  simp only [br, n0]
  have e1 : IntKind.wrap .u64 (0 - (X : Int)) = ((2 ^ 64 - X : Nat) : Int) := by rw [wue]; omega
  have e2 : (BitVec.toNat (BitVec.ofInt (IntKind.bits .u64) (X : Int) &&& BitVec.ofInt (IntKind.bits .u64) (IntKind.wrap .u64 (0 - (X : Int))))) = 2 ^ k := by
    rw [e1, and_toNat _ _ ⟨by omega, by omega⟩ ⟨by omega, by omega⟩]
    simpa using hl
  rw [e2]
  rw [show IntKind.wrap .u64 ((2 ^ k : Nat) : Int) = ((2 ^ k : Nat) : Int) from wu (by omega) (by omega)]
  obtain ⟨d1, d2, d3⟩ := db_all ⟨k, hk⟩
  simp only at d1 d2 d3
  generalize Int.fdiv (IntKind.wrap .u64 (((2 ^ k : Nat) : Int) * 285870213051353865)) (2 ^ 58) = j at *
  refine ⟨by simp; omega, ⟨?_, ?_⟩⟩
  · have e : List.length dbL = 64 := by decide
    rw [e]; simp [offN, Nat.blt_eq]; omega
  · have e : offN 0 j 1 = j.toNat := by simp [offN]
    rw [e, d3]
    exact wi (by omega) (by omega)
end Go.Proofs.YtjbpihalfaclkaaGreatDoor
