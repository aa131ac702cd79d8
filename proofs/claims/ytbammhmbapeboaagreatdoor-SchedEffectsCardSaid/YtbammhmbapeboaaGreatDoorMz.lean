/- Numbers in their kinds, powers of two, bits of masks: plain law. -/
import Derived.Test.YtbammhmbapeboaaGreatDoorBk
namespace Go.Proofs.YtbammhmbapeboaaGreatDoor
open Go Go.B
set_option linter.unusedSimpArgs false
set_option linter.unusedVariables false
set_option linter.unusedSectionVars false

theorem wi {x : Int} (h1 : -9223372036854775808 ≤ x) (h2 : x ≤ 9223372036854775807) : IntKind.wrap .i64 x = x := by
  simp only [IntKind.wrap, IntKind.signed, IntKind.bits]
  simp
  omega

theorem wue (x : Int) : IntKind.wrap .u64 x = x % 18446744073709551616 := by
  simp only [IntKind.wrap, IntKind.signed, IntKind.bits]
  simp

theorem wu {x : Int} (h1 : 0 ≤ x) (h2 : x ≤ 18446744073709551615) : IntKind.wrap .u64 x = x := by rw [wue]; omega

theorem wrap_u64e (x : Int) : IntKind.wrap .u64 x = x % 18446744073709551616 := wue x

theorem wrap_u64i {x : Int} (h1 : 0 ≤ x) (h2 : x ≤ 18446744073709551615) : IntKind.wrap .u64 x = x := wu h1 h2

theorem p2_bd : ∀ i : Nat, i ≤ 63 → 1 ≤ (2 : Int) ^ i ∧ (2 : Int) ^ i ≤ 9223372036854775808 := by
  intro i hi
  have h1 : (2 : Nat) ^ i ≤ 2 ^ 63 := Nat.pow_le_pow_right (by omega) hi
  have h2 : 0 < (2 : Nat) ^ i := Nat.pow_pos (by omega)
  have e : ((2 : Nat) ^ i : Nat) = ((2 : Int) ^ i) := by simp
  rw [← e]
  have e2 : (2 : Nat) ^ 63 = 9223372036854775808 := by decide
  omega

theorem p2_step {i : Nat} (h : i + 1 ≤ 63) : IntKind.wrap .u64 ((2 : Int) ^ i * 2) = (2 : Int) ^ (i + 1) := by
  rw [← Int.pow_succ]
  have := p2_bd (i + 1) h
  exact wrap_u64i (by omega) (by omega)

/-- the numbers below i that p holds of -/
def lstB (p : Nat → Bool) : Nat → List Int
  | 0 => []
  | i + 1 => cond (p i) (lstB p i ++ [(i : Int)]) (lstB p i)

theorem lstB_yes {p : Nat → Bool} {i : Nat} (h : p i = true) : lstB p (i + 1) = lstB p i ++ [(i : Int)] := by simp only [lstB, h, cond_true]

theorem lstB_no {p : Nat → Bool} {i : Nat} (h : p i = false) : lstB p (i + 1) = lstB p i := by simp only [lstB, h, cond_false]

theorem lstB_len (p : Nat → Bool) : ∀ i, (lstB p i).length ≤ i
  | 0 => by simp [lstB]
  | i + 1 => by
    have := lstB_len p i
    unfold lstB
    cases p i <;> simp <;> omega

theorem idx_bd (y : Int) : 0 ≤ Int.fdiv (IntKind.wrap .u64 y) (2 ^ 58) ∧ Int.fdiv (IntKind.wrap .u64 y) (2 ^ 58) < 64 := by
  rw [Int.fdiv_eq_ediv_of_nonneg _ (by decide), wrap_u64e]
  have e : (2 : Int) ^ 58 = 288230376151711744 := by decide
  rw [e]
  omega

theorem and127 (y : Int) : (BitVec.ofInt (IntKind.bits .i64) y &&& BitVec.ofInt (IntKind.bits .i64) 127).toNat ≤ 127 := by
  rw [BitVec.toNat_and]
  refine Nat.le_trans Nat.and_le_right ?_
  decide

theorem lstB_congr {p q : Nat → Bool} : ∀ {i : Nat}, (∀ j, j < i → p j = q j) → lstB p i = lstB q i
  | 0, _ => rfl
  | i + 1, h => by
    unfold lstB
    rw [h i (by omega), lstB_congr (i := i) fun j hj => h j (by omega)]

theorem lstB_none {p : Nat → Bool} : ∀ {i : Nat}, (∀ j, j < i → p j = false) → lstB p i = []
  | 0, _ => rfl
  | i + 1, h => by rw [lstB_no (h i (by omega)), lstB_none fun j hj => h j (by omega)]

/-- without the least number -/
theorem lstB_least {p q : Nat → Bool} {k : Nat} (h1 : ∀ j, j < k → p j = false) (h2 : p k = true) (h3 : q k = false) (h4 : ∀ j, j ≠ k → q j = p j) : ∀ {i : Nat}, k < i → lstB p i = (k : Int) :: lstB q i
  | 0, h => by omega
  | i + 1, h => by
    by_cases e : i = k
    · subst e
      rw [lstB_yes h2, lstB_no h3, lstB_none h1, lstB_none (p := q) fun j hj => by rw [h4 j (by omega), h1 j hj]]
      rfl
    · have ih := lstB_least h1 h2 h3 h4 (i := i) (by omega)
      cases hp : p i
      · rw [lstB_no hp, lstB_no (by rw [h4 i e, hp]), ih]
      · rw [lstB_yes hp, lstB_yes (by rw [h4 i e, hp]), ih]
        rfl

/-- the numbers of a mask -/
def bitsL (m : Int) : List Int := lstB (fun j => Nat.testBit m.toNat j) 64

theorem bitsL_len (m : Int) : (bitsL m).length ≤ 64 := lstB_len _ 64

/-- a number that is not nought: its least bit, and what stands above -/
theorem odd_part : ∀ {x : Nat}, x ≠ 0 → ∃ k q, x = 2 ^ k * (2 * q + 1) := by
  intro x
  induction x using Nat.strongRecOn with
  | _ x ih =>
    intro h
    rcases Nat.mod_two_eq_zero_or_one x with e | e
    · obtain ⟨k, q, hk⟩ := ih (x / 2) (by omega) (by omega)
      refine ⟨k + 1, q, ?_⟩
      have : x = 2 * (x / 2) := by omega
      rw [this, hk, Nat.pow_succ, Nat.mul_comm (2 ^ k) 2, Nat.mul_assoc]
    · exact ⟨0, x / 2, by omega⟩

theorem tb_x {k q j : Nat} : Nat.testBit (2 ^ k * (2 * q + 1)) j = if j < k then false else Nat.testBit (2 * q + 1) (j - k) := by
  have := Nat.testBit_two_pow_mul_add (2 * q + 1) (b := 0) (i := k) (Nat.two_pow_pos k) j
  simpa using this

theorem tb_y {k q j : Nat} : Nat.testBit (2 ^ k * (2 * q)) j = if j < k then false else Nat.testBit (2 * q) (j - k) := by
  have := Nat.testBit_two_pow_mul_add (2 * q) (b := 0) (i := k) (Nat.two_pow_pos k) j
  simpa using this

theorem pred_x {k q : Nat} : 2 ^ k * (2 * q + 1) - 1 = 2 ^ k * (2 * q) + (2 ^ k - 1) := by
  have := Nat.two_pow_pos k
  rw [Nat.mul_add, Nat.mul_one]
  omega

theorem tb_p {k q j : Nat} : Nat.testBit (2 ^ k * (2 * q + 1) - 1) j = if j < k then true else Nat.testBit (2 * q) (j - k) := by
  rw [pred_x, Nat.testBit_two_pow_mul_add (2 * q) (b := 2 ^ k - 1) (i := k) (by have := Nat.two_pow_pos k; omega) j]
  split
  · rename_i h; rw [Nat.testBit_two_pow_sub_one]; simpa using h
  · rfl

theorem tb_odd {q d : Nat} (h : d ≠ 0) : Nat.testBit (2 * q + 1) d = Nat.testBit (2 * q) d := by
  obtain ⟨e, rfl⟩ : ∃ e, d = e + 1 := ⟨d - 1, by omega⟩
  rw [Nat.testBit_succ, Nat.testBit_succ]
  congr 1
  omega

theorem tb_odd0 (q : Nat) : Nat.testBit (2 * q + 1) 0 = true := by simp [Nat.testBit_zero]

theorem tb_even0 (q : Nat) : Nat.testBit (2 * q) 0 = false := by simp [Nat.testBit_zero]

/-- the least bit alone -/
theorem land_neg {k q : Nat} (h : 2 ^ k * (2 * q + 1) < 2 ^ 64) : (2 ^ k * (2 * q + 1)) &&& (2 ^ 64 - 2 ^ k * (2 * q + 1)) = 2 ^ k := by
  have hk : k < 64 := by
    rcases Nat.lt_or_ge k 64 with e | e
    · exact e
    · have h1 : 2 ^ 64 ≤ 2 ^ k := Nat.pow_le_pow_right (by omega) e
      have h2 : 2 ^ k * 1 ≤ 2 ^ k * (2 * q + 1) := Nat.mul_le_mul_left _ (by omega)
      omega
  have hpos : 0 < 2 ^ k * (2 * q + 1) := Nat.mul_pos (Nat.two_pow_pos k) (by omega)
  apply Nat.eq_of_testBit_eq
  intro j
  rw [Nat.testBit_and, Nat.testBit_two_pow]
  have e : 2 ^ 64 - 2 ^ k * (2 * q + 1) = 2 ^ 64 - ((2 ^ k * (2 * q + 1) - 1) + 1) := by omega
  rw [e, Nat.testBit_two_pow_sub_succ (by omega), tb_x, tb_p]
  by_cases h1 : j < k
  · simp [h1]; omega
  · by_cases h2 : j = k
    · subst h2; simp [hk, tb_even0, tb_odd0]
    · have h3 : j - k ≠ 0 := by omega
      rw [if_neg h1, if_neg h1, tb_odd h3]
      cases Nat.testBit (2 * q) (j - k) <;> simp [Ne.symm h2]

/-- the least bit away -/
theorem land_pred {k q : Nat} : (2 ^ k * (2 * q + 1)) &&& (2 ^ k * (2 * q + 1) - 1) = 2 ^ k * (2 * q) := by
  apply Nat.eq_of_testBit_eq
  intro j
  rw [Nat.testBit_and, tb_x, tb_p, tb_y]
  by_cases h1 : j < k
  · simp [h1]
  · by_cases h2 : j = k
    · subst h2; simp [tb_even0]
    · rw [if_neg h1, if_neg h1, if_neg h1, tb_odd (by omega), Bool.and_self]

theorem bits_step {k q : Nat} (hk : k < 64) : lstB (Nat.testBit (2 ^ k * (2 * q + 1))) 64 = (k : Int) :: lstB (Nat.testBit (2 ^ k * (2 * q))) 64 := by
  refine lstB_least (fun j hj => ?_) ?_ ?_ (fun j hj => ?_) hk
  · rw [tb_x, if_pos hj]
  · rw [tb_x, if_neg (by omega), Nat.sub_self, tb_odd0]
  · rw [tb_y, if_neg (by omega), Nat.sub_self, tb_even0]
  · rw [tb_x, tb_y]
    split
    · rfl
    · rw [tb_odd (by omega)]
end Go.Proofs.YtbammhmbapeboaaGreatDoor
