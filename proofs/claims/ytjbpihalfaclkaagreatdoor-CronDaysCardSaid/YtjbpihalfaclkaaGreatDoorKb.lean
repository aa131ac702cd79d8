/- The reference: masks, and which may be. -/
import Derived.Test.YtjbpihalfaclkaaGreatDoorKa
import Derived.Test.YtjbpihalfaclkaaGreatDoorGy
import Derived.Test.YtjbpihalfaclkaaGreatDoorUt
namespace Go.Proofs.YtjbpihalfaclkaaGreatDoor
open Go Go.B
set_option linter.unusedSimpArgs false
set_option linter.unusedVariables false
set_option linter.unusedSectionVars false
set_option maxRecDepth 20000

theorem pow_bd {i : Nat} (h : i ≤ 63) : 1 ≤ 2 ^ i ∧ 2 ^ i ≤ 9223372036854775808 := by
  have h1 : 2 ^ i ≤ 2 ^ 63 := Nat.pow_le_pow_right (by omega) h
  have h2 : 0 < 2 ^ i := Nat.pow_pos (by omega)
  have e : (2 : Nat) ^ 63 = 9223372036854775808 := by decide
  omega

theorem hasB_nat (m : Int) {i : Nat} (h : i ≤ 63) : hasB m (i : Int) = Nat.testBit m.toNat i := by
  unfold hasB mayB
  rw [yes_of (p := 0 ≤ (i : Int)) (by omega), yes_of (p := (i : Int) ≤ 63) (by omega)]
  simp

/-- the mask of numbers -/
def ofM (l : List Int) : Nat := l.foldl (fun m n => m ||| 2 ^ n.toNat) 0

theorem or_new {m i : Nat} (h : Nat.testBit m i = false) : m + 2 ^ i = m ||| 2 ^ i := by
  have hb : m % 2 ^ (i + 1) = m % 2 ^ i := by
    rw [Nat.mod_pow_succ]
    rw [Nat.testBit_eq_decide_div_mod_eq] at h
    have := of_decide_eq_false h
    have h0 : m / 2 ^ i % 2 = 0 := by omega
    rw [h0]; simp
  have hl : m % 2 ^ i < 2 ^ i := Nat.mod_lt _ (Nat.pow_pos (by omega))
  have hd := Nat.div_add_mod m (2 ^ (i + 1))
  rw [hb] at hd
  have hp : 2 ^ (i + 1) = 2 ^ i * 2 := Nat.pow_succ ..
  have k1 := Nat.two_pow_add_eq_or_of_lt (i := i + 1) (b := m % 2 ^ i) (by omega) (m / 2 ^ (i + 1))
  have k2 := Nat.two_pow_add_eq_or_of_lt (i := i + 1) (b := m % 2 ^ i + 2 ^ i) (by omega) (m / 2 ^ (i + 1))
  have k3 := Nat.two_pow_add_eq_or_of_lt (i := i) (b := m % 2 ^ i) hl 1
  rw [Nat.mul_one] at k3
  have e1 : m = 2 ^ (i + 1) * (m / 2 ^ (i + 1)) ||| m % 2 ^ i := by rw [← k1]; exact hd.symm
  have e2 : m + 2 ^ i = 2 ^ (i + 1) * (m / 2 ^ (i + 1)) ||| (m % 2 ^ i + 2 ^ i) := by rw [← k2]; omega
  rw [e2, show m % 2 ^ i + 2 ^ i = 2 ^ i ||| m % 2 ^ i from by rw [← k3]; omega, Nat.or_comm (2 ^ i), ← Nat.or_assoc, ← e1]

theorem or_old {m i : Nat} (h : Nat.testBit m i = true) : m ||| 2 ^ i = m := by
  apply Nat.eq_of_testBit_eq
  intro j
  rw [Nat.testBit_or, Nat.testBit_two_pow]
  by_cases e : i = j
  · subst e; simp [h]
  · simp [e]

theorem or_lt {m i : Nat} (h : m < 2 ^ 64) (hi : i ≤ 63) : m ||| 2 ^ i < 2 ^ 64 := Nat.or_lt_two_pow h (Nat.pow_lt_pow_right (by omega) (by omega))

/-- numbers by steps -/
def spanL (a : Int) (s : Nat) : Nat → List Int
  | 0 => []
  | j + 1 => if j % s = 0 then spanL a s j ++ [a + j] else spanL a s j

theorem spanL_len (a : Int) (s : Nat) : ∀ j, (spanL a s j).length ≤ j
  | 0 => Nat.le_refl _
  | j + 1 => by
    have := spanL_len a s j
    unfold spanL
    split <;> simp <;> omega

theorem spanL_mem {a : Int} {s : Nat} {x : Int} : ∀ {j}, x ∈ spanL a s j → ∃ i : Nat, i < j ∧ i % s = 0 ∧ x = a + i
  | 0, h => by simp [spanL] at h
  | j + 1, h => by
    unfold spanL at h
    split at h
    · rename_i hj
      rcases List.mem_append.mp h with h | h
      · obtain ⟨i, h1, h2, h3⟩ := spanL_mem h; exact ⟨i, by omega, h2, h3⟩
      · simp at h; exact ⟨j, by omega, hj, h⟩
    · obtain ⟨i, h1, h2, h3⟩ := spanL_mem h; exact ⟨i, by omega, h2, h3⟩

theorem subB_all {m w : Int} (hm : U64 m) : subB m w = (bitsL m).all (hasB w ·) := by
  rw [Bool.eq_iff_iff, List.all_eq_true]
  unfold subB
  rw [beq_iff_eq]
  constructor
  · intro h x hx
    have h1 := bitsL_mem hx
    have h2 := lstB_yesmem hx
    obtain ⟨i, rfl⟩ : ∃ i : Nat, x = i := ⟨x.toNat, by omega⟩
    rw [hasB_nat w (by omega)]
    simp only [Int.toNat_natCast] at h2
    rw [← h, Nat.testBit_and] at h2
    simp only [Bool.and_eq_true] at h2
    exact h2.2
  · intro h
    apply Nat.eq_of_testBit_eq
    intro j
    rw [Nat.testBit_and]
    cases hj : Nat.testBit m.toNat j
    · rfl
    · have h64 : j < 64 := by
        rcases Nat.lt_or_ge j 64 with k | k
        · exact k
        · have e64 : (2 : Nat) ^ 64 = 18446744073709551616 := by decide
          have hp : 2 ^ 64 ≤ 2 ^ j := Nat.pow_le_pow_right (by omega) k
          have h2 := hm.2
          rw [Nat.testBit_lt_two_pow (by omega)] at hj; cases hj
      have := h (j : Int) (lstB_has h64 hj)
      rw [hasB_nat w (by omega)] at this
      rw [this]; rfl
end Go.Proofs.YtjbpihalfaclkaaGreatDoor
