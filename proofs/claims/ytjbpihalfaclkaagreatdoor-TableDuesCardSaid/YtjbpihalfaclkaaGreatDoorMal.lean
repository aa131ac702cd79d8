/- The numbers of a mask. -/
import Derived.Test.YtjbpihalfaclkaaGreatDoorMa
namespace Go.Proofs.YtjbpihalfaclkaaGreatDoor
open Go Go.B
set_option linter.unusedSimpArgs false
set_option linter.unusedVariables false
set_option linter.unusedSectionVars false

theorem mask_All_loop : ∀ (m : Nat) (l : List Int), m < 2 ^ 64 → l.length + (lstB (Nat.testBit m) 64).length ≤ 64 → ∃ k, mask_All_l0 k (l, (m : Int)) (l ++ lstB (Nat.testBit m) 64, 0) := by
  intro m
  induction m using Nat.strongRecOn with
  | _ m ih =>
    intro l hm hl
    by_cases h0 : m = 0
    · subst h0
      refine ⟨1, ?_⟩
      have e : lstB (Nat.testBit 0) 64 = [] := lstB_none (fun j _ => by simp)
      rw [e]
      simp [mask_All_l0, br]
    · obtain ⟨k, q, rfl⟩ := odd_part h0
      have hk := pow_lt_of hm
      have hs := bits_step (q := q) hk
      have hlt : 2 ^ k * (2 * q) < 2 ^ k * (2 * q + 1) := Nat.mul_lt_mul_of_pos_left (by omega) (Nat.pow_pos (by omega))
      rw [hs] at hl ⊢
      simp only [List.length_cons] at hl
      obtain ⟨K, hK⟩ := ih (2 ^ k * (2 * q)) hlt (l ++ [(k : Int)]) (Nat.lt_trans hlt hm) (by simp; omega)
      refine ⟨K + 1, ?_⟩
      unfold mask_All_l0
      have n0 : (((2 ^ k * (2 * q + 1) : Nat) : Int) != 0) = true := by rw [bne_iff_ne, ne_eq, Int.natCast_eq_zero]; exact h0
      simp only [br, n0]
      refine ⟨(k : Int), tz_fn hm, ⟨?_, ?_⟩⟩
      · simp [Nat.ble_eq]; omega
      · have hpos : 0 < 2 ^ k * (2 * q + 1) := by omega
        have hp := land_pred (k := k) (q := q)
        have e64 : (2 : Nat) ^ 64 = 18446744073709551616 := by decide
        generalize hX : 2 ^ k * (2 * q + 1) = X at *
        have e1 : IntKind.wrap .u64 ((X : Int) - 1) = ((X - 1 : Nat) : Int) := by rw [wu (by omega) (by omega)]; omega
        rw [e1, and_toNat _ _ ⟨by omega, by omega⟩ ⟨by omega, by omega⟩]
        simp only [Int.toNat_natCast]
        rw [hp, wu (by omega) (by omega)]
        simpa using hK

theorem mask_All_fn {m : Int} (hm : U64 m) : mask_All_R m (bitsL m) := by
  obtain ⟨y, h1, h2, h3⟩ := ones_fn m
  refine ⟨y, ⟨y, h1, rfl⟩, ⟨?_, ?_⟩⟩
  · simp [Nat.ble_eq]; omega
  · obtain ⟨m', rfl⟩ : ∃ m' : Nat, m = m' := ⟨m.toNat, by have := hm.1; omega⟩
    have hm2 := hm.2
    have e64 : (2 : Nat) ^ 64 = 18446744073709551616 := by decide
    obtain ⟨k, hk⟩ := mask_All_loop m' [] (by omega) (by simpa using lstB_len (Nat.testBit m') 64)
    exact ⟨_, ⟨k, hk⟩, by simp [bitsL]⟩
end Go.Proofs.YtjbpihalfaclkaaGreatDoor
