/- Small facts. -/
import Derived.Test.YtjbpihalfaclkaaGreatDoorMz
namespace Go.Proofs.YtjbpihalfaclkaaGreatDoor
open Go Go.B
set_option linter.unusedSimpArgs false
set_option linter.unusedVariables false

theorem up_ind {P : Nat → Prop} {n : Nat} (h0 : P n) (hs : ∀ i, i < n → P (i + 1) → P i) : ∀ i, i ≤ n → P i := by
  intro i hi
  obtain ⟨d, rfl⟩ : ∃ d, n = i + d := ⟨n - i, by omega⟩
  clear hi
  induction d generalizing i with
  | zero => exact h0
  | succ d ih => exact hs i (by omega) (ih (i + 1) (by rw [show i + 1 + d = i + (d + 1) from by omega]; exact h0) (fun j hj hP => hs j (by omega) hP))

theorem ile_no {a b : Int} (h : b < a) : decide (a ≤ b) = false := decide_eq_false (by omega)

theorem ilt_no {a b : Int} (h : b ≤ a) : decide (a < b) = false := decide_eq_false (by omega)

theorem yes_of {p : Prop} [Decidable p] (h : p) : decide p = true := decide_eq_true h

theorem no_of {p : Prop} [Decidable p] (h : ¬ p) : decide p = false := decide_eq_false h

theorem not_t {b : Bool} (h : b = false) : (!b) = true := by rw [h]; rfl

theorem not_f {b : Bool} (h : b = true) : (!b) = false := by rw [h]; rfl

theorem ix_ok {i n : Nat} (h : i < n) : ((decide (0 ≤ (i : Int))) && (decide ((i : Int) < (n : Int)))) = true := by simp <;> omega

theorem blt_ok {i n : Nat} (h : i < n) : Nat.blt (Int.toNat (i : Int)) n = true := by simp [Nat.blt_eq] <;> omega

theorem wi_nat {n : Nat} (h : n ≤ 9223372036854775807) : IntKind.wrap .i64 (n : Int) = n := wi (by omega) (by omega)

theorem wi_succ {n : Nat} (h : n + 1 ≤ 9223372036854775807) : IntKind.wrap .i64 ((n : Int) + 1) = ((n + 1 : Nat) : Int) := by rw [wi (by omega) (by omega)]; rfl

theorem nl_ok {n : Nat} (h : n ≤ 1000000000000) : Nat.ble (n * 9) 140737488355328 = true := by rw [Nat.ble_eq]; omega

theorem lstB_mem {p : Nat → Bool} : ∀ {i : Nat} {x : Int}, x ∈ lstB p i → 0 ≤ x ∧ x < i
  | 0, x, h => by simp [lstB] at h
  | i + 1, x, h => by
    unfold lstB at h
    cases hp : p i <;> rw [hp] at h
    · have := lstB_mem (p := p) h; omega
    · rcases List.mem_append.mp h with h | h
      · have := lstB_mem (p := p) h; omega
      · simp at h; omega

theorem bitsL_mem {m x : Int} (h : x ∈ bitsL m) : 0 ≤ x ∧ x ≤ 63 := by have := lstB_mem h; omega

theorem drop_cons {l : List Int} {i : Nat} (h : i < l.length) : l.drop i = l.getD i 0 :: l.drop (i + 1) := by
  rw [List.drop_eq_getElem_cons h]
  simp [List.getD_eq_getElem?_getD, List.getElem?_eq_getElem h]

theorem lstB_yesmem {p : Nat → Bool} : ∀ {i : Nat} {x : Int}, x ∈ lstB p i → p x.toNat = true
  | 0, x, h => by simp [lstB] at h
  | i + 1, x, h => by
    unfold lstB at h
    cases hp : p i <;> rw [hp] at h
    · exact lstB_yesmem (p := p) h
    · rcases List.mem_append.mp h with h | h
      · exact lstB_yesmem (p := p) h
      · simp at h; subst h; simpa using hp

theorem lstB_rising {p : Nat → Bool} : ∀ {i : Nat}, (lstB p i).Pairwise (· < ·)
  | 0 => List.Pairwise.nil
  | i + 1 => by
    unfold lstB
    cases p i
    · exact lstB_rising (p := p)
    · refine List.pairwise_append.mpr ⟨lstB_rising (p := p), List.pairwise_singleton _ _, fun a ha b hb => ?_⟩
      have := lstB_mem ha
      simp at hb; omega

theorem lstB_has {p : Nat → Bool} : ∀ {i : Nat} {j : Nat}, j < i → p j = true → (j : Int) ∈ lstB p i
  | 0, j, h, _ => absurd h (Nat.not_lt_zero _)
  | i + 1, j, h, hp => by
    unfold lstB
    rcases Nat.lt_or_ge j i with k | k
    · cases p i
      · exact lstB_has k hp
      · exact List.mem_append_left _ (lstB_has k hp)
    · have : j = i := by omega
      subst this
      rw [hp]
      exact List.mem_append_right _ (by simp)

theorem br_yes {b : Bool} {X Y : Prop} (hb : b = true) (h : X) : br b X Y := by subst hb; exact h

theorem br_no {b : Bool} {X Y : Prop} (hb : b = false) (h : Y) : br b X Y := by subst hb; exact h

theorem getD_mem {l : List Int} {i : Nat} (h : i < l.length) : l.getD i 0 ∈ l := by
  rw [List.getD_eq_getElem?_getD, List.getElem?_eq_getElem h]
  exact List.getElem_mem h
end Go.Proofs.YtjbpihalfaclkaaGreatDoor
