/- Small facts. -/
import Derived.Test.YtjmjfjhiggiglaaDoorMz
namespace Go.Proofs.YtjmjfjhiggiglaaDoor
open Go Go.B
set_option linter.unusedSimpArgs false
set_option linter.unusedVariables false

theorem up_ind {P : Nat → Prop} {n : Nat} (h0 : P n) (hs : ∀ i, i < n → P (i + 1) → P i) : ∀ i, i ≤ n → P i := by
  intro i hi
  obtain ⟨d, rfl⟩ : ∃ d, n = i + d := ⟨n - i, by omega⟩
  clear hi
  induction d generalizing i with
  | zero => exact h0
  | succ d ih => exact hs i (by omega) (ih (i + 1) (by rw [show i + 1 + d = i + (d + 1) from by omega]; exact h0) (fun j hj hP => hs j (by omega) hP))

theorem ile_no {a b : Int} (h : b < a) : decide (a ≤ b) = false := decide_eq_false (by omega)

theorem ilt_no {a b : Int} (h : b ≤ a) : decide (a < b) = false := decide_eq_false (by omega)

theorem yes_of {p : Prop} [Decidable p] (h : p) : decide p = true := decide_eq_true h

theorem no_of {p : Prop} [Decidable p] (h : ¬ p) : decide p = false := decide_eq_false h

theorem not_t {b : Bool} (h : b = false) : (!b) = true := by rw [h]; rfl

theorem not_f {b : Bool} (h : b = true) : (!b) = false := by rw [h]; rfl

theorem ix_ok {i n : Nat} (h : i < n) : ((decide (0 ≤ (i : Int))) && (decide ((i : Int) < (n : Int)))) = true := by simp <;> omega

theorem blt_ok {i n : Nat} (h : i < n) : Nat.blt (Int.toNat (i : Int)) n = true := by simp [Nat.blt_eq] <;> omega

theorem wi_nat {n : Nat} (h : n ≤ 9223372036854775807) : IntKind.wrap .i64 (n : Int) = n := wi (by omega) (by omega)

theorem wi_succ {n : Nat} (h : n + 1 ≤ 9223372036854775807) : IntKind.wrap .i64 ((n : Int) + 1) = ((n + 1 : Nat) : Int) := by rw [wi (by omega) (by omega)]; rfl

theorem nl_ok {n : Nat} (h : n ≤ 1000000000000) : Nat.ble (n * 9) 140737488355328 = true := by rw [Nat.ble_eq]; omega
end Go.Proofs.YtjmjfjhiggiglaaDoor
