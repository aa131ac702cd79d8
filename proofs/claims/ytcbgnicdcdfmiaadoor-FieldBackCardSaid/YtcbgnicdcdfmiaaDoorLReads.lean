/- The law FieldReads, as plain law. -/
import Derived.Test.YtcbgnicdcdfmiaaDoorKk
import Derived.Test.YtcbgnicdcdfmiaaDoorBk
import Derived.Test.YtcbgnicdcdfmiaaDoorGFieldReads
namespace Go.Proofs.YtcbgnicdcdfmiaaDoor
open Go Go.B
set_option linter.unusedSimpArgs false
set_option linter.unusedVariables false
set_option linter.unusedSectionVars false
set_option maxRecDepth 20000

def cut06 (s : ByteArray) : ByteArray := ByteArray.extract s 0 (Int.toNat (if 260 < ((ByteArray.size s : Nat) : Int) then 260 else ((ByteArray.size s : Nat) : Int)))

theorem cut06_fn (s : ByteArray) : curfewlaw06_cut_R s (cut06 s) := by
  refine ⟨?_, rfl⟩
  by_cases h : 260 < ((ByteArray.size s : Nat) : Int)
  · rw [if_pos h]; simp [Nat.ble_eq]; omega
  · rw [if_neg h]; simp [Nat.ble_eq]

theorem cut06_size (s : ByteArray) : (cut06 s).size ≤ 260 := by
  have h := bl_extract s 0 (Int.toNat (if 260 < ((ByteArray.size s : Nat) : Int) then 260 else ((ByteArray.size s : Nat) : Int)))
  have := congrArg List.length h
  rw [bl_len] at this
  show (ByteArray.extract _ _ _).size ≤ 260
  rw [this, List.length_take]
  split <;> omega

theorem rKind_yes {k : Nat} (hk : k < 5) : curfewref06_Kind_R (k : Int) true := br_yes (yes_of (by omega)) (yes_of (by omega))

theorem rKind_no {k : Int} (h : k < 0 ∨ 5 ≤ k) : curfewref06_Kind_R k false := by
  by_cases h0 : 0 ≤ k
  · exact br_yes (yes_of h0) (no_of (by omega))
  · exact br_no (no_of h0) rfl

theorem bne_self {a : Int} : (a != a) = false := by simp

theorem law_FieldReads (x0 : Int) (i0 : inT (.int .i64) x0) (x1 : List ByteArray) (i1 : inT (.sl .str) x1) : curfewlaw06_FieldReads_R x0 x1 true := by
  have hl : x1.length ≤ maxLen := i1.1
  have hl : x1.length ≤ 9223372036854775807 := hl
  refine ⟨_, wakes06, br_no rfl ?_⟩
  have key : ∀ d i, i + d = x1.length → ∃ q, curfewlaw06_FieldReads_l0 q (x0, x1, (x1.length : Int), (i : Int)) (.inl ()) := by
    intro d
    induction d with
    | zero => intro i h; exact ⟨1, br_no (no_of (by omega)) rfl⟩
    | succ d ih =>
      intro i h
      have hi : i < x1.length := by omega
      obtain ⟨q, hq⟩ := ih (i + 1) (by omega)
      by_cases h10 : (i : Int) = 10
      · exact ⟨1, br_yes (yes_of (by omega)) ⟨ix_ok hi, br_yes (by simp [h10]) rfl⟩⟩
      · have hs := cut06_size (x1.getD (Int.toNat (i : Int)) ⟨#[]⟩)
        have ew : IntKind.wrap .i64 ((i : Int) + 1) = ((i + 1 : Nat) : Int) := wi_succ (by omega)
        refine ⟨q + 1, br_yes (yes_of (by omega)) ⟨ix_ok hi, br_no (by simpa using h10) ⟨_, cut06_fn _, ?_⟩⟩⟩
        rw [ew]
        by_cases hk : 0 ≤ x0 ∧ x0 < 5
        · obtain ⟨k, rfl⟩ : ∃ k : Nat, x0 = k := ⟨x0.toNat, by omega⟩
          have hk5 : k < 5 := by omega
          exact ⟨_, field_Read_fn hk5 _ (by omega), _, rKind_yes hk5, br_yes rfl ⟨_, cut06_fn _, _, rRead_fn hk5 _ (by omega), br_no bne_self (br_no bne_self (br_no bne_self hq))⟩⟩
        · exact ⟨_, field_Read_no (by omega) _, _, rKind_no (by omega), br_no rfl (br_no rfl (br_no rfl (br_no rfl hq)))⟩
  obtain ⟨q, hq⟩ := key x1.length 0 (by omega)
  exact ⟨_, ⟨q, hq⟩, rfl⟩
end Go.Proofs.YtcbgnicdcdfmiaaDoor
