/- The law FieldTexts, as plain law. -/
import Derived.Test.YtcbgnicdcdfmiaaDoorKm
import Derived.Test.YtcbgnicdcdfmiaaDoorLReads
import Derived.Test.YtcbgnicdcdfmiaaDoorGFieldTexts
namespace Go.Proofs.YtcbgnicdcdfmiaaDoor
open Go Go.B
set_option linter.unusedSimpArgs false
set_option linter.unusedVariables false
set_option linter.unusedSectionVars false
set_option maxRecDepth 20000

theorem tl_self (a : ByteArray) : (!(ByteArray.toList a == ByteArray.toList a)) = false := by simp

theorem law_FieldTexts (x0 : Int) (i0 : inT (.int .i64) x0) (x1 : List Int) (i1 : inT (.sl (.int .u64)) x1) : curfewlaw06_FieldTexts_R x0 x1 true := by
  have hl : x1.length ≤ 9223372036854775807 := i1.1
  refine ⟨_, wakes06, br_no rfl ?_⟩
  have key : ∀ d i, i + d = x1.length → ∃ q, curfewlaw06_FieldTexts_l0 q (x0, x1, (x1.length : Int), (i : Int)) (.inl ()) := by
    intro d
    induction d with
    | zero => intro i h; exact ⟨1, br_no (no_of (by omega)) rfl⟩
    | succ d ih =>
      intro i h
      have hi : i < x1.length := by omega
      obtain ⟨q, hq⟩ := ih (i + 1) (by omega)
      by_cases h12 : (i : Int) = 12
      · exact ⟨1, br_yes (yes_of (by omega)) ⟨ix_ok hi, br_yes (by simp [h12]) rfl⟩⟩
      · have ew : IntKind.wrap .i64 ((i : Int) + 1) = ((i + 1 : Nat) : Int) := wi_succ (by omega)
        refine ⟨q + 1, br_yes (yes_of (by omega)) ⟨ix_ok hi, br_no (by simpa using h12) ?_⟩⟩
        rw [ew]
        have hU : U64 (x1.getD (Int.toNat (i : Int)) 0) := by
          rw [Int.toNat_natCast, List.getD_eq_getElem?_getD, List.getElem?_eq_getElem hi]
          exact u64_range (i1.2 i hi)
        generalize x1.getD (Int.toNat (i : Int)) 0 = m at *
        obtain ⟨m, rfl⟩ : ∃ n : Nat, m = n := ⟨m.toNat, by have := hU.1; omega⟩
        by_cases hk : 0 ≤ x0 ∧ x0 < 5
        · obtain ⟨k, rfl⟩ : ∃ k : Nat, x0 = k := ⟨x0.toNat, by omega⟩
          have hk5 : k < 5 := by omega
          cases hm : okF k (m : Int)
          · have hr := rRight_fn hk5 hU
            rw [hm] at hr
            exact ⟨_, field_Text_bad hk5 (by have := hU.2; omega) hm, _, rKind_yes hk5, br_yes rfl ⟨_, hr, br_no rfl (br_no (tl_self _) (br_no rfl hq))⟩⟩
          · have hr := rRight_fn hk5 hU
            rw [hm] at hr
            exact ⟨_, field_Text_fn hk5 hm, _, rKind_yes hk5, br_yes rfl ⟨_, hr, br_yes rfl ⟨_, rText_fn hk5 hm, br_no (tl_self _) (br_no rfl hq)⟩⟩⟩
        · exact ⟨_, field_Text_no (by omega) _, _, rKind_no (by omega), br_no rfl (br_no (tl_self _) (br_no rfl hq))⟩
  obtain ⟨q, hq⟩ := key x1.length 0 (by omega)
  exact ⟨_, ⟨q, hq⟩, rfl⟩
end Go.Proofs.YtcbgnicdcdfmiaaDoor
