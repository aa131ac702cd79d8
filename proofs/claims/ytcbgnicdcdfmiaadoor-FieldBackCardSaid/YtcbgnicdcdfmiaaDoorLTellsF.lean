/- The law FieldTells, as plain law. -/
import Derived.Test.YtcbgnicdcdfmiaaDoorLReads
import Derived.Test.YtcbgnicdcdfmiaaDoorGFieldTells
namespace Go.Proofs.YtcbgnicdcdfmiaaDoor
open Go Go.B
set_option linter.unusedSimpArgs false
set_option linter.unusedVariables false
set_option linter.unusedSectionVars false
set_option maxRecDepth 20000

theorem field_Ends_fn {k : Nat} (hk : k < 5) : field_Ends_R (k : Int) ((loA k, hiA k), 0) := by
  refine ⟨_, field_there_fn k hk, br_no rfl ⟨kk_ok hk, ends_ok hk, ?_⟩⟩
  rw [ends_lo, ends_hi]

theorem field_Ends_no {k : Int} (h : k < 0 ∨ 5 ≤ k) : field_Ends_R k ((0, 0), 2) := ⟨_, field_there_no h, br_yes rfl rfl⟩

theorem field_Whole_no {k : Int} (h : k < 0 ∨ 5 ≤ k) : field_Whole_R k 0 := ⟨_, field_there_no h, br_yes rfl rfl⟩

theorem field_Check_no {k : Int} (h : k < 0 ∨ 5 ≤ k) (m : Int) : field_Check_R k m 2 := ⟨_, field_there_no h, br_yes rfl rfl⟩

theorem tells_l0 (m : Int) (x2 : List ByteArray) (h2 : x2.length ≤ 9223372036854775807) (k : Int) (l : List Int) (a b : Int) : ∃ q, curfewlaw06_FieldTells_l0 q (m, x2, k, l, a, b, (x2.length : Int), 0) (.inl ()) := by
  have key : ∀ d i, i + d = x2.length → ∃ q, curfewlaw06_FieldTells_l0 q (m, x2, k, l, a, b, (x2.length : Int), (i : Int)) (.inl ()) := by
    intro d
    induction d with
    | zero => intro i h; exact ⟨1, br_no (no_of (by omega)) rfl⟩
    | succ d ih =>
      intro i h
      have hi : i < x2.length := by omega
      obtain ⟨q, hq⟩ := ih (i + 1) (by omega)
      by_cases h12 : (i : Int) = 12
      · exact ⟨1, br_yes (yes_of (by omega)) ⟨ix_ok hi, br_yes (by simp [h12]) rfl⟩⟩
      · have hs := cut06_size (x2.getD (Int.toNat (i : Int)) ⟨#[]⟩)
        have ew : IntKind.wrap .i64 ((i : Int) + 1) = ((i + 1 : Nat) : Int) := wi_succ (by omega)
        refine ⟨q + 1, br_yes (yes_of (by omega)) ⟨ix_ok hi, br_no (by simpa using h12) ⟨_, cut06_fn _, ?_⟩⟩⟩
        rw [ew]
        by_cases hk : 0 ≤ k ∧ k < 5
        · obtain ⟨k, rfl⟩ : ∃ n : Nat, k = n := ⟨k.toNat, by omega⟩
          have hk5 : k < 5 := by omega
          exact ⟨_, field_Value_fn hk5 _ (by omega), _, rKind_yes hk5, br_yes rfl ⟨_, cut06_fn _, _, rValue_fn hk5 _ (by omega), br_no bne_self (br_no (by simp) hq)⟩⟩
        · exact ⟨_, field_Value_no (by omega) _, _, rKind_no (by omega), br_no rfl (br_no rfl (br_no rfl hq))⟩
  exact key x2.length 0 (by omega)

theorem law_FieldTells (x0 : List Int) (i0 : inT (.sl (.int .i64)) x0) (x1 : Int) (i1 : inT (.int .u64) x1) (x2 : List ByteArray) (i2 : inT (.sl .str) x2) : curfewlaw06_FieldTells_R x0 x1 x2 true := by
  have hl : x0.length ≤ 9223372036854775807 := i0.1
  have h2 : x2.length ≤ 9223372036854775807 := i2.1
  have hm : U64 x1 := u64_range i1
  refine ⟨_, wakes06, br_no rfl ?_⟩
  have key : ∀ d i, i + d = x0.length → ∃ q, curfewlaw06_FieldTells_l1 q (x1, x2, x0, (x0.length : Int), (i : Int)) (.inl ()) := by
    intro d
    induction d with
    | zero => intro i h; exact ⟨1, br_no (no_of (by omega)) rfl⟩
    | succ d ih =>
      intro i h
      have hi : i < x0.length := by omega
      obtain ⟨q, hq⟩ := ih (i + 1) (by omega)
      by_cases h8 : (i : Int) = 8
      · exact ⟨1, br_yes (yes_of (by omega)) ⟨ix_ok hi, br_yes (by simp [h8]) rfl⟩⟩
      · have ew : IntKind.wrap .i64 ((i : Int) + 1) = ((i + 1 : Nat) : Int) := wi_succ (by omega)
        refine ⟨q + 1, br_yes (yes_of (by omega)) ⟨ix_ok hi, br_no (by simpa using h8) ?_⟩⟩
        rw [ew]
        generalize x0.getD (Int.toNat (i : Int)) 0 = kd
        obtain ⟨p, hp⟩ := tells_l0 x1 x2 h2 kd x0 (x0.length : Int) (i : Int)
        by_cases hk : 0 ≤ kd ∧ kd < 5
        · obtain ⟨k, rfl⟩ : ∃ n : Nat, kd = n := ⟨kd.toNat, by omega⟩
          have hk5 : k < 5 := by omega
          refine ⟨_, field_Ends_fn hk5, _, rKind_yes hk5, br_no rfl ⟨_, field_Check_fn k hk5 hm, br_no rfl ⟨_, rEnds_fn hk5, br_no (by simp) ⟨_, field_Whole_fn k hk5, _, rWhole_fn hk5, br_no bne_self ⟨_, rRight_fn hk5 hm, ?_⟩⟩⟩⟩⟩
          cases okF k x1
          · exact br_no rfl (br_yes rfl (br_no rfl ⟨_, ⟨p, hp⟩, hq⟩))
          · exact br_no rfl (br_no rfl ⟨_, ⟨p, hp⟩, hq⟩)
        · exact ⟨_, field_Ends_no (by omega), _, rKind_no (by omega), br_yes rfl (br_no rfl (br_no rfl ⟨_, field_Whole_no (by omega), br_no rfl ⟨_, field_Check_no (by omega) _, br_no rfl ⟨_, ⟨p, hp⟩, hq⟩⟩⟩))⟩
  obtain ⟨q, hq⟩ := key x0.length 0 (by omega)
  exact ⟨_, ⟨q, hq⟩, rfl⟩
end Go.Proofs.YtcbgnicdcdfmiaaDoor
