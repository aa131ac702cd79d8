/- The law FieldBack, as plain law. -/
import Derived.Test.YtcbgnicdcdfmiaaDoorKo
import Derived.Test.YtcbgnicdcdfmiaaDoorLTellsF
import Derived.Test.YtcbgnicdcdfmiaaDoorLJoins
import Derived.Test.YtcbgnicdcdfmiaaDoorLTextsF
import Derived.Test.YtcbgnicdcdfmiaaDoorGFieldBack
namespace Go.Proofs.YtcbgnicdcdfmiaaDoor
open Go Go.B
set_option linter.unusedSimpArgs false
set_option linter.unusedVariables false
set_option linter.unusedSectionVars false
set_option maxRecDepth 20000

theorem tl_self2 (a : ByteArray) : (ByteArray.toList a == ByteArray.toList a) = true := by simp

theorem cut06_le (s : ByteArray) : (cut06 s).size ≤ s.size := by
  have h := bl_extract s 0 (Int.toNat (if 260 < ((ByteArray.size s : Nat) : Int) then 260 else ((ByteArray.size s : Nat) : Int)))
  have := congrArg List.length h
  rw [bl_len] at this
  show (ByteArray.extract _ _ _).size ≤ s.size
  rw [this, List.length_take]
  simp only [List.drop_zero]
  have : (bl s).length = s.size := rfl
  omega

/-- a text that is no field's, or one's -/
theorem read_two {k : Nat} (hk : k < 5) (l : List UInt8) : (∃ (p : Nat) (e : Int), p ≤ l.length ∧ e ≠ 0 ∧ readO k l = (0, (p : Int), e)) ∨ (∃ m : Nat, m < 18446744073709551616 ∧ okF k (m : Int) = true ∧ readO k l = ((m : Int), 0, 0)) := by
  by_cases h : l.length ≤ 256
  · rw [readO_rd k h]
    cases e : rdL k (splitC 44 l) 0 [] with
    | inl p =>
      refine .inl ⟨p, 160, ?_, by decide, rfl⟩
      have key : ∀ (ps : List (List UInt8)) (a : Nat) (l' : List Nat) (p : Nat), rdL k ps a l' = .inl p → p + 1 ≤ a + tot ps := by
        intro ps
        induction ps with
        | nil => intro a l' p e; cases e
        | cons x xs ih =>
          intro a l' p e
          rw [rdL_cons] at e
          have ht : tot (x :: xs) = x.length + 1 + tot xs := by simp [tot]
          cases ho : itemO k x with
          | none => rw [ho] at e; cases e; omega
          | some q => rw [ho] at e; have := ih _ _ _ e; omega
      have := key _ _ _ _ e
      have ht : tot (splitC 44 l) = l.length + 1 := tot_splitN 44 _ l
      omega
    | inr l' => exact .inr ⟨orL l', orL_lt (rdL_ok hk _ _ _ _ (by simp) e).1, read_ok hk e, rfl⟩
  · exact .inl ⟨0, 3, by omega, by decide, by unfold readO; rw [if_pos (by omega)]; rfl⟩

theorem field_back_fn {k : Nat} (hk : k < 5) {m : Nat} (hm : okF k (m : Int) = true) : field_Read_R (k : Int) ⟨(textO k m).toArray⟩ ((m : Int), 0, 0) := by
  have h := text_back hk hm
  have r := field_Read_fn hk ⟨(textO k m).toArray⟩ (by rw [mk_size]; omega)
  rwa [bl_mk (textO k m), h.2] at r

theorem law_FieldBack (x0 : Int) (i0 : inT (.int .i64) x0) (x1 : Int) (i1 : inT (.int .u64) x1) (x2 : ByteArray) (i2 : inT .str x2) : curfewlaw06_FieldBack_R x0 x1 x2 true := by
  have hU : U64 x1 := u64_range i1
  refine ⟨_, wakes06, br_no rfl ?_⟩
  have hc1 := cut06_size x2
  have hc2 := cut06_le x2
  by_cases hk : 0 ≤ x0 ∧ x0 < 5
  · obtain ⟨k, rfl⟩ : ∃ n : Nat, x0 = n := ⟨x0.toNat, by omega⟩
    have hk5 : k < 5 := by omega
    obtain ⟨m, rfl⟩ : ∃ n : Nat, x1 = n := ⟨x1.toNat, by have := hU.1; omega⟩
    have hm64 : m < 18446744073709551616 := by have := hU.2; omega
    have hr := field_Read_fn hk5 (cut06 x2) (by omega)
    cases hm : okF k (m : Int)
    · refine ⟨_, field_Text_bad hk5 hm64 hm, br_no rfl ⟨_, cut06_fn _, ?_⟩⟩
      rcases read_two hk5 (bl (cut06 x2)) with ⟨p, e, h1, h2, h3⟩ | ⟨r, h1, h2, h3⟩
      · rw [h3] at hr
        have h1 : p ≤ (cut06 x2).size := h1
        exact ⟨_, hr, br_yes (by simpa using h2) (br_yes rfl (br_yes (yes_of (by simp only; omega)) (yes_of (by simp only; omega))))⟩
      · rw [h3] at hr
        have hck := field_Check_fn k hk5 (m := (r : Int)) ⟨by omega, by omega⟩
        rw [h2] at hck
        exact ⟨_, hr, br_no rfl ⟨_, hck, br_no rfl (br_no rfl ⟨_, field_Text_fn hk5 h2, br_no rfl ⟨_, field_back_fn hk5 h2, _, field_Text_fn hk5 h2, br_yes rfl (br_yes rfl (br_yes (by simp) (tl_self2 _)))⟩⟩)⟩⟩
    · refine ⟨_, field_Text_fn hk5 hm, br_yes rfl ⟨_, field_back_fn hk5 hm, br_no rfl (br_no rfl (br_no (by simp) ⟨_, cut06_fn _, ?_⟩))⟩⟩
      rcases read_two hk5 (bl (cut06 x2)) with ⟨p, e, h1, h2, h3⟩ | ⟨r, h1, h2, h3⟩
      · rw [h3] at hr
        have h1 : p ≤ (cut06 x2).size := h1
        exact ⟨_, hr, br_yes (by simpa using h2) (br_yes rfl (br_yes (yes_of (by simp only; omega)) (yes_of (by simp only; omega))))⟩
      · rw [h3] at hr
        have hck := field_Check_fn k hk5 (m := (r : Int)) ⟨by omega, by omega⟩
        rw [h2] at hck
        exact ⟨_, hr, br_no rfl ⟨_, hck, br_no rfl (br_no rfl ⟨_, field_Text_fn hk5 h2, br_no rfl ⟨_, field_back_fn hk5 h2, _, field_Text_fn hk5 h2, br_yes rfl (br_yes rfl (br_yes (by simp) (tl_self2 _)))⟩⟩)⟩⟩
  · refine ⟨_, field_Text_no (by omega) _, br_no rfl ⟨_, cut06_fn _, _, field_Read_no (by omega) _, br_yes rfl (br_yes rfl (br_yes rfl (yes_of (by simp only; omega))))⟩⟩
end Go.Proofs.YtcbgnicdcdfmiaaDoor
