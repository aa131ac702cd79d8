/- The law FieldJoins, as plain law. -/
import Derived.Test.YtcbgnicdcdfmiaaDoorKn
import Derived.Test.YtcbgnicdcdfmiaaDoorLReads
import Derived.Test.YtcbgnicdcdfmiaaDoorGFieldJoins
namespace Go.Proofs.YtcbgnicdcdfmiaaDoor
open Go Go.B
set_option linter.unusedSimpArgs false
set_option linter.unusedVariables false
set_option linter.unusedSectionVars false
set_option maxRecDepth 20000

theorem bl_append (a b : ByteArray) : bl (a ++ b) = bl a ++ bl b := by
  show (a ++ b).data.toList = _
  rw [ByteArray.data_append]; simp

/-- what a text reads as, by its items -/
theorem readO_cases {k : Nat} (hk : k < 5) {l : List UInt8} (h : l.length ≤ 256) : (∃ p : Nat, p ≤ 256 ∧ rdL k (splitC 44 l) 0 [] = .inl p ∧ readO k l = (0, (p : Int), 160)) ∨ (∃ l' : List Nat, (orL l' < 18446744073709551616) ∧ rdL k (splitC 44 l) 0 [] = .inr l' ∧ readO k l = (((orL l' : Nat) : Int), 0, 0)) := by
  rw [readO_rd k h]
  cases e : rdL k (splitC 44 l) 0 [] with
  | inl p => 
    refine .inl ⟨p, ?_, rfl, rfl⟩
    have key : ∀ (ps : List (List UInt8)) (a : Nat) (l' : List Nat) (p : Nat), rdL k ps a l' = .inl p → p + 1 ≤ a + tot ps := by
      intro ps
      induction ps with
      | nil => intro a l' p e; cases e
      | cons x xs ih =>
        intro a l' p e
        rw [rdL_cons] at e
        have ht : tot (x :: xs) = x.length + 1 + tot xs := by simp [tot]
        cases ho : itemO k x with
        | none => rw [ho] at e; cases e; omega
        | some q => rw [ho] at e; have := ih _ _ _ e; omega
    have := key _ _ _ _ e
    have ht : tot (splitC 44 l) = l.length + 1 := tot_splitN 44 _ l
    omega
  | inr l' => exact .inr ⟨l', orL_lt (rdL_ok hk _ _ _ _ (by simp) e).1, rfl, rfl⟩

theorem law_FieldJoins (x0 : Int) (i0 : inT (.int .i64) x0) (x1 : ByteArray) (i1 : inT .str x1) (x2 : ByteArray) (i2 : inT .str x2) : curfewlaw06_FieldJoins_R x0 x1 x2 true := by
  refine ⟨_, wakes06, br_no rfl ⟨_, cut06_fn _, _, cut06_fn _, ?_⟩⟩
  have h1 := cut06_size x1
  have h2 := cut06_size x2
  generalize cut06 x1 = A at *
  generalize cut06 x2 = B at *
  have e44 : (⟨#[44]⟩ : ByteArray).size = 1 := rfl
  have ec : bl ((A ++ (⟨#[44]⟩ : ByteArray)) ++ B) = bl A ++ 44 :: bl B := by
    rw [bl_append, bl_append]
    show (bl A ++ [44]) ++ bl B = _
    simp
  have es : ((A ++ (⟨#[44]⟩ : ByteArray)) ++ B).size = A.size + 1 + B.size := by
    rw [ByteArray.size_append, ByteArray.size_append]; rfl
  by_cases hk : 0 ≤ x0 ∧ x0 < 5
  · obtain ⟨k, rfl⟩ : ∃ n : Nat, x0 = n := ⟨x0.toNat, by omega⟩
    have hk5 : k < 5 := by omega
    refine ⟨_, field_Read_fn hk5 A (by omega), _, field_Read_fn hk5 B (by omega), yes_of (by rw [e44]; omega), yes_of (by rw [ByteArray.size_append, e44]; omega), _, field_Read_fn hk5 _ (by rw [es]; omega), ?_⟩
    rw [ec]
    have ew : IntKind.wrap .i64 (IntKind.wrap .i64 (((ByteArray.size A : Nat) : Int) + ((ByteArray.size B : Nat) : Int)) + 1) = ((A.size + B.size + 1 : Nat) : Int) := by
      rw [wi (x := ((ByteArray.size A : Nat) : Int) + ((ByteArray.size B : Nat) : Int)) (by omega) (by omega), wi (by omega) (by omega)]; omega
    rw [ew]
    have la : (bl A).length = A.size := rfl
    have lb : (bl B).length = B.size := rfl
    have lc : (bl A ++ 44 :: bl B).length = A.size + B.size + 1 := by rw [List.length_append, List.length_cons]; omega
    by_cases hbig : 256 < A.size + B.size + 1
    · have e6 : readO k (bl A ++ 44 :: bl B) = (0, 0, 3) := by unfold readO; rw [if_pos (by omega)]
      rw [e6]
      have n2 : ∀ l : List UInt8, ((readO k l).2.2 == 2) = false := fun l => by
        unfold readO
        split
        · rfl
        · rcases readL_shape k (splitC 44 l) 0 0 with ⟨h, _⟩ | ⟨h, _⟩ <;> rw [h] <;> rfl
      exact br_no (n2 _) (br_yes (yes_of (by omega)) (br_yes rfl (br_yes rfl rfl)))
    · have hj := rd_join k (bl A) (bl B)
      have r6 := readO_rd k (l := bl A ++ 44 :: bl B) (by omega)
      rcases readO_cases hk5 (l := bl A) (by omega) with ⟨p, hp, ea, ra⟩ | ⟨l, hl, ea, ra⟩
      · rw [ea] at hj
        simp only at hj
        rw [hj] at r6
        simp only at r6
        rw [ra, r6]
        exact br_no rfl (br_no (no_of (by omega)) (br_no rfl (br_no rfl (br_yes rfl rfl))))
      · rw [ea] at hj
        simp only at hj
        rcases readO_cases hk5 (l := bl B) (by omega) with ⟨p, hp, eb, rb⟩ | ⟨l', hl', eb, rb⟩
        · rw [eb] at hj
          simp only at hj
          rw [hj] at r6
          simp only at r6
          rw [ra, rb, r6]
          refine br_no rfl (br_no (no_of (by omega)) (br_yes rfl (br_no rfl (br_yes rfl (br_yes rfl ?_)))))
          show ((((bl A).length + 1 + p : Nat) : Int) == IntKind.wrap .i64 (IntKind.wrap .i64 ((p : Int) + ((ByteArray.size A : Nat) : Int)) + 1)) = true
          rw [wi (x := (p : Int) + ((ByteArray.size A : Nat) : Int)) (by omega) (by omega), wi (by omega) (by omega)]
          simp; omega
        · rw [eb] at hj
          simp only at hj
          rw [hj] at r6
          simp only at r6
          rw [ra, rb, r6]
          refine br_no rfl (br_no (no_of (by omega)) (br_yes rfl (br_yes rfl (br_yes rfl ⟨_, mask_Or2_fn hl hl', ?_⟩))))
          rw [orL_append]; simp
  · exact ⟨_, field_Read_no (by omega) _, _, field_Read_no (by omega) _, yes_of (by rw [e44]; omega), yes_of (by rw [ByteArray.size_append, e44]; omega), _, field_Read_no (by omega) _, br_yes rfl (br_yes rfl rfl)⟩
end Go.Proofs.YtcbgnicdcdfmiaaDoor
