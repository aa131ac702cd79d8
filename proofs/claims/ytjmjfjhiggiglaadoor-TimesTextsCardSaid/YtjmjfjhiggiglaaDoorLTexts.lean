/- TimesTexts: the plain law. -/
import Derived.Test.YtjmjfjhiggiglaaDoorSf
import Derived.Test.YtjmjfjhiggiglaaDoorSj
import Derived.Test.YtjmjfjhiggiglaaDoorGTimesTexts
namespace Go.Proofs.YtjmjfjhiggiglaaDoor
open Go Go.B Go.RowKit
set_option linter.unusedSimpArgs false
set_option linter.unusedVariables false
set_option linter.unusedSectionVars false

theorem same_no (s : ByteArray) : (!(ByteArray.toList s == ByteArray.toList s)) = false := by rw [toList_same, decide_eq_true rfl]; rfl

theorem wakes5 : curfewlaw05_wakes_R true := by
  have hk : okc 2000 2 28 23 59 59 = true := by decide
  have ht : tim 2000 2 28 23 59 59 = 951782399 := by decide
  have h1 := times_Of_fn hk
  have h2 := times_Text_fn (t := 951782399) (by decide)
  have e := txtT_tim hk
  rw [ht] at h1 e
  rw [e] at h2
  refine ⟨_, h1, _, h2, bYes rfl (bYes rfl (bYes rfl (bYes ?_ ⟨_, ⟨_, times_May_fn 101, bYes rfl (bYes rfl rfl)⟩, rfl⟩)))⟩
  have k : bA (txtC 2000 2 28 23 59 59) = (⟨#[50, 48, 48, 48, 45, 48, 50, 45, 50, 56, 32, 50, 51, 58, 53, 57, 58, 53, 57]⟩ : ByteArray) := by decide
  show (ByteArray.toList (bA (txtC 2000 2 28 23 59 59)) == ByteArray.toList (⟨#[50, 48, 48, 48, 45, 48, 50, 45, 50, 56, 32, 50, 51, 58, 53, 57, 58, 53, 57]⟩ : ByteArray)) = true
  rw [toList_same]
  exact decide_eq_true k

theorem texts_l0 (bs : List ByteArray) (ts : List Int) : ∀ (j i : Nat), i + j = 10 → ∃ k, curfewlaw05_TimesTexts_l0 k (bs, ts, ((ts.length : Nat) : Int), ((i : Nat) : Int)) (Sum.inl ())
  | 0, i, e => by
    have e : i = 10 := by omega
    subst e
    by_cases hl : 10 < ts.length
    · exact ⟨0 + 1, bYes (decide_eq_true (by omega)) ⟨ix_ok hl, bYes rfl rfl⟩⟩
    · exact ⟨0 + 1, bNo (decide_eq_false (by omega)) rfl⟩
  | j + 1, i, e => by
    by_cases hl : i < ts.length
    · obtain ⟨k, hk⟩ := texts_l0 bs ts j (i + 1) (by omega)
      have e10 : (((i : Nat) : Int) == 10) = false := by simp; omega
      refine ⟨k + 1, bYes (decide_eq_true (by omega)) ⟨ix_ok hl, bNo e10 ?_⟩⟩
      rw [Int.toNat_natCast, wi_succ (by omega)]
      have rt := r5Time_fn (ts.getD i 0)
      cases h : mayT (ts.getD i 0) <;> rw [h] at rt
      · exact ⟨_, times_Text_no h, _, rt, bYes rfl (bNo rfl (bNo (same_no _) hk))⟩
      · exact ⟨_, times_Text_fn h, _, rt, bNo rfl (bNo rfl ⟨_, r5Text_fn h, bNo (same_no _) hk⟩)⟩
    · exact ⟨0 + 1, bNo (decide_eq_false (by omega)) rfl⟩

theorem min_ok (n : Nat) : (((decide (0 ≤ (if 40 < ((n : Nat) : Int) then 40 else ((n : Nat) : Int)))) && (Nat.ble (Int.toNat (if 40 < ((n : Nat) : Int) then 40 else ((n : Nat) : Int))) n)) && (Nat.ble 0 (Int.toNat (if 40 < ((n : Nat) : Int) then 40 else ((n : Nat) : Int))))) = true := by
  have h : 0 ≤ (if 40 < ((n : Nat) : Int) then 40 else ((n : Nat) : Int)) ∧ Int.toNat (if 40 < ((n : Nat) : Int) then 40 else ((n : Nat) : Int)) ≤ n := by split <;> omega
  rw [decide_eq_true h.1, Bool.true_and, Nat.ble_eq_true_of_le h.2, Bool.true_and]
  exact Nat.ble_eq_true_of_le (Nat.zero_le _)

theorem parse_both (s : ByteArray) {X Y Z : Prop} (h : Z) : ∃ y11 : Int × Int, times_Parse_R s y11 ∧ ∃ y12 : Int × Bool, curfewref05_Parse_R s y12 ∧ br (y11.1 != y12.1) X (br (!(y12.2 == (y11.2 == 0))) X (br (!y12.2) (br (y11.2 != 151) Y Z) Z)) := by
  have r := r5Parse_fn s
  cases hp : pOk s
  · rw [hp] at r
    exact ⟨_, times_Parse_no hp, _, r, bNo rfl (bNo rfl (bYes rfl (bNo rfl h)))⟩
  · rw [hp] at r
    refine ⟨_, times_Parse_yes hp, _, r, bNo ?_ (bNo rfl (bNo rfl h))⟩
    show (pVal s != pVal s) = false
    simp

theorem texts_l1 (bs : List ByteArray) : ∀ (j i : Nat), i + j = 20 → ∃ k, curfewlaw05_TimesTexts_l1 k (bs, ((bs.length : Nat) : Int), ((i : Nat) : Int)) (Sum.inl ())
  | 0, i, e => by
    have e : i = 20 := by omega
    subst e
    by_cases hl : 20 < bs.length
    · exact ⟨0 + 1, bYes (decide_eq_true (by omega)) ⟨ix_ok hl, bYes rfl rfl⟩⟩
    · exact ⟨0 + 1, bNo (decide_eq_false (by omega)) rfl⟩
  | j + 1, i, e => by
    by_cases hl : i < bs.length
    · obtain ⟨k, hk⟩ := texts_l1 bs j (i + 1) (by omega)
      have e20 : (((i : Nat) : Int) == 20) = false := by simp; omega
      refine ⟨k + 1, bYes (decide_eq_true (by omega)) ⟨ix_ok hl, bNo e20 ⟨min_ok _, ?_⟩⟩⟩
      rw [wi_succ (by omega)]
      exact parse_both _ hk
    · exact ⟨0 + 1, bNo (decide_eq_false (by omega)) rfl⟩

theorem law_TimesTexts (ts : List Int) (i0 : inT (.sl (.int .i64)) ts) (bs : List ByteArray) (i1 : inT (.sl .str) bs) : curfewlaw05_TimesTexts_R ts bs true := by
  refine ⟨_, wakes5, bNo rfl ?_⟩
  exact ⟨_, texts_l0 bs ts 10 0 rfl, ⟨_, texts_l1 bs 20 0 rfl, rfl⟩⟩
end Go.Proofs.YtjmjfjhiggiglaaDoor
