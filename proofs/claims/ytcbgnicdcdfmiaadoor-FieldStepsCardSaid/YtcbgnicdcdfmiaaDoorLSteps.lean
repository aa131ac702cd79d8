/- The law FieldSteps, as plain law. -/
import Derived.Test.YtcbgnicdcdfmiaaDoorKn
import Derived.Test.YtcbgnicdcdfmiaaDoorLTellsF
import Derived.Test.YtcbgnicdcdfmiaaDoorLJoins
import Derived.Test.YtcbgnicdcdfmiaaDoorGFieldSteps
namespace Go.Proofs.YtcbgnicdcdfmiaaDoor
open Go Go.B
set_option linter.unusedSimpArgs false
set_option linter.unusedVariables false
set_option linter.unusedSectionVars false
set_option maxRecDepth 20000

theorem mask_Span_okk {f t s : Nat} (hf : f ≤ t) (ht : t ≤ 63) (hs : 1 ≤ s) (hs2 : s ≤ 1000) : mask_Span_R f t s (((spanM f t s : Nat) : Int), 0) := by
  obtain ⟨k, hk⟩ := mask_Span_loop2 (a := f) ht hs hs2 (t - f) f (by omega) (Nat.le_refl _) hf (by simp)
  have e1 : ofM (spanL f s (f - f + 1)) = 2 ^ f := by rw [Nat.sub_self]; simp [spanL, ofM]
  rw [e1] at hk
  exact ⟨_, may_yes (by omega) (by omega), br_no rfl ⟨_, may_yes (by omega) (by omega), br_no rfl (br_no (no_of (by omega)) (br_no (no_of (by omega)) ⟨_, mask_one_fn (by omega) (by omega), _, ⟨k, hk⟩, rfl⟩))⟩⟩

theorem wu_nn (a : Int) : 0 ≤ IntKind.wrap .u64 a := by
  simp only [IntKind.wrap, IntKind.signed, IntKind.bits]
  simp
  omega

theorem pick_mod {a n : Int} (h : 0 < n) : 0 ≤ Int.tmod (IntKind.wrap .u64 a) n ∧ Int.tmod (IntKind.wrap .u64 a) n < n := by
  have h0 := wu_nn a
  generalize IntKind.wrap .u64 a = x at *
  exact ⟨Int.tmod_nonneg n h0, Int.tmod_lt_of_pos x h⟩

theorem pick {lo hi : Int} (h0 : 0 ≤ lo) (h1 : lo ≤ hi) (h2 : hi ≤ 59) (a : Int) : ∃ n : Nat, IntKind.wrap .i64 (lo + IntKind.wrap .i64 (Int.tmod (IntKind.wrap .u64 a) (IntKind.wrap .u64 (IntKind.wrap .i64 (IntKind.wrap .i64 (hi - lo) + 1))))) = (n : Int) ∧ lo ≤ (n : Int) ∧ (n : Int) ≤ hi := by
  rw [wi (x := hi - lo) (by omega) (by omega), wi (x := hi - lo + 1) (by omega) (by omega), wu (x := hi - lo + 1) (by omega) (by omega)]
  have h := pick_mod (a := a) (n := hi - lo + 1) (by omega)
  generalize Int.tmod (IntKind.wrap .u64 a) (hi - lo + 1) = r at *
  refine ⟨(lo + r).toNat, ?_, ?_, ?_⟩
  · rw [wi (x := r) (by omega) (by omega), wi (by omega) (by omega)]; omega
  · omega
  · omega

theorem pick_step (a : Int) : ∃ n : Nat, IntKind.wrap .i64 (1 + IntKind.wrap .i64 (Int.tmod (IntKind.wrap .u64 a) 63)) = (n : Int) ∧ 1 ≤ n ∧ n ≤ 63 := by
  have h := pick_mod (a := a) (n := 63) (by omega)
  generalize Int.tmod (IntKind.wrap .u64 a) 63 = r at *
  refine ⟨(1 + r).toNat, ?_, ?_, ?_⟩
  · rw [wi (x := r) (by omega) (by omega), wi (by omega) (by omega)]; omega
  · omega
  · omega

theorem mem_span {f t s : List UInt8} (hf : (44 : UInt8) ∉ f) (ht : (44 : UInt8) ∉ t) (hs : (44 : UInt8) ∉ s) : (44 : UInt8) ∉ f ++ 45 :: t ++ 47 :: s := by
  simp only [List.mem_append, List.mem_cons, not_or]
  exact ⟨⟨hf, by decide, ht⟩, by decide, hs⟩

theorem law_FieldSteps (x0 : Int) (i0 : inT (.int .i64) x0) (x1 : (Ty.pr (.int .i64) (.int .i64)).den) (i1 : inT (.pr (.int .i64) (.int .i64)) x1) (x2 : Int) (i2 : inT (.int .i64) x2) : curfewlaw06_FieldSteps_R x0 x1.1 x1.2 x2 true := by
  refine ⟨_, wakes06, br_no rfl ?_⟩
  by_cases hk : 0 ≤ x0 ∧ x0 < 5
  · obtain ⟨k, rfl⟩ : ∃ n : Nat, x0 = n := ⟨x0.toNat, by omega⟩
    have hk5 : k < 5 := by omega
    have hb := ends_bd k hk5
    refine ⟨_, field_Ends_fn hk5, br_no rfl ?_⟩
    have esz : IntKind.wrap .u64 (IntKind.wrap .i64 (IntKind.wrap .i64 (hiA k - loA k) + 1)) = hiA k - loA k + 1 := by
      rw [wi (x := hiA k - loA k) (by omega) (by omega), wi (x := hiA k - loA k + 1) (by omega) (by omega), wu (by omega) (by omega)]
    have hz : (!(IntKind.wrap .u64 (IntKind.wrap .i64 (IntKind.wrap .i64 (hiA k - loA k) + 1)) == 0)) = true := by
      rw [esz]; simp; omega
    obtain ⟨f, ef, f1, f2⟩ := pick hb.1 hb.2.1 (by omega) x1.1
    obtain ⟨t, et, t1, t2⟩ := pick hb.1 hb.2.1 (by omega) x1.2
    obtain ⟨s, eS, s1, s2⟩ := pick_step x2
    refine ⟨hz, hz, ?_⟩
    simp only
    rw [ef, et, eS]
    have lf := digL_len f
    have lt := digL_len t
    have ls := digL_len s
    have e45 : (⟨#[45]⟩ : ByteArray) = ⟨([45] : List UInt8).toArray⟩ := rfl
    have e47 : (⟨#[47]⟩ : ByteArray) = ⟨([47] : List UInt8).toArray⟩ := rfl
    have e42 : (⟨#[42, 47]⟩ : ByteArray) = ⟨([42, 47] : List UInt8).toArray⟩ := rfl
    have df := (dig_all ⟨f, by omega⟩).2.1
    have dt := (dig_all ⟨t, by omega⟩).2.1
    have ds := (dig_all ⟨s, by omega⟩).2.1
    simp only at df dt ds
    have etext : ((((⟨(digL f).toArray⟩ : ByteArray) ++ ⟨#[45]⟩) ++ ⟨(digL t).toArray⟩) ++ ⟨#[47]⟩) ++ ⟨(digL s).toArray⟩ = ⟨(digL f ++ 45 :: digL t ++ 47 :: digL s).toArray⟩ := by
      rw [e45, e47, ba_append, ba_append, ba_append, ba_append]
      simp
    have estar : (⟨#[42, 47]⟩ : ByteArray) ++ ⟨(digL s).toArray⟩ = ⟨(42 :: 47 :: digL s).toArray⟩ := by
      rw [e42, ba_append]; rfl
    have sz : ∀ (a b : ByteArray), a.size ≤ 1000 → b.size ≤ 1000 → decide (ByteArray.size a + ByteArray.size b ≤ 9223372036854775807) = true := fun a b h1 h2 => yes_of (by omega)
    have mf := mk_size (digL f)
    have mt := mk_size (digL t)
    have ms := mk_size (digL s)
    have m45 : (⟨#[45]⟩ : ByteArray).size = 1 := rfl
    have m47 : (⟨#[47]⟩ : ByteArray).size = 1 := rfl
    have m42 : (⟨#[42, 47]⟩ : ByteArray).size = 2 := rfl
    have r6 := field_Read_fn hk5 ⟨(digL f ++ 45 :: digL t ++ 47 :: digL s).toArray⟩ (by rw [mk_size]; simp; omega)
    rw [bl_mk (digL f ++ 45 :: digL t ++ 47 :: digL s), readO_one (by simp; omega) (mem_span df dt ds), item_span hk5 ⟨f1, f2⟩ ⟨t1, t2⟩ ⟨s1, s2⟩, ← etext] at r6
    have r9 := field_Read_fn hk5 ⟨(42 :: 47 :: digL s).toArray⟩ (by rw [mk_size]; simp; omega)
    rw [bl_mk (42 :: 47 :: digL s), readO_one (by simp; omega) (by simp only [List.mem_cons, not_or]; exact ⟨by decide, by decide, ds⟩), item_star hk5 ⟨s1, s2⟩, ← estar] at r9
    simp only at r9
    refine ⟨_, itoa_fn (by omega), sz _ _ (by omega) (by omega), _, itoa_fn (by omega), sz _ _ (by rw [ByteArray.size_append]; omega) (by omega), sz _ _ (by rw [ByteArray.size_append, ByteArray.size_append]; omega) (by omega), _, itoa_fn (by omega), sz _ _ (by rw [ByteArray.size_append, ByteArray.size_append, ByteArray.size_append]; omega) (by omega), _, r6, ?_⟩
    by_cases h : f ≤ t
    · rw [if_pos h]
      have hlo : loA k = ((loA k).toNat : Int) := by omega
      have hhi : hiA k = ((hiA k).toNat : Int) := by omega
      have y10 := mask_Span_okk (f := (loA k).toNat) (t := (hiA k).toNat) (s := s) (by omega) (by omega) s1 (by omega)
      rw [← hlo, ← hhi] at y10
      exact br_no (no_of (by omega)) ⟨_, mask_Span_okk h (by omega) s1 (by omega), _, itoa_fn (by omega), sz _ _ (by omega) (by omega), _, r9, _, y10, br_yes rfl (br_yes rfl (br_yes rfl (br_yes rfl (br_yes (by simp) (by simp)))))⟩
    · rw [if_neg h]
      exact br_yes (yes_of (by omega)) (br_yes rfl rfl)
  · refine ⟨_, field_Ends_no (by omega), br_yes rfl ?_⟩
    by_cases h0 : x0 < 0
    · exact br_yes (yes_of h0) rfl
    · exact br_no (no_of h0) (yes_of (by omega))
end Go.Proofs.YtcbgnicdcdfmiaaDoor
