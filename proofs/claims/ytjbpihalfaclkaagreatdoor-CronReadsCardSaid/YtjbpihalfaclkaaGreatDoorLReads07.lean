/- The law CronReads, as plain law. -/
import Derived.Test.YtjbpihalfaclkaaGreatDoorPe
import Derived.Test.YtjbpihalfaclkaaGreatDoorGCronReads
namespace Go.Proofs.YtjbpihalfaclkaaGreatDoor
open Go Go.B
set_option linter.unusedSimpArgs false
set_option linter.unusedVariables false
set_option linter.unusedSectionVars false
set_option maxRecDepth 20000

def cut07 (s : ByteArray) : ByteArray := ByteArray.extract s 0 (Int.toNat (if 257 < ((ByteArray.size s : Nat) : Int) then 257 else ((ByteArray.size s : Nat) : Int)))

theorem cut07_size (s : ByteArray) : (cut07 s).size ≤ 257 := by
  have h := bl_extract s 0 (Int.toNat (if 257 < ((ByteArray.size s : Nat) : Int) then 257 else ((ByteArray.size s : Nat) : Int)))
  have := congrArg List.length h
  rw [bl_len] at this
  show (ByteArray.extract _ _ _).size ≤ 257
  rw [this, List.length_take]
  split <;> omega

theorem cut07_ok (s : ByteArray) : (((decide (0 ≤ (if 257 < ((ByteArray.size s : Nat) : Int) then 257 else ((ByteArray.size s : Nat) : Int)))) && (Nat.ble (Int.toNat (if 257 < ((ByteArray.size s : Nat) : Int) then 257 else ((ByteArray.size s : Nat) : Int))) (ByteArray.size s))) && (Nat.ble 0 (Int.toNat (if 257 < ((ByteArray.size s : Nat) : Int) then 257 else ((ByteArray.size s : Nat) : Int))))) = true := by
  by_cases h : 257 < ((ByteArray.size s : Nat) : Int)
  · rw [if_pos h]; simp [Nat.ble_eq]; omega
  · rw [if_neg h]; simp [Nat.ble_eq]

theorem same5 (c : F5) : (!((c.1 == c.1) && ((c.2.1 == c.2.1) && ((c.2.2.1 == c.2.2.1) && ((c.2.2.2.1 == c.2.2.2.1) && ((c.2.2.2.2 == c.2.2.2.2) && true)))))) = false := by simp

theorem mac_cron : ∀ t ∈ macTexts, (cronO t).1 = (cronP t.length (wordsO t)).1 := by decide +kernel

theorem macro_size (l : List UInt8) : (⟨(macroO l).toArray⟩ : ByteArray).size ≤ 256 := by
  rw [mk_size]
  by_cases h : macroO l = []
  · rw [h]; decide
  · exact (mac_all _ (mac_mem h)).1

theorem bne_selfi {a : Int} : (a != a) = false := by simp

/-- what macros mean, both ways -/
theorem macro_tail {s : ByteArray} {E L : Prop} (h : L) : br (ByteArray.toList (⟨(macroO (bl s)).toArray⟩ : ByteArray) == ByteArray.toList (⟨#[]⟩ : ByteArray))
    (∃ y10 : ByteArray, (curfewref07_Macro_R s y10) ∧ (br (!((meansO (bl s)).2 == (!(ByteArray.toList y10 == ByteArray.toList (⟨#[]⟩ : ByteArray))))) E (br (!(((meansO (bl s)).1.1 == 0) && (((meansO (bl s)).1.2.1 == 0) && (((meansO (bl s)).1.2.2.1 == 0) && (((meansO (bl s)).1.2.2.2.1 == 0) && (((meansO (bl s)).1.2.2.2.2 == 0) && true)))))) E L)))
    (∃ y11 : ByteArray, (curfewref07_Macro_R s y11) ∧ (br (!((meansO (bl s)).2 == (!(ByteArray.toList y11 == ByteArray.toList (⟨#[]⟩ : ByteArray))))) E (br (!(((meansO (bl s)).1.1 == (cronO (macroO (bl s))).1.1) && (((meansO (bl s)).1.2.1 == (cronO (macroO (bl s))).1.2.1) && (((meansO (bl s)).1.2.2.1 == (cronO (macroO (bl s))).1.2.2.1) && (((meansO (bl s)).1.2.2.2.1 == (cronO (macroO (bl s))).1.2.2.2.1) && (((meansO (bl s)).1.2.2.2.2 == (cronO (macroO (bl s))).1.2.2.2.2) && true)))))) E L))) := by
  have hm := rMacro_fn s
  by_cases h0 : macroO (bl s) = []
  · have e : meansO (bl s) = (f0, false) := by unfold meansO; rw [if_pos h0]
    rw [h0] at hm
    rw [h0, e]
    have hy : (ByteArray.toList (⟨([] : List UInt8).toArray⟩ : ByteArray) == ByteArray.toList (⟨#[]⟩ : ByteArray)) = true := by rw [tl_same]; rfl
    exact br_yes hy ⟨_, hm, br_no (by rw [hy]; rfl) (br_no rfl h)⟩
  · have hc := mac_cron _ (mac_mem h0)
    have e : meansO (bl s) = ((cronO (macroO (bl s))).1, true) := by unfold meansO; rw [if_neg h0, hc]
    have hne : (ByteArray.toList (⟨(macroO (bl s)).toArray⟩ : ByteArray) == ByteArray.toList (⟨#[]⟩ : ByteArray)) = false := by rw [tl_same]; exact decide_eq_false h0
    rw [e]
    exact br_no hne ⟨_, hm, br_no (by rw [hne]; rfl) (br_no (same5 _) h)⟩

theorem law_CronReads (x0 : List ByteArray) (i0 : inT (.sl .str) x0) : curfewlaw07_CronReads_R x0 true := by
  have hl : x0.length ≤ 9223372036854775807 := i0.1
  refine ⟨_, wakes07, br_no rfl ?_⟩
  have key : ∀ d i, i + d = x0.length → ∃ q, curfewlaw07_CronReads_l0 q (x0, (x0.length : Int), (i : Int)) (.inl ()) := by
    intro d
    induction d with
    | zero => intro i h; exact ⟨1, br_no (no_of (by omega)) rfl⟩
    | succ d ih =>
      intro i h
      have hi : i < x0.length := by omega
      obtain ⟨q, hq⟩ := ih (i + 1) (by omega)
      by_cases h12 : (i : Int) = 12
      · exact ⟨1, br_yes (yes_of (by omega)) ⟨ix_ok hi, br_yes (by simp [h12]) rfl⟩⟩
      · have ew : IntKind.wrap .i64 ((i : Int) + 1) = ((i + 1 : Nat) : Int) := wi_succ (by omega)
        refine ⟨q + 1, br_yes (yes_of (by omega)) ⟨ix_ok hi, br_no (by simpa using h12) ⟨cut07_ok _, ?_⟩⟩⟩
        rw [ew]
        have hs := cut07_size (x0.getD (Int.toNat (i : Int)) ⟨#[]⟩)
        change ∃ y4 : (Int × Int × Int × Int × Int) × Int × Int, cron_Read_R (cut07 (x0.getD (Int.toNat (i : Int)) ⟨#[]⟩)) y4 ∧ _
        have e0 : ByteArray.extract (x0.getD (Int.toNat (i : Int)) ⟨#[]⟩) 0 (Int.toNat (if 257 < ((ByteArray.size (x0.getD (Int.toNat (i : Int)) ⟨#[]⟩) : Nat) : Int) then 257 else ((ByteArray.size (x0.getD (Int.toNat (i : Int)) ⟨#[]⟩) : Nat) : Int))) = cut07 (x0.getD (Int.toNat (i : Int)) ⟨#[]⟩) := rfl
        simp only [e0]
        generalize cut07 (x0.getD (Int.toNat (i : Int)) ⟨#[]⟩) = s at *
        by_cases h256 : 256 < s.size
        · exact ⟨_, cron_Read_long h256, br_yes (yes_of (by omega)) (br_no rfl (br_no rfl (br_no rfl hq)))⟩
        · have r := cron_Read_fn (s := s) (by omega)
          have rr := rRead07_fn (s := s) (by omega)
          have mt := fun {E : Prop} => macro_tail (s := s) (E := E) hq
          have rm := rRead07_fn (s := ⟨(macroO (bl s)).toArray⟩) (macro_size _)
          rw [bl_mk (macroO (bl s))] at rm
          generalize cronO (bl s) = C at *
          obtain ⟨c, p, ok⟩ := C
          cases ok
          · exact ⟨_, r, br_no (no_of (by omega)) ⟨_, rr, br_no (same5 c) (br_no bne_selfi (br_no rfl (br_yes rfl (br_no rfl ⟨_, cron_Macro_fn s, _, rMacro_fn s, _, rm, _, rMacro_fn s, mt⟩))))⟩⟩
          · exact ⟨_, r, br_no (no_of (by omega)) ⟨_, rr, br_no (same5 c) (br_no bne_selfi (br_yes rfl (br_no rfl (br_no rfl ⟨_, cron_Macro_fn s, _, rMacro_fn s, _, rm, _, rMacro_fn s, mt⟩))))⟩⟩
  obtain ⟨q, hq⟩ := key x0.length 0 (by omega)
  exact ⟨_, ⟨q, hq⟩, rfl⟩
end Go.Proofs.YtjbpihalfaclkaaGreatDoor
