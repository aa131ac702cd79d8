/- The law CronBack, as plain law. -/
import Derived.Test.YtjbpihalfaclkaaGreatDoorPo
import Derived.Test.YtjbpihalfaclkaaGreatDoorGCronBack
namespace Go.Proofs.YtjbpihalfaclkaaGreatDoor
open Go Go.B
set_option linter.unusedSimpArgs false
set_option linter.unusedVariables false
set_option linter.unusedSectionVars false
set_option maxRecDepth 20000

abbrev f5B : Ty := .pr (.int .u64) (.pr (.int .u64) (.pr (.int .u64) (.pr (.int .u64) (.int .u64))))

def cut256 (s : ByteArray) : ByteArray := ByteArray.extract s 0 (Int.toNat (if 256 < ((ByteArray.size s : Nat) : Int) then 256 else ((ByteArray.size s : Nat) : Int)))

theorem cut256_size (s : ByteArray) : (cut256 s).size ≤ 256 := by
  have h := bl_extract s 0 (Int.toNat (if 256 < ((ByteArray.size s : Nat) : Int) then 256 else ((ByteArray.size s : Nat) : Int)))
  have := congrArg List.length h
  rw [bl_len] at this
  show (ByteArray.extract _ _ _).size ≤ 256
  rw [this, List.length_take]
  split <;> omega

theorem cut256_ok (s : ByteArray) : (((decide (0 ≤ (if 256 < ((ByteArray.size s : Nat) : Int) then 256 else ((ByteArray.size s : Nat) : Int)))) && (Nat.ble (Int.toNat (if 256 < ((ByteArray.size s : Nat) : Int) then 256 else ((ByteArray.size s : Nat) : Int))) (ByteArray.size s))) && (Nat.ble 0 (Int.toNat (if 256 < ((ByteArray.size s : Nat) : Int) then 256 else ((ByteArray.size s : Nat) : Int))))) = true := by
  by_cases h : 256 < ((ByteArray.size s : Nat) : Int)
  · rw [if_pos h]; simp [Nat.ble_eq]; omega
  · rw [if_neg h]; simp [Nat.ble_eq]

theorem same5b (c : F5) : (!((c.1 == c.1) && ((c.2.1 == c.2.1) && ((c.2.2.1 == c.2.2.1) && ((c.2.2.2.1 == c.2.2.2.1) && ((c.2.2.2.2 == c.2.2.2.2) && true)))))) = false := by simp

theorem back_fn {c : Cron} (hc : c.in) (hok : c.ok = true) : cron_Read_R ⟨(textC c).toArray⟩ ((c.mi, c.ho, c.da, c.mo, c.we), 0, 0) := by
  have r := cron_Read_fn (s := ⟨(textC c).toArray⟩) (by rw [mk_size]; exact textC_len hc hok)
  rw [bl_mk (textC c), cron_back hc hok] at r
  exact r

theorem wide_bl (s : ByteArray) : bl (((⟨#[32, 32]⟩ : ByteArray) ++ ⟨(dblB (bl s)).toArray⟩) ++ ⟨#[32]⟩) = 32 :: 32 :: dblB (bl s) ++ [32] := by
  show (((⟨#[32, 32]⟩ : ByteArray) ++ ⟨(dblB (bl s)).toArray⟩) ++ ⟨#[32]⟩).data.toList = _
  rw [ByteArray.data_append, ByteArray.data_append]
  simp

theorem back_j0 (x1 : ByteArray) : curfewlaw07_CronBack_j0 x1 true := by
  have hs := cut256_size x1
  have e0 : ByteArray.extract x1 0 (Int.toNat (if 256 < ((ByteArray.size x1 : Nat) : Int) then 256 else ((ByteArray.size x1 : Nat) : Int))) = cut256 x1 := rfl
  unfold curfewlaw07_CronBack_j0
  simp only [e0]
  refine ⟨cut256_ok x1, ?_⟩
  generalize cut256 x1 = s at *
  have r := cron_Read_fn (s := s) hs
  have hb := wide_bl s
  cases hC : cronO (bl s) with
  | mk c q =>
    obtain ⟨p, ok⟩ := q
    rw [hC] at r
    cases ok
    · obtain ⟨rfl, hp0, hp1⟩ := cronO_bad hC
      have hl : (bl s).length = s.size := rfl
      exact ⟨_, r, br_yes rfl (br_yes rfl (br_yes (yes_of hp0) (yes_of (by show p ≤ ((ByteArray.size s : Nat) : Int); omega))))⟩
    · obtain ⟨cin, cok, rfl⟩ := cronO_good hC
      have t2 := cron_Text_fn cin
      have k2 := cron_Check_fn cin
      rw [cok] at t2 k2
      refine ⟨_, r, br_no rfl ⟨_, t2, _, back_fn cin cok, br_no rfl (br_no rfl (br_no (same5b c) ⟨_, k2, br_no rfl ⟨⟨(dblB (bl s)).toArray⟩, ⟨⟨by omega, rfl, by decide⟩, (by show (⟨(dblB (bl s)).toArray⟩ : ByteArray) = ⟨(Lib.replaceAll (bl s) [32] [32, 32]).toArray⟩; rw [rep_dbl])⟩, ?_, ?_, ?_⟩⟩))⟩⟩
      · have := dblB_len (bl s)
        have hl : (bl s).length = s.size := rfl
        have m1 := mk_size (dblB (bl s))
        exact yes_of (by show 2 + _ ≤ _; omega)
      · have := dblB_len (bl s)
        have hl : (bl s).length = s.size := rfl
        have m1 := mk_size (dblB (bl s))
        exact yes_of (by rw [ByteArray.size_append]; show 2 + _ + 1 ≤ _; omega)
      · by_cases hw : (((⟨#[32, 32]⟩ : ByteArray) ++ ⟨(dblB (bl s)).toArray⟩) ++ ⟨#[32]⟩).size ≤ 256
        · have r3 := cron_Read_fn hw
          rw [hb, cron_same (words_wide (bl s)).symm hC] at r3
          exact br_yes (yes_of (by omega)) ⟨_, r3, br_yes rfl (by show _ = true; simp [cronRes])⟩
        · exact br_no (no_of (by omega)) (by trivial)

theorem law_CronBack (x0 : F5) (i0 : inT f5B x0) (x1 : ByteArray) (i1 : inT .str x1) : curfewlaw07_CronBack_R x0.1 x0.2.1 x0.2.2.1 x0.2.2.2.1 x0.2.2.2.2 x1 true := by
  have hin : (crn x0).in := ⟨u64_range i0.1, u64_range i0.2.1, u64_range i0.2.2.1, u64_range i0.2.2.2.1, u64_range i0.2.2.2.2⟩
  have t := cron_Text_fn hin
  refine ⟨_, wakes07, br_no rfl ?_⟩
  cases hok : (crn x0).ok
  · rw [hok] at t
    exact ⟨_, t, br_no rfl (back_j0 x1)⟩
  · rw [hok] at t
    have hlen := textC_len hin hok
    exact ⟨_, t, br_yes rfl ⟨_, back_fn hin hok, br_no rfl (br_no rfl (br_no (same5b x0) (br_no (no_of (by show ¬ (((ByteArray.size (⟨(textC (crn x0)).toArray⟩ : ByteArray) : Nat) : Int) > 256); rw [mk_size]; omega)) ⟨4, ⟨32, rfl, by show (4 : Int) = (((textC (crn x0)).count 32 : Nat) : Int); rw [textC_count hin hok]; rfl⟩, br_no rfl (back_j0 x1)⟩)))⟩⟩
end Go.Proofs.YtjbpihalfaclkaaGreatDoor
