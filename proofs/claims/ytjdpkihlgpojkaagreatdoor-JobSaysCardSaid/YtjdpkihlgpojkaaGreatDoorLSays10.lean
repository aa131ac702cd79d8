/- The law JobSays, as plain law. -/
import Derived.Test.YtjdpkihlgpojkaaGreatDoorPj
import Derived.Test.YtjdpkihlgpojkaaGreatDoorRj
import Derived.Test.YtjdpkihlgpojkaaGreatDoorPe
import Derived.Test.YtjdpkihlgpojkaaGreatDoorPn
import Derived.Test.YtjdpkihlgpojkaaGreatDoorBk
import Derived.Test.YtjdpkihlgpojkaaGreatDoorGJobSays
namespace Go.Proofs.YtjdpkihlgpojkaaGreatDoor
open Go Go.B
set_option linter.unusedSimpArgs false
set_option linter.unusedVariables false
set_option linter.unusedSectionVars false
set_option maxRecDepth 20000

abbrev JT9 := Int × Bool × Int × Int × Int × Int × Int × Int × Int × Int × Int

def zeroJ9 : JT9 := (0, false, 0, 0, 0, 0, 0, 0, 0, 0, 0)

theorem cut260_ok9 (s : ByteArray) : (((decide (0 ≤ (if 260 < ((ByteArray.size s : Nat) : Int) then 260 else ((ByteArray.size s : Nat) : Int)))) && (Nat.ble (Int.toNat (if 260 < ((ByteArray.size s : Nat) : Int) then 260 else ((ByteArray.size s : Nat) : Int))) (ByteArray.size s))) && (Nat.ble 0 (Int.toNat (if 260 < ((ByteArray.size s : Nat) : Int) then 260 else ((ByteArray.size s : Nat) : Int))))) = true := by
  by_cases h : 260 < ((ByteArray.size s : Nat) : Int)
  · rw [if_pos h]; simp [Nat.ble_eq]; omega
  · rw [if_neg h]; simp [Nat.ble_eq]

theorem tl_nil9 (s : ByteArray) : (ByteArray.toList s == ByteArray.toList (⟨#[]⟩ : ByteArray)) = decide (bl s = []) := tl_same s ⟨#[]⟩

theorem says_zC : Cron.in ⟨0, 0, 0, 0, 0⟩ := have z : U64 0 := ⟨by decide, by decide⟩; ⟨z, z, z, z, z⟩

theorem good_once (name at_ ov ca re : Int) : Job.good ⟨name, true, ⟨0, 0, 0, 0, 0⟩, at_, ov, ca, re⟩ = (((name != 0) && (ltd ov 1 && (ltd ca 2 && ltd re 3))) && mayT at_) := by
  unfold Job.good Job.ok0 mayT zeroC
  simp [Bool.and_assoc]

/-- the program and the reference say the same -/
theorem says_both {name at_ ov ca re : Int} (hat : -9223372036854775808 ≤ at_ ∧ at_ ≤ 9223372036854775807) (s : ByteArray) : ∃ res, job_Of_R name s at_ ov ca re res ∧ curfewref10_Of_R name s at_ ov ca re res := by
  have o1 := job_Check_fn (j := ⟨name, true, ⟨0, 0, 0, 0, 0⟩, at_, ov, ca, re⟩) ⟨says_zC, hat⟩
  have p1 := rplain_fn name ov ca re
  have gt := good_once name at_ ov ca re
  cases hp : ((name != 0) && (ltd ov 1 && (ltd ca 2 && ltd re 3)))
  · rw [hp] at p1 gt
    have k1 : Job.good ⟨name, true, ⟨0, 0, 0, 0, 0⟩, at_, ov, ca, re⟩ = false := by rw [gt]; rfl
    exact ⟨(zeroJ9, 200), ⟨_, o1, br_yes (by rw [ck_ne, k1]; rfl) rfl⟩, ⟨_, p1, br_yes rfl rfl⟩⟩
  rw [hp] at p1 gt
  have t1 := rtime10_fn at_
  by_cases hs : bl s = []
  · have te : (ByteArray.toList s == ByteArray.toList (⟨#[]⟩ : ByteArray)) = true := by rw [tl_nil9]; exact yes_of hs
    cases hm : mayT at_
    · rw [hm] at t1 gt
      have k1 : Job.good ⟨name, true, ⟨0, 0, 0, 0, 0⟩, at_, ov, ca, re⟩ = false := by rw [gt]; rfl
      exact ⟨(zeroJ9, 200), ⟨_, o1, br_yes (by rw [ck_ne, k1]; rfl) rfl⟩, ⟨_, p1, br_no rfl (br_yes te ⟨_, t1, br_yes rfl rfl⟩)⟩⟩
    · rw [hm] at t1 gt
      have k1 : Job.good ⟨name, true, ⟨0, 0, 0, 0, 0⟩, at_, ov, ca, re⟩ = true := by rw [gt]; rfl
      rw [ck_of k1] at o1
      exact ⟨((name, true, 0, 0, 0, 0, 0, at_, ov, ca, re), 0), ⟨_, o1, br_no rfl (br_no (not_f te) (br_yes te rfl))⟩, ⟨_, p1, br_no rfl (br_yes te ⟨_, t1, br_no rfl (br_no (not_f te) (br_yes te rfl))⟩)⟩⟩
  have tn : (ByteArray.toList s == ByteArray.toList (⟨#[]⟩ : ByteArray)) = false := by rw [tl_nil9]; exact no_of hs
  cases ha : (at_ != 0)
  case true =>
    refine ⟨(zeroJ9, 200), ?_, ⟨_, p1, br_no rfl (br_no tn (br_yes (not_t tn) (br_yes ha rfl)))⟩⟩
    cases k1 : Job.good ⟨name, true, ⟨0, 0, 0, 0, 0⟩, at_, ov, ca, re⟩
    · exact ⟨_, o1, br_yes (by rw [ck_ne, k1]; rfl) rfl⟩
    · rw [ck_of k1] at o1
      exact ⟨_, o1, br_no rfl (br_yes (not_t tn) (br_yes ha rfl))⟩
  have ha0 : at_ = 0 := by simpa using ha
  subst ha0
  have k1 : Job.good ⟨name, true, ⟨0, 0, 0, 0, 0⟩, 0, ov, ca, re⟩ = true := by rw [gt]; rfl
  rw [ck_of k1] at o1
  by_cases hl : s.size ≤ 256
  · have r := cron_Read_fn hl
    have q := rRead07_fn hl
    have hb : ¬ (((ByteArray.size s : Nat) : Int) > 256) := by omega
    cases hC : cronO (bl s) with
    | mk c q0 =>
      obtain ⟨p, ok⟩ := q0
      rw [hC] at r q
      cases ok
      · exact ⟨(zeroJ9, 170), ⟨_, o1, br_no rfl (br_yes (not_t tn) (br_no ha (br_no tn ⟨_, r, br_yes rfl rfl⟩)))⟩, ⟨_, p1, br_no rfl (br_no tn (br_yes (not_t tn) (br_no ha (br_no tn (br_no (no_of hb) ⟨_, q, br_yes rfl rfl⟩)))))⟩⟩
      · obtain ⟨cin, cok, rfl⟩ := cronO_good hC
        have c2 := job_Check_fn (j := ⟨name, false, crn c, 0, ov, ca, re⟩) ⟨cin, hat⟩
        have c3 := rCheck_fn (j := ⟨name, false, crn c, 0, ov, ca, re⟩) ⟨cin, hat⟩
        cases k2 : Job.good ⟨name, false, crn c, 0, ov, ca, re⟩
        · have e : ((Job.ck ⟨name, false, crn c, 0, ov, ca, re⟩) != 0) = true := by rw [ck_ne, k2]; rfl
          exact ⟨(zeroJ9, _), ⟨_, o1, br_no rfl (br_yes (not_t tn) (br_no ha (br_no tn ⟨_, r, br_no rfl ⟨_, c2, br_yes e rfl⟩⟩)))⟩, ⟨_, p1, br_no rfl (br_no tn (br_yes (not_t tn) (br_no ha (br_no tn (br_no (no_of hb) ⟨_, q, br_no rfl ⟨_, c3, br_yes e rfl⟩⟩)))))⟩⟩
        · rw [ck_of k2] at c2 c3
          exact ⟨_, ⟨_, o1, br_no rfl (br_yes (not_t tn) (br_no ha (br_no tn ⟨_, r, br_no rfl ⟨_, c2, br_no rfl rfl⟩⟩)))⟩, ⟨_, p1, br_no rfl (br_no tn (br_yes (not_t tn) (br_no ha (br_no tn (br_no (no_of hb) ⟨_, q, br_no rfl ⟨_, c3, br_no rfl rfl⟩⟩)))))⟩⟩
  · have hb : ((ByteArray.size s : Nat) : Int) > 256 := by omega
    exact ⟨(zeroJ9, 3), ⟨_, o1, br_no rfl (br_yes (not_t tn) (br_no ha (br_no tn ⟨_, br_yes (yes_of hb) rfl, br_yes rfl rfl⟩)))⟩, ⟨_, p1, br_no rfl (br_no tn (br_yes (not_t tn) (br_no ha (br_no tn (br_yes (yes_of hb) rfl)))))⟩⟩

abbrev WT9 := Int × ByteArray × Int × Int × Int × Int

theorem says_loop {l : List WT9} (hl : l.length ≤ 9223372036854775807) (hat : ∀ w ∈ l, -9223372036854775808 ≤ w.2.2.1 ∧ w.2.2.1 ≤ 9223372036854775807) :
    ∃ k, curfewlaw10_JobSays_l0 k (l, (l.length : Int), ((0 : Nat) : Int)) (.inl ()) := by
  refine up_ind (P := fun i => ∃ k, curfewlaw10_JobSays_l0 k (l, (l.length : Int), (i : Int)) (.inl ())) (n := l.length) ⟨1, br_no (no_of (by omega)) rfl⟩ (fun i hi ⟨k, hk⟩ => ?_) 0 (Nat.zero_le _)
  have e : IntKind.wrap .i64 ((i : Int) + 1) = ((i + 1 : Nat) : Int) := wi_succ (by omega)
  rw [← e] at hk
  refine ⟨k + 1, br_yes (yes_of (by omega)) ⟨ix_ok hi, ?_⟩⟩
  by_cases h6 : (i : Int) = 6
  · exact br_yes (by simp [h6]) rfl
  have hm : List.getD l (Int.toNat (i : Int)) (0, ⟨#[]⟩, 0, 0, 0, 0) ∈ l := by
    rw [Int.toNat_natCast, List.getD_eq_getElem?_getD, List.getElem?_eq_getElem hi]
    exact List.getElem_mem _
  have ha := hat _ hm
  obtain ⟨res, h1, h2⟩ := says_both (name := (List.getD l (Int.toNat (i : Int)) (0, ⟨#[]⟩, 0, 0, 0, 0)).1) (ov := (List.getD l (Int.toNat (i : Int)) (0, ⟨#[]⟩, 0, 0, 0, 0)).2.2.2.1) (ca := (List.getD l (Int.toNat (i : Int)) (0, ⟨#[]⟩, 0, 0, 0, 0)).2.2.2.2.1) (re := (List.getD l (Int.toNat (i : Int)) (0, ⟨#[]⟩, 0, 0, 0, 0)).2.2.2.2.2) ha
    (ByteArray.extract (List.getD l (Int.toNat (i : Int)) (0, ⟨#[]⟩, 0, 0, 0, 0)).2.1 0 (Int.toNat (if 260 < ((ByteArray.size (List.getD l (Int.toNat (i : Int)) (0, ⟨#[]⟩, 0, 0, 0, 0)).2.1 : Nat) : Int) then 260 else ((ByteArray.size (List.getD l (Int.toNat (i : Int)) (0, ⟨#[]⟩, 0, 0, 0, 0)).2.1 : Nat) : Int))))
  refine br_no (by simp [h6]) ⟨_, ⟨cut260_ok9 _, rfl⟩, _, h1, _, h2, br_no ?_ (br_no (by simp) hk)⟩
  simp

abbrev wishX9 : Ty := .pr (.int .u32) (.pr .str (.pr (.int .i64) (.pr (.int .i64) (.pr (.int .i64) (.int .i64)))))

theorem law_JobSays (x0 : (Ty.sl wishX9).den) (i0 : inT (.sl wishX9) x0) : curfewlaw10_JobSays_R x0 true := by
  obtain ⟨k, hk⟩ := says_loop (l := x0) (by have := i0.1; simpa [maxLen] using this) (fun w hw => by
    obtain ⟨i, hi, rfl⟩ := List.getElem_of_mem hw
    exact i64_range (i0.2 i hi).2.2.1)
  exact ⟨_, wakes10, br_no rfl ⟨_, ⟨k, hk⟩, rfl⟩⟩
end Go.Proofs.YtjdpkihlgpojkaaGreatDoor
