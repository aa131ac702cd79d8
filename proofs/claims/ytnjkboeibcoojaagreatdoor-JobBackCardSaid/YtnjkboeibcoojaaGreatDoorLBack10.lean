/- The law JobBack, as plain law. -/
import Derived.Test.YtnjkboeibcoojaaGreatDoorPq
import Derived.Test.YtnjkboeibcoojaaGreatDoorGJobBack
namespace Go.Proofs.YtnjkboeibcoojaaGreatDoor
open Go Go.B
set_option linter.unusedSimpArgs false
set_option linter.unusedVariables false
set_option linter.unusedSectionVars false
set_option maxRecDepth 20000

theorem cut260_ok (s : ByteArray) : (((decide (0 ≤ (if 260 < ((ByteArray.size s : Nat) : Int) then 260 else ((ByteArray.size s : Nat) : Int)))) && (Nat.ble (Int.toNat (if 260 < ((ByteArray.size s : Nat) : Int) then 260 else ((ByteArray.size s : Nat) : Int))) (ByteArray.size s))) && (Nat.ble 0 (Int.toNat (if 260 < ((ByteArray.size s : Nat) : Int) then 260 else ((ByteArray.size s : Nat) : Int))))) = true := by
  by_cases h : 260 < ((ByteArray.size s : Nat) : Int)
  · rw [if_pos h]; simp [Nat.ble_eq]; omega
  · rw [if_neg h]; simp [Nat.ble_eq]

theorem sameJ (a : Int) (b : Bool) (c d e f g h i k l : Int) : ((a == a) && ((b == b) && (((c == c) && ((d == d) && ((e == e) && ((f == f) && ((g == g) && true))))) && ((h == h) && ((i == i) && ((k == k) && ((l == l) && true))))))) = true := by simp

theorem back10_j0 (name : Int) (s : ByteArray) {at_ : Int} (ov ca re : Int) (hat : -9223372036854775808 ≤ at_ ∧ at_ ≤ 9223372036854775807) : curfewlaw10_JobBack_j0 name s at_ ov ca re true := by
  refine ⟨_, ⟨cut260_ok s, rfl⟩, ?_⟩
  generalize ByteArray.extract s 0 _ = t
  obtain ⟨res, hr, ⟨h1, h2⟩ | ⟨j, jin, jg, rfl, rfl, rfl, ht⟩⟩ := of_any (name := name) (ov := ov) (ca := ca) (re := re) hat t
  · refine ⟨res, hr, br_yes h1 ?_⟩
    rw [h2]; rfl
  · have ck := job_Check_fn jin
    rw [ck_of jg] at ck
    refine ⟨_, hr, br_no rfl ⟨_, wish_yes jin jg, _, of_good jin jg, br_yes rfl (br_yes rfl ⟨_, ck, br_yes rfl (br_yes (sameJ _ _ _ _ _ _ _ _ _ _ _) (br_yes (by show (j.name == j.name) = true; simp) (br_yes (by show (j.at_ == j.at_) = true; simp) ?_)))⟩)⟩⟩
    show ((ByteArray.toList j.text == ByteArray.toList (⟨#[]⟩ : ByteArray)) == (ByteArray.toList t == ByteArray.toList (⟨#[]⟩ : ByteArray))) = true
    rw [tl_nil, tl_nil, ht]; simp

theorem law_back10 {j : Job} (h : j.in) (name : Int) (s : ByteArray) {at_ : Int} (ov ca re : Int) (hat : -9223372036854775808 ≤ at_ ∧ at_ ≤ 9223372036854775807) :
    curfewlaw10_JobBack_R j.name j.once j.c.mi j.c.ho j.c.da j.c.mo j.c.we j.at_ j.ov j.ca j.re name s at_ ov ca re true := by
  have J0 := back10_j0 name s ov ca re hat
  refine ⟨_, wakes10, br_no rfl ?_⟩
  cases hg : j.good
  · exact ⟨_, wish_no h hg, br_no (by show (j.ck == 0) = false; rw [Job.ck_good, hg]) J0⟩
  · exact ⟨_, wish_yes h hg, br_yes rfl ⟨_, of_good h hg, br_no rfl (br_no (not_f (sameJ _ _ _ _ _ _ _ _ _ _ _)) J0)⟩⟩

abbrev jobX3 : Ty := .pr (.int .u32) (.pr .bool (.pr (.pr (.int .u64) (.pr (.int .u64) (.pr (.int .u64) (.pr (.int .u64) (.int .u64))))) (.pr (.int .i64) (.pr (.int .i64) (.pr (.int .i64) (.int .i64))))))

abbrev wishX : Ty := .pr (.int .u32) (.pr .str (.pr (.int .i64) (.pr (.int .i64) (.pr (.int .i64) (.int .i64)))))

theorem law_JobBack (x0 : jobX3.den) (i0 : inT jobX3 x0) (x1 : wishX.den) (i1 : inT wishX x1) :
    curfewlaw10_JobBack_R x0.1 x0.2.1 x0.2.2.1.1 x0.2.2.1.2.1 x0.2.2.1.2.2.1 x0.2.2.1.2.2.2.1 x0.2.2.1.2.2.2.2 x0.2.2.2.1 x0.2.2.2.2.1 x0.2.2.2.2.2.1 x0.2.2.2.2.2.2 x1.1 x1.2.1 x1.2.2.1 x1.2.2.2.1 x1.2.2.2.2.1 x1.2.2.2.2.2 true :=
  law_back10 (j := ⟨x0.1, x0.2.1, ⟨x0.2.2.1.1, x0.2.2.1.2.1, x0.2.2.1.2.2.1, x0.2.2.1.2.2.2.1, x0.2.2.1.2.2.2.2⟩, x0.2.2.2.1, x0.2.2.2.2.1, x0.2.2.2.2.2.1, x0.2.2.2.2.2.2⟩)
    ⟨⟨u64_range i0.2.2.1.1, u64_range i0.2.2.1.2.1, u64_range i0.2.2.1.2.2.1, u64_range i0.2.2.1.2.2.2.1, u64_range i0.2.2.1.2.2.2.2⟩, i64_range i0.2.2.2.1⟩ x1.1 x1.2.1 x1.2.2.2.1 x1.2.2.2.2.1 x1.2.2.2.2.2 (i64_range i1.2.2.1)
end Go.Proofs.YtnjkboeibcoojaaGreatDoor
