/- Texts of crons, and the laws' first line. -/
import Derived.Test.YtjbpihalfaclkaaGreatDoorKo
import Derived.Test.YtjbpihalfaclkaaGreatDoorPb
import Derived.Test.YtjbpihalfaclkaaGreatDoorMt
namespace Go.Proofs.YtjbpihalfaclkaaGreatDoor
open Go Go.B
set_option linter.unusedSimpArgs false
set_option linter.unusedVariables false
set_option linter.unusedSectionVars false
set_option maxRecDepth 20000

def crn (t : F5) : Cron := ⟨t.1, t.2.1, t.2.2.1, t.2.2.2.1, t.2.2.2.2⟩

/-- the one text of a cron -/
def textC (c : Cron) : List UInt8 := Lib.join [textO 0 c.mi.toNat, textO 1 c.ho.toNat, textO 2 c.da.toNat, textO 3 c.mo.toNat, textO 4 c.we.toNat] [32]

theorem field_Text_two {k : Nat} (hk : k < 5) {x : Int} (hx : U64 x) : field_Text_R (k : Int) x (if okF k x then (⟨(textO k x.toNat).toArray⟩, 0) else (⟨#[]⟩, 160)) := by
  obtain ⟨m, rfl⟩ : ∃ m : Nat, x = m := ⟨x.toNat, by have := hx.1; omega⟩
  cases hm : okF k (m : Int)
  · exact field_Text_bad hk (by have := hx.2; omega) hm
  · exact field_Text_fn hk hm

theorem field_Text_y {k : Nat} (hk : k < 5) {x : Int} (hx : U64 x) (h : okF k x = true) : field_Text_R (k : Int) x (⟨(textO k x.toNat).toArray⟩, 0) := by
  have := field_Text_two hk hx; rwa [h] at this

theorem field_Text_n {k : Nat} (hk : k < 5) {x : Int} (hx : U64 x) (h : okF k x = false) : field_Text_R (k : Int) x (⟨#[]⟩, 160) := by
  have := field_Text_two hk hx; rwa [h] at this

theorem text_len {k : Nat} (hk : k < 5) {x : Int} (hx : U64 x) (h : okF k x = true) : (textO k x.toNat).length ≤ 256 := by
  obtain ⟨m, rfl⟩ : ∃ m : Nat, x = m := ⟨x.toNat, by have := hx.1; omega⟩
  exact (text_back hk h).1

theorem join5 (a b c d e : List UInt8) : Lib.join [a, b, c, d, e] [32] = a ++ 32 :: b ++ 32 :: c ++ 32 :: d ++ 32 :: e := by
  rw [Lib.join_cons]
  unfold Lib.joinTail
  simp

theorem cron_Text_fn {c : Cron} (hc : c.in) : cron_Text_R c.mi c.ho c.da c.mo c.we (if c.ok then (⟨(textC c).toArray⟩, 0) else (⟨#[]⟩, 170)) := by
  obtain ⟨h0, h1, h2, h3, h4⟩ := hc
  cases e0 : okF 0 c.mi
  · have : c.ok = false := by unfold Cron.ok; rw [e0]; rfl
    rw [this]
    exact ⟨_, field_Text_n (k := 0) (by decide) h0 e0, br_yes rfl rfl⟩
  cases e1 : okF 1 c.ho
  · have : c.ok = false := by unfold Cron.ok; rw [e0, e1]; rfl
    rw [this]
    exact ⟨_, field_Text_y (k := 0) (by decide) h0 e0, br_no rfl ⟨_, field_Text_n (k := 1) (by decide) h1 e1, br_yes rfl rfl⟩⟩
  cases e2 : okF 2 c.da
  · have : c.ok = false := by unfold Cron.ok; rw [e0, e1, e2]; rfl
    rw [this]
    exact ⟨_, field_Text_y (k := 0) (by decide) h0 e0, br_no rfl ⟨_, field_Text_y (k := 1) (by decide) h1 e1, br_no rfl ⟨_, field_Text_n (k := 2) (by decide) h2 e2, br_yes rfl rfl⟩⟩⟩
  cases e3 : okF 3 c.mo
  · have : c.ok = false := by unfold Cron.ok; rw [e0, e1, e2, e3]; rfl
    rw [this]
    exact ⟨_, field_Text_y (k := 0) (by decide) h0 e0, br_no rfl ⟨_, field_Text_y (k := 1) (by decide) h1 e1, br_no rfl ⟨_, field_Text_y (k := 2) (by decide) h2 e2, br_no rfl ⟨_, field_Text_n (k := 3) (by decide) h3 e3, br_yes rfl rfl⟩⟩⟩⟩
  cases e4 : okF 4 c.we
  · have : c.ok = false := by unfold Cron.ok; rw [e0, e1, e2, e3, e4]; rfl
    rw [this]
    exact ⟨_, field_Text_y (k := 0) (by decide) h0 e0, br_no rfl ⟨_, field_Text_y (k := 1) (by decide) h1 e1, br_no rfl ⟨_, field_Text_y (k := 2) (by decide) h2 e2, br_no rfl ⟨_, field_Text_y (k := 3) (by decide) h3 e3, br_no rfl ⟨_, field_Text_n (k := 4) (by decide) h4 e4, br_yes rfl rfl⟩⟩⟩⟩⟩
  have : c.ok = true := by unfold Cron.ok; rw [e0, e1, e2, e3, e4]; rfl
  rw [this]
  refine ⟨_, field_Text_y (k := 0) (by decide) h0 e0, br_no rfl ⟨_, field_Text_y (k := 1) (by decide) h1 e1, br_no rfl ⟨_, field_Text_y (k := 2) (by decide) h2 e2, br_no rfl ⟨_, field_Text_y (k := 3) (by decide) h3 e3, br_no rfl ⟨_, field_Text_y (k := 4) (by decide) h4 e4, br_no rfl ⟨⟨(textC c).toArray⟩, ⟨⟨by simp, ?_⟩, rfl⟩, rfl⟩⟩⟩⟩⟩⟩
  have l0 := text_len (k := 0) (by decide) h0 e0
  have l1 := text_len (k := 1) (by decide) h1 e1
  have l2 := text_len (k := 2) (by decide) h2 e2
  have l3 := text_len (k := 3) (by decide) h3 e3
  have l4 := text_len (k := 4) (by decide) h4 e4
  show (Lib.join [textO 0 c.mi.toNat, textO 1 c.ho.toNat, textO 2 c.da.toNat, textO 3 c.mo.toNat, textO 4 c.we.toNat] [32]).length ≤ 100000000
  rw [join5]
  simp only [List.length_append, List.length_cons]
  omega
/- the laws' first line -/

theorem wakes07 : curfewlaw07_wakes_R true := by
  have r1 := cron_Read_fn (s := ⟨#[48, 32, 57, 32, 49, 51, 32, 42, 32, 77, 79, 78, 45, 70, 82, 73]⟩) (by decide)
  have e1 : cronRes (cronO (bl ⟨#[48, 32, 57, 32, 49, 51, 32, 42, 32, 77, 79, 78, 45, 70, 82, 73]⟩)) = ((1, 512, 8192, 8190, 62), 0, 0) := by decide +kernel
  rw [e1] at r1
  have r3 := cron_Read_fn (s := ⟨#[48, 32, 50, 53, 32, 42, 32, 42, 32, 42]⟩) (by decide)
  have e3 : cronRes (cronO (bl ⟨#[48, 32, 50, 53, 32, 42, 32, 42, 32, 42]⟩)) = (f0, 2, 170) := by decide +kernel
  rw [e3] at r3
  have hin : Cron.in ⟨1, 512, 8192, 8190, 62⟩ := ⟨⟨by decide, by decide⟩, ⟨by decide, by decide⟩, ⟨by decide, by decide⟩, ⟨by decide, by decide⟩, ⟨by decide, by decide⟩⟩
  have hok : Cron.ok ⟨1, 512, 8192, 8190, 62⟩ = true := by decide +kernel
  have t := cron_Text_fn hin
  rw [hok] at t
  have et : textC ⟨1, 512, 8192, 8190, 62⟩ = [48, 32, 57, 32, 49, 51, 32, 42, 32, 49, 45, 53] := by decide +kernel
  rw [et] at t
  have d := cron_Day_fn hin hok (y := 2026) (m := 11) (d := 16) (by decide +kernel)
  have ed : fitB ⟨1, 512, 8192, 8190, 62⟩ 11 16 ((Cal.num 2026 11 16 + 4) % 7) = true := by decide +kernel
  rw [ed] at d
  have a := cron_At_fn hin hok (t := 32400) (by decide)
  have e0 : Cal.dat (32400 / 86400) = (1970, 1, 1) := Cal.dat_of (by decide +kernel) (by decide +kernel)
  have ea : isT ⟨1, 512, 8192, 8190, 62⟩ 32400 = true := by
    unfold isT fitD
    rw [e0]
    decide +kernel
  rw [ea] at a
  exact ⟨_, r1, _, t, _, r3, br_yes rfl (br_yes rfl (br_yes rfl (br_yes rfl (br_yes (by decide +kernel) ⟨_, d, br_yes rfl ⟨_, a, rfl⟩⟩))))⟩
end Go.Proofs.YtjbpihalfaclkaaGreatDoor
