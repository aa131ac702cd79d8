/- Whether the layer does anything: reckoned. -/
import Derived.Test.YtjmjfjhiggiglaaDoorJc
namespace Go.Proofs.YtjmjfjhiggiglaaDoor
open Go Go.B
set_option linter.unusedSimpArgs false
set_option linter.unusedVariables false
set_option linter.unusedSectionVars false
set_option maxRecDepth 20000

def hourC : Cron := ⟨1, 16777215, 4294967294, 8190, 127⟩

def hourJ : Job := ⟨7, false, hourC, 0, 1, 2, 0⟩

def hourR : Row := ⟨hourJ, false, 3600, 0, 0, 0, []⟩

theorem hour_in : hourC.in := ⟨⟨by decide, by decide⟩, ⟨by decide, by decide⟩, ⟨by decide, by decide⟩, ⟨by decide, by decide⟩, ⟨by decide, by decide⟩⟩

theorem hourJ_in : hourJ.in := ⟨hour_in, by decide, by decide⟩

theorem hour_n : nextFC hourC (-1) = some 0 ∧ nextFC hourC 3599 = some 3600 ∧ nextFC hourC 3600 = some 7200 ∧ nextFC hourC 7200 = some 10800 ∧ nextFC hourC 10800 = some 14400 ∧ nextFC hourC 18000 = some 21600 ∧ nextFC hourC 7199 = some 7200 ∧ nextFC hourC 10799 = some 10800 ∧ nextFC hourC 14399 = some 14400 ∧ nextFC hourC 21599 = some 21600 := by decide +kernel

theorem hour_good : hourJ.good = true := by
  have h1 := hour_n.1
  unfold Job.good everB
  rw [show hourJ.c = hourC from rfl, nextF_C, h1]
  decide +kernel

theorem hour_first (t : Int) : firstJ hourJ t = nextFC hourC t := by
  unfold firstJ
  rw [hour_good]
  show nextF hourC t = _
  rw [nextF_C]

theorem hour_ok : hourR.ok = true := by
  have h2 := hour_n.2.1
  have ho : ofJ hourJ 3600 = true := by
    unfold ofJ
    rw [hour_first, show (3600 : Int) - 1 = 3599 from rfl, h2]; rfl
  unfold Row.ok
  rw [show hourR.j = hourJ from rfl, hour_good]
  have hl : hourR.line = [3600] := by decide
  rw [hl]
  simp only [List.all_cons, List.all_nil, ho]
  decide

theorem hour_off : offL hourR 18000 = [3600, 7200, 10800, 14400] := by
  obtain ⟨_, h2, h3, h4, h5, _⟩ := hour_n
  unfold offL
  rw [if_neg (by decide), if_neg (by decide)]
  show timesL hourJ 18000 4 3599 [] = _
  unfold timesL; rw [hour_first, h2]
  simp only [show ¬ ((3600 : Int) > 18000) from by decide, if_false]
  unfold timesL; rw [hour_first, h3]
  simp only [show ¬ ((7200 : Int) > 18000) from by decide, if_false]
  unfold timesL; rw [hour_first, h4]
  simp only [show ¬ ((10800 : Int) > 18000) from by decide, if_false]
  unfold timesL; rw [hour_first, h5]
  simp only [show ¬ ((14400 : Int) > 18000) from by decide, if_false]
  rfl

theorem hour_occ : occL hourR 18000 = ([3600, 7200, 10800, 14400], 21600) := by
  obtain ⟨_, _, _, _, _, h6, _⟩ := hour_n
  unfold occL
  rw [if_pos ⟨hour_ok, by decide⟩, if_neg (by decide), hour_off]
  unfold nextT
  rw [show hourR.j = hourJ from rfl, hour_first, h6]

def hourR2 : Row := ⟨hourJ, false, 21600, 1, 3600, 0, [7200, 10800, 14400]⟩

theorem hour_step : stepL hourR 18000 1 = (hourR2.tup, [(1, 7, 3600, 0)], 0) := by
  unfold stepL
  rw [if_pos ⟨hour_ok, by decide, by decide⟩]
  unfold stepG
  rw [hour_occ]
  rfl

theorem hour_ok2 : hourR2.ok = true := by
  obtain ⟨_, h2, _, _, _, _, h7, h8, h9, h10⟩ := hour_n
  have o1 : ofJ hourJ 3600 = true := by unfold ofJ; rw [hour_first, show (3600 : Int) - 1 = 3599 from rfl, h2]; rfl
  have o2 : ofJ hourJ 7200 = true := by unfold ofJ; rw [hour_first, show (7200 : Int) - 1 = 7199 from rfl, h7]; rfl
  have o3 : ofJ hourJ 10800 = true := by unfold ofJ; rw [hour_first, show (10800 : Int) - 1 = 10799 from rfl, h8]; rfl
  have o4 : ofJ hourJ 14400 = true := by unfold ofJ; rw [hour_first, show (14400 : Int) - 1 = 14399 from rfl, h9]; rfl
  have o5 : ofJ hourJ 21600 = true := by unfold ofJ; rw [hour_first, show (21600 : Int) - 1 = 21599 from rfl, h10]; rfl
  unfold Row.ok
  rw [show hourR2.j = hourJ from rfl, hour_good]
  have hl : hourR2.line = [3600, 7200, 10800, 14400, 21600] := by decide
  rw [hl]
  simp only [List.all_cons, List.all_nil, o1, o2, o3, o4, o5]
  decide

def hourR3 : Row := ⟨hourJ, false, 21600, 2, 7200, 0, [10800, 14400]⟩

theorem hour_end : endL hourR2 1 true 2 = (hourR3.tup, [(2, 7, 7200, 0)], false, 0) := by
  unfold endL
  rw [if_neg (by rw [hour_ok2]; decide), if_neg (by decide), if_neg (by decide)]
  rfl

theorem hourR_in : hourR.in := ⟨hourJ_in, by decide, by decide⟩

theorem hourR2_in : hourR2.in := ⟨hourJ_in, by decide, by decide⟩

theorem wakes13 : curfewlaw13_wakes_R true := by
  have s := due_Step_fn hourR_in 18000 1
  rw [hour_step] at s
  have e := due_End_fn hourR2_in 1 true 2
  rw [hour_end] at e
  exact ⟨hourR.tup, rfl, _, s, br_no rfl (br_no rfl ⟨by decide, br_no rfl (br_no rfl (br_no rfl ⟨_, e, br_yes rfl (br_yes rfl (br_yes rfl ⟨by decide, br_yes rfl (br_yes rfl rfl)⟩))⟩))⟩)⟩
end Go.Proofs.YtjmjfjhiggiglaaDoor
