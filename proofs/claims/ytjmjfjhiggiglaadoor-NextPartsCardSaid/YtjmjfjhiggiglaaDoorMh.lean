/- The law's wakes: reckoned. -/
import Derived.Test.YtjmjfjhiggiglaaDoorMg
namespace Go.Proofs.YtjmjfjhiggiglaaDoor
open Go Go.B
set_option linter.unusedSimpArgs false
set_option linter.unusedVariables false
set_option linter.unusedSectionVars false
set_option maxRecDepth 20000

/-- the date of a number, to be reckoned -/
def datC (n : Int) : Int × Int × Int :=
  let N := n + 719468
  let a := min (N / 146097) 100
  let b := min ((N - a * 146097) / 36524) 3
  let c := min ((N - a * 146097 - b * 36524) / 1461) 24
  let d := min ((N - a * 146097 - b * 36524 - c * 1461) / 365) 3
  let Y := a * 400 + b * 100 + c * 4 + d
  let r := N - a * 146097 - b * 36524 - c * 1461 - d * 365
  let m := (5 * r + 2) / 153
  if 12 < m + 3 then (Y + 1, m - 9, r - Cal.mon m + 1) else (Y, m + 3, r - Cal.mon m + 1)

theorem dat_C {n : Int} (h : dayB n = true) : Cal.dat n = datC n := by
  obtain ⟨h0, h1⟩ := dayB_true h
  obtain ⟨a, ha⟩ : ∃ a, a = min ((n + 719468) / 146097) 100 := ⟨_, rfl⟩
  obtain ⟨b, hb⟩ : ∃ b, b = min ((n + 719468 - a * 146097) / 36524) 3 := ⟨_, rfl⟩
  obtain ⟨c, hc⟩ : ∃ c, c = min ((n + 719468 - a * 146097 - b * 36524) / 1461) 24 := ⟨_, rfl⟩
  obtain ⟨d, hd⟩ : ∃ d, d = min ((n + 719468 - a * 146097 - b * 36524 - c * 1461) / 365) 3 := ⟨_, rfl⟩
  obtain ⟨p1, p2, p3, p4⟩ := Cal.parts (n + 719468) a b c d (by omega) (by omega) ha hb hc hd
  unfold datC
  simp only
  rw [← ha, ← hb, ← hc, ← hd]
  clear ha hb hc hd
  generalize hY : a * 400 + b * 100 + c * 4 + d = Y at *
  have en : n = Cal.mby Y + (n + 719468 - a * 146097 - b * 36524 - c * 1461 - d * 365) - 719468 := by omega
  generalize hr : n + 719468 - a * 146097 - b * 36524 - c * 1461 - d * 365 = r at *
  have key := Cal.of_march Y r ((5 * r + 2) / 153) (by omega) (by omega) (by unfold Cal.mon; omega) (by unfold Cal.mon; omega) p3 p4 (by omega) (by omega)
  rw [← en] at key
  exact key

def fitDC (c : Cron) (n : Int) : Bool := dayB n && fitB c (datC n).2.1 (datC n).2.2 ((n + 4) % 7)

theorem fitD_C (c : Cron) (n : Int) : fitD c n = fitDC c n := by
  unfold fitD fitDC
  cases h : dayB n
  · rfl
  · rw [dat_C h]

def nextGC (c : Cron) (a : Int) (i : Nat) : Option Int := if fitDC c (ofD a + i) then firstT (fun t => decide (t > a)) (bitsL c.ho) (bitsL c.mi) (ofD a + i) else none

def lastGC (c : Cron) (a : Int) (i : Nat) : Option Int := if fitDC c (ofD a - i) then firstT (fun t => decide (t ≤ a)) (bitsL c.ho).reverse (bitsL c.mi).reverse (ofD a - i) else none

def nextFC (c : Cron) (a : Int) : Option Int := if c.ok then firstI (nextGC c a) 2923 0 else none

def lastFC (c : Cron) (a : Int) : Option Int := if c.ok then firstI (lastGC c a) 2923 0 else none

theorem nextF_C (c : Cron) (a : Int) : nextF c a = nextFC c a := by
  have e : nextG c a = nextGC c a := by funext i; unfold nextG nextGC; rw [fitD_C]
  unfold nextF nextFC; rw [e]

theorem lastF_C (c : Cron) (a : Int) : lastF c a = lastFC c a := by
  have e : lastG c a = lastGC c a := by funext i; unfold lastG lastGC; rw [fitD_C]
  unfold lastF lastFC; rw [e]
end Go.Proofs.YtjmjfjhiggiglaaDoor
