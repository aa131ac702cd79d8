/- The law's wakes: reckoned. -/
import Derived.Test.YtiffoefhadgdnaaDoorMg
namespace Go.Proofs.YtiffoefhadgdnaaDoor
open Go Go.B
set_option linter.unusedSimpArgs false
set_option linter.unusedVariables false
set_option linter.unusedSectionVars false
set_option maxRecDepth 20000

/-- the date of a number, to be reckoned -/
def datC (n : Int) : Int × Int × Int :=
  let N := n + 719468
  let a := min (N / 146097) 100
  let b := min ((N - a * 146097) / 36524) 3
  let c := min ((N - a * 146097 - b * 36524) / 1461) 24
  let d := min ((N - a * 146097 - b * 36524 - c * 1461) / 365) 3
  let Y := a * 400 + b * 100 + c * 4 + d
  let r := N - a * 146097 - b * 36524 - c * 1461 - d * 365
  let m := (5 * r + 2) / 153
  if 12 < m + 3 then (Y + 1, m - 9, r - Cal.mon m + 1) else (Y, m + 3, r - Cal.mon m + 1)

theorem dat_C {n : Int} (h : dayB n = true) : Cal.dat n = datC n := by
  obtain ⟨h0, h1⟩ := dayB_true h
  obtain ⟨a, ha⟩ : ∃ a, a = min ((n + 719468) / 146097) 100 := ⟨_, rfl⟩
  obtain ⟨b, hb⟩ : ∃ b, b = min ((n + 719468 - a * 146097) / 36524) 3 := ⟨_, rfl⟩
  obtain ⟨c, hc⟩ : ∃ c, c = min ((n + 719468 - a * 146097 - b * 36524) / 1461) 24 := ⟨_, rfl⟩
  obtain ⟨d, hd⟩ : ∃ d, d = min ((n + 719468 - a * 146097 - b * 36524 - c * 1461) / 365) 3 := ⟨_, rfl⟩
  obtain ⟨p1, p2, p3, p4⟩ := Cal.parts (n + 719468) a b c d (by omega) (by omega) ha hb hc hd
  unfold datC
  simp only
  rw [← ha, ← hb, ← hc, ← hd]
  clear ha hb hc hd
  generalize hY : a * 400 + b * 100 + c * 4 + d = Y at *
  have en : n = Cal.mby Y + (n + 719468 - a * 146097 - b * 36524 - c * 1461 - d * 365) - 719468 := by omega
  generalize hr : n + 719468 - a * 146097 - b * 36524 - c * 1461 - d * 365 = r at *
  have key := Cal.of_march Y r ((5 * r + 2) / 153) (by omega) (by omega) (by unfold Cal.mon; omega) (by unfold Cal.mon; omega) p3 p4 (by omega) (by omega)
  rw [← en] at key
  exact key

def fitDC (c : Cron) (n : Int) : Bool := dayB n && fitB c (datC n).2.1 (datC n).2.2 ((n + 4) % 7)

theorem fitD_C (c : Cron) (n : Int) : fitD c n = fitDC c n := by
  unfold fitD fitDC
  cases h : dayB n
  · rfl
  · rw [dat_C h]

def nextGC (c : Cron) (a : Int) (i : Nat) : Option Int := if fitDC c (ofD a + i) then firstT (fun t => decide (t > a)) (bitsL c.ho) (bitsL c.mi) (ofD a + i) else none

def lastGC (c : Cron) (a : Int) (i : Nat) : Option Int := if fitDC c (ofD a - i) then firstT (fun t => decide (t ≤ a)) (bitsL c.ho).reverse (bitsL c.mi).reverse (ofD a - i) else none

def nextFC (c : Cron) (a : Int) : Option Int := if c.ok then firstI (nextGC c a) 2923 0 else none

def lastFC (c : Cron) (a : Int) : Option Int := if c.ok then firstI (lastGC c a) 2923 0 else none

theorem nextF_C (c : Cron) (a : Int) : nextF c a = nextFC c a := by
  have e : nextG c a = nextGC c a := by funext i; unfold nextG nextGC; rw [fitD_C]
  unfold nextF nextFC; rw [e]

theorem lastF_C (c : Cron) (a : Int) : lastF c a = lastFC c a := by
  have e : lastG c a = lastGC c a := by funext i; unfold lastG lastGC; rw [fitD_C]
  unfold lastF lastFC; rw [e]

/-- times, one behind the other -/
noncomputable def someL (c : Cron) (hi : Int) : Nat → Int → List Int → List Int
  | 0, _, out => out
  | r + 1, t0, out => match nextF c t0 with
    | none => out
    | some t => if t > hi then out else someL c hi r t (out ++ [t])

theorem Some_loop {c : Cron} (hc : c.in) {lo hi : Int} {most : Nat} (hm : most ≤ 64) : ∀ (d i : Nat) (t0 : Int) (out : List Int), i + d = most → out.length ≤ i →
    ∃ k y, next_Some_l0 k (out, c.mi, c.ho, c.da, c.mo, c.we, lo, hi, t0, (most : Int), (i : Int)) y ∧ (y = .inl (someL c hi d t0 out) ∨ y = .inr (someL c hi d t0 out)) := by
  intro d
  induction d with
  | zero =>
    intro i t0 out he hl
    refine ⟨1, .inr out, ?_, .inr rfl⟩
    unfold next_Some_l0
    have e1 : decide ((i : Int) < (most : Int)) = false := by simp; omega
    simp only [e1, br]
  | succ d ih =>
    intro i t0 out he hl
    have e1 : decide ((i : Int) < (most : Int)) = true := by simp; omega
    have ei : IntKind.wrap .i64 ((i : Int) + 1) = ((i + 1 : Nat) : Int) := by rw [wi (by omega) (by omega)]; rfl
    unfold someL
    cases hn : nextF c t0 with
    | none =>
      refine ⟨1, .inl out, ?_, .inl rfl⟩
      unfold next_Some_l0
      simp only [e1, br]
      refine ⟨_, next_Next_fn hc t0, ?_⟩
      rw [hn]; exact trivial
    | some t =>
      by_cases ht : t > hi
      · refine ⟨1, .inl out, ?_, .inl (by simp [ht])⟩
        unfold next_Some_l0
        simp only [e1, br]
        refine ⟨_, next_Next_fn hc t0, ?_⟩
        rw [hn]
        simp only [ansB, Bool.not_true]
        split
        · trivial
        · rename_i h; simp at h; omega
      · obtain ⟨k, y, hk, hy⟩ := ih (i + 1) t (out ++ [t]) (by omega) (by simp; omega)
        refine ⟨k + 1, y, ?_, by simpa [ht] using hy⟩
        unfold next_Some_l0
        simp only [e1, br]
        refine ⟨_, next_Next_fn hc t0, ?_⟩
        rw [hn]
        simp only [ansB, Bool.not_true, ei]
        split
        · rename_i h; simp at h; omega
        · exact ⟨by simp [Nat.ble_eq]; omega, hk⟩

theorem next_Some_yes {c : Cron} (hc : c.in) (hok : c.ok = true) (lo hi : Int) (most : Nat) (hm : most ≤ 64) : next_Some_R c.mi c.ho c.da c.mo c.we lo hi most (someL c hi most lo [], 0) := by
  refine ⟨_, cron_Check_yes hc hok, ?_⟩
  have e0 : ((0 : Int) != 0) = false := rfl
  have e1 : decide ((most : Int) < 0) = false := by simp
  have e2 : decide ((most : Int) > 64) = false := by simp; omega
  simp only [e0, e1, e2, br]
  obtain ⟨k, y, hk, hy⟩ := Some_loop hc (lo := lo) (hi := hi) hm most 0 lo [] (by omega) (Nat.le_refl _)
  refine ⟨y, ⟨k, hk⟩, ?_⟩
  rcases hy with rfl | rfl <;> rfl
end Go.Proofs.YtiffoefhadgdnaaDoor
