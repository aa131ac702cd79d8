import Derived.Test.YtjbpihalfaclkaaGreatDoorMf
/- The times of a cron: what is found is a time; a time is found again. -/
namespace Go.Proofs.YtjbpihalfaclkaaGreatDoor
open Go Go.B
set_option linter.unusedSimpArgs false
set_option linter.unusedVariables false
set_option linter.unusedSectionVars false
set_option maxRecDepth 20000

theorem bitsL_rising (m : Int) : (bitsL m).Pairwise (· < ·) := lstB_rising

theorem bits_le {k : Nat} {m : Int} {b : Nat} (hw : (wholeL.getD k 0).toNat < 2 ^ b) (h : okF k m = true) {x : Int} (hx : x ∈ bitsL m) : x < b := by
  unfold okF subB at h
  simp only [Bool.and_eq_true] at h
  have h2 : m.toNat &&& (wholeL.getD k 0).toNat = m.toNat := by simpa using h.2
  have h3 := lstB_yesmem hx
  have h4 := bitsL_mem hx
  rcases Nat.lt_or_ge x.toNat b with h5 | h5
  · omega
  · exfalso
    have hle : m.toNat ≤ (wholeL.getD k 0).toNat := by rw [← h2]; exact Nat.and_le_right
    have hp : 2 ^ b ≤ 2 ^ x.toNat := Nat.pow_le_pow_right (by omega) h5
    have := Nat.testBit_lt_two_pow (x := m.toNat) (i := x.toNat) (by omega)
    rw [this] at h3; cases h3

theorem ho_le {c : Cron} (h : c.ok = true) {x : Int} (hx : x ∈ bitsL c.ho) : x ≤ 23 := by
  unfold Cron.ok at h
  simp only [Bool.and_eq_true] at h
  have := bits_le (k := 1) (b := 24) (by decide) h.1.1.1.2 hx
  omega

theorem mi_le {c : Cron} (h : c.ok = true) {x : Int} (hx : x ∈ bitsL c.mi) : x ≤ 59 := by
  unfold Cron.ok at h
  simp only [Bool.and_eq_true] at h
  have := bits_le (k := 0) (b := 60) (by decide) h.1.1.1.1 hx
  omega

/-- the times of a day -/
def onL (c : Cron) (n : Int) : List Int := (bitsL c.ho).flatMap fun h => (bitsL c.mi).map (tm n h)

theorem firstT_find (p : Int → Bool) (L M : List Int) (n : Int) : firstT p L M n = (L.flatMap fun h => M.map (tm n h)).find? p := by
  unfold firstT
  rw [List.find?_flatMap]

theorem onL_back (c : Cron) (n : Int) : ((bitsL c.ho).reverse.flatMap fun h => (bitsL c.mi).reverse.map (tm n h)) = (onL c n).reverse := by
  unfold onL
  rw [List.reverse_flatMap]
  congr 1
  funext h
  simp

theorem onL_mem {c : Cron} {n t : Int} (h : t ∈ onL c n) : ∃ x ∈ bitsL c.ho, ∃ y ∈ bitsL c.mi, t = tm n x y := by
  unfold onL at h
  obtain ⟨x, hx, h⟩ := List.mem_flatMap.mp h
  obtain ⟨y, hy, e⟩ := List.mem_map.mp h
  exact ⟨x, hx, y, hy, e.symm⟩

theorem onL_day {c : Cron} (hok : c.ok = true) {n t : Int} (h : t ∈ onL c n) : n * 86400 ≤ t ∧ t ≤ n * 86400 + 86340 := by
  obtain ⟨x, hx, y, hy, rfl⟩ := onL_mem h
  have := bitsL_mem hx; have := bitsL_mem hy; have := ho_le hok hx; have := mi_le hok hy
  unfold tm; omega

theorem onL_rising {c : Cron} (hok : c.ok = true) (n : Int) : (onL c n).Pairwise (· < ·) := by
  unfold onL
  rw [List.pairwise_flatMap]
  refine ⟨fun h hh => ?_, ?_⟩
  · rw [List.pairwise_map]
    exact (bitsL_rising c.mi).imp fun {a b} hab => by unfold tm; omega
  · refine (bitsL_rising c.ho).imp fun {a b} hab => ?_
    intro x hx y hy
    obtain ⟨m, hm, rfl⟩ := List.mem_map.mp hx
    obtain ⟨m', hm', rfl⟩ := List.mem_map.mp hy
    have := bitsL_mem hm; have := bitsL_mem hm'; have := mi_le hok hm; have := mi_le hok hm'
    unfold tm; omega

theorem find_first {R : Int → Int → Prop} {p : Int → Bool} {t : Int} : ∀ {l : List Int}, l.Pairwise R → t ∈ l → p t = true → (∀ x ∈ l, R x t → p x = false) → l.find? p = some t
  | [], _, h, _, _ => by cases h
  | x :: l, hs, h, hp, hno => by
    rw [List.find?_cons]
    rcases List.mem_cons.mp h with e | e
    · subst e; rw [hp]
    · have hr := (List.pairwise_cons.mp hs).1 t e
      rw [hno x (List.mem_cons_self ..) hr]
      exact find_first (List.pairwise_cons.mp hs).2 e hp fun y hy => hno y (List.mem_cons_of_mem _ hy)

theorem nextG_eq (c : Cron) (a : Int) (i : Nat) : nextG c a i = if fitD c (ofD a + i) then (onL c (ofD a + i)).find? (fun t => decide (t > a)) else none := by
  unfold nextG onL; rw [firstT_find]

theorem lastG_eq (c : Cron) (a : Int) (i : Nat) : lastG c a i = if fitD c (ofD a - i) then (onL c (ofD a - i)).reverse.find? (fun t => decide (t ≤ a)) else none := by
  unfold lastG; rw [firstT_find, onL_back]

theorem firstI_some {g : Nat → Option Int} {t : Int} : ∀ {r i : Nat}, firstI g r i = some t → ∃ j, i ≤ j ∧ j < i + r ∧ g j = some t ∧ ∀ k, i ≤ k → k < j → g k = none
  | 0, i, h => by simp [firstI] at h
  | r + 1, i, h => by
    unfold firstI at h
    cases hg : g i with
    | some x => rw [hg] at h; cases h; exact ⟨i, Nat.le_refl _, by omega, hg, fun k h1 h2 => by omega⟩
    | none =>
      rw [hg] at h
      obtain ⟨j, h1, h2, h3, h4⟩ := firstI_some h
      refine ⟨j, by omega, by omega, h3, fun k k1 k2 => ?_⟩
      rcases Nat.lt_or_ge i k with q | q
      · exact h4 k q k2
      · have : k = i := by omega
        subst this; exact hg

theorem fitD_day {c : Cron} {n : Int} (h : fitD c n = true) : 0 ≤ n ∧ n ≤ 2932896 := by
  unfold fitD at h
  simp only [Bool.and_eq_true] at h
  exact dayB_true h.1

theorem nextF_some {c : Cron} {a t : Int} (h : nextF c a = some t) : c.ok = true ∧ ∃ n, fitD c n = true ∧ t ∈ onL c n ∧ t > a := by
  cases hok : c.ok
  · rw [nextF_no hok] at h; cases h
  · rw [nextF_yes hok] at h
    obtain ⟨j, _, _, h3, _⟩ := firstI_some h
    rw [nextG_eq] at h3
    split at h3
    · rename_i hf
      exact ⟨rfl, _, hf, List.mem_of_find?_eq_some h3, by have := List.find?_some h3; simpa using this⟩
    · cases h3

theorem lastF_some {c : Cron} {a t : Int} (h : lastF c a = some t) : c.ok = true ∧ ∃ n, fitD c n = true ∧ t ∈ onL c n ∧ t ≤ a := by
  cases hok : c.ok
  · rw [lastF_no hok] at h; cases h
  · rw [lastF_yes hok] at h
    obtain ⟨j, _, _, h3, _⟩ := firstI_some h
    rw [lastG_eq] at h3
    split at h3
    · rename_i hf
      refine ⟨rfl, _, hf, ?_, by have := List.find?_some h3; simpa using this⟩
      have := List.mem_of_find?_eq_some h3
      simpa using this
    · cases h3

theorem ofD_of {n t : Int} (h0 : 0 ≤ n) (h1 : n ≤ 2932896) (h2 : n * 86400 ≤ t) (h3 : t ≤ n * 86400 + 86399) : ofD t = n := by
  unfold ofD; omega

/-- a time is found again, from itself back and from right ahead of it on -/
theorem time_last {c : Cron} (hok : c.ok = true) {n t : Int} (hf : fitD c n = true) (ht : t ∈ onL c n) : lastF c t = some t := by
  obtain ⟨n0, n1⟩ := fitD_day hf
  obtain ⟨t0, t1⟩ := onL_day hok ht
  have hn := ofD_of n0 n1 t0 (by omega)
  have g0 : lastG c t 0 = some t := by
    rw [lastG_eq, hn]
    have e : n - ((0 : Nat) : Int) = n := by simp
    rw [e, hf, if_pos rfl]
    refine find_first (R := fun a b => b < a) (List.pairwise_reverse.mpr (onL_rising hok n)) (by simpa using ht) (by simp) ?_
    intro x hx hr
    simpa using hr
  rw [lastF_yes hok]
  show firstI (lastG c t) (2922 + 1) 0 = some t
  unfold firstI
  rw [g0]

theorem time_next {c : Cron} (hok : c.ok = true) {n t : Int} (hf : fitD c n = true) (ht : t ∈ onL c n) : nextF c (t - 1) = some t := by
  obtain ⟨n0, n1⟩ := fitD_day hf
  obtain ⟨t0, t1⟩ := onL_day hok ht
  have hit : (onL c n).find? (fun x => decide (x > t - 1)) = some t := by
    refine find_first (R := (· < ·)) (onL_rising hok n) ht (by simp; omega) ?_
    intro x hx hr
    simp; omega
  rw [nextF_yes hok]
  show firstI (nextG c (t - 1)) (2921 + 1 + 1) 0 = some t
  by_cases hs : n * 86400 ≤ t - 1
  · have hn := ofD_of n0 n1 hs (by omega)
    have g0 : nextG c (t - 1) 0 = some t := by
      rw [nextG_eq, hn]
      have e : n + ((0 : Nat) : Int) = n := by simp
      rw [e, hf, if_pos rfl]
      exact hit
    unfold firstI
    rw [g0]
  · have e0 : t = n * 86400 := by omega
    by_cases hz : n = 0
    · have hn : ofD (t - 1) = n := by unfold ofD; omega
      have g0 : nextG c (t - 1) 0 = some t := by
        rw [nextG_eq, hn]
        have e : n + ((0 : Nat) : Int) = n := by simp
        rw [e, hf, if_pos rfl]
        exact hit
      unfold firstI
      rw [g0]
    · have hn : ofD (t - 1) = n - 1 := ofD_of (by omega) (by omega) (by omega) (by omega)
      have g0 : nextG c (t - 1) 0 = none := by
        rw [nextG_eq, hn]
        split
        · rw [List.find?_eq_none]
          intro x hx
          have := onL_day hok hx
          simp; omega
        · rfl
      have g1 : nextG c (t - 1) (0 + 1) = some t := by
        rw [nextG_eq, hn]
        have e : n - 1 + ((0 + 1 : Nat) : Int) = n := by simp
        rw [e, hf, if_pos rfl]
        exact hit
      unfold firstI
      rw [g0]
      show firstI (nextG c (t - 1)) (2921 + 1) (0 + 1) = some t
      unfold firstI
      rw [g1]
end Go.Proofs.YtjbpihalfaclkaaGreatDoor
/- The law's wakes: reckoned. -/
namespace Go.Proofs.YtjbpihalfaclkaaGreatDoor
open Go Go.B
set_option linter.unusedSimpArgs false
set_option linter.unusedVariables false
set_option linter.unusedSectionVars false
set_option maxRecDepth 20000

/-- the date of a number, to be reckoned -/
def datC (n : Int) : Int × Int × Int :=
  let N := n + 719468
  let a := min (N / 146097) 100
  let b := min ((N - a * 146097) / 36524) 3
  let c := min ((N - a * 146097 - b * 36524) / 1461) 24
  let d := min ((N - a * 146097 - b * 36524 - c * 1461) / 365) 3
  let Y := a * 400 + b * 100 + c * 4 + d
  let r := N - a * 146097 - b * 36524 - c * 1461 - d * 365
  let m := (5 * r + 2) / 153
  if 12 < m + 3 then (Y + 1, m - 9, r - Cal.mon m + 1) else (Y, m + 3, r - Cal.mon m + 1)

theorem dat_C {n : Int} (h : dayB n = true) : Cal.dat n = datC n := by
  obtain ⟨h0, h1⟩ := dayB_true h
  obtain ⟨a, ha⟩ : ∃ a, a = min ((n + 719468) / 146097) 100 := ⟨_, rfl⟩
  obtain ⟨b, hb⟩ : ∃ b, b = min ((n + 719468 - a * 146097) / 36524) 3 := ⟨_, rfl⟩
  obtain ⟨c, hc⟩ : ∃ c, c = min ((n + 719468 - a * 146097 - b * 36524) / 1461) 24 := ⟨_, rfl⟩
  obtain ⟨d, hd⟩ : ∃ d, d = min ((n + 719468 - a * 146097 - b * 36524 - c * 1461) / 365) 3 := ⟨_, rfl⟩
  obtain ⟨p1, p2, p3, p4⟩ := Cal.parts (n + 719468) a b c d (by omega) (by omega) ha hb hc hd
  unfold datC
  simp only
  rw [← ha, ← hb, ← hc, ← hd]
  clear ha hb hc hd
  generalize hY : a * 400 + b * 100 + c * 4 + d = Y at *
  have en : n = Cal.mby Y + (n + 719468 - a * 146097 - b * 36524 - c * 1461 - d * 365) - 719468 := by omega
  generalize hr : n + 719468 - a * 146097 - b * 36524 - c * 1461 - d * 365 = r at *
  have key := Cal.of_march Y r ((5 * r + 2) / 153) (by omega) (by omega) (by unfold Cal.mon; omega) (by unfold Cal.mon; omega) p3 p4 (by omega) (by omega)
  rw [← en] at key
  exact key

def fitDC (c : Cron) (n : Int) : Bool := dayB n && fitB c (datC n).2.1 (datC n).2.2 ((n + 4) % 7)

theorem fitD_C (c : Cron) (n : Int) : fitD c n = fitDC c n := by
  unfold fitD fitDC
  cases h : dayB n
  · rfl
  · rw [dat_C h]

def nextGC (c : Cron) (a : Int) (i : Nat) : Option Int := if fitDC c (ofD a + i) then firstT (fun t => decide (t > a)) (bitsL c.ho) (bitsL c.mi) (ofD a + i) else none

def lastGC (c : Cron) (a : Int) (i : Nat) : Option Int := if fitDC c (ofD a - i) then firstT (fun t => decide (t ≤ a)) (bitsL c.ho).reverse (bitsL c.mi).reverse (ofD a - i) else none

def nextFC (c : Cron) (a : Int) : Option Int := if c.ok then firstI (nextGC c a) 2923 0 else none

def lastFC (c : Cron) (a : Int) : Option Int := if c.ok then firstI (lastGC c a) 2923 0 else none

theorem nextF_C (c : Cron) (a : Int) : nextF c a = nextFC c a := by
  have e : nextG c a = nextGC c a := by funext i; unfold nextG nextGC; rw [fitD_C]
  unfold nextF nextFC; rw [e]

theorem lastF_C (c : Cron) (a : Int) : lastF c a = lastFC c a := by
  have e : lastG c a = lastGC c a := by funext i; unfold lastG lastGC; rw [fitD_C]
  unfold lastF lastFC; rw [e]
end Go.Proofs.YtjbpihalfaclkaaGreatDoor
