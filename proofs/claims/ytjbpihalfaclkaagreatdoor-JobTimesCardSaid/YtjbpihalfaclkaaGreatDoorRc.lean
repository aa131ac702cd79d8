import Derived.Test.YtjbpihalfaclkaaGreatDoorRb
/- The reference: which days fit, and whether ever. -/
namespace Go.Proofs.YtjbpihalfaclkaaGreatDoor
open Go Go.B
set_option linter.unusedSimpArgs false
set_option linter.unusedVariables false
set_option linter.unusedSectionVars false
set_option maxRecDepth 20000

theorem dat_year {n : Int} (h0 : 0 ≤ n) (h1 : n ≤ 2932896) : 0 ≤ (Cal.dat n).1 := by
  obtain ⟨o3, _⟩ := Cal.dat_ok n h0 h1
  obtain ⟨y1, _⟩ := Cal.okd_iff.mp o3
  omega

/-- the days that fit, of so many from one on -/
noncomputable def fitL (c : Cron) (lo : Int) : Nat → List Int
  | 0 => []
  | j + 1 => if fitD c (lo + j) then fitL c lo j ++ [lo + j] else fitL c lo j

theorem fitL_succ (c : Cron) (lo : Int) (j : Nat) : fitL c lo (j + 1) = if fitD c (lo + j) then fitL c lo j ++ [lo + j] else fitL c lo j := rfl

theorem fitL_len (c : Cron) (lo : Int) : ∀ j, (fitL c lo j).length ≤ j
  | 0 => Nat.le_refl _
  | j + 1 => by
    have := fitL_len c lo j
    unfold fitL
    split <;> simp <;> omega

theorem rFit_fn {c : Cron} (hc : c.in) (hok : c.ok = true) {lo : Int} {n : Nat} (h0 : 0 ≤ lo) (hn : 1 ≤ n) (hn2 : n ≤ 2923) (h1 : lo + n ≤ 2932897) : curfewref08_Fit_R c.mi c.ho c.da c.mo c.we lo (lo + n - 1) (fitL c lo n) := by
  have key : ∀ (r i : Nat), i + r = n → ∀ (y m d : Int), 0 ≤ y → (lo + i ≤ 2932896 → (y, m, d) = Cal.dat (lo + i)) →
      ∃ k, curfewref08_Fit_l0 k (fitL c lo i, c.mi, c.ho, c.da, c.mo, c.we, y, m, d, lo + n - 1, lo + (i : Int)) (fitL c lo n) := by
    intro r
    induction r with
    | zero =>
      intro i hi y m d _ _
      have e : i = n := by omega
      subst e
      exact ⟨1, br_no (no_of (by omega)) rfl⟩
    | succ r ih =>
      intro i hi y m d hy hdat
      have hlast : lo + (i : Int) ≤ 2932896 := by omega
      have hdat := hdat hlast
      have d0 : 0 ≤ lo + (i : Int) := by omega
      obtain ⟨z, hz, hz2⟩ : ∃ z, curfewref08_behind_R y m d z ∧ (0 ≤ z.1 ∧ (lo + ((i + 1 : Nat) : Int) ≤ 2932896 → z = Cal.dat (lo + ((i + 1 : Nat) : Int)))) := by
        by_cases hn : lo + (i : Int) < 2932896
        · have hb := dat_behind d0 hn
          rw [← hdat] at hb
          have e : lo + (i : Int) + 1 = lo + ((i + 1 : Nat) : Int) := by omega
          rw [e] at hb
          exact ⟨_, hb, dat_year (by omega) (by omega), fun _ => rfl⟩
        · have en : lo + (i : Int) = 2932896 := by omega
          rw [en] at hdat
          have e : Cal.dat 2932896 = (9999, 12, 31) := by rw [dat_C (by decide)]; decide
          rw [e] at hdat
          cases hdat
          exact ⟨(10000, 1, 1), ⟨_, rLong_fn (by omega), br_yes (by decide) (br_yes (by decide) (by decide))⟩, by decide, fun h => by omega⟩
      obtain ⟨k, hk⟩ := ih (i + 1) (by omega) z.1 z.2.1 z.2.2 hz2.1 hz2.2
      have hfit := rfits_fn hc hok (y := y) (m := m) (d := d) d0
      have ef : fitB c m d ((lo + (i : Int) + 4) % 7) = fitD c (lo + (i : Int)) := by
        unfold fitD
        rw [← hdat, show dayB (lo + (i : Int)) = true by simp [dayB]; omega]; rfl
      rw [ef] at hfit
      have enext : IntKind.wrap .i64 (lo + (i : Int) + 1) = lo + ((i + 1 : Nat) : Int) := by rw [wi (by omega) (by omega)]; omega
      have fl := fitL_len c lo i
      rw [fitL_succ] at hk
      cases hf : fitD c (lo + (i : Int))
      · rw [hf] at hfit hk
        refine ⟨k + 1, br_yes (yes_of (by omega)) ⟨_, hfit, br_no rfl ⟨_, hz, ?_⟩⟩⟩
        show curfewref08_Fit_l0 k (_, _, _, _, _, _, _, _, _, _, IntKind.wrap .i64 (lo + (i : Int) + 1)) _
        rw [enext]; simpa using hk
      · rw [hf] at hfit hk
        refine ⟨k + 1, br_yes (yes_of (by omega)) ⟨_, hfit, br_yes rfl ⟨nl_ok (by simp; omega), _, hz, ?_⟩⟩⟩
        show curfewref08_Fit_l0 k (_, _, _, _, _, _, _, _, _, _, IntKind.wrap .i64 (lo + (i : Int) + 1)) _
        rw [enext]; simpa using hk
  obtain ⟨k, hk⟩ := key n 0 (by omega) (Cal.dat lo).1 (Cal.dat lo).2.1 (Cal.dat lo).2.2 (dat_year h0 (by omega)) (fun _ => by simp)
  simp only [Int.natCast_zero, Int.add_zero] at hk
  exact ⟨_, rAt_fn h0 (by omega), _, ⟨k, hk⟩, rfl⟩

theorem fitL_mem {c : Cron} {lo n : Int} : ∀ {j : Nat}, n ∈ fitL c lo j → fitD c n = true ∧ ∃ i : Nat, i < j ∧ n = lo + i
  | 0, h => by simp [fitL] at h
  | j + 1, h => by
    unfold fitL at h
    cases hf : fitD c (lo + (j : Int)) <;> rw [hf] at h
    · obtain ⟨h1, i, h2, h3⟩ := fitL_mem (c := c) (lo := lo) (j := j) (by simpa using h)
      exact ⟨h1, i, by omega, h3⟩
    · simp only [if_true] at h
      rcases List.mem_append.mp h with h | h
      · obtain ⟨h1, i, h2, h3⟩ := fitL_mem h
        exact ⟨h1, i, by omega, h3⟩
      · simp at h; subst h; exact ⟨hf, j, by omega, rfl⟩

theorem fitL_has {c : Cron} {lo : Int} {i : Nat} : ∀ {j : Nat}, i < j → fitD c (lo + i) = true → lo + (i : Int) ∈ fitL c lo j
  | 0, h, _ => absurd h (Nat.not_lt_zero _)
  | j + 1, h, hf => by
    unfold fitL
    rcases Nat.lt_or_ge i j with k | k
    · have := fitL_has k hf
      split
      · exact List.mem_append_left _ this
      · exact this
    · have e : i = j := by omega
      subst e
      rw [hf]; simp

theorem rEver_fn {c : Cron} (hc : c.in) (hok : c.ok = true) : curfewref08_Ever_R c.mi c.ho c.da c.mo c.we (decide (0 < (fitL c 0 2923).length)) := by
  have hf := rFit_fn hc hok (lo := 0) (n := 2923) (by omega) (by omega) (by omega) (by omega)
  exact ⟨_, hf, by rw [Bool.eq_iff_iff, decide_eq_true_iff, decide_eq_true_iff]; omega⟩

theorem ever_fitL {c : Cron} (hok : c.ok = true) : (decide (0 < (fitL c 0 2923).length) = true) ↔ fitsC c := by
  rw [decide_eq_true_iff]
  constructor
  · intro h
    obtain ⟨x, hx⟩ := List.exists_mem_of_length_pos h
    exact ⟨hok, x, (fitL_mem hx).1⟩
  · rintro ⟨_, n, hn⟩
    obtain ⟨n', k1, k2, k3⟩ := recur hn (n0 := 0) (by omega) (by omega)
    have := fitL_has (c := c) (lo := 0) (i := n'.toNat) (j := 2923) (by omega) (by rw [show (0 : Int) + (n'.toNat : Nat) = n' from by omega]; exact k1)
    exact List.length_pos_of_mem this
end Go.Proofs.YtjbpihalfaclkaaGreatDoor
/- The reference: next, last, ever, some. -/
namespace Go.Proofs.YtjbpihalfaclkaaGreatDoor
open Go Go.B
set_option linter.unusedSimpArgs false
set_option linter.unusedVariables false
set_option linter.unusedSectionVars false
set_option maxRecDepth 20000

theorem rNext_day {l : List Int} {c0 c1 c2 c3 c4 y m d a x1 x2 : Int} (hl : l.length ≤ 100000) : ∀ (r i : Nat), i + r = l.length →
    ∃ k, curfewref08_Next_l0 k (l, c0, c1, c2, c3, c4, y, m, d, a, x1, x2, (l.length : Int), (i : Int)) (ans ((l.drop i).find? fun t => decide (t > a))) := by
  intro r
  induction r with
  | zero =>
    intro i hi
    refine ⟨1, br_no (ilt_no (by omega)) ?_⟩
    rw [show l.drop i = [] from List.drop_eq_nil_of_le (by omega)]; rfl
  | succ r ih =>
    intro i hi
    obtain ⟨k, hk⟩ := ih (i + 1) (by omega)
    have hlt : i < l.length := by omega
    refine ⟨k + 1, br_yes (yes_of (by omega)) ⟨ix_ok hlt, ⟨blt_ok hlt, ?_⟩⟩⟩
    rw [drop_cons hlt, List.find?_cons]
    show br (decide (l.getD i 0 > a)) _ (curfewref08_Next_l0 k (l, c0, c1, c2, c3, c4, y, m, d, a, x1, x2, (l.length : Int), IntKind.wrap .i64 ((i : Int) + 1)) _)
    rw [wi_succ (n := i) (by omega)]
    cases hd : decide (l.getD i 0 > a)
    · exact br_no rfl hk
    · exact br_yes rfl rfl

theorem onL_len (c : Cron) (n : Int) : (onL c n).length ≤ 100000 := by
  have := onL_take c n (bitsL c.ho)
  have := bitsL_len c.ho
  unfold onL; omega

theorem nextG_far {c : Cron} {a : Int} {i : Nat} (h : 2932896 < ofD a + i) : nextG c a i = none := by
  unfold nextG
  cases hf : fitD c (ofD a + i)
  · rfl
  · have := fitD_day hf; omega

theorem firstI_nil {g : Nat → Option Int} : ∀ {r i : Nat}, (∀ k, i ≤ k → g k = none) → firstI g r i = none
  | 0, _, _ => rfl
  | r + 1, i, h => by
    unfold firstI
    rw [h i (Nat.le_refl _)]
    exact firstI_nil fun k hk => h k (by omega)

theorem rNext_days {c : Cron} (hc : c.in) (hok : c.ok = true) {a : Int} : ∀ (r i : Nat), i + r = 2923 → ∀ (y m d : Int), 0 ≤ y → (ofD a + i ≤ 2932896 → (y, m, d) = Cal.dat (ofD a + i)) →
    ∃ k z, curfewref08_Next_l1 k (c.mi, c.ho, c.da, c.mo, c.we, y, m, d, a, ofD a, ofD a + (i : Int)) z ∧ (match firstI (nextG c a) r i with | some t => z = .inl t | none => z = .inr ()) := by
  have hd := dayB_true (ofD_day a)
  have hlim : (if 2932896 < (IntKind.wrap .i64 (ofD a + 2922)) then (2932896 : Int) else (IntKind.wrap .i64 (ofD a + 2922))) = min (ofD a + 2922) 2932896 := by
    rw [wi (x := ofD a + 2922) (by omega) (by omega)]; split <;> omega
  have stop : ∀ (i : Nat) (y m d : Int) (q : Bool), decide (ofD a + (i : Int) ≤ min (ofD a + 2922) 2932896) = false → curfewref08_Next_l1 1 (c.mi, c.ho, c.da, c.mo, c.we, y, m, d, a, ofD a, ofD a + (i : Int)) (.inr ()) := fun i y m d q h => by
    refine br_no ?_ rfl
    rw [hlim]; exact h
  intro r
  induction r with
  | zero =>
    intro i hi y m d _ _
    exact ⟨1, _, stop i y m d true (no_of (by omega)), rfl⟩
  | succ r ih =>
    intro i hi y m d hy hdat
    by_cases hlast : ofD a + (i : Int) ≤ 2932896
    · have hdat := hdat hlast
      have d0 : 0 ≤ ofD a + (i : Int) := by omega
      obtain ⟨o1, o2⟩ := Cal.dat_ok _ d0 hlast
      rw [← hdat] at o1 o2
      obtain ⟨z, hz, hz2⟩ : ∃ z, curfewref08_behind_R y m d z ∧ (0 ≤ z.1 ∧ (ofD a + ((i + 1 : Nat) : Int) ≤ 2932896 → z = Cal.dat (ofD a + ((i + 1 : Nat) : Int)))) := by
        by_cases hn : ofD a + (i : Int) < 2932896
        · have hb := dat_behind d0 hn
          rw [← hdat] at hb
          have e : ofD a + (i : Int) + 1 = ofD a + ((i + 1 : Nat) : Int) := by omega
          rw [e] at hb
          obtain ⟨o3, _⟩ := Cal.dat_ok (ofD a + ((i + 1 : Nat) : Int)) (by omega) (by omega)
          obtain ⟨y1, _⟩ := Cal.okd_iff.mp o3
          exact ⟨_, hb, by omega, fun _ => rfl⟩
        · -- the last day
          have en : ofD a + (i : Int) = 2932896 := by omega
          rw [en] at hdat
          have e : Cal.dat 2932896 = (9999, 12, 31) := by rw [dat_C (by decide)]; decide
          rw [e] at hdat
          cases hdat
          exact ⟨(10000, 1, 1), ⟨_, rLong_fn (by omega), br_yes (by decide) (br_yes (by decide) (by decide))⟩, by decide, fun h => by omega⟩
      obtain ⟨k, w, hk, hw⟩ := ih (i + 1) (by omega) z.1 z.2.1 z.2.2 hz2.1 hz2.2
      have hyes : decide (ofD a + (i : Int) ≤ (if 2932896 < (IntKind.wrap .i64 (ofD a + 2922)) then (2932896 : Int) else (IntKind.wrap .i64 (ofD a + 2922)))) = true := by rw [hlim]; exact yes_of (by omega)
      have hfit := rfits_fn hc hok (y := y) (m := m) (d := d) d0
      have ef : fitB c m d ((ofD a + (i : Int) + 4) % 7) = fitD c (ofD a + (i : Int)) := by
        unfold fitD
        rw [← hdat, show dayB (ofD a + (i : Int)) = true by simp [dayB]; omega]; rfl
      rw [ef] at hfit
      have enext : IntKind.wrap .i64 (ofD a + (i : Int) + 1) = ofD a + ((i + 1 : Nat) : Int) := by rw [wi (by omega) (by omega)]; omega
      unfold firstI
      rw [nextG_eq]
      have go : ∃ y12 : Int × Int × Int, (curfewref08_behind_R y m d y12) ∧ (curfewref08_Next_l1 k (c.mi, c.ho, c.da, c.mo, c.we, y12.1, y12.2.1, y12.2.2, a, ofD a, IntKind.wrap .i64 (ofD a + (i : Int) + 1)) w) := ⟨_, hz, by rw [enext]; exact hk⟩
      cases hf : fitD c (ofD a + (i : Int))
      · rw [hf] at hfit
        exact ⟨k + 1, w, br_yes hyes ⟨_, hfit, br_no rfl go⟩, hw⟩
      · rw [hf] at hfit
        obtain ⟨k0, hk0⟩ := rNext_day (l := onL c (ofD a + (i : Int))) (c0 := c.mi) (c1 := c.ho) (c2 := c.da) (c3 := c.mo) (c4 := c.we) (y := y) (m := m) (d := d) (a := a) (x1 := ofD a) (x2 := ofD a + (i : Int)) (onL_len _ _) (onL c (ofD a + (i : Int))).length 0 (by omega)
        rw [List.drop_zero] at hk0
        simp only [if_true]
        cases ht : (onL c (ofD a + (i : Int))).find? (fun t => decide (t > a)) with
        | none =>
          rw [ht] at hk0
          exact ⟨k + 1, w, br_yes hyes ⟨_, hfit, br_yes rfl ⟨_, rOn_fn hc d0 hlast, _, ⟨_, hk0⟩, go⟩⟩, hw⟩
        | some t =>
          rw [ht] at hk0
          exact ⟨k + 1, .inl t, br_yes hyes ⟨_, hfit, br_yes rfl ⟨_, rOn_fn hc d0 hlast, _, ⟨_, hk0⟩, rfl⟩⟩, rfl⟩
    · refine ⟨1, _, stop i y m d true (no_of (by omega)), ?_⟩
      rw [firstI_nil fun k hk => nextG_far (by omega)]

theorem rNext_fn {c : Cron} (hc : c.in) (hok : c.ok = true) (a : Int) : curfewref08_Next_R c.mi c.ho c.da c.mo c.we a (ansB (nextF c a)) := by
  obtain ⟨d0, d1⟩ := dayB_true (ofD_day a)
  obtain ⟨k, z, hk, hz⟩ := rNext_days hc hok (a := a) 2923 0 (by omega) (Cal.dat (ofD a)).1 (Cal.dat (ofD a)).2.1 (Cal.dat (ofD a)).2.2 (dat_year d0 d1) (fun _ => by simp)
  simp only [Int.natCast_zero, Int.add_zero] at hk
  refine ⟨_, rDay_fn a, _, rAt_fn d0 d1, _, ⟨k, hk⟩, ?_⟩
  rw [nextF_yes hok]
  cases hf : firstI (nextG c a) 2923 0 with
  | none => rw [hf] at hz; subst hz; rfl
  | some t => rw [hf] at hz; subst hz; rfl

theorem rLast_day {l l' : List Int} {c0 c1 c2 c3 c4 a x1 x2 : Int} (hl : l.length ≤ 100000) : ∀ (i : Nat), i ≤ l.length →
    ∃ k, curfewref08_Last_l0 k (l', l, c0, c1, c2, c3, c4, a, x1, (i : Int) - 1, x2) (ans ((l.take i).reverse.find? fun t => decide (t ≤ a))) := by
  intro i
  induction i with
  | zero => exact fun _ => ⟨1, br_no (by decide) rfl⟩
  | succ i ih =>
    intro hi
    obtain ⟨k, hk⟩ := ih (by omega)
    have hlt : i < l.length := by omega
    have ei : ((i + 1 : Nat) : Int) - 1 = (i : Int) := by omega
    rw [ei]
    have e0 : l.take (i + 1) = l.take i ++ [l.getD i 0] := by
      rw [List.take_add_one, List.getD_eq_getElem?_getD, List.getElem?_eq_getElem hlt]; rfl
    rw [e0, List.reverse_append, List.reverse_singleton, List.singleton_append, List.find?_cons]
    refine ⟨k + 1, br_yes (yes_of (by omega)) ⟨ix_ok hlt, ⟨blt_ok hlt, ?_⟩⟩⟩
    show br (decide (l.getD i 0 ≤ a)) _ (curfewref08_Last_l0 k (l', l, c0, c1, c2, c3, c4, a, x1, IntKind.wrap .i64 ((i : Int) - 1), x2) _)
    rw [wi (x := (i : Int) - 1) (by omega) (by omega)]
    cases hd : decide (l.getD i 0 ≤ a)
    · exact br_no rfl hk
    · exact br_yes rfl ⟨ix_ok hlt, ⟨blt_ok hlt, rfl⟩⟩

/-- the last time up to one, of days -/
noncomputable def lastD (c : Cron) (a : Int) (l : List Int) : Option Int := l.findSome? fun n => (onL c n).reverse.find? fun t => decide (t ≤ a)

theorem rLast_days {c : Cron} (hc : c.in) {a : Int} {l : List Int} (hl : l.length ≤ 100000) (hd : ∀ n ∈ l, 0 ≤ n ∧ n ≤ 2932896) : ∀ (i : Nat), i ≤ l.length →
    ∃ k, curfewref08_Last_l1 k (l, c.mi, c.ho, c.da, c.mo, c.we, a, (i : Int) - 1) (ans (lastD c a (l.take i).reverse)) := by
  intro i
  induction i with
  | zero => exact fun _ => ⟨1, br_no (by decide) rfl⟩
  | succ i ih =>
    intro hi
    obtain ⟨k, hk⟩ := ih (by omega)
    have hlt : i < l.length := by omega
    have ei : ((i + 1 : Nat) : Int) - 1 = (i : Int) := by omega
    rw [ei]
    have e0 : l.take (i + 1) = l.take i ++ [l.getD i 0] := by
      rw [List.take_add_one, List.getD_eq_getElem?_getD, List.getElem?_eq_getElem hlt]; rfl
    rw [e0, List.reverse_append, List.reverse_singleton, List.singleton_append]
    unfold lastD
    rw [List.findSome?_cons]
    obtain ⟨n0, n1⟩ := hd _ (getD_mem hlt)
    obtain ⟨k0, hk0⟩ := rLast_day (l := onL c (l.getD i 0)) (l' := l) (c0 := c.mi) (c1 := c.ho) (c2 := c.da) (c3 := c.mo) (c4 := c.we) (a := a) (x1 := i) (x2 := l.getD i 0) (onL_len _ _) (onL c (l.getD i 0)).length (Nat.le_refl _)
    rw [List.take_length] at hk0
    have ol := onL_len c (l.getD i 0)
    rw [← wi (x := (((onL c (l.getD i 0)).length : Nat) : Int) - 1) (by omega) (by omega)] at hk0
    refine ⟨k + 1, br_yes (yes_of (by omega)) ⟨ix_ok hlt, ⟨blt_ok hlt, _, rOn_fn hc n0 n1, _, ⟨_, hk0⟩, ?_⟩⟩⟩
    cases ht : (onL c (l.getD i 0)).reverse.find? (fun t => decide (t ≤ a)) with
    | none =>
      show curfewref08_Last_l1 k (l, c.mi, c.ho, c.da, c.mo, c.we, a, IntKind.wrap .i64 ((i : Int) - 1)) _
      rw [wi (x := (i : Int) - 1) (by omega) (by omega)]
      exact hk
    | some t => rfl

theorem firstI_shift {g : Nat → Option Int} : ∀ {r i : Nat}, firstI g r (i + 1) = firstI (fun k => g (k + 1)) r i
  | 0, _ => rfl
  | r + 1, i => by
    unfold firstI
    cases g (i + 1)
    · exact firstI_shift
    · rfl

theorem lastD_fit (c : Cron) (a lo : Int) : ∀ j : Nat, lastD c a (fitL c lo j).reverse = firstI (fun i => if fitD c (lo + (j : Int) - 1 - i) then (onL c (lo + (j : Int) - 1 - i)).reverse.find? (fun t => decide (t ≤ a)) else none) j 0
  | 0 => rfl
  | j + 1 => by
    have ih := lastD_fit c a lo j
    have e0 : lo + ((j + 1 : Nat) : Int) - 1 - ((0 : Nat) : Int) = lo + j := by omega
    unfold firstI
    rw [e0, firstI_shift]
    have ef : (fun k : Nat => if fitD c (lo + ((j + 1 : Nat) : Int) - 1 - ((k + 1 : Nat) : Int)) then (onL c (lo + ((j + 1 : Nat) : Int) - 1 - ((k + 1 : Nat) : Int))).reverse.find? (fun t => decide (t ≤ a)) else none) = fun k : Nat => if fitD c (lo + (j : Int) - 1 - k) then (onL c (lo + (j : Int) - 1 - k)).reverse.find? (fun t => decide (t ≤ a)) else none := by
      funext k
      rw [show lo + ((j + 1 : Nat) : Int) - 1 - ((k + 1 : Nat) : Int) = lo + (j : Int) - 1 - k from by omega]
    rw [ef, ← ih]
    rw [fitL_succ]
    cases fitD c (lo + (j : Int))
    · rfl
    · simp only [if_true]
      rw [List.reverse_append, List.reverse_singleton, List.singleton_append]
      unfold lastD
      rw [List.findSome?_cons]
      cases List.find? (fun t => decide (t ≤ a)) (onL c (lo + (j : Int))).reverse <;> rfl

theorem firstI_more {g : Nat → Option Int} {r s : Nat} : ∀ {i : Nat}, (∀ k, i + r ≤ k → k < i + r + s → g k = none) → firstI g (r + s) i = firstI g r i := by
  induction r with
  | zero =>
    intro i h
    rw [Nat.zero_add]
    show firstI g s i = none
    induction s generalizing i with
    | zero => rfl
    | succ s ih =>
      unfold firstI
      rw [h i (by omega) (by omega)]
      exact ih fun k h1 h2 => h k (by omega) (by omega)
  | succ r ih =>
    intro i h
    rw [show r + 1 + s = (r + s) + 1 from by omega]
    unfold firstI
    cases g i
    · exact ih fun k hk hk2 => h k (by omega) (by omega)
    · rfl

theorem rLast_fn {c : Cron} (hc : c.in) (hok : c.ok = true) (a : Int) : curfewref08_Last_R c.mi c.ho c.da c.mo c.we a (ansB (lastF c a)) := by
  obtain ⟨d0, d1⟩ := dayB_true (ofD_day a)
  refine ⟨_, rDay_fn a, ?_⟩
  have e1 : (if 0 > (IntKind.wrap .i64 (ofD a - 2922)) then (0 : Int) else (IntKind.wrap .i64 (ofD a - 2922))) = max (ofD a - 2922) 0 := by
    rw [wi (x := ofD a - 2922) (by omega) (by omega)]; split <;> omega
  rw [e1]
  obtain ⟨n, hn⟩ : ∃ n : Nat, (n : Int) = ofD a - max (ofD a - 2922) 0 + 1 := ⟨(ofD a - max (ofD a - 2922) 0 + 1).toNat, by omega⟩
  generalize hlo : max (ofD a - 2922) 0 = lo at *
  have hf := rFit_fn hc hok (lo := lo) (n := n) (by omega) (by omega) (by omega) (by omega)
  rw [show lo + (n : Int) - 1 = ofD a from by omega] at hf
  have fl := fitL_len c lo n
  obtain ⟨k, hk⟩ := rLast_days hc (a := a) (l := fitL c lo n) (by omega) (fun x hx => fitD_day (fitL_mem hx).1) (fitL c lo n).length (Nat.le_refl _)
  rw [List.take_length, ← wi (x := (((fitL c lo n).length : Nat) : Int) - 1) (by omega) (by omega)] at hk
  refine ⟨_, hf, _, ⟨k, hk⟩, ?_⟩
  have eq : lastD c a (fitL c lo n).reverse = lastF c a := by
    rw [lastF_yes hok, lastD_fit]
    have eg : (fun i : Nat => if fitD c (lo + (n : Int) - 1 - i) then (onL c (lo + (n : Int) - 1 - i)).reverse.find? (fun t => decide (t ≤ a)) else none) = lastG c a := by
      funext i
      rw [lastG_eq, show lo + (n : Int) - 1 - (i : Int) = ofD a - i from by omega]
    rw [eg, show 2923 = n + (2923 - n) from by omega]
    symm
    refine firstI_more fun i hi hi2 => ?_
    rw [lastG_eq]
    cases hx : fitD c (ofD a - i)
    · rfl
    · have := fitD_day hx
      by_cases hl : lo = 0
      · omega
      · exfalso
        have : n = 2923 := by omega
        omega
  rw [eq]
  cases lastF c a <;> rfl
end Go.Proofs.YtjbpihalfaclkaaGreatDoor
