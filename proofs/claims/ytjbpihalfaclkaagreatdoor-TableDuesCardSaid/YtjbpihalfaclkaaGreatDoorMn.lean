import Derived.Test.YtjbpihalfaclkaaGreatDoorMl
/- Who ever matches does so within each horizon. -/
namespace Go.Proofs.YtjbpihalfaclkaaGreatDoor
open Go Go.B
set_option linter.unusedSimpArgs false
set_option linter.unusedVariables false
set_option linter.unusedSectionVars false
set_option maxRecDepth 20000

theorem lp_some (y : Int) : ∃ u, y ≤ u ∧ u ≤ y + 7 ∧ Cal.lp u = 1 ∧ Cal.dby u = Cal.dby y + 365 * (u - y) := by
  have s0 := Cal.dby_succ y
  have s1 := Cal.dby_succ (y + 1)
  have s2 := Cal.dby_succ (y + 1 + 1)
  have s3 := Cal.dby_succ (y + 1 + 1 + 1)
  have s4 := Cal.dby_succ (y + 1 + 1 + 1 + 1)
  have s5 := Cal.dby_succ (y + 1 + 1 + 1 + 1 + 1)
  have s6 := Cal.dby_succ (y + 1 + 1 + 1 + 1 + 1 + 1)
  have b : ∀ z, Cal.lp z = 0 ∨ Cal.lp z = 1 := fun z => by have := Cal.lp_01 z; omega
  rcases b y with h0 | h0
  · rcases b (y + 1) with h1 | h1
    · rcases b (y + 1 + 1) with h2 | h2
      · rcases b (y + 1 + 1 + 1) with h3 | h3
        · rcases b (y + 1 + 1 + 1 + 1) with h4 | h4
          · rcases b (y + 1 + 1 + 1 + 1 + 1) with h5 | h5
            · rcases b (y + 1 + 1 + 1 + 1 + 1 + 1) with h6 | h6
              · refine ⟨y + 7, by omega, by omega, ?_, ?_⟩
                · have n : ∀ z, Cal.lp z = 0 → ¬ (z % 4 = 0 ∧ z % 100 ≠ 0) := fun z h => by unfold Cal.lp at h; split at h <;> omega
                  have k0 := n _ h0
                  have k1 := n _ h1
                  have k2 := n _ h2
                  have k3 := n _ h3
                  have k4 := n _ h4
                  have k5 := n _ h5
                  have k6 := n _ h6
                  unfold Cal.lp
                  rw [if_pos (by omega)]
                · rw [show y + 7 = y + 1 + 1 + 1 + 1 + 1 + 1 + 1 from by omega]; omega
              · exact ⟨_, by omega, by omega, h6, by omega⟩
            · exact ⟨_, by omega, by omega, h5, by omega⟩
          · exact ⟨_, by omega, by omega, h4, by omega⟩
        · exact ⟨_, by omega, by omega, h3, by omega⟩
      · exact ⟨_, by omega, by omega, h2, by omega⟩
    · exact ⟨_, by omega, by omega, h1, by omega⟩
  · exact ⟨y, by omega, by omega, h0, by omega⟩

theorem long_feb (y m : Int) (h1 : 1 ≤ m) (h2 : m ≤ 12) (hm : m ≠ 2) (z : Int) : Cal.long y m = Cal.long z m := by
  unfold Cal.long
  rcases Cal.m12 h1 h2 with rfl | rfl | rfl | rfl | rfl | rfl | rfl | rfl | rfl | rfl | rfl | rfl <;> simp at hm ⊢

theorem long_2 (y : Int) : Cal.long y 2 = 28 + Cal.lp y := by unfold Cal.long; simp

theorem cum_2 (y : Int) : Cal.cum y 2 = 31 := by unfold Cal.cum; simp

/-- the year of a day, and its bounds -/
theorem day_year {n : Int} (h0 : 0 ≤ n) (h1 : n ≤ 2932896 - 2922) : ∃ y, 1970 ≤ y ∧ y ≤ 9991 ∧ Cal.dby y ≤ n + 719528 ∧ n + 719528 < Cal.dby (y + 1) := by
  obtain ⟨o1, o2⟩ := Cal.dat_ok n h0 (by omega)
  obtain ⟨q1, q2⟩ := Cal.num_year o1
  obtain ⟨y1, y2, _⟩ := Cal.okd_iff.mp o1
  rw [o2] at q1 q2
  generalize (Cal.dat n).1 = y at *
  have s := Cal.dby_succ y
  refine ⟨y, y1, ?_, q1, by omega⟩
  rcases Int.lt_or_le 9991 y with k | k
  · have := Cal.dby_mono 9992 y (by omega)
    have e : Cal.dby 9992 = 3649503 := by decide
    omega
  · exact k

theorem recur_md {y m d : Int} (h : Cal.okd y m d = true) {n0 : Int} (h0 : 0 ≤ n0) (h1 : n0 ≤ 2932896 - 2922) : ∃ u, Cal.okd u m d = true ∧ n0 < Cal.num u m d ∧ Cal.num u m d ≤ n0 + 2921 := by
  obtain ⟨m1, m2⟩ := Cal.okd_month h
  obtain ⟨_, _, d1, d2⟩ := Cal.okd_iff.mp h
  obtain ⟨z, z1, z2, z3, z4⟩ := day_year h0 h1
  have lb := Cal.long_bd y m
  by_cases hf : m = 2 ∧ d = 29
  · obtain ⟨rfl, rfl⟩ := hf
    have step : ∀ v, 1970 ≤ v → v ≤ 9992 → n0 < Cal.dby v + 59 - 719528 → Cal.dby (v - 1) + 59 - 719528 ≤ n0 → ∃ u, Cal.okd u 2 29 = true ∧ n0 < Cal.num u 2 29 ∧ Cal.num u 2 29 ≤ n0 + 2921 := by
      intro v v1 v2 v3 v4
      obtain ⟨u, u1, u2, u3, u4⟩ := lp_some v
      have s := Cal.dby_succ (v - 1)
      have l := Cal.lp_01 (v - 1)
      rw [show v - 1 + 1 = v from by omega] at s
      refine ⟨u, Cal.okd_iff.mpr ⟨by omega, by omega, by omega, by rw [long_2]; omega⟩, ?_, ?_⟩ <;> unfold Cal.num <;> rw [cum_2] <;> omega
    rcases Int.lt_or_le n0 (Cal.dby z + 59 - 719528) with k | k
    · have s := Cal.dby_succ (z - 1)
      have l := Cal.lp_01 (z - 1)
      rw [show z - 1 + 1 = z from by omega] at s
      exact step z z1 (by omega) k (by omega)
    · refine step (z + 1) (by omega) (by omega) (by omega) ?_
      rw [show z + 1 - 1 = z from by omega]; exact k
  · have lg : ∀ u, d ≤ Cal.long u m := fun u => by
      by_cases hm : m = 2
      · subst hm
        rw [long_2] at d2 ⊢
        have l := Cal.lp_01 u
        have l' := Cal.lp_01 y
        omega
      · rw [long_feb u m m1 m2 hm y]; exact d2
    have ok : ∀ u, 1970 ≤ u → u ≤ 9999 → Cal.okd u m d = true := fun u u1 u2 => Cal.okd_iff.mpr ⟨u1, u2, d1, lg u⟩
    have s := Cal.dby_succ z
    have l := Cal.lp_01 z
    have o1 := ok z z1 (by omega)
    have o2 := ok (z + 1) (by omega) (by omega)
    obtain ⟨p1, p2⟩ := Cal.num_year o1
    obtain ⟨p3, p4⟩ := Cal.num_year o2
    have l2 := Cal.lp_01 (z + 1)
    rcases Int.lt_or_le n0 (Cal.num z m d) with k | k
    · exact ⟨z, o1, k, by omega⟩
    · exact ⟨z + 1, o2, by omega, by omega⟩

theorem has_whole_day {d : Int} (h1 : 1 ≤ d) (h2 : d ≤ 31) : hasB 4294967294 d = true := by
  have key : ∀ k : Fin 32, 1 ≤ k.val → hasB 4294967294 (k.val : Int) = true := by decide
  have := key ⟨d.toNat, by omega⟩ (by simp; omega)
  rw [show ((d.toNat : Nat) : Int) = d from by omega] at this
  exact this

theorem has_whole_we {w : Int} (h1 : 0 ≤ w) (h2 : w ≤ 6) : hasB 127 w = true := by
  have key : ∀ k : Fin 7, hasB 127 (k.val : Int) = true := by decide
  have := key ⟨w.toNat, by omega⟩
  simp only at this
  rw [show ((w.toNat : Nat) : Int) = w from by omega] at this
  exact this

/-- a date that fits comes again: by its day, or by its weekday -/
theorem fitB_parts {c : Cron} {m d w : Int} (h : fitB c m d w = true) : (∀ w', 0 ≤ w' → w' ≤ 6 → fitB c m d w' = true) ∨ (∀ d', 1 ≤ d' → d' ≤ 31 → fitB c m d' w = true) := by
  unfold fitB at *
  simp only [Bool.and_eq_true] at h
  obtain ⟨hm, h⟩ := h
  rw [hm]
  cases hw : (c.we == 127) with
  | true =>
    have ew : c.we = 127 := by simpa using hw
    rw [hw, Bool.or_true, if_pos rfl] at h
    simp only [Bool.and_eq_true] at h
    refine .inl fun w' w0 w1 => ?_
    rw [Bool.or_true, if_pos rfl, h.1, ew, has_whole_we w0 w1]; rfl
  | false =>
    cases hd : (c.da == 4294967294) with
    | true =>
      have ed : c.da = 4294967294 := by simpa using hd
      rw [hd, Bool.true_or, if_pos rfl] at h
      simp only [Bool.and_eq_true] at h
      refine .inr fun d' d0 d1 => ?_
      rw [Bool.true_or, if_pos rfl, h.2, ed, has_whole_day d0 d1]; rfl
    | false =>
      rw [hd, hw] at h
      simp only [Bool.or_self, Bool.false_eq_true, if_false, Bool.or_eq_true] at h ⊢
      rcases h with h | h
      · exact .inl fun w' _ _ => by rw [h]; rfl
      · exact .inr fun d' _ _ => by rw [h]; simp

theorem fitD_of {c : Cron} {y m d : Int} (h : Cal.okd y m d = true) (hf : fitB c m d ((Cal.num y m d + 4) % 7) = true) : fitD c (Cal.num y m d) = true := by
  have nb := Cal.num_bd h
  unfold fitD
  rw [Cal.dat_num h, show dayB (Cal.num y m d) = true by simp [dayB]; omega, hf]; rfl

theorem recur {c : Cron} {n : Int} (h : fitD c n = true) {n0 : Int} (h0 : 0 ≤ n0) (h1 : n0 ≤ 2932896 - 2922) : ∃ n', fitD c n' = true ∧ n0 < n' ∧ n' ≤ n0 + 2921 := by
  obtain ⟨a0, a1⟩ := fitD_day h
  obtain ⟨o1, o2⟩ := Cal.dat_ok n a0 a1
  unfold fitD at h
  simp only [Bool.and_eq_true] at h
  generalize (Cal.dat n).1 = y at *
  generalize (Cal.dat n).2.1 = m at *
  generalize (Cal.dat n).2.2 = d at *
  rcases fitB_parts h.2 with k | k
  · obtain ⟨u, u1, u2, u3⟩ := recur_md o1 h0 h1
    exact ⟨_, fitD_of u1 (k _ (by omega) (by omega)), u2, u3⟩
  · obtain ⟨m1, m2⟩ := Cal.okd_month o1
    have l1 := Cal.long_pos y m m1 m2
    have one : Cal.okd y m 1 = true := by
      obtain ⟨y1, y2, _⟩ := Cal.okd_iff.mp o1
      exact Cal.okd_iff.mpr ⟨y1, y2, by omega, by omega⟩
    have aim : ∃ u, Cal.okd u m 1 = true ∧ n0 < Cal.num u m 1 ∧ Cal.num u m 1 ≤ n0 + 2915 := by
      obtain ⟨z, z1, z2, z3, z4⟩ := day_year h0 h1
      have s := Cal.dby_succ z
      have l := Cal.lp_01 z
      have l2 := Cal.lp_01 (z + 1)
      have ok : ∀ u, 1970 ≤ u → u ≤ 9999 → Cal.okd u m 1 = true := fun u u1 u2 => Cal.okd_iff.mpr ⟨u1, u2, by omega, by have := Cal.long_pos u m m1 m2; omega⟩
      have q1 := ok z z1 (by omega)
      have q2 := ok (z + 1) (by omega) (by omega)
      obtain ⟨p1, p2⟩ := Cal.num_year q1
      obtain ⟨p3, p4⟩ := Cal.num_year q2
      rcases Int.lt_or_le n0 (Cal.num z m 1) with k | k
      · exact ⟨z, q1, k, by omega⟩
      · exact ⟨z + 1, q2, by omega, by omega⟩
    obtain ⟨u, u1, u2, u3⟩ := aim
    have lu := Cal.long_pos u m m1 m2
    obtain ⟨y1, y2, _⟩ := Cal.okd_iff.mp u1
    obtain ⟨e, he⟩ : ∃ e, e = ((n + 4) % 7 - (Cal.num u m 1 + 4)) % 7 := ⟨_, rfl⟩
    have o3 : Cal.okd u m (1 + e) = true := Cal.okd_iff.mpr ⟨y1, y2, by omega, by omega⟩
    have en : Cal.num u m (1 + e) = Cal.num u m 1 + e := by unfold Cal.num; omega
    have ew : (Cal.num u m (1 + e) + 4) % 7 = (n + 4) % 7 := by rw [en]; omega
    exact ⟨_, fitD_of o3 (by rw [ew]; exact k _ (by omega) (by omega)), by rw [en]; omega, by rw [en]; omega⟩

theorem bitsL_some {m : Int} (h : U64 m) (h0 : m ≠ 0) : ∃ x, x ∈ bitsL m := by
  obtain ⟨m', rfl⟩ : ∃ m' : Nat, m = m' := ⟨m.toNat, by have := h.1; omega⟩
  have h2 := h.2
  obtain ⟨k, q, hq⟩ := odd_part (x := m') (by omega)
  have e64 : (2 : Nat) ^ 64 = 18446744073709551616 := by decide
  have hk := pow_lt_of (k := k) (q := q) (by omega)
  refine ⟨k, ?_⟩
  unfold bitsL
  simp only [Int.toNat_natCast]
  rw [hq]
  have := bits_step (q := q) hk
  rw [this]
  exact List.mem_cons_self

theorem onL_some {c : Cron} (hc : c.in) (hok : c.ok = true) (n : Int) : ∃ t, t ∈ onL c n := by
  unfold Cron.ok okF at hok
  simp only [Bool.and_eq_true, Bool.not_eq_true', beq_eq_false_iff_ne] at hok
  obtain ⟨x, hx⟩ := bitsL_some hc.2.1 hok.1.1.1.2.1
  obtain ⟨y, hy⟩ := bitsL_some hc.1 hok.1.1.1.1.1
  exact ⟨_, List.mem_flatMap.mpr ⟨x, hx, List.mem_map.mpr ⟨y, hy, rfl⟩⟩⟩

theorem firstI_none {g : Nat → Option Int} : ∀ {r i : Nat}, firstI g r i = none → ∀ k, i ≤ k → k < i + r → g k = none
  | 0, i, _, k, h1, h2 => by omega
  | r + 1, i, h, k, h1, h2 => by
    unfold firstI at h
    cases hg : g i with
    | some x => rw [hg] at h; cases h
    | none =>
      rw [hg] at h
      rcases Nat.lt_or_ge i k with q | q
      · exact firstI_none h k q (by omega)
      · have : k = i := by omega
        subst this; exact hg

/-- is there a day that fits? -/
def fitsC (c : Cron) : Prop := c.ok = true ∧ ∃ n, fitD c n = true

theorem next_ever {c : Cron} (hc : c.in) (hf : fitsC c) {a n0 : Int} (e : ofD a = n0) (h1 : n0 ≤ 2932896 - 2922) (ha : a < (n0 + 1) * 86400) : nextF c a ≠ none := by
  obtain ⟨hok, n, hn⟩ := hf
  have h0 : 0 ≤ n0 := by rw [← e]; unfold ofD; omega
  obtain ⟨n', k1, k2, k3⟩ := recur hn h0 h1
  intro hno
  rw [nextF_yes hok] at hno
  have g := firstI_none hno (n' - n0).toNat (by omega) (by omega)
  rw [nextG_eq, e] at g
  have e2 : n0 + (((n' - n0).toNat : Nat) : Int) = n' := by omega
  rw [e2, k1, if_pos rfl] at g
  obtain ⟨t, ht⟩ := onL_some hc hok n'
  have := find_none_of g ht
  have b := onL_day hok ht
  simp at this; omega

theorem last_ever {c : Cron} (hc : c.in) (hf : fitsC c) {a n0 : Int} (h0 : 0 ≤ n0) (e : ofD a = n0 + 2922) (h1 : n0 ≤ 2932896 - 2922) (ha : (n0 + 2922) * 86400 ≤ a) : lastF c a ≠ none := by
  obtain ⟨hok, n, hn⟩ := hf
  obtain ⟨n', k1, k2, k3⟩ := recur hn h0 h1
  intro hno
  rw [lastF_yes hok] at hno
  have g := firstI_none hno (n0 + 2922 - n').toNat (by omega) (by omega)
  rw [lastG_eq, e] at g
  have e2 : n0 + 2922 - (((n0 + 2922 - n').toNat : Nat) : Int) = n' := by omega
  rw [e2, k1, if_pos rfl] at g
  obtain ⟨t, ht⟩ := onL_some hc hok n'
  have := find_none_of g (List.mem_reverse.mpr ht)
  have b := onL_day hok ht
  simp at this; omega

theorem next_fits {c : Cron} {a t : Int} (h : nextF c a = some t) : fitsC c := by
  obtain ⟨hok, n, hn, _⟩ := nextF_some h
  exact ⟨hok, n, hn⟩

theorem last_fits {c : Cron} {a t : Int} (h : lastF c a = some t) : fitsC c := by
  obtain ⟨hok, n, hn, _⟩ := lastF_some h
  exact ⟨hok, n, hn⟩

theorem ever_iff {c : Cron} (hc : c.in) : (nextF c (-1)).isSome = true ↔ fitsC c := by
  constructor
  · intro h
    cases hn : nextF c (-1) with
    | none => rw [hn] at h; cases h
    | some t => exact next_fits hn
  · intro h
    have := next_ever hc h (a := -1) (n0 := 0) (by unfold ofD; omega) (by omega) (by omega)
    cases hn : nextF c (-1) with
    | none => exact absurd hn this
    | some t => rfl
end Go.Proofs.YtjbpihalfaclkaaGreatDoor
/- Whether a cron ever matches. -/
namespace Go.Proofs.YtjbpihalfaclkaaGreatDoor
open Go Go.B
set_option linter.unusedSimpArgs false
set_option linter.unusedVariables false
set_option linter.unusedSectionVars false
set_option maxRecDepth 20000

theorem ansB2 (o : Option Int) : (ansB o).2 = o.isSome := by cases o <;> rfl

theorem isSome_of {α : Type} {o : Option α} (h : o ≠ none) : o.isSome = true := by cases o with
  | none => exact absurd rfl h
  | some x => rfl

theorem none_of {c : Cron} (hf : ¬ fitsC c) (a : Int) : nextF c a = none ∧ lastF c a = none := by
  constructor
  · cases h : nextF c a with
    | none => rfl
    | some t => exact absurd (next_fits h) hf
  · cases h : lastF c a with
    | none => rfl
    | some t => exact absurd (last_fits h) hf
end Go.Proofs.YtjbpihalfaclkaaGreatDoor
