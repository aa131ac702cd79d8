/- The law CronMore, as plain law. -/
import Derived.Test.YtjbpihalfaclkaaGreatDoorPc
import Derived.Test.YtjbpihalfaclkaaGreatDoorPg
import Derived.Test.YtjbpihalfaclkaaGreatDoorBk
import Derived.Test.YtjbpihalfaclkaaGreatDoorGCronMore
namespace Go.Proofs.YtjbpihalfaclkaaGreatDoor
open Go Go.B
set_option linter.unusedSimpArgs false
set_option linter.unusedVariables false
set_option linter.unusedSectionVars false
set_option maxRecDepth 20000

def orI (a b : Int) : Int := ((a.toNat ||| b.toNat : Nat) : Int)

theorem orI_U64 {a b : Int} (ha : U64 a) (hb : U64 b) : U64 (orI a b) := by
  have h := Nat.or_lt_two_pow (n := 64) (x := a.toNat) (y := b.toNat) (by have := ha.2; have e : (2 : Nat) ^ 64 = 18446744073709551616 := by decide
                                                                          omega) (by have := hb.2; have e : (2 : Nat) ^ 64 = 18446744073709551616 := by decide
                                                                                     omega)
  have e : (2 : Nat) ^ 64 = 18446744073709551616 := by decide
  unfold orI U64
  omega

theorem or_fn {a b : Int} (ha : U64 a) (hb : U64 b) : mask_Or_R [a, b] (orI a b) := by
  have := mask_Or2_fn (x := a.toNat) (y := b.toNat) (by have := ha.2; omega) (by have := hb.2; omega)
  rw [Int.toNat_of_nonneg ha.1, Int.toNat_of_nonneg hb.1] at this
  exact this

theorem hasB_or {a b x : Int} (h : hasB a x = true) : hasB (orI a b) x = true := by
  unfold hasB orI at *
  simp only [Bool.and_eq_true] at h ⊢
  refine ⟨h.1, ?_⟩
  rw [Int.toNat_natCast, Nat.testBit_or, h.2]
  rfl

def orC (c d : Cron) : Cron := ⟨orI c.mi d.mi, orI c.ho d.ho, c.da, orI c.mo d.mo, c.we⟩

theorem more_at {c d : Cron} (hk : (orC c d).ok = true) {t : Int} (h : atV c t = true) : atV (orC c d) t = true := by
  unfold atV dayV fitB at *
  simp only [Bool.and_eq_true] at h ⊢
  obtain ⟨h1, h2, ⟨_, h4, h5, h6⟩, h7, h8⟩ := h
  exact ⟨h1, h2, ⟨hk, h4, hasB_or h5, h6⟩, hasB_or h7, hasB_or h8⟩

theorem more_loop {c m : Cron} (hc : c.in) (hm : m.in) (ed : m.da = c.da) (ew : m.we = c.we) {l : List Int} (hl : l.length ≤ 9223372036854775807) (hle : ∀ t, atV c t = true → atV m t = true) :
    ∃ k, curfewlaw07_CronMore_l0 k (c.mi, c.ho, c.da, c.mo, c.we, m.mi, m.ho, m.mo, l, (l.length : Int), ((0 : Nat) : Int)) (.inr ()) := by
  refine up_ind (P := fun i => ∃ k, curfewlaw07_CronMore_l0 k (c.mi, c.ho, c.da, c.mo, c.we, m.mi, m.ho, m.mo, l, (l.length : Int), (i : Int)) (.inr ())) (n := l.length) ⟨1, br_no (no_of (by omega)) rfl⟩ (fun i hi ⟨k, hk⟩ => ?_) 0 (Nat.zero_le _)
  have e : IntKind.wrap .i64 ((i : Int) + 1) = ((i + 1 : Nat) : Int) := wi_succ (by omega)
  rw [← e] at hk
  refine ⟨k + 1, br_yes (yes_of (by omega)) ⟨ix_ok hi, ?_⟩⟩
  by_cases h20 : (i : Int) < 20
  · refine br_yes (yes_of h20) ⟨_, cron_At_all hc _, ?_⟩
    cases ha : atV c (l.getD (Int.toNat (i : Int)) 0)
    · exact br_no rfl hk
    · have h2 := cron_At_all hm (l.getD (Int.toNat (i : Int)) 0)
      rw [hle _ ha, ed, ew] at h2
      exact br_yes rfl ⟨_, h2, br_no rfl hk⟩
  · exact br_no (no_of h20) hk

theorem law_more07 {c d : Cron} (hc : c.in) (hd : d.in) {l : List Int} (hl : l.length ≤ 9223372036854775807) : curfewlaw07_CronMore_R c.mi c.ho c.da c.mo c.we d.mi d.ho d.da d.mo d.we l true := by
  have hm : (orC c d).in := ⟨orI_U64 hc.1 hd.1, orI_U64 hc.2.1 hd.2.1, hc.2.2.1, orI_U64 hc.2.2.2.1 hd.2.2.2.1, hc.2.2.2.2⟩
  refine ⟨_, wakes07, br_no rfl ⟨_, or_fn hc.1 hd.1, _, or_fn hc.2.1 hd.2.1, _, or_fn hc.2.2.2.1 hd.2.2.2.1, _, cron_Check_fn hc, ?_⟩⟩
  cases c.ok
  · exact br_yes rfl rfl
  refine br_no rfl ⟨_, cron_Check_fn hm, ?_⟩
  cases hk : (orC c d).ok
  · exact br_yes rfl rfl
  obtain ⟨k, h⟩ := more_loop hc hm rfl rfl hl (fun t ht => more_at hk ht)
  exact br_no rfl ⟨_, ⟨k, h⟩, rfl⟩

abbrev f5M : Ty := .pr (.int .u64) (.pr (.int .u64) (.pr (.int .u64) (.pr (.int .u64) (.int .u64))))

theorem law_CronMore (x0 : f5M.den) (i0 : inT f5M x0) (x1 : f5M.den) (i1 : inT f5M x1) (x2 : List Int) (i2 : inT (.sl (.int .i64)) x2) :
    curfewlaw07_CronMore_R x0.1 x0.2.1 x0.2.2.1 x0.2.2.2.1 x0.2.2.2.2 x1.1 x1.2.1 x1.2.2.1 x1.2.2.2.1 x1.2.2.2.2 x2 true :=
  law_more07 (c := ⟨x0.1, x0.2.1, x0.2.2.1, x0.2.2.2.1, x0.2.2.2.2⟩) (d := ⟨x1.1, x1.2.1, x1.2.2.1, x1.2.2.2.1, x1.2.2.2.2⟩)
    ⟨u64_range i0.1, u64_range i0.2.1, u64_range i0.2.2.1, u64_range i0.2.2.2.1, u64_range i0.2.2.2.2⟩ ⟨u64_range i1.1, u64_range i1.2.1, u64_range i1.2.2.1, u64_range i1.2.2.2.1, u64_range i1.2.2.2.2⟩ (by have := i2.1; simpa [maxLen] using this)
end Go.Proofs.YtjbpihalfaclkaaGreatDoor
