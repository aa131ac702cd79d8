/- NextSome: the plain law. -/
import Derived.Test.YtiffoefhadgdnaaDoorRc
import Derived.Test.YtiffoefhadgdnaaDoorMo
import Derived.Test.YtiffoefhadgdnaaDoorGNextSome
namespace Go.Proofs.YtiffoefhadgdnaaDoor
open Go Go.B Go.RowKit
set_option linter.unusedSimpArgs false
set_option linter.unusedVariables false
set_option linter.unusedSectionVars false
set_option maxRecDepth 20000

theorem Some_no {c : Cron} (hc : c.in) (hok : c.ok = false) (lo hi most : Int) : next_Some_R c.mi c.ho c.da c.mo c.we lo hi most ([], 170) :=
  ⟨_, cron_Check_no hc hok, br_yes rfl rfl⟩

theorem Some_arg {c : Cron} (hc : c.in) (hok : c.ok = true) (lo hi : Int) {most : Int} (h : most < 0 ∨ most > 64) : next_Some_R c.mi c.ho c.da c.mo c.we lo hi most ([], 2) := by
  refine ⟨_, cron_Check_yes hc hok, br_no rfl ?_⟩
  by_cases h0 : most < 0
  · exact br_yes (yes_of h0) rfl
  · exact br_no (no_of h0) (br_yes (yes_of (by omega)) rfl)

theorem someL_len {c : Cron} {hi : Int} : ∀ {d : Nat} {t : Int} {out : List Int}, (someL c hi d t out).length ≤ out.length + d
  | 0, _, out => Nat.le_refl _
  | d + 1, t, out => by
    unfold someL
    cases nextF c t with
    | none => simp
    | some u =>
      simp only
      split
      · simp
      · have := someL_len (c := c) (hi := hi) (d := d) (t := u) (out := out ++ [u])
        simp at this; omega

theorem rSome_loop {c : Cron} (hc : c.in) (hok : c.ok = true) {lo hi : Int} {most : Nat} (hm : most ≤ 64) : ∀ (d : Nat) (t0 : Int) (out : List Int), out.length + d = most →
    ∃ k, curfewref08_Some_l0 k (out, c.mi, c.ho, c.da, c.mo, c.we, lo, hi, (most : Int), t0) (someL c hi d t0 out) := by
  intro d
  induction d with
  | zero => exact fun t0 out ho => ⟨1, br_no (ilt_no (by omega)) rfl⟩
  | succ d ih =>
    intro t0 out ho
    unfold someL
    cases hn : nextF c t0 with
    | none =>
      have h := rNext_fn hc hok t0
      rw [hn] at h
      exact ⟨1, br_yes (yes_of (by omega)) ⟨_, h, br_yes rfl rfl⟩⟩
    | some t =>
      have h := rNext_fn hc hok t0
      rw [hn] at h
      by_cases ht : t > hi
      · exact ⟨1, br_yes (yes_of (by omega)) ⟨_, h, br_no rfl (br_yes (yes_of ht) (by simp [ht]))⟩⟩
      · obtain ⟨k, hk⟩ := ih t (out ++ [t]) (by simp; omega)
        exact ⟨k + 1, br_yes (yes_of (by omega)) ⟨_, h, br_no rfl (br_no (no_of ht) ⟨nl_ok (by simp; omega), by simp only [ht, if_false]; exact hk⟩)⟩⟩

theorem rSome_fn {c : Cron} (hc : c.in) (hok : c.ok = true) (lo hi : Int) {most : Nat} (hm : most ≤ 64) : curfewref08_Some_R c.mi c.ho c.da c.mo c.we lo hi most (someL c hi most lo []) := by
  obtain ⟨k, hk⟩ := rSome_loop hc hok (lo := lo) (hi := hi) hm most lo [] (by simp)
  exact ⟨_, ⟨k, hk⟩, rfl⟩

theorem some_loop {c : Cron} (hc : c.in) {lo hg : Int} {l : List Int} (hn : l.length ≤ 9223372036854775807) (hl : ∀ p ∈ l, -9223372036854775808 ≤ p ∧ p ≤ 9223372036854775807) : ∀ (d i : Nat), i + d = l.length →
    ∃ k, curfewlaw08_NextSome_l0 k (c.mi, c.ho, c.da, c.mo, c.we, lo, hg, l, (l.length : Int), (i : Int)) (.inl ()) := by
  intro d
  induction d with
  | zero => exact fun i hi => ⟨1, br_no (ilt_no (by omega)) rfl⟩
  | succ d ih =>
    intro i hi
    obtain ⟨k, hk⟩ := ih (i + 1) (by omega)
    have hlt : i < l.length := by omega
    refine ⟨k + 1, br_yes (yes_of (by omega)) ⟨ix_ok hlt, ?_⟩⟩
    cases e4 : ((i : Int) == 4)
    · refine br_no rfl ?_
      have go : curfewlaw08_NextSome_l0 k (c.mi, c.ho, c.da, c.mo, c.we, lo, hg, l, (l.length : Int), IntKind.wrap .i64 ((i : Int) + 1)) (.inl ()) := by
        rw [wi_succ (n := i) (by omega)]; exact hk
      generalize (if (IntKind.wrap .i64 (12 + (IntKind.wrap .i64 (64 * (IntKind.wrap .i64 (Int.tdiv (List.getD l (Int.toNat (i : Int)) 0) 65)))))) < (List.getD l (Int.toNat (i : Int)) 0) then (IntKind.wrap .i64 (12 + (IntKind.wrap .i64 (64 * (IntKind.wrap .i64 (Int.tdiv (List.getD l (Int.toNat (i : Int)) 0) 65)))))) else (List.getD l (Int.toNat (i : Int)) 0)) = n
      cases hok : c.ok
      · refine ⟨_, Some_no hc hok _ _ _, _, rCron_fn hc, br_yes (not_t hok) (br_no rfl ⟨_, Equal_yes _ (by decide), br_no rfl go⟩)⟩
      · by_cases h0 : n < 0
        · exact ⟨_, Some_arg hc hok _ _ (.inl h0), _, rCron_fn hc, br_no (not_f hok) (br_yes (yes_of h0) (br_no rfl ⟨_, Equal_yes _ (by decide), br_no rfl go⟩))⟩
        · by_cases h1 : n > 64
          · exact ⟨_, Some_arg hc hok _ _ (.inr h1), _, rCron_fn hc, br_no (not_f hok) (br_no (no_of h0) (br_yes (yes_of h1) (br_no rfl ⟨_, Equal_yes _ (by decide), br_no rfl go⟩)))⟩
          · obtain ⟨m, rfl⟩ : ∃ m : Nat, n = m := ⟨n.toNat, by omega⟩
            have sl := someL_len (c := c) (hi := hg) (d := m) (t := lo) (out := [])
            exact ⟨_, next_Some_yes hc hok _ _ m (by omega), _, rCron_fn hc, br_no (not_f hok) (br_no (no_of h0) (br_no (no_of h1) ⟨_, rSome_fn hc hok _ _ (by omega), br_no rfl ⟨_, Equal_yes _ (by simp at sl ⊢; omega), br_no rfl go⟩⟩))⟩
    · exact br_yes rfl rfl

theorem some_law {c : Cron} (hc : c.in) {lo hg : Int} {l : List Int} (hn : l.length ≤ 9223372036854775807) (hl : ∀ p ∈ l, -9223372036854775808 ≤ p ∧ p ≤ 9223372036854775807) : curfewlaw08_NextSome_R c.mi c.ho c.da c.mo c.we lo hg l true := by
  obtain ⟨k, hk⟩ := some_loop hc (lo := lo) (hg := hg) hn hl l.length 0 (by omega)
  exact ⟨_, wakes08, br_no rfl ⟨_, ⟨k, hk⟩, rfl⟩⟩

theorem law_NextSome (x : cronTy.den) (h : inT cronTy x) (s : Int × Int) (hs : inT (.pr (.int .i64) (.int .i64)) s) (l : List Int) (hl : inT (.sl (.int .i64)) l) : curfewlaw08_NextSome_R x.1 x.2.1 x.2.2.1 x.2.2.2.1 x.2.2.2.2 s.1 s.2 l true :=
  some_law (c := cronOf x) (cronOf_in h) (len_le hl.1) (fun p hp => i64_range (ints_mem hl hp))
end Go.Proofs.YtiffoefhadgdnaaDoor
