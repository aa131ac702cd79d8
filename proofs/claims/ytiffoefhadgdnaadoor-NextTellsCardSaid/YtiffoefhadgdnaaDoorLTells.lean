/- NextTells: the plain law. -/
import Derived.Test.YtiffoefhadgdnaaDoorRc
import Derived.Test.YtiffoefhadgdnaaDoorMo
import Derived.Test.YtiffoefhadgdnaaDoorGNextTells
namespace Go.Proofs.YtiffoefhadgdnaaDoor
open Go Go.B Go.RowKit
set_option linter.unusedSimpArgs false
set_option linter.unusedVariables false
set_option linter.unusedSectionVars false
set_option maxRecDepth 20000

theorem tells_loop {c : Cron} (hc : c.in) {l : List Int} (hn : l.length ≤ 9223372036854775807) : ∀ (d i : Nat), i + d = l.length →
    ∃ k, curfewlaw08_NextTells_l0 k (c.mi, c.ho, c.da, c.mo, c.we, c.ok, l, (l.length : Int), (i : Int)) (.inl ()) := by
  intro d
  induction d with
  | zero => exact fun i hi => ⟨1, br_no (ilt_no (by omega)) rfl⟩
  | succ d ih =>
    intro i hi
    obtain ⟨k, hk⟩ := ih (i + 1) (by omega)
    have hlt : i < l.length := by omega
    refine ⟨k + 1, br_yes (yes_of (by omega)) ⟨ix_ok hlt, ?_⟩⟩
    cases e4 : ((i : Int) == 4)
    · refine br_no rfl ⟨_, next_Next_fn hc _, _, next_Last_fn hc _, ?_⟩
      have go : curfewlaw08_NextTells_l0 k (c.mi, c.ho, c.da, c.mo, c.we, c.ok, l, (l.length : Int), IntKind.wrap .i64 ((i : Int) + 1)) (.inl ()) := by
        rw [wi_succ (n := i) (by omega)]; exact hk
      have bb : ∀ b : Bool, (!(b == b)) = false := fun b => by cases b <;> rfl
      have nn : ∀ n : Int, (n != n) = false := fun n => by simp
      cases hok : c.ok
      · rw [hok] at go
        refine br_no rfl ?_
        rw [nextF_no hok, lastF_no hok]
        exact br_no rfl (br_no rfl (br_no rfl (br_no rfl go)))
      · rw [hok] at go
        exact br_yes rfl ⟨_, rNext_fn hc hok _, _, rLast_fn hc hok _, br_no (nn _) (br_no (bb _) (br_no (nn _) (br_no (bb _) go)))⟩
    · exact br_yes rfl rfl

theorem tells_law {c : Cron} (hc : c.in) {l : List Int} (hn : l.length ≤ 9223372036854775807) : curfewlaw08_NextTells_R c.mi c.ho c.da c.mo c.we l true := by
  obtain ⟨k, hk⟩ := tells_loop hc hn l.length 0 (by omega)
  refine ⟨_, wakes08, br_no rfl ⟨_, rCron_fn hc, _, ⟨k, hk⟩, ?_⟩⟩
  show ∃ y11 : Bool, (next_Ever_R c.mi c.ho c.da c.mo c.we y11) ∧ (br c.ok (∃ y12 : Bool, (curfewref08_Ever_R c.mi c.ho c.da c.mo c.we y12) ∧ ((y11 == y12) = true)) ((y11 == false) = true))
  cases hok : c.ok
  · exact ⟨_, ever_false hc (fun h => by rw [h.1] at hok; cases hok), br_no rfl rfl⟩
  · by_cases hf : fitsC c
    · exact ⟨_, ever_true hc hf, br_yes rfl ⟨_, rEver_fn hc hok, by rw [(ever_fitL hok).mpr hf]; rfl⟩⟩
    · refine ⟨_, ever_false hc hf, br_yes rfl ⟨_, rEver_fn hc hok, ?_⟩⟩
      cases he : decide (0 < (fitL c 0 2923).length)
      · rfl
      · exact absurd ((ever_fitL hok).mp he) hf

theorem law_NextTells (x : cronTy.den) (h : inT cronTy x) (l : List Int) (hl : inT (.sl (.int .i64)) l) : curfewlaw08_NextTells_R x.1 x.2.1 x.2.2.1 x.2.2.2.1 x.2.2.2.2 l true :=
  tells_law (c := cronOf x) (cronOf_in h) (len_le hl.1)
end Go.Proofs.YtiffoefhadgdnaaDoor
