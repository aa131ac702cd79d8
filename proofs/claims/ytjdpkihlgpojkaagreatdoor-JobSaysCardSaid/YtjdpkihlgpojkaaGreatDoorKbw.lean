/- The reference: masks, and which may be. -/
import Derived.Test.YtjdpkihlgpojkaaGreatDoorKer
namespace Go.Proofs.YtjdpkihlgpojkaaGreatDoor
open Go Go.B
set_option linter.unusedSimpArgs false
set_option linter.unusedVariables false
set_option linter.unusedSectionVars false
set_option maxRecDepth 20000

theorem rWhole_fn {k : Nat} (h : k < 5) : curfewref06_Whole_R (k : Int) (wholeL.getD k 0) := by
  match k, h with
  | 0, _ => exact ⟨_, ⟨by decide, rfl⟩, _, ⟨by decide, rfl⟩, _, rSpan_fn (a := 0) (b := 59) (s := 1) (by omega) (by omega) (by omega) (by omega), by decide +kernel⟩
  | 1, _ => exact ⟨_, ⟨by decide, rfl⟩, _, ⟨by decide, rfl⟩, _, rSpan_fn (a := 0) (b := 23) (s := 1) (by omega) (by omega) (by omega) (by omega), by decide +kernel⟩
  | 2, _ => exact ⟨_, ⟨by decide, rfl⟩, _, ⟨by decide, rfl⟩, _, rSpan_fn (a := 1) (b := 31) (s := 1) (by omega) (by omega) (by omega) (by omega), by decide +kernel⟩
  | 3, _ => exact ⟨_, ⟨by decide, rfl⟩, _, ⟨by decide, rfl⟩, _, rSpan_fn (a := 1) (b := 12) (s := 1) (by omega) (by omega) (by omega) (by omega), by decide +kernel⟩
  | 4, _ => exact ⟨_, ⟨by decide, rfl⟩, _, ⟨by decide, rfl⟩, _, rSpan_fn (a := 0) (b := 6) (s := 1) (by omega) (by omega) (by omega) (by omega), by decide +kernel⟩

theorem rRight_fn {k : Nat} (h : k < 5) {m : Int} (hm : U64 m) : curfewref06_Right_R (k : Int) m (okF k m) := by
  refine ⟨_, rAll_fn hm, ?_⟩
  have hw := whole_U64 k
  have hlen := bitsL_len m
  have e : okF k m = (!(m == 0) && (bitsL m).all (hasB (wholeL.getD k 0) ·)) := by unfold okF; rw [subB_all hm]
  rw [e]
  have key : ∀ d i, i + d = (bitsL m).length → ∃ q, curfewref06_Right_l0 q (bitsL m, (k : Int), m, ((bitsL m).length : Int), (i : Int)) (if ((bitsL m).drop i).all (hasB (wholeL.getD k 0) ·) then .inr () else .inl ()) := by
    intro d
    induction d with
    | zero =>
      intro i hi
      refine ⟨1, br_no (ilt_no (by omega)) ?_⟩
      rw [List.drop_eq_nil_of_le (by omega)]; rfl
    | succ d ih =>
      intro i hi
      obtain ⟨q, hq⟩ := ih (i + 1) (by omega)
      have hlt : i < (bitsL m).length := by omega
      refine ⟨q + 1, br_yes (yes_of (by omega)) ⟨ix_ok hlt, ⟨blt_ok hlt, _, rWhole_fn h, _, rHas_fn hw _, ?_⟩⟩⟩
      rw [drop_cons hlt, List.all_cons]
      simp only [Int.toNat_natCast]
      cases hb : hasB (wholeL.getD k 0) ((bitsL m).getD i 0)
      · exact br_yes rfl rfl
      · refine br_no rfl ?_
        show curfewref06_Right_l0 q (bitsL m, (k : Int), m, ((bitsL m).length : Int), IntKind.wrap .i64 ((i : Int) + 1)) _
        rw [Bool.true_and, show IntKind.wrap .i64 ((i : Int) + 1) = ((i + 1 : Nat) : Int) from wi_succ (by omega)]; exact hq
  obtain ⟨q, hq⟩ := key (bitsL m).length 0 (by omega)
  refine ⟨_, ⟨q, hq⟩, ?_⟩
  rw [List.drop_zero]
  cases (bitsL m).all (hasB (wholeL.getD k 0) ·)
  · show false = _; rw [Bool.and_false]
  · show (m != 0) = _; rw [Bool.and_true]; rfl
end Go.Proofs.YtjdpkihlgpojkaaGreatDoor
