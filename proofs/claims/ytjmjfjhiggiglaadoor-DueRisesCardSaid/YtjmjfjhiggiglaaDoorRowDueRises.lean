/- The law DueRises holds: for every input the call returns true, and each argument reads behind it as it read before. Conditions: none beyond the given row's own. -/
import Derived.Test.YtjmjfjhiggiglaaDoorRows
import Derived.Test.YtjmjfjhiggiglaaDoorTie
import Derived.Test.YtjmjfjhiggiglaaDoorCards
import Derived.Test.YtjmjfjhiggiglaaDoorWRises
import Derived.ProofKit
import Derived.OpenShut
import Derived.ShutString
import Derived.ChangeOld
import Derived.Below
import Derived.LaidMore
import Derived.Stop.Joined
import Derived.Lib.LaidTab
import Derived.SevenTiedAt
namespace Go.Proofs.YtjmjfjhiggiglaaDoor.rowDueRises
open Go Go.ChangeShapes Go.WideShapes Go.ChangeAt Go.RowKit
open Go.ChangeMaps (open_string shut_string)
set_option linter.unusedVariables false

theorem own : ownKnob Tryd.prog.godebug = none := by kernel_rfl
theorem laidOut : laidOutB Tryd.prog = true := by kernel_rfl
theorem door_met (os : Os) (args : Array Value) : laidMetH Tryd.prog [("curfew/days.long", Rows.laid_curfew_days_long), ("math/bits.deBruijn64tab", Rows.laid_math_bits_deBruijn64tab), ("curfew/field.ends", Rows.laid_curfew_field_ends)] ((World.doorLaid Tryd.prog 4000 os).forCall (fun _ _ => 0) ⟨#[], args, []⟩).memory :=
  laidMetH_of_parts3 (fuel := 10) (laidMet_of_run' 10 (by kernel_rfl) (by kernel_rfl)) (by kernel_rfl) (by kernel_rfl)
theorem of_laid {W : World} (h : laidMetH Tryd.prog [("curfew/days.long", Rows.laid_curfew_days_long), ("math/bits.deBruijn64tab", Rows.laid_math_bits_deBruijn64tab), ("curfew/field.ends", Rows.laid_curfew_field_ends)] W) : LaidOf W := by
  rw [MakeChecks.laidMetH_plain _ _ _ (by kernel_rfl)] at h
  exact laidOf_met h
set_option maxRecDepth 100000 in
theorem lifted (os : Os) (started : os.Started) (H : Type) (enc : TypeId × Value → H) :
    ReturnsInHanded {} Tryd.checked os 4 .any (fun w args => (Rows.dueRisesSpec.pre enc Tryd.prog Tryd.f4 [] false w args ∧ laidMetH Tryd.prog [("curfew/days.long", Rows.laid_curfew_days_long), ("math/bits.deBruijn64tab", Rows.laid_math_bits_deBruijn64tab), ("curfew/field.ends", Rows.laid_curfew_field_ends)] w) ∧ sizedMet enc Tryd.prog Tryd.f4 (OpenSpec.ofChange Rows.dueRisesSpec) false w args)
      (Rows.dueRisesSpec.post enc Tryd.prog Tryd.f4 false true false false) := by
  refine returnsInHanded_of_change_and (C := Tryd.checked) (X := fun w _ => laidMetH Tryd.prog [("curfew/days.long", Rows.laid_curfew_days_long), ("math/bits.deBruijn64tab", Rows.laid_math_bits_deBruijn64tab), ("curfew/field.ends", Rows.laid_curfew_field_ends)] w) (fun _ _ _ hh h => h.of_heap hh) own started (by kernel_rfl) Tryd.func4
    (ChangeSpec.witness_shaped (enc := enc) (C := Tryd.checked) (os := os) (X := fun w _ => laidMetH Tryd.prog [("curfew/days.long", Rows.laid_curfew_days_long), ("math/bits.deBruijn64tab", Rows.laid_math_bits_deBruijn64tab), ("curfew/field.ends", Rows.laid_curfew_field_ends)] w) false (World.doorLaid Tryd.prog 4000 os) #[.agg #[.int .u32 0, .bool false, .int .u64 0, .int .u64 0, .int .u64 0, .int .u64 0, .int .u64 0, .int .i64 0, .int .i64 0, .int .i64 0, .int .i64 0, .bool false, .int .i64 0, .int .u64 0, .int .i64 0, .int .i64 0, .slice none 0 0], .slice none 0 0] 8 rfl (World.shaped_of_RefB (by kernel_rfl) (by kernel_rfl)) (by kernel_rfl) (by kernel_rfl) (by kernel_rfl) (door_met os _)) ?_
  intro W base args ds gs before hval0 hW _ _ hL _
  have hval : ∀ (j : Nat) t v, Tryd.f4.params[j]? = some t → args[j]? = some v → Value.okWide Tryd.prog W .any base t v := hval0
  have hW' := hW
  obtain ⟨p, q, hA0, hV, rfl, hfz, hnd⟩ := hW
  have hA : DataW.TrodAll enc Tryd.prog W 0 (fun _ => true) true Tryd.f4.params.toList args.toList ds p := hA0
  rw [Tryd.params4] at hA hval
  obtain ⟨v0, vs0, d0, ds0, p0, q0, hargs, rfl, rfl, h0, r0⟩ := trodAll_cons hA
  obtain ⟨v1, vs1, d1, ds1, p1, q1, rfl, rfl, rfl, h1, r1⟩ := trodAll_cons r0
  obtain ⟨rfl, rfl, rfl⟩ := trodAll_nil r1
  obtain rfl : args = #[v0, v1] := by cases args; simp_all
  obtain ⟨rfl, rfl⟩ := trodVars_none hV
  have k0 := h0
  have lt0 : ∀ x ∈ p0, x.block < W.heap.size := by obtain ⟨m, hm⟩ := k0; exact DataW.trod_lt m _ _ _ hm
  obtain ⟨c0, rfl, _⟩ := okWide_struct Tryd.underlying45 (hval 0 45 v0 rfl rfl)
  have f0 : Sh.fits W (.field 0 11 (.field 0 1 (.int .u32) (.field 1 1 .bool (.field 2 5 (.field 0 1 (.int .u64) (.field 1 1 (.int .u64) (.field 2 1 (.int .u64) (.field 3 1 (.int .u64) (.field 4 1 (.int .u64) (.stop 5)))))) (.field 7 1 (.int .i64) (.field 8 1 (.int .i64) (.field 9 1 (.int .i64) (.field 10 1 (.int .i64) (.stop 11)))))))) (.field 11 1 .bool (.field 12 1 (.int .i64) (.field 13 3 (.field 0 1 (.int .u64) (.field 1 1 (.int .i64) (.field 2 1 (.int .i64) (.stop 3)))) (.field 16 1 (.slice 1 (.int .i64)) (.stop 17)))))) c0.toList := fits_arg 12 _ (by kernel_rfl) h0
  have k1 := h1
  have lt1 : ∀ x ∈ p1, x.block < W.heap.size := by obtain ⟨m, hm⟩ := k1; exact DataW.trod_lt m _ _ _ hm
  obtain ⟨a1, len1, cap1, rfl⟩ := okWide_slice Tryd.underlying46 (hval 1 46 v1 rfl rfl)
  have f1 : Sh.fits W (.slice 6 (.field 0 1 (.int .i64) (.field 1 1 (.int .i64) (.field 2 1 (.int .u64) (.field 3 1 (.int .u64) (.field 4 1 .bool (.field 5 1 .bool (.stop 6)))))))) [.slice a1 len1 cap1] := fits_arg 12 _ (by kernel_rfl) h1
  clear hA0 hval0
  refine (walk_DueRises c0 a1 len1 cap1 W f0 f1 (of_laid hL)).mono fun e W' ⟨he, ext⟩ => ?_
  have bel := ext.below
  subst he
  exact ⟨_, rfl, _, _, _, [], _, [], hW', trodAll_mk1 (shut_bool Tryd.underlying4 _), (trodAll_cons_mk (Below.trod laidOut (by kernel_rfl) (of_decide_eq_true (by kernel_rfl)) k0 bel lt0) (trodAll_cons_mk (Below.trod laidOut (by kernel_rfl) (of_decide_eq_true (by kernel_rfl)) k1 bel lt1) trodAll_mk0)), rfl, bel.frame _, fun h => by cases h⟩

theorem over : Rows.dueRisesRow.holds Tryd.pinned (OpenSpec.ofChange Rows.dueRisesSpec) :=
  OpenClaim.holds_of_wide 4 Tryd.f4 rfl rfl rfl rfl rfl rfl rfl ⟨rfl, rfl, rfl, rfl, rfl⟩ rfl rfl rfl rfl rfl (by kernel_rfl) Tryd.func4 (by kernel_rfl)
    (of_decide_eq_true (by kernel_rfl)) (by unfold Func.isWrapper; first | (rw [if_pos (by decide +kernel)]; kernel_rfl) | (rw [if_neg (by decide +kernel)]; exact ⟨rfl, rfl⟩))
    (fun os started H enc _ => lifted os started H enc)

theorem proved : Rows.DueRisesCardSaid :=
  Claim7.holds_tied_plain_at .later [] [.data, .data, .data] true (true, "40cc98ec679aa3db2529d0f4b2ced7d331c4885212a805bde6e4de6934d43c22") false
    over (fun _ h => by cases h) (by kernel_rfl) (fun _ h => by cases h) dueRises_row_tie rfl ⟨rfl, rfl⟩ (by kernel_rfl) rfl
    (fun f fn hf hfn => by
      obtain rfl : f = 4 := Option.some.inj ((show Tryd.prog.funcNamed "curfew/curfewlaw13.DueRises" = some 4 by kernel_rfl).symm.trans hf) |>.symm
      obtain rfl : fn = Tryd.f4 := (Option.some.inj (Tryd.func4.symm.trans hfn)).symm
      exact ⟨by kernel_rfl, fun j t ht => by
        rw [Tryd.params4] at ht
        have hm : t ∈ [45, 46] := by simpa using Array.mem_of_getElem? ht
        have hall : ([45, 46].all fun u => !Tryd.prog.wantsStandIn u) = true := by kernel_rfl
        exact (show Tryd.prog.wantsStandIn t = false by simpa using List.all_eq_true.1 hall t hm)⟩)
    (by kernel_rfl)
#print axioms proved
end Go.Proofs.YtjmjfjhiggiglaaDoor.rowDueRises
