/- The law JobSays holds: for every input the call returns true, and each argument reads behind it as it read before. Conditions: none beyond the given row's own. -/
import Derived.Lay
import Derived.Test.YtjdpkihlgpojkaaGreatDoorRows
import Derived.Test.YtjdpkihlgpojkaaGreatDoorTie
import Derived.Test.YtjdpkihlgpojkaaGreatDoorCards
import Derived.Test.YtjdpkihlgpojkaaGreatDoorWSays10
import Derived.ProofKit
import Derived.OpenShut
import Derived.ShutString
import Derived.ChangeOld
import Derived.Below
import Derived.LaidMore
import Derived.Stop.Joined
import Derived.Lib.LaidTab
import Derived.SevenTiedAt
namespace Go.Proofs.YtjdpkihlgpojkaaGreatDoor.rowJobSays
open Go Go.ChangeShapes Go.WideShapes Go.ChangeAt Go.RowKit
open Go.ChangeMaps (open_string shut_string)
set_option linter.unusedVariables false

theorem facts : joinedFacts Tryz.pinned.checked.prog 3 Tryz.f3 Rows.jobSaysSpec Rows.jobSaysRow = true := by kernel_rfl
theorem own : ownKnob Tryz.prog.godebug = none := by kernel_rfl
theorem laidOut : laidOutB Tryz.prog = true := by kernel_rfl
theorem door_met (os : Os) (args : Array Value) : laidMetH Tryz.prog [("curfew/days.long", Rows.laid_curfew_days_long), ("math/bits.deBruijn64tab", Rows.laid_math_bits_deBruijn64tab), ("unicode/utf8.acceptRanges", Rows.laid_unicode_utf8_acceptRanges), ("curfew/field.ends", Rows.laid_curfew_field_ends), ("curfew/field.names", Rows.laid_curfew_field_names), ("curfew/cron.macros", Rows.laid_curfew_cron_macros), ("unicode/utf8.first", Rows.laid_unicode_utf8_first)] ((World.laidAll Tryz.prog os [("curfew/days.long", Rows.laid_curfew_days_long), ("math/bits.deBruijn64tab", Rows.laid_math_bits_deBruijn64tab), ("unicode/utf8.acceptRanges", Rows.laid_unicode_utf8_acceptRanges), ("curfew/field.ends", Rows.laid_curfew_field_ends), ("curfew/field.names", Rows.laid_curfew_field_names), ("curfew/cron.macros", Rows.laid_curfew_cron_macros), ("unicode/utf8.first", Rows.laid_unicode_utf8_first)]).forCall (fun _ _ => 0) ⟨#[], args, []⟩).memory := by
  rw [MakeChecks.laidMetH_plain _ _ _ (by kernel_rfl)]
  exact laidMet_laidAll _ (by kernel_rfl) (by kernel_rfl)
theorem of_laid {W : World} (h : laidMetH Tryz.prog [("curfew/days.long", Rows.laid_curfew_days_long), ("math/bits.deBruijn64tab", Rows.laid_math_bits_deBruijn64tab), ("unicode/utf8.acceptRanges", Rows.laid_unicode_utf8_acceptRanges), ("curfew/field.ends", Rows.laid_curfew_field_ends), ("curfew/field.names", Rows.laid_curfew_field_names), ("curfew/cron.macros", Rows.laid_curfew_cron_macros), ("unicode/utf8.first", Rows.laid_unicode_utf8_first)] W) (hs : W.ShapedOpen Tryz.prog) : LaidOf W := by
  rw [MakeChecks.laidMetH_plain _ _ _ (by kernel_rfl)] at h
  exact laidOf_met h hs (.tail _ (.tail _ (.tail _ ((.head _))))) (.tail _ (.tail _ (.tail _ (.tail _ ((.head _)))))) (.tail _ ((.head _))) (.tail _ (.tail _ (.tail _ (.tail _ (.tail _ ((.head _))))))) ((.head _))
set_option maxRecDepth 100000 in
theorem lifted (os : Os) (started : os.Started) (H : Type) (enc : TypeId × Value → H) :
    ReturnsInHanded {} Tryz.checked os 3 .any (fun w args => (Rows.jobSaysSpec.pre enc Tryz.prog Tryz.f3 [] false w args ∧ laidMetH Tryz.prog [("curfew/days.long", Rows.laid_curfew_days_long), ("math/bits.deBruijn64tab", Rows.laid_math_bits_deBruijn64tab), ("unicode/utf8.acceptRanges", Rows.laid_unicode_utf8_acceptRanges), ("curfew/field.ends", Rows.laid_curfew_field_ends), ("curfew/field.names", Rows.laid_curfew_field_names), ("curfew/cron.macros", Rows.laid_curfew_cron_macros), ("unicode/utf8.first", Rows.laid_unicode_utf8_first)] w) ∧ sizedMet enc Tryz.prog Tryz.f3 (OpenSpec.ofChange Rows.jobSaysSpec) false w args)
      (Rows.jobSaysSpec.post enc Tryz.prog Tryz.f3 false true false false) := by
  refine wrap_shaped (C := Tryz.checked) (X := fun w _ => laidMetH Tryz.prog [("curfew/days.long", Rows.laid_curfew_days_long), ("math/bits.deBruijn64tab", Rows.laid_math_bits_deBruijn64tab), ("unicode/utf8.acceptRanges", Rows.laid_unicode_utf8_acceptRanges), ("curfew/field.ends", Rows.laid_curfew_field_ends), ("curfew/field.names", Rows.laid_curfew_field_names), ("curfew/cron.macros", Rows.laid_curfew_cron_macros), ("unicode/utf8.first", Rows.laid_unicode_utf8_first)] w) (fun _ _ _ hh h => h.of_heap hh) own started (by kernel_rfl) Tryz.func3
    (ChangeSpec.witness_shaped (enc := enc) (C := Tryz.checked) (os := os) (X := fun w _ => laidMetH Tryz.prog [("curfew/days.long", Rows.laid_curfew_days_long), ("math/bits.deBruijn64tab", Rows.laid_math_bits_deBruijn64tab), ("unicode/utf8.acceptRanges", Rows.laid_unicode_utf8_acceptRanges), ("curfew/field.ends", Rows.laid_curfew_field_ends), ("curfew/field.names", Rows.laid_curfew_field_names), ("curfew/cron.macros", Rows.laid_curfew_cron_macros), ("unicode/utf8.first", Rows.laid_unicode_utf8_first)] w) false (World.laidAll Tryz.prog os [("curfew/days.long", Rows.laid_curfew_days_long), ("math/bits.deBruijn64tab", Rows.laid_math_bits_deBruijn64tab), ("unicode/utf8.acceptRanges", Rows.laid_unicode_utf8_acceptRanges), ("curfew/field.ends", Rows.laid_curfew_field_ends), ("curfew/field.names", Rows.laid_curfew_field_names), ("curfew/cron.macros", Rows.laid_curfew_cron_macros), ("unicode/utf8.first", Rows.laid_unicode_utf8_first)]) #[.slice none 0 0] 8 (World.laidAll_os _ _ _) (World.shaped_of_ZipB (by kernel_rfl) (by kernel_rfl)) (by kernel_rfl) (by kernel_rfl) (by kernel_rfl) (door_met os _)) ?_
  intro W base args ds gs before hval0 hW hL hsh
  have hval : ∀ (j : Nat) t v, Tryz.f3.params[j]? = some t → args[j]? = some v → Value.okWide Tryz.prog W .any base t v := hval0
  have hW' := hW
  obtain ⟨p, q, hA0, hV, rfl, hfz, hnd⟩ := hW
  have hA : DataW.TrodAll enc Tryz.prog W 0 (fun _ => true) true Tryz.f3.params.toList args.toList ds p := hA0
  rw [Tryz.params3] at hA hval
  obtain ⟨v0, vs0, d0, ds0, p0, q0, hargs, rfl, rfl, h0, r0⟩ := trodAll_cons hA
  obtain ⟨rfl, rfl, rfl⟩ := trodAll_nil r0
  obtain rfl : args = #[v0] := by cases args; simp_all
  obtain ⟨rfl, rfl⟩ := trodVars_none hV
  have k0 := h0
  have lt0 : ∀ x ∈ p0, x.block < W.heap.size := by obtain ⟨m, hm⟩ := k0; exact DataW.trod_lt m _ _ _ hm
  obtain ⟨a0, len0, cap0, rfl⟩ := okWide_slice Tryz.underlying22 (hval 0 22 v0 rfl rfl)
  have f0 : Sh.fits W (.slice 6 (.field 0 1 (.int .u32) (.field 1 1 .str (.field 2 1 (.int .i64) (.field 3 1 (.int .i64) (.field 4 1 (.int .i64) (.field 5 1 (.int .i64) (.stop 6)))))))) [.slice a0 len0 cap0] := fits_arg 12 _ (by kernel_rfl) h0
  clear hA0 hval0
  refine (walk_JobSays a0 len0 cap0 W f0 (of_laid hL hsh)).mono fun e W' ⟨he, ext⟩ => ?_
  have bel := ext.below
  subst he
  exact ⟨_, rfl, _, _, _, [], _, [], hW', trodAll_mk1 (shut_bool Tryz.underlying4 _), (trodAll_cons_mk (Below.trod laidOut (by kernel_rfl) (of_decide_eq_true (by kernel_rfl)) k0 bel lt0) trodAll_mk0), rfl, bel.frame _, fun h => by cases h⟩

theorem over : Rows.jobSaysRow.holds Tryz.pinned (OpenSpec.ofChange Rows.jobSaysSpec) :=
  OpenClaim.holds_of_wide 3 Tryz.f3 rfl rfl rfl rfl rfl rfl rfl ⟨rfl, rfl, rfl, rfl, rfl⟩ rfl rfl rfl rfl rfl (by kernel_rfl) Tryz.func3 facts
    (of_decide_eq_true (by kernel_rfl)) (by unfold Func.isWrapper; first | (rw [if_pos (by decide +kernel)]; kernel_rfl) | (rw [if_neg (by decide +kernel)]; exact ⟨rfl, rfl⟩))
    (fun os started H enc _ => lifted os started H enc)

theorem proved : Rows.JobSaysCardSaid :=
  Claim7.holds_tied_plain_at .later [] [.data, .data, .data, .data, .data, .data, .pinned] true (true, "6f542f1da2bb4c6fec98d85f03f5dd978d5a78d1a61b09541c4dd98f1495698d") false
    over (fun _ h => by cases h) (by kernel_rfl) (fun _ h => by cases h) jobSays_row_tie rfl ⟨rfl, rfl⟩ (by kernel_rfl) rfl
    (fun f fn hf hfn => by
      obtain rfl : f = 3 := Option.some.inj ((show Tryz.prog.funcNamed "curfew/curfewlaw10.JobSays" = some 3 by kernel_rfl).symm.trans hf) |>.symm
      obtain rfl : fn = Tryz.f3 := (Option.some.inj (Tryz.func3.symm.trans hfn)).symm
      exact ⟨by kernel_rfl, fun j t ht => by
        rw [Tryz.params3] at ht
        have hm : t ∈ [22] := by simpa using Array.mem_of_getElem? ht
        have hall : ([22].all fun u => !Tryz.prog.wantsStandIn u) = true := by kernel_rfl
        exact (show Tryz.prog.wantsStandIn t = false by simpa using List.all_eq_true.1 hall t hm)⟩)
    (by kernel_rfl)
#print axioms proved
end Go.Proofs.YtjdpkihlgpojkaaGreatDoor.rowJobSays
