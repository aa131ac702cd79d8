/- The law TableDues holds: for every input the call returns true, and each argument reads behind it as it read before. Conditions: none beyond the given row's own. -/
import Derived.Lay
import Derived.Test.YtjbpihalfaclkaaGreatDoorRows
import Derived.Test.YtjbpihalfaclkaaGreatDoorTie
import Derived.Test.YtjbpihalfaclkaaGreatDoorCards
import Derived.Test.YtjbpihalfaclkaaGreatDoorWDues11
import Derived.ProofKit
import Derived.OpenShut
import Derived.ShutString
import Derived.ChangeOld
import Derived.Below
import Derived.LaidMore
import Derived.Stop.Joined
import Derived.Lib.LaidTab
import Derived.SevenTiedAt
namespace Go.Proofs.YtjbpihalfaclkaaGreatDoor.rowTableDues
open Go Go.ChangeShapes Go.WideShapes Go.ChangeAt Go.RowKit
open Go.ChangeMaps (open_string shut_string)
set_option linter.unusedVariables false

theorem facts : joinedFacts Tryz.pinned.checked.prog 7 Tryz.f7 Rows.tableDuesSpec Rows.tableDuesRow = true := by kernel_rfl
theorem own : ownKnob Tryz.prog.godebug = none := by kernel_rfl
theorem laidOut : laidOutB Tryz.prog = true := by kernel_rfl
theorem door_met (os : Os) (args : Array Value) : laidMetH Tryz.prog [("curfew/days.long", Rows.laid_curfew_days_long), ("math/bits.deBruijn64tab", Rows.laid_math_bits_deBruijn64tab), ("curfew/field.ends", Rows.laid_curfew_field_ends)] ((World.laidAll Tryz.prog os [("curfew/days.long", Rows.laid_curfew_days_long), ("math/bits.deBruijn64tab", Rows.laid_math_bits_deBruijn64tab), ("curfew/field.ends", Rows.laid_curfew_field_ends)]).forCall (fun _ _ => 0) ⟨#[], args, []⟩).memory := by
  rw [MakeChecks.laidMetH_plain _ _ _ (by kernel_rfl)]
  exact laidMet_laidAll _ (by kernel_rfl) (by kernel_rfl)
theorem of_laid {W : World} (h : laidMetH Tryz.prog [("curfew/days.long", Rows.laid_curfew_days_long), ("math/bits.deBruijn64tab", Rows.laid_math_bits_deBruijn64tab), ("curfew/field.ends", Rows.laid_curfew_field_ends)] W) (hs : W.ShapedOpen Tryz.prog) : LaidOf W := by
  rw [MakeChecks.laidMetH_plain _ _ _ (by kernel_rfl)] at h
  exact laidOf_met h hs (.tail _ (.tail _ ((.head _)))) (.tail _ ((.head _))) ((.head _))
set_option maxRecDepth 100000 in
theorem lifted (os : Os) (started : os.Started) (H : Type) (enc : TypeId × Value → H) :
    ReturnsInHanded {} Tryz.checked os 7 .any (fun w args => (Rows.tableDuesSpec.pre enc Tryz.prog Tryz.f7 [] false w args ∧ laidMetH Tryz.prog [("curfew/days.long", Rows.laid_curfew_days_long), ("math/bits.deBruijn64tab", Rows.laid_math_bits_deBruijn64tab), ("curfew/field.ends", Rows.laid_curfew_field_ends)] w) ∧ sizedMet enc Tryz.prog Tryz.f7 (OpenSpec.ofChange Rows.tableDuesSpec) false w args)
      (Rows.tableDuesSpec.post enc Tryz.prog Tryz.f7 false true false false) := by
  refine wrap_shaped (C := Tryz.checked) (X := fun w _ => laidMetH Tryz.prog [("curfew/days.long", Rows.laid_curfew_days_long), ("math/bits.deBruijn64tab", Rows.laid_math_bits_deBruijn64tab), ("curfew/field.ends", Rows.laid_curfew_field_ends)] w) (fun _ _ _ hh h => h.of_heap hh) own started (by kernel_rfl) Tryz.func7
    (ChangeSpec.witness_shaped (enc := enc) (C := Tryz.checked) (os := os) (X := fun w _ => laidMetH Tryz.prog [("curfew/days.long", Rows.laid_curfew_days_long), ("math/bits.deBruijn64tab", Rows.laid_math_bits_deBruijn64tab), ("curfew/field.ends", Rows.laid_curfew_field_ends)] w) false (World.laidAll Tryz.prog os [("curfew/days.long", Rows.laid_curfew_days_long), ("math/bits.deBruijn64tab", Rows.laid_math_bits_deBruijn64tab), ("curfew/field.ends", Rows.laid_curfew_field_ends)]) #[.slice none 0 0] 8 (World.laidAll_os _ _ _) (World.shaped_of_ZipB (by kernel_rfl) (by kernel_rfl)) (by kernel_rfl) (by kernel_rfl) (by kernel_rfl) (door_met os _)) ?_
  intro W base args ds gs before hval0 hW hL hsh
  have hval : ∀ (j : Nat) t v, Tryz.f7.params[j]? = some t → args[j]? = some v → Value.okWide Tryz.prog W .any base t v := hval0
  have hW' := hW
  obtain ⟨p, q, hA0, hV, rfl, hfz, hnd⟩ := hW
  have hA : DataW.TrodAll enc Tryz.prog W 0 (fun _ => true) true Tryz.f7.params.toList args.toList ds p := hA0
  rw [Tryz.params7] at hA hval
  obtain ⟨v0, vs0, d0, ds0, p0, q0, hargs, rfl, rfl, h0, r0⟩ := trodAll_cons hA
  obtain ⟨rfl, rfl, rfl⟩ := trodAll_nil r0
  obtain rfl : args = #[v0] := by cases args; simp_all
  obtain ⟨rfl, rfl⟩ := trodVars_none hV
  have k0 := h0
  have lt0 : ∀ x ∈ p0, x.block < W.heap.size := by obtain ⟨m, hm⟩ := k0; exact DataW.trod_lt m _ _ _ hm
  obtain ⟨a0, len0, cap0, rfl⟩ := okWide_slice Tryz.underlying54 (hval 0 54 v0 rfl rfl)
  have f0 : Sh.fits W (.slice 17 (.field 0 11 (.field 0 1 (.int .u32) (.field 1 1 .bool (.field 2 5 (.field 0 1 (.int .u64) (.field 1 1 (.int .u64) (.field 2 1 (.int .u64) (.field 3 1 (.int .u64) (.field 4 1 (.int .u64) (.stop 5)))))) (.field 7 1 (.int .i64) (.field 8 1 (.int .i64) (.field 9 1 (.int .i64) (.field 10 1 (.int .i64) (.stop 11)))))))) (.field 11 1 .bool (.field 12 1 (.int .i64) (.field 13 3 (.field 0 1 (.int .u64) (.field 1 1 (.int .i64) (.field 2 1 (.int .i64) (.stop 3)))) (.field 16 1 (.slice 1 (.int .i64)) (.stop 17))))))) [.slice a0 len0 cap0] := fits_arg 12 _ (by kernel_rfl) h0
  clear hA0 hval0
  refine (walk_TableDues a0 len0 cap0 W f0 (of_laid hL hsh)).mono fun e W' ⟨he, ext⟩ => ?_
  have bel := ext.below
  subst he
  exact ⟨_, rfl, _, _, _, [], _, [], hW', trodAll_mk1 (shut_bool Tryz.underlying4 _), (trodAll_cons_mk (Below.trod laidOut (by kernel_rfl) (of_decide_eq_true (by kernel_rfl)) k0 bel lt0) trodAll_mk0), rfl, bel.frame _, fun h => by cases h⟩

theorem over : Rows.tableDuesRow.holds Tryz.pinned (OpenSpec.ofChange Rows.tableDuesSpec) :=
  OpenClaim.holds_of_wide 7 Tryz.f7 rfl rfl rfl rfl rfl rfl rfl ⟨rfl, rfl, rfl, rfl, rfl⟩ rfl rfl rfl rfl rfl (by kernel_rfl) Tryz.func7 facts
    (of_decide_eq_true (by kernel_rfl)) (by unfold Func.isWrapper; first | (rw [if_pos (by decide +kernel)]; kernel_rfl) | (rw [if_neg (by decide +kernel)]; exact ⟨rfl, rfl⟩))
    (fun os started H enc _ => lifted os started H enc)

theorem proved : Rows.TableDuesCardSaid :=
  Claim7.holds_tied_plain_at .later [] [.data, .data, .data] true (true, "594299b2fac281410a7d4bf308edc7c63cacce2bf0fb6389624d44ae09eec2da") false
    over (fun _ h => by cases h) (by kernel_rfl) (fun _ h => by cases h) tableDues_row_tie rfl ⟨rfl, rfl⟩ (by kernel_rfl) rfl
    (fun f fn hf hfn => by
      obtain rfl : f = 7 := Option.some.inj ((show Tryz.prog.funcNamed "curfew/curfewlaw11.TableDues" = some 7 by kernel_rfl).symm.trans hf) |>.symm
      obtain rfl : fn = Tryz.f7 := (Option.some.inj (Tryz.func7.symm.trans hfn)).symm
      exact ⟨by kernel_rfl, fun j t ht => by
        rw [Tryz.params7] at ht
        have hm : t ∈ [54] := by simpa using Array.mem_of_getElem? ht
        have hall : ([54].all fun u => !Tryz.prog.wantsStandIn u) = true := by kernel_rfl
        exact (show Tryz.prog.wantsStandIn t = false by simpa using List.all_eq_true.1 hall t hm)⟩)
    (by kernel_rfl)
#print axioms proved
end Go.Proofs.YtjbpihalfaclkaaGreatDoor.rowTableDues
