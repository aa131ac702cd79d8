/- Functions that call themselves: the outermost call is taken by its body, those within by what is known of them. -/
import Derived.Test.YtdaaipndjhdliaaDoorBl
namespace Go.B
open Go
set_option linter.unusedVariables false
set_option linter.unusedSimpArgs false
set_option linter.unusedSectionVars false

/-- a call, by its body -/
def bodyG (c : Cx) (ok : FuncId → Nat → Nat → Bool) (lp : Nat → FuncId → Nat → Nat → Lp) (n : Nat) (f : FuncId) (fn : Func) (args : List V) (hp : List Blk) (K : V → List Blk → Prop) : Prop := match fn.body with
  | some code => acode c f (acall c ok lp n) (ok f) (lp n f) none code (retK c hp.length fn K) ⟨number 0 args, hp, []⟩
  | none => False
section
variable {P : Program} {c : Cx} (hT : TyOk P c) (hE : EqOk P c) (hF : FnsOk P c) (hm : P.follows .mixedOrders = true)
include hT hE hF hm

theorem full_ent {c' : Cx} (hgs : c'.gs = c.gs) {f : FuncId} {fn : Func} (ok : FuncId → Nat → Nat → Bool) (lp : Nat → FuncId → Nat → Nat → Lp) (hL : LpOk c ok lp) (n : Nat)
    (hf : P.funcs[f]? = some fn) (hname : (fn.name == "runtime.NumGoroutine") = false) (hok : (match fn.body with | some cd => okC fn.ntmps cd | none => true) = true) (hb0 : fn.body.isSome = true) : EntOk P c' f (.full (bodyG c ok lp n f fn)) := by
  have ih := acall_sound hT hE hF hm ok lp hL n
  obtain ⟨code, hb⟩ := Option.isSome_iff_exists.mp hb0
  refine ⟨?_, ?_⟩
  · intro args w
    have h1 : fn.name ≠ "runtime.NumGoroutine" := by simpa using hname
    simp [callFunc, hf, h1, hb, mark]
  · intro args' hp K h ρ w us' R hall
    rw [hgs] at R ⊢
    unfold bodyG at h
    rw [hb] at h hok
    refine callsIn_of_wp_marks hf hb trivial ?_
    have hsz : (us'.toArray ++ Array.replicate (fn.ntmps - us'.toArray.size) undef).size ≥ fn.ntmps := by simp; omega
    have key := acode_sound hT hE hF hm ih f (ok f) (lp n f) (hL n f) code none none (retK c hp.length fn K) ⟨number 0 args', hp, []⟩ { tmps := us'.toArray ++ Array.replicate (fn.ntmps - us'.toArray.size) undef, defers := [] } w ρ h
      (okC_mono hsz code hok) R (TR.args hall _) rfl (Nat.le_refl _) trivial
    refine wpIn_mono key ?_
    rintro e a' w' ⟨q, s', ρ', rfl, k1, k2, k3, k4, k5, k6⟩
    have fin : shutK (resultsOf c ⟨s'.ts, deadAll s'.marks s'.hp, []⟩ fn.results.toList fun vs => leave hp.length (deadAll s'.marks s'.hp) (tupOf vs) K) s'.hp s'.marks →
        LeavesInM Fence.wide 0 P fn a'.tmps (CP c.gs K ρ w) a'.defers .returning w' := by
      intro j
      obtain ⟨j1, j2⟩ := shutK_of j
      refine leaves_sound (fun r o hr => some_lt (R.im r o hr).1) a'.defers s'.marks s'.hp ρ' w' k4 j1 k2 k6 ?_
      intro w2 ρ2 L2 R2 G2
      obtain ⟨vs, u, l1, l2, l3⟩ := results_sound hT (fn := fn) (s := ⟨s'.ts, deadAll s'.marks s'.hp, []⟩) R2 (k3.monoC L2) _ j2
      exact ⟨u, l3, leave_sound l1 R.len l2 R2 G2⟩
    cases q with
    | normal => exact fin k1
    | ret => exact fin k1
    | exit i => exact k1.elim
end
end Go.B
