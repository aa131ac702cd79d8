/- What the row's condition gives: the laid table of math/bits. -/
import Derived.Test.YtdaaipndjhdliaaDoorGx
import Derived.Test.YtdaaipndjhdliaaDoorBk
import Derived.Lib.LaidTab
import Derived.ChangeSame
import Derived.HandedShaped
import Derived.Shelf.Vars
namespace Go.Proofs.YtdaaipndjhdliaaDoor
open Go Go.B Go.RowKit
set_option linter.unusedVariables false
set_option linter.unusedSectionVars false
set_option maxRecDepth 100000

def LaidOf (w : World) : Prop := Gl gsT w

theorem gl_of {w : World} {g : Nat} {cf : CF} (hf : cf.also w g) (h0 : cf.vals ≠ []) (h : ∀ i u, cf.vals[i]? = some u → w.cell? ⟨g, i, none⟩ = some u) : GlAt w g cf := by
  refine ⟨⟨?_, hf⟩, h⟩
  obtain ⟨v, hv⟩ : ∃ v, cf.vals[0]? = some v := by
    cases hc : cf.vals with
    | nil => exact absurd hc h0
    | cons v l => exact ⟨v, rfl⟩
  have := h 0 v hv
  rcases Nat.lt_or_ge g w.heap.size with k | k
  · exact k
  · simp [World.cell?, Array.getElem?_eq_none k] at this

theorem laid_get {P : Program} {W : World} {n : String} {d : DataW Unit} : ∀ {l : List (String × DataW Unit)} {ps : List MemPlace}, DataW.LaidVars P W l ps → (n, d) ∈ l →
    ∃ g t cs fuel p, P.globalNamed n = some g ∧ (P.globals[g]?).map (·.type) = some t ∧ W.var? P n = some cs ∧ DataW.trod (fun _ => ()) P W 0 (fun _ => true) false fuel t cs.toList = some (d, p)
  | [], _, _, h => by cases h
  | (n', d') :: r, ps, h, hm => by
    obtain ⟨g, t, cs, fuel, p, q, h1, h2, h3, h4, h5, _⟩ := h
    rcases List.mem_cons.mp hm with e | hm
    · cases e; exact ⟨g, t, cs, fuel, p, h1, h2, h3, h4⟩
    · exact laid_get h5 hm

theorem gDb : Tryd.prog.globalNamed "math/bits.deBruijn64tab" = some 0 := by kernel_rfl

theorem at_db {laid : List (String × DataW Unit)} {W : World} {ps : List MemPlace} (h : DataW.LaidVars Tryd.prog W laid ps) (hm : ("math/bits.deBruijn64tab", Lib.tabData .u8 dbL) ∈ laid) : GlAt W 0 (.int .u8 dbL) := by
  obtain ⟨g, t, cs, fuel, p, h1, h2, h3, h4⟩ := laid_get h hm
  obtain rfl := Option.some.inj (gDb.symm.trans h1)
  obtain rfl := Option.some.inj ((show (Tryd.prog.globals[0]?).map (·.type) = some 132 by kernel_rfl).symm.trans h2)
  have l := Lib.cells_of_tab Tryd.underlying132 Tryd.underlying5 (by kernel_rfl) (by kernel_rfl) h4
  have c := fun i => World.var?_cell gDb h3 i
  refine gl_of (cf := .int .u8 dbL) True.intro (by simp [CF.vals, dbL]) fun i u hu => ?_
  rw [c i, ← Array.getElem?_toList, l]; exact hu

theorem laidOf_met {laid : List (String × DataW Unit)} {W : World} (h : laidMet Tryd.prog laid W) (hs : W.ShapedOpen Tryd.prog) (m3 : ("math/bits.deBruijn64tab", Lib.tabData .u8 dbL) ∈ laid) : LaidOf W := by
  obtain ⟨ps, hv, _⟩ := h
  intro g cf hg
  unfold gsT at hg
  simp only [assoc] at hg
  repeat' (split at hg)
  all_goals first
    | (rename_i hb; cases hg; have e := Nat.eq_of_beq_eq_true hb; subst e; exact at_db hv m3)
    | cases hg

/-- the plain wrap, with the world's shape handed to the contract -/
theorem wrap_shaped {H : Type} {enc : TypeId × Value → H} {a : Assume} {C : Checked} {os : Os} {f : FuncId} {fn : Func} {s : ChangeSpec} {conds : List PathCond} {apart fresh handsOn again : Bool} {X : World → Array Value → Prop}
    (hX : ∀ (w w' : World) (args : Array Value), w.heap = w'.heap → X w args → X w' args)
    (own : ownKnob C.prog.godebug = none) (started : os.Started) (noInit : C.prog.inits.idxOf? f = none) (hfn : C.prog.funcs[f]? = some fn)
    (witness : ∃ (w : World) (tape : Tape) (i : Input), w.os = os ∧ (w.forCall tape i).Shaped C.prog ∧ i.vars = [] ∧ Input.okWide C.prog (w.forCall tape i) .any w.heap.size f i ∧
      ((s.pre enc C.prog fn conds apart (w.forCall tape i).memory i.args ∧ X (w.forCall tape i).memory i.args) ∧ sizedMet enc C.prog fn (OpenSpec.ofChange s) apart (w.forCall tape i).memory i.args) ∧ a.holds C.prog (lone (Frame.enter C.prog f i.args .normal) [] (w.forCall tape i)))
    (contract : ∀ (W : World) (base : Nat) (args : Array Value) (ds gs : List (DataW H)) (before : List MemPlace),
      (∀ (j : Nat) t v, fn.params[j]? = some t → args[j]? = some v → Value.okWide C.prog W .any base t v) →
      DataW.Whole enc C.prog fn.params.toList s.vars apart W args.toList ds gs before → X W args → W.ShapedOpen C.prog →
      Calls C.prog f args W fun e W' => ∃ v, e = .returned v ∧ s.post enc C.prog fn apart fresh handsOn again W args v W') :
    ReturnsInHanded a C os f .any (fun w args => (s.pre enc C.prog fn conds apart w args ∧ X w args) ∧ sizedMet enc C.prog fn (OpenSpec.ofChange s) apart w args) (s.post enc C.prog fn apart fresh handsOn again) := by
  refine returnsInHanded_of_calls own started noInit witness ?_
  intro w tape i _ hsh _ hok hpre hholds
  obtain ⟨_, _, _, fn', hfn', _, _, _, _, hval⟩ := hok
  obtain rfl : fn' = fn := Option.some.inj (hfn'.symm.trans hfn)
  obtain ⟨⟨⟨ds, gs, before, hw, hc⟩, hx⟩, hz⟩ := hpre
  refine (contract (w.forCall tape i) w.heap.size i.args ds gs before hval (DataW.Whole.of_heap (w' := w.forCall tape i) (by rfl) hw) (hX _ _ _ (by rfl) hx) hsh).mono fun e W' h => ?_
  obtain ⟨v, rfl, hp⟩ := h
  exact ChangeSpec.post_blind hp
end Go.Proofs.YtdaaipndjhdliaaDoor
