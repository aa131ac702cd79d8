/- What the row's condition gives, where days.long alone is laid. -/
import Derived.Test.YtjmjfjhiggiglaaDoorMw
import Derived.Test.YtjmjfjhiggiglaaDoorBk
import Derived.Lib.LaidTab
import Derived.ChangeSame
namespace Go.Proofs.YtjmjfjhiggiglaaDoor
open Go Go.B Go.RowKit
set_option linter.unusedVariables false
set_option linter.unusedSectionVars false
set_option maxRecDepth 100000

def LaidOf (w : World) : Prop := Gl gsT w

theorem gl_of {w : World} {g : Nat} {cf : CF} (h0 : cf.vals ≠ []) (h : ∀ i u, cf.vals[i]? = some u → w.cell? ⟨g, i, none⟩ = some u) : GlAt w g cf := by
  refine ⟨?_, h⟩
  obtain ⟨v, hv⟩ : ∃ v, cf.vals[0]? = some v := by
    cases hc : cf.vals with
    | nil => exact absurd hc h0
    | cons v l => exact ⟨v, rfl⟩
  have := h 0 v hv
  rcases Nat.lt_or_ge g w.heap.size with k | k
  · exact k
  · simp [World.cell?, Array.getElem?_eq_none k] at this

theorem gLong : Tryd.prog.globalNamed "curfew/days.long" = some 1 := by kernel_rfl

theorem laidOf_met {W : World} (h : laidMet Tryd.prog [("curfew/days.long", Lib.tabData .i64 longL)] W) : LaidOf W := by
  obtain ⟨ps, ⟨g1, t1, cs1, f1, p1, q1, hg1, ht1, hv1, hd1, _, _⟩, _⟩ := h
  obtain rfl := Option.some.inj (gLong.symm.trans hg1)
  obtain rfl := Option.some.inj ((show (Tryd.prog.globals[1]?).map (·.type) = some 274 by kernel_rfl).symm.trans ht1)
  have l1 := Lib.cells_of_tab Tryd.underlying274 Tryd.underlying3 (by kernel_rfl) (by kernel_rfl) hd1
  have c1 := fun i => World.var?_cell gLong hv1 i
  intro g cf hg
  have case1 : g = 1 ∧ cf = .int .i64 longL := by
    unfold gsT at hg
    simp only [assoc] at hg
    split at hg
    · rename_i hb; cases hg; first | exact ⟨(Nat.eq_of_beq_eq_true hb).symm, rfl⟩ | exact ⟨Nat.eq_of_beq_eq_true hb, rfl⟩
    · cases hg
  have fin : ∀ {cs : Array Value} {g : Nat} {cf : CF}, cs.toList = cf.vals → cf.vals ≠ [] → (∀ i, W.cell? ⟨g, i, none⟩ = cs[i]?) → GlAt W g cf := fun {cs g cf} hc h0 hi => gl_of h0 fun i u hu => by
    rw [hi i, ← Array.getElem?_toList, hc]; exact hu
  obtain ⟨rfl, rfl⟩ := case1
  exact fin l1 (by simp [CF.vals, longL]) c1
end Go.Proofs.YtjmjfjhiggiglaaDoor
