/- What the row's condition gives: the laid tables; and the law NextTurns of the program. -/
import Derived.Test.YtjmjfjhiggiglaaDoorMh
import Derived.Test.YtjmjfjhiggiglaaDoorBk
import Derived.Lib.LaidTab
import Derived.ChangeSame
namespace Go.Proofs.YtjmjfjhiggiglaaDoor
open Go Go.B Go.RowKit
set_option linter.unusedVariables false
set_option linter.unusedSectionVars false
set_option maxRecDepth 100000

def LaidOf (w : World) : Prop := Gl gsT w

theorem gl_of {w : World} {g : Nat} {cf : CF} (h0 : cf.vals ≠ []) (h : ∀ i u, cf.vals[i]? = some u → w.cell? ⟨g, i, none⟩ = some u) : GlAt w g cf := by
  refine ⟨?_, h⟩
  obtain ⟨v, hv⟩ : ∃ v, cf.vals[0]? = some v := by
    cases hc : cf.vals with
    | nil => exact absurd hc h0
    | cons v l => exact ⟨v, rfl⟩
  have := h 0 v hv
  rcases Nat.lt_or_ge g w.heap.size with k | k
  · exact k
  · simp [World.cell?, Array.getElem?_eq_none k] at this

theorem run_cells {enc : TypeId × Value → Unit} {w : World} {base : Nat} {sp : Nat → Bool} {held : Bool} {fuel : Nat} {cs : List Value} {a b : Int} {p : List MemPlace}
    (h : DataW.trod enc Tryd.prog w base sp held fuel 270 cs = some (.agg [.lit (.int .i64 a), .lit (.int .i64 b)], p)) : cs = [.int .i64 a, .int .i64 b] := by
  obtain ⟨y0, y1, n, hx, hl, h0, h1⟩ := Go.ChangeShapes.trod_struct2 Tryd.underlying270 h
  have c0 : Tryd.prog.cellsOf 270 = 2 := by kernel_rfl
  have c1 : Tryd.prog.cellsOf 3 = 1 := by kernel_rfl
  rw [c0] at hl
  simp only [c1] at h0 h1
  obtain ⟨z0, e0, r0, _⟩ := DataW.trod_int Tryd.underlying3 h0
  obtain ⟨z1, e1, r1, _⟩ := DataW.trod_int Tryd.underlying3 h1
  subst r0; subst r1
  simp at hx
  obtain ⟨⟨rfl, rfl⟩, _⟩ := hx
  match cs, hl with
  | [x, y], _ => simp at e0 e1; rw [e0, e1]

theorem gEnds : Tryd.prog.globalNamed "curfew/field.ends" = some 0 := by kernel_rfl

theorem gLong : Tryd.prog.globalNamed "curfew/days.long" = some 1 := by kernel_rfl

theorem gDb : Tryd.prog.globalNamed "math/bits.deBruijn64tab" = some 2 := by kernel_rfl

theorem ends_cells {enc : TypeId × Value → Unit} {w : World} {base : Nat} {sp : Nat → Bool} {held : Bool} {fuel : Nat} {cs : List Value} {p : List MemPlace}
    (h : DataW.trod enc Tryd.prog w base sp held fuel 271 cs = some (.agg [.agg [.lit (.int .i64 0), .lit (.int .i64 59)], .agg [.lit (.int .i64 0), .lit (.int .i64 23)], .agg [.lit (.int .i64 1), .lit (.int .i64 31)], .agg [.lit (.int .i64 1), .lit (.int .i64 12)], .agg [.lit (.int .i64 0), .lit (.int .i64 6)]], p)) :
    cs = endsL.map (Value.int .i64) := by
  obtain ⟨xs, m, _, hx, hl, hn, hf⟩ := DataW.trod_array Tryd.underlying271 h
  have c0 : Tryd.prog.cellsOf 271 = 10 := by kernel_rfl
  have c1 : Tryd.prog.cellsOf 270 = 2 := by kernel_rfl
  rw [c0] at hl
  simp only [c1] at hf
  match xs, hn with
  | [x0, x1, x2, x3, x4], _ =>
    simp only [List.map_cons, List.map_nil, Prod.mk.injEq, DataW.agg.injEq, List.cons.injEq, and_true] at hx
    obtain ⟨⟨e0, e1, e2, e3, e4⟩, _⟩ := hx
    have get : ∀ (i : Nat) (x : DataW Unit × List MemPlace) (a b : Int), i < 5 → [x0, x1, x2, x3, x4][i]? = some x → DataW.agg [.lit (.int .i64 a), .lit (.int .i64 b)] = x.1 → (cs.drop (i * 2)).take 2 = [.int .i64 a, .int .i64 b] := fun i x a b hi hx he => by
      have := hf i hi
      rw [hx] at this
      obtain ⟨d, q⟩ := x
      simp only at he
      subst he
      exact run_cells this
    have k0 := get 0 x0 _ _ (by decide) rfl e0
    have k1 := get 1 x1 _ _ (by decide) rfl e1
    have k2 := get 2 x2 _ _ (by decide) rfl e2
    have k3 := get 3 x3 _ _ (by decide) rfl e3
    have k4 := get 4 x4 _ _ (by decide) rfl e4
    match cs, hl with
    | [a, b, c, d, e, f, g, h, i, j], _ =>
      simp at k0 k1 k2 k3 k4
      simp [endsL, k0, k1, k2, k3, k4]

theorem laidOf_met {W : World} (h : laidMet Tryd.prog [("curfew/days.long", Lib.tabData .i64 longL), ("math/bits.deBruijn64tab", Lib.tabData .u8 dbL), ("curfew/field.ends", .agg [.agg [.lit (.int .i64 0), .lit (.int .i64 59)], .agg [.lit (.int .i64 0), .lit (.int .i64 23)], .agg [.lit (.int .i64 1), .lit (.int .i64 31)], .agg [.lit (.int .i64 1), .lit (.int .i64 12)], .agg [.lit (.int .i64 0), .lit (.int .i64 6)]])] W) : LaidOf W := by
  obtain ⟨ps, ⟨g1, t1, cs1, f1, p1, q1, hg1, ht1, hv1, hd1, ⟨g2, t2, cs2, f2, p2, q2, hg2, ht2, hv2, hd2, ⟨g3, t3, cs3, f3, p3, q3, hg3, ht3, hv3, hd3, _, _⟩, _⟩, _⟩, _⟩ := h
  obtain rfl := Option.some.inj (gLong.symm.trans hg1)
  obtain rfl := Option.some.inj (gDb.symm.trans hg2)
  obtain rfl := Option.some.inj (gEnds.symm.trans hg3)
  obtain rfl := Option.some.inj ((show (Tryd.prog.globals[1]?).map (·.type) = some 274 by kernel_rfl).symm.trans ht1)
  obtain rfl := Option.some.inj ((show (Tryd.prog.globals[2]?).map (·.type) = some 280 by kernel_rfl).symm.trans ht2)
  obtain rfl := Option.some.inj ((show (Tryd.prog.globals[0]?).map (·.type) = some 271 by kernel_rfl).symm.trans ht3)
  have l1 := Lib.cells_of_tab Tryd.underlying274 Tryd.underlying3 (by kernel_rfl) (by kernel_rfl) hd1
  have l2 := Lib.cells_of_tab Tryd.underlying280 Tryd.underlying5 (by kernel_rfl) (by kernel_rfl) hd2
  have l3 := ends_cells hd3
  have c1 := fun i => World.var?_cell gLong hv1 i
  have c2 := fun i => World.var?_cell gDb hv2 i
  have c3 := fun i => World.var?_cell gEnds hv3 i
  intro g cf hg
  have cases3 : (g = 0 ∧ cf = .int .i64 endsL) ∨ (g = 1 ∧ cf = .int .i64 longL) ∨ (g = 2 ∧ cf = .int .u8 dbL) := by
    unfold gsT at hg
    simp only [assoc] at hg
    split at hg
    · rename_i hb; cases hg; first | exact .inl ⟨(Nat.eq_of_beq_eq_true hb).symm, rfl⟩ | exact .inl ⟨Nat.eq_of_beq_eq_true hb, rfl⟩
    · split at hg
      · rename_i hb; cases hg; first | exact .inr (.inl ⟨(Nat.eq_of_beq_eq_true hb).symm, rfl⟩) | exact .inr (.inl ⟨Nat.eq_of_beq_eq_true hb, rfl⟩)
      · split at hg
        · rename_i hb; cases hg; first | exact .inr (.inr ⟨(Nat.eq_of_beq_eq_true hb).symm, rfl⟩) | exact .inr (.inr ⟨Nat.eq_of_beq_eq_true hb, rfl⟩)
        · cases hg
  have fin : ∀ {cs : Array Value} {g : Nat} {cf : CF}, cs.toList = cf.vals → cf.vals ≠ [] → (∀ i, W.cell? ⟨g, i, none⟩ = cs[i]?) → GlAt W g cf := fun {cs g cf} hc h0 hi => gl_of h0 fun i u hu => by
    rw [hi i, ← Array.getElem?_toList, hc]; exact hu
  rcases cases3 with ⟨rfl, rfl⟩ | ⟨rfl, rfl⟩ | ⟨rfl, rfl⟩
  · exact fin l3 (by simp [CF.vals, endsL]) c3
  · exact fin l1 (by simp [CF.vals, longL]) c1
  · exact fin l2 (by simp [CF.vals, dbL]) c2

abbrev cronSh : Sh := .field 0 1 (.int .u64) (.field 1 1 (.int .u64) (.field 2 1 (.int .u64) (.field 3 1 (.int .u64) (.field 4 1 (.int .u64) (.stop 5)))))

abbrev cronTy : Ty := .pr (.int .u64) (.pr (.int .u64) (.pr (.int .u64) (.pr (.int .u64) (.int .u64))))

theorem cron_arg {w : World} {c : Array Value} (h : Sh.fits w cronSh c.toList) : ∃ k : Cron, k.in ∧ D ⟨[], allM w⟩ (.agg [.int .u64 k.mi, .int .u64 k.ho, .int .u64 k.da, .int .u64 k.mo, .int .u64 k.we]) (.agg c) := by
  obtain ⟨x, hd, h0, h1, h2, h3, h4⟩ := agg_arg (t := cronTy) (by decide) h
  exact ⟨⟨x.1, x.2.1, x.2.2.1, x.2.2.2.1, x.2.2.2.2⟩, ⟨u64_range h0, u64_range h1, u64_range h2, u64_range h3, u64_range h4⟩, hd⟩
end Go.Proofs.YtjmjfjhiggiglaaDoor
