/- What the row's condition gives: the laid tables of the scheduler, and some number in the library's MaxLen. -/
import Derived.Test.YtbammhmbapeboaaGreatDoorGxa
import Derived.Test.YtbammhmbapeboaaGreatDoorBk
import Derived.Lib.LaidTab
import Derived.ChangeSame
import Derived.HandedShaped
import Derived.Shelf.Vars
namespace Go.Proofs.YtbammhmbapeboaaGreatDoor
open Go Go.B Go.RowKit
set_option linter.unusedVariables false
set_option linter.unusedSectionVars false
set_option maxRecDepth 100000

def LaidOf (w : World) : Prop := Gl gsT w

theorem gl_of {w : World} {g : Nat} {cf : CF} (hf : cf.also w g) (h0 : cf.vals ≠ []) (h : ∀ i u, cf.vals[i]? = some u → w.cell? ⟨g, i, none⟩ = some u) : GlAt w g cf := by
  refine ⟨⟨?_, hf⟩, h⟩
  obtain ⟨v, hv⟩ : ∃ v, cf.vals[0]? = some v := by
    cases hc : cf.vals with
    | nil => exact absurd hc h0
    | cons v l => exact ⟨v, rfl⟩
  have := h 0 v hv
  rcases Nat.lt_or_ge g w.heap.size with k | k
  · exact k
  · simp [World.cell?, Array.getElem?_eq_none k] at this

theorem laid_get {P : Program} {W : World} {n : String} {d : DataW Unit} : ∀ {l : List (String × DataW Unit)} {ps : List MemPlace}, DataW.LaidVars P W l ps → (n, d) ∈ l →
    ∃ g t cs fuel p, P.globalNamed n = some g ∧ (P.globals[g]?).map (·.type) = some t ∧ W.var? P n = some cs ∧ DataW.trod (fun _ => ()) P W 0 (fun _ => true) false fuel t cs.toList = some (d, p)
  | [], _, _, h => by cases h
  | (n', d') :: r, ps, h, hm => by
    obtain ⟨g, t, cs, fuel, p, q, h1, h2, h3, h4, h5, _⟩ := h
    rcases List.mem_cons.mp hm with e | hm
    · cases e; exact ⟨g, t, cs, fuel, p, h1, h2, h3, h4⟩
    · exact laid_get h5 hm

theorem run_cells {enc : TypeId × Value → Unit} {w : World} {base : Nat} {sp : Nat → Bool} {held : Bool} {fuel : Nat} {cs : List Value} {a b : Int} {p : List MemPlace}
    (h : DataW.trod enc Tryz.prog w base sp held fuel 337 cs = some (.agg [.lit (.int .i64 a), .lit (.int .i64 b)], p)) : cs = [.int .i64 a, .int .i64 b] := by
  obtain ⟨y0, y1, n, hx, hl, h0, h1⟩ := Go.ChangeShapes.trod_struct2 Tryz.underlying337 h
  have c0 : Tryz.prog.cellsOf 337 = 2 := by kernel_rfl
  have c1 : Tryz.prog.cellsOf 3 = 1 := by kernel_rfl
  rw [c0] at hl
  simp only [c1] at h0 h1
  obtain ⟨z0, e0, r0, _⟩ := DataW.trod_int Tryz.underlying3 h0
  obtain ⟨z1, e1, r1, _⟩ := DataW.trod_int Tryz.underlying3 h1
  subst r0; subst r1
  simp at hx
  obtain ⟨⟨rfl, rfl⟩, _⟩ := hx
  match cs, hl with
  | [x, y], _ => simp at e0 e1; rw [e0, e1]

abbrev endsD : DataW Unit := .agg [.agg [.lit (.int .i64 0), .lit (.int .i64 59)], .agg [.lit (.int .i64 0), .lit (.int .i64 23)], .agg [.lit (.int .i64 1), .lit (.int .i64 31)], .agg [.lit (.int .i64 1), .lit (.int .i64 12)], .agg [.lit (.int .i64 0), .lit (.int .i64 6)]]

abbrev namesD : DataW Unit := .agg (namesL.map fun s => .lit (.string s.data.toList))

theorem ends_cells {enc : TypeId × Value → Unit} {w : World} {base : Nat} {sp : Nat → Bool} {held : Bool} {fuel : Nat} {cs : List Value} {p : List MemPlace}
    (h : DataW.trod enc Tryz.prog w base sp held fuel 338 cs = some (endsD, p)) :
    cs = endsL.map (Value.int .i64) := by
  obtain ⟨xs, m, _, hx, hl, hn, hf⟩ := DataW.trod_array Tryz.underlying338 h
  have c0 : Tryz.prog.cellsOf 338 = 10 := by kernel_rfl
  have c1 : Tryz.prog.cellsOf 337 = 2 := by kernel_rfl
  rw [c0] at hl
  simp only [c1] at hf
  match xs, hn with
  | [x0, x1, x2, x3, x4], _ =>
    simp only [List.map_cons, List.map_nil, Prod.mk.injEq, DataW.agg.injEq, List.cons.injEq, and_true] at hx
    obtain ⟨⟨e0, e1, e2, e3, e4⟩, _⟩ := hx
    have get : ∀ (i : Nat) (x : DataW Unit × List MemPlace) (a b : Int), i < 5 → [x0, x1, x2, x3, x4][i]? = some x → DataW.agg [.lit (.int .i64 a), .lit (.int .i64 b)] = x.1 → (cs.drop (i * 2)).take 2 = [.int .i64 a, .int .i64 b] := fun i x a b hi hx he => by
      have := hf i hi
      rw [hx] at this
      obtain ⟨d, q⟩ := x
      simp only at he
      subst he
      exact run_cells this
    have k0 := get 0 x0 _ _ (by decide) rfl e0
    have k1 := get 1 x1 _ _ (by decide) rfl e1
    have k2 := get 2 x2 _ _ (by decide) rfl e2
    have k3 := get 3 x3 _ _ (by decide) rfl e3
    have k4 := get 4 x4 _ _ (by decide) rfl e4
    match cs, hl with
    | [a, b, c, d, e, f, g, h, i, j], _ =>
      simp at k0 k1 k2 k3 k4
      simp [endsL, k0, k1, k2, k3, k4]

theorem names_cells {enc : TypeId × Value → Unit} {w : World} {base : Nat} {sp : Nat → Bool} {held : Bool} {fuel : Nat} {cs : List Value} {p : List MemPlace}
    (h : DataW.trod enc Tryz.prog w base sp held fuel 394 cs = some (namesD, p)) :
    cs = namesL.map Value.string := by
  obtain ⟨xs, m, _, hx, hl, hn, hf⟩ := DataW.trod_array Tryz.underlying394 h
  have c0 : Tryz.prog.cellsOf 394 = 5 := by kernel_rfl
  have c1 : Tryz.prog.cellsOf 9 = 1 := by kernel_rfl
  rw [c0] at hl
  simp only [c1] at hf
  match xs, hn with
  | [x0, x1, x2, x3, x4], _ =>
    simp only [namesL, List.map_cons, List.map_nil, Prod.mk.injEq, DataW.agg.injEq, List.cons.injEq, and_true] at hx
    obtain ⟨⟨e0, e1, e2, e3, e4⟩, _⟩ := hx
    have get : ∀ (i : Nat) (x : DataW Unit × List MemPlace) (s : ByteArray), i < 5 → [x0, x1, x2, x3, x4][i]? = some x → DataW.lit (.string s.data.toList) = x.1 → (cs.drop (i * 1)).take 1 = [.string s] := fun i x s hi hx he => by
      have := hf i hi
      rw [hx] at this
      obtain ⟨d, q⟩ := x
      simp only at he
      subst he
      obtain ⟨s', e1, e2, _⟩ := DataW.trod_string Tryz.underlying9 this
      rw [e1]
      simp only [Prod.mk.injEq, DataW.lit.injEq, Lit.string.injEq] at e2
      have : s = s' := ByteArray.ext (Array.toList_inj.mp e2.1)
      rw [this]
    have k0 := get 0 x0 ⟨#[]⟩ (by decide) rfl e0
    have k1 := get 1 x1 ⟨#[]⟩ (by decide) rfl e1
    have k2 := get 2 x2 ⟨#[]⟩ (by decide) rfl e2
    have k3 := get 3 x3 (namesL.getD 3 ⟨#[]⟩) (by decide) rfl e3
    have k4 := get 4 x4 (namesL.getD 4 ⟨#[]⟩) (by decide) rfl e4
    match cs, hl with
    | [a, b, c, d, e], _ =>
      simp at k0 k1 k2 k3 k4
      simp [namesL, k0, k1, k2, k3, k4]

theorem gEnds : Tryz.prog.globalNamed "curfew/field.ends" = some 1 := by kernel_rfl

theorem gNames : Tryz.prog.globalNamed "curfew/field.names" = some 4 := by kernel_rfl

theorem gDb : Tryz.prog.globalNamed "math/bits.deBruijn64tab" = some 2 := by kernel_rfl

theorem at_ends {laid : List (String × DataW Unit)} {W : World} {ps : List MemPlace} (h : DataW.LaidVars Tryz.prog W laid ps) (hm : ("curfew/field.ends", endsD) ∈ laid) : GlAt W 1 (.int .i64 endsL) := by
  obtain ⟨g, t, cs, fuel, p, h1, h2, h3, h4⟩ := laid_get h hm
  obtain rfl := Option.some.inj (gEnds.symm.trans h1)
  obtain rfl := Option.some.inj ((show (Tryz.prog.globals[1]?).map (·.type) = some 338 by kernel_rfl).symm.trans h2)
  have l := ends_cells h4
  have c := fun i => World.var?_cell gEnds h3 i
  refine gl_of (cf := .int .i64 endsL) True.intro (by simp [CF.vals, endsL]) fun i u hu => ?_
  rw [c i, ← Array.getElem?_toList, l]; exact hu

theorem at_names {laid : List (String × DataW Unit)} {W : World} {ps : List MemPlace} (h : DataW.LaidVars Tryz.prog W laid ps) (hm : ("curfew/field.names", namesD) ∈ laid) : GlAt W 4 (.str namesL) := by
  obtain ⟨g, t, cs, fuel, p, h1, h2, h3, h4⟩ := laid_get h hm
  obtain rfl := Option.some.inj (gNames.symm.trans h1)
  obtain rfl := Option.some.inj ((show (Tryz.prog.globals[4]?).map (·.type) = some 394 by kernel_rfl).symm.trans h2)
  have l := names_cells h4
  have c := fun i => World.var?_cell gNames h3 i
  refine gl_of (cf := .str namesL) True.intro (by simp [CF.vals, namesL]) fun i u hu => ?_
  rw [c i, ← Array.getElem?_toList, l]; exact hu

theorem at_db {laid : List (String × DataW Unit)} {W : World} {ps : List MemPlace} (h : DataW.LaidVars Tryz.prog W laid ps) (hm : ("math/bits.deBruijn64tab", Lib.tabData .u8 dbL) ∈ laid) : GlAt W 2 (.int .u8 dbL) := by
  obtain ⟨g, t, cs, fuel, p, h1, h2, h3, h4⟩ := laid_get h hm
  obtain rfl := Option.some.inj (gDb.symm.trans h1)
  obtain rfl := Option.some.inj ((show (Tryz.prog.globals[2]?).map (·.type) = some 390 by kernel_rfl).symm.trans h2)
  have l := Lib.cells_of_tab Tryz.underlying390 Tryz.underlying5 (by kernel_rfl) (by kernel_rfl) h4
  have c := fun i => World.var?_cell gDb h3 i
  refine gl_of (cf := .int .u8 dbL) True.intro (by simp [CF.vals, dbL]) fun i u hu => ?_
  rw [c i, ← Array.getElem?_toList, l]; exact hu

theorem at_max {W : World} (h : W.ShapedOpen Tryz.prog) : GlAt W 3 (.some .i64) := by
  have hm : ∃ m, W.cell? ⟨3, 0, none⟩ = some (.int .i64 m) := cell_of_shapedOpen_int (t := 3) (zero := #[.int .i64 0]) h (of_decide_eq_true (by kernel_rfl)) (by kernel_rfl) rfl (by kernel_rfl) (by kernel_rfl) Tryz.underlying3
  refine ⟨⟨?_, hm⟩, fun i u hu => by simp [CF.vals] at hu⟩
  obtain ⟨m, hm⟩ := hm
  rcases Nat.lt_or_ge 3 W.heap.size with k | k
  · exact k
  · simp [World.cell?, Array.getElem?_eq_none k] at hm

theorem string_cell {enc : TypeId × Value → Unit} {w : World} {base : Nat} {sp : Nat → Bool} {held : Bool} {fuel : Nat} {cs : List Value} {s : ByteArray} {q : List MemPlace}
    (this : DataW.trod enc Tryz.prog w base sp held fuel 9 cs = some (.lit (.string s.data.toList), q)) : cs = [.string s] := by
  obtain ⟨s', e1, e2, _⟩ := DataW.trod_string Tryz.underlying9 this
  rw [e1]
  simp only [Prod.mk.injEq, DataW.lit.injEq, Lit.string.injEq] at e2
  have : s = s' := ByteArray.ext (Array.toList_inj.mp e2.1)
  rw [this]

theorem pair_cells {enc : TypeId × Value → Unit} {w : World} {base : Nat} {sp : Nat → Bool} {held : Bool} {fuel : Nat} {cs : List Value} {a b : ByteArray} {p : List MemPlace}
    (h : DataW.trod enc Tryz.prog w base sp held fuel 323 cs = some (.agg [.lit (.string a.data.toList), .lit (.string b.data.toList)], p)) : cs = [.string a, .string b] := by
  obtain ⟨xs, m, _, hx, hl, hn, hf⟩ := DataW.trod_array Tryz.underlying323 h
  have c0 : Tryz.prog.cellsOf 323 = 2 := by kernel_rfl
  have c1 : Tryz.prog.cellsOf 9 = 1 := by kernel_rfl
  rw [c0] at hl
  simp only [c1] at hf
  match xs, hn with
  | [x0, x1], _ =>
    simp only [List.map_cons, List.map_nil, Prod.mk.injEq, DataW.agg.injEq, List.cons.injEq, and_true] at hx
    obtain ⟨⟨e0, e1⟩, _⟩ := hx
    have get : ∀ (i : Nat) (x : DataW Unit × List MemPlace) (s : ByteArray), i < 2 → [x0, x1][i]? = some x → DataW.lit (.string s.data.toList) = x.1 → (cs.drop (i * 1)).take 1 = [.string s] := fun i x s hi hx he => by
      have := hf i hi
      rw [hx] at this
      obtain ⟨d, q⟩ := x
      simp only at he
      subst he
      exact string_cell this
    have k0 := get 0 x0 a (by decide) rfl e0
    have k1 := get 1 x1 b (by decide) rfl e1
    match cs, hl with
    | [u, v], _ =>
      simp at k0 k1
      simp [k0, k1]

abbrev macrosD : DataW Unit := .agg [.agg [.lit (.string (macrosL.getD 0 ⟨#[]⟩).data.toList), .lit (.string (macrosL.getD 1 ⟨#[]⟩).data.toList)], .agg [.lit (.string (macrosL.getD 2 ⟨#[]⟩).data.toList), .lit (.string (macrosL.getD 3 ⟨#[]⟩).data.toList)], .agg [.lit (.string (macrosL.getD 4 ⟨#[]⟩).data.toList), .lit (.string (macrosL.getD 5 ⟨#[]⟩).data.toList)], .agg [.lit (.string (macrosL.getD 6 ⟨#[]⟩).data.toList), .lit (.string (macrosL.getD 7 ⟨#[]⟩).data.toList)], .agg [.lit (.string (macrosL.getD 8 ⟨#[]⟩).data.toList), .lit (.string (macrosL.getD 9 ⟨#[]⟩).data.toList)], .agg [.lit (.string (macrosL.getD 10 ⟨#[]⟩).data.toList), .lit (.string (macrosL.getD 11 ⟨#[]⟩).data.toList)], .agg [.lit (.string (macrosL.getD 12 ⟨#[]⟩).data.toList), .lit (.string (macrosL.getD 13 ⟨#[]⟩).data.toList)]]

theorem macros_cells {enc : TypeId × Value → Unit} {w : World} {base : Nat} {sp : Nat → Bool} {held : Bool} {fuel : Nat} {cs : List Value} {p : List MemPlace}
    (h : DataW.trod enc Tryz.prog w base sp held fuel 324 cs = some (macrosD, p)) :
    cs = macrosL.map Value.string := by
  obtain ⟨xs, m, _, hx, hl, hn, hf⟩ := DataW.trod_array Tryz.underlying324 h
  have c0 : Tryz.prog.cellsOf 324 = 14 := by kernel_rfl
  have c1 : Tryz.prog.cellsOf 323 = 2 := by kernel_rfl
  rw [c0] at hl
  simp only [c1] at hf
  match xs, hn with
  | [x0, x1, x2, x3, x4, x5, x6], _ =>
    simp only [List.map_cons, List.map_nil, Prod.mk.injEq, DataW.agg.injEq, List.cons.injEq, and_true] at hx
    obtain ⟨⟨e0, e1, e2, e3, e4, e5, e6⟩, _⟩ := hx
    have get : ∀ (i : Nat) (x : DataW Unit × List MemPlace) (a b : ByteArray), i < 7 → [x0, x1, x2, x3, x4, x5, x6][i]? = some x → DataW.agg [.lit (.string a.data.toList), .lit (.string b.data.toList)] = x.1 → (cs.drop (i * 2)).take 2 = [.string a, .string b] := fun i x a b hi hx he => by
      have := hf i hi
      rw [hx] at this
      obtain ⟨d, q⟩ := x
      simp only at he
      subst he
      exact pair_cells this
    have k0 := get 0 x0 (macrosL.getD 0 ⟨#[]⟩) (macrosL.getD 1 ⟨#[]⟩) (by decide) rfl e0
    have k1 := get 1 x1 (macrosL.getD 2 ⟨#[]⟩) (macrosL.getD 3 ⟨#[]⟩) (by decide) rfl e1
    have k2 := get 2 x2 (macrosL.getD 4 ⟨#[]⟩) (macrosL.getD 5 ⟨#[]⟩) (by decide) rfl e2
    have k3 := get 3 x3 (macrosL.getD 6 ⟨#[]⟩) (macrosL.getD 7 ⟨#[]⟩) (by decide) rfl e3
    have k4 := get 4 x4 (macrosL.getD 8 ⟨#[]⟩) (macrosL.getD 9 ⟨#[]⟩) (by decide) rfl e4
    have k5 := get 5 x5 (macrosL.getD 10 ⟨#[]⟩) (macrosL.getD 11 ⟨#[]⟩) (by decide) rfl e5
    have k6 := get 6 x6 (macrosL.getD 12 ⟨#[]⟩) (macrosL.getD 13 ⟨#[]⟩) (by decide) rfl e6
    match cs, hl with
    | [a, b, c, d, e, f, g, h, i, j, k, l, m, n], _ =>
      simp at k0 k1 k2 k3 k4 k5 k6
      simp [macrosL, k0, k1, k2, k3, k4, k5, k6]

theorem gMac : Tryz.prog.globalNamed "curfew/cron.macros" = some 0 := by kernel_rfl

theorem gLong : Tryz.prog.globalNamed "curfew/days.long" = some 7 := by kernel_rfl

theorem at_mac {laid : List (String × DataW Unit)} {W : World} {ps : List MemPlace} (h : DataW.LaidVars Tryz.prog W laid ps) (hm : ("curfew/cron.macros", macrosD) ∈ laid) : GlAt W 0 (.str macrosL) := by
  obtain ⟨g, t, cs, fuel, p, h1, h2, h3, h4⟩ := laid_get h hm
  obtain rfl := Option.some.inj (gMac.symm.trans h1)
  obtain rfl := Option.some.inj ((show (Tryz.prog.globals[0]?).map (·.type) = some 324 by kernel_rfl).symm.trans h2)
  have l := macros_cells h4
  have c := fun i => World.var?_cell gMac h3 i
  refine gl_of (cf := .str macrosL) True.intro (by simp [CF.vals, macrosL]) fun i u hu => ?_
  rw [c i, ← Array.getElem?_toList, l]; exact hu

theorem at_long {laid : List (String × DataW Unit)} {W : World} {ps : List MemPlace} (h : DataW.LaidVars Tryz.prog W laid ps) (hm : ("curfew/days.long", Lib.tabData .i64 longL) ∈ laid) : GlAt W 7 (.int .i64 longL) := by
  obtain ⟨g, t, cs, fuel, p, h1, h2, h3, h4⟩ := laid_get h hm
  obtain rfl := Option.some.inj (gLong.symm.trans h1)
  obtain rfl := Option.some.inj ((show (Tryz.prog.globals[7]?).map (·.type) = some 416 by kernel_rfl).symm.trans h2)
  have l := Lib.cells_of_tab Tryz.underlying416 Tryz.underlying3 (by kernel_rfl) (by kernel_rfl) h4
  have c := fun i => World.var?_cell gLong h3 i
  refine gl_of (cf := .int .i64 longL) True.intro (by simp [CF.vals, longL]) fun i u hu => ?_
  rw [c i, ← Array.getElem?_toList, l]; exact hu

theorem laidOf_met {laid : List (String × DataW Unit)} {W : World} (h : laidMet Tryz.prog laid W) (hs : W.ShapedOpen Tryz.prog) (m1 : ("curfew/field.ends", endsD) ∈ laid) (m2 : ("curfew/field.names", namesD) ∈ laid) (m3 : ("math/bits.deBruijn64tab", Lib.tabData .u8 dbL) ∈ laid) (m4 : ("curfew/cron.macros", macrosD) ∈ laid) (m5 : ("curfew/days.long", Lib.tabData .i64 longL) ∈ laid) : LaidOf W := by
  obtain ⟨ps, hv, _⟩ := h
  intro g cf hg
  unfold gsT at hg
  simp only [assoc] at hg
  repeat' (split at hg)
  all_goals first
    | (rename_i hb; cases hg; have e := Nat.eq_of_beq_eq_true hb; subst e; first | exact at_ends hv m1 | exact at_names hv m2 | exact at_db hv m3 | exact at_mac hv m4 | exact at_long hv m5 | exact at_max hs)
    | cases hg

/-- the plain wrap, with the world's shape handed to the contract -/
theorem wrap_shaped {H : Type} {enc : TypeId × Value → H} {a : Assume} {C : Checked} {os : Os} {f : FuncId} {fn : Func} {s : ChangeSpec} {conds : List PathCond} {apart fresh handsOn again : Bool} {X : World → Array Value → Prop}
    (hX : ∀ (w w' : World) (args : Array Value), w.heap = w'.heap → X w args → X w' args)
    (own : ownKnob C.prog.godebug = none) (started : os.Started) (noInit : C.prog.inits.idxOf? f = none) (hfn : C.prog.funcs[f]? = some fn)
    (witness : ∃ (w : World) (tape : Tape) (i : Input), w.os = os ∧ (w.forCall tape i).Shaped C.prog ∧ i.vars = [] ∧ Input.okWide C.prog (w.forCall tape i) .any w.heap.size f i ∧
      ((s.pre enc C.prog fn conds apart (w.forCall tape i).memory i.args ∧ X (w.forCall tape i).memory i.args) ∧ sizedMet enc C.prog fn (OpenSpec.ofChange s) apart (w.forCall tape i).memory i.args) ∧ a.holds C.prog (lone (Frame.enter C.prog f i.args .normal) [] (w.forCall tape i)))
    (contract : ∀ (W : World) (base : Nat) (args : Array Value) (ds gs : List (DataW H)) (before : List MemPlace),
      (∀ (j : Nat) t v, fn.params[j]? = some t → args[j]? = some v → Value.okWide C.prog W .any base t v) →
      DataW.Whole enc C.prog fn.params.toList s.vars apart W args.toList ds gs before → X W args → W.ShapedOpen C.prog →
      Calls C.prog f args W fun e W' => ∃ v, e = .returned v ∧ s.post enc C.prog fn apart fresh handsOn again W args v W') :
    ReturnsInHanded a C os f .any (fun w args => (s.pre enc C.prog fn conds apart w args ∧ X w args) ∧ sizedMet enc C.prog fn (OpenSpec.ofChange s) apart w args) (s.post enc C.prog fn apart fresh handsOn again) := by
  refine returnsInHanded_of_calls own started noInit witness ?_
  intro w tape i _ hsh _ hok hpre hholds
  obtain ⟨_, _, _, fn', hfn', _, _, _, _, hval⟩ := hok
  obtain rfl : fn' = fn := Option.some.inj (hfn'.symm.trans hfn)
  obtain ⟨⟨⟨ds, gs, before, hw, hc⟩, hx⟩, hz⟩ := hpre
  refine (contract (w.forCall tape i) w.heap.size i.args ds gs before hval (DataW.Whole.of_heap (w' := w.forCall tape i) (by rfl) hw) (hX _ _ _ (by rfl) hx) hsh).mono fun e W' h => ?_
  obtain ⟨v, rfl, hp⟩ := h
  exact ChangeSpec.post_blind hp
end Go.Proofs.YtbammhmbapeboaaGreatDoor
