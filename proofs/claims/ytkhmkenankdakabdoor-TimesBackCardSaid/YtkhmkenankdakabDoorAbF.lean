/- Soundness of AbD, second part: single operations. -/
import Derived.Test.YtkhmkenankdakabDoorAbE
import Derived.Laws.CopyRow
import Derived.Laws.Tables
import Derived.Great.BuildSlice
namespace Go.Ab
open Go
set_option linter.unusedVariables false
set_option linter.unusedSimpArgs false

def tdMk : TypeDesc → TD
  | .int k => .int k
  | .bool => .bool
  | .string => .str
  | .pointer e => .ptr e
  | .slice e => .slc e
  | .struct fs => .st (fs.toList.map fun f => (f.type, f.offset))
  | .array n e => .arr n e
  | _ => .other

def tyMk (P : Program) (t : TypeId) : Option TyE :=
  match P.info? t, P.underlying t with
  | some i, some d => match i.zero with
    | some z => some ⟨tdMk d, i.size, z.cells.toList.map lift⟩
    | none => none
  | _, _ => none

def TyOk (P : Program) (c : Cx) : Prop := ∀ t e, assoc t c.ty = some e → tyMk P t = some e

def EqOk (P : Program) (c : Cx) : Prop := ∀ t g xs ys r, assoc t c.eqs = some g → g xs ys = some r → ∀ (ρ : List Nat) (us vs : Array Value) (w : World), Ds ρ xs us.toList → Ds ρ ys vs.toList →
  (Op.equal t (.agg us) (.agg vs)).run P w = .ok r w ∧ P.eqGuardType P.depth t = false

theorem tyMk_spec {P : Program} {t : TypeId} {e : TyE} (h : tyMk P t = some e) :
    ∃ i d z, P.info? t = some i ∧ P.underlying t = some d ∧ i.zero = some z ∧ e.td = tdMk d ∧ e.size = i.size ∧ e.zero = z.cells.toList.map lift := by
  unfold tyMk at h
  split at h
  · rename_i i d hi hd
    split at h
    · rename_i z hz
      cases h
      exact ⟨i, d, z, hi, hd, hz, rfl, rfl, rfl⟩
    · cases h
  · cases h
section
variable {P : Program}

theorem run_size {t : TypeId} {e : TyE} (h : tyMk P t = some e) (w : World) : (sizeOf t).run P w = .ok e.size w := by
  obtain ⟨i, d, z, h1, h2, h3, h4, h5, h6⟩ := tyMk_spec h
  simp [sizeOf, typeInfo, h1, h5]

theorem run_agg {t : TypeId} {e : TyE} (h : tyMk P t = some e) (w : World) : (Go.isAgg t).run P w = .ok (isAgg e.td) w := by
  obtain ⟨i, d, z, h1, h2, h3, h4, h5, h6⟩ := tyMk_spec h
  rw [h4]
  cases d <;> simp [Go.isAgg, run_underlying h2, tdMk, isAgg]

theorem run_zero {t : TypeId} {e : TyE} (h : tyMk P t = some e) (w : World) : ∃ z, (zeroValue t).run P w = .ok z w ∧ e.zero = z.cells.toList.map lift := by
  obtain ⟨i, d, z, h1, h2, h3, h4, h5, h6⟩ := tyMk_spec h
  exact ⟨z, by simp [zeroValue, typeInfo, h1, h3], h6⟩

theorem Ds_zero (ρ : List Nat) (l : List Value) : Ds ρ (l.map lift) l := by
  have := Ds_map (ρ := ρ) lift id l (fun x _ => D_lift x)
  simpa using this
end

theorem get_sound {ρ : List Nat} {s : S} {a : Act} (h : TR ρ s.ts a.tmps) (x : Operand) : D ρ (s.get x) (a.eval x) := by
  cases x with
  | tmp t => exact h t
  | const v => exact D_lift v
  | global g => simp [S.get, D, Act.eval]
  | func f => simp [S.get, D, Ds, Act.eval]

theorem gets_sound {ρ : List Nat} {s : S} {a : Act} (h : TR ρ s.ts a.tmps) (l : List Operand) : Ds ρ (l.map s.get) (l.map a.eval) := Ds_map _ _ l fun x _ => get_sound h x

theorem req_of {b : Bool} {X : Prop} (h : req b X) : b = true ∧ X := by
  cases b
  · exact h.elim
  · exact ⟨rfl, h⟩

theorem tyOf_of {c : Cx} {t : TypeId} {k : TyE → Prop} (h : tyOf c t k) : ∃ e, assoc t c.ty = some e ∧ k e := by
  unfold tyOf at h
  split at h
  · rename_i e he; exact ⟨e, he, h⟩
  · exact h.elim

theorem kindEq_of {k k' : IntKind} (h : kindEq k k' = true) : k = k' := by cases k <;> cases k' <;> first | rfl | cases h

theorem addr_add (g o n : Nat) : (⟨g, o, none⟩ : Addr).add n = ⟨g, o + n, none⟩ := by
  unfold Addr.add; split <;> simp_all

theorem inj {x v : V} {b : Bool} (h : some (x, b) = some (v, true)) : x = v ∧ b = true := by
  simp only [Option.some.injEq, Prod.mk.injEq] at h; exact h

theorem tyO_of {c : Cx} {α : Type} {t : TypeId} {k : TyE → Option α} {r : α} (h : tyO c t k = some r) : ∃ e, assoc t c.ty = some e ∧ k e = some r := by
  unfold tyO at h
  split at h
  · rename_i e he; exact ⟨e, he, h⟩
  · cases h

theorem pt_of {o : Option V} {b : Bool} {v : V} (h : pt o b = some (v, true)) : o = some v ∧ b = true := by
  cases o with
  | none => cases h
  | some x => obtain ⟨rfl, h1⟩ := inj h; exact ⟨rfl, h1⟩

theorem has_int {P : Program} {s : Sem Value} {w : World} (ρ : List Nat) {k : IntKind} {n : Int} {b : Bool} {v : V} (h : some (V.int k n, b) = some (v, true)) (r : s.run P w = .ok (.int k n) w) : ∃ u, D ρ v u ∧ s.run P w = .ok u w := by
  obtain ⟨rfl, _⟩ := inj h
  exact ⟨_, by simp [D], r⟩

theorem has_bool {P : Program} {s : Sem Value} {w : World} (ρ : List Nat) {p : Bool} {b : Bool} {v : V} (h : some (V.bool p, b) = some (v, true)) (r : s.run P w = .ok (.bool p) w) : ∃ u, D ρ v u ∧ s.run P w = .ok u w := by
  obtain ⟨rfl, _⟩ := inj h
  exact ⟨_, by simp [D], r⟩

theorem got_int {P : Program} {s : Sem Next} {w : World} (ρ : List Nat) {k : IntKind} {n : Int} {b : Bool} {v : V} (h : some (V.int k n, b) = some (v, true)) (r : s.run P w = .ok (.value (.int k n)) w) : ∃ u, D ρ v u ∧ s.run P w = .ok (.value u) w := by
  obtain ⟨rfl, _⟩ := inj h
  exact ⟨_, by simp [D], r⟩

theorem got {P : Program} {s : Sem Next} {w : World} {ρ : List Nat} {x v : V} {b : Bool} (h : some (x, b) = some (v, true)) {u : Value} (d : D ρ x u) (r : s.run P w = .ok (.value u) w) : ∃ u, D ρ v u ∧ s.run P w = .ok (.value u) w := by
  obtain ⟨rfl, _⟩ := inj h
  exact ⟨_, d, r⟩

theorem arith_sound {P : Program} {op : BinOp} {k k' : IntKind} {a b : Int} {v : V} (hk : (isShift op || kindEq k k') = true) (h : arith op k a b = some (v, true)) (t : TypeId) (w : World) (ρ : List Nat) :
    ∃ u, D ρ v u ∧ (binOp op t (.int k a) (.int k' b)).run P w = .ok u w := by
  cases op <;> unfold arith at h <;> simp only at h
  case shl =>
    have : ¬ b < 0 := by have := of_decide_eq_true (inj h).2; omega
    exact has_int ρ h (by unfold binOp Op.shift; simp only [if_neg this]; rfl)
  case shr =>
    have : ¬ b < 0 := by have := of_decide_eq_true (inj h).2; omega
    exact has_int ρ h (by unfold binOp Op.shift; simp only [if_neg this]; rfl)
  all_goals obtain rfl : k = k' := kindEq_of (by simpa [isShift] using hk)
  case add => exact has_int ρ h (by unfold binOp; simp only [ne_eq, not_true_eq_false, if_false]; rfl)
  case sub => exact has_int ρ h (by unfold binOp; simp only [ne_eq, not_true_eq_false, if_false]; rfl)
  case mul => exact has_int ρ h (by unfold binOp; simp only [ne_eq, not_true_eq_false, if_false]; rfl)
  case quo =>
    have : ¬ b = 0 := by simpa using (inj h).2
    exact has_int ρ h (by unfold binOp Op.intDiv; simp only [ne_eq, not_true_eq_false, if_false, if_neg this]; rfl)
  case rem =>
    have : ¬ b = 0 := by simpa using (inj h).2
    exact has_int ρ h (by unfold binOp Op.intDiv; simp only [ne_eq, not_true_eq_false, if_false, if_neg this]; rfl)
  case and => exact has_int ρ h (by unfold binOp; simp only [ne_eq, not_true_eq_false, if_false]; rfl)
  case or => exact has_int ρ h (by unfold binOp; simp only [ne_eq, not_true_eq_false, if_false]; rfl)
  case xor => exact has_int ρ h (by unfold binOp; simp only [ne_eq, not_true_eq_false, if_false]; rfl)
  case andNot => exact has_int ρ h (by unfold binOp; simp only [ne_eq, not_true_eq_false, if_false]; rfl)
  all_goals exact has_bool ρ h (by unfold binOp; simp only [ne_eq, not_true_eq_false, if_false]; rfl)

theorem guard_scalar {P : Program} {op : BinOp} {t : TypeId} {x y : Operand} {a b : Value} (w : World) (h : (∃ k n k' m, a = .int k n ∧ b = .int k' m) ∨ (∃ p q, a = .bool p ∧ b = .bool q)) :
    (eqGuard op t x y a b).run P w = .ok () w := by
  rcases h with ⟨k, n, k', m, rfl, rfl⟩ | ⟨p, q, rfl, rfl⟩ <;> cases op <;> simp [eqGuard]

theorem bin_sound {P : Program} {c : Cx} (hT : TyOk P c) (hE : EqOk P c) {op : BinOp} {t : TypeId} {x y v : V} (h : bin c op t x y = some (v, true)) {ρ : List Nat} {u1 u2 : Value} (h1 : D ρ x u1) (h2 : D ρ y u2) (ox oy : Operand) (w : World) :
    ∃ u, D ρ v u ∧ (do eqGuard op t ox oy u1 u2; binOp op t u1 u2 : Sem Value).run P w = .ok u w := by
  unfold bin at h
  split at h
  · rename_i k a k' b
    simp only [D] at h1 h2
    subst h1; subst h2
    split at h
    · rename_i hk
      obtain ⟨u, q2, q3⟩ := arith_sound (P := P) hk h t w ρ
      exact ⟨u, q2, by simp only [Sem.run_bind, guard_scalar (P := P) (op := op) (t := t) (x := ox) (y := oy) w (.inl ⟨k, a, k', b, rfl, rfl⟩), Result.andThen_ok, q3]⟩
    · cases h
  · rename_i a b
    simp only [D] at h1 h2
    subst h1; subst h2
    obtain ⟨e, he, h⟩ := tyO_of h
    obtain ⟨i, d, z, q1, q2, q3, q4, q5, q6⟩ := tyMk_spec (hT _ _ he)
    split at h
    · rename_i htd
      have hd : d = .bool := by
        rw [htd] at q4
        cases d <;> simp [tdMk] at q4 ⊢
      subst hd
      have hg := guard_scalar (P := P) (op := op) (t := t) (x := ox) (y := oy) w (.inr ⟨a, b, rfl, rfl⟩)
      have heq' : ∀ d, (Op.equalIn (d + 1) t (.bool a) (.bool b)).run P w = .ok (a == b) w := fun d => by
        simp [Op.equalIn, run_underlying q2]
      have heq : (Op.equal t (.bool a) (.bool b)).run P w = .ok (a == b) w := heq' 9999
      cases op <;> simp only [eqs] at h <;> first
        | (cases h; done)
        | exact has_bool ρ h (by simp [hg, binOp, heq])
    · cases h
  · rename_i a b
    simp only [D] at h1 h2
    subst h1; subst h2
    have hg : (eqGuard op t ox oy (.string a) (.string b)).run P w = .ok () w := by cases op <;> simp [eqGuard]
    cases op <;> simp only at h <;> first
      | (cases h; done)
      | (have h1 := of_decide_eq_true (inj h).2
         obtain ⟨rfl, _⟩ := inj h
         exact ⟨.string (a ++ b), by simp [D], by
           simp only [Sem.run_bind, hg, Result.andThen_ok]
           have : ¬ (((a.size + b.size : Nat) : Int) > IntKind.i64.max) := by
             have e : IntKind.i64.max = 9223372036854775807 := by decide
             rw [e]; omega
           simp only [binOp, Op.stringOp, if_neg this]; rfl⟩)
      | exact has_bool ρ h (by simp [hg, binOp, Op.stringOp])
  · rename_i xs ys
    simp only [D] at h1 h2
    obtain ⟨us, rfl, d1⟩ := h1
    obtain ⟨vs, rfl, d2⟩ := h2
    split at h
    · cases h
    · rename_i g hg
      split at h
      · cases h
      · rename_i r hr
        obtain ⟨q1, q2⟩ := hE t g xs ys r hg hr ρ us vs w d1 d2
        have hgu : (eqGuard op t ox oy (.agg us) (.agg vs)).run P w = .ok () w := by
          cases op <;> simp [eqGuard, q2]
        cases op <;> simp only [eqs] at h <;> first
          | (cases h; done)
          | exact has_bool ρ h (by simp [hgu, binOp, q1])
  · cases h

theorem un_sound {P : Program} {op : UnOp} {x v : V} (h : un op x = some (v, true)) {ρ : List Nat} {u1 : Value} (h1 : D ρ x u1) (w : World) :
    ∃ u, D ρ v u ∧ (Op.unary op u1).run P w = .ok u w := by
  unfold un at h
  split at h
  · simp only [D] at h1; subst h1
    exact has_int ρ h (by simp [Op.unary, Op.intArith])
  · simp only [D] at h1; subst h1
    exact has_bool ρ h (by simp [Op.unary])
  · cases h

theorem takeAt_spec {vs l : List V} {o n : Nat} (h : takeAt vs o n = some l) : o + n ≤ vs.length ∧ l = (vs.drop o).take n := by
  unfold takeAt at h
  split at h
  · rename_i hb; cases h; exact ⟨Nat.le_of_ble_eq_true hb, rfl⟩
  · cases h

theorem cellsAt_spec {hp : List Blk} {k : Nat} {vs : List V} (h : cellsAt hp k = some vs) : hp[k]? = some (.cells vs) := by
  unfold cellsAt at h
  split at h
  · cases h; assumption
  · cases h

theorem cell_at {w : World} {r : Nat} {us : Array Value} {T : TypeId} {fr : Nat × Nat} (h : w.heap[r]? = some (.cells us T fr)) (i : Nat) : w.cell? ⟨r, i, none⟩ = us[i]? := by simp [World.cell?, h]

/-- a part of a row, read out of memory -/
theorem loadAt_sound' {P : Program} {t : TypeId} {e : TyE} (ht : tyMk P t = some e) {ρ : List Nat} {vs : List V} {us : Array Value} (hd : Ds ρ vs us.toList) {o : Nat} {v : V} (h : part e vs o = some v)
    {w : World} {r : Nat} (hw : ∀ i, i < us.size → w.cell? ⟨r, i, none⟩ = us[i]?) :
    ∃ u, D ρ v u ∧ (loadVar t ⟨r, o, none⟩).run P w = .ok u w := by
  unfold part at h
  split at h
  · rename_i ha
    split at h
    · rename_i l hl
      cases h
      obtain ⟨h1, rfl⟩ := takeAt_spec hl
      have hlen := Ds_len hd
      have hcs : ∀ j v, ((us.toList.drop o).take e.size)[j]? = some v → w.cell? ((⟨r, o, none⟩ : Addr).add j) = some v := fun j v hj => by
        rw [addr_add]
        rw [List.getElem?_take] at hj
        split at hj
        · rw [List.getElem?_drop] at hj
          have hlt : o + j < us.size := by have := (List.getElem?_eq_some_iff.mp hj).1; simpa using this
          show w.cell? ⟨r, o + j, none⟩ = _
          rw [hw _ hlt]; simpa using hj
        · cases hj
      have hl2 : ((us.toList.drop o).take e.size).length = e.size := by simp at hlen ⊢; omega
      have := run_loadCells_list (P := P) w ⟨r, o, none⟩ _ hcs
      rw [hl2] at this
      refine ⟨.agg ((us.toList.drop o).take e.size).toArray, ?_, ?_⟩
      · simp only [D]; exact ⟨_, rfl, Ds_take (Ds_drop hd _) _⟩
      · simp [loadVar, run_agg ht, ha, run_size ht, this]
    · cases h
  · rename_i ha
    obtain ⟨u, h1, h2⟩ := Ds_get hd h
    refine ⟨u, h2, ?_⟩
    have hlt : o < us.size := by have := (List.getElem?_eq_some_iff.mp h1).1; simpa using this
    have : w.cell? ⟨r, o, none⟩ = some u := by rw [hw _ hlt]; simpa using h1
    simp [loadVar, run_agg ht, ha, this]

theorem loadAt_sound {P : Program} {t : TypeId} {e : TyE} (ht : tyMk P t = some e) {ρ : List Nat} {vs : List V} {us : Array Value} (hd : Ds ρ vs us.toList) {o : Nat} {v : V} (h : part e vs o = some v)
    {w : World} {r : Nat} {T : TypeId} {fr : Nat × Nat} (hw : w.heap[r]? = some (.cells us T fr)) :
    ∃ u, D ρ v u ∧ (loadVar t ⟨r, o, none⟩).run P w = .ok u w := loadAt_sound' ht hd h fun i _ => cell_at hw i

/-- a part of a struct's or an array's value -/
theorem part_sound {P : Program} {t : TypeId} {e : TyE} (ht : tyMk P t = some e) {ρ : List Nat} {vs : List V} {us : Array Value} (hd : Ds ρ vs us.toList) {o : Nat} {v : V} (h : part e vs o = some v) (w : World) :
    ∃ u, D ρ v u ∧ (Go.part t us o).run P w = .ok u w := by
  unfold part at h
  split at h
  · rename_i ha
    split at h
    · rename_i l hl
      cases h
      obtain ⟨h1, rfl⟩ := takeAt_spec hl
      refine ⟨.agg (us.extract o (o + e.size)), ?_, by simp [Go.part, run_agg ht, ha, run_size ht]⟩
      simp only [D]
      refine ⟨_, rfl, ?_⟩
      have := Ds_take (Ds_drop hd o) e.size
      have hlen := Ds_len hd
      rw [show (us.extract o (o + e.size)).toList = (us.toList.drop o).take e.size by
        rw [Array.toList_extract, List.extract_eq_take_drop]; congr 1; omega]
      exact this
    · cases h
  · rename_i ha
    obtain ⟨u, h1, h2⟩ := Ds_get hd h
    have h3 : us[o]? = some u := by simpa using h1
    exact ⟨u, h2, by simp [Go.part, run_agg ht, ha, h3]⟩

theorem cells_one {u : Value} (h : u.oneCell' = true) : u.cells = #[u] := by cases u <;> first | rfl | (simp [Value.oneCell'] at h)

theorem D_one {ρ : List Nat} {v : V} {u : Value} (h : D ρ v u) (k : one v = true) : u.oneCell' = true := by
  cases v <;> simp only [one] at k <;> simp only [D] at h <;> first
    | (cases k; done)
    | (subst h; first | rfl | exact k)
    | (obtain ⟨r, _, rfl⟩ := h; rfl)
    | (obtain ⟨as, bs, rfl, _⟩ := h; rfl)

theorem cellsIf_sound {ρ : List Nat} {v : V} {cs : List V} {u : Value} (h : D ρ v u) (k : cellsIf v = some cs) : Ds ρ cs u.cells.toList := by
  unfold cellsIf at k
  split at k
  · cases k
    simp only [D] at h
    obtain ⟨us, rfl, h⟩ := h
    exact h
  · split at k
    · rename_i ho
      cases k
      rw [cells_one (D_one h ho)]
      exact Ds_cons.mpr ⟨u, [], rfl, h, Ds_nil.mpr rfl⟩
    · cases k

theorem setAt_len : ∀ (us : List V) (vs : List V) (o : Nat), (setAt vs o us).length = vs.length
  | [], vs, o => rfl
  | u :: us, vs, o => by simp [setAt, setAt_len us]

theorem setAt_eq : ∀ (us vs : List V) (o : Nat), o + us.length ≤ vs.length → setAt vs o us = vs.take o ++ us ++ vs.drop (o + us.length)
  | [], vs, o, _ => by simp [setAt]
  | u :: us, vs, o, h => by
    simp only [List.length_cons] at h
    rw [setAt, setAt_eq us (vs.set o u) (o + 1) (by simp; omega)]
    apply List.ext_getElem?
    intro i
    simp only [List.getElem?_append, List.length_append, List.length_take, List.length_set, List.getElem?_take, List.getElem?_drop, List.length_cons, List.getElem?_set, List.getElem?_cons]
    have e1 : min (o + 1) vs.length = o + 1 := by omega
    have e2 : min o vs.length = o := by omega
    rw [e1, e2]
    rcases Nat.lt_trichotomy i o with h1 | h1 | h1
    · simp [show i < o + 1 + us.length by omega, show i < o + 1 by omega, show i < o + (us.length + 1) by omega, h1, show ¬ o = i by omega]
    · subst h1
      simp [show i < i + 1 + us.length by omega, show i < i + (us.length + 1) by omega, show i < vs.length by omega]
    · by_cases h2 : i < o + 1 + us.length
      · obtain ⟨j, rfl⟩ : ∃ j, i = o + 1 + j := ⟨i - (o + 1), by omega⟩
        simp [h2, show o + 1 + j < o + (us.length + 1) by omega, show ¬ o + 1 + j < o by omega, show ¬ o + 1 + j - o = 0 by omega, show o + 1 + j - o - 1 = j by omega, show o + 1 + j - (o + 1) = j by omega]
        intro hh; omega
      · simp [h2, show ¬ i < o + (us.length + 1) by omega]
        have : ¬ o = o + 1 + us.length + (i - (o + 1 + us.length)) := by omega
        rw [if_neg this]
        congr 1; omega

theorem fold_sound {ρ : List Nat} (off : Nat) : ∀ (vc : List V) (uc : List Value) (cs : List V) (arr : Array Value) (j : Nat), Ds ρ vc uc → Ds ρ cs arr.toList →
    Ds ρ (setAt cs (off + j) vc) ((uc.zipIdx j).foldl (fun cs (c, j) => cs.setIfInBounds (off + j) c) arr).toList
  | [], uc, cs, arr, j, h, k => by rw [Ds_nil] at h; subst h; simpa [setAt] using k
  | v :: vc, uc, cs, arr, j, h, k => by
    rw [Ds_cons] at h
    obtain ⟨u, us', rfl, h1, h2⟩ := h
    simp only [List.zipIdx_cons, List.foldl_cons, setAt]
    have := fold_sound off vc us' (cs.set (off + j) v) (arr.setIfInBounds (off + j) u) (j + 1) h2 (by simpa using Ds_set k (off + j) h1)
    rw [show off + (j + 1) = off + j + 1 by omega] at this
    exact this

def Ps (ρ : List Nat) : List (Nat × V) → List (Nat × Value) → Prop
  | [], l => l = []
  | (i, v) :: ps, l => ∃ u l', l = (i, u) :: l' ∧ D ρ v u ∧ Ps ρ ps l'

theorem Ps_map {ρ : List Nat} (f : Operand → V) (g : Operand → Value) (h : ∀ x, D ρ (f x) (g x)) : ∀ l : List (Nat × Operand), Ps ρ (l.map fun p => (p.1, f p.2)) (l.map fun p => (p.1, g p.2))
  | [] => rfl
  | (i, x) :: l => ⟨_, _, rfl, h x, Ps_map f g h l⟩

theorem fill_sound {ρ : List Nat} (place : Nat → Option (Nat × Nat)) : ∀ (ps : List (Nat × V)) (l : List (Nat × Value)) (cs : List V) (arr : Array Value) (cs' : List V), Ps ρ ps l → Ds ρ cs arr.toList →
    fillAt place cs ps = some cs' → ∃ arr' : Array Value, Instr.fill place arr l = some arr' ∧ Ds ρ cs' arr'.toList
  | [], l, cs, arr, cs', h, k, q => by
    have : l = [] := h
    subst this
    simp only [fillAt, Option.some.injEq] at q
    subst q
    exact ⟨arr, rfl, k⟩
  | (i, v) :: ps, l, cs, arr, cs', h, k, q => by
    obtain ⟨u, l', rfl, h1, h2⟩ := h
    unfold fillAt at q
    split at q
    · rename_i off sz vc hp hc
      split at q
      · rename_i hb
        simp only [Bool.and_eq_true] at hb
        have hs := Nat.eq_of_beq_eq_true hb.1
        have hle := Nat.le_of_ble_eq_true hb.2
        have hcs := cellsIf_sound h1 hc
        have hlen := Ds_len hcs
        have hlen2 := Ds_len k
        have h3 := fold_sound off vc u.cells.toList cs arr 0 hcs k
        obtain ⟨arr', h4, h5⟩ := fill_sound place ps l' _ (u.cells.zipIdx.foldl (fun cs (c, j) => cs.setIfInBounds (off + j) c) arr) cs' h2 (by
          rw [← Array.foldl_toList, Array.toList_zipIdx]
          exact h3) q
        refine ⟨arr', ?_, h5⟩
        unfold Instr.fill
        have e1 : ¬ (u.cells.size ≠ sz) := by simp at hlen ⊢; omega
        have e2 : ¬ (off + u.cells.size > arr.size) := by simp at hlen hlen2 ⊢; omega
        simp only [hp]
        rw [if_neg (by simp only [Bool.or_eq_true, decide_eq_true_eq]; exact fun h => h.elim (fun h => e1 h) e2)]
        exact h4
      · cases q
    · cases q

theorem places_sound {P : Program} {c : Cx} (hT : TyOk P c) : ∀ (fs : List Field) (pl : List (Nat × Nat)), placesOf c (fs.map fun f => (f.type, f.offset)) = some pl →
    fs.mapM (fun f => (P.info? f.type).map fun i => (f.offset, i.size)) = some pl
  | [], pl, h => by simp [placesOf] at h; subst h; rfl
  | f :: fs, pl, h => by
    simp only [List.map_cons, placesOf] at h
    split at h
    · rename_i e r he hr
      cases h
      obtain ⟨i, d, z, q1, q2, q3, q4, q5, q6⟩ := tyMk_spec (hT _ _ he)
      have ih := places_sound hT fs r hr
      simp [List.mapM_cons, q1, ih, q5]
    · cases h

section
variable {P : Program} {c : Cx} (hT : TyOk P c) (hE : EqOk P c)
include hT hE

set_option maxHeartbeats 2000000 in
theorem look_sound {s : S} {o : Oper} {v : V} (h : look c s o = some (v, true)) {ρ : List Nat} {a : Act} {w : World} (R : Rel c.gs ρ s.hp w) (T : TR ρ s.ts a.tmps) :
    ∃ u, D ρ v u ∧ (execOp a.eval o).run P w = .ok (.value u) w := by
  have G := fun x => get_sound (s := s) (a := a) T x
  unfold look at h
  split at h
  · -- move
    rename_i x ho
    exact got h (G x) (by simp [execOp, ho])
  · rename_i x ho
    exact got h (G x) (by simp [execOp, ho])
  · -- pick
    rename_i x p q ho
    split at h
    · rename_i b hb
      have hx := G x
      rw [hb] at hx
      simp only [D] at hx
      cases b
      · exact got h (G q) (by simp [execOp, ho, hx, asBool])
      · exact got h (G p) (by simp [execOp, ho, hx, asBool])
    · cases h
  · -- load
    rename_i t x ho
    obtain ⟨e, he, h⟩ := tyO_of h
    have ht := hT _ _ he
    have hx := G x
    split at h
    · rename_i k off hk
      rw [hk] at hx
      simp only [D] at hx
      obtain ⟨r, hr, hu⟩ := hx
      split at h
      · rename_i vs hvs
        obtain ⟨hv, _⟩ := pt_of h
        obtain ⟨ob, h1, us, T', rfl, h2⟩ := R.blk _ _ _ (cellsAt_spec hvs) hr
        obtain ⟨u, h3, h4⟩ := loadAt_sound (P := P) ht h2 hv h1
        exact ⟨u, h3, by simp [execOp, ho, hu, Instr.loadAt, Instr.sureAddr, h4]⟩
      · cases h
    · rename_i g off hk
      rw [hk] at hx
      simp only [D] at hx
      split at h
      · rename_i ha
        split at h
        · rename_i k ns hg
          have hle := Nat.le_of_ble_eq_true (inj h).2
          obtain ⟨_, h2⟩ := R.gl _ _ _ hg
          have hd : Ds ρ (ns.map (V.int k)) (ns.map (Value.int k)).toArray.toList := by
            rw [List.toList_toArray]
            exact Ds_map _ _ ns fun x _ => by simp [D]
          have hpart : part e (ns.map (V.int k)) off = some (.agg ((List.range e.size).map fun i => .int k (ns.getD (off + i) 0))) := by
            unfold part
            rw [ha]
            simp only
            unfold takeAt
            have : Nat.ble (off + e.size) (ns.map (V.int k)).length = true := by rw [List.length_map]; exact (inj h).2
            rw [this]
            simp only [Option.some.injEq, V.agg.injEq]
            apply List.ext_getElem?
            intro i
            rw [List.getElem?_take, List.getElem?_map]
            by_cases hi : i < e.size
            · rw [if_pos hi, List.getElem?_drop, List.getElem?_map, List.getElem?_range hi, List.getElem?_eq_getElem (by omega)]
              simp [List.getD_eq_getElem?_getD, List.getElem?_eq_getElem (show off + i < ns.length by omega)]
            · rw [if_neg hi, List.getElem?_eq_none (by simp; omega)]; rfl
          obtain ⟨u, h3, h4⟩ := loadAt_sound' (P := P) (w := w) (r := g) ht hd hpart (fun i hi => by
            have hi' : i < ns.length := by simpa using hi
            rw [h2.2 i hi']
            simp [List.getD_eq_getElem?_getD, List.getElem?_eq_getElem hi'])
          exact got h h3 (by simp [execOp, ho, hx, Instr.loadAt, Instr.sureAddr, h4])
        · cases h
      · rename_i ha
        split at h
        · rename_i k ns hg
          have hlt : off < ns.length := by simpa [Nat.blt_eq] using (inj h).2
          obtain ⟨_, h2⟩ := R.gl _ _ _ hg
          have : w.cell? ⟨g, off, none⟩ = some (.int k (ns.getD off 0)) := h2.2 off hlt
          exact got_int ρ h (by simp [execOp, ho, hx, Instr.loadAt, Instr.sureAddr, loadVar, run_agg ht, ha, this])
        · cases h
    · cases h
  · -- nilCheck
    rename_i x ho
    have hx := G x
    split at h
    · rename_i k off hk
      rw [hk] at hx
      have hx' := hx
      simp only [D] at hx'
      obtain ⟨r, hr, hu⟩ := hx'
      exact got h hx (by simp [execOp, ho, hu])
    · rename_i k off hk
      rw [hk] at hx
      have hx' := hx
      simp only [D] at hx'
      exact got h hx (by simp [execOp, ho, hx'])
    · rename_i f as bs hk
      rw [hk] at hx
      have hx' := hx
      simp only [D] at hx'
      obtain ⟨p, q, hu, _⟩ := hx'
      exact got h hx (by simp [execOp, ho, hu])
    · cases h
  · -- binOp
    rename_i op t x y yt ho
    obtain ⟨u, h2, h3⟩ := bin_sound hT hE h (G x) (G y) x y w
    refine ⟨u, h2, ?_⟩
    simp only [execOp, ho]
    show ((do eqGuard op t x y (a.eval x) (a.eval y); binOp op t (a.eval x) (a.eval y) : Sem Value) >>= fun r => pure (Next.value r)).run P w = _
    rw [Sem.run_bind, h3]
    rfl
  · -- unOp
    rename_i op t x ho
    obtain ⟨u, h2, h3⟩ := un_sound (P := P) h (G x) w
    exact ⟨u, h2, by simp [execOp, ho, h3]⟩
  · -- convert
    rename_i t d x ho
    obtain ⟨e0, he0, h⟩ := tyO_of h
    obtain ⟨e, he, h⟩ := tyO_of h
    obtain ⟨i0, d0, z0, p1, p2, p3, p4, p5, p6⟩ := tyMk_spec (hT _ _ he0)
    obtain ⟨i, dd, z, q1, q2, q3, q4, q5, q6⟩ := tyMk_spec (hT _ _ he)
    have hx := G x
    split at h
    · rename_i k htd
      have hd : dd = .int k := by
        rw [htd] at q4
        cases dd <;> simp [tdMk] at q4 ⊢
        exact q4.symm
      subst hd
      split at h
      · rename_i k' n hk
        rw [hk] at hx
        simp only [D] at hx
        exact got_int ρ h (by simp [execOp, ho, hx, convert, run_underlying p2, run_underlying q2, Conv.intToInt])
      · cases h
    · cases h
  · -- fieldAddr
    rename_i t x f ho
    obtain ⟨e, he, h⟩ := tyO_of h
    obtain ⟨i, d, z, q1, q2, q3, q4, q5, q6⟩ := tyMk_spec (hT _ _ he)
    have hx := G x
    split at h
    · rename_i fs htd
      obtain ⟨fields, rfl, hfs⟩ : ∃ fields : Array Field, d = .struct fields ∧ fs = fields.toList.map fun f => (f.type, f.offset) := by
        rw [htd] at q4
        cases d <;> simp [tdMk] at q4 ⊢
        exact q4
      split at h
      · rename_i ft off hf
        rw [hfs, List.getElem?_map] at hf
        obtain ⟨fd, hfd, heq⟩ := Option.map_eq_some_iff.mp hf
        have hfd' : fields[f]? = some fd := by simpa using hfd
        cases heq
        obtain ⟨fe, hfe, h⟩ := tyO_of h
        have hsz := run_size (hT _ _ hfe) w
        split at h
        · cases h
        rename_i h1
        have hne : ¬ fe.size = 0 := by
          intro e0; rw [e0] at h1; cases h1
        split at h
        · rename_i k off' hk
          rw [hk] at hx
          simp only [D] at hx
          obtain ⟨r, hr, hu⟩ := hx
          refine got h (u := .pointer (some ⟨r, off' + fd.offset, none⟩)) ?_ ?_
          · simp only [D]; exact ⟨r, hr, rfl⟩
          · simp [execOp, ho, hu, Instr.fieldAt, run_underlying q2, hfd', Instr.sureAddr, fieldPlace, hsz, hne, addr_add]
        · rename_i g off' hk
          rw [hk] at hx
          simp only [D] at hx
          refine got h (u := .pointer (some ⟨g, off' + fd.offset, none⟩)) ?_ ?_
          · simp only [D]
          · simp [execOp, ho, hx, Instr.fieldAt, run_underlying q2, hfd', Instr.sureAddr, fieldPlace, hsz, hne, addr_add]
        · cases h
      · cases h
    · cases h
  · -- field
    rename_i t x f ho
    obtain ⟨e, he, h⟩ := tyO_of h
    obtain ⟨i, d, z, q1, q2, q3, q4, q5, q6⟩ := tyMk_spec (hT _ _ he)
    have hx := G x
    split at h
    · rename_i fs htd
      obtain ⟨fields, rfl, hfs⟩ : ∃ fields : Array Field, d = .struct fields ∧ fs = fields.toList.map fun f => (f.type, f.offset) := by
        rw [htd] at q4
        cases d <;> simp [tdMk] at q4 ⊢
        exact q4
      split at h
      · rename_i ft off hf
        rw [hfs, List.getElem?_map] at hf
        obtain ⟨fd, hfd, heq⟩ := Option.map_eq_some_iff.mp hf
        have hfd' : fields[f]? = some fd := by simpa using hfd
        cases heq
        obtain ⟨fe, hfe, h⟩ := tyO_of h
        split at h
        · rename_i cs hk
          rw [hk] at hx
          simp only [D] at hx
          obtain ⟨us, hu, hd⟩ := hx
          obtain ⟨hv, _⟩ := pt_of h
          obtain ⟨u, h1, h2⟩ := part_sound (P := P) (hT _ _ hfe) hd hv w
          exact ⟨u, h1, by simp [execOp, ho, hu, Instr.field, run_underlying q2, hfd', asAgg, h2]⟩
        · cases h
      · cases h
    · cases h
  · -- extract
    rename_i x i ho
    have hx := G x
    split at h
    · rename_i vs hk
      rw [hk] at hx
      simp only [D] at hx
      obtain ⟨us, hu, hd⟩ := hx
      obtain ⟨hv, _⟩ := pt_of h
      obtain ⟨u, h1, h2⟩ := Ds_get hd hv
      have h3 : us[i]? = some u := by simpa using h1
      exact ⟨u, h2, by simp [execOp, ho, hu, Instr.extract, h3]⟩
    · cases h
  · -- indexAddr
    rename_i t x ix ho
    obtain ⟨e, he, h⟩ := tyO_of h
    obtain ⟨i, d, z, q1, q2, q3, q4, q5, q6⟩ := tyMk_spec (hT _ _ he)
    have hx := G x
    have hi := G ix
    split at h
    · rename_i kk j hj
      rw [hj] at hi
      simp only [D] at hi
      split at h
      · rename_i n el htd
        have hd : d = .array n el := by
          rw [htd] at q4
          cases d <;> simp [tdMk] at q4 ⊢
          exact ⟨q4.1.symm, q4.2.symm⟩
        subst hd
        obtain ⟨ee, hee, h⟩ := tyO_of h
        have hsz := run_size (hT _ _ hee) w
        split at h
        · rename_i k off hk
          rw [hk] at hx
          simp only [D] at hx
          obtain ⟨r, hr, hu⟩ := hx
          have h1 := (inj h).2
          simp only [Bool.and_eq_true, decide_eq_true_eq] at h1
          refine got h (u := .pointer (some ⟨r, off + j.toNat * ee.size, none⟩)) ?_ ?_
          · simp only [D]; exact ⟨r, hr, rfl⟩
          · simp [execOp, ho, hu, hi, Instr.indexAt, asIntOf, run_underlying q2, Instr.sureAddr, h1, hsz, addr_add]
        · rename_i g off hk
          rw [hk] at hx
          simp only [D] at hx
          have h1 := (inj h).2
          simp only [Bool.and_eq_true, decide_eq_true_eq] at h1
          refine got h (u := .pointer (some ⟨g, off + j.toNat * ee.size, none⟩)) ?_ ?_
          · simp only [D]
          · simp [execOp, ho, hx, hi, Instr.indexAt, asIntOf, run_underlying q2, Instr.sureAddr, h1, hsz, addr_add]
        · cases h
      · rename_i el htd
        have hd : d = .slice el := by
          rw [htd] at q4
          cases d <;> simp [tdMk] at q4 ⊢
          exact q4.symm
        subst hd
        obtain ⟨ee, hee, h⟩ := tyO_of h
        have hsz := run_size (hT _ _ hee) w
        split at h
        · rename_i k off n cp hk
          rw [hk] at hx
          simp only [D] at hx
          obtain ⟨r, hr, hu⟩ := hx
          have h1 := (inj h).2
          simp only [Bool.and_eq_true, decide_eq_true_eq] at h1
          refine got h (u := .pointer (some ⟨r, off + j.toNat * ee.size, none⟩)) ?_ ?_
          · simp only [D]; exact ⟨r, hr, rfl⟩
          · simp [execOp, ho, hu, hi, Instr.indexAt, asIntOf, run_underlying q2, Instr.sureAddr, h1, hsz, addr_add]
        · cases h
      · cases h
    · cases h
  · -- index
    rename_i t x ix ho
    obtain ⟨e, he, h⟩ := tyO_of h
    obtain ⟨i, d, z, q1, q2, q3, q4, q5, q6⟩ := tyMk_spec (hT _ _ he)
    have hx := G x
    have hi := G ix
    split at h
    · rename_i kk j hj
      rw [hj] at hi
      simp only [D] at hi
      split at h
      · rename_i n el htd
        have hd : d = .array n el := by
          rw [htd] at q4
          cases d <;> simp [tdMk] at q4 ⊢
          exact ⟨q4.1.symm, q4.2.symm⟩
        subst hd
        obtain ⟨ee, hee, h⟩ := tyO_of h
        have hsz := run_size (hT _ _ hee) w
        split at h
        · rename_i cs hk
          rw [hk] at hx
          simp only [D] at hx
          obtain ⟨us, hu, hd⟩ := hx
          obtain ⟨hv, h1⟩ := pt_of h
          simp only [Bool.and_eq_true, decide_eq_true_eq] at h1
          obtain ⟨u, h3, h4⟩ := part_sound (P := P) (hT _ _ hee) hd hv w
          exact ⟨u, h3, by simp [execOp, ho, hu, hi, Instr.index, asIntOf, run_underlying q2, h1, hsz, h4]⟩
        · cases h
      · rename_i htd
        have hd : d = .string := by
          rw [htd] at q4
          cases d <;> simp [tdMk] at q4 ⊢
        subst hd
        split at h
        · rename_i bs hk
          rw [hk] at hx
          simp only [D] at hx
          have h1 := (inj h).2
          simp only [Bool.and_eq_true, decide_eq_true_eq] at h1
          have hlt : j.toNat < bs.size := by omega
          have e1 : bs[j.toNat]? = some (bs.data.toList.getD j.toNat 0) := by
            rw [getElem?_pos bs j.toNat hlt]
            congr 1
            have : j.toNat < bs.data.size := hlt
            show bs.data[j.toNat] = _
            rw [List.getD_eq_getElem?_getD, Array.getElem?_toList, Array.getElem?_eq_getElem this]; rfl
          exact got_int ρ h (by simp [execOp, ho, hx, hi, Instr.index, asIntOf, run_underlying q2, h1.1, e1])
        · cases h
      · cases h
    · cases h
  · -- slice
    rename_i t x lo hi' mx ho
    split at h
    · cases h
    · obtain ⟨e, he, h⟩ := tyO_of h
      obtain ⟨i, d, z, q1, q2, q3, q4, q5, q6⟩ := tyMk_spec (hT _ _ he)
      have hx := G x
      split at h
      · rename_i htd
        have hd : d = .string := by
          rw [htd] at q4
          cases d <;> simp [tdMk] at q4 ⊢
        subst hd
        split at h
        · rename_i bs hk
          rw [hk] at hx
          simp only [D] at hx
          cases hi' with
          | none =>
            cases lo with
            | none => exact got h (u := .string (bs.extract 0 bs.size)) (by simp [D]) (by simp [execOp, ho, hx, Instr.sliceAt, Instr.slice, Instr.sliceBounds, run_underlying q2])
            | some l =>
              have hl := G l
              simp only at h
              split at h
              · rename_i kk l' hl'
                rw [hl'] at hl
                simp only [D] at hl
                have h1 := (inj h).2
                simp only [Bool.and_eq_true, decide_eq_true_eq] at h1
                exact got h (u := .string (bs.extract l'.toNat bs.size)) (by simp [D]) (by simp [execOp, ho, hx, hl, Instr.sliceAt, Instr.slice, Instr.sliceBounds, Instr.sliceBound, asIntOf, run_underlying q2, h1])
              · cases h
          | some hh =>
            have hh' := G hh
            simp only at h
            split at h
            · rename_i kk h' hk'
              rw [hk'] at hh'
              simp only [D] at hh'
              cases lo with
              | none =>
                have h1 := (inj h).2
                simp only [Bool.and_eq_true, decide_eq_true_eq] at h1
                exact got h (u := .string (bs.extract 0 h'.toNat)) (by simp [D]) (by simp [execOp, ho, hx, hh', Instr.sliceAt, Instr.slice, Instr.sliceBounds, Instr.sliceBound, asIntOf, run_underlying q2, h1])
              | some l =>
                have hl := G l
                simp only at h
                split at h
                · rename_i kk2 l' hl'
                  rw [hl'] at hl
                  simp only [D] at hl
                  have h1 := (inj h).2
                  simp only [Bool.and_eq_true, decide_eq_true_eq] at h1
                  obtain ⟨⟨h1, h2⟩, h3, h4⟩ := h1
                  exact got h (u := .string (bs.extract l'.toNat h'.toNat)) (by simp [D]) (by simp [execOp, ho, hx, hh', hl, Instr.sliceAt, Instr.slice, Instr.sliceBounds, Instr.sliceBound, asIntOf, run_underlying q2, h1, h2, h3, show l' ≤ ((h'.toNat : Nat) : Int) by omega, h4, show max h' 0 = h' by omega])
                · cases h
            · cases h
        · cases h
      · cases h
  · -- build
    rename_i t parts ho
    obtain ⟨e, he, h⟩ := tyO_of h
    obtain ⟨i, d, z, q1, q2, q3, q4, q5, q6⟩ := tyMk_spec (hT _ _ he)
    have hps : Ps ρ (parts.toList.map fun p => (p.1, s.get p.2)) (parts.map fun p => (p.1, a.eval p.2)).toList := by
      simpa using Ps_map s.get a.eval G parts.toList
    split at h
    · rename_i fs htd
      obtain ⟨fields, rfl, hfs⟩ : ∃ fields : Array Field, d = .struct fields ∧ fs = fields.toList.map fun f => (f.type, f.offset) := by
        rw [htd] at q4
        cases d <;> simp [tdMk] at q4 ⊢
        exact q4
      split at h
      · rename_i pl hpl
        rw [hfs] at hpl
        have hpl' := places_sound hT _ _ hpl
        split at h
        · rename_i cs hcs
          obtain ⟨arr, h1, h2⟩ := fill_sound (ρ := ρ) _ _ _ e.zero z.cells cs hps (by rw [q6]; exact Ds_zero _ _) hcs
          have hb : P.built t (parts.map fun p => (p.1, a.eval p.2)).toList = some arr := by
            unfold Program.built
            simp only [q1, q2, q3, hpl']
            simpa using h1
          refine got h (u := .agg arr) ?_ ?_
          · simp only [D]; exact ⟨_, rfl, h2⟩
          · simp [execOp, ho, run_build w t _ arr hb]
        · cases h
      · cases h
    · rename_i n el htd
      have hd' : d = .array n el := by
        rw [htd] at q4
        cases d <;> simp [tdMk] at q4 ⊢
        exact ⟨q4.1.symm, q4.2.symm⟩
      subst hd'
      obtain ⟨ee, hee, h⟩ := tyO_of h
      obtain ⟨i', d', z', p1, p2, p3, p4, p5, p6⟩ := tyMk_spec (hT _ _ hee)
      split at h
      · rename_i cs hcs
        obtain ⟨arr, h1, h2⟩ := fill_sound (ρ := ρ) _ _ _ e.zero z.cells cs hps (by rw [q6]; exact Ds_zero _ _) hcs
        have hb : P.built t (parts.map fun p => (p.1, a.eval p.2)).toList = some arr := by
          unfold Program.built
          simp only [q1, q2, q3, p1, ← p5]
          exact h1
        refine got h (u := .agg arr) ?_ ?_
        · simp only [D]; exact ⟨_, rfl, h2⟩
        · simp [execOp, ho, run_build w t _ arr hb]
      · cases h
    · cases h
  · -- makeFunc
    rename_i f first caps ho
    split at h
    · rename_i f
      refine got h (u := .func (.func f) (first.map a.eval) (caps.map a.eval)) ?_ (by simp [execOp, ho, Instr.makeFunc])
      simp only [D]
      exact ⟨_, _, rfl, by simpa using gets_sound T first.toList, by simpa using gets_sound T caps.toList⟩
    · cases h
  · -- call
    rename_i cl ho
    have GS := gets_sound (s := s) (a := a) T cl.args.toList
    split at h
    · rename_i b hb
      split at h
      · rename_i k off n cp hargs
        rw [hargs] at GS
        simp only [Ds_cons, Ds_nil, D] at GS
        obtain ⟨u, us', hmap, ⟨r, hr, rfl⟩, rfl⟩ := GS
        split at h
        · split at h
          · rename_i t hat
            obtain ⟨e, he, h⟩ := tyO_of h
            obtain ⟨i, d, z, q1, q2, q3, q4, q5, q6⟩ := tyMk_spec (hT _ _ he)
            split at h
            · rename_i el htd
              have hd : d = .slice el := by
                rw [htd] at q4
                cases d <;> simp [tdMk] at q4 ⊢
                exact q4.symm
              subst hd
              have hm : cl.args.map a.eval = #[.slice (some ⟨r, off, none⟩) n cp] := by apply Array.ext'; simpa using hmap
              have hat' : cl.argTypes = #[t] := by apply Array.ext'; simpa using hat
              exact got_int ρ h (by simp [execOp, ho, resolve, hb, invoke, builtin, Builtin.len_, hm, hat', run_underlying q2, goInt])
            · cases h
          · cases h
        · cases h
      · rename_i x hargs
        rw [hargs] at GS
        simp only [Ds_cons, Ds_nil, D] at GS
        obtain ⟨u, us', hmap, rfl, rfl⟩ := GS
        split at h
        · split at h
          · rename_i t hat
            obtain ⟨e, he, h⟩ := tyO_of h
            obtain ⟨i, d, z, q1, q2, q3, q4, q5, q6⟩ := tyMk_spec (hT _ _ he)
            split at h
            · rename_i htd
              have hd : d = .string := by
                rw [htd] at q4
                cases d <;> simp [tdMk] at q4 ⊢
              subst hd
              have hm : cl.args.map a.eval = #[.string x] := by apply Array.ext'; simpa using hmap
              have hat' : cl.argTypes = #[t] := by apply Array.ext'; simpa using hat
              exact got_int ρ h (by simp [execOp, ho, resolve, hb, invoke, builtin, Builtin.len_, hm, hat', run_underlying q2, goInt])
            · cases h
          · cases h
        · cases h
      · rename_i k x k' y hargs
        rw [hargs] at GS
        simp only [Ds_cons, Ds_nil, D] at GS
        obtain ⟨u, us', hmap, rfl, u2, us2, rfl, rfl, rfl⟩ := GS
        have hm : cl.args.map a.eval = #[.int k x, .int k' y] := by apply Array.ext'; simpa using hmap
        split at h
        · exact got_int ρ h (by simp [execOp, ho, resolve, hb, invoke, builtin, Builtin.min_, Builtin.min2, hm])
        · exact got_int ρ h (by simp [execOp, ho, resolve, hb, invoke, builtin, Builtin.max_, Builtin.max2, hm])
        · cases h
      · cases h
    · cases h
  · cases h
end
end Go.Ab
