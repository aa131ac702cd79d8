/- Soundness of Ba, second part: single operations. -/
import Derived.Test.YtbammhmbapeboaaGreatDoorBb
import Derived.Laws.CopyRow
import Derived.Laws.Tables
import Derived.Great.BuildSlice
import Derived.Deep.AppendSrc
import Derived.Deep.Upon
namespace Go.B
open Go
set_option linter.unusedVariables false
set_option linter.unusedSectionVars false
set_option linter.unusedSimpArgs false

def tdMk : TypeDesc → TD
  | .int k => .int k
  | .bool => .bool
  | .string => .str
  | .pointer e => .ptr e
  | .slice e => .slc e
  | .struct fs => .st (fs.toList.map fun f => (f.type, f.offset))
  | .array n e => .arr n e
  | .map k e => .mp k e
  | _ => .other

def prs : List (Option Ty) → Option Ty
  | [] => none
  | [t] => t
  | t :: l => match t, prs l with
    | some a, some b => some (.pr a b)
    | _, _ => none

/-- what plain data a type has, if it has such -/
def tyT (P : Program) : Nat → TypeId → Option Ty
  | 0, _ => none
  | n + 1, t => match P.underlying t with
    | some (.int k) => some (.int k)
    | some .bool => some .bool
    | some .string => some .str
    | some (.slice e) => match tyT P n e with | some t => some (.sl t) | none => none
    | some (.struct fs) => prs (fs.toList.map fun f => tyT P n f.type)
    | some (.array k e) => match Nat.ble k 8 with | true => prs (List.replicate k (tyT P n e)) | false => none
    | _ => none

def tyMk (P : Program) (t : TypeId) : Option TyE :=
  match P.info? t, P.underlying t with
  | some i, some d => match i.zero with
    | some z => some ⟨tdMk d, i.size, z.cells.toList.map lift, i.bytes, tyT P 8 t⟩
    | none => none
  | _, _ => none

def TyOk (P : Program) (c : Cx) : Prop := ∀ t e, assoc t c.ty = some e → tyMk P t = some e

def EqOk (P : Program) (c : Cx) : Prop := ∀ t g xs ys r, assoc t c.eqs = some g → g xs ys = some r → ∀ (ρ : Env) (us vs : Array Value), Ds ρ xs us.toList → Ds ρ ys vs.toList →
  (∀ w, (Op.equal t (.agg us) (.agg vs)).run P w = .ok r w) ∧ P.eqGuardType P.depth t = false

theorem tyMk_spec {P : Program} {t : TypeId} {e : TyE} (h : tyMk P t = some e) :
    ∃ i d z, P.info? t = some i ∧ P.underlying t = some d ∧ i.zero = some z ∧ e.td = tdMk d ∧ e.size = i.size ∧ e.zero = z.cells.toList.map lift := by
  unfold tyMk at h
  split at h
  · rename_i i d hi hd
    split at h
    · rename_i z hz
      cases h
      exact ⟨i, d, z, hi, hd, hz, rfl, rfl, rfl⟩
    · cases h
  · cases h

theorem tyMk_bytes {P : Program} {t : TypeId} {e : TyE} (h : tyMk P t = some e) {i : TypeInfo} (hi : P.info? t = some i) : e.bytes = i.bytes := by
  unfold tyMk at h
  split at h
  · rename_i i' d hi' hd
    rw [hi] at hi'
    cases hi'
    split at h
    · cases h; rfl
    · cases h
  · cases h
section
variable {P : Program}

theorem run_size {t : TypeId} {e : TyE} (h : tyMk P t = some e) (w : World) : (sizeOf t).run P w = .ok e.size w := by
  obtain ⟨i, d, z, h1, h2, h3, h4, h5, h6⟩ := tyMk_spec h
  simp [sizeOf, typeInfo, h1, h5]

theorem run_agg {t : TypeId} {e : TyE} (h : tyMk P t = some e) (w : World) : (Go.isAgg t).run P w = .ok (isAgg e.td) w := by
  obtain ⟨i, d, z, h1, h2, h3, h4, h5, h6⟩ := tyMk_spec h
  rw [h4]
  cases d <;> simp [Go.isAgg, run_underlying h2, tdMk, isAgg]

theorem run_zero {t : TypeId} {e : TyE} (h : tyMk P t = some e) (w : World) : ∃ z, (zeroValue t).run P w = .ok z w ∧ e.zero = z.cells.toList.map lift := by
  obtain ⟨i, d, z, h1, h2, h3, h4, h5, h6⟩ := tyMk_spec h
  exact ⟨z, by simp [zeroValue, typeInfo, h1, h3], h6⟩

theorem Ds_zero (ρ : Env) (l : List Value) : Ds ρ (l.map lift) l := by
  have := Ds_map (ρ := ρ) lift id l (fun x _ => D_lift x)
  simpa using this
end

theorem get_sound {ρ : Env} {s : S} {a : Act} (h : TR ρ s.ts a.tmps) (x : Operand) : D ρ (s.get x) (a.eval x) := by
  cases x with
  | tmp t => exact h t
  | const v => exact D_lift v
  | global g => simp [S.get, D, Act.eval]
  | func f => simp [S.get, D, Ds, Act.eval]

theorem gets_sound {ρ : Env} {s : S} {a : Act} (h : TR ρ s.ts a.tmps) (l : List Operand) : Ds ρ (l.map s.get) (l.map a.eval) := Ds_map _ _ l fun x _ => get_sound h x

theorem req0_of' {b : Bool} {X : Prop} (h : req0 b X) : b = true ∧ X := by cases b <;> first | exact ⟨rfl, h⟩ | exact h.elim

theorem req_of {m b : Bool} {X : Prop} (h : reqc m b X) : b = true ∧ X := by
  cases m
  · exact req0_of' h
  · exact ⟨h.h, h.x⟩

theorem tyOf_of {c : Cx} {t : TypeId} {k : TyE → Prop} (h : tyOf c t k) : ∃ e, assoc t c.ty = some e ∧ k e := by
  unfold tyOf at h
  split at h
  · rename_i e he; exact ⟨e, he, h⟩
  · exact h.elim

theorem kindEq_of {k k' : IntKind} (h : kindEq k k' = true) : k = k' := by cases k <;> cases k' <;> first | rfl | cases h

theorem addr_add (g o n : Nat) : (⟨g, o, none⟩ : Addr).add n = ⟨g, o + n, none⟩ := by
  unfold Addr.add; split <;> simp_all

theorem inj {x v : V} {b : Bool} (h : some (x, b) = some (v, true)) : x = v ∧ b = true := by
  simp only [Option.some.injEq, Prod.mk.injEq] at h; exact h

theorem tyO_of {c : Cx} {α : Type} {t : TypeId} {k : TyE → Option α} {r : α} (h : tyO c t k = some r) : ∃ e, assoc t c.ty = some e ∧ k e = some r := by
  unfold tyO at h
  split at h
  · rename_i e he; exact ⟨e, he, h⟩
  · cases h

theorem intsOf_eq {k : IntKind} : ∀ {l : List V} {ns : List Int}, intsOf k l = some ns → l = ns.map (V.int k)
  | [], ns, h => by simp [intsOf] at h; subst h; rfl
  | .int k' n :: l, ns, h => by
    unfold intsOf at h
    split at h
    · rename_i hk
      split at h
      · rename_i ms hm
        cases h
        rw [intsOf_eq hm, ← kindEq_of hk]
        rfl
      · cases h
    · cases h

theorem putI_far {k : IntKind} {o : Nat} {y : Int} : ∀ (ns : List Int) (j : Nat), o < j → putI k o y j (ns.map (V.int k)) = ns.map (V.int k)
  | [], _, _ => rfl
  | n :: ns, j, h => by
    have e : Nat.beq o j = false := by
      cases hb : Nat.beq o j with
      | false => rfl
      | true => have := Nat.eq_of_beq_eq_true hb; omega
    show V.int k (bif Nat.beq o j then y else n) :: putI k o y (j + 1) (ns.map (V.int k)) = V.int k n :: ns.map (V.int k)
    rw [e, putI_far ns (j + 1) (by omega)]; rfl

theorem putI_set {k : IntKind} {y : Int} : ∀ (ns : List Int) (j i : Nat), putI k (j + i) y j (ns.map (V.int k)) = (ns.map (V.int k)).set i (.int k y)
  | [], _, _ => rfl
  | n :: ns, j, 0 => by
    show V.int k (bif Nat.beq j j then y else n) :: putI k j y (j + 1) (ns.map (V.int k)) = V.int k y :: ns.map (V.int k)
    rw [Nat.beq_refl, putI_far ns (j + 1) (by omega)]; rfl
  | n :: ns, j, i + 1 => by
    have e : Nat.beq (j + (i + 1)) j = false := by
      cases hb : Nat.beq (j + (i + 1)) j with
      | false => rfl
      | true => have := Nat.eq_of_beq_eq_true hb; omega
    show V.int k (bif Nat.beq (j + (i + 1)) j then y else n) :: putI k (j + (i + 1)) y (j + 1) (ns.map (V.int k)) = V.int k n :: (ns.map (V.int k)).set i (.int k y)
    rw [e, show j + (i + 1) = j + 1 + i by omega, putI_set ns (j + 1) i]; rfl

theorem openI_spec {vs us : List V} {k : IntKind} {y : Int} (h : openI vs us = some (k, y)) (o : Nat) : us = [.int k y] ∧ putI k o y 0 vs = setAt vs o us := by
  unfold openI at h
  split at h
  · split at h
    · split at h
      · rename_i hi
        cases h
        refine ⟨rfl, ?_⟩
        rw [intsOf_eq hi]
        have := putI_set (k := k) (y := y) ‹List Int› 0 o
        rw [Nat.zero_add] at this
        exact this
      · cases h
    · cases h
  · cases h

theorem getV_part {vs : List V} {o : Nat} {v : V} (h : getV vs o = some (v, true)) : vs[o]? = some v := by
  unfold getV at h
  have plain : ∀ {l : List V}, (match l[o]? with | some v => some (v, true) | none => none) = some (v, true) → l[o]? = some v := fun h => by
    split at h
    · rename_i e; cases h; exact e
    · cases h
  split at h
  · split at h
    · rename_i ns hn
      simp only [Option.some.injEq, Prod.mk.injEq] at h
      have hlt : o < ns.length := by simpa [Nat.blt_eq] using h.2
      rw [intsOf_eq hn, ← h.1]
      simp [List.getElem?_map, List.getD_eq_getElem?_getD, List.getElem?_eq_getElem hlt]
    · exact plain h
  · exact plain h

theorem partO_part {e : TyE} {vs : List V} {o : Nat} {v : V} (h : partO e vs o = some (v, true)) : part e vs o = some v := by
  unfold partO at h
  have plain : (match part e vs o with | some v => some (v, true) | none => none) = some (v, true) → part e vs o = some v := fun h => by
    split at h
    · rename_i e'; cases h; exact e'
    · cases h
  split at h
  · rename_i ha
    split at h
    · exact plain h
    · split at h
      · rename_i k a l _
        split at h
        · rename_i ns hn
          simp only [Option.some.injEq, Prod.mk.injEq] at h
          have hle := Nat.le_of_ble_eq_true h.2
          rw [← h.1, intsOf_eq hn]
          unfold part
          rw [ha]
          simp only
          unfold takeAt
          rw [List.length_map, h.2]
          simp only [Option.some.injEq, V.agg.injEq]
          apply List.ext_getElem?
          intro i
          rw [List.getElem?_take, List.getElem?_map]
          by_cases hi : i < e.size
          · rw [if_pos hi, List.getElem?_drop, List.getElem?_range hi, List.getElem?_map, List.getElem?_eq_getElem (by omega)]
            simp [List.getD_eq_getElem?_getD, List.getElem?_eq_getElem (show o + i < ns.length by omega)]
          · rw [if_neg hi, List.getElem?_eq_none (by simp; omega)]; rfl
        · exact plain h
      · exact plain h
  · rename_i ha
    have := getV_part h
    unfold part
    rw [ha]
    exact this

theorem andG_of {g : Got} {b : Bool} {v : V} (h : andG g b = some (v, true)) : g = some (v, true) ∧ b = true := by
  unfold andG at h
  split at h
  · simp only [Option.some.injEq, Prod.mk.injEq, Bool.and_eq_true] at h
    obtain ⟨rfl, rfl, rfl⟩ := h
    exact ⟨rfl, rfl⟩
  · cases h

theorem pt_of {o : Option V} {b : Bool} {v : V} (h : pt o b = some (v, true)) : o = some v ∧ b = true := by
  cases o with
  | none => cases h
  | some x => obtain ⟨rfl, h1⟩ := inj h; exact ⟨rfl, h1⟩

/-- what was there is as it was -/
def Same (w0 w : World) : Prop := ∀ r, r < w0.heap.size → w.heap[r]? = w0.heap[r]?

theorem Same.cell {w0 w : World} (h : Same w0 w) {r : Nat} {us : Array Value} {T : TypeId} {fr : Nat × Nat} (k : w0.heap[r]? = some (.cells us T fr)) (i : Nat) : w.cell? ⟨r, i, none⟩ = us[i]? := by
  have := h r (some_lt k)
  simp [World.cell?, this, k]

theorem has_int {P : Program} {s : Sem Value} (ρ : Env) {k : IntKind} {n : Int} {b : Bool} {v : V} (h : some (V.int k n, b) = some (v, true)) (r : ∀ w, s.run P w = .ok (.int k n) w) : ∃ u, D ρ v u ∧ ∀ w, s.run P w = .ok u w := by
  obtain ⟨rfl, _⟩ := inj h
  exact ⟨_, by simp [D], r⟩

theorem has_bool {P : Program} {s : Sem Value} (ρ : Env) {p : Bool} {b : Bool} {v : V} (h : some (V.bool p, b) = some (v, true)) (r : ∀ w, s.run P w = .ok (.bool p) w) : ∃ u, D ρ v u ∧ ∀ w, s.run P w = .ok u w := by
  obtain ⟨rfl, _⟩ := inj h
  exact ⟨_, by simp [D], r⟩

theorem got_int {X : Value → World → Prop} {Y : World → Prop} (ρ : Env) {k : IntKind} {n : Int} {b : Bool} {v : V} (h : some (V.int k n, b) = some (v, true)) (r : ∀ w, Y w → X (.int k n) w) : ∃ u, D ρ v u ∧ ∀ w, Y w → X u w := by
  obtain ⟨rfl, _⟩ := inj h
  exact ⟨_, by simp [D], r⟩

theorem got {X : Value → World → Prop} {Y : World → Prop} {ρ : Env} {x v : V} {b : Bool} (h : some (x, b) = some (v, true)) {u : Value} (d : D ρ x u) (r : ∀ w, Y w → X u w) : ∃ u, D ρ v u ∧ ∀ w, Y w → X u w := by
  obtain ⟨rfl, _⟩ := inj h
  exact ⟨_, d, r⟩

theorem arith_sound {P : Program} {op : BinOp} {k k' : IntKind} {a b : Int} {v : V} (hk : (isShift op || kindEq k k') = true) (h : arith op k a b = some (v, true)) (t : TypeId) (ρ : Env) :
    ∃ u, D ρ v u ∧ ∀ w, (binOp op t (.int k a) (.int k' b)).run P w = .ok u w := by
  cases op <;> unfold arith at h <;> simp only at h
  case shl =>
    have : ¬ b < 0 := by have := of_decide_eq_true (inj h).2; omega
    exact has_int ρ h (fun w => by unfold binOp Op.shift; simp only [if_neg this]; rfl)
  case shr =>
    have : ¬ b < 0 := by have := of_decide_eq_true (inj h).2; omega
    exact has_int ρ h (fun w => by unfold binOp Op.shift; simp only [if_neg this]; rfl)
  all_goals obtain rfl : k = k' := kindEq_of (by simpa [isShift] using hk)
  case add => exact has_int ρ h (fun w => by unfold binOp; simp only [ne_eq, not_true_eq_false, if_false]; rfl)
  case sub => exact has_int ρ h (fun w => by unfold binOp; simp only [ne_eq, not_true_eq_false, if_false]; rfl)
  case mul => exact has_int ρ h (fun w => by unfold binOp; simp only [ne_eq, not_true_eq_false, if_false]; rfl)
  case quo =>
    have : ¬ b = 0 := by simpa using (inj h).2
    exact has_int ρ h (fun w => by unfold binOp Op.intDiv; simp only [ne_eq, not_true_eq_false, if_false, if_neg this]; rfl)
  case rem =>
    have : ¬ b = 0 := by simpa using (inj h).2
    exact has_int ρ h (fun w => by unfold binOp Op.intDiv; simp only [ne_eq, not_true_eq_false, if_false, if_neg this]; rfl)
  case and => exact has_int ρ h (fun w => by unfold binOp; simp only [ne_eq, not_true_eq_false, if_false]; rfl)
  case or => exact has_int ρ h (fun w => by unfold binOp; simp only [ne_eq, not_true_eq_false, if_false]; rfl)
  case xor => exact has_int ρ h (fun w => by unfold binOp; simp only [ne_eq, not_true_eq_false, if_false]; rfl)
  case andNot => exact has_int ρ h (fun w => by unfold binOp; simp only [ne_eq, not_true_eq_false, if_false]; rfl)
  all_goals exact has_bool ρ h (fun w => by unfold binOp; simp only [ne_eq, not_true_eq_false, if_false]; rfl)

theorem guard_scalar {P : Program} {op : BinOp} {t : TypeId} {x y : Operand} {a b : Value} (w : World) (h : (∃ k n k' m, a = .int k n ∧ b = .int k' m) ∨ (∃ p q, a = .bool p ∧ b = .bool q)) :
    (eqGuard op t x y a b).run P w = .ok () w := by
  rcases h with ⟨k, n, k', m, rfl, rfl⟩ | ⟨p, q, rfl, rfl⟩ <;> cases op <;> simp [eqGuard]

theorem nilp_of {ρ : Env} {v : V} {u : Value} (h : nilp? v = true) (d : D ρ v u) : u = .pointer none := by
  unfold nilp? at h
  split at h
  · simpa only [D] using d
  · cases h

theorem isPtr_of {ρ : Env} {v : V} {u : Value} (h : isPtr v = true) (d : D ρ v u) : ∃ x, u = .pointer (some x) := by
  unfold isPtr at h
  split at h
  · simp only [D] at d; obtain ⟨r, _, rfl⟩ := d; exact ⟨_, rfl⟩
  · simp only [D] at d; exact ⟨_, d⟩
  · simp only [D] at d; obtain ⟨r, _, rfl⟩ := d; exact ⟨_, rfl⟩
  · simp only [D] at d; obtain ⟨r, o, cs, T, fr, rfl, _⟩ := d; exact ⟨_, rfl⟩
  · cases h

theorem ptrEq_sound {ρ : Env} {x y : V} {r : Bool} {u1 u2 : Value} (h : ptrEq x y = some r) (d1 : D ρ x u1) (d2 : D ρ y u2) :
    ∃ p q, u1 = .pointer p ∧ u2 = .pointer q ∧ ((p = none ∧ q = none ∧ r = true) ∨ (∃ a, p = none ∧ q = some a ∧ r = false) ∨ (∃ a, p = some a ∧ q = none ∧ r = false)) := by
  unfold ptrEq at h
  split at h
  · rename_i hx
    have e1 := nilp_of hx d1
    split at h
    · rename_i hy
      cases h
      exact ⟨_, _, e1, nilp_of hy d2, .inl ⟨rfl, rfl, rfl⟩⟩
    · split at h
      · rename_i hy
        cases h
        obtain ⟨a, e2⟩ := isPtr_of hy d2
        exact ⟨_, _, e1, e2, .inr (.inl ⟨a, rfl, rfl, rfl⟩)⟩
      · cases h
  · split at h
    · rename_i hy
      rw [Bool.and_eq_true] at hy
      cases h
      obtain ⟨a, e1⟩ := isPtr_of hy.2 d1
      exact ⟨_, _, e1, nilp_of hy.1 d2, .inr (.inr ⟨a, rfl, rfl, rfl⟩)⟩
    · cases h

theorem bin_sound {P : Program} {c : Cx} (hT : TyOk P c) (hE : EqOk P c) {op : BinOp} {t : TypeId} {x y v : V} (h : bin c op t x y = some (v, true)) {ρ : Env} {u1 u2 : Value} (h1 : D ρ x u1) (h2 : D ρ y u2) (ox oy : Operand) :
    ∃ u, D ρ v u ∧ ∀ w, (do eqGuard op t ox oy u1 u2; binOp op t u1 u2 : Sem Value).run P w = .ok u w := by
  unfold bin at h
  split at h
  · rename_i k a k' b
    simp only [D] at h1 h2
    subst h1; subst h2
    split at h
    · rename_i hk
      obtain ⟨u, q2, q3⟩ := arith_sound (P := P) hk h t ρ
      exact ⟨u, q2, fun w => by simp only [Sem.run_bind, guard_scalar (P := P) (op := op) (t := t) (x := ox) (y := oy) w (.inl ⟨k, a, k', b, rfl, rfl⟩), Result.andThen_ok, q3]⟩
    · cases h
  · rename_i a b
    simp only [D] at h1 h2
    subst h1; subst h2
    obtain ⟨e, he, h⟩ := tyO_of h
    obtain ⟨i, d, z, q1, q2, q3, q4, q5, q6⟩ := tyMk_spec (hT _ _ he)
    split at h
    · rename_i htd
      have hd : d = .bool := by
        rw [htd] at q4
        cases d <;> simp [tdMk] at q4 ⊢
      subst hd
      have hg := fun w => guard_scalar (P := P) (op := op) (t := t) (x := ox) (y := oy) w (.inr ⟨a, b, rfl, rfl⟩)
      have heq' : ∀ d w, (Op.equalIn (d + 1) t (.bool a) (.bool b)).run P w = .ok (a == b) w := fun d w => by
        simp [Op.equalIn, run_underlying q2]
      have heq : ∀ w, (Op.equal t (.bool a) (.bool b)).run P w = .ok (a == b) w := heq' 9999
      cases op <;> simp only [eqs] at h <;> first
        | (cases h; done)
        | exact has_bool ρ h (fun w => by simp [hg, binOp, heq])
    · cases h
  · rename_i a b
    simp only [D] at h1 h2
    subst h1; subst h2
    have hg : ∀ w, (eqGuard op t ox oy (.string a) (.string b)).run P w = .ok () w := fun w => by cases op <;> simp [eqGuard]
    cases op <;> simp only at h <;> first
      | (cases h; done)
      | (have h1 := of_decide_eq_true (inj h).2
         obtain ⟨rfl, _⟩ := inj h
         exact ⟨.string (a ++ b), by simp [D], fun w => by
           simp only [Sem.run_bind, hg, Result.andThen_ok]
           have : ¬ (((a.size + b.size : Nat) : Int) > IntKind.i64.max) := by
             have e : IntKind.i64.max = 9223372036854775807 := by decide
             rw [e]; omega
           simp only [binOp, Op.stringOp, if_neg this]; rfl⟩)
      | exact has_bool ρ h (fun w => by simp [hg, binOp, Op.stringOp])
  · rename_i xs ys
    simp only [D] at h1 h2
    obtain ⟨us, rfl, d1⟩ := h1
    obtain ⟨vs, rfl, d2⟩ := h2
    split at h
    · cases h
    · rename_i g hg
      split at h
      · cases h
      · rename_i r hr
        obtain ⟨q1, q2⟩ := hE t g xs ys r hg hr ρ us vs d1 d2
        have hgu : ∀ w, (eqGuard op t ox oy (.agg us) (.agg vs)).run P w = .ok () w := fun w => by
          cases op <;> simp [eqGuard, q2]
        cases op <;> simp only [eqs] at h <;> first
          | (cases h; done)
          | exact has_bool ρ h (fun w => by simp [hgu, binOp, q1])
  · obtain ⟨e, he, h⟩ := tyO_of h
    obtain ⟨i, d, z, q1, q2, q3, q4, q5, q6⟩ := tyMk_spec (hT _ _ he)
    split at h
    rotate_left
    · cases h
    rename_i el htd
    have hd : ∃ el', d = .pointer el' := by
      rw [htd] at q4
      cases d <;> simp [tdMk] at q4 ⊢
    obtain ⟨el', rfl⟩ := hd
    split at h
    rotate_left
    · cases h
    rename_i r hr
    obtain ⟨p, q, rfl, rfl, hpq⟩ := ptrEq_sound hr h1 h2
    have hg : ∀ w, (eqGuard op t ox oy (.pointer p) (.pointer q)).run P w = .ok () w := fun w => by cases op <;> simp [eqGuard]
    have heq' : ∀ d w, (Op.equalIn (d + 1) t (.pointer p) (.pointer q)).run P w = .ok r w := fun d w => by
      rcases hpq with ⟨rfl, rfl, rfl⟩ | ⟨x, rfl, rfl, rfl⟩ | ⟨x, rfl, rfl, rfl⟩ <;> simp [Op.equalIn, run_underlying q2]
    have heq : ∀ w, (Op.equal t (.pointer p) (.pointer q)).run P w = .ok r w := heq' 9999
    cases op <;> simp only [eqs] at h <;> first
      | (cases h; done)
      | exact has_bool ρ h (fun w => by simp [hg, binOp, heq])

theorem un_sound {P : Program} {op : UnOp} {x v : V} (h : un op x = some (v, true)) {ρ : Env} {u1 : Value} (h1 : D ρ x u1) :
    ∃ u, D ρ v u ∧ ∀ w, (Op.unary op u1).run P w = .ok u w := by
  unfold un at h
  split at h
  · simp only [D] at h1; subst h1
    exact has_int ρ h (fun w => by simp [Op.unary, Op.intArith])
  · simp only [D] at h1; subst h1
    unfold arith at h
    simp only at h
    exact has_int ρ h (fun w => by simp [Op.unary, Op.intBits])
  · simp only [D] at h1; subst h1
    exact has_bool ρ h (fun w => by simp [Op.unary])
  · cases h

theorem takeAt_spec {α : Type} {vs l : List α} {o n : Nat} (h : takeAt vs o n = some l) : o + n ≤ vs.length ∧ l = (vs.drop o).take n := by
  unfold takeAt at h
  split at h
  · rename_i hb; cases h; exact ⟨Nat.le_of_ble_eq_true hb, rfl⟩
  · cases h

theorem cellsAt_spec {hp : List Blk} {k : Nat} {vs : List V} (h : cellsAt hp k = some vs) : hp[k]? = some (.cells vs) := by
  unfold cellsAt at h
  split at h
  · cases h; assumption
  · cases h

theorem cell_at {w : World} {r : Nat} {us : Array Value} {T : TypeId} {fr : Nat × Nat} (h : w.heap[r]? = some (.cells us T fr)) (i : Nat) : w.cell? ⟨r, i, none⟩ = us[i]? := by simp [World.cell?, h]

/-- a part of a row, read out of memory -/
theorem loadAt_sound' {P : Program} {t : TypeId} {e : TyE} (ht : tyMk P t = some e) {ρ : Env} {vs : List V} {us : List Value} (hd : Ds ρ vs us) {f : Nat} {v : V} (h : part e vs f = some v) (r o : Nat) :
    ∃ u, D ρ v u ∧ ∀ w, (∀ i u, us[i]? = some u → w.cell? ⟨r, o + i, none⟩ = some u) → (loadVar t ⟨r, o + f, none⟩).run P w = .ok u w := by
  unfold part at h
  split at h
  · rename_i ha
    split at h
    · rename_i l hl
      cases h
      obtain ⟨h1, rfl⟩ := takeAt_spec hl
      have hlen := Ds_len hd
      have hl2 : ((us.drop f).take e.size).length = e.size := by simp at hlen ⊢; omega
      refine ⟨.agg ((us.drop f).take e.size).toArray, ?_, fun w hw => ?_⟩
      · simp only [D]; exact ⟨_, rfl, Ds_take (Ds_drop hd _) _⟩
      have hcs : ∀ j v, ((us.drop f).take e.size)[j]? = some v → w.cell? ((⟨r, o + f, none⟩ : Addr).add j) = some v := fun j v hj => by
        rw [addr_add]
        rw [List.getElem?_take] at hj
        split at hj
        · rw [List.getElem?_drop] at hj
          rw [Nat.add_assoc]
          exact hw _ _ hj
        · cases hj
      have := run_loadCells_list (P := P) w ⟨r, o + f, none⟩ _ hcs
      rw [hl2] at this
      simp [loadVar, run_agg ht, ha, run_size ht, this]
    · cases h
  · rename_i ha
    obtain ⟨u, h1, h2⟩ := Ds_get hd h
    exact ⟨u, h2, fun w hw => by simp [loadVar, run_agg ht, ha, hw _ _ h1]⟩

theorem loadAt_sound {P : Program} {t : TypeId} {e : TyE} (ht : tyMk P t = some e) {ρ : Env} {vs : List V} {us : Array Value} (hd : Ds ρ vs us.toList) {o : Nat} {v : V} (h : part e vs o = some v)
    {w0 : World} {r : Nat} {T : TypeId} {fr : Nat × Nat} (hw : w0.heap[r]? = some (.cells us T fr)) :
    ∃ u, D ρ v u ∧ ∀ w, Same w0 w → (loadVar t ⟨r, o, none⟩).run P w = .ok u w := by
  obtain ⟨u, h1, h2⟩ := loadAt_sound' (P := P) ht hd h r 0
  refine ⟨u, h1, fun w hs => ?_⟩
  have := h2 w (fun i u hi => by rw [hs.cell hw, Nat.zero_add]; simpa using hi)
  rwa [Nat.zero_add] at this

/-- the cells of a plain datum -/
theorem Deep_cells {ρ : Env} : ∀ {t : Ty} {x : t.den} {us : List Value}, Deep ρ.M t x us → Ds ρ (t.cells x) us
  | .int _, _, _, d => by have d : _ = _ := d; rw [d]; simp [Ty.cells, Ds, D]
  | .bool, _, _, d => by have d : _ = _ := d; rw [d]; simp [Ty.cells, Ds, D]
  | .str, _, _, d => by have d : _ = _ := d; rw [d]; simp [Ty.cells, Ds, D]
  | .sl t, l, us, d => by
    obtain ⟨a, c, rfl, h2, h3⟩ := Deep_sl.mp d
    rw [Ty.cells, Ds_cons]
    exact ⟨_, _, rfl, by simp only [D]; exact ⟨a, c, rfl, h2, fun n h => (by cases h), h3⟩, Ds_nil.mpr rfl⟩
  | .pr a b, x, us, d => by
    obtain ⟨u, v, rfl, h2, h3⟩ := d
    exact Ds_append (Deep_cells h2) (Deep_cells h3)

/-- a part of a plain datum in memory -/
theorem loadDeep {P : Program} {t : TypeId} {e : TyE} (ht : tyMk P t = some e) {ρ : Env} {ty : Ty} {x : ty.den} {us : Array Value} {o : Nat} (hd : Deep ρ.M ty x ((us.toList.drop o).take ty.size)) {f : Nat} {v : V} (h : part e (ty.cells x) f = some v)
    {w0 : World} {r : Nat} {T : TypeId} {fr : Nat × Nat} (hw : w0.heap[r]? = some (.cells us T fr)) :
    ∃ u, D ρ v u ∧ ∀ w, Same w0 w → (loadVar t ⟨r, o + f, none⟩).run P w = .ok u w := by
  obtain ⟨u, h1, h2⟩ := loadAt_sound' (P := P) ht (Deep_cells hd) h r o
  refine ⟨u, h1, fun w hs => h2 w (fun i u hi => ?_)⟩
  rw [List.getElem?_take] at hi
  split at hi
  · rw [List.getElem?_drop] at hi
    rw [hs.cell hw]; simpa using hi
  · cases hi

/-- a part of a struct's or an array's value -/
theorem part_sound {P : Program} {t : TypeId} {e : TyE} (ht : tyMk P t = some e) {ρ : Env} {vs : List V} {us : Array Value} (hd : Ds ρ vs us.toList) {o : Nat} {v : V} (h : part e vs o = some v) :
    ∃ u, D ρ v u ∧ ∀ w, (Go.part t us o).run P w = .ok u w := by
  unfold part at h
  split at h
  · rename_i ha
    split at h
    · rename_i l hl
      cases h
      obtain ⟨h1, rfl⟩ := takeAt_spec hl
      refine ⟨.agg (us.extract o (o + e.size)), ?_, fun w => by simp [Go.part, run_agg ht, ha, run_size ht]⟩
      simp only [D]
      refine ⟨_, rfl, ?_⟩
      have := Ds_take (Ds_drop hd o) e.size
      have hlen := Ds_len hd
      rw [show (us.extract o (o + e.size)).toList = (us.toList.drop o).take e.size by
        rw [Array.toList_extract, List.extract_eq_take_drop]; congr 1; omega]
      exact this
    · cases h
  · rename_i ha
    obtain ⟨u, h1, h2⟩ := Ds_get hd h
    have h3 : us[o]? = some u := by simpa using h1
    exact ⟨u, h2, fun w => by simp [Go.part, run_agg ht, ha, h3]⟩

theorem cells_one {u : Value} (h : u.oneCell' = true) : u.cells = #[u] := by cases u <;> first | rfl | (simp [Value.oneCell'] at h)

theorem D_one {ρ : Env} {v : V} {u : Value} (h : D ρ v u) (k : one v = true) : u.oneCell' = true := by
  cases v <;> simp only [one] at k <;> simp only [D] at h <;> first
    | (cases k; done)
    | (subst h; first | rfl | exact k)
    | (rcases h with ⟨_, _, a, h⟩ | ⟨_, r, _, h⟩ <;> (subst h; rfl))
    | (rcases h with ⟨_, a, h⟩ | ⟨r, _, h⟩ <;> (subst h; rfl))
    | (rcases h with ⟨_, _, a, h⟩ | ⟨r, _, h, _⟩ <;> (subst h; rfl))
    | (rcases h with ⟨_, a, h⟩ | ⟨r, _, h, _⟩ <;> (subst h; rfl))
    | (obtain ⟨r, _, rfl, _⟩ := h; rfl)
    | (obtain ⟨a, cp, rfl, _⟩ := h; rfl)
    | (obtain ⟨r, o, cs, T, fr, rfl, _⟩ := h; rfl)
    | exact h.elim
    | (obtain ⟨r, _, rfl⟩ := h; rfl)
    | (obtain ⟨as, bs, rfl, _⟩ := h; rfl)

theorem cellsIf_sound {ρ : Env} {v : V} {cs : List V} {u : Value} (h : D ρ v u) (k : cellsIf v = some cs) : Ds ρ cs u.cells.toList := by
  unfold cellsIf at k
  split at k
  · cases k
    simp only [D] at h
    obtain ⟨us, rfl, h⟩ := h
    exact h
  · split at k
    · rename_i ho
      cases k
      rw [cells_one (D_one h ho)]
      exact Ds_cons.mpr ⟨u, [], rfl, h, Ds_nil.mpr rfl⟩
    · cases k

theorem setAt_len : ∀ (us : List V) (vs : List V) (o : Nat), (setAt vs o us).length = vs.length
  | [], vs, o => rfl
  | u :: us, vs, o => by simp [setAt, setAt_len us]

theorem setAt_eq : ∀ (us vs : List V) (o : Nat), o + us.length ≤ vs.length → setAt vs o us = vs.take o ++ us ++ vs.drop (o + us.length)
  | [], vs, o, _ => by simp [setAt]
  | u :: us, vs, o, h => by
    simp only [List.length_cons] at h
    rw [setAt, setAt_eq us (vs.set o u) (o + 1) (by simp; omega)]
    apply List.ext_getElem?
    intro i
    simp only [List.getElem?_append, List.length_append, List.length_take, List.length_set, List.getElem?_take, List.getElem?_drop, List.length_cons, List.getElem?_set, List.getElem?_cons]
    have e1 : min (o + 1) vs.length = o + 1 := by omega
    have e2 : min o vs.length = o := by omega
    rw [e1, e2]
    rcases Nat.lt_trichotomy i o with h1 | h1 | h1
    · simp [show i < o + 1 + us.length by omega, show i < o + 1 by omega, show i < o + (us.length + 1) by omega, h1, show ¬ o = i by omega]
    · subst h1
      simp [show i < i + 1 + us.length by omega, show i < i + (us.length + 1) by omega, show i < vs.length by omega]
    · by_cases h2 : i < o + 1 + us.length
      · obtain ⟨j, rfl⟩ : ∃ j, i = o + 1 + j := ⟨i - (o + 1), by omega⟩
        simp [h2, show o + 1 + j < o + (us.length + 1) by omega, show ¬ o + 1 + j < o by omega, show ¬ o + 1 + j - o = 0 by omega, show o + 1 + j - o - 1 = j by omega, show o + 1 + j - (o + 1) = j by omega]
        intro hh; omega
      · simp [h2, show ¬ i < o + (us.length + 1) by omega]
        have : ¬ o = o + 1 + us.length + (i - (o + 1 + us.length)) := by omega
        rw [if_neg this]
        congr 1; omega

theorem fold_sound {ρ : Env} (off : Nat) : ∀ (vc : List V) (uc : List Value) (cs : List V) (arr : Array Value) (j : Nat), Ds ρ vc uc → Ds ρ cs arr.toList →
    Ds ρ (setAt cs (off + j) vc) ((uc.zipIdx j).foldl (fun cs (c, j) => cs.setIfInBounds (off + j) c) arr).toList
  | [], uc, cs, arr, j, h, k => by rw [Ds_nil] at h; subst h; simpa [setAt] using k
  | v :: vc, uc, cs, arr, j, h, k => by
    rw [Ds_cons] at h
    obtain ⟨u, us', rfl, h1, h2⟩ := h
    simp only [List.zipIdx_cons, List.foldl_cons, setAt]
    have := fold_sound off vc us' (cs.set (off + j) v) (arr.setIfInBounds (off + j) u) (j + 1) h2 (by simpa using Ds_set k (off + j) h1)
    rw [show off + (j + 1) = off + j + 1 by omega] at this
    exact this

def Ps (ρ : Env) : List (Nat × V) → List (Nat × Value) → Prop
  | [], l => l = []
  | (i, v) :: ps, l => ∃ u l', l = (i, u) :: l' ∧ D ρ v u ∧ Ps ρ ps l'

theorem Ps_map {ρ : Env} (f : Operand → V) (g : Operand → Value) (h : ∀ x, D ρ (f x) (g x)) : ∀ l : List (Nat × Operand), Ps ρ (l.map fun p => (p.1, f p.2)) (l.map fun p => (p.1, g p.2))
  | [] => rfl
  | (i, x) :: l => ⟨_, _, rfl, h x, Ps_map f g h l⟩

theorem fill_sound {ρ : Env} (place : Nat → Option (Nat × Nat)) : ∀ (ps : List (Nat × V)) (l : List (Nat × Value)) (cs : List V) (arr : Array Value) (cs' : List V), Ps ρ ps l → Ds ρ cs arr.toList →
    fillAt place cs ps = some cs' → ∃ arr' : Array Value, Instr.fill place arr l = some arr' ∧ Ds ρ cs' arr'.toList
  | [], l, cs, arr, cs', h, k, q => by
    have : l = [] := h
    subst this
    simp only [fillAt, Option.some.injEq] at q
    subst q
    exact ⟨arr, rfl, k⟩
  | (i, v) :: ps, l, cs, arr, cs', h, k, q => by
    obtain ⟨u, l', rfl, h1, h2⟩ := h
    unfold fillAt at q
    split at q
    · rename_i off sz vc hp hc
      split at q
      · rename_i hb
        simp only [Bool.and_eq_true] at hb
        have hs := Nat.eq_of_beq_eq_true hb.1
        have hle := Nat.le_of_ble_eq_true hb.2
        have hcs := cellsIf_sound h1 hc
        have hlen := Ds_len hcs
        have hlen2 := Ds_len k
        have h3 := fold_sound off vc u.cells.toList cs arr 0 hcs k
        obtain ⟨arr', h4, h5⟩ := fill_sound place ps l' _ (u.cells.zipIdx.foldl (fun cs (c, j) => cs.setIfInBounds (off + j) c) arr) cs' h2 (by
          rw [← Array.foldl_toList, Array.toList_zipIdx]
          exact h3) q
        refine ⟨arr', ?_, h5⟩
        unfold Instr.fill
        have e1 : ¬ (u.cells.size ≠ sz) := by simp at hlen ⊢; omega
        have e2 : ¬ (off + u.cells.size > arr.size) := by simp at hlen hlen2 ⊢; omega
        simp only [hp]
        rw [if_neg (by simp only [Bool.or_eq_true, decide_eq_true_eq]; exact fun h => h.elim (fun h => e1 h) e2)]
        exact h4
      · cases q
    · cases q

theorem places_sound {P : Program} {c : Cx} (hT : TyOk P c) : ∀ (fs : List Field) (pl : List (Nat × Nat)), placesOf c (fs.map fun f => (f.type, f.offset)) = some pl →
    fs.mapM (fun f => (P.info? f.type).map fun i => (f.offset, i.size)) = some pl
  | [], pl, h => by simp [placesOf] at h; subst h; rfl
  | f :: fs, pl, h => by
    simp only [List.map_cons, placesOf] at h
    split at h
    · rename_i e r he hr
      cases h
      obtain ⟨i, d, z, q1, q2, q3, q4, q5, q6⟩ := tyMk_spec (hT _ _ he)
      have ih := places_sound hT fs r hr
      simp [List.mapM_cons, q1, ih, q5]
    · cases h

section
variable {P : Program} {c : Cx} (hT : TyOk P c) (hE : EqOk P c)
include hT hE

omit hE hT in

theorem bnd_of {s : S} {x : Option Operand} {d : Nat} {k : Nat → Bool → Got} {v : V} (h : bnd s x d k = some (v, true)) {ρ : Env} {a : Act} (T : TR ρ s.ts a.tmps) :
    ∃ n b, k n b = some (v, true) ∧ ((x = none ∧ n = d ∧ b = true) ∨ ∃ y kk j, x = some y ∧ a.eval y = .int kk j ∧ n = j.toNat ∧ b = decide (0 ≤ j)) := by
  unfold bnd at h
  split at h
  · exact ⟨d, true, h, .inl ⟨rfl, rfl, rfl⟩⟩
  · rename_i y
    split at h
    · rename_i kk j hj
      have hx := get_sound (s := s) (a := a) T y
      rw [hj] at hx
      simp only [D] at hx
      exact ⟨_, _, h, .inr ⟨y, kk, j, rfl, hx, rfl, rfl⟩⟩
    · cases h

/-- what a bound comes to -/
def BndOk (e : Operand → Value) (x : Option Operand) (d n : Nat) (b : Bool) : Prop := (x = none ∧ n = d ∧ b = true) ∨ ∃ y kk j, x = some y ∧ e y = .int kk j ∧ n = j.toNat ∧ b = decide (0 ≤ j)
omit hE hT in

theorem bounds_run {e : Operand → Value} {lo hi mx : Option Operand} {len cap m h l : Nat} {b0 b1 b2 : Bool} (k0 : BndOk e mx cap m b0) (k1 : BndOk e hi len h b1) (k2 : BndOk e lo 0 l b2) (h0 : b0 = true) (h1 : b1 = true) (h2 : b2 = true)
    (hm : m ≤ cap) (hh : h ≤ m) (hl : l ≤ h) (hx : hi = none → mx = none) (b : Bool) (w : World) : (Instr.sliceBounds b len cap (lo.map e) (hi.map e) (mx.map e)).run P w = .ok (l, h, m) w := by
  subst h0 h1 h2
  rcases k0 with ⟨rfl, rfl, _⟩ | ⟨y0, q0, j0, rfl, e0, rfl, d0⟩
  · rcases k1 with ⟨rfl, rfl, _⟩ | ⟨y1, q1, j1, rfl, e1, rfl, d1⟩
    · rcases k2 with ⟨rfl, rfl, _⟩ | ⟨y2, q2, j2, rfl, e2, rfl, d2⟩
      · simp [Instr.sliceBounds]
      · have d2 := of_decide_eq_true d2.symm
        simp [Instr.sliceBounds, Instr.sliceBound, e2, asIntOf, d2, show j2 ≤ (h : Int) by omega]
    · have d1 := of_decide_eq_true d1.symm
      rcases k2 with ⟨rfl, rfl, _⟩ | ⟨y2, q2, j2, rfl, e2, rfl, d2⟩
      · simp [Instr.sliceBounds, Instr.sliceBound, e1, asIntOf, d1, show j1 ≤ (m : Int) by omega]
      · have d2 := of_decide_eq_true d2.symm
        simp [Instr.sliceBounds, Instr.sliceBound, e1, e2, asIntOf, d1, d2, show j1 ≤ (m : Int) by omega, show j2 ≤ ((j1.toNat : Nat) : Int) by omega, show max j1 0 = j1 by omega, show j2 ≤ j1 by omega]
  · have d0 := of_decide_eq_true d0.symm
    rcases k1 with ⟨rfl, rfl, _⟩ | ⟨y1, q1, j1, rfl, e1, rfl, d1⟩
    · cases hx rfl
    · have d1 := of_decide_eq_true d1.symm
      rcases k2 with ⟨rfl, rfl, _⟩ | ⟨y2, q2, j2, rfl, e2, rfl, d2⟩
      · simp [Instr.sliceBounds, Instr.sliceBound, e0, e1, asIntOf, d0, d1, show j0 ≤ (cap : Int) by omega, show j1 ≤ j0 by omega, show max j0 0 = j0 by omega]
      · have d2 := of_decide_eq_true d2.symm
        simp [Instr.sliceBounds, Instr.sliceBound, e0, e1, e2, asIntOf, d0, d1, d2, show j0 ≤ (cap : Int) by omega, show j1 ≤ j0 by omega, show max j0 0 = j0 by omega, show max j1 0 = j1 by omega, show j2 ≤ j1 by omega]

theorem and4 {a b c d e : Bool} (h : (a && b && c && d && e) = true) : a = true ∧ b = true ∧ c = true ∧ d = true ∧ e = true := by
  simp only [Bool.and_eq_true] at h; exact ⟨h.1.1.1.1, h.1.1.1.2, h.1.1.2, h.1.2, h.2⟩
omit hE hT in

theorem CF_part (cf : CF) (off : Nat) {e : TyE} (ha : isAgg e.td = true) (l : List V) (hl : l.length = cf.vals.length) (hle : Nat.ble (off + e.size) cf.vals.length = true) (f : Nat → V) (hf : ∀ i, i < cf.vals.length → l[i]? = some (f i)) :
    part e l off = some (.agg ((List.range e.size).map fun i => f (off + i))) := by
  have hle' := Nat.le_of_ble_eq_true hle
  unfold part
  rw [ha]
  simp only
  unfold takeAt
  rw [hl, hle]
  simp only [Option.some.injEq, V.agg.injEq]
  apply List.ext_getElem?
  intro i
  rw [List.getElem?_take, List.getElem?_map]
  by_cases hi : i < e.size
  · rw [if_pos hi, List.getElem?_drop, List.getElem?_range hi, hf _ (by omega)]; rfl
  · rw [if_neg hi, List.getElem?_eq_none (by simp; omega)]; rfl

set_option maxHeartbeats 4000000 in
theorem look_sound {s : S} {o : Oper} {v : V} (h : look c s o = some (v, true)) {ρ : Env} {a : Act} {w0 : World} (R : Rel c.gs ρ s.hp w0) (T : TR ρ s.ts a.tmps) :
    ∃ u, D ρ v u ∧ ∀ w, (isLoad o = true → Same w0 w) → (execOp a.eval o).run P w = .ok (.value u) w := by
  have G := fun x => get_sound (s := s) (a := a) T x
  unfold look lk_load lk_nilCheck lk_convert lk_fieldAddr lk_field lk_extract lk_indexAddr lk_index lk_slice lk_build lk_makeFunc lk_call at h
  split at h
  · -- move
    rename_i x ho
    exact got (X := fun u w => (execOp a.eval o).run P w = .ok (.value u) w) h (G x) (fun w _ => by simp [execOp, ho])
  · rename_i x ho
    exact got (X := fun u w => (execOp a.eval o).run P w = .ok (.value u) w) h (G x) (fun w _ => by simp [execOp, ho])
  · -- pick
    rename_i x p q ho
    split at h
    · rename_i b hb
      have hx := G x
      rw [hb] at hx
      simp only [D] at hx
      cases b
      · exact got (X := fun u w => (execOp a.eval o).run P w = .ok (.value u) w) h (G q) (fun w _ => by simp [execOp, ho, hx, asBool])
      · exact got (X := fun u w => (execOp a.eval o).run P w = .ok (.value u) w) h (G p) (fun w _ => by simp [execOp, ho, hx, asBool])
    · cases h
  · -- load
    rename_i t x ho
    obtain ⟨e, he, h⟩ := tyO_of h
    have ht := hT _ _ he
    have il : isLoad o = true := by simp [isLoad, ho]
    have hx := G x
    split at h
    · rename_i k off hk
      rw [hk] at hx
      simp only [D] at hx
      obtain ⟨r, hr, hu⟩ := hx
      split at h
      · rename_i vs hvs
        have hv := partO_part h
        obtain ⟨ob, h1, us, T', rfl, h2⟩ := R.get (cellsAt_spec hvs) hr id
        obtain ⟨u, h3, h4⟩ := loadAt_sound (P := P) ht h2 hv h1
        exact ⟨u, h3, fun w hs => by simp [execOp, ho, hu, Instr.loadAt, Instr.sureAddr, h4 w (hs il)]⟩
      · cases h
    · rename_i g off hk
      rw [hk] at hx
      simp only [D] at hx
      -- out of a table
      have tab : ∀ (cf : CF) (l : List V) (f : Nat → V), assoc g c.gs = some cf → Ds ρ l cf.vals → (∀ i, i < cf.vals.length → l[i]? = some (f i)) →
          (isAgg e.td = true → Nat.ble (off + e.size) cf.vals.length = true → v = .agg ((List.range e.size).map fun i => f (off + i)) → ∃ u, D ρ v u ∧ ∀ w, (isLoad o = true → Same w0 w) → (execOp a.eval o).run P w = .ok (.value u) w) ∧
          (isAgg e.td = false → off < cf.vals.length → v = f off → ∃ u, D ρ v u ∧ ∀ w, (isLoad o = true → Same w0 w) → (execOp a.eval o).run P w = .ok (.value u) w) := by
        intro cf l f hg hd hf
        obtain ⟨_, hgl⟩ := R.gl _ _ hg
        have hlen := Ds_len hd
        have fin : part e l off = some v → ∃ u, D ρ v u ∧ ∀ w, (isLoad o = true → Same w0 w) → (execOp a.eval o).run P w = .ok (.value u) w := fun hp => by
          obtain ⟨u, h3, h4⟩ := loadAt_sound' (P := P) ht hd hp g 0
          refine ⟨u, h3, fun w hs => ?_⟩
          have h4 := h4 w (fun i u hi => by rw [Nat.zero_add]; exact (hgl.same (hs il g hgl.1.1)).2 i u hi)
          rw [Nat.zero_add] at h4
          simp [execOp, ho, hx, Instr.loadAt, Instr.sureAddr, h4]
        refine ⟨fun ha hle hv => fin ?_, fun ha hlt hv => fin ?_⟩
        · rw [CF_part cf off ha l (by omega) hle f hf, hv]
        · unfold part
          rw [ha]
          simp only
          rw [hf off hlt, hv]
      split at h
      · rename_i k ns hg
        have q := tab (.int k ns) (ns.map (V.int k)) (fun i => .int k (ns.getD i 0)) hg (Ds_map _ _ ns fun x _ => by simp [D]) (fun i hi => by
          simp only [CF.vals, List.length_map] at hi
          simp [List.getD_eq_getElem?_getD, List.getElem?_eq_getElem hi])
        simp only [CF.vals, List.length_map] at q
        split at h
        · rename_i ha
          obtain ⟨e1, e2⟩ := inj h
          exact q.1 ha e2 e1.symm
        · rename_i ha
          obtain ⟨e1, e2⟩ := inj h
          exact q.2 ha (by simpa [Nat.blt_eq] using e2) e1.symm
      · rename_i ns hg
        have q := tab (.str ns) (ns.map V.str) (fun i => .str (ns.getD i ⟨#[]⟩)) hg (Ds_map _ _ ns fun x _ => by simp [D]) (fun i hi => by
          simp only [CF.vals, List.length_map] at hi
          simp [List.getD_eq_getElem?_getD, List.getElem?_eq_getElem hi])
        simp only [CF.vals, List.length_map] at q
        split at h
        · rename_i ha
          obtain ⟨e1, e2⟩ := inj h
          exact q.1 ha e2 e1.symm
        · rename_i ha
          obtain ⟨e1, e2⟩ := inj h
          exact q.2 ha (by simpa [Nat.blt_eq] using e2) e1.symm
      · cases h
      · cases h
    · rename_i k z i f hk
      rw [hk] at hx
      simp only [D] at hx
      obtain ⟨r, hr, hu⟩ := hx
      split at h
      · rename_i t' l hrow
        split at h
        · rename_i hz
          have hz := Nat.eq_of_beq_eq_true hz
          subst hz
          obtain ⟨hv, hb⟩ := pt_of h
          have hi : i < l.length := by simpa [Nat.blt_eq] using hb
          rcases row_all R hrow hr with h0 | ⟨us, T', q1, q2⟩
          · simp only at h0; rw [h0] at hi; cases hi
          · have q3 := Elems_getD q2 hi
            rw [Nat.zero_add] at q3
            obtain ⟨u, h3, h4⟩ := loadDeep (P := P) ht q3 hv q1
            exact ⟨u, h3, fun w hs => by simp [execOp, ho, hu, Instr.loadAt, Instr.sureAddr, h4 w (hs il)]⟩
        · cases h
      · cases h
    · rename_i t' x' f hk
      rw [hk] at hx
      simp only [D] at hx
      obtain ⟨r, off, cs, T', fr, hu, h1, h2⟩ := hx
      obtain ⟨hv, _⟩ := pt_of h
      obtain ⟨u, h3, h4⟩ := loadDeep (P := P) ht h2 hv (R.im _ _ h1).1
      exact ⟨u, h3, fun w hs => by simp [execOp, ho, hu, Instr.loadAt, Instr.sureAddr, h4 w (hs il)]⟩
    · cases h
  · -- nilCheck
    rename_i x ho
    have hx := G x
    split at h <;> rename_i hk
    all_goals first | (cases h; done) | skip
    all_goals (rw [hk] at hx; have hx' := hx; simp only [D] at hx')
    · obtain ⟨r, hr, hu⟩ := hx'
      exact got (X := fun u w => (execOp a.eval o).run P w = .ok (.value u) w) h hx (fun w _ => by simp [execOp, ho, hu])
    · exact got (X := fun u w => (execOp a.eval o).run P w = .ok (.value u) w) h hx (fun w _ => by simp [execOp, ho, hx'])
    · obtain ⟨r, hr, hu⟩ := hx'
      exact got (X := fun u w => (execOp a.eval o).run P w = .ok (.value u) w) h hx (fun w _ => by simp [execOp, ho, hu])
    · obtain ⟨r, oo, cs, T', fr, hu, _⟩ := hx'
      exact got (X := fun u w => (execOp a.eval o).run P w = .ok (.value u) w) h hx (fun w _ => by simp [execOp, ho, hu])
    · obtain ⟨p, q, hu, _⟩ := hx'
      exact got (X := fun u w => (execOp a.eval o).run P w = .ok (.value u) w) h hx (fun w _ => by simp [execOp, ho, hu])
  · -- binOp
    rename_i op t x y yt ho
    obtain ⟨u, h2, h3⟩ := bin_sound hT hE h (G x) (G y) x y
    refine ⟨u, h2, fun w _ => ?_⟩
    simp only [execOp, ho]
    show ((do eqGuard op t x y (a.eval x) (a.eval y); binOp op t (a.eval x) (a.eval y) : Sem Value) >>= fun r => pure (Next.value r)).run P w = _
    rw [Sem.run_bind, h3]
    rfl
  · -- unOp
    rename_i op t x ho
    obtain ⟨u, h2, h3⟩ := un_sound (P := P) h (G x)
    exact ⟨u, h2, fun w _ => by simp [execOp, ho, h3 w]⟩
  · -- convert
    rename_i t d x ho
    obtain ⟨e0, he0, h⟩ := tyO_of h
    obtain ⟨e, he, h⟩ := tyO_of h
    obtain ⟨i0, d0, z0, p1, p2, p3, p4, p5, p6⟩ := tyMk_spec (hT _ _ he0)
    obtain ⟨i, dd, z, q1, q2, q3, q4, q5, q6⟩ := tyMk_spec (hT _ _ he)
    have hx := G x
    split at h
    · rename_i k htd
      have hd : dd = .int k := by
        rw [htd] at q4
        cases dd <;> simp [tdMk] at q4 ⊢
        exact q4.symm
      subst hd
      split at h
      · rename_i k' n hk
        rw [hk] at hx
        simp only [D] at hx
        exact got_int (X := fun u w => (execOp a.eval o).run P w = .ok (.value u) w) ρ h (fun w _ => by simp [execOp, ho, hx, convert, run_underlying p2, run_underlying q2, Conv.intToInt])
      · cases h
    · cases h
  · -- fieldAddr
    rename_i t x f ho
    obtain ⟨e, he, h⟩ := tyO_of h
    obtain ⟨i, d, z, q1, q2, q3, q4, q5, q6⟩ := tyMk_spec (hT _ _ he)
    have hx := G x
    split at h
    · rename_i fs htd
      obtain ⟨fields, rfl, hfs⟩ : ∃ fields : Array Field, d = .struct fields ∧ fs = fields.toList.map fun f => (f.type, f.offset) := by
        rw [htd] at q4
        cases d <;> simp [tdMk] at q4 ⊢
        exact q4
      split at h
      · rename_i ft off hf
        rw [hfs, List.getElem?_map] at hf
        obtain ⟨fd, hfd, heq⟩ := Option.map_eq_some_iff.mp hf
        have hfd' : fields[f]? = some fd := by simpa using hfd
        cases heq
        obtain ⟨fe, hfe, h⟩ := tyO_of h
        have hsz := run_size (hT _ _ hfe)
        split at h
        · cases h
        rename_i h1
        have hne : ¬ fe.size = 0 := by
          intro e0; rw [e0] at h1; cases h1
        split at h
        · rename_i k off' hk
          rw [hk] at hx
          simp only [D] at hx
          obtain ⟨r, hr, hu⟩ := hx
          refine got (X := fun u w => (execOp a.eval o).run P w = .ok (.value u) w) h (u := .pointer (some ⟨r, off' + fd.offset, none⟩)) ?_ (fun w _ => ?_)
          · simp only [D]; exact ⟨r, hr, rfl⟩
          · simp [execOp, ho, hu, Instr.fieldAt, run_underlying q2, hfd', Instr.sureAddr, fieldPlace, hsz w, hne, addr_add]
        · rename_i g off' hk
          rw [hk] at hx
          simp only [D] at hx
          refine got (X := fun u w => (execOp a.eval o).run P w = .ok (.value u) w) h (u := .pointer (some ⟨g, off' + fd.offset, none⟩)) ?_ (fun w _ => ?_)
          · simp only [D]
          · simp [execOp, ho, hx, Instr.fieldAt, run_underlying q2, hfd', Instr.sureAddr, fieldPlace, hsz w, hne, addr_add]
        · rename_i k z' i' f' hk
          rw [hk] at hx
          simp only [D] at hx
          obtain ⟨r, hr, hu⟩ := hx
          refine got (X := fun u w => (execOp a.eval o).run P w = .ok (.value u) w) h (u := .pointer (some ⟨r, i' * z' + f' + fd.offset, none⟩)) ?_ (fun w _ => ?_)
          · simp only [D]; exact ⟨r, hr, by rw [Nat.add_assoc]⟩
          · simp [execOp, ho, hu, Instr.fieldAt, run_underlying q2, hfd', Instr.sureAddr, fieldPlace, hsz w, hne, addr_add]
        · rename_i t' x' f' hk
          rw [hk] at hx
          simp only [D] at hx
          obtain ⟨r, oo, cs, T', fr, hu, h2, h3⟩ := hx
          refine got (X := fun u w => (execOp a.eval o).run P w = .ok (.value u) w) h (u := .pointer (some ⟨r, oo + f' + fd.offset, none⟩)) ?_ (fun w _ => ?_)
          · simp only [D]; exact ⟨r, oo, cs, T', fr, by rw [Nat.add_assoc], h2, h3⟩
          · simp [execOp, ho, hu, Instr.fieldAt, run_underlying q2, hfd', Instr.sureAddr, fieldPlace, hsz w, hne, addr_add]
        · cases h
      · cases h
    · cases h
  · -- field
    rename_i t x f ho
    obtain ⟨e, he, h⟩ := tyO_of h
    obtain ⟨i, d, z, q1, q2, q3, q4, q5, q6⟩ := tyMk_spec (hT _ _ he)
    have hx := G x
    split at h
    · rename_i fs htd
      obtain ⟨fields, rfl, hfs⟩ : ∃ fields : Array Field, d = .struct fields ∧ fs = fields.toList.map fun f => (f.type, f.offset) := by
        rw [htd] at q4
        cases d <;> simp [tdMk] at q4 ⊢
        exact q4
      split at h
      · rename_i ft off hf
        rw [hfs, List.getElem?_map] at hf
        obtain ⟨fd, hfd, heq⟩ := Option.map_eq_some_iff.mp hf
        have hfd' : fields[f]? = some fd := by simpa using hfd
        cases heq
        obtain ⟨fe, hfe, h⟩ := tyO_of h
        split at h
        · rename_i cs hk
          rw [hk] at hx
          simp only [D] at hx
          obtain ⟨us, hu, hd⟩ := hx
          obtain ⟨hv, _⟩ := pt_of h
          obtain ⟨u, h1, h2⟩ := part_sound (P := P) (hT _ _ hfe) hd hv
          exact ⟨u, h1, fun w _ => by simp [execOp, ho, hu, Instr.field, run_underlying q2, hfd', asAgg, h2 w]⟩
        · cases h
      · cases h
    · cases h
  · -- extract
    rename_i x i ho
    have hx := G x
    split at h
    · rename_i vs hk
      rw [hk] at hx
      simp only [D] at hx
      obtain ⟨us, hu, hd⟩ := hx
      obtain ⟨hv, _⟩ := pt_of h
      obtain ⟨u, h1, h2⟩ := Ds_get hd hv
      have h3 : us[i]? = some u := by simpa using h1
      exact ⟨u, h2, fun w _ => by simp [execOp, ho, hu, Instr.extract, h3]⟩
    · cases h
  · -- indexAddr
    rename_i t x ix ho
    obtain ⟨e, he, h⟩ := tyO_of h
    obtain ⟨i, d, z, q1, q2, q3, q4, q5, q6⟩ := tyMk_spec (hT _ _ he)
    have hx := G x
    have hi := G ix
    split at h
    · rename_i kk j hj
      rw [hj] at hi
      simp only [D] at hi
      split at h
      · rename_i n el htd
        have hd : d = .array n el := by
          rw [htd] at q4
          cases d <;> simp [tdMk] at q4 ⊢
          exact ⟨q4.1.symm, q4.2.symm⟩
        subst hd
        obtain ⟨ee, hee, h⟩ := tyO_of h
        have hsz := run_size (hT _ _ hee)
        split at h
        · rename_i k off hk
          rw [hk] at hx
          simp only [D] at hx
          obtain ⟨r, hr, hu⟩ := hx
          have h1 := (inj h).2
          simp only [Bool.and_eq_true, decide_eq_true_eq] at h1
          refine got (X := fun u w => (execOp a.eval o).run P w = .ok (.value u) w) h (u := .pointer (some ⟨r, off + j.toNat * ee.size, none⟩)) ?_ (fun w _ => ?_)
          · simp only [D, offN]; exact ⟨r, hr, rfl⟩
          · simp [execOp, ho, hu, hi, Instr.indexAt, asIntOf, run_underlying q2, Instr.sureAddr, h1, hsz w, addr_add]
        · rename_i g off hk
          rw [hk] at hx
          simp only [D] at hx
          have h1 := (inj h).2
          simp only [Bool.and_eq_true, decide_eq_true_eq] at h1
          refine got (X := fun u w => (execOp a.eval o).run P w = .ok (.value u) w) h (u := .pointer (some ⟨g, off + j.toNat * ee.size, none⟩)) ?_ (fun w _ => ?_)
          · simp only [D, offN]
          · simp [execOp, ho, hx, hi, Instr.indexAt, asIntOf, run_underlying q2, Instr.sureAddr, h1, hsz w, addr_add]
        · cases h
      · rename_i el htd
        have hd : d = .slice el := by
          rw [htd] at q4
          cases d <;> simp [tdMk] at q4 ⊢
          exact q4.symm
        subst hd
        obtain ⟨ee, hee, h⟩ := tyO_of h
        have hsz := run_size (hT _ _ hee)
        split at h
        · rename_i k off n cp hk
          rw [hk] at hx
          simp only [D] at hx
          obtain ⟨r, hr, hu, _⟩ := hx
          have h1 := (inj h).2
          simp only [Bool.and_eq_true, decide_eq_true_eq] at h1
          refine got (X := fun u w => (execOp a.eval o).run P w = .ok (.value u) w) h (u := .pointer (some ⟨r, off + j.toNat * ee.size, none⟩)) ?_ (fun w _ => ?_)
          · simp only [D, offN]; exact ⟨r, hr, rfl⟩
          · simp [execOp, ho, hu, hi, Instr.indexAt, asIntOf, run_underlying q2, Instr.sureAddr, h1, hsz w, addr_add]
        · rename_i k zz n cp hk
          rw [hk] at hx
          simp only [D] at hx
          split at h
          · rename_i hz
            have hz := Nat.eq_of_beq_eq_true hz
            subst hz
            have h1 := (inj h).2
            simp only [Bool.and_eq_true, decide_eq_true_eq] at h1
            rcases hx with ⟨h0, _⟩ | ⟨_, r, hr, hu⟩
            · omega
            refine got (X := fun u w => (execOp a.eval o).run P w = .ok (.value u) w) h (u := .pointer (some ⟨r, 0 + j.toNat * ee.size, none⟩)) ?_ (fun w _ => ?_)
            · simp only [D]; exact ⟨r, hr, by simp⟩
            · simp [execOp, ho, hu, hi, Instr.indexAt, asIntOf, run_underlying q2, Instr.sureAddr, h1, hsz w, addr_add]
          · cases h
        · rename_i k zz oo n cp hk
          rw [hk] at hx
          simp only [D] at hx
          split at h
          · rename_i hz
            have hz := Nat.eq_of_beq_eq_true hz
            subst hz
            have h1 := (inj h).2
            simp only [Bool.and_eq_true, decide_eq_true_eq] at h1
            rcases hx with ⟨h0, _⟩ | ⟨r, hr, hu, _⟩
            · omega
            refine got (X := fun u w => (execOp a.eval o).run P w = .ok (.value u) w) h (u := .pointer (some ⟨r, oo * ee.size + j.toNat * ee.size, none⟩)) ?_ (fun w _ => ?_)
            · simp only [D]; exact ⟨r, hr, by rw [Nat.add_mul, Nat.add_zero]⟩
            · simp [execOp, ho, hu, hi, Instr.indexAt, asIntOf, run_underlying q2, Instr.sureAddr, h1, hsz w, addr_add]
          · cases h
        · rename_i t' l cp hk
          rw [hk] at hx
          simp only [D] at hx
          split at h
          · rename_i hz
            have hz := Nat.eq_of_beq_eq_true hz
            have h1 := (inj h).2
            simp only [Bool.and_eq_true, decide_eq_true_eq] at h1
            obtain ⟨ad, cp', hu, _, _, hb⟩ := hx
            have hlt : j.toNat < l.length := by omega
            rcases hb with h0 | ⟨r, oo, cs, T', fr, rfl, h3, h4⟩
            · rw [h0] at hlt; cases hlt
            refine got (X := fun u w => (execOp a.eval o).run P w = .ok (.value u) w) h (u := .pointer (some ⟨r, oo + j.toNat * ee.size, none⟩)) ?_ (fun w _ => ?_)
            · simp only [D]
              refine ⟨r, oo + j.toNat * ee.size, cs, T', fr, by simp, h3, ?_⟩
              rw [← hz]
              exact Elems_getD h4 hlt
            · simp [execOp, ho, hu, hi, Instr.indexAt, asIntOf, run_underlying q2, Instr.sureAddr, h1, hsz w, addr_add]
          · cases h
        · cases h
      · cases h
    · cases h
  · -- index
    rename_i t x ix ho
    obtain ⟨e, he, h⟩ := tyO_of h
    obtain ⟨i, d, z, q1, q2, q3, q4, q5, q6⟩ := tyMk_spec (hT _ _ he)
    have hx := G x
    have hi := G ix
    split at h
    · rename_i kk j hj
      rw [hj] at hi
      simp only [D] at hi
      split at h
      · rename_i n el htd
        have hd : d = .array n el := by
          rw [htd] at q4
          cases d <;> simp [tdMk] at q4 ⊢
          exact ⟨q4.1.symm, q4.2.symm⟩
        subst hd
        obtain ⟨ee, hee, h⟩ := tyO_of h
        have hsz := run_size (hT _ _ hee)
        split at h
        · rename_i cs hk
          rw [hk] at hx
          simp only [D] at hx
          obtain ⟨us, hu, hd⟩ := hx
          obtain ⟨hv, h1⟩ := andG_of h
          have hv := partO_part hv
          simp only [Bool.and_eq_true, decide_eq_true_eq] at h1
          obtain ⟨u, h3, h4⟩ := part_sound (P := P) (hT _ _ hee) hd hv
          exact ⟨u, h3, fun w _ => by simp [execOp, ho, hu, hi, Instr.index, asIntOf, run_underlying q2, h1, hsz w, h4 w]⟩
        · cases h
      · rename_i htd
        have hd : d = .string := by
          rw [htd] at q4
          cases d <;> simp [tdMk] at q4 ⊢
        subst hd
        split at h
        · rename_i bs hk
          rw [hk] at hx
          simp only [D] at hx
          have h1 := (inj h).2
          simp only [Bool.and_eq_true, decide_eq_true_eq] at h1
          have hlt : j.toNat < bs.size := by omega
          have e1 : bs[j.toNat]? = some (bs.data.toList.getD j.toNat 0) := by
            rw [getElem?_pos bs j.toNat hlt]
            congr 1
            have : j.toNat < bs.data.size := hlt
            show bs.data[j.toNat] = _
            rw [List.getD_eq_getElem?_getD, Array.getElem?_toList, Array.getElem?_eq_getElem this]; rfl
          exact got_int (X := fun u w => (execOp a.eval o).run P w = .ok (.value u) w) ρ h (fun w _ => by simp [execOp, ho, hx, hi, Instr.index, asIntOf, run_underlying q2, h1.1, e1])
        · cases h
      · cases h
    · cases h
  · -- slice
    rename_i t x lo hi' mx ho
    obtain ⟨e, he, h⟩ := tyO_of h
    obtain ⟨i, d, z, q1, q2, q3, q4, q5, q6⟩ := tyMk_spec (hT _ _ he)
    have hx := G x
    split at h
    · rename_i htd
      have hd : d = .string := by
        rw [htd] at q4
        cases d <;> simp [tdMk] at q4 ⊢
      subst hd
      split at h
      · cases h
      · split at h
        · rename_i bs hk
          rw [hk] at hx
          simp only [D] at hx
          replace h := bnd_of h T
          obtain ⟨hh, b1, h, k1⟩ := h
          replace h := bnd_of h T
          obtain ⟨ll, b2, h, k2⟩ := h
          have h1 := (inj h).2
          simp only [Bool.and_eq_true] at h1
          obtain ⟨⟨d1, d2⟩, d3, d4⟩ := h1
          have d2 := Nat.le_of_ble_eq_true d2
          have d4 := Nat.le_of_ble_eq_true d4
          refine got (X := fun u w => (execOp a.eval o).run P w = .ok (.value u) w) h (u := .string (bs.extract ll hh)) (by simp [D]) (fun w _ => ?_)
          have hr : ∀ w, (Instr.sliceBounds false bs.size bs.size (lo.map a.eval) (hi'.map a.eval) none).run P w = .ok (ll, hh, bs.size) w := fun w => by
            rcases k1 with ⟨rfl, rfl, _⟩ | ⟨y1, qq1, j1, rfl, e1, rfl, c1⟩
            · rcases k2 with ⟨rfl, rfl, _⟩ | ⟨y2, qq2, j2, rfl, e2, rfl, c2⟩
              · simp [Instr.sliceBounds]
              · subst d3
                have c2 := of_decide_eq_true c2.symm
                simp [Instr.sliceBounds, Instr.sliceBound, e2, asIntOf, c2, show j2 ≤ (bs.size : Int) by omega]
            · subst d1
              have c1 := of_decide_eq_true c1.symm
              rcases k2 with ⟨rfl, rfl, _⟩ | ⟨y2, qq2, j2, rfl, e2, rfl, c2⟩
              · simp [Instr.sliceBounds, Instr.sliceBound, e1, asIntOf, c1, show j1 ≤ (bs.size : Int) by omega]
              · subst d3
                have c2 := of_decide_eq_true c2.symm
                simp [Instr.sliceBounds, Instr.sliceBound, e1, e2, asIntOf, c1, c2, show j1 ≤ (bs.size : Int) by omega, show max j1 0 = j1 by omega, show j2 ≤ j1 by omega]
          simp [execOp, ho, hx, Instr.sliceAt, Instr.slice, run_underlying q2, hr w]
        · cases h
    · rename_i el htd
      have hd : d = .slice el := by
        rw [htd] at q4
        cases d <;> simp [tdMk] at q4 ⊢
        exact q4.symm
      subst hd
      obtain ⟨ee, hee, h⟩ := tyO_of h
      have hsz := run_size (hT _ _ hee)
      -- a slice of a slice
      have run : ∀ (ad : Option Addr) (len cap m hh ll : Nat) (b0 b1 b2 : Bool), a.eval x = .slice ad len cap → BndOk a.eval mx cap m b0 → BndOk a.eval hi' len hh b1 → BndOk a.eval lo 0 ll b2 → b0 = true → b1 = true → b2 = true → hiOk mx hi' = true →
          m ≤ cap → hh ≤ m → ll ≤ hh → ∀ w, (execOp a.eval o).run P w = .ok (.value (.slice (if m = ll then ad else ad.map (·.add (ll * ee.size))) (hh - ll) (m - ll))) w := by
        intro ad len cap m hh ll b0 b1 b2 hu k0 k1 k2 e0 e1 e2 hok l1 l2 l3 w
        have hr := bounds_run (P := P) k0 k1 k2 e0 e1 e2 l1 l2 l3 (fun hn => by
          cases mx with
          | none => rfl
          | some _ => rw [hn] at hok; cases hok) true w
        simp [execOp, ho, hu, Instr.sliceAt, Instr.slice, run_underlying q2, hr, hsz w]
      have dem : ∀ {p q1 q2 q3 q4 q5 q6 q7 : Bool}, (p && q1 && q2 && (q3 && q4) && (q5 && q6)) = true → p = true ∧ q1 = true ∧ q2 = true ∧ q3 = true ∧ q4 = true ∧ q5 = true ∧ q6 = true := fun {p q1 q2 q3 q4 q5 q6 q7} h => by
        simp only [Bool.and_eq_true] at h
        exact ⟨h.1.1.1.1, h.1.1.1.2, h.1.1.2, h.1.2.1, h.1.2.2, h.2.1, h.2.2⟩
      split at h
      · rename_i t' ls cp hk
        rw [hk] at hx
        simp only [D] at hx
        obtain ⟨ad, cp', hu, hlc, hcp, hbk⟩ := hx
        split at h
        · rename_i hz
          have hz := Nat.eq_of_beq_eq_true hz
          replace h := bnd_of h T
          obtain ⟨m, b0, h, k0⟩ := h
          replace h := bnd_of h T
          obtain ⟨hh, b1, h, k1⟩ := h
          replace h := bnd_of h T
          obtain ⟨ll, b2, h, k2⟩ := h
          obtain ⟨hok, d0, d1, d2, d3, d4, d5⟩ := dem (q7 := true) (inj h).2
          have d1 := Nat.le_of_ble_eq_true d1
          have d3 := Nat.le_of_ble_eq_true d3
          have d5 := Nat.le_of_ble_eq_true d5
          -- the room
          obtain ⟨m', k0', hm', hmm⟩ : ∃ m', BndOk a.eval mx cp' m' b0 ∧ m' ≤ cp' ∧ hh ≤ m' ∧ (∀ n, (match mx with | some _ => some (m - ll) | none => cp.map (· - ll)) = some n → m' - ll = n) := by
            rcases k0 with ⟨rfl, rfl, rfl⟩ | ⟨y, kk, j, rfl, q8, rfl, rfl⟩
            · refine ⟨cp', .inl ⟨rfl, rfl, rfl⟩, Nat.le_refl _, by omega, fun n hn => ?_⟩
              simp only [Option.map_eq_some_iff] at hn
              obtain ⟨c1, hc1, rfl⟩ := hn
              rw [hcp c1 hc1]
            · refine ⟨j.toNat, .inr ⟨y, kk, j, rfl, q8, rfl, rfl⟩, by omega, d3, fun n hn => ?_⟩
              simpa using hn
          refine got (X := fun u w => (execOp a.eval o).run P w = .ok (.value u) w) h ?_ (fun w _ => run ad ls.length cp' m' hh ll b0 b1 b2 hu k0' k1 k2 d0 d2 d4 hok hm' hmm.1 d5 w)
          simp only [D]
          have hlen : ((ls.drop ll).take (hh - ll)).length = hh - ll := by simp; omega
          rw [hlen]
          refine ⟨_, _, rfl, by omega, fun n hn => hmm.2 n hn, ?_⟩
          by_cases he : hh = ll
          · exact .inl (by rw [he]; simp)
          · rcases hbk with h0 | ⟨r, oo, cs, T', fr, rfl, h3, h4⟩
            · exfalso
              have e0 : ls.length = 0 := by rw [h0]; rfl
              omega
            · refine .inr ⟨r, oo + ll * ee.size, cs, T', fr, ?_, h3, fun i hi => ?_⟩
              · rw [if_neg (by omega)]
                simp [addr_add]
              · rw [hlen] at hi
                have := h4 (ll + i) (by omega)
                rw [Nat.add_mul, ← Nat.add_assoc, hz] at this
                rw [hz]
                simpa using this
        · cases h
      · rename_i k zz n cp hk
        rw [hk] at hx
        simp only [D] at hx
        split at h
        · rename_i hz
          have hz := Nat.eq_of_beq_eq_true hz
          subst hz
          replace h := bnd_of h T
          obtain ⟨m, b0, h, k0⟩ := h
          replace h := bnd_of h T
          obtain ⟨hh, b1, h, k1⟩ := h
          replace h := bnd_of h T
          obtain ⟨ll, b2, h, k2⟩ := h
          obtain ⟨hok, d0, d1, d2, d3, d4, d5⟩ := dem (q7 := true) (inj h).2
          have d1 := Nat.le_of_ble_eq_true d1
          have d3 := Nat.le_of_ble_eq_true d3
          have d5 := Nat.le_of_ble_eq_true d5
          rcases hx with ⟨rfl, rfl, ad, hu⟩ | ⟨_, r, hr, hu⟩
          · refine got (X := fun u w => (execOp a.eval o).run P w = .ok (.value u) w) h ?_ (fun w _ => run ad 0 0 m hh ll b0 b1 b2 hu k0 k1 k2 d0 d2 d4 hok d1 d3 d5 w)
            simp only [D]
            exact .inl ⟨by omega, by omega, _, by rw [show hh - ll = 0 by omega, show m - ll = 0 by omega]⟩
          · refine got (X := fun u w => (execOp a.eval o).run P w = .ok (.value u) w) h ?_ (fun w _ => run (some ⟨r, 0, none⟩) n cp m hh ll b0 b1 b2 hu k0 k1 k2 d0 d2 d4 hok d1 d3 d5 w)
            simp only [D]
            by_cases he : m = ll
            · exact .inl ⟨by omega, by omega, _, by rw [show hh - ll = 0 by omega, show m - ll = 0 by omega]⟩
            · exact .inr ⟨r, hr, by rw [if_neg he]; simp [addr_add], by omega⟩
        · cases h
      · rename_i k zz oo n cp hk
        rw [hk] at hx
        simp only [D] at hx
        split at h
        · rename_i hz
          have hz := Nat.eq_of_beq_eq_true hz
          subst hz
          replace h := bnd_of h T
          obtain ⟨m, b0, h, k0⟩ := h
          replace h := bnd_of h T
          obtain ⟨hh, b1, h, k1⟩ := h
          replace h := bnd_of h T
          obtain ⟨ll, b2, h, k2⟩ := h
          obtain ⟨hok, d0, d1, d2, d3, d4, d5⟩ := dem (q7 := true) (inj h).2
          have d1 := Nat.le_of_ble_eq_true d1
          have d3 := Nat.le_of_ble_eq_true d3
          have d5 := Nat.le_of_ble_eq_true d5
          rcases hx with ⟨rfl, rfl, ad, hu⟩ | ⟨r, hr, hu, _⟩
          · refine got (X := fun u w => (execOp a.eval o).run P w = .ok (.value u) w) h ?_ (fun w _ => run ad 0 0 m hh ll b0 b1 b2 hu k0 k1 k2 d0 d2 d4 hok d1 d3 d5 w)
            simp only [D]
            exact .inl ⟨by omega, by omega, _, by rw [show hh - ll = 0 by omega, show m - ll = 0 by omega]⟩
          · refine got (X := fun u w => (execOp a.eval o).run P w = .ok (.value u) w) h ?_ (fun w _ => run _ n cp m hh ll b0 b1 b2 hu k0 k1 k2 d0 d2 d4 hok d1 d3 d5 w)
            simp only [D]
            by_cases he : m = ll
            · exact .inl ⟨by omega, by omega, _, by rw [show hh - ll = 0 by omega, show m - ll = 0 by omega]⟩
            · exact .inr ⟨r, hr, by rw [if_neg he]; simp [addr_add, Nat.add_mul], by omega⟩
        · cases h
      · rename_i k oo n cp hk
        rw [hk] at hx
        simp only [D] at hx
        obtain ⟨r, hr, hu, _⟩ := hx
        replace h := bnd_of h T
        obtain ⟨m, b0, h, k0⟩ := h
        replace h := bnd_of h T
        obtain ⟨hh, b1, h, k1⟩ := h
        replace h := bnd_of h T
        obtain ⟨ll, b2, h, k2⟩ := h
        have hd6 := (inj h).2
        rw [Bool.and_eq_true] at hd6
        obtain ⟨hd6, d6⟩ := hd6
        obtain ⟨hok, d0, d1, d2, d3, d4, d5⟩ := dem (q7 := true) hd6
        have d1 := Nat.le_of_ble_eq_true d1
        have d3 := Nat.le_of_ble_eq_true d3
        have d5 := Nat.le_of_ble_eq_true d5
        refine got (X := fun u w => (execOp a.eval o).run P w = .ok (.value u) w) h ?_ (fun w _ => run (some ⟨r, oo, none⟩) n cp m hh ll b0 b1 b2 hu k0 k1 k2 d0 d2 d4 hok d1 d3 d5 w)
        simp only [D]
        refine ⟨r, hr, ?_, by omega⟩
        simp only [Bool.or_eq_true, Nat.blt_eq] at d6
        by_cases he : m = ll
        · rcases d6 with d6 | d6
          · have := Nat.eq_of_beq_eq_true d6
            subst this
            rw [if_pos he]; simp
          · omega
        · rw [if_neg he]; simp [addr_add]
      · rename_i hk
        rw [hk] at hx
        simp only [D] at hx
        replace h := bnd_of h T
        obtain ⟨m, b0, h, k0⟩ := h
        replace h := bnd_of h T
        obtain ⟨hh, b1, h, k1⟩ := h
        replace h := bnd_of h T
        obtain ⟨ll, b2, h, k2⟩ := h
        obtain ⟨hok, d0, d1, d2, d3, d4, d5⟩ := dem (q7 := true) (inj h).2
        have d1 := Nat.le_of_ble_eq_true d1
        have d3 := Nat.le_of_ble_eq_true d3
        have d5 := Nat.le_of_ble_eq_true d5
        refine got (X := fun u w => (execOp a.eval o).run P w = .ok (.value u) w) h (u := .slice none 0 0) (by simp [D]) (fun w _ => ?_)
        have := run none 0 0 m hh ll b0 b1 b2 hx k0 k1 k2 d0 d2 d4 hok d1 d3 d5 w
        rw [this, show m - ll = 0 by omega, show hh - ll = 0 by omega]
        simp
      · cases h
    · rename_i n el htd
      have hd : d = .array n el := by
        rw [htd] at q4
        cases d <;> simp [tdMk] at q4 ⊢
        exact ⟨q4.1.symm, q4.2.symm⟩
      subst hd
      obtain ⟨ee, hee, h⟩ := tyO_of h
      have hsz := run_size (hT _ _ hee)
      split at h
      · rename_i k oo hk
        rw [hk] at hx
        simp only [D] at hx
        obtain ⟨r, hr, hu⟩ := hx
        replace h := bnd_of h T
        obtain ⟨m, b0, h, k0⟩ := h
        replace h := bnd_of h T
        obtain ⟨hh, b1, h, k1⟩ := h
        replace h := bnd_of h T
        obtain ⟨ll, b2, h, k2⟩ := h
        have hd6 := (inj h).2
        rw [Bool.and_eq_true] at hd6
        obtain ⟨hd6, d6⟩ := hd6
        simp only [Bool.and_eq_true] at hd6
        obtain ⟨⟨⟨⟨hok, d0⟩, d1⟩, d2, d3⟩, d4, d5⟩ := hd6
        have d1 := Nat.le_of_ble_eq_true d1
        have d3 := Nat.le_of_ble_eq_true d3
        have d5 := Nat.le_of_ble_eq_true d5
        have hr' := fun w => bounds_run (P := P) k0 k1 k2 d0 d2 d4 d1 d3 d5 (fun hn => by
          cases mx with
          | none => rfl
          | some _ => rw [hn] at hok; cases hok) false w
        refine got (X := fun u w => (execOp a.eval o).run P w = .ok (.value u) w) h (u := .slice (some ⟨r, oo + ll * ee.size, none⟩) (hh - ll) (m - ll)) ?_ (fun w _ => ?_)
        · simp only [D]; exact ⟨r, hr, rfl, by omega⟩
        · simp only [Bool.or_eq_true, Nat.blt_eq] at d6
          simp [execOp, ho, hu, Instr.sliceAt, Instr.sureAddr, run_underlying q2, hr' w, hsz w]
          by_cases he : m = ll
          · rcases d6 with d6 | d6
            · have := Nat.eq_of_beq_eq_true d6
              subst this
              rw [if_pos he]; simp
            · omega
          · rw [if_neg he]; simp [addr_add]
      · cases h
    · cases h
  · -- build
    rename_i t parts ho
    obtain ⟨e, he, h⟩ := tyO_of h
    obtain ⟨i, d, z, q1, q2, q3, q4, q5, q6⟩ := tyMk_spec (hT _ _ he)
    have hps : Ps ρ (parts.toList.map fun p => (p.1, s.get p.2)) (parts.map fun p => (p.1, a.eval p.2)).toList := by
      simpa using Ps_map s.get a.eval G parts.toList
    split at h
    · rename_i fs htd
      obtain ⟨fields, rfl, hfs⟩ : ∃ fields : Array Field, d = .struct fields ∧ fs = fields.toList.map fun f => (f.type, f.offset) := by
        rw [htd] at q4
        cases d <;> simp [tdMk] at q4 ⊢
        exact q4
      split at h
      · rename_i pl hpl
        rw [hfs] at hpl
        have hpl' := places_sound hT _ _ hpl
        split at h
        · rename_i cs hcs
          obtain ⟨arr, h1, h2⟩ := fill_sound (ρ := ρ) _ _ _ e.zero z.cells cs hps (by rw [q6]; exact Ds_zero _ _) hcs
          have hb : P.built t (parts.map fun p => (p.1, a.eval p.2)).toList = some arr := by
            unfold Program.built
            simp only [q1, q2, q3, hpl']
            simpa using h1
          refine got (X := fun u w => (execOp a.eval o).run P w = .ok (.value u) w) h (u := .agg arr) ?_ (fun w _ => ?_)
          · simp only [D]; exact ⟨_, rfl, h2⟩
          · simp [execOp, ho, run_build w t _ arr hb]
        · cases h
      · cases h
    · rename_i n el htd
      have hd' : d = .array n el := by
        rw [htd] at q4
        cases d <;> simp [tdMk] at q4 ⊢
        exact ⟨q4.1.symm, q4.2.symm⟩
      subst hd'
      obtain ⟨ee, hee, h⟩ := tyO_of h
      obtain ⟨i', d', z', p1, p2, p3, p4, p5, p6⟩ := tyMk_spec (hT _ _ hee)
      split at h
      · rename_i cs hcs
        obtain ⟨arr, h1, h2⟩ := fill_sound (ρ := ρ) _ _ _ e.zero z.cells cs hps (by rw [q6]; exact Ds_zero _ _) hcs
        have hb : P.built t (parts.map fun p => (p.1, a.eval p.2)).toList = some arr := by
          unfold Program.built
          simp only [q1, q2, q3, p1, ← p5]
          exact h1
        refine got (X := fun u w => (execOp a.eval o).run P w = .ok (.value u) w) h (u := .agg arr) ?_ (fun w _ => ?_)
        · simp only [D]; exact ⟨_, rfl, h2⟩
        · simp [execOp, ho, run_build w t _ arr hb]
      · cases h
    · cases h
  · -- makeFunc
    rename_i f first caps ho
    split at h
    · rename_i f
      refine got (X := fun u w => (execOp a.eval o).run P w = .ok (.value u) w) h (u := .func (.func f) (first.map a.eval) (caps.map a.eval)) ?_ (fun w _ => by simp [execOp, ho, Instr.makeFunc])
      simp only [D]
      exact ⟨_, _, rfl, by simpa using gets_sound T first.toList, by simpa using gets_sound T caps.toList⟩
    · cases h
  · -- call
    rename_i cl ho
    have GS := gets_sound (s := s) (a := a) T cl.args.toList
    split at h
    · rename_i b hb
      split at h
      · rename_i x hargs
        rw [hargs] at GS
        simp only [Ds_cons, Ds_nil] at GS
        obtain ⟨u, us', hmap, hd, rfl⟩ := GS
        have hm : cl.args.map a.eval = #[u] := by apply Array.ext'; simpa using hmap
        split at h
        · split at h
          · rename_i t hat
            obtain ⟨e, he, h⟩ := tyO_of h
            obtain ⟨i, d, z, q1, q2, q3, q4, q5, q6⟩ := tyMk_spec (hT _ _ he)
            have hat' : cl.argTypes = #[t] := by apply Array.ext'; simpa using hat
            split at h
            · rename_i el htd
              have hd' : d = .slice el := by
                rw [htd] at q4
                cases d <;> simp [tdMk] at q4 ⊢
                exact q4.symm
              subst hd'
              split at h
              · rename_i n hn
                have hu : ∃ ad cp, u = .slice ad n cp := by
                  cases x <;> simp only [lenV] at hn <;> first | (cases hn; done) | skip
                  · cases hn; simp only [D] at hd; obtain ⟨r, _, rfl, _⟩ := hd; exact ⟨_, _, rfl⟩
                  · split at hn
                    · rename_i heq; cases heq
                    · rename_i heq; cases heq
                    · rename_i heq; cases heq
                    · rename_i heq; cases heq
                    · rename_i heq
                      cases heq
                      cases hn
                      simp only [D] at hd
                      exact ⟨_, _, hd⟩
                    · cases hn
                  · cases hn; simp only [D] at hd; rcases hd with ⟨rfl, rfl, a, rfl⟩ | ⟨_, r, _, rfl⟩ <;> exact ⟨_, _, rfl⟩
                  · cases hn; simp only [D] at hd; rcases hd with ⟨rfl, rfl, a, rfl⟩ | ⟨r, _, rfl, _⟩ <;> exact ⟨_, _, rfl⟩
                  · cases hn; simp only [D] at hd; obtain ⟨a, cp, rfl, _⟩ := hd; exact ⟨_, _, rfl⟩
                obtain ⟨ad, cp, rfl⟩ := hu
                exact got_int (X := fun u w => (execOp a.eval o).run P w = .ok (.value u) w) ρ h (fun w _ => by simp [execOp, ho, resolve, hb, invoke, builtin, Builtin.len_, hm, hat', run_underlying q2, goInt])
              · cases h
            · rename_i htd
              have hd' : d = .string := by
                rw [htd] at q4
                cases d <;> simp [tdMk] at q4 ⊢
              subst hd'
              split at h
              · simp only [D] at hd
                subst hd
                exact got_int (X := fun u w => (execOp a.eval o).run P w = .ok (.value u) w) ρ h (fun w _ => by simp [execOp, ho, resolve, hb, invoke, builtin, Builtin.len_, hm, hat', run_underlying q2, goInt])
              · cases h
            · cases h
          · cases h
        · cases h
      · rename_i k x k' y hargs
        rw [hargs] at GS
        simp only [Ds_cons, Ds_nil, D] at GS
        obtain ⟨u, us', hmap, rfl, u2, us2, rfl, rfl, rfl⟩ := GS
        have hm : cl.args.map a.eval = #[.int k x, .int k' y] := by apply Array.ext'; simpa using hmap
        split at h
        · exact got_int (X := fun u w => (execOp a.eval o).run P w = .ok (.value u) w) ρ h (fun w _ => by simp [execOp, ho, resolve, hb, invoke, builtin, Builtin.min_, Builtin.min2, hm])
        · exact got_int (X := fun u w => (execOp a.eval o).run P w = .ok (.value u) w) ρ h (fun w _ => by simp [execOp, ho, resolve, hb, invoke, builtin, Builtin.max_, Builtin.max2, hm])
        · cases h
      · cases h
    · cases h
  · cases h
end
end Go.B
