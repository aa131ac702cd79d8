/- The second reading: == of structs; plain functions out of contracts. -/
import Derived.Test.YtkhmkenankdakabDoorAbL
import Derived.Laws.StructEq
namespace Go.Ab
open Go Go.RowKit
set_option linter.unusedVariables false
set_option linter.unusedSimpArgs false

/-- == by the type: structs out of the list ss -/
def aeq (ty : List (Nat × TyE)) (ss : List Nat) : Nat → TypeId → V → V → Option Bool
  | 0, _, _, _ => none
  | d + 1, t, x, y => match assoc t ty with
    | none => none
    | some e => match e.td with
      | .int k0 => match x, y with
        | .int k a, .int k' b => match kindEq k k' with | true => some (a == b) | false => none
        | _, _ => none
      | .bool => match x, y with
        | .bool a, .bool b => some (a == b)
        | _, _ => none
      | .str => match x, y with
        | .str a, .str b => some (a.toList == b.toList)
        | _, _ => none
      | .st fs => match x, y with
        | .agg xs, .agg ys => match ss.any (Nat.beq t) with
          | true => fs.foldr (fun f acc => match assoc f.1 ty with
            | none => none
            | some fe => match part fe xs f.2, part fe ys f.2 with
              | some a, some b => match aeq ty ss d f.1 a b, acc with
                | some r, some s => some (r && s)
                | _, _ => none
              | _, _ => none) (some true)
          | false => none
        | _, _ => none
      | _ => none

/-- structs without blank fields, that stand nobody in -/
def plainS (P : Program) (ss : List Nat) : Bool := ss.all fun t => !(P.stoodInHeld t) && !(P.eqGuardType P.depth t) && (P.fieldsOf t).toList.all fun f => !(f.name == "_")

theorem plainS_of {P : Program} {ss : List Nat} (h : plainS P ss = true) {t : Nat} (ht : ss.any (Nat.beq t) = true) : P.stoodInHeld t = false ∧ P.eqGuardType P.depth t = false ∧ ∀ f ∈ (P.fieldsOf t).toList, f.name ≠ "_" := by
  rw [List.any_eq_true] at ht
  obtain ⟨s, hs, he⟩ := ht
  have e := Nat.eq_of_beq_eq_true he
  subst e
  have k := List.all_eq_true.mp h t hs
  simp only [Bool.and_eq_true, Bool.not_eq_true'] at k
  refine ⟨k.1.1, k.1.2, fun f hf => ?_⟩
  have := List.all_eq_true.mp k.2 f hf
  simpa using this

section
variable {P : Program} {ty : List (Nat × TyE)} {ss : List Nat} (hT : ∀ t e, assoc t ty = some e → tyMk P t = some e) (hS : plainS P ss = true)
include hT hS

theorem aeq_sound : ∀ (d : Nat) (t : TypeId) (x y : V) (r : Bool), aeq ty ss d t x y = some r → ∀ (ρ : List Nat) (u1 u2 : Value) (w : World) (d' : Nat), D ρ x u1 → D ρ y u2 → d ≤ d' → (Op.equalIn d' t u1 u2).run P w = .ok r w
  | 0, t, x, y, r, h => by simp [aeq] at h
  | d + 1, t, x, y, r, h => by
    intro ρ u1 u2 w d' h1 h2 hd
    obtain ⟨d', rfl⟩ : ∃ e, d' = e + 1 := ⟨d' - 1, by omega⟩
    unfold aeq at h
    split at h
    · cases h
    · rename_i e he
      obtain ⟨i, de, z, _, hu, _, htd, _, _⟩ := tyMk_spec (hT _ _ he)
      split at h
      · rename_i k0 hk
        split at h
        · rename_i k a k' b
          split at h
          · rename_i hkk
            have := kindEq_of hkk
            subst this
            simp only [D] at h1 h2
            subst h1 h2
            cases h
            cases de <;> simp only [tdMk] at htd <;> rw [hk] at htd <;> first | (cases htd; done) | exact run_equalIn_int w d' t _ _ a b hu
          · cases h
        · cases h
      · rename_i hk
        split at h
        · rename_i a b
          simp only [D] at h1 h2
          subst h1 h2
          cases h
          cases de <;> simp only [tdMk] at htd <;> rw [hk] at htd <;> first | (cases htd; done) | exact run_equalIn_bool' w d' t a b hu
        · cases h
      · rename_i hk
        split at h
        · rename_i a b
          simp only [D] at h1 h2
          subst h1 h2
          cases h
          cases de <;> simp only [tdMk] at htd <;> rw [hk] at htd <;> first | (cases htd; done) | exact run_equalIn_string w d' t a b hu
        · cases h
      · rename_i fs hk
        split at h
        · rename_i xs ys
          simp only [D] at h1 h2
          obtain ⟨us, rfl, d1⟩ := h1
          obtain ⟨vs, rfl, d2⟩ := h2
          split at h
          · rename_i hs
            obtain ⟨s1, s2, s3⟩ := plainS_of hS hs
            have hu' : P.underlying t = some (.struct (P.fieldsOf t)) ∧ fs = (P.fieldsOf t).toList.map fun f => (f.type, f.offset) := by
              cases de <;> simp only [tdMk] at htd <;> rw [hk] at htd <;> first | (cases htd; done) | skip
              rename_i fs'
              have e1 : P.fieldsOf t = fs' := by simp [Program.fieldsOf, hu]
              rw [e1]
              injection htd with htd
              exact ⟨hu, htd⟩
            obtain ⟨hu1, rfl⟩ := hu'
            rw [run_equalIn_struct w d' t us vs hu1 s1]
            clear hs hu1 hk htd hu
            generalize (P.fieldsOf t).toList = l at *
            clear he
            induction l generalizing r with
            | nil => simp only [List.map_nil, List.foldr_nil] at h; cases h; simp [Op.eqFields]
            | cons f l ih =>
              simp only [List.map_cons, List.foldr_cons] at h
              split at h
              · cases h
              · rename_i fe hfe
                split at h
                · rename_i a b ha hb
                  split at h
                  · rename_i r1 s hr hs'
                    cases h
                    obtain ⟨ua, a1, a2⟩ := part_sound (P := P) (hT _ _ hfe) d1 ha w
                    obtain ⟨ub, b1, b2⟩ := part_sound (P := P) (hT _ _ hfe) d2 hb w
                    have k := aeq_sound d f.type a b r1 hr ρ ua ub w d' a1 b1 (by omega)
                    have ih := ih s (fun g hg => s3 g (List.mem_cons_of_mem _ hg)) hs'
                    unfold Op.eqFields
                    rw [if_pos (s3 f List.mem_cons_self)]
                    simp only [Sem.run_bind, a2, b2, k, Result.andThen_ok, Sem.run_ite]
                    cases r1
                    · simp
                    · simpa using ih
                  · cases h
                · cases h
          · cases h
        · cases h
      · cases h

/-- the table of ==s -/
def eqsOf (ty : List (Nat × TyE)) (ss : List Nat) : List (Nat × (List V → List V → Option Bool)) := ss.map fun t => (t, fun xs ys => aeq ty ss 20 t (.agg xs) (.agg ys))
omit hT hS in

theorem eqsOf_get : ∀ {l : List Nat} {t : Nat} {g : List V → List V → Option Bool}, assoc t (l.map fun t => (t, fun xs ys => aeq ty ss 20 t (.agg xs) (.agg ys))) = some g → l.any (Nat.beq t) = true ∧ g = fun xs ys => aeq ty ss 20 t (.agg xs) (.agg ys)
  | [], t, g, h => by cases h
  | s :: l, t, g, h => by
    simp only [List.map_cons] at h
    unfold assoc at h
    cases hb : Nat.beq s t with
    | true =>
      rw [hb] at h
      cases h
      have := Nat.eq_of_beq_eq_true hb
      subst this
      refine ⟨?_, rfl⟩
      simp
    | false =>
      rw [hb] at h
      obtain ⟨h1, h2⟩ := eqsOf_get (l := l) h
      exact ⟨by simp only [List.any_cons, h1, Bool.or_true], h2⟩

theorem eqsOf_ok {c : Cx} (h : c.eqs = eqsOf ty ss) : EqOk P c := by
  intro t g xs ys r hg hr ρ us vs w d1 d2
  rw [h] at hg
  obtain ⟨h1, rfl⟩ := eqsOf_get hg
  obtain ⟨s1, s2, s3⟩ := plainS_of hS h1
  refine ⟨?_, s2⟩
  exact aeq_sound hT hS 20 t _ _ r hr ρ _ _ w Op.maxDepth (by simp only [D]; exact ⟨us, rfl, d1⟩) (by simp only [D]; exact ⟨vs, rfl, d2⟩) (by unfold Op.maxDepth; omega)
end

/-- a contract, told as a plain function -/
theorem PureOk.mk' {P : Program} {gs : List (Nat × (IntKind × List Int))} {f : FuncId} {g : List V → Option (V × Bool)} (hen : EntersF P f)
    (h : ∀ args v, g args = some (v, true) → flats args = true ∧ flat v = true ∧ ∀ w, Gl gs w → Calls P f (dens args).toArray w fun e w' => e = .returned (den v) ∧ Below w.heap.size w w') : PureOk P gs f g := by
  refine ⟨hen, fun args v hv ρ us w hds hG => ?_⟩
  obtain ⟨h1, h2, h3⟩ := h args v hv
  have e : us = dens args := Ds_one_value (flats_solids h1) hds (Ds_dens h1)
  subst e
  exact ⟨den v, D_den h2, h3 w hG⟩
end Go.Ab
