/- The second reading in use: plain functions out of it. -/
import Derived.Test.YtkhmkenankdakabDoorAbJ
namespace Go.Ab
open Go Go.RowKit
set_option linter.unusedVariables false
set_option linter.unusedSimpArgs false

mutual

/-- no block of ours, nothing unknown -/
def flat : V → Bool
  | .any | .ptr _ _ | .slc _ _ _ _ | .fn _ _ _ | .yld _ => false
  | .agg cs => flats cs
  | .tup cs => flats cs
  | _ => true

def flats : List V → Bool
  | [] => true
  | v :: vs => flat v && flats vs
end
mutual

def den : V → Value
  | .bool b => .bool b
  | .int k n => .int k n
  | .str s => .string s
  | .gp g o => .pointer (some ⟨g, o, none⟩)
  | .agg cs => .agg (dens cs).toArray
  | .tup cs => .tuple (dens cs).toArray
  | .old v => v
  | _ => undef

def dens : List V → List Value
  | [] => []
  | v :: vs => den v :: dens vs
end
mutual

theorem D_den {ρ : List Nat} : ∀ {v : V}, flat v = true → D ρ v (den v)
  | .any, h => by simp [flat] at h
  | .bool _, _ => by simp [D, den]
  | .int _ _, _ => by simp [D, den]
  | .str _, _ => by simp [D, den]
  | .ptr _ _, h => by simp [flat] at h
  | .gp _ _, _ => by simp [D, den]
  | .slc _ _ _ _, h => by simp [flat] at h
  | .fn _ _ _, h => by simp [flat] at h
  | .yld _, h => by simp [flat] at h
  | .agg cs, h => by simp only [D, den]; exact ⟨_, rfl, by simpa using Ds_dens (by simpa [flat] using h)⟩
  | .tup cs, h => by simp only [D, den]; exact ⟨_, rfl, by simpa using Ds_dens (by simpa [flat] using h)⟩
  | .old _, _ => by simp [D, den]

theorem Ds_dens {ρ : List Nat} : ∀ {vs : List V}, flats vs = true → Ds ρ vs (dens vs)
  | [], _ => by simp [Ds, dens]
  | v :: vs, h => by
    simp only [flats, Bool.and_eq_true] at h
    rw [Ds_cons]
    exact ⟨_, _, rfl, D_den h.1, Ds_dens h.2⟩
end
mutual

theorem flat_solid : ∀ {v : V}, flat v = true → solid v = true
  | .any, h => by simp [flat] at h
  | .bool _, _ => rfl
  | .int _ _, _ => rfl
  | .str _, _ => rfl
  | .ptr _ _, _ => rfl
  | .gp _ _, _ => rfl
  | .slc _ _ _ _, _ => rfl
  | .fn _ _ _, h => by simp [flat] at h
  | .yld _, _ => rfl
  | .agg cs, h => by simp only [solid]; exact flats_solids (by simpa [flat] using h)
  | .tup cs, h => by simp only [solid]; exact flats_solids (by simpa [flat] using h)
  | .old _, _ => rfl

theorem flats_solids : ∀ {vs : List V}, flats vs = true → solids vs = true
  | [], _ => rfl
  | v :: vs, h => by
    simp only [flats, Bool.and_eq_true] at h
    simp only [solids, Bool.and_eq_true]
    exact ⟨flat_solid h.1, flats_solids h.2⟩
end
mutual

theorem flat_inN : ∀ {v : V}, flat v = true → inN 0 v = true
  | .any, h => by simp [flat] at h
  | .bool _, _ => rfl
  | .int _ _, _ => rfl
  | .str _, _ => rfl
  | .ptr _ _, h => by simp [flat] at h
  | .gp _ _, _ => rfl
  | .slc _ _ _ _, h => by simp [flat] at h
  | .fn _ _ _, h => by simp [flat] at h
  | .yld _, h => by simp [flat] at h
  | .agg cs, h => by simp only [inN]; exact flats_inNs (by simpa [flat] using h)
  | .tup cs, h => by simp only [inN]; exact flats_inNs (by simpa [flat] using h)
  | .old _, _ => rfl

theorem flats_inNs : ∀ {vs : List V}, flats vs = true → inNs 0 vs = true
  | [], _ => rfl
  | v :: vs, h => by
    simp only [flats, Bool.and_eq_true] at h
    simp only [inNs, Bool.and_eq_true]
    exact ⟨flat_inN h.1, flats_inNs h.2⟩
end

/-- a function that hands back g's value -/
def PureOk (P : Program) (gs : List (Nat × (IntKind × List Int))) (f : FuncId) (g : List V → Option (V × Bool)) : Prop :=
  EntersF P f ∧ ∀ args v, g args = some (v, true) → ∀ ρ us w, Ds ρ args us → Gl gs w → ∃ u, D [] v u ∧ Calls P f us.toArray w fun e w' => e = .returned u ∧ Below w.heap.size w w'

theorem enters {P : Program} {f : FuncId} {fn : Func} {cd : Code} (hf : P.funcs[f]? = some fn) (hname : (fn.name == "runtime.NumGoroutine") = false) (hb : fn.body = some cd) : EntersF P f := by
  intro args w
  have h1 : fn.name ≠ "runtime.NumGoroutine" := by simpa using hname
  simp [callFunc, hf, h1, hb, mark]

theorem body_ent {P : Program} {c : Cx} {f : FuncId} {fn : Func} (hf : P.funcs[f]? = some fn) (hname : (fn.name == "runtime.NumGoroutine") = false) (hok : (match fn.body with | some cd => okC fn.ntmps cd | none => true) = true) : EntOk P c f (.body fn) :=
  ⟨hf, hname, fun cd hb => by rw [hb] at hok; exact hok⟩

def Fns (P : Program) (c : Cx) : List (Nat × Ent) → Prop
  | [] => True
  | (f, e) :: l => EntOk P c f e ∧ Fns P c l

theorem Fns_assoc {P : Program} {c : Cx} : ∀ {l : List (Nat × Ent)}, Fns P c l → ∀ f e, assoc f l = some e → EntOk P c f e
  | [], _, f, e, h => by cases h
  | (g, x) :: l, k, f, e, h => by
    unfold assoc at h
    cases hb : Nat.beq g f with
    | true =>
      rw [hb] at h
      cases h
      rw [← Nat.eq_of_beq_eq_true hb]
      exact k.1
    | false => rw [hb] at h; exact Fns_assoc k.2 f e h

theorem TyOk_of {P : Program} {c : Cx} (h : c.ty.map (fun p => tyMk P p.1) = c.ty.map (fun p => some p.2)) : TyOk P c := by
  have key : ∀ (l : List (Nat × TyE)), l.map (fun p => tyMk P p.1) = l.map (fun p => some p.2) → ∀ t e, assoc t l = some e → tyMk P t = some e := by
    intro l
    induction l with
    | nil => intro _ t e h; cases h
    | cons p l ih =>
      obtain ⟨g, x⟩ := p
      intro hm t e h
      simp only [List.map_cons, List.cons.injEq] at hm
      unfold assoc at h
      cases hb : Nat.beq g t with
      | true =>
        rw [hb] at h
        cases h
        rw [← Nat.eq_of_beq_eq_true hb]
        exact hm.1
      | false => rw [hb] at h; exact ih hm.2 t e h
  exact key c.ty h

theorem EqOk_nil {P : Program} {c : Cx} (h : c.eqs = []) : EqOk P c := fun t g xs ys r k => by rw [h] at k; cases k

section
variable {P : Program} {c : Cx} (hT : TyOk P c) (hE : EqOk P c) (hF : FnsOk P c) (hm : P.follows .mixedOrders = true)
include hT hE hF hm

theorem pure_of {f : FuncId} {ok : FuncId → Nat → Bool} {lp : FuncId → Nat → Nat} {n : Nat} {args : List V} {v : V} (h : acall c ok lp n (.fn f [] []) args [] fun x _ => x = v) (ha : flats args = true) (hv : flat v = true) :
    ∀ ρ us w, Ds ρ args us → Gl c.gs w → ∃ u, D [] v u ∧ Calls P f us.toArray w fun e w' => e = .returned u ∧ Below w.heap.size w w' := by
  intro ρ us w hds hG
  have e : us = dens args := Ds_one_value (flats_solids ha) hds (Ds_dens ha)
  subst e
  refine ⟨den v, D_den hv, (calls_of hT hE hF hm hG h (Ds_dens ha) (flat_inN hv)).mono ?_⟩
  rintro e w' ⟨u, rfl, h1, h2⟩
  rw [D_one_value (flat_solid hv) h1 (D_den hv)]
  exact ⟨rfl, h2⟩
end

theorem PureOk.calls {P : Program} {gs : List (Nat × (IntKind × List Int))} {f : FuncId} {g : List V → Option (V × Bool)} (h : PureOk P gs f g) {args : List V} {v : V} (hg : g args = some (v, true)) (ha : flats args = true) (hv : flat v = true) {w : World} (hG : Gl gs w) :
    Calls P f (dens args).toArray w fun e w' => e = .returned (den v) ∧ Below w.heap.size w w' := by
  obtain ⟨u, h1, h2⟩ := h.2 args v hg [] _ w (Ds_dens ha) hG
  rw [D_one_value (flat_solid hv) h1 (D_den hv)] at h2
  exact h2

theorem br_of {b : Bool} {X Y Z : Prop} (h1 : b = true → X = Z) (h2 : b = false → Y = Z) : br b X Y = Z := by
  cases b
  · exact h2 rfl
  · exact h1 rfl

theorem br_intro {b : Bool} {X Y : Prop} (h1 : b = true → X) (h2 : b = false → Y) : br b X Y := by
  cases b
  · exact h2 rfl
  · exact h1 rfl

theorem req_intro {b : Bool} {X : Prop} (h1 : b = true) (h2 : X) : req b X := by
  rw [h1]; exact h2

theorem got_eq {a v : V} {b : Bool} (h : some (a, b) = some (v, true)) : a = v ∧ b = true := by
  injection h with h
  injection h with h1 h2
  exact ⟨h1, h2⟩

theorem wrap_i64e (n : Int) : IntKind.wrap .i64 n = (n + 9223372036854775808) % 18446744073709551616 - 9223372036854775808 := by
  simp only [IntKind.wrap, IntKind.signed, IntKind.bits]; simp; omega

theorem wrap_u64e (n : Int) : IntKind.wrap .u64 n = n % 18446744073709551616 := by
  simp only [IntKind.wrap, IntKind.signed, IntKind.bits]; simp

theorem wrap_u8e (n : Int) : IntKind.wrap .u8 n = n % 256 := by
  simp only [IntKind.wrap, IntKind.signed, IntKind.bits]; simp

theorem wrap_u32e (n : Int) : IntKind.wrap .u32 n = n % 4294967296 := by
  simp only [IntKind.wrap, IntKind.signed, IntKind.bits]; simp

theorem wrap_i64i {n : Int} (h : -9223372036854775808 ≤ n) (k : n ≤ 9223372036854775807) : IntKind.wrap .i64 n = n := by rw [wrap_i64e]; omega

theorem wrap_u64i {n : Int} (h : 0 ≤ n) (k : n ≤ 18446744073709551615) : IntKind.wrap .u64 n = n := by rw [wrap_u64e]; omega
end Go.Ab
