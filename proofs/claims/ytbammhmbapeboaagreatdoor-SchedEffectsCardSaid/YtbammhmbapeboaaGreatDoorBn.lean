/- Functions at arguments that stand in full: what was reckoned once is looked up. -/
import Derived.Test.YtbammhmbapeboaaGreatDoorBl
namespace Go.B
open Go
set_option linter.unusedVariables false
set_option linter.unusedSectionVars false

def eqbL {α : Type} (f : α → α → Bool) : List α → List α → Bool
  | [], [] => true
  | a :: l, b :: r => f a b && eqbL f l r
  | _, _ => false

theorem eqbL_of {α : Type} {f : α → α → Bool} (h : ∀ a b, f a b = true → a = b) : ∀ {l r : List α}, eqbL f l r = true → l = r
  | [], [], _ => rfl
  | [], _ :: _, k => by cases k
  | _ :: _, [], k => by cases k
  | a :: l, b :: r, k => by
    have k : (f a b && eqbL f l r) = true := k
    rw [Bool.and_eq_true] at k
    rw [h a b k.1, eqbL_of h k.2]

def eqbS (a b : ByteArray) : Bool := a.data.toList == b.data.toList

theorem eqbS_of {a b : ByteArray} (h : eqbS a b = true) : a = b := by
  have h := eq_of_beq h
  obtain ⟨⟨l⟩⟩ := a
  obtain ⟨⟨r⟩⟩ := b
  have h : l = r := h
  rw [h]

def Ty.eqb : (t : Ty) → t.den → t.den → Bool
  | .int _, a, b => decide ((a : Int) = b)
  | .bool, a, b => (a : Bool) == b
  | .str, a, b => eqbS a b
  | .sl t, a, b => eqbL t.eqb a b
  | .pr s t, a, b => s.eqb a.1 b.1 && t.eqb a.2 b.2

theorem Ty.eqb_of : ∀ {t : Ty} {a b : t.den}, t.eqb a b = true → a = b
  | .int _, a, b, h => of_decide_eq_true h
  | .bool, a, b, h => eq_of_beq (α := Bool) h
  | .str, a, b, h => eqbS_of h
  | .sl t, a, b, h => eqbL_of (fun _ _ => Ty.eqb_of (t := t)) h
  | .pr s t, (a, b), (a', b'), h => by
    have h : (s.eqb a a' && t.eqb b b') = true := h
    rw [Bool.and_eq_true] at h
    rw [Ty.eqb_of h.1, Ty.eqb_of h.2]

def RT.eqb : (t : RT) → t.den → t.den → Bool
  | .int _, a, b => decide ((a : Int) = b)
  | .bool, a, b => (a : Bool) == b
  | .str, a, b => eqbS a b
  | .sl t, a, b => eqbL t.eqb a b
  | .nw t _, a, b => eqbL t.eqb a b
  | .unit, _, _ => true
  | .none, _, _ => true
  | .one a, x, y => a.eqb x y
  | .cons a r, x, y => a.eqb x.1 y.1 && r.eqb x.2 y.2
  | .agg l, x, y => l.eqb x y
  | .tup l, x, y => l.eqb x y

theorem RT.eqb_of : ∀ {t : RT} {a b : t.den}, t.eqb a b = true → a = b
  | .int _, a, b, h => of_decide_eq_true h
  | .bool, a, b, h => eq_of_beq (α := Bool) h
  | .str, a, b, h => eqbS_of h
  | .sl t, a, b, h => eqbL_of (fun _ _ => Ty.eqb_of (t := t)) h
  | .nw t _, a, b, h => eqbL_of (fun _ _ => Ty.eqb_of (t := t)) h
  | .unit, _, _, _ => rfl
  | .none, _, _, _ => rfl
  | .one a, x, y, h => RT.eqb_of (t := a) h
  | .cons a r, (x, y), (x', y'), h => by
    have h : (a.eqb x x' && r.eqb y y') = true := h
    rw [Bool.and_eq_true] at h
    rw [RT.eqb_of h.1, RT.eqb_of h.2]
  | .agg l, x, y, h => RT.eqb_of (t := l) h
  | .tup l, x, y, h => RT.eqb_of (t := l) h

def tabO {α β : Type} (q : α → α → Bool) (x : α) : List (α × β) → Option β
  | [] => none
  | p :: l => match q p.1 x with
    | true => some p.2
    | false => tabO q x l

theorem tabO_of {α β : Type} {q : α → α → Bool} {x : α} {y : β} (hq : ∀ a b, q a b = true → a = b) : ∀ {l : List (α × β)}, tabO q x l = some y → (x, y) ∈ l
  | p :: l, h => by
    unfold tabO at h
    split at h
    · rename_i e; cases h; rw [← hq _ _ e]; exact List.mem_cons_self
    · exact List.mem_cons_of_mem _ (tabO_of hq h)

def tabG (A B : RT) (d : B.den) (l : List (A.den × B.den)) (x : A.den) : B.den := match tabO A.eqb x l with | some y => y | none => d

def tabP (A B : RT) (l : List (A.den × B.den)) (x : A.den) : Bool := match tabO A.eqb x l with | some _ => true | none => false

/-- looked up in a table -/
def tabE (A B : RT) (d : B.den) (l : List (A.den × B.den)) : Ent := .fn A B (tabG A B d l) (tabP A B l)

/-- a function at one argument -/
def At (P : Program) (gs : List (Nat × CF)) (f : FuncId) (A B : RT) (p : A.den × B.den) : Prop := FxOk P gs f A B fun x y => x = p.1 ∧ y = p.2

def AllP {α : Type} (p : α → Prop) : List α → Prop
  | [] => True
  | a :: l => p a ∧ AllP p l

theorem AllP_mem {α : Type} {p : α → Prop} : ∀ {l : List α}, AllP p l → ∀ a ∈ l, p a
  | b :: l, h, a, ha => by
    rcases List.mem_cons.mp ha with e | e
    · rw [e]; exact h.1
    · exact AllP_mem h.2 a e

theorem tab_ok {P : Program} {gs : List (Nat × CF)} {f : FuncId} {A B : RT} {d : B.den} {p : A.den × B.den} {l : List (A.den × B.den)} (h : AllP (At P gs f A B) (p :: l)) : FxOk P gs f A B fun x y => tabP A B (p :: l) x = true ∧ y = tabG A B d (p :: l) x := by
  refine ⟨h.1.1, h.1.2.1, fun x y ⟨h1, h2⟩ => ?_⟩
  unfold tabP at h1
  unfold tabG at h2
  cases hq : tabO A.eqb x (p :: l) with
  | none => rw [hq] at h1; cases h1
  | some z =>
    rw [hq] at h2
    have h2 : y = z := h2
    subst h2
    exact (AllP_mem h _ (tabO_of (fun _ _ => RT.eqb_of) hq)).2.2 x y ⟨rfl, rfl⟩

theorem at_eq {α : Sort 1} {β : Sort 1} {a a' : α} {b b' : β} {Q : α → β → Prop} (h : Q a' b') (k : a = a' ∧ b = b') : Q a b := by
  obtain ⟨rfl, rfl⟩ := k; exact h
end Go.B
