import Derived.Test.YtjbpihalfaclkaaGreatDoorKf
/- What the reference makes of texts of fields: fields. -/
namespace Go.Proofs.YtjbpihalfaclkaaGreatDoor
open Go Go.B
set_option linter.unusedSimpArgs false
set_option linter.unusedVariables false
set_option linter.unusedSectionVars false
set_option maxRecDepth 20000

def orL (l : List Nat) : Nat := l.foldl (· ||| ·) 0

theorem orL_snoc (l : List Nat) (x : Nat) : orL (l ++ [x]) = orL l ||| x := by simp [orL]

/- fields -/

def rdL (k : Nat) : List (List UInt8) → Nat → List Nat → Nat ⊕ List Nat
  | [], _, l => .inr l
  | x :: xs, a, l => match itemO k x with
    | none => .inl a
    | some q => rdL k xs (a + x.length + 1) (l ++ [q])

theorem rdL_readL (k : Nat) : ∀ (ps : List (List UInt8)) (a : Nat) (l : List Nat), readL k ps a (orL l) = match rdL k ps a l with | .inl p => (0, (p : Int), 160) | .inr l' => (((orL l' : Nat) : Int), 0, 0)
  | [], a, l => rfl
  | x :: xs, a, l => by
    unfold readL rdL
    cases itemO k x with
    | none => rfl
    | some q => simp only; rw [← orL_snoc]; exact rdL_readL k xs _ _

end Go.Proofs.YtjbpihalfaclkaaGreatDoor
/- Texts behind one another, and spans by steps: what they say. -/
namespace Go.Proofs.YtjbpihalfaclkaaGreatDoor
open Go Go.B
set_option linter.unusedSimpArgs false
set_option linter.unusedVariables false
set_option linter.unusedSectionVars false
set_option maxRecDepth 20000

theorem rdL_cons (k : Nat) (x : List UInt8) (xs : List (List UInt8)) (a : Nat) (l : List Nat) : rdL k (x :: xs) a l = match itemO k x with | none => .inl a | some q => rdL k xs (a + x.length + 1) (l ++ [q]) := rfl

def tot (ps : List (List UInt8)) : Nat := (ps.map fun x => x.length + 1).sum

theorem tot_splitN (c : UInt8) : ∀ (n : Nat) (l : List UInt8), tot (splitN c n l) = l.length + 1
  | 0, l => by simp [splitN, tot]
  | n + 1, l => by
    unfold splitN
    cases hc : (cutO c l).2.2
    · simp [tot]
    · have h1 := (cutO_len (c := c) l).2 hc
      have h2 := tot_splitN c n (cutO c l).2.1
      unfold tot at h2 ⊢
      simp only [if_true, List.map_cons, List.sum_cons]
      omega

theorem rdL_shift (k : Nat) : ∀ (ps : List (List UInt8)) (a : Nat) (l : List Nat), rdL k ps a l = match rdL k ps 0 [] with | .inl p => .inl (a + p) | .inr l' => .inr (l ++ l')
  | [], a, l => by simp [rdL]
  | x :: xs, a, l => by
    unfold rdL
    cases itemO k x with
    | none => simp
    | some q =>
      simp only
      rw [rdL_shift k xs (a + x.length + 1) (l ++ [q]), rdL_shift k xs (0 + x.length + 1) ([] ++ [q])]
      cases rdL k xs 0 [] with
      | inl p => simp; omega
      | inr l' => simp

/-- the field of a text, by its items -/
theorem readO_rd (k : Nat) {l : List UInt8} (h : l.length ≤ 256) : readO k l = match rdL k (splitC 44 l) 0 [] with | .inl p => (0, (p : Int), 160) | .inr l' => (((orL l' : Nat) : Int), 0, 0) := by
  unfold readO
  rw [if_neg (by omega)]
  exact rdL_readL k (splitC 44 l) 0 []

end Go.Proofs.YtjbpihalfaclkaaGreatDoor
