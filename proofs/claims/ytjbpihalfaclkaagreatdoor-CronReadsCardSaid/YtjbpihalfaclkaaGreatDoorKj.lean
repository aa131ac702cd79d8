/- What the reference makes of texts of fields: fields. -/
import Derived.Test.YtjbpihalfaclkaaGreatDoorKi
namespace Go.Proofs.YtjbpihalfaclkaaGreatDoor
open Go Go.B
set_option linter.unusedSimpArgs false
set_option linter.unusedVariables false
set_option linter.unusedSectionVars false
set_option maxRecDepth 20000

theorem ofM_bit : ∀ {l : List Int}, (∀ x ∈ l, 0 ≤ x) → ∀ j : Nat, Nat.testBit (ofM l) j = decide ((j : Int) ∈ l) := by
  have key : ∀ (l : List Int) (m : Nat), (∀ x ∈ l, 0 ≤ x) → ∀ j : Nat, Nat.testBit (l.foldl (fun m n => m ||| 2 ^ n.toNat) m) j = (Nat.testBit m j || decide ((j : Int) ∈ l)) := by
    intro l
    induction l with
    | nil => intro m _ j; simp
    | cons x l ih =>
      intro m h j
      have hx := h x List.mem_cons_self
      rw [List.foldl_cons, ih _ (fun y hy => h y (List.mem_cons_of_mem _ hy)), Nat.testBit_or, Nat.testBit_two_pow]
      rw [Bool.or_assoc]
      congr 1
      rw [Bool.eq_iff_iff]
      simp only [Bool.or_eq_true, decide_eq_true_eq, List.mem_cons]
      constructor
      · rintro (h1 | h1)
        · left; omega
        · exact .inr h1
      · rintro (h1 | h1)
        · left; omega
        · exact .inr h1
  intro l h j
  have := key l 0 h j
  unfold ofM
  simpa using this

theorem ofM_bits {m : Nat} (hm : m < 18446744073709551616) : ofM (bitsL (m : Int)) = m := by
  apply Nat.eq_of_testBit_eq
  intro j
  rw [ofM_bit (fun x hx => (bitsL_mem hx).1)]
  unfold bitsL
  rw [Int.toNat_natCast]
  rw [Bool.eq_iff_iff, decide_eq_true_eq]
  constructor
  · intro h
    have := lstB_yesmem h
    simpa using this
  · intro h
    refine lstB_has ?_ h
    rcases Nat.lt_or_ge j 64 with k | k
    · exact k
    · have e64 : (2 : Nat) ^ 64 = 18446744073709551616 := by decide
      have hp : 2 ^ 64 ≤ 2 ^ j := Nat.pow_le_pow_right (by omega) k
      rw [Nat.testBit_lt_two_pow (by omega)] at h; cases h

theorem ofM_append {a b : List Int} (ha : ∀ x ∈ a, 0 ≤ x) (hb : ∀ x ∈ b, 0 ≤ x) : ofM (a ++ b) = ofM a ||| ofM b := by
  apply Nat.eq_of_testBit_eq
  intro j
  rw [Nat.testBit_or, ofM_bit ha, ofM_bit hb, ofM_bit (fun x hx => by rcases List.mem_append.mp hx with h | h; exact ha x h; exact hb x h)]
  rw [Bool.eq_iff_iff]
  simp

def orL (l : List Nat) : Nat := l.foldl (· ||| ·) 0

theorem orL_snoc (l : List Nat) (x : Nat) : orL (l ++ [x]) = orL l ||| x := by simp [orL]

def allB (l : List Nat) : List Int := l.flatMap (fun m : Nat => bitsL (m : Int))

theorem allB_snoc (l : List Nat) (x : Nat) : allB (l ++ [x]) = allB l ++ bitsL (x : Int) := by simp [allB]

theorem allB_mem {l : List Nat} {x : Int} (h : x ∈ allB l) : 0 ≤ x ∧ x ≤ 63 := by
  unfold allB at h
  obtain ⟨m, _, h⟩ := List.mem_flatMap.mp h
  exact bitsL_mem h

theorem allB_len : ∀ l : List Nat, (allB l).length ≤ 64 * l.length
  | [] => by simp [allB]
  | x :: l => by
    have := allB_len l
    have hb := bitsL_len (x : Int)
    have e : allB (x :: l) = bitsL (x : Int) ++ allB l := by simp [allB]
    rw [e, List.length_append, List.length_cons]; omega

theorem ofM_allB : ∀ {l : List Nat}, (∀ m ∈ l, m < 18446744073709551616) → ofM (allB l) = orL l := by
  intro l
  have key : ∀ (r : List Nat), (∀ m ∈ r, m < 18446744073709551616) → ofM (allB r.reverse) = orL r.reverse := by
    intro r
    induction r with
    | nil => intro _; rfl
    | cons x r ih =>
      intro h
      rw [List.reverse_cons, allB_snoc, orL_snoc, ofM_append (fun x hx => (allB_mem hx).1) (fun x hx => (bitsL_mem hx).1), ofM_bits (h x List.mem_cons_self), ih (fun m hm => h m (List.mem_cons_of_mem _ hm))]
  intro h
  have := key l.reverse (by simpa using h)
  simpa using this
/- fields -/

def rdL (k : Nat) : List (List UInt8) → Nat → List Nat → Nat ⊕ List Nat
  | [], _, l => .inr l
  | x :: xs, a, l => match itemO k x with
    | none => .inl a
    | some q => rdL k xs (a + x.length + 1) (l ++ [q])

theorem rdL_readL (k : Nat) : ∀ (ps : List (List UInt8)) (a : Nat) (l : List Nat), readL k ps a (orL l) = match rdL k ps a l with | .inl p => (0, (p : Int), 160) | .inr l' => (((orL l' : Nat) : Int), 0, 0)
  | [], a, l => rfl
  | x :: xs, a, l => by
    unfold readL rdL
    cases itemO k x with
    | none => rfl
    | some q => simp only; rw [← orL_snoc]; exact rdL_readL k xs _ _

theorem rdL_ok {k : Nat} (hk : k < 5) : ∀ (ps : List (List UInt8)) (a : Nat) (l l' : List Nat), (∀ m ∈ l, m < 18446744073709551616) → rdL k ps a l = .inr l' → (∀ m ∈ l', m < 18446744073709551616) ∧ l'.length = l.length + ps.length
  | [], a, l, l', h, e => by cases e; exact ⟨h, rfl⟩
  | x :: xs, a, l, l', h, e => by
    unfold rdL at e
    cases ho : itemO k x with
    | none => rw [ho] at e; cases e
    | some q =>
      rw [ho] at e
      obtain ⟨h1, h2⟩ := rdL_ok hk xs _ _ l' (fun m hm => by
        rcases List.mem_append.mp hm with hm | hm
        · exact h m hm
        · simp at hm; rw [hm]; exact itemO_lt hk ho) e
      exact ⟨h1, by rw [h2]; simp; omega⟩
end Go.Proofs.YtjbpihalfaclkaaGreatDoor
