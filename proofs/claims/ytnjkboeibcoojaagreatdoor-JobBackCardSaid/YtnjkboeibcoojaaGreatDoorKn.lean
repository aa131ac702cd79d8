import Derived.Test.YtnjkboeibcoojaaGreatDoorKf
/- What the reference makes of texts of fields: fields. -/
namespace Go.Proofs.YtnjkboeibcoojaaGreatDoor
open Go Go.B
set_option linter.unusedSimpArgs false
set_option linter.unusedVariables false
set_option linter.unusedSectionVars false
set_option maxRecDepth 20000

theorem ofM_bit : ∀ {l : List Int}, (∀ x ∈ l, 0 ≤ x) → ∀ j : Nat, Nat.testBit (ofM l) j = decide ((j : Int) ∈ l) := by
  have key : ∀ (l : List Int) (m : Nat), (∀ x ∈ l, 0 ≤ x) → ∀ j : Nat, Nat.testBit (l.foldl (fun m n => m ||| 2 ^ n.toNat) m) j = (Nat.testBit m j || decide ((j : Int) ∈ l)) := by
    intro l
    induction l with
    | nil => intro m _ j; simp
    | cons x l ih =>
      intro m h j
      have hx := h x List.mem_cons_self
      rw [List.foldl_cons, ih _ (fun y hy => h y (List.mem_cons_of_mem _ hy)), Nat.testBit_or, Nat.testBit_two_pow]
      rw [Bool.or_assoc]
      congr 1
      rw [Bool.eq_iff_iff]
      simp only [Bool.or_eq_true, decide_eq_true_eq, List.mem_cons]
      constructor
      · rintro (h1 | h1)
        · left; omega
        · exact .inr h1
      · rintro (h1 | h1)
        · left; omega
        · exact .inr h1
  intro l h j
  have := key l 0 h j
  unfold ofM
  simpa using this

theorem ofM_bits {m : Nat} (hm : m < 18446744073709551616) : ofM (bitsL (m : Int)) = m := by
  apply Nat.eq_of_testBit_eq
  intro j
  rw [ofM_bit (fun x hx => (bitsL_mem hx).1)]
  unfold bitsL
  rw [Int.toNat_natCast]
  rw [Bool.eq_iff_iff, decide_eq_true_eq]
  constructor
  · intro h
    have := lstB_yesmem h
    simpa using this
  · intro h
    refine lstB_has ?_ h
    rcases Nat.lt_or_ge j 64 with k | k
    · exact k
    · have e64 : (2 : Nat) ^ 64 = 18446744073709551616 := by decide
      have hp : 2 ^ 64 ≤ 2 ^ j := Nat.pow_le_pow_right (by omega) k
      rw [Nat.testBit_lt_two_pow (by omega)] at h; cases h

theorem ofM_append {a b : List Int} (ha : ∀ x ∈ a, 0 ≤ x) (hb : ∀ x ∈ b, 0 ≤ x) : ofM (a ++ b) = ofM a ||| ofM b := by
  apply Nat.eq_of_testBit_eq
  intro j
  rw [Nat.testBit_or, ofM_bit ha, ofM_bit hb, ofM_bit (fun x hx => by rcases List.mem_append.mp hx with h | h; exact ha x h; exact hb x h)]
  rw [Bool.eq_iff_iff]
  simp

def orL (l : List Nat) : Nat := l.foldl (· ||| ·) 0

theorem orL_snoc (l : List Nat) (x : Nat) : orL (l ++ [x]) = orL l ||| x := by simp [orL]

def allB (l : List Nat) : List Int := l.flatMap (fun m : Nat => bitsL (m : Int))

theorem allB_snoc (l : List Nat) (x : Nat) : allB (l ++ [x]) = allB l ++ bitsL (x : Int) := by simp [allB]

theorem allB_mem {l : List Nat} {x : Int} (h : x ∈ allB l) : 0 ≤ x ∧ x ≤ 63 := by
  unfold allB at h
  obtain ⟨m, _, h⟩ := List.mem_flatMap.mp h
  exact bitsL_mem h

theorem allB_len : ∀ l : List Nat, (allB l).length ≤ 64 * l.length
  | [] => by simp [allB]
  | x :: l => by
    have := allB_len l
    have hb := bitsL_len (x : Int)
    have e : allB (x :: l) = bitsL (x : Int) ++ allB l := by simp [allB]
    rw [e, List.length_append, List.length_cons]; omega

theorem ofM_allB : ∀ {l : List Nat}, (∀ m ∈ l, m < 18446744073709551616) → ofM (allB l) = orL l := by
  intro l
  have key : ∀ (r : List Nat), (∀ m ∈ r, m < 18446744073709551616) → ofM (allB r.reverse) = orL r.reverse := by
    intro r
    induction r with
    | nil => intro _; rfl
    | cons x r ih =>
      intro h
      rw [List.reverse_cons, allB_snoc, orL_snoc, ofM_append (fun x hx => (allB_mem hx).1) (fun x hx => (bitsL_mem hx).1), ofM_bits (h x List.mem_cons_self), ih (fun m hm => h m (List.mem_cons_of_mem _ hm))]
  intro h
  have := key l.reverse (by simpa using h)
  simpa using this
/- fields -/

def rdL (k : Nat) : List (List UInt8) → Nat → List Nat → Nat ⊕ List Nat
  | [], _, l => .inr l
  | x :: xs, a, l => match itemO k x with
    | none => .inl a
    | some q => rdL k xs (a + x.length + 1) (l ++ [q])

theorem rdL_readL (k : Nat) : ∀ (ps : List (List UInt8)) (a : Nat) (l : List Nat), readL k ps a (orL l) = match rdL k ps a l with | .inl p => (0, (p : Int), 160) | .inr l' => (((orL l' : Nat) : Int), 0, 0)
  | [], a, l => rfl
  | x :: xs, a, l => by
    unfold readL rdL
    cases itemO k x with
    | none => rfl
    | some q => simp only; rw [← orL_snoc]; exact rdL_readL k xs _ _

theorem rdL_ok {k : Nat} (hk : k < 5) : ∀ (ps : List (List UInt8)) (a : Nat) (l l' : List Nat), (∀ m ∈ l, m < 18446744073709551616) → rdL k ps a l = .inr l' → (∀ m ∈ l', m < 18446744073709551616) ∧ l'.length = l.length + ps.length
  | [], a, l, l', h, e => by cases e; exact ⟨h, rfl⟩
  | x :: xs, a, l, l', h, e => by
    unfold rdL at e
    cases ho : itemO k x with
    | none => rw [ho] at e; cases e
    | some q =>
      rw [ho] at e
      obtain ⟨h1, h2⟩ := rdL_ok hk xs _ _ l' (fun m hm => by
        rcases List.mem_append.mp hm with hm | hm
        · exact h m hm
        · simp at hm; rw [hm]; exact itemO_lt hk ho) e
      exact ⟨h1, by rw [h2]; simp; omega⟩
end Go.Proofs.YtnjkboeibcoojaaGreatDoor
/- Texts behind one another, and spans by steps: what they say. -/
namespace Go.Proofs.YtnjkboeibcoojaaGreatDoor
open Go Go.B
set_option linter.unusedSimpArgs false
set_option linter.unusedVariables false
set_option linter.unusedSectionVars false
set_option maxRecDepth 20000

theorem cutO_append (c : UInt8) (B : List UInt8) : ∀ A : List UInt8, cutO c (A ++ c :: B) = if (cutO c A).2.2 = true then ((cutO c A).1, (cutO c A).2.1 ++ c :: B, true) else (A, B, true)
  | [] => by simp [cutO]
  | b :: A => by
    have ih := cutO_append c B A
    rw [List.cons_append]
    unfold cutO
    by_cases h : b = c
    · rw [if_pos h, if_pos h]; rfl
    · rw [if_neg h, if_neg h, ih]
      simp only
      by_cases h2 : (cutO c A).2.2 = true
      · rw [if_pos h2, if_pos h2]
      · rw [if_neg h2, if_neg h2]

theorem cutO_none {c : UInt8} {A : List UInt8} (h : c ∉ A) : (cutO c A).2.2 = false := by
  cases hc : (cutO c A).2.2
  · rfl
  · exact absurd (by rw [(cutO_yes hc).1]; simp) h

theorem cutO_at {c : UInt8} {A B : List UInt8} (h : c ∉ A) : cutO c (A ++ c :: B) = (A, B, true) := by
  rw [cutO_append, if_neg (by rw [cutO_none h]; decide)]

theorem splitN_succ (c : UInt8) (n : Nat) (l : List UInt8) : splitN c (n + 1) l = if (cutO c l).2.2 then (cutO c l).1 :: splitN c n (cutO c l).2.1 else [l] := rfl

theorem rdL_cons (k : Nat) (x : List UInt8) (xs : List (List UInt8)) (a : Nat) (l : List Nat) : rdL k (x :: xs) a l = match itemO k x with | none => .inl a | some q => rdL k xs (a + x.length + 1) (l ++ [q]) := rfl

theorem splitN_append (c : UInt8) (B : List UInt8) (m : Nat) (hm : B.count c ≤ m) : ∀ (n : Nat) (A : List UInt8), A.count c ≤ n → splitN c (n + 1 + m) (A ++ c :: B) = splitN c n A ++ splitN c m B := by
  have step : ∀ (n : Nat) (A : List UInt8), (cutO c A).2.2 = false → splitN c (n + 1 + m) (A ++ c :: B) = A :: splitN c m B := fun n A h => by
    have e : cutO c (A ++ c :: B) = (A, B, true) := by rw [cutO_append, if_neg (by rw [h]; decide)]
    rw [show n + 1 + m = (n + m) + 1 by omega, splitN_succ, e]
    simp only [if_true]
    rw [splitN_fuel c (n + m) m B (by omega) hm]
  intro n
  induction n with
  | zero =>
    intro A h
    have hc : (cutO c A).2.2 = false := by
      refine cutO_none fun e => ?_
      exact absurd (List.count_pos_iff.mpr e) (by omega)
    rw [step 0 A hc]; rfl
  | succ n ih =>
    intro A h
    cases hc : (cutO c A).2.2
    · rw [step (n + 1) A hc]
      rw [splitN_succ c n A, hc]; rfl
    · obtain ⟨k1, k2⟩ := cutO_yes hc
      have hcount : A.count c = (cutO c A).2.1.count c + 1 := by
        conv => lhs; rw [k1]
        rw [List.count_append, List.count_cons_self, List.count_eq_zero_of_not_mem k2]; omega
      have e : cutO c (A ++ c :: B) = ((cutO c A).1, (cutO c A).2.1 ++ c :: B, true) := by rw [cutO_append, if_pos hc]
      rw [show n + 1 + 1 + m = (n + 1 + m) + 1 by omega, splitN_succ, e, splitN_succ c n A, if_pos hc]
      simp only [if_true]
      rw [ih _ (by omega)]
      rfl

theorem splitC_append (c : UInt8) (A B : List UInt8) : splitC c (A ++ c :: B) = splitC c A ++ splitC c B := by
  unfold splitC
  have := splitN_append c B B.length List.count_le_length A.length A List.count_le_length
  rw [← this]
  rw [show (A ++ c :: B).length = A.length + 1 + B.length by simp; omega]

def tot (ps : List (List UInt8)) : Nat := (ps.map fun x => x.length + 1).sum

theorem tot_splitN (c : UInt8) : ∀ (n : Nat) (l : List UInt8), tot (splitN c n l) = l.length + 1
  | 0, l => by simp [splitN, tot]
  | n + 1, l => by
    unfold splitN
    cases hc : (cutO c l).2.2
    · simp [tot]
    · have h1 := (cutO_len (c := c) l).2 hc
      have h2 := tot_splitN c n (cutO c l).2.1
      unfold tot at h2 ⊢
      simp only [if_true, List.map_cons, List.sum_cons]
      omega

theorem rdL_shift (k : Nat) : ∀ (ps : List (List UInt8)) (a : Nat) (l : List Nat), rdL k ps a l = match rdL k ps 0 [] with | .inl p => .inl (a + p) | .inr l' => .inr (l ++ l')
  | [], a, l => by simp [rdL]
  | x :: xs, a, l => by
    unfold rdL
    cases itemO k x with
    | none => simp
    | some q =>
      simp only
      rw [rdL_shift k xs (a + x.length + 1) (l ++ [q]), rdL_shift k xs (0 + x.length + 1) ([] ++ [q])]
      cases rdL k xs 0 [] with
      | inl p => simp; omega
      | inr l' => simp

theorem rdL_append (k : Nat) (ys : List (List UInt8)) : ∀ (xs : List (List UInt8)) (a : Nat) (l : List Nat), rdL k (xs ++ ys) a l = match rdL k xs a l with | .inl p => .inl p | .inr l' => rdL k ys (a + tot xs) l'
  | [], a, l => by simp [rdL, tot]
  | x :: xs, a, l => by
    rw [List.cons_append, rdL_cons, rdL_cons]
    cases itemO k x with
    | none => rfl
    | some q =>
      simp only
      rw [rdL_append k ys xs]
      have : a + x.length + 1 + tot xs = a + tot (x :: xs) := by simp [tot]; omega
      rw [this]

theorem orL_append (a b : List Nat) : orL (a ++ b) = orL a ||| orL b := by
  have key : ∀ (r : List Nat), orL (a ++ r.reverse) = orL a ||| orL r.reverse := by
    intro r
    induction r with
    | nil => simp [orL]
    | cons x r ih => rw [List.reverse_cons, ← List.append_assoc, orL_snoc, orL_snoc, ih, Nat.or_assoc]
  have := key b.reverse
  simpa using this

theorem orL_lt {l : List Nat} (h : ∀ m ∈ l, m < 18446744073709551616) : orL l < 18446744073709551616 := by
  have key : ∀ (l : List Nat) (m : Nat), m < 2 ^ 64 → (∀ m ∈ l, m < 18446744073709551616) → l.foldl (· ||| ·) m < 2 ^ 64 := by
    intro l
    induction l with
    | nil => intro m hm _; exact hm
    | cons x l ih =>
      intro m hm h
      exact ih _ (Nat.or_lt_two_pow hm (by have := h x List.mem_cons_self; omega)) fun y hy => h y (List.mem_cons_of_mem _ hy)
  have := key l 0 (by decide) h
  have e64 : (2 : Nat) ^ 64 = 18446744073709551616 := by decide
  unfold orL; omega

/-- the field of a text, by its items -/
theorem readO_rd (k : Nat) {l : List UInt8} (h : l.length ≤ 256) : readO k l = match rdL k (splitC 44 l) 0 [] with | .inl p => (0, (p : Int), 160) | .inr l' => (((orL l' : Nat) : Int), 0, 0) := by
  unfold readO
  rw [if_neg (by omega)]
  exact rdL_readL k (splitC 44 l) 0 []

/-- a text behind another one, and a comma -/
theorem rd_join (k : Nat) (A B : List UInt8) : rdL k (splitC 44 (A ++ 44 :: B)) 0 [] = match rdL k (splitC 44 A) 0 [] with
    | .inl p => .inl p
    | .inr l => match rdL k (splitC 44 B) 0 [] with
      | .inl p => .inl (A.length + 1 + p)
      | .inr l' => .inr (l ++ l') := by
  rw [splitC_append, rdL_append]
  cases rdL k (splitC 44 A) 0 [] with
  | inl p => rfl
  | inr l =>
    simp only
    rw [rdL_shift]
    have : tot (splitC 44 A) = A.length + 1 := tot_splitN 44 _ A
    rw [this, Nat.zero_add]
    try (cases rdL k (splitC 44 B) 0 [] <;> rfl)

theorem splitC_none {l : List UInt8} (h : (44 : UInt8) ∉ l) : splitC 44 l = [l] := by
  unfold splitC
  cases l.length with
  | zero => rfl
  | succ n => unfold splitN; rw [cutO_none h]; rfl

theorem readO_one {k : Nat} {l : List UInt8} (hl : l.length ≤ 256) (h : (44 : UInt8) ∉ l) : readO k l = match itemO k l with | none => (0, 0, 160) | some q => ((q : Int), 0, 0) := by
  rw [readO_rd k hl, splitC_none h]
  unfold rdL
  cases itemO k l with
  | none => rfl
  | some q => simp [rdL, orL]
end Go.Proofs.YtnjkboeibcoojaaGreatDoor
