import Derived.Test.YtjdpkihlgpojkaaGreatDoorKf
/- What the reference makes of texts of fields: fields. -/
namespace Go.Proofs.YtjdpkihlgpojkaaGreatDoor
open Go Go.B
set_option linter.unusedSimpArgs false
set_option linter.unusedVariables false
set_option linter.unusedSectionVars false
set_option maxRecDepth 20000

theorem ofM_bit : ∀ {l : List Int}, (∀ x ∈ l, 0 ≤ x) → ∀ j : Nat, Nat.testBit (ofM l) j = decide ((j : Int) ∈ l) := by
  have key : ∀ (l : List Int) (m : Nat), (∀ x ∈ l, 0 ≤ x) → ∀ j : Nat, Nat.testBit (l.foldl (fun m n => m ||| 2 ^ n.toNat) m) j = (Nat.testBit m j || decide ((j : Int) ∈ l)) := by
    intro l
    induction l with
    | nil => intro m _ j; simp
    | cons x l ih =>
      intro m h j
      have hx := h x List.mem_cons_self
      rw [List.foldl_cons, ih _ (fun y hy => h y (List.mem_cons_of_mem _ hy)), Nat.testBit_or, Nat.testBit_two_pow]
      rw [Bool.or_assoc]
      congr 1
      rw [Bool.eq_iff_iff]
      simp only [Bool.or_eq_true, decide_eq_true_eq, List.mem_cons]
      constructor
      · rintro (h1 | h1)
        · left; omega
        · exact .inr h1
      · rintro (h1 | h1)
        · left; omega
        · exact .inr h1
  intro l h j
  have := key l 0 h j
  unfold ofM
  simpa using this

theorem ofM_bits {m : Nat} (hm : m < 18446744073709551616) : ofM (bitsL (m : Int)) = m := by
  apply Nat.eq_of_testBit_eq
  intro j
  rw [ofM_bit (fun x hx => (bitsL_mem hx).1)]
  unfold bitsL
  rw [Int.toNat_natCast]
  rw [Bool.eq_iff_iff, decide_eq_true_eq]
  constructor
  · intro h
    have := lstB_yesmem h
    simpa using this
  · intro h
    refine lstB_has ?_ h
    rcases Nat.lt_or_ge j 64 with k | k
    · exact k
    · have e64 : (2 : Nat) ^ 64 = 18446744073709551616 := by decide
      have hp : 2 ^ 64 ≤ 2 ^ j := Nat.pow_le_pow_right (by omega) k
      rw [Nat.testBit_lt_two_pow (by omega)] at h; cases h

theorem ofM_append {a b : List Int} (ha : ∀ x ∈ a, 0 ≤ x) (hb : ∀ x ∈ b, 0 ≤ x) : ofM (a ++ b) = ofM a ||| ofM b := by
  apply Nat.eq_of_testBit_eq
  intro j
  rw [Nat.testBit_or, ofM_bit ha, ofM_bit hb, ofM_bit (fun x hx => by rcases List.mem_append.mp hx with h | h; exact ha x h; exact hb x h)]
  rw [Bool.eq_iff_iff]
  simp

def orL (l : List Nat) : Nat := l.foldl (· ||| ·) 0

theorem orL_snoc (l : List Nat) (x : Nat) : orL (l ++ [x]) = orL l ||| x := by simp [orL]

def allB (l : List Nat) : List Int := l.flatMap (fun m : Nat => bitsL (m : Int))

theorem allB_snoc (l : List Nat) (x : Nat) : allB (l ++ [x]) = allB l ++ bitsL (x : Int) := by simp [allB]

theorem allB_mem {l : List Nat} {x : Int} (h : x ∈ allB l) : 0 ≤ x ∧ x ≤ 63 := by
  unfold allB at h
  obtain ⟨m, _, h⟩ := List.mem_flatMap.mp h
  exact bitsL_mem h

theorem allB_len : ∀ l : List Nat, (allB l).length ≤ 64 * l.length
  | [] => by simp [allB]
  | x :: l => by
    have := allB_len l
    have hb := bitsL_len (x : Int)
    have e : allB (x :: l) = bitsL (x : Int) ++ allB l := by simp [allB]
    rw [e, List.length_append, List.length_cons]; omega

theorem ofM_allB : ∀ {l : List Nat}, (∀ m ∈ l, m < 18446744073709551616) → ofM (allB l) = orL l := by
  intro l
  have key : ∀ (r : List Nat), (∀ m ∈ r, m < 18446744073709551616) → ofM (allB r.reverse) = orL r.reverse := by
    intro r
    induction r with
    | nil => intro _; rfl
    | cons x r ih =>
      intro h
      rw [List.reverse_cons, allB_snoc, orL_snoc, ofM_append (fun x hx => (allB_mem hx).1) (fun x hx => (bitsL_mem hx).1), ofM_bits (h x List.mem_cons_self), ih (fun m hm => h m (List.mem_cons_of_mem _ hm))]
  intro h
  have := key l.reverse (by simpa using h)
  simpa using this
/- fields -/

def rdL (k : Nat) : List (List UInt8) → Nat → List Nat → Nat ⊕ List Nat
  | [], _, l => .inr l
  | x :: xs, a, l => match itemO k x with
    | none => .inl a
    | some q => rdL k xs (a + x.length + 1) (l ++ [q])

theorem rdL_readL (k : Nat) : ∀ (ps : List (List UInt8)) (a : Nat) (l : List Nat), readL k ps a (orL l) = match rdL k ps a l with | .inl p => (0, (p : Int), 160) | .inr l' => (((orL l' : Nat) : Int), 0, 0)
  | [], a, l => rfl
  | x :: xs, a, l => by
    unfold readL rdL
    cases itemO k x with
    | none => rfl
    | some q => simp only; rw [← orL_snoc]; exact rdL_readL k xs _ _

theorem rdL_ok {k : Nat} (hk : k < 5) : ∀ (ps : List (List UInt8)) (a : Nat) (l l' : List Nat), (∀ m ∈ l, m < 18446744073709551616) → rdL k ps a l = .inr l' → (∀ m ∈ l', m < 18446744073709551616) ∧ l'.length = l.length + ps.length
  | [], a, l, l', h, e => by cases e; exact ⟨h, rfl⟩
  | x :: xs, a, l, l', h, e => by
    unfold rdL at e
    cases ho : itemO k x with
    | none => rw [ho] at e; cases e
    | some q =>
      rw [ho] at e
      obtain ⟨h1, h2⟩ := rdL_ok hk xs _ _ l' (fun m hm => by
        rcases List.mem_append.mp hm with hm | hm
        · exact h m hm
        · simp at hm; rw [hm]; exact itemO_lt hk ho) e
      exact ⟨h1, by rw [h2]; simp; omega⟩
end Go.Proofs.YtjdpkihlgpojkaaGreatDoor
/- Texts behind one another, and spans by steps: what they say. -/
namespace Go.Proofs.YtjdpkihlgpojkaaGreatDoor
open Go Go.B
set_option linter.unusedSimpArgs false
set_option linter.unusedVariables false
set_option linter.unusedSectionVars false
set_option maxRecDepth 20000

theorem rdL_cons (k : Nat) (x : List UInt8) (xs : List (List UInt8)) (a : Nat) (l : List Nat) : rdL k (x :: xs) a l = match itemO k x with | none => .inl a | some q => rdL k xs (a + x.length + 1) (l ++ [q]) := rfl

def tot (ps : List (List UInt8)) : Nat := (ps.map fun x => x.length + 1).sum

theorem tot_splitN (c : UInt8) : ∀ (n : Nat) (l : List UInt8), tot (splitN c n l) = l.length + 1
  | 0, l => by simp [splitN, tot]
  | n + 1, l => by
    unfold splitN
    cases hc : (cutO c l).2.2
    · simp [tot]
    · have h1 := (cutO_len (c := c) l).2 hc
      have h2 := tot_splitN c n (cutO c l).2.1
      unfold tot at h2 ⊢
      simp only [if_true, List.map_cons, List.sum_cons]
      omega

theorem rdL_shift (k : Nat) : ∀ (ps : List (List UInt8)) (a : Nat) (l : List Nat), rdL k ps a l = match rdL k ps 0 [] with | .inl p => .inl (a + p) | .inr l' => .inr (l ++ l')
  | [], a, l => by simp [rdL]
  | x :: xs, a, l => by
    unfold rdL
    cases itemO k x with
    | none => simp
    | some q =>
      simp only
      rw [rdL_shift k xs (a + x.length + 1) (l ++ [q]), rdL_shift k xs (0 + x.length + 1) ([] ++ [q])]
      cases rdL k xs 0 [] with
      | inl p => simp; omega
      | inr l' => simp

theorem orL_append (a b : List Nat) : orL (a ++ b) = orL a ||| orL b := by
  have key : ∀ (r : List Nat), orL (a ++ r.reverse) = orL a ||| orL r.reverse := by
    intro r
    induction r with
    | nil => simp [orL]
    | cons x r ih => rw [List.reverse_cons, ← List.append_assoc, orL_snoc, orL_snoc, ih, Nat.or_assoc]
  have := key b.reverse
  simpa using this

theorem orL_lt {l : List Nat} (h : ∀ m ∈ l, m < 18446744073709551616) : orL l < 18446744073709551616 := by
  have key : ∀ (l : List Nat) (m : Nat), m < 2 ^ 64 → (∀ m ∈ l, m < 18446744073709551616) → l.foldl (· ||| ·) m < 2 ^ 64 := by
    intro l
    induction l with
    | nil => intro m hm _; exact hm
    | cons x l ih =>
      intro m hm h
      exact ih _ (Nat.or_lt_two_pow hm (by have := h x List.mem_cons_self; omega)) fun y hy => h y (List.mem_cons_of_mem _ hy)
  have := key l 0 (by decide) h
  have e64 : (2 : Nat) ^ 64 = 18446744073709551616 := by decide
  unfold orL; omega

/-- the field of a text, by its items -/
theorem readO_rd (k : Nat) {l : List UInt8} (h : l.length ≤ 256) : readO k l = match rdL k (splitC 44 l) 0 [] with | .inl p => (0, (p : Int), 160) | .inr l' => (((orL l' : Nat) : Int), 0, 0) := by
  unfold readO
  rw [if_neg (by omega)]
  exact rdL_readL k (splitC 44 l) 0 []

end Go.Proofs.YtjdpkihlgpojkaaGreatDoor
/- What is read of a text is a field. -/
namespace Go.Proofs.YtjdpkihlgpojkaaGreatDoor
open Go Go.B
set_option linter.unusedSimpArgs false
set_option linter.unusedVariables false
set_option linter.unusedSectionVars false
set_option maxRecDepth 20000

/-- all bits between the ends -/
def inK (k m : Nat) : Prop := ∀ j, Nat.testBit m j = true → loA k ≤ (j : Int) ∧ (j : Int) ≤ hiA k

theorem whole_bits : ∀ k : Fin 5, ∀ j : Fin 64, Nat.testBit (wholeN k.val) j.val = decide (loA k.val ≤ (j.val : Int) ∧ (j.val : Int) ≤ hiA k.val) := by decide +kernel

theorem okF_of {k m : Nat} (hk : k < 5) (h0 : m ≠ 0) (h : inK k m) : okF k (m : Int) = true := by
  have hb := ends_bd k hk
  unfold okF subB
  rw [Bool.and_eq_true]
  refine ⟨by simpa using h0, ?_⟩
  rw [beq_iff_eq, Int.toNat_natCast]
  show m &&& wholeN k = m
  apply Nat.eq_of_testBit_eq
  intro j
  rw [Nat.testBit_and]
  cases hj : Nat.testBit m j
  · rfl
  · have h1 := h j hj
    have := whole_bits ⟨k, hk⟩ ⟨j, by omega⟩
    simp only at this
    rw [this, decide_eq_true h1]; rfl

theorem orL_cons (x : Nat) (l : List Nat) : orL (x :: l) = x ||| orL l := by
  have := orL_append [x] l
  rw [List.singleton_append] at this
  rw [this]
  simp [orL]

theorem orL_bit (l : List Nat) (j : Nat) : Nat.testBit (orL l) j = l.any (fun q => Nat.testBit q j) := by
  induction l with
  | nil => simp [orL]
  | cons x l ih => rw [orL_cons, Nat.testBit_or, ih, List.any_cons]

theorem span_bit {f t s j : Nat} (h : Nat.testBit (spanM f t s) j = true) : f ≤ j ∧ j ≤ t ∨ t < f ∧ j = f := by
  unfold spanM at h
  rw [ofM_bit (fun x hx => by obtain ⟨i, _, _, rfl⟩ := spanL_mem hx; omega)] at h
  obtain ⟨i, h1, _, h3⟩ := spanL_mem (of_decide_eq_true h)
  omega

theorem spanL_has {a : Int} {s : Nat} : ∀ {n i : Nat}, i < n → i % s = 0 → a + (i : Int) ∈ spanL a s n
  | n + 1, i, h1, h2 => by
    unfold spanL
    by_cases e : i = n
    · subst e; rw [if_pos h2]; simp
    · have := spanL_has (a := a) (n := n) (i := i) (by omega) h2
      split
      · exact List.mem_append_left _ this
      · exact this

theorem span_ne {f t s : Nat} : spanM f t s ≠ 0 := by
  intro e
  have h : Nat.testBit (spanM f t s) f = true := by
    unfold spanM
    rw [ofM_bit (fun x hx => by obtain ⟨i, _, _, rfl⟩ := spanL_mem hx; omega)]
    apply decide_eq_true
    have := spanL_has (a := (f : Int)) (s := s) (n := t - f + 1) (i := 0) (by omega) (by simp)
    simpa using this
  rw [e] at h; simp at h

theorem runO_bd2 {k : Nat} (hk : k < 5) {sp : List UInt8} {has : Bool} {f t : Int} (h : runO k sp has = some (f, t)) : loA k ≤ f ∧ f ≤ hiV k ∧ loA k ≤ t ∧ t ≤ hiV k := by
  have hb := ends_bd k hk
  unfold runO at h
  split at h
  · cases h; omega
  · split at h
    · cases h
    · rename_i f' hf
      have h1 := valO_bd hk hf
      split at h
      · split at h
        · rename_i t' ht
          have h2 := valO_bd hk ht
          cases h; omega
        · cases h
      · split at h
        · cases h
        · cases h; omega

theorem fix7 : ∀ m : Fin 256, m.val ≠ 0 → fixM 4 m.val ≠ 0 ∧ fixM 4 m.val < 128 := by decide +kernel

theorem item_in {k : Nat} (hk : k < 5) {l : List UInt8} {q : Nat} (h : itemO k l = some q) : q ≠ 0 ∧ inK k q := by
  have hb := ends_bd k hk
  unfold itemO at h
  split at h
  · cases h
  · rename_i by_ hby
    split at h
    · cases h
    · rename_i f t hr
      have h1 := runO_bd2 hk hr
      split at h
      · rename_i hft
        cases h
        by_cases h4 : k = 4
        · subst h4
          have e7 : hiV 4 = 7 := by decide
          have hlt := spanM_lt (a := f.toNat) (b := t.toNat) (s := by_.toNat)
          have : (2 : Nat) ^ (max f.toNat t.toNat + 1) ≤ 2 ^ 8 := Nat.pow_le_pow_right (by omega) (by omega)
          have := fix7 ⟨spanM f.toNat t.toNat by_.toNat, by omega⟩ span_ne
          simp only at this
          refine ⟨this.1, fun j hj => ?_⟩
          have e0 : loA 4 = 0 := by decide
          have e6 : hiA 4 = 6 := by decide
          refine ⟨by omega, ?_⟩
          rcases Nat.lt_or_ge j 7 with h | h
          · omega
          · have : fixM 4 (spanM f.toNat t.toNat by_.toNat) < 2 ^ j := Nat.lt_of_lt_of_le this.2 (by
              have : (2 : Nat) ^ 7 ≤ 2 ^ j := Nat.pow_le_pow_right (by omega) h
              omega)
            rw [Nat.testBit_lt_two_pow this] at hj; cases hj
        · have ef : fixM k (spanM f.toNat t.toNat by_.toNat) = spanM f.toNat t.toNat by_.toNat := by unfold fixM; rw [if_neg (by rintro ⟨e, _⟩; exact h4 e)]
          rw [ef]
          have ev : hiV k = hiA k := by unfold hiV; rw [if_neg h4]
          refine ⟨span_ne, fun j hj => ?_⟩
          have := span_bit hj
          omega
      · cases h

theorem rdL_all {k : Nat} : ∀ (ps : List (List UInt8)) (a : Nat) (l l' : List Nat), rdL k ps a l = .inr l' → ∃ r, l' = l ++ r ∧ r.length = ps.length ∧ ∀ q ∈ r, ∃ x, itemO k x = some q
  | [], a, l, l', e => by cases e; exact ⟨[], by simp, rfl, by simp⟩
  | x :: xs, a, l, l', e => by
    rw [rdL_cons] at e
    cases ho : itemO k x with
    | none => rw [ho] at e; cases e
    | some q =>
      rw [ho] at e
      obtain ⟨r, h1, h2, h3⟩ := rdL_all xs _ _ l' e
      refine ⟨q :: r, by rw [h1]; simp, by simp [h2], fun p hp => ?_⟩
      rcases List.mem_cons.mp hp with rfl | hp
      · exact ⟨x, ho⟩
      · exact h3 p hp

theorem splitC_ne (c : UInt8) (l : List UInt8) : 1 ≤ (splitC c l).length := by
  unfold splitC
  cases l.length with
  | zero => simp [splitN]
  | succ n => unfold splitN; split <;> simp

/-- what is read is a field -/
theorem read_ok {k : Nat} (hk : k < 5) {l : List UInt8} {l' : List Nat} (h : rdL k (splitC 44 l) 0 [] = .inr l') : okF k ((orL l' : Nat) : Int) = true := by
  obtain ⟨r, h1, h2, h3⟩ := rdL_all _ _ _ _ h
  rw [List.nil_append] at h1
  subst h1
  have hn := splitC_ne 44 l
  refine okF_of hk ?_ ?_
  · intro e
    cases l' with
    | nil => simp at h2; omega
    | cons q r =>
      obtain ⟨x, hx⟩ := h3 q List.mem_cons_self
      have hq := (item_in hk hx).1
      apply hq
      rw [orL_cons] at e
      apply Nat.eq_of_testBit_eq
      intro j
      have := congrArg (fun n => Nat.testBit n j) e
      simp only [Nat.testBit_or, Nat.zero_testBit, Bool.or_eq_false_iff] at this
      rw [this.1]; simp
  · intro j hj
    rw [orL_bit, List.any_eq_true] at hj
    obtain ⟨q, hq, hj⟩ := hj
    obtain ⟨x, hx⟩ := h3 q hq
    exact (item_in hk hx).2 j hj
/- texts of runs -/
end Go.Proofs.YtjdpkihlgpojkaaGreatDoor
