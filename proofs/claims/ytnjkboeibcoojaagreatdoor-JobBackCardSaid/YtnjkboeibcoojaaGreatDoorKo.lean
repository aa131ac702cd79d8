import Derived.Test.YtnjkboeibcoojaaGreatDoorKn
import Derived.Test.YtnjkboeibcoojaaGreatDoorKk
import Derived.Test.YtnjkboeibcoojaaGreatDoorKm
/- Texts behind one another, and spans by steps: what they say. -/
namespace Go.Proofs.YtnjkboeibcoojaaGreatDoor
open Go Go.B
set_option linter.unusedSimpArgs false
set_option linter.unusedVariables false
set_option linter.unusedSectionVars false
set_option maxRecDepth 20000

/- digits -/

theorem dig_all : ∀ n : Fin 100, numO (digL n.val) = some (n.val : Int) ∧ (44 : UInt8) ∉ digL n.val ∧ (45 : UInt8) ∉ digL n.val ∧ (47 : UInt8) ∉ digL n.val ∧ digL n.val ≠ [42] := by decide +kernel

theorem val_all : ∀ k : Fin 5, ∀ n : Fin 60, loA k.val ≤ (n.val : Int) → (n.val : Int) ≤ hiA k.val → valO k.val (digL n.val) = some (n.val : Int) := by decide +kernel

theorem numO_step {s : Nat} (h1 : 1 ≤ s) (h2 : s ≤ 63) : byO (digL s) true = some (s : Int) := by
  unfold byO
  rw [if_pos rfl, (dig_all ⟨s, by omega⟩).1]
  simp only
  rw [if_pos (by omega)]

theorem span_fix {k : Nat} (hk : k < 5) {f t s : Nat} (hf : f ≤ t) (ht : (t : Int) ≤ hiA k) : fixM k (spanM f t s) = spanM f t s := by
  unfold fixM
  rw [if_neg]
  rintro ⟨rfl, h7⟩
  have h1 := spanM_lt (a := f) (b := t) (s := s)
  have hh : hiA 4 = 6 := by decide
  have : (2 : Nat) ^ (max f t + 1) ≤ 2 ^ 7 := Nat.pow_le_pow_right (by omega) (by omega)
  rw [Nat.testBit_lt_two_pow (by omega)] at h7
  cases h7

theorem item_span {k : Nat} (hk : k < 5) {f t s : Nat} (hf : loA k ≤ (f : Int) ∧ (f : Int) ≤ hiA k) (ht : loA k ≤ (t : Int) ∧ (t : Int) ≤ hiA k) (hs : 1 ≤ s ∧ s ≤ 63) :
    itemO k (digL f ++ 45 :: digL t ++ 47 :: digL s) = if f ≤ t then some (spanM f t s) else none := by
  have hb := ends_bd k hk
  have df := dig_all ⟨f, by omega⟩
  have dt := dig_all ⟨t, by omega⟩
  have vf := val_all ⟨k, hk⟩ ⟨f, by omega⟩ hf.1 hf.2
  have vt := val_all ⟨k, hk⟩ ⟨t, by omega⟩ ht.1 ht.2
  simp only at df dt vf vt
  have hnot : (47 : UInt8) ∉ digL f ++ 45 :: digL t := by
    simp only [List.mem_append, List.mem_cons, not_or]
    exact ⟨df.2.2.2.1, by decide, dt.2.2.2.1⟩
  unfold itemO
  rw [cutO_at hnot]
  simp only
  rw [numO_step hs.1 hs.2]
  unfold runO
  rw [if_neg (by intro e; have := congrArg (fun l : List UInt8 => decide ((45 : UInt8) ∈ l)) e; simp at this), cutO_at df.2.2.1]
  simp only [if_true]
  rw [vf, vt]
  simp only [Int.toNat_natCast]
  by_cases h : f ≤ t
  · rw [if_pos h, if_pos (by omega), span_fix hk h ht.2]
  · rw [if_neg h, if_neg (by omega)]

theorem item_star {k : Nat} (hk : k < 5) {s : Nat} (hs : 1 ≤ s ∧ s ≤ 63) : itemO k (42 :: 47 :: digL s) = some (spanM (loA k).toNat (hiA k).toNat s) := by
  have hb := ends_bd k hk
  unfold itemO
  rw [show (42 : UInt8) :: 47 :: digL s = [42] ++ 47 :: digL s from rfl, cutO_at (by decide)]
  simp only
  rw [numO_step hs.1 hs.2]
  unfold runO
  rw [if_pos rfl]
  simp only [Int.toNat_natCast]
  rw [if_pos (by omega), span_fix hk (by omega) (by omega)]
end Go.Proofs.YtnjkboeibcoojaaGreatDoor
/- Fields of texts are fields, and texts of fields lead back. -/
namespace Go.Proofs.YtnjkboeibcoojaaGreatDoor
open Go Go.B
set_option linter.unusedSimpArgs false
set_option linter.unusedVariables false
set_option linter.unusedSectionVars false
set_option maxRecDepth 20000

/-- all bits between the ends -/
def inK (k m : Nat) : Prop := ∀ j, Nat.testBit m j = true → loA k ≤ (j : Int) ∧ (j : Int) ≤ hiA k

theorem whole_bits : ∀ k : Fin 5, ∀ j : Fin 64, Nat.testBit (wholeN k.val) j.val = decide (loA k.val ≤ (j.val : Int) ∧ (j.val : Int) ≤ hiA k.val) := by decide +kernel

theorem whole_lt : ∀ k : Fin 5, wholeN k.val < 18446744073709551616 := by decide +kernel

theorem okF_of {k m : Nat} (hk : k < 5) (h0 : m ≠ 0) (h : inK k m) : okF k (m : Int) = true := by
  have hb := ends_bd k hk
  unfold okF subB
  rw [Bool.and_eq_true]
  refine ⟨by simpa using h0, ?_⟩
  rw [beq_iff_eq, Int.toNat_natCast]
  show m &&& wholeN k = m
  apply Nat.eq_of_testBit_eq
  intro j
  rw [Nat.testBit_and]
  cases hj : Nat.testBit m j
  · rfl
  · have h1 := h j hj
    have := whole_bits ⟨k, hk⟩ ⟨j, by omega⟩
    simp only at this
    rw [this, decide_eq_true h1]; rfl

theorem inK_of {k m : Nat} (hk : k < 5) (h : okF k (m : Int) = true) : inK k m := by
  unfold okF subB at h
  rw [Bool.and_eq_true, beq_iff_eq, Int.toNat_natCast] at h
  obtain ⟨_, h⟩ := h
  have h : m &&& wholeN k = m := h
  intro j hj
  have e := congrArg (fun n => Nat.testBit n j) h
  simp only [Nat.testBit_and, hj, Bool.true_and] at e
  by_cases h64 : j < 64
  · have := whole_bits ⟨k, hk⟩ ⟨j, h64⟩
    simp only at this
    rw [e] at this
    exact of_decide_eq_true this.symm
  · have hw := whole_lt ⟨k, hk⟩
    simp only at hw
    have : wholeN k < 2 ^ j := Nat.lt_of_lt_of_le hw (by
      have : (2 : Nat) ^ 64 ≤ 2 ^ j := Nat.pow_le_pow_right (by omega) (by omega)
      have e64 : (2 : Nat) ^ 64 = 18446744073709551616 := by decide
      omega)
    rw [Nat.testBit_lt_two_pow this] at e; cases e

theorem orL_cons (x : Nat) (l : List Nat) : orL (x :: l) = x ||| orL l := by
  have := orL_append [x] l
  rw [List.singleton_append] at this
  rw [this]
  simp [orL]

theorem orL_bit (l : List Nat) (j : Nat) : Nat.testBit (orL l) j = l.any (fun q => Nat.testBit q j) := by
  induction l with
  | nil => simp [orL]
  | cons x l ih => rw [orL_cons, Nat.testBit_or, ih, List.any_cons]

theorem span_bit {f t s j : Nat} (h : Nat.testBit (spanM f t s) j = true) : f ≤ j ∧ j ≤ t ∨ t < f ∧ j = f := by
  unfold spanM at h
  rw [ofM_bit (fun x hx => by obtain ⟨i, _, _, rfl⟩ := spanL_mem hx; omega)] at h
  obtain ⟨i, h1, _, h3⟩ := spanL_mem (of_decide_eq_true h)
  omega

theorem spanL_has {a : Int} {s : Nat} : ∀ {n i : Nat}, i < n → i % s = 0 → a + (i : Int) ∈ spanL a s n
  | n + 1, i, h1, h2 => by
    unfold spanL
    by_cases e : i = n
    · subst e; rw [if_pos h2]; simp
    · have := spanL_has (a := a) (n := n) (i := i) (by omega) h2
      split
      · exact List.mem_append_left _ this
      · exact this

theorem span_one {f t j : Nat} (hf : f ≤ t) : Nat.testBit (spanM f t 1) j = decide (f ≤ j ∧ j ≤ t) := by
  rw [Bool.eq_iff_iff, decide_eq_true_iff]
  constructor
  · intro h; have := span_bit h; omega
  · intro h
    unfold spanM
    rw [ofM_bit (fun x hx => by obtain ⟨i, _, _, rfl⟩ := spanL_mem hx; omega)]
    apply decide_eq_true
    have := spanL_has (a := (f : Int)) (s := 1) (n := t - f + 1) (i := j - f) (by omega) (by omega)
    rwa [show (f : Int) + ((j - f : Nat) : Int) = (j : Int) by omega] at this

theorem span_ne {f t s : Nat} : spanM f t s ≠ 0 := by
  intro e
  have h : Nat.testBit (spanM f t s) f = true := by
    unfold spanM
    rw [ofM_bit (fun x hx => by obtain ⟨i, _, _, rfl⟩ := spanL_mem hx; omega)]
    apply decide_eq_true
    have := spanL_has (a := (f : Int)) (s := s) (n := t - f + 1) (i := 0) (by omega) (by simp)
    simpa using this
  rw [e] at h; simp at h

theorem runO_bd2 {k : Nat} (hk : k < 5) {sp : List UInt8} {has : Bool} {f t : Int} (h : runO k sp has = some (f, t)) : loA k ≤ f ∧ f ≤ hiV k ∧ loA k ≤ t ∧ t ≤ hiV k := by
  have hb := ends_bd k hk
  unfold runO at h
  split at h
  · cases h; omega
  · split at h
    · cases h
    · rename_i f' hf
      have h1 := valO_bd hk hf
      split at h
      · split at h
        · rename_i t' ht
          have h2 := valO_bd hk ht
          cases h; omega
        · cases h
      · split at h
        · cases h
        · cases h; omega

theorem fix7 : ∀ m : Fin 256, m.val ≠ 0 → fixM 4 m.val ≠ 0 ∧ fixM 4 m.val < 128 := by decide +kernel

theorem item_in {k : Nat} (hk : k < 5) {l : List UInt8} {q : Nat} (h : itemO k l = some q) : q ≠ 0 ∧ inK k q := by
  have hb := ends_bd k hk
  unfold itemO at h
  split at h
  · cases h
  · rename_i by_ hby
    split at h
    · cases h
    · rename_i f t hr
      have h1 := runO_bd2 hk hr
      split at h
      · rename_i hft
        cases h
        by_cases h4 : k = 4
        · subst h4
          have e7 : hiV 4 = 7 := by decide
          have hlt := spanM_lt (a := f.toNat) (b := t.toNat) (s := by_.toNat)
          have : (2 : Nat) ^ (max f.toNat t.toNat + 1) ≤ 2 ^ 8 := Nat.pow_le_pow_right (by omega) (by omega)
          have := fix7 ⟨spanM f.toNat t.toNat by_.toNat, by omega⟩ span_ne
          simp only at this
          refine ⟨this.1, fun j hj => ?_⟩
          have e0 : loA 4 = 0 := by decide
          have e6 : hiA 4 = 6 := by decide
          refine ⟨by omega, ?_⟩
          rcases Nat.lt_or_ge j 7 with h | h
          · omega
          · have : fixM 4 (spanM f.toNat t.toNat by_.toNat) < 2 ^ j := Nat.lt_of_lt_of_le this.2 (by
              have : (2 : Nat) ^ 7 ≤ 2 ^ j := Nat.pow_le_pow_right (by omega) h
              omega)
            rw [Nat.testBit_lt_two_pow this] at hj; cases hj
        · have ef : fixM k (spanM f.toNat t.toNat by_.toNat) = spanM f.toNat t.toNat by_.toNat := by unfold fixM; rw [if_neg (by rintro ⟨e, _⟩; exact h4 e)]
          rw [ef]
          have ev : hiV k = hiA k := by unfold hiV; rw [if_neg h4]
          refine ⟨span_ne, fun j hj => ?_⟩
          have := span_bit hj
          omega
      · cases h

theorem rdL_all {k : Nat} : ∀ (ps : List (List UInt8)) (a : Nat) (l l' : List Nat), rdL k ps a l = .inr l' → ∃ r, l' = l ++ r ∧ r.length = ps.length ∧ ∀ q ∈ r, ∃ x, itemO k x = some q
  | [], a, l, l', e => by cases e; exact ⟨[], by simp, rfl, by simp⟩
  | x :: xs, a, l, l', e => by
    rw [rdL_cons] at e
    cases ho : itemO k x with
    | none => rw [ho] at e; cases e
    | some q =>
      rw [ho] at e
      obtain ⟨r, h1, h2, h3⟩ := rdL_all xs _ _ l' e
      refine ⟨q :: r, by rw [h1]; simp, by simp [h2], fun p hp => ?_⟩
      rcases List.mem_cons.mp hp with rfl | hp
      · exact ⟨x, ho⟩
      · exact h3 p hp

theorem splitC_ne (c : UInt8) (l : List UInt8) : 1 ≤ (splitC c l).length := by
  unfold splitC
  cases l.length with
  | zero => simp [splitN]
  | succ n => unfold splitN; split <;> simp

/-- what is read is a field -/
theorem read_ok {k : Nat} (hk : k < 5) {l : List UInt8} {l' : List Nat} (h : rdL k (splitC 44 l) 0 [] = .inr l') : okF k ((orL l' : Nat) : Int) = true := by
  obtain ⟨r, h1, h2, h3⟩ := rdL_all _ _ _ _ h
  rw [List.nil_append] at h1
  subst h1
  have hn := splitC_ne 44 l
  refine okF_of hk ?_ ?_
  · intro e
    cases l' with
    | nil => simp at h2; omega
    | cons q r =>
      obtain ⟨x, hx⟩ := h3 q List.mem_cons_self
      have hq := (item_in hk hx).1
      apply hq
      rw [orL_cons] at e
      apply Nat.eq_of_testBit_eq
      intro j
      have := congrArg (fun n => Nat.testBit n j) e
      simp only [Nat.testBit_or, Nat.zero_testBit, Bool.or_eq_false_iff] at this
      rw [this.1]; simp
  · intro j hj
    rw [orL_bit, List.any_eq_true] at hj
    obtain ⟨q, hq, hj⟩ := hj
    obtain ⟨x, hx⟩ := h3 q hq
    exact (item_in hk hx).2 j hj
/- texts of runs -/

theorem no_cut {c : UInt8} {l : List UInt8} (h : c ∉ l) : cutO c l = (l, [], false) := by
  have h1 := cutO_none h
  obtain ⟨h2, h3, _⟩ := cutO_no h1
  exact Prod.ext h2 (Prod.ext h3 h1)

theorem item_run {k : Nat} (hk : k < 5) {f t : Nat} (hf : loA k ≤ (f : Int) ∧ (f : Int) ≤ hiA k) (ht : loA k ≤ (t : Int) ∧ (t : Int) ≤ hiA k) (h : f ≤ t) :
    itemO k (runT ((f : Int), (t : Int))) = some (spanM f t 1) ∧ (44 : UInt8) ∉ runT ((f : Int), (t : Int)) := by
  have hb := ends_bd k hk
  have df := dig_all ⟨f, by omega⟩
  have dt := dig_all ⟨t, by omega⟩
  have vf := val_all ⟨k, hk⟩ ⟨f, by omega⟩ hf.1 hf.2
  have vt := val_all ⟨k, hk⟩ ⟨t, by omega⟩ ht.1 ht.2
  simp only at df dt vf vt
  unfold runT
  simp only [Int.toNat_natCast]
  by_cases hlt : f < t
  · rw [if_pos (by omega)]
    have hnot : (47 : UInt8) ∉ digL f ++ 45 :: digL t := by
      simp only [List.mem_append, List.mem_cons, not_or]
      exact ⟨df.2.2.2.1, by decide, dt.2.2.2.1⟩
    refine ⟨?_, ?_⟩
    · unfold itemO
      rw [no_cut hnot]
      simp only [byO]
      rw [if_neg (by decide)]
      simp only
      unfold runO
      rw [if_neg (by intro e; have := congrArg (fun l : List UInt8 => decide ((45 : UInt8) ∈ l)) e; simp at this), cutO_at df.2.2.1]
      simp only [if_true]
      rw [vf, vt]
      simp only [Int.toNat_natCast]
      rw [if_pos (by omega)]
      exact congrArg some (span_fix hk h ht.2)
    · simp only [List.mem_append, List.mem_cons, not_or]
      exact ⟨df.2.1, by decide, dt.2.1⟩
  · have e : t = f := by omega
    subst e
    rw [if_neg (by omega)]
    refine ⟨?_, df.2.1⟩
    unfold itemO
    rw [no_cut df.2.2.2.1]
    simp only [byO]
    rw [if_neg (by decide)]
    simp only
    unfold runO
    rw [if_neg df.2.2.2.2, no_cut df.2.2.1]
    simp only
    rw [vf]
    simp only [Int.toNat_natCast]
    rw [if_neg (by decide), if_neg (by decide)]
    simp only [Int.toNat_natCast]
    rw [if_pos (by omega)]
    exact congrArg some (span_fix hk h ht.2)

theorem join_two (x y : List UInt8) (r : List (List UInt8)) : Lib.join (x :: y :: r) [44] = x ++ 44 :: Lib.join (y :: r) [44] := by
  rw [Lib.join_cons, Lib.join_cons]
  unfold Lib.joinTail
  simp

theorem split_join : ∀ (l : List (List UInt8)), l ≠ [] → (∀ x ∈ l, (44 : UInt8) ∉ x) → splitC 44 (Lib.join l [44]) = l
  | [], h, _ => absurd rfl h
  | [x], _, h => by rw [Lib.join_one]; exact splitC_none (h x List.mem_cons_self)
  | x :: y :: r, _, h => by
    rw [join_two, splitC_append, splitC_none (h x List.mem_cons_self), split_join (y :: r) (by simp) (fun z hz => h z (List.mem_cons_of_mem _ hz))]
    rfl

theorem rdL_runs {k : Nat} (hk : k < 5) : ∀ (rs : List (Int × Int)) (a : Nat) (l : List Nat), (∀ r ∈ rs, loA k ≤ r.1 ∧ r.1 ≤ r.2 ∧ r.2 ≤ hiA k) → rdL k (rs.map runT) a l = .inr (l ++ rs.map fun r => spanM r.1.toNat r.2.toNat 1)
  | [], a, l, _ => by simp [rdL]
  | r :: rs, a, l, h => by
    have hb := ends_bd k hk
    have h1 := h r List.mem_cons_self
    rw [List.map_cons, rdL_cons]
    have hi := (item_run hk (f := r.1.toNat) (t := r.2.toNat) (by omega) (by omega) (by omega)).1
    rw [show ((r.1.toNat : Int), (r.2.toNat : Int)) = r from Prod.ext (by show (r.1.toNat : Int) = r.1; omega) (by show (r.2.toNat : Int) = r.2; omega)] at hi
    rw [hi]
    simp only
    rw [rdL_runs hk rs _ _ (fun x hx => h x (List.mem_cons_of_mem _ hx))]
    simp

theorem runLen_all (p : Nat → Bool) : ∀ (f a i : Nat), i < runLen p f a → p (a + i) = true
  | 0, a, i, h => by unfold runLen at h; omega
  | f + 1, a, i, h => by
    unfold runLen at h
    cases ha : p a
    · rw [ha, cond_false] at h; omega
    · rw [ha, cond_true] at h
      cases i with
      | zero => exact ha
      | succ i =>
        have := runLen_all p f (a + 1) i (by omega)
        rwa [show a + 1 + i = a + (i + 1) by omega] at this

theorem runs_half (p : Nat → Bool) : ∀ i, (lstB (stB p) i).length ≤ (i + 1) / 2 ∧ (lstB (stB p) (i + 1)).length ≤ (i + 2) / 2
  | 0 => by
    have := lstB_len (stB p) 1
    exact ⟨by simp [lstB], by omega⟩
  | i + 1 => by
    obtain ⟨h1, h2⟩ := runs_half p i
    refine ⟨h2, ?_⟩
    cases hs : stB p (i + 1)
    · rw [lstB_no hs]; omega
    · rw [lstB_yes hs, List.length_append]
      have hp : p i = false := by
        unfold stB at hs
        rw [Bool.and_eq_true] at hs
        have := hs.2
        simpa using this
      have : stB p i = false := by unfold stB; rw [hp]; rfl
      rw [lstB_no this]
      simp
      omega

theorem runs_ne {m : Nat} (hm : m < 9223372036854775808) (h0 : m ≠ 0) : runsO m ≠ [] := by
  intro e
  have : ∀ j, Nat.testBit m j = false := by
    intro j
    cases hj : Nat.testBit m j
    · rfl
    · exfalso
      have hj63 : j < 63 := by
        rcases Nat.lt_or_ge j 63 with h | h
        · exact h
        · have : m < 2 ^ j := Nat.lt_of_lt_of_le hm (by
            have : (2 : Nat) ^ 63 ≤ 2 ^ j := Nat.pow_le_pow_right (by omega) h
            have e63 : (2 : Nat) ^ 63 = 9223372036854775808 := by decide
            omega)
          rw [Nat.testBit_lt_two_pow this] at hj; cases hj
      obtain ⟨l, a, h1, h2, h3, h4⟩ := last_start (Nat.testBit m) (j + 1) (by omega) (by simpa using hj)
      have hs : stB (Nat.testBit m) a = true := by
        have := lstB_yesmem (p := stB (Nat.testBit m)) (i := j + 1) (x := (a : Int)) (by rw [h1]; simp)
        simpa using this
      have hin := lstB_has (p := stB (Nat.testBit m)) (i := 64) (j := a) (by omega) hs
      unfold runsO at e
      rw [List.map_eq_nil_iff] at e
      rw [e] at hin; cases hin
  exact h0 (Nat.eq_of_testBit_eq fun j => by rw [this j]; simp)

theorem runs_or {m : Nat} (hm : m < 9223372036854775808) : orL ((runsO m).map fun r => spanM r.1.toNat r.2.toNat 1) = m := by
  apply Nat.eq_of_testBit_eq
  intro j
  rw [orL_bit, Bool.eq_iff_iff, List.any_eq_true]
  constructor
  · rintro ⟨q, hq, hj⟩
    obtain ⟨r, hr, rfl⟩ := List.mem_map.mp hq
    have hb := runsO_mem hm hr
    rw [span_one (by omega)] at hj
    have hj := of_decide_eq_true hj
    unfold runsO at hr
    obtain ⟨a, ha, rfl⟩ := List.mem_map.mp hr
    have hba := lstB_mem ha
    unfold runF at hj hb
    simp only at hj hb
    have := runLen_all (Nat.testBit m) 64 a.toNat (j - a.toNat) (by omega)
    rwa [show a.toNat + (j - a.toNat) = j by omega] at this
  · intro hj
    have hj63 : j < 63 := by
      rcases Nat.lt_or_ge j 63 with h | h
      · exact h
      · have : m < 2 ^ j := Nat.lt_of_lt_of_le hm (by
          have : (2 : Nat) ^ 63 ≤ 2 ^ j := Nat.pow_le_pow_right (by omega) h
          have e63 : (2 : Nat) ^ 63 = 9223372036854775808 := by decide
          omega)
        rw [Nat.testBit_lt_two_pow this] at hj; cases hj
    obtain ⟨l, a, h1, h2, h3, h4⟩ := last_start (Nat.testBit m) (j + 1) (by omega) (by simpa using hj)
    have hs : stB (Nat.testBit m) a = true := by
      have := lstB_yesmem (p := stB (Nat.testBit m)) (i := j + 1) (x := (a : Int)) (by rw [h1]; simp)
      simpa using this
    have hin := lstB_has (p := stB (Nat.testBit m)) (i := 64) (j := a) (by omega) hs
    have hge := runLen_ge (Nat.testBit m) 64 a (j + 1) (by omega) (by omega) h3
    refine ⟨_, List.mem_map.mpr ⟨runF m (a : Int), List.mem_map.mpr ⟨_, hin, rfl⟩, rfl⟩, ?_⟩
    have hr := runsO_mem hm (r := runF m (a : Int)) (List.mem_map.mpr ⟨_, hin, rfl⟩)
    rw [span_one (by omega)]
    apply decide_eq_true
    unfold runF at hr ⊢
    simp only [Int.toNat_natCast] at hr ⊢
    omega

theorem star_one : ∀ k : Fin 5, readO k.val [42] = ((wholeN k.val : Int), 0, 0) := by decide +kernel

theorem stepF_eq {k m : Nat} : ∀ {f n r : Nat}, stepF k m f n = some r → spanM (loA k).toNat (hiA k).toNat r = m
  | 0, n, r, h => by cases h
  | f + 1, n, r, h => by
    unfold stepF at h
    split at h
    · cases h; assumption
    · exact stepF_eq h

/-- the text of a field leads back -/
theorem text_back {k : Nat} (hk : k < 5) {m : Nat} (hm : okF k (m : Int) = true) : (textO k m).length ≤ 256 ∧ readO k (textO k m) = ((m : Int), 0, 0) := by
  have hb := ends_bd k hk
  obtain ⟨hlt, h0⟩ := okF_lt hk hm
  have hin := inK_of hk hm
  unfold textO
  by_cases hw : m = wholeN k
  · rw [if_pos hw]
    refine ⟨by decide, ?_⟩
    rw [hw]; exact star_one ⟨k, hk⟩
  · rw [if_neg hw]
    cases hs : stepO k m with
    | some n =>
      simp only
      unfold stepO at hs
      split at hs
      · have h1 := stepF_bd hs
        have h2 := stepF_eq hs
        have ds := (dig_all ⟨n, by omega⟩).2.1
        simp only at ds
        have hl := digL_len n
        refine ⟨by simp; omega, ?_⟩
        rw [readO_one (by simp; omega) (by simp only [List.mem_cons, not_or]; exact ⟨by decide, by decide, ds⟩), item_star hk ⟨by omega, by omega⟩, h2]
      · cases hs
    | none =>
      simp only
      have hrs : ∀ r ∈ runsO m, loA k ≤ r.1 ∧ r.1 ≤ r.2 ∧ r.2 ≤ hiA k := by
        intro r hr
        have hb2 := runsO_mem hlt hr
        unfold runsO at hr
        obtain ⟨a, ha, rfl⟩ := List.mem_map.mp hr
        have hba := lstB_mem ha
        unfold runF at hb2 ⊢
        simp only at hb2 ⊢
        have b1 := runLen_all (Nat.testBit m) 64 a.toNat 0 (by omega)
        have b2 := runLen_all (Nat.testBit m) 64 a.toNat (runLen (Nat.testBit m) 64 a.toNat - 1) (by omega)
        have := hin _ b1
        have := hin _ b2
        omega
      have hlen : (Lib.join ((runsO m).map runT) [44]).length ≤ 256 := by
        have h1 := join_len [44] ((runsO m).map runT) (fun x hx => by obtain ⟨r, _, rfl⟩ := List.mem_map.mp hx; exact runT_len r)
        have h2 := (runs_half (Nat.testBit m) 64).1
        have h3 : (runsO m).length ≤ 32 := by unfold runsO; rw [List.length_map]; omega
        rw [List.length_map] at h1
        have : ([44] : List UInt8).length = 1 := rfl
        rw [this] at h1
        omega
      refine ⟨hlen, ?_⟩
      rw [readO_rd k hlen, split_join _ (by simpa using runs_ne hlt h0) (fun x hx => by
        obtain ⟨r, hr, rfl⟩ := List.mem_map.mp hx
        have h1 := hrs r hr
        have hi := (item_run hk (f := r.1.toNat) (t := r.2.toNat) (by omega) (by omega) (by omega)).2
        rwa [show ((r.1.toNat : Int), (r.2.toNat : Int)) = r from Prod.ext (by show (r.1.toNat : Int) = r.1; omega) (by show (r.2.toNat : Int) = r.2; omega)] at hi), rdL_runs hk _ _ _ hrs]
      simp only [List.nil_append]
      rw [runs_or hlt]
end Go.Proofs.YtnjkboeibcoojaaGreatDoor
