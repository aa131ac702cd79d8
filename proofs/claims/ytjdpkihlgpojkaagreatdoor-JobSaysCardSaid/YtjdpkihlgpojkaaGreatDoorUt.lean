import Derived.Test.YtjdpkihlgpojkaaGreatDoorBk
/- Numbers in their kinds, powers of two, bits of masks: plain law. -/
namespace Go.Proofs.YtjdpkihlgpojkaaGreatDoor
open Go Go.B
set_option linter.unusedSimpArgs false
set_option linter.unusedVariables false
set_option linter.unusedSectionVars false

theorem wi {x : Int} (h1 : -9223372036854775808 ≤ x) (h2 : x ≤ 9223372036854775807) : IntKind.wrap .i64 x = x := by
  simp only [IntKind.wrap, IntKind.signed, IntKind.bits]
  simp
  omega

theorem wue (x : Int) : IntKind.wrap .u64 x = x % 18446744073709551616 := by
  simp only [IntKind.wrap, IntKind.signed, IntKind.bits]
  simp

theorem wu {x : Int} (h1 : 0 ≤ x) (h2 : x ≤ 18446744073709551615) : IntKind.wrap .u64 x = x := by rw [wue]; omega

/-- the numbers below i that p holds of -/
def lstB (p : Nat → Bool) : Nat → List Int
  | 0 => []
  | i + 1 => cond (p i) (lstB p i ++ [(i : Int)]) (lstB p i)

theorem lstB_yes {p : Nat → Bool} {i : Nat} (h : p i = true) : lstB p (i + 1) = lstB p i ++ [(i : Int)] := by simp only [lstB, h, cond_true]

theorem lstB_no {p : Nat → Bool} {i : Nat} (h : p i = false) : lstB p (i + 1) = lstB p i := by simp only [lstB, h, cond_false]

theorem lstB_len (p : Nat → Bool) : ∀ i, (lstB p i).length ≤ i
  | 0 => by simp [lstB]
  | i + 1 => by
    have := lstB_len p i
    unfold lstB
    cases p i <;> simp <;> omega

theorem and127 (y : Int) : (BitVec.ofInt (IntKind.bits .i64) y &&& BitVec.ofInt (IntKind.bits .i64) 127).toNat ≤ 127 := by
  rw [BitVec.toNat_and]
  refine Nat.le_trans Nat.and_le_right ?_
  decide

theorem lstB_none {p : Nat → Bool} : ∀ {i : Nat}, (∀ j, j < i → p j = false) → lstB p i = []
  | 0, _ => rfl
  | i + 1, h => by rw [lstB_no (h i (by omega)), lstB_none fun j hj => h j (by omega)]

/-- without the least number -/
theorem lstB_least {p q : Nat → Bool} {k : Nat} (h1 : ∀ j, j < k → p j = false) (h2 : p k = true) (h3 : q k = false) (h4 : ∀ j, j ≠ k → q j = p j) : ∀ {i : Nat}, k < i → lstB p i = (k : Int) :: lstB q i
  | 0, h => by omega
  | i + 1, h => by
    by_cases e : i = k
    · subst e
      rw [lstB_yes h2, lstB_no h3, lstB_none h1, lstB_none (p := q) fun j hj => by rw [h4 j (by omega), h1 j hj]]
      rfl
    · have ih := lstB_least h1 h2 h3 h4 (i := i) (by omega)
      cases hp : p i
      · rw [lstB_no hp, lstB_no (by rw [h4 i e, hp]), ih]
      · rw [lstB_yes hp, lstB_yes (by rw [h4 i e, hp]), ih]
        rfl

/-- the numbers of a mask -/
def bitsL (m : Int) : List Int := lstB (fun j => Nat.testBit m.toNat j) 64

theorem bitsL_len (m : Int) : (bitsL m).length ≤ 64 := lstB_len _ 64

/-- a number that is not nought: its least bit, and what stands above -/
theorem odd_part : ∀ {x : Nat}, x ≠ 0 → ∃ k q, x = 2 ^ k * (2 * q + 1) := by
  intro x
  induction x using Nat.strongRecOn with
  | _ x ih =>
    intro h
    rcases Nat.mod_two_eq_zero_or_one x with e | e
    · obtain ⟨k, q, hk⟩ := ih (x / 2) (by omega) (by omega)
      refine ⟨k + 1, q, ?_⟩
      have : x = 2 * (x / 2) := by omega
      rw [this, hk, Nat.pow_succ, Nat.mul_comm (2 ^ k) 2, Nat.mul_assoc]
    · exact ⟨0, x / 2, by omega⟩

theorem tb_x {k q j : Nat} : Nat.testBit (2 ^ k * (2 * q + 1)) j = if j < k then false else Nat.testBit (2 * q + 1) (j - k) := by
  have := Nat.testBit_two_pow_mul_add (2 * q + 1) (b := 0) (i := k) (Nat.two_pow_pos k) j
  simpa using this

theorem tb_y {k q j : Nat} : Nat.testBit (2 ^ k * (2 * q)) j = if j < k then false else Nat.testBit (2 * q) (j - k) := by
  have := Nat.testBit_two_pow_mul_add (2 * q) (b := 0) (i := k) (Nat.two_pow_pos k) j
  simpa using this

theorem pred_x {k q : Nat} : 2 ^ k * (2 * q + 1) - 1 = 2 ^ k * (2 * q) + (2 ^ k - 1) := by
  have := Nat.two_pow_pos k
  rw [Nat.mul_add, Nat.mul_one]
  omega

theorem tb_p {k q j : Nat} : Nat.testBit (2 ^ k * (2 * q + 1) - 1) j = if j < k then true else Nat.testBit (2 * q) (j - k) := by
  rw [pred_x, Nat.testBit_two_pow_mul_add (2 * q) (b := 2 ^ k - 1) (i := k) (by have := Nat.two_pow_pos k; omega) j]
  split
  · rename_i h; rw [Nat.testBit_two_pow_sub_one]; simpa using h
  · rfl

theorem tb_odd {q d : Nat} (h : d ≠ 0) : Nat.testBit (2 * q + 1) d = Nat.testBit (2 * q) d := by
  obtain ⟨e, rfl⟩ : ∃ e, d = e + 1 := ⟨d - 1, by omega⟩
  rw [Nat.testBit_succ, Nat.testBit_succ]
  congr 1
  omega

theorem tb_odd0 (q : Nat) : Nat.testBit (2 * q + 1) 0 = true := by simp [Nat.testBit_zero]

theorem tb_even0 (q : Nat) : Nat.testBit (2 * q) 0 = false := by simp [Nat.testBit_zero]

/-- the least bit alone -/
theorem land_neg {k q : Nat} (h : 2 ^ k * (2 * q + 1) < 2 ^ 64) : (2 ^ k * (2 * q + 1)) &&& (2 ^ 64 - 2 ^ k * (2 * q + 1)) = 2 ^ k := by
  have hk : k < 64 := by
    rcases Nat.lt_or_ge k 64 with e | e
    · exact e
    · have h1 : 2 ^ 64 ≤ 2 ^ k := Nat.pow_le_pow_right (by omega) e
      have h2 : 2 ^ k * 1 ≤ 2 ^ k * (2 * q + 1) := Nat.mul_le_mul_left _ (by omega)
      omega
  have hpos : 0 < 2 ^ k * (2 * q + 1) := Nat.mul_pos (Nat.two_pow_pos k) (by omega)
  apply Nat.eq_of_testBit_eq
  intro j
  rw [Nat.testBit_and, Nat.testBit_two_pow]
  have e : 2 ^ 64 - 2 ^ k * (2 * q + 1) = 2 ^ 64 - ((2 ^ k * (2 * q + 1) - 1) + 1) := by omega
  rw [e, Nat.testBit_two_pow_sub_succ (by omega), tb_x, tb_p]
  by_cases h1 : j < k
  · simp [h1]; omega
  · by_cases h2 : j = k
    · subst h2; simp [hk, tb_even0, tb_odd0]
    · have h3 : j - k ≠ 0 := by omega
      rw [if_neg h1, if_neg h1, tb_odd h3]
      cases Nat.testBit (2 * q) (j - k) <;> simp [Ne.symm h2]

/-- the least bit away -/
theorem land_pred {k q : Nat} : (2 ^ k * (2 * q + 1)) &&& (2 ^ k * (2 * q + 1) - 1) = 2 ^ k * (2 * q) := by
  apply Nat.eq_of_testBit_eq
  intro j
  rw [Nat.testBit_and, tb_x, tb_p, tb_y]
  by_cases h1 : j < k
  · simp [h1]
  · by_cases h2 : j = k
    · subst h2; simp [tb_even0]
    · rw [if_neg h1, if_neg h1, if_neg h1, tb_odd (by omega), Bool.and_self]

theorem bits_step {k q : Nat} (hk : k < 64) : lstB (Nat.testBit (2 ^ k * (2 * q + 1))) 64 = (k : Int) :: lstB (Nat.testBit (2 ^ k * (2 * q))) 64 := by
  refine lstB_least (fun j hj => ?_) ?_ ?_ (fun j hj => ?_) hk
  · rw [tb_x, if_pos hj]
  · rw [tb_x, if_neg (by omega), Nat.sub_self, tb_odd0]
  · rw [tb_y, if_neg (by omega), Nat.sub_self, tb_even0]
  · rw [tb_x, tb_y]
    split
    · rfl
    · rw [tb_odd (by omega)]
end Go.Proofs.YtjdpkihlgpojkaaGreatDoor
/- Small facts. -/
namespace Go.Proofs.YtjdpkihlgpojkaaGreatDoor
open Go Go.B
set_option linter.unusedSimpArgs false
set_option linter.unusedVariables false

theorem up_ind {P : Nat → Prop} {n : Nat} (h0 : P n) (hs : ∀ i, i < n → P (i + 1) → P i) : ∀ i, i ≤ n → P i := by
  intro i hi
  obtain ⟨d, rfl⟩ : ∃ d, n = i + d := ⟨n - i, by omega⟩
  clear hi
  induction d generalizing i with
  | zero => exact h0
  | succ d ih => exact hs i (by omega) (ih (i + 1) (by rw [show i + 1 + d = i + (d + 1) from by omega]; exact h0) (fun j hj hP => hs j (by omega) hP))

theorem ile_no {a b : Int} (h : b < a) : decide (a ≤ b) = false := decide_eq_false (by omega)

theorem ilt_no {a b : Int} (h : b ≤ a) : decide (a < b) = false := decide_eq_false (by omega)

theorem yes_of {p : Prop} [Decidable p] (h : p) : decide p = true := decide_eq_true h

theorem no_of {p : Prop} [Decidable p] (h : ¬ p) : decide p = false := decide_eq_false h

theorem not_t {b : Bool} (h : b = false) : (!b) = true := by rw [h]; rfl

theorem not_f {b : Bool} (h : b = true) : (!b) = false := by rw [h]; rfl

theorem ix_ok {i n : Nat} (h : i < n) : ((decide (0 ≤ (i : Int))) && (decide ((i : Int) < (n : Int)))) = true := by simp <;> omega

theorem blt_ok {i n : Nat} (h : i < n) : Nat.blt (Int.toNat (i : Int)) n = true := by simp [Nat.blt_eq] <;> omega

theorem wi_succ {n : Nat} (h : n + 1 ≤ 9223372036854775807) : IntKind.wrap .i64 ((n : Int) + 1) = ((n + 1 : Nat) : Int) := by rw [wi (by omega) (by omega)]; rfl

theorem nl_ok {n : Nat} (h : n ≤ 1000000000000) : Nat.ble (n * 9) 140737488355328 = true := by rw [Nat.ble_eq]; omega

theorem lstB_mem {p : Nat → Bool} : ∀ {i : Nat} {x : Int}, x ∈ lstB p i → 0 ≤ x ∧ x < i
  | 0, x, h => by simp [lstB] at h
  | i + 1, x, h => by
    unfold lstB at h
    cases hp : p i <;> rw [hp] at h
    · have := lstB_mem (p := p) h; omega
    · rcases List.mem_append.mp h with h | h
      · have := lstB_mem (p := p) h; omega
      · simp at h; omega

theorem bitsL_mem {m x : Int} (h : x ∈ bitsL m) : 0 ≤ x ∧ x ≤ 63 := by have := lstB_mem h; omega

theorem drop_cons {l : List Int} {i : Nat} (h : i < l.length) : l.drop i = l.getD i 0 :: l.drop (i + 1) := by
  rw [List.drop_eq_getElem_cons h]
  simp [List.getD_eq_getElem?_getD, List.getElem?_eq_getElem h]

theorem lstB_yesmem {p : Nat → Bool} : ∀ {i : Nat} {x : Int}, x ∈ lstB p i → p x.toNat = true
  | 0, x, h => by simp [lstB] at h
  | i + 1, x, h => by
    unfold lstB at h
    cases hp : p i <;> rw [hp] at h
    · exact lstB_yesmem (p := p) h
    · rcases List.mem_append.mp h with h | h
      · exact lstB_yesmem (p := p) h
      · simp at h; subst h; simpa using hp

theorem lstB_has {p : Nat → Bool} : ∀ {i : Nat} {j : Nat}, j < i → p j = true → (j : Int) ∈ lstB p i
  | 0, j, h, _ => absurd h (Nat.not_lt_zero _)
  | i + 1, j, h, hp => by
    unfold lstB
    rcases Nat.lt_or_ge j i with k | k
    · cases p i
      · exact lstB_has k hp
      · exact List.mem_append_left _ (lstB_has k hp)
    · have : j = i := by omega
      subst this
      rw [hp]
      exact List.mem_append_right _ (by simp)

theorem br_yes {b : Bool} {X Y : Prop} (hb : b = true) (h : X) : br b X Y := by subst hb; exact h

theorem br_no {b : Bool} {X Y : Prop} (hb : b = false) (h : Y) : br b X Y := by subst hb; exact h

theorem getD_mem {l : List Int} {i : Nat} (h : i < l.length) : l.getD i 0 ∈ l := by
  rw [List.getD_eq_getElem?_getD, List.getElem?_eq_getElem h]
  exact List.getElem_mem h
end Go.Proofs.YtjdpkihlgpojkaaGreatDoor
