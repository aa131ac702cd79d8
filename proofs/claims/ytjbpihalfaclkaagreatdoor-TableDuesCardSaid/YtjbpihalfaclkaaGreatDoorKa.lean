/- What fields come to. -/
import Derived.Test.YtjbpihalfaclkaaGreatDoorMa
namespace Go.Proofs.YtjbpihalfaclkaaGreatDoor
open Go Go.B
set_option linter.unusedSimpArgs false
set_option linter.unusedVariables false
set_option linter.unusedSectionVars false

theorem mask_one_fn {n : Int} (h0 : 0 ≤ n) (h1 : n ≤ 63) : mask_one_R n ((2 ^ n.toNat : Nat) : Int) := by
  unfold mask_one_R
  have e0 : IntKind.wrap .u64 n = n := wu h0 (by omega)
  rw [e0]
  refine ⟨by simpa using h0, ?_⟩
  have e1 : min n.toNat (IntKind.bits .u64) = n.toNat := by simp only [IntKind.bits]; omega
  have hp : 2 ^ n.toNat ≤ 2 ^ 63 := Nat.pow_le_pow_right (by omega) (by omega)
  have e63 : (2 : Nat) ^ 63 = 9223372036854775808 := by decide
  rw [e1]
  have e2 : (1 : Int) * 2 ^ n.toNat = ((2 ^ n.toNat : Nat) : Int) := by push_cast; omega
  rw [e2]
  generalize 2 ^ n.toNat = X at *
  exact wu (by omega) (by omega)

theorem or_toNat (x y : Int) (hx : U64 x) (hy : U64 y) : (BitVec.toNat (BitVec.ofInt (IntKind.bits .u64) x ||| BitVec.ofInt (IntKind.bits .u64) y)) = x.toNat ||| y.toNat := by
  rw [BitVec.toNat_or]
  have e : ∀ z : Int, U64 z → (BitVec.ofInt (IntKind.bits .u64) z).toNat = z.toNat := fun z hz => by
    obtain ⟨h0, h1⟩ := hz
    simp only [IntKind.bits, BitVec.toNat_ofInt]
    omega
  rw [e _ hx, e _ hy]

theorem span_or (a n : Nat) (h : a ≤ n) : (2 ^ (n + 1) - 2 ^ a) ||| 2 ^ (n + 1) = 2 ^ (n + 2) - 2 ^ a := by
  have h1 : 2 ^ a ≤ 2 ^ (n + 1) := Nat.pow_le_pow_right (by omega) (by omega)
  have h2 : 0 < 2 ^ a := Nat.pow_pos (by omega)
  have h3 := Nat.two_pow_add_eq_or_of_lt (i := n + 1) (b := 2 ^ (n + 1) - 2 ^ a) (by omega) 1
  rw [Nat.mul_one] at h3
  rw [Nat.or_comm, ← h3, Nat.pow_succ 2 (n + 1)]
  omega

theorem mask_Span_loop (a b : Nat) (hb : b ≤ 63) : ∀ (d n : Nat), a ≤ n → n + d = b → ∃ k, mask_Span_l0 k ((b : Int), 1, ((2 ^ (n + 1) - 2 ^ a : Nat) : Int), (n : Int)) ((2 ^ (b + 1) - 2 ^ a : Nat) : Int) := by
  intro d
  induction d with
  | zero =>
    intro n ha hn
    have hn : n = b := by omega
    subst hn
    refine ⟨1, ?_⟩
    unfold mask_Span_l0
    have e1 : IntKind.wrap .i64 ((n : Int) - 1) = (n : Int) - 1 := wi (by omega) (by omega)
    have e2 : decide ((n : Int) ≤ (n : Int) - 1) = false := by simp; omega
    simp only [e1, e2, br]
  | succ d ih =>
    intro n ha hn
    obtain ⟨k, hk⟩ := ih (n + 1) (by omega) (by omega)
    refine ⟨k + 1, ?_⟩
    unfold mask_Span_l0
    have e1 : IntKind.wrap .i64 ((b : Int) - 1) = (b : Int) - 1 := wi (by omega) (by omega)
    have e2 : decide ((n : Int) ≤ (b : Int) - 1) = true := by simp; omega
    have e3 : IntKind.wrap .i64 ((n : Int) + 1) = ((n + 1 : Nat) : Int) := by rw [wi (by omega) (by omega)]; rfl
    simp only [e1, e2, e3, br]
    refine ⟨_, mask_one_fn (by omega) (by omega), ?_⟩
    have p1 : 2 ^ (n + 1) ≤ 2 ^ 63 := Nat.pow_le_pow_right (by omega) (by omega)
    have p2 : 2 ^ (n + 2) ≤ 2 ^ 64 := Nat.pow_le_pow_right (by omega) (by omega)
    have e63 : (2 : Nat) ^ 63 = 9223372036854775808 := by decide
    have e64 : (2 : Nat) ^ 64 = 18446744073709551616 := by decide
    have h3 : 0 < 2 ^ a := Nat.pow_pos (by omega)
    have so := span_or a n ha
    simp only [Int.toNat_natCast]
    rw [show n + 1 + 1 = n + 2 from rfl] at hk
    generalize 2 ^ (n + 1) = P1 at *
    generalize 2 ^ (n + 2) = P2 at *
    generalize 2 ^ a = A at *
    rw [or_toNat _ _ ⟨by omega, by omega⟩ ⟨by omega, by omega⟩]
    simp only [Int.toNat_natCast]
    rw [so, wu (by omega) (by omega)]
    exact hk

theorem mask_Span_fn (a b : Nat) (ha : a ≤ b) (hb : b ≤ 63) : mask_Span_R a b 1 (((2 ^ (b + 1) - 2 ^ a : Nat) : Int), 0) := by
  have m1 : mayB (a : Int) = true := by simp [mayB]; omega
  have m2 : mayB (b : Int) = true := by simp [mayB]; omega
  refine ⟨_, mask_may_fn _, ?_⟩
  rw [m1]
  refine ⟨_, mask_may_fn _, ?_⟩
  rw [m2]
  have e1 : decide ((a : Int) > (b : Int)) = false := by simp; omega
  simp only [e1, br, Bool.not_true]
  refine ⟨_, mask_one_fn (by omega) (by omega), ?_⟩
  obtain ⟨k, hk⟩ := mask_Span_loop a b hb (b - a) a (Nat.le_refl _) (by omega)
  have e2 : 2 ^ (a + 1) - 2 ^ a = 2 ^ a := by rw [Nat.pow_succ]; omega
  rw [e2] at hk
  exact ⟨_, ⟨k, by simpa using hk⟩, rfl⟩

def wholeL : List Int := [1152921504606846975, 16777215, 4294967294, 8190, 127]

def wholeN (k : Nat) : Nat := (wholeL.getD k 0).toNat

theorem field_there_fn (k : Nat) (h : k < 5) : field_there_R (k : Int) true := by
  unfold field_there_R
  have e1 : decide ((k : Int) ≥ 0) = true := by simp
  simp only [e1, br]
  simp; omega

theorem field_Whole_fn (k : Nat) (h : k < 5) : field_Whole_R (k : Int) (wholeL.getD k 0) := by
  refine ⟨_, field_there_fn k h, ?_⟩
  simp only [br, Bool.not_true]
  have e0 : offN 0 (k : Int) 2 = k * 2 := by simp [offN]
  rw [e0]
  refine ⟨by simp; omega, ⟨?_, ?_⟩⟩
  · have : List.length endsL = 10 := rfl
    rw [this]; simp [Nat.ble_eq]; omega
  · have fin : ∀ (a b : Nat) (y : Int), a ≤ b → b ≤ 63 → y = ((2 ^ (b + 1) - 2 ^ a : Nat) : Int) → ∃ y2 : Int × Bool, field_span_R (a : Int) (b : Int) 1 y2 ∧ y2.1 = y := fun a b y h1 h2 e =>
      ⟨_, ⟨_, mask_Span_fn a b h1 h2, rfl⟩, e.symm⟩
    match k, h with
    | 0, _ => exact fin 0 59 _ (by decide) (by decide) (by decide)
    | 1, _ => exact fin 0 23 _ (by decide) (by decide) (by decide)
    | 2, _ => exact fin 1 31 _ (by decide) (by decide) (by decide)
    | 3, _ => exact fin 1 12 _ (by decide) (by decide) (by decide)
    | 4, _ => exact fin 0 6 _ (by decide) (by decide) (by decide)

/-- has m nothing that w has not? -/
def subB (m w : Int) : Bool := m.toNat &&& w.toNat == m.toNat

theorem less_fn {a b : Int} (ha : U64 a) (hb : U64 b) : ∃ y, mask_Less_R a b y ∧ (y == 0) = subB a b := by
  refine ⟨IntKind.wrap .u64 (BitVec.toNat (BitVec.ofInt (IntKind.bits .u64) a &&& ~~~ BitVec.ofInt (IntKind.bits .u64) b)), ⟨_, ⟨3, ?_⟩, rfl⟩, ?_⟩
  · have w1 : IntKind.wrap .i64 (0 + 1) = 1 := by decide
    have w2 : IntKind.wrap .i64 (1 + 1) = 2 := by decide
    unfold mask_Less_l0
    simp only [w1]
    refine ⟨rfl, ⟨rfl, ?_⟩⟩
    unfold mask_Less_l0
    simp only [w2]
    refine ⟨rfl, ⟨rfl, ?_⟩⟩
    unfold mask_Less_l0
    rfl
  · obtain ⟨a', rfl⟩ : ∃ a' : Nat, a = a' := ⟨a.toNat, by have := ha.1; omega⟩
    obtain ⟨b', rfl⟩ : ∃ b' : Nat, b = b' := ⟨b.toNat, by have := hb.1; omega⟩
    have h1 := ha.2; have h2 := hb.2
    have e : ∀ z : Nat, z ≤ 18446744073709551615 → (BitVec.ofInt 64 (z : Int)) = BitVec.ofNat 64 z := fun z hz => by
      apply BitVec.eq_of_toNat_eq
      simp only [BitVec.toNat_ofInt, BitVec.toNat_ofNat]
      omega
    change (IntKind.wrap .u64 (BitVec.toNat (BitVec.ofInt 64 (a' : Int) &&& ~~~ BitVec.ofInt 64 (b' : Int)) : Nat) == 0) = _
    rw [e a' (by omega), e b' (by omega)]
    generalize hA : BitVec.ofNat 64 a' = A
    generalize hB : BitVec.ofNat 64 b' = B
    have hA' : A.toNat = a' := by rw [← hA, BitVec.toNat_ofNat]; omega
    have hB' : B.toNat = b' := by rw [← hB, BitVec.toNat_ofNat]; omega
    have hlt := (A &&& ~~~ B).isLt
    have e64 : (2 : Nat) ^ 64 = 18446744073709551616 := by decide
    rw [wu (by omega) (by omega)]
    have key : A &&& ~~~ B = 0#64 ↔ A &&& B = A := by
      constructor <;> intro h
      · apply BitVec.eq_of_getLsbD_eq
        intro i hi
        have := congrArg (fun x => x.getLsbD i) h
        simp only [BitVec.getLsbD_and, BitVec.getLsbD_not, BitVec.getLsbD_zero] at this ⊢
        cases h1 : A.getLsbD i <;> cases h2 : B.getLsbD i <;> simp_all
      · apply BitVec.eq_of_getLsbD_eq
        intro i hi
        have := congrArg (fun x => x.getLsbD i) h
        simp only [BitVec.getLsbD_and, BitVec.getLsbD_not, BitVec.getLsbD_zero] at this ⊢
        cases h1 : A.getLsbD i <;> cases h2 : B.getLsbD i <;> simp_all
    unfold subB
    simp only [Int.toNat_natCast]
    rw [← hA', ← hB', ← BitVec.toNat_and]
    by_cases h : A &&& B = A
    · have h' := key.mpr h
      rw [h, h']; simp
    · have h' : A &&& ~~~ B ≠ 0#64 := fun x => h (key.mp x)
      have n1 : (A &&& ~~~ B).toNat ≠ 0 := fun x => h' (BitVec.eq_of_toNat_eq (by simpa using x))
      have n2 : (A &&& B).toNat ≠ A.toNat := fun x => h (BitVec.eq_of_toNat_eq x)
      rw [show ((((A &&& ~~~ B).toNat : Nat) : Int) == 0) = false by simpa using n1]
      symm; simpa using n2

def okF (k : Nat) (m : Int) : Bool := !(m == 0) && subB m (wholeL.getD k 0)

theorem whole_U64 (k : Nat) : U64 (wholeL.getD k 0) := by
  match k with
  | 0 | 1 | 2 | 3 | 4 => exact ⟨by decide, by decide⟩
  | _ + 5 => exact ⟨by simp [wholeL], by simp [wholeL]⟩

theorem field_Check_fn (k : Nat) (hk : k < 5) {m : Int} (hm : U64 m) : field_Check_R (k : Int) m (if okF k m then 0 else 160) := by
  refine ⟨_, field_there_fn k hk, ?_⟩
  simp only [br, Bool.not_true]
  unfold okF
  cases h0 : m == 0
  · simp only [Bool.not_false, Bool.true_and]
    obtain ⟨y, h1, h2⟩ := less_fn hm (whole_U64 k)
    refine ⟨_, field_Whole_fn k hk, y, h1, ?_⟩
    have : (y != 0) = !(subB m (wholeL.getD k 0)) := by rw [← h2]; rfl
    rw [this]
    cases subB m (wholeL.getD k 0) <;> rfl
  · rfl
end Go.Proofs.YtjbpihalfaclkaaGreatDoor
