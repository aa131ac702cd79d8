import Derived.Test.YtnjkboeibcoojaaGreatDoorKb
import Derived.Test.YtnjkboeibcoojaaGreatDoorKf
/- How many bits a number has, as they are reckoned. -/
namespace Go.Proofs.YtnjkboeibcoojaaGreatDoor
open Go Go.B
set_option linter.unusedSimpArgs false
set_option linter.unusedVariables false
set_option linter.unusedSectionVars false
set_option maxRecDepth 20000

def fA (M x : Nat) : Nat := (x / 2 &&& M) + (x &&& M)

def fB (M x : Nat) : Nat := (x / 4 &&& M) + (x &&& M)

def fC (M x : Nat) : Nat := (x / 16 + x) &&& M

def mk8 (c : Nat) : Nat → Nat
  | 0 => 0
  | n + 1 => 256 * mk8 c n + c

theorem and8 (A B : Nat) : A &&& B = 256 * ((A / 256) &&& (B / 256)) + ((A % 256) &&& (B % 256)) := by
  have h1 : (A &&& B) / 256 = (A / 256) &&& (B / 256) := by
    have := Nat.and_div_two_pow (a := A) (b := B) (n := 8)
    simpa using this
  have h2 : (A &&& B) % 256 = (A % 256) &&& (B % 256) := by
    have := Nat.and_mod_two_pow (a := A) (b := B) (n := 8)
    simpa using this
  rw [← h1, ← h2]
  omega

theorem and8' {A a r B b' b : Nat} (hr : r < 256) (hb : b < 256) (hA : A = 256 * a + r) (hB : B = 256 * b' + b) : A &&& B = 256 * (a &&& b') + (r &&& b) := by
  rw [and8 A B, hA, hB]
  congr 3 <;> omega

def pc8 (l : Nat) : Nat := (lstB (Nat.testBit l) 8).length

theorem fin1 : ∀ l : Fin 256, ∀ h : Fin 2, (128 * h.val + l.val / 2) % 256 &&& 85 = (l.val / 2) &&& 85 := by decide +kernel

theorem fin2 : ∀ a : Fin 256, ∀ h : Fin 4, (64 * h.val + a.val / 4) % 256 &&& 51 = (a.val / 4) &&& 51 := by decide +kernel

theorem fin3 : ∀ l : Fin 256, ∀ h : Fin 5, (fB 51 (fA 85 l.val)) / 16 ≤ 4 ∧ (fB 51 (fA 85 l.val)) % 16 ≤ 4 ∧ (fA 85 l.val) < 256 ∧ (16 * h.val + (fB 51 (fA 85 l.val)) / 16 + fB 51 (fA 85 l.val)) &&& 15 = pc8 l.val ∧ pc8 l.val ≤ 8 := by decide +kernel

theorem fA_step (n h l : Nat) (hl : l < 256) : fA (mk8 85 (n + 1)) (256 * h + l) = 256 * fA (mk8 85 n) h + fA 85 l := by
  unfold fA
  have e1 : (256 * h + l) / 2 &&& mk8 85 (n + 1) = 256 * (h / 2 &&& mk8 85 n) + (l / 2 &&& 85) := by
    rw [and8' (A := (256 * h + l) / 2) (a := h / 2) (r := 128 * (h % 2) + l / 2) (B := mk8 85 (n + 1)) (b' := mk8 85 n) (b := 85) (by omega) (by omega) (by omega) rfl]
    congr 1
    have := fin1 ⟨l, hl⟩ ⟨h % 2, by omega⟩
    simp only at this
    rwa [Nat.mod_eq_of_lt (by omega)] at this
  have e2 : (256 * h + l) &&& mk8 85 (n + 1) = 256 * (h &&& mk8 85 n) + (l &&& 85) := and8' hl (by omega) rfl rfl
  rw [e1, e2]
  omega

theorem fB_step (n h l : Nat) (hl : l < 256) : fB (mk8 51 (n + 1)) (256 * h + l) = 256 * fB (mk8 51 n) h + fB 51 l := by
  unfold fB
  have e1 : (256 * h + l) / 4 &&& mk8 51 (n + 1) = 256 * (h / 4 &&& mk8 51 n) + (l / 4 &&& 51) := by
    rw [and8' (A := (256 * h + l) / 4) (a := h / 4) (r := 64 * (h % 4) + l / 4) (B := mk8 51 (n + 1)) (b' := mk8 51 n) (b := 51) (by omega) (by omega) (by omega) rfl]
    congr 1
    have := fin2 ⟨l, hl⟩ ⟨h % 4, by omega⟩
    simp only at this
    rwa [Nat.mod_eq_of_lt (by omega)] at this
  have e2 : (256 * h + l) &&& mk8 51 (n + 1) = 256 * (h &&& mk8 51 n) + (l &&& 51) := and8' hl (by omega) rfl rfl
  rw [e1, e2]
  omega

def pcN (n x : Nat) : Nat := fC (mk8 15 n) (fB (mk8 51 n) (fA (mk8 85 n) x))

theorem pc_all : ∀ (n x : Nat), x < 256 ^ n → (fB (mk8 51 n) (fA (mk8 85 n) x)) % 16 ≤ 4 ∧ (∀ i, pcN n x / 256 ^ i % 256 ≤ 8) ∧ pcN n x < 256 ^ n ∧ fB (mk8 51 n) (fA (mk8 85 n) x) < 256 ^ n ∧ fA (mk8 85 n) x < 256 ^ n
  | 0, x, h => by
    have h : x < 1 := h
    obtain rfl : x = 0 := by omega
    refine ⟨by decide, fun i => ?_, by decide, by decide, by decide⟩
    rw [show pcN 0 0 = 0 from by decide, Nat.zero_div]; omega
  | n + 1, x, h => by
    obtain ⟨q, l, rfl, hl⟩ : ∃ q l, x = 256 * q + l ∧ l < 256 := ⟨x / 256, x % 256, by omega, by omega⟩
    have hq : q < 256 ^ n := by rw [Nat.pow_succ] at h; omega
    obtain ⟨i1, i2, i3, i4, i5⟩ := pc_all n q hq
    have f := fin3 ⟨l, hl⟩ ⟨(fB (mk8 51 n) (fA (mk8 85 n) q)) % 16, by omega⟩
    simp only at f
    obtain ⟨f1, f2, f3, f4, f5⟩ := f
    have eB : fB (mk8 51 (n + 1)) (fA (mk8 85 (n + 1)) (256 * q + l)) = 256 * fB (mk8 51 n) (fA (mk8 85 n) q) + fB 51 (fA 85 l) := by rw [fA_step n q l hl, fB_step n _ _ f3]
    have eC : pcN (n + 1) (256 * q + l) = 256 * pcN n q + pc8 l := by
      unfold pcN
      rw [eB]
      unfold fC
      generalize fB (mk8 51 n) (fA (mk8 85 n) q) = B at *
      generalize hbl : fB 51 (fA 85 l) = bl at *
      rw [and8' (A := (256 * B + bl) / 16 + (256 * B + bl)) (a := B / 16 + B) (r := 16 * (B % 16) + bl / 16 + bl) (B := mk8 15 (n + 1)) (b' := mk8 15 n) (b := 15) (by omega) (by omega) (by omega) rfl, f4]
    refine ⟨by rw [eB]; omega, fun i => ?_, by rw [eC, Nat.pow_succ]; omega, by rw [eB, Nat.pow_succ]; omega, by rw [fA_step n q l hl, Nat.pow_succ]; omega⟩
    rw [eC]
    cases i with
    | zero => rw [Nat.pow_zero, Nat.div_one]; omega
    | succ i =>
      have := i2 i
      rw [Nat.pow_succ, Nat.mul_comm (256 ^ i) 256, ← Nat.div_div_eq_div_mul, show (256 * pcN n q + pc8 l) / 256 = pcN n q by omega]
      exact this

def dsum : Nat → Nat → Nat
  | 0, _ => 0
  | n + 1, y => y % 256 + dsum n (y / 256)

theorem lstB_add (p : Nat → Bool) (k : Nat) : ∀ n, (lstB p (k + n)).length = (lstB p k).length + (lstB (fun j => p (j + k)) n).length
  | 0 => by simp [lstB]
  | n + 1 => by
    have ih := lstB_add p k n
    rw [← Nat.add_assoc]
    cases h : p (k + n)
    · rw [lstB_no h, lstB_no (p := fun j => p (j + k)) (by rw [Nat.add_comm]; exact h)]; exact ih
    · rw [lstB_yes h, lstB_yes (p := fun j => p (j + k)) (by rw [Nat.add_comm]; exact h)]
      simp only [List.length_append, List.length_singleton]
      omega

theorem dsum_cons {n y b : Nat} (h : b < 256) : dsum (n + 1) (256 * y + b) = b + dsum n y := by
  show (256 * y + b) % 256 + dsum n ((256 * y + b) / 256) = _
  rw [show (256 * y + b) % 256 = b by omega, show (256 * y + b) / 256 = y by omega]

theorem dsum_pc : ∀ (n x : Nat), x < 256 ^ n → dsum n (pcN n x) = (lstB (Nat.testBit x) (8 * n)).length
  | 0, x, h => rfl
  | n + 1, x, h => by
    obtain ⟨q, l, rfl, hl⟩ : ∃ q l, x = 256 * q + l ∧ l < 256 := ⟨x / 256, x % 256, by omega, by omega⟩
    have hq : q < 256 ^ n := by rw [Nat.pow_succ] at h; omega
    obtain ⟨i1, i2, i3, i4, i5⟩ := pc_all n q hq
    have f := fin3 ⟨l, hl⟩ ⟨(fB (mk8 51 n) (fA (mk8 85 n) q)) % 16, by omega⟩
    simp only at f
    obtain ⟨f1, f2, f3, f4, f5⟩ := f
    have eB : fB (mk8 51 (n + 1)) (fA (mk8 85 (n + 1)) (256 * q + l)) = 256 * fB (mk8 51 n) (fA (mk8 85 n) q) + fB 51 (fA 85 l) := by rw [fA_step n q l hl, fB_step n _ _ f3]
    have eC : pcN (n + 1) (256 * q + l) = 256 * pcN n q + pc8 l := by
      unfold pcN
      rw [eB]
      unfold fC
      generalize fB (mk8 51 n) (fA (mk8 85 n) q) = B at *
      generalize hbl : fB 51 (fA 85 l) = bl at *
      rw [and8' (A := (256 * B + bl) / 16 + (256 * B + bl)) (a := B / 16 + B) (r := 16 * (B % 16) + bl / 16 + bl) (B := mk8 15 (n + 1)) (b' := mk8 15 n) (b := 15) (by omega) (by omega) (by omega) rfl, f4]
    rw [eC, show 8 * (n + 1) = 8 + 8 * n by omega, lstB_add]
    have hlow : lstB (Nat.testBit (256 * q + l)) 8 = lstB (Nat.testBit l) 8 := lstB_congr fun j hj => by
      rw [show 256 * q + l = 2 ^ 8 * q + l by omega, Nat.testBit_two_pow_mul_add q (by simpa using hl) j, if_pos hj]
    have hhigh : (fun j => Nat.testBit (256 * q + l) (j + 8)) = Nat.testBit q := funext fun j => by
      rw [show 256 * q + l = 2 ^ 8 * q + l by omega, Nat.testBit_two_pow_mul_add q (by simpa using hl) (j + 8), if_neg (by omega), Nat.add_sub_cancel]
    rw [hlow, hhigh, ← dsum_pc n q hq]
    exact dsum_cons (by omega)

theorem sum8 {c : Nat} (h : c < 256 ^ 8) (hb : ∀ i, c / 256 ^ i % 256 ≤ 8) : ∃ c1 c2 c3, c1 = c + c / 2 ^ 8 ∧ c2 = c1 + c1 / 2 ^ 16 ∧ c3 = c2 + c2 / 2 ^ 32 ∧ c3 < 2 ^ 64 ∧ c2 < 2 ^ 64 ∧ c1 < 2 ^ 64 ∧ c3 % 128 = dsum 8 c := by
  have h0 := hb 0; have h1 := hb 1; have h2 := hb 2; have h3 := hb 3
  have h4 := hb 4; have h5 := hb 5; have h6 := hb 6; have h7 := hb 7
  have e0 : ∀ i, c / 256 ^ i = 256 * (c / 256 ^ (i + 1)) + c / 256 ^ i % 256 := fun i => by
    rw [Nat.pow_succ, ← Nat.div_div_eq_div_mul]
    omega
  have ed : ∀ i n, dsum (n + 1) (c / 256 ^ i) = c / 256 ^ i % 256 + dsum n (c / 256 ^ (i + 1)) := fun i n => by
    rw [Nat.pow_succ, ← Nat.div_div_eq_div_mul]; rfl
  have hd : dsum 8 c = c / 256 ^ 0 % 256 + (c / 256 ^ 1 % 256 + (c / 256 ^ 2 % 256 + (c / 256 ^ 3 % 256 + (c / 256 ^ 4 % 256 + (c / 256 ^ 5 % 256 + (c / 256 ^ 6 % 256 + (c / 256 ^ 7 % 256 + 0))))))) := by
    have : dsum 8 c = dsum 8 (c / 256 ^ 0) := by rw [Nat.pow_zero, Nat.div_one]
    rw [this, ed, ed, ed, ed, ed, ed, ed, ed]
    rfl
  rw [hd]
  have g0 := e0 0; have g1 := e0 1; have g2 := e0 2; have g3 := e0 3
  have g4 := e0 4; have g5 := e0 5; have g6 := e0 6; have g7 := e0 7
  have g8 : c / 256 ^ 8 = 0 := Nat.div_eq_of_lt h
  have gc : c / 256 ^ 0 = c := by rw [Nat.pow_zero, Nat.div_one]
  have e8 : c / 2 ^ 8 = c / 256 ^ 1 := rfl
  rw [e8]
  simp only [Nat.zero_add, Nat.reduceAdd] at g0 g1 g2 g3 g4 g5 g6 g7
  rw [gc] at g0 h0 ⊢
  rw [g8] at g7
  clear hb e0 ed hd gc e8 h
  generalize c % 256 = b0 at *
  generalize c / 256 ^ 1 % 256 = b1 at *
  generalize c / 256 ^ 2 % 256 = b2 at *
  generalize c / 256 ^ 3 % 256 = b3 at *
  generalize c / 256 ^ 4 % 256 = b4 at *
  generalize c / 256 ^ 5 % 256 = b5 at *
  generalize c / 256 ^ 6 % 256 = b6 at *
  generalize c / 256 ^ 7 % 256 = b7 at *
  generalize c / 256 ^ 1 = C1 at *
  generalize c / 256 ^ 2 = C2 at *
  generalize c / 256 ^ 3 = C3 at *
  generalize c / 256 ^ 4 = C4 at *
  generalize c / 256 ^ 5 = C5 at *
  generalize c / 256 ^ 6 = C6 at *
  generalize c / 256 ^ 7 = C7 at *
  clear g8
  have k2 : (c + C1) / 2 ^ 16 = C2 + C3 := by
    have : c + C1 = 65536 * (C2 + C3) + (256 * (b1 + b2) + (b0 + b1)) := by omega
    rw [this]; omega
  have k3 : (c + C1 + (C2 + C3)) / 2 ^ 32 = C4 + C5 + C6 + C7 := by
    have a0 : c = 4294967296 * C4 + (16777216 * b3 + 65536 * b2 + 256 * b1 + b0) := by omega
    have a1 : C1 = 4294967296 * C5 + (16777216 * b4 + 65536 * b3 + 256 * b2 + b1) := by clear a0 k2 g0; omega
    have a2 : C2 = 4294967296 * C6 + (16777216 * b5 + 65536 * b4 + 256 * b3 + b2) := by clear a0 a1 k2 g0 g1; omega
    have a3 : C3 = 4294967296 * C7 + (16777216 * b6 + 65536 * b5 + 256 * b4 + b3) := by clear a0 a1 a2 k2 g0 g1 g2; omega
    have e : c + C1 + (C2 + C3) = 4294967296 * (C4 + C5 + C6 + C7) + (16777216 * (b3 + b4 + b5 + b6) + 65536 * (b2 + b3 + b4 + b5) + 256 * (b1 + b2 + b3 + b4) + (b0 + b1 + b2 + b3)) := by
      clear k2 g0 g1 g2 g3 g4 g5 g6 g7
      omega
    rw [e, show (2 : Nat) ^ 32 = 4294967296 from rfl, Nat.mul_add_div (by decide), Nat.div_eq_of_lt (by clear e a0 a1 a2 a3 k2 g0 g1 g2 g3 g4 g5 g6 g7; omega), Nat.add_zero]
  refine ⟨_, _, _, rfl, rfl, rfl, ?_⟩
  rw [k2, k3]
  have k4 : c + C1 + (C2 + C3) + (C4 + C5 + C6 + C7) = 256 * (C1 + C2 + C3 + C4 + C5 + C6 + C7) + (b0 + b1 + b2 + b3 + b4 + b5 + b6 + b7) := by omega
  have hc : C7 ≤ 8 := by clear k2 k3 k4; omega
  have hc6 : C6 ≤ 2056 := by omega
  have hc5 : C5 ≤ 526344 := by omega
  have hc4 : C4 ≤ 134744072 := by omega
  have hc3 : C3 ≤ 34494482440 := by omega
  have hc2 : C2 ≤ 8830587504648 := by omega
  have hc1 : C1 ≤ 2260630401189896 := by omega
  have hc0 : c ≤ 578721382704613384 := by clear k4; omega
  clear k2 k3 g0 g1 g2 g3 g4 g5 g6 g7
  refine ⟨?_, ?_, ?_, ?_⟩
  · rw [k4]; omega
  · clear k4; omega
  · clear k4; omega
  · rw [k4]
    clear k4 hc hc1 hc2 hc3 hc4 hc5 hc6
    generalize C1 + C2 + C3 + C4 + C5 + C6 + C7 = Z
    omega
end Go.Proofs.YtnjkboeibcoojaaGreatDoor
/- The runs of a mask, and how many numbers it has. -/
namespace Go.Proofs.YtnjkboeibcoojaaGreatDoor
open Go Go.B
set_option linter.unusedSimpArgs false
set_option linter.unusedVariables false
set_option linter.unusedSectionVars false
set_option maxRecDepth 20000

theorem fdivN (x k : Nat) : Int.fdiv (x : Int) ((2 : Int) ^ k) = ((x / 2 ^ k : Nat) : Int) := by
  rw [Int.fdiv_eq_ediv_of_nonneg _ (Int.pow_nonneg (by omega))]
  push_cast
  rfl

theorem andW (x : Nat) (C : Int) (hx : x < 18446744073709551616) (hC : U64 C) : IntKind.wrap .u64 ((BitVec.toNat (BitVec.ofInt (IntKind.bits .u64) (x : Int) &&& BitVec.ofInt (IntKind.bits .u64) C) : Nat) : Int) = ((x &&& C.toNat : Nat) : Int) := by
  have hand := Nat.and_le_left (n := x) (m := C.toNat)
  rw [and_toNat _ _ ⟨by omega, by omega⟩ hC, Int.toNat_natCast]
  exact wu (by omega) (by omega)

theorem addW (a b : Nat) (h : a + b < 18446744073709551616) : IntKind.wrap .u64 ((a : Int) + (b : Int)) = ((a + b : Nat) : Int) := by
  rw [wu (by omega) (by omega)]; omega

theorem ones_all {m : Nat} (hm : m < 18446744073709551616) : math_bits_OnesCount64_R (m : Int) ((bitsL (m : Int)).length : Int) := by
  have e256 : (256 : Nat) ^ 8 = 18446744073709551616 := by decide
  obtain ⟨p1, p2, p3, p4, p5⟩ := pc_all 8 m (by omega)
  have hs := dsum_pc 8 m (by omega)
  obtain ⟨c1, c2, c3, q1, q2, q3, q4, q5, q6, q7⟩ := sum8 p3 p2
  rw [hs] at q7
  have hlen : (bitsL (m : Int)).length = (lstB (Nat.testBit m) (8 * 8)).length := by unfold bitsL; rw [Int.toNat_natCast]
  rw [← hlen] at q7
  have M0 : (6148914691236517205 : Int).toNat = mk8 85 8 := by decide
  have M1 : (3689348814741910323 : Int).toNat = mk8 51 8 := by decide
  have M2 : (1085102592571150095 : Int).toNat = mk8 15 8 := by decide
  have a1 := Nat.and_le_right (n := m / 2) (m := mk8 85 8)
  have a2 := Nat.and_le_right (n := m) (m := mk8 85 8)
  have v0 : mk8 85 8 = 6148914691236517205 := by decide
  have v1 : mk8 51 8 = 3689348814741910323 := by decide
  have e1 : ∀ x : Nat, x < 18446744073709551616 → IntKind.wrap .u64 (IntKind.wrap .u64 ((BitVec.toNat (BitVec.ofInt (IntKind.bits .u64) (Int.fdiv (x : Int) (2 ^ 1)) &&& BitVec.ofInt (IntKind.bits .u64) 6148914691236517205) : Nat) : Int) + IntKind.wrap .u64 ((BitVec.toNat (BitVec.ofInt (IntKind.bits .u64) (x : Int) &&& BitVec.ofInt (IntKind.bits .u64) 6148914691236517205) : Nat) : Int)) = ((fA (mk8 85 8) x : Nat) : Int) := fun x hx => by
    have g1 := Nat.and_le_right (n := x / 2) (m := mk8 85 8)
    have g2 := Nat.and_le_right (n := x) (m := mk8 85 8)
    rw [fdivN, andW _ _ (by omega) ⟨by decide, by decide⟩, andW _ _ hx ⟨by decide, by decide⟩, M0, Nat.pow_one, addW _ _ (by omega)]
    rfl
  have e2 : ∀ x : Nat, x < 18446744073709551616 → IntKind.wrap .u64 (IntKind.wrap .u64 ((BitVec.toNat (BitVec.ofInt (IntKind.bits .u64) (Int.fdiv (x : Int) (2 ^ 2)) &&& BitVec.ofInt (IntKind.bits .u64) 3689348814741910323) : Nat) : Int) + IntKind.wrap .u64 ((BitVec.toNat (BitVec.ofInt (IntKind.bits .u64) (x : Int) &&& BitVec.ofInt (IntKind.bits .u64) 3689348814741910323) : Nat) : Int)) = ((fB (mk8 51 8) x : Nat) : Int) := fun x hx => by
    have g1 := Nat.and_le_right (n := x / 2 ^ 2) (m := mk8 51 8)
    have g2 := Nat.and_le_right (n := x) (m := mk8 51 8)
    rw [fdivN, andW _ _ (by omega) ⟨by decide, by decide⟩, andW _ _ hx ⟨by decide, by decide⟩, M1, addW _ _ (by omega)]
    rfl
  have hB : fB (mk8 51 8) (fA (mk8 85 8) m) ≤ 7378697629483820646 := by
    have g1 := Nat.and_le_right (n := fA (mk8 85 8) m / 4) (m := mk8 51 8)
    have g2 := Nat.and_le_right (n := fA (mk8 85 8) m) (m := mk8 51 8)
    unfold fB; omega
  unfold math_bits_OnesCount64_R
  rw [e1 m hm, e2 _ (by omega)]
  have e3 : IntKind.wrap .u64 (Int.fdiv ((fB (mk8 51 8) (fA (mk8 85 8) m) : Nat) : Int) (2 ^ 4) + ((fB (mk8 51 8) (fA (mk8 85 8) m) : Nat) : Int)) = ((fB (mk8 51 8) (fA (mk8 85 8) m) / 16 + fB (mk8 51 8) (fA (mk8 85 8) m) : Nat) : Int) := by
    rw [fdivN, addW _ _ (by omega)]
  rw [e3, andW _ _ (by omega) ⟨by decide, by decide⟩, M2]
  have e4 : (fB (mk8 51 8) (fA (mk8 85 8) m) / 16 + fB (mk8 51 8) (fA (mk8 85 8) m)) &&& mk8 15 8 = pcN 8 m := rfl
  rw [e4]
  have d1 : IntKind.wrap .u64 (((pcN 8 m : Nat) : Int) + Int.fdiv ((pcN 8 m : Nat) : Int) (2 ^ 8)) = (c1 : Int) := by rw [fdivN, addW _ _ (by omega), q1]
  rw [d1]
  have d2 : IntKind.wrap .u64 ((c1 : Int) + Int.fdiv (c1 : Int) (2 ^ 16)) = (c2 : Int) := by rw [fdivN, addW _ _ (by omega), q2]
  rw [d2]
  have d3 : IntKind.wrap .u64 ((c2 : Int) + Int.fdiv (c2 : Int) (2 ^ 32)) = (c3 : Int) := by rw [fdivN, addW _ _ (by omega), q3]
  rw [d3]
  have hl := bitsL_len (m : Int)
  generalize (bitsL (m : Int)).length = L at *
  have e7 : BitVec.toNat (BitVec.ofInt (IntKind.bits .i64) (IntKind.wrap .i64 (c3 : Int)) &&& BitVec.ofInt (IntKind.bits .i64) 127) = L := by
    rw [BitVec.toNat_and]
    have t1 : (BitVec.ofInt (IntKind.bits .i64) (IntKind.wrap .i64 (c3 : Int))).toNat = c3 := by
      simp only [IntKind.bits, BitVec.toNat_ofInt, IntKind.wrap, IntKind.signed]
      simp
      omega
    have t2 : (BitVec.ofInt (IntKind.bits .i64) 127).toNat = 2 ^ 7 - 1 := by decide
    rw [t1, t2, Nat.and_two_pow_sub_one_eq_mod]
    omega
  rw [e7]
  exact wi (by omega) (by omega)

theorem mask_Count_fn {m : Nat} (hm : m < 18446744073709551616) : mask_Count_R (m : Int) ((bitsL (m : Int)).length : Int) := ⟨_, ones_all hm, rfl⟩

/- runs -/

def stB (p : Nat → Bool) (i : Nat) : Bool := p i && !(decide (0 < i) && p (i - 1))

def runLen (p : Nat → Bool) : Nat → Nat → Nat
  | 0, _ => 0
  | f + 1, a => bif p a then runLen p f (a + 1) + 1 else 0

def runF (m : Nat) (a : Int) : Int × Int := (a, a + (runLen (Nat.testBit m) 64 a.toNat : Int) - 1)

def runsO (m : Nat) : List (Int × Int) := (lstB (stB (Nat.testBit m)) 64).map (runF m)

theorem runLen_eq (p : Nat → Bool) : ∀ (t f a : Nat), t < f → (∀ j, j < t → p (a + j) = true) → p (a + t) = false → runLen p f a = t
  | 0, f + 1, a, _, _, h => by
    unfold runLen; rw [Nat.add_zero] at h; rw [h]; rfl
  | t + 1, f + 1, a, h, h1, h2 => by
    unfold runLen
    have h0 := h1 0 (by omega)
    rw [Nat.add_zero] at h0
    rw [h0, runLen_eq p t f (a + 1) (by omega) (fun j hj => by rw [Nat.add_assoc, Nat.add_comm 1 j]; exact h1 (j + 1) (by omega)) (by rw [Nat.add_assoc, Nat.add_comm 1 t]; exact h2)]
    rfl

theorem starts_bits {m : Nat} (hm : m < 9223372036854775808) : ∃ s : Nat, s < 18446744073709551616 ∧ IntKind.wrap .u64 ((BitVec.toNat (BitVec.ofInt (IntKind.bits .u64) (m : Int) &&& ~~~ BitVec.ofInt (IntKind.bits .u64) (IntKind.wrap .u64 ((m : Int) * 2 ^ 1))) : Nat) : Int) = (s : Int) ∧ ∀ j, j < 64 → Nat.testBit s j = stB (Nat.testBit m) j := by
  have e1 : IntKind.wrap .u64 ((m : Int) * 2 ^ 1) = ((2 * m : Nat) : Int) := by rw [wu (by omega) (by omega)]; omega
  rw [e1]
  refine ⟨BitVec.toNat (BitVec.ofInt (IntKind.bits .u64) (m : Int) &&& ~~~ BitVec.ofInt (IntKind.bits .u64) ((2 * m : Nat) : Int)), ?_, ?_, ?_⟩
  · have := (BitVec.ofInt (IntKind.bits .u64) (m : Int) &&& ~~~ BitVec.ofInt (IntKind.bits .u64) ((2 * m : Nat) : Int)).isLt
    exact this
  · have := (BitVec.ofInt (IntKind.bits .u64) (m : Int) &&& ~~~ BitVec.ofInt (IntKind.bits .u64) ((2 * m : Nat) : Int)).isLt
    have e64 : 2 ^ (IntKind.bits .u64) = 18446744073709551616 := by decide
    rw [e64] at this
    exact wu (by omega) (by omega)
  · intro j hj
    rw [BitVec.testBit_toNat, BitVec.getLsbD_and, BitVec.getLsbD_not]
    have g : ∀ x : Nat, x < 18446744073709551616 → (BitVec.ofInt (IntKind.bits .u64) (x : Int)).getLsbD j = Nat.testBit x j := fun x hx => by
      rw [← BitVec.testBit_toNat]
      congr 1
      simp only [IntKind.bits, BitVec.toNat_ofInt]
      omega
    rw [g m (by omega), g (2 * m) (by omega)]
    have hb : decide (j < IntKind.bits .u64) = true := decide_eq_true hj
    rw [hb, Bool.true_and]
    unfold stB
    congr 2
    rw [show 2 * m = m * 2 ^ 1 by omega, ← Nat.shiftLeft_eq, Nat.testBit_shiftLeft]
    simp
    by_cases h0 : 0 < j
    · rw [decide_eq_true (show 1 ≤ j by omega), decide_eq_true h0]
    · rw [decide_eq_false (show ¬ 1 ≤ j by omega), decide_eq_false h0]

theorem run_tz {m n : Nat} (hm : m < 9223372036854775808) (hn : n < 64) : math_bits_TrailingZeros64_R (IntKind.wrap .u64 ((BitVec.toNat (BitVec.ofInt (IntKind.bits .u64) 18446744073709551615 ^^^ BitVec.ofInt (IntKind.bits .u64) ((m / 2 ^ n : Nat) : Int)) : Nat) : Int)) (runLen (Nat.testBit m) 64 n : Int) ∧ runLen (Nat.testBit m) 64 n ≤ 63 := by
  have hx : m / 2 ^ n < 9223372036854775808 := Nat.lt_of_le_of_lt (Nat.div_le_self _ _) hm
  have key : ∀ X : Nat, X < 9223372036854775808 → BitVec.toNat (BitVec.ofInt (IntKind.bits .u64) 18446744073709551615 ^^^ BitVec.ofInt (IntKind.bits .u64) (X : Int)) = 18446744073709551616 - (X + 1) := fun X hX => by
    have q1 : BitVec.ofInt (IntKind.bits .u64) 18446744073709551615 = BitVec.allOnes (IntKind.bits .u64) := by decide
    rw [q1, BitVec.allOnes_xor, BitVec.toNat_not]
    simp only [BitVec.toNat_ofInt, IntKind.bits]
    omega
  have e1 := key _ hx
  rw [e1]
  have e64 : (2 : Nat) ^ 64 = 18446744073709551616 := by decide
  have hz : 18446744073709551616 - (m / 2 ^ n + 1) ≠ 0 := by omega
  rw [wu (by generalize m / 2 ^ n = X at *; omega) (by generalize m / 2 ^ n = X at *; omega)]
  obtain ⟨t, q, ht⟩ := odd_part hz
  have hlt : 2 ^ t * (2 * q + 1) < 2 ^ 64 := by rw [← ht]; generalize m / 2 ^ n = X at *; omega
  have ht64 := pow_lt_of hlt
  -- bits of the complement
  have hbit : ∀ j, j < 64 → Nat.testBit (2 ^ t * (2 * q + 1)) j = !(Nat.testBit m (n + j)) := fun j hj => by
    rw [← ht, ← e64, Nat.testBit_two_pow_sub_succ (by generalize m / 2 ^ n = X at *; omega), decide_eq_true hj, Bool.true_and, Nat.testBit_div_two_pow, Nat.add_comm]
  have hrun : runLen (Nat.testBit m) 64 n = t := by
    refine runLen_eq _ t 64 n ht64 (fun j hj => ?_) ?_
    · have := hbit j (by omega)
      rw [tb_x, if_pos hj] at this
      simpa using this.symm
    · have := hbit t ht64
      rw [tb_x, if_neg (Nat.lt_irrefl _), Nat.sub_self, tb_odd0] at this
      simpa using this.symm
  rw [hrun, ht]
  exact ⟨tz_fn hlt, by omega⟩

theorem runs_loop {m : Nat} (hm : m < 9223372036854775808) : ∀ (s : Nat) (l : List (Int × Int)), s < 2 ^ 64 → l.length + (lstB (Nat.testBit s) 64).length ≤ 64 → ∃ k, mask_Runs_l0 k (l, (m : Int), (s : Int)) (l ++ (lstB (Nat.testBit s) 64).map (runF m), 0) := by
  intro s
  induction s using Nat.strongRecOn with
  | _ s ih =>
    intro l hs hl
    by_cases h0 : s = 0
    · subst h0
      refine ⟨1, ?_⟩
      have e : lstB (Nat.testBit 0) 64 = [] := lstB_none (fun j _ => by simp)
      rw [e]
      simp [mask_Runs_l0, br]
    · obtain ⟨k, q, rfl⟩ := odd_part h0
      have hk := pow_lt_of hs
      have hst := bits_step (q := q) hk
      have hlt : 2 ^ k * (2 * q) < 2 ^ k * (2 * q + 1) := Nat.mul_lt_mul_of_pos_left (by omega) (Nat.pow_pos (by omega))
      rw [hst] at hl ⊢
      simp only [List.length_cons] at hl
      obtain ⟨K, hK⟩ := ih (2 ^ k * (2 * q)) hlt (l ++ [runF m (k : Int)]) (Nat.lt_trans hlt hs) (by simp; omega)
      have n0 : (((2 ^ k * (2 * q + 1) : Nat) : Int) != 0) = true := by rw [bne_iff_ne, ne_eq, Int.natCast_eq_zero]; exact h0
      obtain ⟨hz, hz2⟩ := run_tz hm hk
      refine ⟨K + 1, br_yes n0 ⟨(k : Int), tz_fn hs, ?_⟩⟩
      have hw : IntKind.wrap .u64 (k : Int) = (k : Int) := wu (by omega) (by omega)
      rw [hw]
      refine ⟨yes_of (by omega), (runLen (Nat.testBit m) 64 k : Int), ?_, ?_⟩
      · have emin : min (Int.toNat (k : Int)) (IntKind.bits .u64) = k := by simp only [IntKind.bits, Int.toNat_natCast]; omega
        rw [emin, fdivN]
        exact hz
      · have er : (k : Int) + (runLen (Nat.testBit m) 64 k : Int) - 1 = (runF m (k : Int)).2 := rfl
        have ew : IntKind.wrap .i64 (IntKind.wrap .i64 ((k : Int) + (runLen (Nat.testBit m) 64 k : Int)) - 1) = (runF m (k : Int)).2 := by
          rw [wi (x := (k : Int) + (runLen (Nat.testBit m) 64 k : Int)) (by omega) (by omega), wi (by omega) (by omega), er]
        rw [ew]
        refine ⟨?_, ?_⟩
        · simp [Nat.ble_eq]; omega
        · have hpos : 0 < 2 ^ k * (2 * q + 1) := by omega
          have hp := land_pred (k := k) (q := q)
          have e64 : (2 : Nat) ^ 64 = 18446744073709551616 := by decide
          generalize hX : 2 ^ k * (2 * q + 1) = X at *
          have e1 : IntKind.wrap .u64 ((X : Int) - 1) = ((X - 1 : Nat) : Int) := by rw [wu (by omega) (by omega)]; omega
          rw [e1, and_toNat _ _ ⟨by omega, by omega⟩ ⟨by omega, by omega⟩]
          simp only [Int.toNat_natCast]
          rw [hp, wu (by omega) (by omega)]
          rw [List.map_cons]
          rw [List.append_assoc] at hK
          exact hK

theorem mask_Runs_fn {m : Nat} (hm : m < 9223372036854775808) : mask_Runs_R (m : Int) (runsO m) := by
  obtain ⟨s, h1, h2, h3⟩ := starts_bits hm
  have e64 : (2 : Nat) ^ 64 = 18446744073709551616 := by decide
  obtain ⟨k, hk⟩ := runs_loop hm s [] (by omega) (by simpa using lstB_len (Nat.testBit s) 64)
  refine ⟨(runsO m, 0), ⟨k, ?_⟩, rfl⟩
  rw [h2]
  have : lstB (Nat.testBit s) 64 = lstB (stB (Nat.testBit m)) 64 := lstB_congr h3
  rw [this, List.nil_append] at hk
  exact hk

theorem runsO_len (m : Nat) : (runsO m).length ≤ 64 := by unfold runsO; rw [List.length_map]; exact lstB_len _ 64

theorem runLen_le (p : Nat → Bool) : ∀ (f a i : Nat), a ≤ i → p i = false → a + runLen p f a ≤ i
  | 0, a, i, h, _ => h
  | f + 1, a, i, h, hp => by
    unfold runLen
    cases ha : p a
    · exact h
    · have : a ≠ i := fun e => by rw [e, hp] at ha; cases ha
      have := runLen_le p f (a + 1) i (by omega) hp
      rw [cond_true]; omega

theorem runLen_pos (p : Nat → Bool) (f a : Nat) (h : p a = true) : 1 ≤ runLen p (f + 1) a := by
  unfold runLen; rw [h, cond_true]; omega

theorem runsO_mem {m : Nat} (hm : m < 9223372036854775808) {r : Int × Int} (h : r ∈ runsO m) : 0 ≤ r.1 ∧ r.1 ≤ r.2 ∧ r.2 ≤ 62 := by
  unfold runsO at h
  obtain ⟨a, ha, rfl⟩ := List.mem_map.mp h
  have hb := lstB_mem ha
  have hp := lstB_yesmem ha
  unfold stB at hp
  rw [Bool.and_eq_true] at hp
  have h63 : Nat.testBit m 63 = false := Nat.testBit_lt_two_pow (by simpa using hm)
  have hle := runLen_le (Nat.testBit m) 64 a.toNat 63 (by omega) h63
  have hps := runLen_pos (Nat.testBit m) 63 a.toNat hp.1
  have hle : a.toNat + runLen (Nat.testBit m) 64 a.toNat ≤ 63 := hle
  have hps : 1 ≤ runLen (Nat.testBit m) 64 a.toNat := hps
  unfold runF
  generalize runLen (Nat.testBit m) 64 a.toNat = R at *
  simp only
  omega
end Go.Proofs.YtnjkboeibcoojaaGreatDoor
