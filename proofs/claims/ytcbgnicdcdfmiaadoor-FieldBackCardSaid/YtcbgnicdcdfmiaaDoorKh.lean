/- How many bits a number has, as they are reckoned. -/
import Derived.Test.YtcbgnicdcdfmiaaDoorKb
namespace Go.Proofs.YtcbgnicdcdfmiaaDoor
open Go Go.B
set_option linter.unusedSimpArgs false
set_option linter.unusedVariables false
set_option linter.unusedSectionVars false
set_option maxRecDepth 20000

def fA (M x : Nat) : Nat := (x / 2 &&& M) + (x &&& M)

def fB (M x : Nat) : Nat := (x / 4 &&& M) + (x &&& M)

def fC (M x : Nat) : Nat := (x / 16 + x) &&& M

def mk8 (c : Nat) : Nat → Nat
  | 0 => 0
  | n + 1 => 256 * mk8 c n + c

theorem and8 (A B : Nat) : A &&& B = 256 * ((A / 256) &&& (B / 256)) + ((A % 256) &&& (B % 256)) := by
  have h1 : (A &&& B) / 256 = (A / 256) &&& (B / 256) := by
    have := Nat.and_div_two_pow (a := A) (b := B) (n := 8)
    simpa using this
  have h2 : (A &&& B) % 256 = (A % 256) &&& (B % 256) := by
    have := Nat.and_mod_two_pow (a := A) (b := B) (n := 8)
    simpa using this
  rw [← h1, ← h2]
  omega

theorem and8' {A a r B b' b : Nat} (hr : r < 256) (hb : b < 256) (hA : A = 256 * a + r) (hB : B = 256 * b' + b) : A &&& B = 256 * (a &&& b') + (r &&& b) := by
  rw [and8 A B, hA, hB]
  congr 3 <;> omega

def pc8 (l : Nat) : Nat := (lstB (Nat.testBit l) 8).length

theorem fin1 : ∀ l : Fin 256, ∀ h : Fin 2, (128 * h.val + l.val / 2) % 256 &&& 85 = (l.val / 2) &&& 85 := by decide +kernel

theorem fin2 : ∀ a : Fin 256, ∀ h : Fin 4, (64 * h.val + a.val / 4) % 256 &&& 51 = (a.val / 4) &&& 51 := by decide +kernel

theorem fin3 : ∀ l : Fin 256, ∀ h : Fin 5, (fB 51 (fA 85 l.val)) / 16 ≤ 4 ∧ (fB 51 (fA 85 l.val)) % 16 ≤ 4 ∧ (fA 85 l.val) < 256 ∧ (16 * h.val + (fB 51 (fA 85 l.val)) / 16 + fB 51 (fA 85 l.val)) &&& 15 = pc8 l.val ∧ pc8 l.val ≤ 8 := by decide +kernel

theorem fA_step (n h l : Nat) (hl : l < 256) : fA (mk8 85 (n + 1)) (256 * h + l) = 256 * fA (mk8 85 n) h + fA 85 l := by
  unfold fA
  have e1 : (256 * h + l) / 2 &&& mk8 85 (n + 1) = 256 * (h / 2 &&& mk8 85 n) + (l / 2 &&& 85) := by
    rw [and8' (A := (256 * h + l) / 2) (a := h / 2) (r := 128 * (h % 2) + l / 2) (B := mk8 85 (n + 1)) (b' := mk8 85 n) (b := 85) (by omega) (by omega) (by omega) rfl]
    congr 1
    have := fin1 ⟨l, hl⟩ ⟨h % 2, by omega⟩
    simp only at this
    rwa [Nat.mod_eq_of_lt (by omega)] at this
  have e2 : (256 * h + l) &&& mk8 85 (n + 1) = 256 * (h &&& mk8 85 n) + (l &&& 85) := and8' hl (by omega) rfl rfl
  rw [e1, e2]
  omega

theorem fB_step (n h l : Nat) (hl : l < 256) : fB (mk8 51 (n + 1)) (256 * h + l) = 256 * fB (mk8 51 n) h + fB 51 l := by
  unfold fB
  have e1 : (256 * h + l) / 4 &&& mk8 51 (n + 1) = 256 * (h / 4 &&& mk8 51 n) + (l / 4 &&& 51) := by
    rw [and8' (A := (256 * h + l) / 4) (a := h / 4) (r := 64 * (h % 4) + l / 4) (B := mk8 51 (n + 1)) (b' := mk8 51 n) (b := 51) (by omega) (by omega) (by omega) rfl]
    congr 1
    have := fin2 ⟨l, hl⟩ ⟨h % 4, by omega⟩
    simp only at this
    rwa [Nat.mod_eq_of_lt (by omega)] at this
  have e2 : (256 * h + l) &&& mk8 51 (n + 1) = 256 * (h &&& mk8 51 n) + (l &&& 51) := and8' hl (by omega) rfl rfl
  rw [e1, e2]
  omega

def pcN (n x : Nat) : Nat := fC (mk8 15 n) (fB (mk8 51 n) (fA (mk8 85 n) x))

theorem pc_all : ∀ (n x : Nat), x < 256 ^ n → (fB (mk8 51 n) (fA (mk8 85 n) x)) % 16 ≤ 4 ∧ (∀ i, pcN n x / 256 ^ i % 256 ≤ 8) ∧ pcN n x < 256 ^ n ∧ fB (mk8 51 n) (fA (mk8 85 n) x) < 256 ^ n ∧ fA (mk8 85 n) x < 256 ^ n
  | 0, x, h => by
    have h : x < 1 := h
    obtain rfl : x = 0 := by omega
    refine ⟨by decide, fun i => ?_, by decide, by decide, by decide⟩
    rw [show pcN 0 0 = 0 from by decide, Nat.zero_div]; omega
  | n + 1, x, h => by
    obtain ⟨q, l, rfl, hl⟩ : ∃ q l, x = 256 * q + l ∧ l < 256 := ⟨x / 256, x % 256, by omega, by omega⟩
    have hq : q < 256 ^ n := by rw [Nat.pow_succ] at h; omega
    obtain ⟨i1, i2, i3, i4, i5⟩ := pc_all n q hq
    have f := fin3 ⟨l, hl⟩ ⟨(fB (mk8 51 n) (fA (mk8 85 n) q)) % 16, by omega⟩
    simp only at f
    obtain ⟨f1, f2, f3, f4, f5⟩ := f
    have eB : fB (mk8 51 (n + 1)) (fA (mk8 85 (n + 1)) (256 * q + l)) = 256 * fB (mk8 51 n) (fA (mk8 85 n) q) + fB 51 (fA 85 l) := by rw [fA_step n q l hl, fB_step n _ _ f3]
    have eC : pcN (n + 1) (256 * q + l) = 256 * pcN n q + pc8 l := by
      unfold pcN
      rw [eB]
      unfold fC
      generalize fB (mk8 51 n) (fA (mk8 85 n) q) = B at *
      generalize hbl : fB 51 (fA 85 l) = bl at *
      rw [and8' (A := (256 * B + bl) / 16 + (256 * B + bl)) (a := B / 16 + B) (r := 16 * (B % 16) + bl / 16 + bl) (B := mk8 15 (n + 1)) (b' := mk8 15 n) (b := 15) (by omega) (by omega) (by omega) rfl, f4]
    refine ⟨by rw [eB]; omega, fun i => ?_, by rw [eC, Nat.pow_succ]; omega, by rw [eB, Nat.pow_succ]; omega, by rw [fA_step n q l hl, Nat.pow_succ]; omega⟩
    rw [eC]
    cases i with
    | zero => rw [Nat.pow_zero, Nat.div_one]; omega
    | succ i =>
      have := i2 i
      rw [Nat.pow_succ, Nat.mul_comm (256 ^ i) 256, ← Nat.div_div_eq_div_mul, show (256 * pcN n q + pc8 l) / 256 = pcN n q by omega]
      exact this

def dsum : Nat → Nat → Nat
  | 0, _ => 0
  | n + 1, y => y % 256 + dsum n (y / 256)

theorem lstB_add (p : Nat → Bool) (k : Nat) : ∀ n, (lstB p (k + n)).length = (lstB p k).length + (lstB (fun j => p (j + k)) n).length
  | 0 => by simp [lstB]
  | n + 1 => by
    have ih := lstB_add p k n
    rw [← Nat.add_assoc]
    cases h : p (k + n)
    · rw [lstB_no h, lstB_no (p := fun j => p (j + k)) (by rw [Nat.add_comm]; exact h)]; exact ih
    · rw [lstB_yes h, lstB_yes (p := fun j => p (j + k)) (by rw [Nat.add_comm]; exact h)]
      simp only [List.length_append, List.length_singleton]
      omega

theorem dsum_cons {n y b : Nat} (h : b < 256) : dsum (n + 1) (256 * y + b) = b + dsum n y := by
  show (256 * y + b) % 256 + dsum n ((256 * y + b) / 256) = _
  rw [show (256 * y + b) % 256 = b by omega, show (256 * y + b) / 256 = y by omega]

theorem dsum_pc : ∀ (n x : Nat), x < 256 ^ n → dsum n (pcN n x) = (lstB (Nat.testBit x) (8 * n)).length
  | 0, x, h => rfl
  | n + 1, x, h => by
    obtain ⟨q, l, rfl, hl⟩ : ∃ q l, x = 256 * q + l ∧ l < 256 := ⟨x / 256, x % 256, by omega, by omega⟩
    have hq : q < 256 ^ n := by rw [Nat.pow_succ] at h; omega
    obtain ⟨i1, i2, i3, i4, i5⟩ := pc_all n q hq
    have f := fin3 ⟨l, hl⟩ ⟨(fB (mk8 51 n) (fA (mk8 85 n) q)) % 16, by omega⟩
    simp only at f
    obtain ⟨f1, f2, f3, f4, f5⟩ := f
    have eB : fB (mk8 51 (n + 1)) (fA (mk8 85 (n + 1)) (256 * q + l)) = 256 * fB (mk8 51 n) (fA (mk8 85 n) q) + fB 51 (fA 85 l) := by rw [fA_step n q l hl, fB_step n _ _ f3]
    have eC : pcN (n + 1) (256 * q + l) = 256 * pcN n q + pc8 l := by
      unfold pcN
      rw [eB]
      unfold fC
      generalize fB (mk8 51 n) (fA (mk8 85 n) q) = B at *
      generalize hbl : fB 51 (fA 85 l) = bl at *
      rw [and8' (A := (256 * B + bl) / 16 + (256 * B + bl)) (a := B / 16 + B) (r := 16 * (B % 16) + bl / 16 + bl) (B := mk8 15 (n + 1)) (b' := mk8 15 n) (b := 15) (by omega) (by omega) (by omega) rfl, f4]
    rw [eC, show 8 * (n + 1) = 8 + 8 * n by omega, lstB_add]
    have hlow : lstB (Nat.testBit (256 * q + l)) 8 = lstB (Nat.testBit l) 8 := lstB_congr fun j hj => by
      rw [show 256 * q + l = 2 ^ 8 * q + l by omega, Nat.testBit_two_pow_mul_add q (by simpa using hl) j, if_pos hj]
    have hhigh : (fun j => Nat.testBit (256 * q + l) (j + 8)) = Nat.testBit q := funext fun j => by
      rw [show 256 * q + l = 2 ^ 8 * q + l by omega, Nat.testBit_two_pow_mul_add q (by simpa using hl) (j + 8), if_neg (by omega), Nat.add_sub_cancel]
    rw [hlow, hhigh, ← dsum_pc n q hq]
    exact dsum_cons (by omega)

theorem sum8 {c : Nat} (h : c < 256 ^ 8) (hb : ∀ i, c / 256 ^ i % 256 ≤ 8) : ∃ c1 c2 c3, c1 = c + c / 2 ^ 8 ∧ c2 = c1 + c1 / 2 ^ 16 ∧ c3 = c2 + c2 / 2 ^ 32 ∧ c3 < 2 ^ 64 ∧ c2 < 2 ^ 64 ∧ c1 < 2 ^ 64 ∧ c3 % 128 = dsum 8 c := by
  have h0 := hb 0; have h1 := hb 1; have h2 := hb 2; have h3 := hb 3
  have h4 := hb 4; have h5 := hb 5; have h6 := hb 6; have h7 := hb 7
  have e0 : ∀ i, c / 256 ^ i = 256 * (c / 256 ^ (i + 1)) + c / 256 ^ i % 256 := fun i => by
    rw [Nat.pow_succ, ← Nat.div_div_eq_div_mul]
    omega
  have ed : ∀ i n, dsum (n + 1) (c / 256 ^ i) = c / 256 ^ i % 256 + dsum n (c / 256 ^ (i + 1)) := fun i n => by
    rw [Nat.pow_succ, ← Nat.div_div_eq_div_mul]; rfl
  have hd : dsum 8 c = c / 256 ^ 0 % 256 + (c / 256 ^ 1 % 256 + (c / 256 ^ 2 % 256 + (c / 256 ^ 3 % 256 + (c / 256 ^ 4 % 256 + (c / 256 ^ 5 % 256 + (c / 256 ^ 6 % 256 + (c / 256 ^ 7 % 256 + 0))))))) := by
    have : dsum 8 c = dsum 8 (c / 256 ^ 0) := by rw [Nat.pow_zero, Nat.div_one]
    rw [this, ed, ed, ed, ed, ed, ed, ed, ed]
    rfl
  rw [hd]
  have g0 := e0 0; have g1 := e0 1; have g2 := e0 2; have g3 := e0 3
  have g4 := e0 4; have g5 := e0 5; have g6 := e0 6; have g7 := e0 7
  have g8 : c / 256 ^ 8 = 0 := Nat.div_eq_of_lt h
  have gc : c / 256 ^ 0 = c := by rw [Nat.pow_zero, Nat.div_one]
  have e8 : c / 2 ^ 8 = c / 256 ^ 1 := rfl
  rw [e8]
  simp only [Nat.zero_add, Nat.reduceAdd] at g0 g1 g2 g3 g4 g5 g6 g7
  rw [gc] at g0 h0 ⊢
  rw [g8] at g7
  clear hb e0 ed hd gc e8 h
  generalize c % 256 = b0 at *
  generalize c / 256 ^ 1 % 256 = b1 at *
  generalize c / 256 ^ 2 % 256 = b2 at *
  generalize c / 256 ^ 3 % 256 = b3 at *
  generalize c / 256 ^ 4 % 256 = b4 at *
  generalize c / 256 ^ 5 % 256 = b5 at *
  generalize c / 256 ^ 6 % 256 = b6 at *
  generalize c / 256 ^ 7 % 256 = b7 at *
  generalize c / 256 ^ 1 = C1 at *
  generalize c / 256 ^ 2 = C2 at *
  generalize c / 256 ^ 3 = C3 at *
  generalize c / 256 ^ 4 = C4 at *
  generalize c / 256 ^ 5 = C5 at *
  generalize c / 256 ^ 6 = C6 at *
  generalize c / 256 ^ 7 = C7 at *
  clear g8
  have k2 : (c + C1) / 2 ^ 16 = C2 + C3 := by
    have : c + C1 = 65536 * (C2 + C3) + (256 * (b1 + b2) + (b0 + b1)) := by omega
    rw [this]; omega
  have k3 : (c + C1 + (C2 + C3)) / 2 ^ 32 = C4 + C5 + C6 + C7 := by
    have a0 : c = 4294967296 * C4 + (16777216 * b3 + 65536 * b2 + 256 * b1 + b0) := by omega
    have a1 : C1 = 4294967296 * C5 + (16777216 * b4 + 65536 * b3 + 256 * b2 + b1) := by clear a0 k2 g0; omega
    have a2 : C2 = 4294967296 * C6 + (16777216 * b5 + 65536 * b4 + 256 * b3 + b2) := by clear a0 a1 k2 g0 g1; omega
    have a3 : C3 = 4294967296 * C7 + (16777216 * b6 + 65536 * b5 + 256 * b4 + b3) := by clear a0 a1 a2 k2 g0 g1 g2; omega
    have e : c + C1 + (C2 + C3) = 4294967296 * (C4 + C5 + C6 + C7) + (16777216 * (b3 + b4 + b5 + b6) + 65536 * (b2 + b3 + b4 + b5) + 256 * (b1 + b2 + b3 + b4) + (b0 + b1 + b2 + b3)) := by
      clear k2 g0 g1 g2 g3 g4 g5 g6 g7
      omega
    rw [e, show (2 : Nat) ^ 32 = 4294967296 from rfl, Nat.mul_add_div (by decide), Nat.div_eq_of_lt (by clear e a0 a1 a2 a3 k2 g0 g1 g2 g3 g4 g5 g6 g7; omega), Nat.add_zero]
  refine ⟨_, _, _, rfl, rfl, rfl, ?_⟩
  rw [k2, k3]
  have k4 : c + C1 + (C2 + C3) + (C4 + C5 + C6 + C7) = 256 * (C1 + C2 + C3 + C4 + C5 + C6 + C7) + (b0 + b1 + b2 + b3 + b4 + b5 + b6 + b7) := by omega
  have hc : C7 ≤ 8 := by clear k2 k3 k4; omega
  have hc6 : C6 ≤ 2056 := by omega
  have hc5 : C5 ≤ 526344 := by omega
  have hc4 : C4 ≤ 134744072 := by omega
  have hc3 : C3 ≤ 34494482440 := by omega
  have hc2 : C2 ≤ 8830587504648 := by omega
  have hc1 : C1 ≤ 2260630401189896 := by omega
  have hc0 : c ≤ 578721382704613384 := by clear k4; omega
  clear k2 k3 g0 g1 g2 g3 g4 g5 g6 g7
  refine ⟨?_, ?_, ?_, ?_⟩
  · rw [k4]; omega
  · clear k4; omega
  · clear k4; omega
  · rw [k4]
    clear k4 hc hc1 hc2 hc3 hc4 hc5 hc6
    generalize C1 + C2 + C3 + C4 + C5 + C6 + C7 = Z
    omega
end Go.Proofs.YtcbgnicdcdfmiaaDoor
