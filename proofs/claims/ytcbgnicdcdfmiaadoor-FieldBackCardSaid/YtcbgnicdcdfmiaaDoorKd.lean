/- What texts of fields come to: numbers, values, items (plain), and spans of masks. -/
import Derived.Test.YtcbgnicdcdfmiaaDoorKc
namespace Go.Proofs.YtcbgnicdcdfmiaaDoor
open Go Go.B
set_option linter.unusedSimpArgs false
set_option linter.unusedVariables false
set_option linter.unusedSectionVars false
set_option maxRecDepth 20000

def loA (k : Nat) : Int := endsL.getD (k * 2 + 0) 0

def hiA (k : Nat) : Int := endsL.getD (k * 2 + 1) 0

def dig (b : UInt8) : Bool := decide (48 ≤ b.toNat) && decide (b.toNat ≤ 57)

def valF (n : Int) (l : List UInt8) : Int := l.foldl (fun n b => 10 * n + ((b.toNat : Int) - 48)) n

def valL (l : List UInt8) : Int := valF 0 l

def good (l : List UInt8) : Bool := decide (l.length ≤ 3) && (decide (l.length ≤ 1) || !(l.headD 0 == 48)) && l.all dig

/-- the number of a text -/
def numO (l : List UInt8) : Option Int := if l ≠ [] ∧ good l = true then some (valL l) else none

def nmT : Nat → List (List UInt8)
  | 3 => [[74, 65, 78], [70, 69, 66], [77, 65, 82], [65, 80, 82], [77, 65, 89], [74, 85, 78], [74, 85, 76], [65, 85, 71], [83, 69, 80], [79, 67, 84], [78, 79, 86], [68, 69, 67]]
  | 4 => [[83, 85, 78], [77, 79, 78], [84, 85, 69], [87, 69, 68], [84, 72, 85], [70, 82, 73], [83, 65, 84]]
  | _ => []

def fnd (u : List UInt8) : List (List UInt8) → Nat → Option Nat
  | [], _ => none
  | x :: xs, i => if u = x then some i else fnd u xs (i + 1)

def hiV (k : Nat) : Int := if k = 4 then 7 else hiA k

/-- the number of a value -/
def valO (k : Nat) (l : List UInt8) : Option Int := match fnd (l.map upB) (nmT k) 0 with
  | some i => some (loA k + i)
  | none => match numO l with
    | some n => if loA k ≤ n ∧ n ≤ hiV k then some n else none
    | none => none

def spanM (a b s : Nat) : Nat := ofM (spanL a s (b - a + 1))

/-- Sunday is 0 -/
def fixM (k m : Nat) : Nat := if k = 4 ∧ m.testBit 7 = true then (m ||| 1) &&& 127 else m

def byO (st : List UInt8) (has : Bool) : Option Int := if has then (match numO st with | some n => if 1 ≤ n ∧ n ≤ 63 then some n else none | none => none) else some 1

def runO (k : Nat) (sp : List UInt8) (has : Bool) : Option (Int × Int) :=
  if sp = [42] then some (loA k, hiA k) else
  match valO k (cutO 45 sp).1 with
  | none => none
  | some f => if (cutO 45 sp).2.2 then (match valO k (cutO 45 sp).2.1 with | some t => some (f, t) | none => none) else if has then none else some (f, f)

/-- what an item has -/
def itemO (k : Nat) (l : List UInt8) : Option Nat := match byO (cutO 47 l).2.1 (cutO 47 l).2.2 with
  | none => none
  | some by_ => match runO k (cutO 47 l).1 (cutO 47 l).2.2 with
    | none => none
    | some (f, t) => if f ≤ t then some (fixM k (spanM f.toNat t.toNat by_.toNat)) else none

def readL (k : Nat) : List (List UInt8) → Nat → Nat → Int × Int × Int
  | [], _, m => ((m : Int), 0, 0)
  | x :: xs, at_, m => match itemO k x with
    | none => (0, (at_ : Int), 160)
    | some q => readL k xs (at_ + x.length + 1) (m ||| q)

/-- the field of a text -/
def readO (k : Nat) (l : List UInt8) : Int × Int × Int := if 256 < l.length then (0, 0, 3) else readL k (splitC 44 l) 0 0

/- facts -/

theorem dig_iff {b : UInt8} : dig b = true ↔ 48 ≤ b.toNat ∧ b.toNat ≤ 57 := by simp [dig]

theorem valF_bd : ∀ (l : List UInt8) (n : Int) (p : Nat), l.all dig = true → 0 ≤ n → n < 10 ^ p → 0 ≤ valF n l ∧ valF n l < 10 ^ (p + l.length)
  | [], n, p, _, h1, h2 => ⟨h1, h2⟩
  | b :: r, n, p, h, h1, h2 => by
    rw [List.all_cons, Bool.and_eq_true] at h
    have hb := dig_iff.mp h.1
    have := valF_bd r (10 * n + ((b.toNat : Int) - 48)) (p + 1) h.2 (by omega) (by rw [Int.pow_succ]; omega)
    rw [show p + (b :: r).length = p + 1 + r.length by simp; omega]
    exact this

theorem numO_bd {l : List UInt8} {n : Int} (h : numO l = some n) : 0 ≤ n ∧ n ≤ 999 := by
  unfold numO at h
  split at h
  · rename_i hc
    obtain ⟨h0, hg⟩ := hc
    cases h
    unfold good at hg
    simp only [Bool.and_eq_true, decide_eq_true_eq] at hg
    obtain ⟨⟨g1, _⟩, g3⟩ := hg
    have := valF_bd l 0 0 g3 (by omega) (by decide)
    rw [Nat.zero_add] at this
    have hp : (10 : Int) ^ l.length ≤ 10 ^ 3 := by
      have : (10 : Nat) ^ l.length ≤ 10 ^ 3 := Nat.pow_le_pow_right (by omega) g1
      exact_mod_cast this
    unfold valL
    omega
  · cases h

theorem fnd_lt {u : List UInt8} : ∀ {l : List (List UInt8)} {i j : Nat}, fnd u l i = some j → i ≤ j ∧ j < i + l.length
  | [], i, j, h => by cases h
  | x :: xs, i, j, h => by
    unfold fnd at h
    split at h
    · cases h; simp
    · have := fnd_lt h; simp; omega

theorem nmT_len (k : Nat) (hk : k < 5) : ((nmT k).length : Int) ≤ hiA k - loA k + 1 := by
  match k, hk with
  | 0, _ | 1, _ | 2, _ | 3, _ | 4, _ => decide

theorem ends_bd (k : Nat) (hk : k < 5) : 0 ≤ loA k ∧ loA k ≤ hiA k ∧ hiA k ≤ hiV k ∧ hiV k ≤ 59 ∧ (k = 4 → hiV k ≤ 7) := by
  match k, hk with
  | 0, _ | 1, _ | 2, _ | 3, _ | 4, _ => decide

theorem valO_bd {k : Nat} (hk : k < 5) {l : List UInt8} {n : Int} (h : valO k l = some n) : loA k ≤ n ∧ n ≤ hiV k := by
  have hb := ends_bd k hk
  have hn := nmT_len k hk
  unfold valO at h
  split at h
  · rename_i i hi
    cases h
    have := fnd_lt hi
    omega
  · split at h
    · split at h
      · cases h; assumption
      · cases h
    · cases h

theorem byO_bd {st : List UInt8} {has : Bool} {n : Int} (h : byO st has = some n) : 1 ≤ n ∧ n ≤ 63 := by
  unfold byO at h
  split at h
  · split at h
    · split at h
      · cases h; assumption
      · cases h
    · cases h
  · cases h; omega

theorem runO_bd {k : Nat} (hk : k < 5) {sp : List UInt8} {has : Bool} {f t : Int} (h : runO k sp has = some (f, t)) : 0 ≤ f ∧ f ≤ hiV k ∧ 0 ≤ t ∧ t ≤ hiV k := by
  have hb := ends_bd k hk
  unfold runO at h
  split at h
  · cases h; omega
  · split at h
    · cases h
    · rename_i f' hf
      have h1 := valO_bd hk hf
      split at h
      · split at h
        · rename_i t' ht
          have h2 := valO_bd hk ht
          cases h; omega
        · cases h
      · split at h
        · cases h
        · cases h; omega

/-- a text with a dash is no value -/
theorem dash_none {k : Nat} {l : List UInt8} (h : (45 : UInt8) ∈ l) : valO k l = none := by
  have h1 : fnd (l.map upB) (nmT k) 0 = none := by
    have hm : (45 : UInt8) ∈ l.map upB := List.mem_map.mpr ⟨45, h, by decide⟩
    have : ∀ (ns : List (List UInt8)) (i : Nat), (∀ n ∈ ns, (45 : UInt8) ∉ n) → fnd (l.map upB) ns i = none := by
      intro ns
      induction ns with
      | nil => intro i _; rfl
      | cons x xs ih =>
        intro i hx
        unfold fnd
        rw [if_neg (fun e : l.map upB = x => hx x List.mem_cons_self (by rw [← e]; exact hm))]
        exact ih _ (fun n hn => hx n (List.mem_cons_of_mem _ hn))
    refine this _ 0 ?_
    unfold nmT
    split <;> decide
  have h2 : numO l = none := by
    unfold numO
    rw [if_neg]
    rintro ⟨_, hg⟩
    unfold good at hg
    simp only [Bool.and_eq_true] at hg
    have := List.all_eq_true.mp hg.2 45 h
    revert this; decide
  unfold valO
  rw [h1, h2]

/- spans -/

theorem spanL_next (a : Int) (s : Nat) (hs : 1 ≤ s) : ∀ (i j : Nat), i % s = 0 → i ≤ j → j < i + s → spanL a s (j + 1) = spanL a s (i + 1) := by
  intro i j hi
  induction j with
  | zero =>
    intro h1 _
    have : i = 0 := by omega
    rw [this]
  | succ j ih =>
    intro h1 h2
    by_cases e : i = j + 1
    · rw [e]
    · rw [← ih (by omega) (by omega)]
      conv => lhs; unfold spanL
      rw [if_neg]
      have hd : (j + 1) % s = (j + 1 - i) % s := by
        obtain ⟨q, hq⟩ : ∃ q, i = s * q := ⟨i / s, by have := Nat.div_add_mod i s; omega⟩
        rw [hq]
        rw [show j + 1 = (j + 1 - s * q) + s * q by omega, Nat.add_mul_mod_self_left]
        congr 1
        omega
      rw [hd, Nat.mod_eq_of_lt (by omega)]
      omega

theorem ofM_snoc (l : List Int) (x : Int) : ofM (l ++ [x]) = ofM l ||| 2 ^ x.toNat := by simp [ofM]

theorem ofM_lt {l : List Int} {b : Nat} (h : ∀ x ∈ l, x.toNat < b) : ofM l < 2 ^ b := by
  have : ∀ (l : List Int) (m : Nat), m < 2 ^ b → (∀ x ∈ l, x.toNat < b) → l.foldl (fun m n => m ||| 2 ^ n.toNat) m < 2 ^ b := by
    intro l
    induction l with
    | nil => intro m hm _; exact hm
    | cons x l ih =>
      intro m hm hx
      exact ih _ (Nat.or_lt_two_pow hm (Nat.pow_lt_pow_right (by omega) (hx x List.mem_cons_self))) fun y hy => hx y (List.mem_cons_of_mem _ hy)
  exact this l 0 (Nat.pow_pos (by omega)) h

theorem spanM_lt {a b s : Nat} : spanM a b s < 2 ^ (max a b + 1) := by
  refine ofM_lt fun x hx => ?_
  obtain ⟨i, h1, h2, h3⟩ := spanL_mem hx
  omega

theorem spanM_u64 {a b s : Nat} (ha : a ≤ 63) (hb : b ≤ 63) : spanM a b s < 18446744073709551616 := by
  have h := spanM_lt (a := a) (b := b) (s := s)
  have : (2 : Nat) ^ (max a b + 1) ≤ 2 ^ 64 := Nat.pow_le_pow_right (by omega) (by omega)
  have e : (2 : Nat) ^ 64 = 18446744073709551616 := by decide
  omega

theorem fix_all : ∀ m : Fin 256, m.val.testBit 7 = true → ofM ([0] ++ bitsL (m.val : Int)) = (m.val ||| 1) ∧ ((m.val ||| 1) &&& 127) + 128 = (m.val ||| 1) := by decide +kernel

theorem fix_lt {k m : Nat} (h : m < 18446744073709551616) : fixM k m < 18446744073709551616 := by
  unfold fixM
  split
  · have := Nat.and_le_right (n := m ||| 1) (m := 127); omega
  · exact h

theorem itemO_lt {k : Nat} (hk : k < 5) {l : List UInt8} {m : Nat} (h : itemO k l = some m) : m < 18446744073709551616 := by
  unfold itemO at h
  split at h
  · cases h
  · split at h
    · cases h
    · rename_i f t hr
      have hb := ends_bd k hk
      have hr := runO_bd hk hr
      split at h
      · cases h
        exact fix_lt (spanM_u64 (by omega) (by omega))
      · cases h
end Go.Proofs.YtcbgnicdcdfmiaaDoor
