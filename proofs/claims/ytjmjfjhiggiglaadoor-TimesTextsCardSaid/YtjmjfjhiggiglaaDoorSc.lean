/- Texts of times: times.Text and the reference's. -/
import Derived.Test.YtjmjfjhiggiglaaDoorSb
import Derived.Test.YtjmjfjhiggiglaaDoorSa
import Derived.Test.YtjmjfjhiggiglaaDoorMu
namespace Go.Proofs.YtjmjfjhiggiglaaDoor
open Go Go.B
set_option linter.unusedSimpArgs false
set_option linter.unusedVariables false
set_option linter.unusedSectionVars false

/-- bytes as a text, as numbers -/
def bA (l : List UInt8) : ByteArray := ⟨l.toArray⟩

def bI (l : List UInt8) : List Int := l.map fun x => ((UInt8.toNat x : Nat) : Int)

theorem bA_add (l m : List UInt8) : bA l ++ bA m = bA (l ++ m) := by
  apply ByteArray.ext
  rw [ByteArray.data_append]
  simp [bA]

theorem bA_size (l : List UInt8) : (bA l).size = l.length := by simp [bA, ByteArray.size]

theorem bytesOf_bI (l : List UInt8) : bytesOf (bI l) = bA l := by
  unfold bytesOf bI bA
  congr 2
  rw [List.map_map]
  conv => rhs; rw [← List.map_id l]
  apply List.map_congr_left
  intro x _
  simp

theorem toList_loop (b : ByteArray) : ∀ (d i : Nat) (r : List UInt8), i + d = b.size → ByteArray.toList.loop b i r = r.reverse ++ b.data.toList.drop i := by
  intro d
  induction d with
  | zero =>
    intro i r h
    unfold ByteArray.toList.loop
    rw [if_neg (by omega), List.drop_eq_nil_of_le (by simp only [Array.length_toList]; show b.size ≤ i; omega), List.append_nil]
  | succ d ih =>
    intro i r h
    unfold ByteArray.toList.loop
    rw [if_pos (by omega), ih (i + 1) _ (by omega)]
    have hi : i < b.data.toList.length := by simp only [Array.length_toList]; show i < b.size; omega
    rw [List.drop_eq_getElem_cons hi, List.reverse_cons, List.append_assoc]
    congr 2
    have : b.get! i = b.data.toList[i] := by
      cases b with | mk a =>
      simp only [ByteArray.get!, Array.getElem_toList]
      exact getElem!_pos a i (by simpa using hi)
    rw [this]
    rfl

theorem toList_eq (b : ByteArray) : ByteArray.toList b = b.data.toList := by
  unfold ByteArray.toList
  rw [toList_loop b b.size 0 [] (by omega)]
  simp

theorem toList_same (a b : ByteArray) : (ByteArray.toList a == ByteArray.toList b) = decide (a = b) := by
  rw [toList_eq, toList_eq]
  by_cases h : a = b
  · subst h; simp
  · rw [decide_eq_false h]
    simp only [beq_eq_false_iff_ne, ne_eq, Array.toList_inj]
    intro e
    exact h (ByteArray.ext e)

theorem dgI (n : Int) : ((UInt8.toNat (dg (n % 10)) : Nat) : Int) = 48 + n % 10 := dg_nat (by omega) (by omega)

section
variable {a b c d e f n u : Int} {s : ByteArray} {l : List Int}

theorem tx_unit3 : times_Text_l0_L (l, a, b, c, d, e, f, n, s, 1, 3, 0) 1000 :=
  ⟨0 + 1 + 1 + 1 + 1, bYes (by decide) (bYes (by decide) (bYes (by decide) (bNo (by decide) (by decide))))⟩

theorem tx_unit1 : times_Text_l0_L (l, a, b, c, d, e, f, n, s, 1, 1, 0) 10 :=
  ⟨0 + 1 + 1, bYes (by decide) (bNo (by decide) (by decide))⟩

theorem tx_step {k : Nat} {y : List Int} (h0 : 0 ≤ n) (h1 : n ≤ 1000000) (hu : 1 ≤ u) (hu2 : u ≤ 1000) (hl : l.length ≤ 100) (h : times_Text_l1 k (l ++ [48 + n / u % 10], a, b, c, d, e, f, n, s, u / 10) y) :
    times_Text_l1 (k + 1) (l, a, b, c, d, e, f, n, s, u) y := by
  have q0 : 0 ≤ n / u := Int.ediv_nonneg h0 (by omega)
  have q1 : n / u ≤ n := Int.ediv_le_self _ h0
  have e1 : IntKind.wrap .i64 (Int.tdiv n u) = n / u := by rw [Int.tdiv_eq_ediv_of_nonneg h0]; exact wi (by omega) (by omega)
  have e2 : Int.tmod (n / u) 10 = n / u % 10 := Int.tmod_eq_emod_of_nonneg q0
  have e3 : IntKind.wrap .i64 (48 + n / u % 10) = 48 + n / u % 10 := wi (by omega) (by omega)
  have e4 : IntKind.wrap .u8 (48 + n / u % 10) = 48 + n / u % 10 := by
    simp only [IntKind.wrap, IntKind.signed, IntKind.bits]
    simp
    omega
  have e5 : IntKind.wrap .i64 (Int.tdiv u 10) = u / 10 := by rw [Int.tdiv_eq_ediv_of_nonneg (by omega)]; exact wi (by omega) (by omega)
  refine bYes (decide_eq_true (by omega)) ?_
  rw [e1, e2, e3, e4, e5]
  refine ⟨by simp; omega, ?_, h⟩
  rw [Nat.ble_eq, List.length_append]
  simp; omega

theorem tx_end : times_Text_l1 1 (l, a, b, c, d, e, f, n, s, 0) l := bNo (by decide) rfl

theorem tx_two (h0 : 0 ≤ n) (h1 : n ≤ 1000000) (hl : l.length ≤ 90) : times_Text_l1_L (l, a, b, c, d, e, f, n, s, 10) (l ++ bI (digs n 2 2)) := by
  refine ⟨_, tx_step h0 h1 (by omega) (by omega) (by omega) (tx_step (k := 1) h0 h1 (by decide) (by decide) (by simp; omega) ?_)⟩
  · have : l ++ bI (digs n 2 2) = l ++ [48 + n / 10 % 10] ++ [48 + n / (10 / 10) % 10] := by
      simp only [digs2, bI, List.map_cons, List.map_nil, dgI, List.append_assoc, List.cons_append, List.nil_append]
      rfl
    rw [this]
    exact tx_end

theorem tx_four (h0 : 0 ≤ n) (h1 : n ≤ 1000000) (hl : l.length ≤ 90) : times_Text_l1_L (l, a, b, c, d, e, f, n, s, 1000) (l ++ bI (digs n 4 4)) := by
  refine ⟨_, tx_step h0 h1 (by omega) (by omega) (by omega) (tx_step h0 h1 (by decide) (by decide) (by simp; omega) (tx_step h0 h1 (by decide) (by decide) (by simp; omega) (tx_step (k := 1) h0 h1 (by decide) (by decide) (by simp; omega) ?_)))⟩
  · have : l ++ bI (digs n 4 4) = l ++ [48 + n / 1000 % 10] ++ [48 + n / (1000 / 10) % 10] ++ [48 + n / (1000 / 10 / 10) % 10] ++ [48 + n / (1000 / 10 / 10 / 10) % 10] := by
      simp only [digs4, bI, List.map_cons, List.map_nil, dgI, List.append_assoc, List.cons_append, List.nil_append]
      rfl
    rw [this]
    exact tx_end
end
end Go.Proofs.YtjmjfjhiggiglaaDoor
