/- Texts of times, and times of texts: plain law. -/
import Derived.Test.YtjmjfjhiggiglaaDoorCal
import Derived.Test.YtjmjfjhiggiglaaDoorUt
namespace Go.Proofs.YtjmjfjhiggiglaaDoor
open Go Go.B
set_option linter.unusedSimpArgs false
set_option linter.unusedVariables false
set_option linter.unusedSectionVars false

/-- hours, minutes and seconds that may be -/
def hmsB (a b c : Int) : Bool := decide (0 ≤ a ∧ a < 24 ∧ 0 ≤ b ∧ b < 60 ∧ 0 ≤ c ∧ c < 60)

theorem hmsB_iff {a b c : Int} : hmsB a b c = true ↔ 0 ≤ a ∧ a < 24 ∧ 0 ≤ b ∧ b < 60 ∧ 0 ≤ c ∧ c < 60 := by simp [hmsB]

theorem hmsB_no {a b c : Int} (h : ¬ (0 ≤ a ∧ a < 24 ∧ 0 ≤ b ∧ b < 60 ∧ 0 ≤ c ∧ c < 60)) : hmsB a b c = false := by simp only [hmsB]; exact decide_eq_false h

/-- may a civil time be? -/
def okc (y m d a b c : Int) : Bool := Cal.okd y m d && hmsB a b c

/-- a civil time's time -/
def tim (y m d a b c : Int) : Int := Cal.num y m d * 86400 + a * 3600 + b * 60 + c

theorem okc_true {y m d a b c : Int} (h : okc y m d a b c = true) : Cal.okd y m d = true ∧ hmsB a b c = true := by simpa [okc] using h

theorem tim_bd {y m d a b c : Int} (h : okc y m d a b c = true) : 0 ≤ tim y m d a b c ∧ tim y m d a b c ≤ 253402300799 := by
  obtain ⟨h1, h2⟩ := okc_true h
  have := Cal.num_bd h1
  have := hmsB_iff.mp h2
  unfold tim; omega

theorem tim_day {y m d a b c : Int} (h : okc y m d a b c = true) : tim y m d a b c / 86400 = Cal.num y m d ∧ tim y m d a b c % 86400 = a * 3600 + b * 60 + c := by
  obtain ⟨h1, h2⟩ := okc_true h
  have := Cal.num_bd h1
  have := hmsB_iff.mp h2
  unfold tim; omega

theorem tim_hms {y m d a b c : Int} (h : okc y m d a b c = true) : tim y m d a b c % 86400 / 3600 = a ∧ tim y m d a b c % 86400 % 3600 / 60 = b ∧ tim y m d a b c % 86400 % 60 = c := by
  obtain ⟨h1, h2⟩ := okc_true h
  have := hmsB_iff.mp h2
  have e := (tim_day h).2
  rw [e]; omega

/-- a digit's byte -/
def dg (n : Int) : UInt8 := UInt8.ofNat (48 + n).toNat

/-- the units, the greatest first -/
def unit (D k : Nat) : Int := if D = 2 then [10, 1, 0].getD k 0 else [1000, 100, 10, 1, 0].getD k 0

/-- the first k digits of D -/
def digs (n : Int) (D k : Nat) : List UInt8 := (List.range k).map fun i => dg (n / unit D i % 10)

theorem dg_nat {d : Int} (h0 : 0 ≤ d) (h1 : d ≤ 9) : ((dg d).toNat : Int) = 48 + d := by
  unfold dg
  simp only [UInt8.toNat_ofNat']
  omega

theorem digs4 (n : Int) : digs n 4 4 = [dg (n / 1000 % 10), dg (n / 100 % 10), dg (n / 10 % 10), dg (n / 1 % 10)] := rfl

theorem digs2 (n : Int) : digs n 2 2 = [dg (n / 10 % 10), dg (n / 1 % 10)] := rfl

/-- the text of a civil time -/
def txtC (y m d a b c : Int) : List UInt8 :=
  [] ++ digs y 4 4 ++ [45] ++ digs m 2 2 ++ [45] ++ digs d 2 2 ++ [32] ++ digs a 2 2 ++ [58] ++ digs b 2 2 ++ [58] ++ digs c 2 2 ++ []

/-- a time's text, digits as noughts -/
def form : List UInt8 := [48, 48, 48, 48, 45, 48, 48, 45, 48, 48, 32, 48, 48, 58, 48, 48, 58, 48, 48]

/-- how many marks stand ahead of place i -/
def kk (i : Nat) : Nat := [0, 0, 0, 0, 0, 1, 1, 1, 2, 2, 2, 3, 3, 3, 4, 4, 4, 5, 5, 5].getD i 0

/-- byte i fits the form -/
def okAt (l : List UInt8) (i : Nat) : Bool := if form.getD i 0 = 48 then decide (48 ≤ (l.getD i 0).toNat ∧ (l.getD i 0).toNat ≤ 57) else l.getD i 0 == form.getD i 0

/-- the first i bytes fit the form -/
def pat (l : List UInt8) : Nat → Bool
  | 0 => true
  | i + 1 => pat l i && okAt l i

/-- number j of the first i bytes -/
def nm (l : List UInt8) : Nat → Nat → Int
  | 0, _ => 0
  | i + 1, j => if form.getD i 0 = 48 ∧ kk i = j then 10 * nm l i j + ((l.getD i 0).toNat - 48) else nm l i j

def bdn : Nat → Nat → Int
  | 0, _ => 0
  | i + 1, j => if form.getD i 0 = 48 ∧ kk i = j then 10 * bdn i j + 9 else bdn i j

theorem nm_bd (l : List UInt8) : ∀ (i j : Nat), pat l i = true → 0 ≤ nm l i j ∧ nm l i j ≤ bdn i j
  | 0, j, _ => ⟨Int.le_refl _, Int.le_refl _⟩
  | i + 1, j, h => by
    have h' : (pat l i && okAt l i) = true := h
    simp only [Bool.and_eq_true] at h'
    obtain ⟨h1, h2⟩ := h'
    have k := nm_bd l i j h1
    unfold nm bdn
    by_cases g : form.getD i 0 = 48 ∧ kk i = j
    · rw [if_pos g, if_pos g]
      unfold okAt at h2
      rw [if_pos g.1] at h2
      have := of_decide_eq_true h2
      omega
    · rw [if_neg g, if_neg g]; exact k

theorem bdn_bd : ∀ i, i < 20 → ∀ j, j < 6 → bdn i j ≤ 9999 := by decide +kernel

theorem nm_le {l : List UInt8} {i j : Nat} (h : pat l i = true) (hi : i ≤ 19) (hj : j < 6) : 0 ≤ nm l i j ∧ nm l i j ≤ 9999 := by
  have a := nm_bd l i j h
  have b := bdn_bd i (by omega) j hj
  omega

theorem kk_lt : ∀ i, i < 20 → kk i < 6 := by decide +kernel

theorem kk_succ : ∀ i, i < 19 → kk (i + 1) = if form.getD i 0 = 48 then kk i else kk i + 1 := by decide +kernel

theorem form_bd : ∀ i, i < 19 → form.getD i 0 = 48 ∨ form.getD i 0 = 45 ∨ form.getD i 0 = 32 ∨ form.getD i 0 = 58 := by decide +kernel

theorem pat_bad {l : List UInt8} {n : Nat} (h : okAt l n = false) : ∀ k, pat l (n + 1 + k) = false
  | 0 => by show (pat l n && okAt l n) = false; rw [h]; simp
  | k + 1 => by show (pat l (n + 1 + k) && okAt l (n + 1 + k)) = false; rw [pat_bad h k]; rfl

theorem pat_bad19 {l : List UInt8} {n : Nat} (h : okAt l n = false) (hn : n < 19) : pat l 19 = false := by
  have := pat_bad h (18 - n)
  rw [show n + 1 + (18 - n) = 19 by omega] at this
  exact this

theorem dg_of {b : UInt8} {x : Int} (hb : 48 ≤ b.toNat) (h : x = (b.toNat : Int) - 48) : dg x = b := by
  subst h
  unfold dg
  rw [show (48 + ((b.toNat : Int) - 48)).toNat = b.toNat by omega]
  exact UInt8.ofNat_toNat

theorem nm_0 (l : List UInt8) : nm l 19 0 = 10 * (10 * (10 * (10 * 0 + ((l.getD 0 0).toNat - 48)) + ((l.getD 1 0).toNat - 48)) + ((l.getD 2 0).toNat - 48)) + ((l.getD 3 0).toNat - 48) := by simp [nm, form, kk]

theorem nm_1 (l : List UInt8) : nm l 19 1 = 10 * (10 * 0 + ((l.getD 5 0).toNat - 48)) + ((l.getD 6 0).toNat - 48) := by simp [nm, form, kk]

theorem nm_2 (l : List UInt8) : nm l 19 2 = 10 * (10 * 0 + ((l.getD 8 0).toNat - 48)) + ((l.getD 9 0).toNat - 48) := by simp [nm, form, kk]

theorem nm_3 (l : List UInt8) : nm l 19 3 = 10 * (10 * 0 + ((l.getD 11 0).toNat - 48)) + ((l.getD 12 0).toNat - 48) := by simp [nm, form, kk]

theorem nm_4 (l : List UInt8) : nm l 19 4 = 10 * (10 * 0 + ((l.getD 14 0).toNat - 48)) + ((l.getD 15 0).toNat - 48) := by simp [nm, form, kk]

theorem nm_5 (l : List UInt8) : nm l 19 5 = 10 * (10 * 0 + ((l.getD 17 0).toNat - 48)) + ((l.getD 18 0).toNat - 48) := by simp [nm, form, kk]

/-- a digit's byte -/
def dgt (b : UInt8) : Prop := 48 ≤ b.toNat ∧ b.toNat ≤ 57

theorem pat_iff (l : List UInt8) : pat l 19 = true ↔ dgt (l.getD 0 0) ∧ dgt (l.getD 1 0) ∧ dgt (l.getD 2 0) ∧ dgt (l.getD 3 0) ∧ l.getD 4 0 = 45 ∧ dgt (l.getD 5 0) ∧ dgt (l.getD 6 0) ∧ l.getD 7 0 = 45 ∧ dgt (l.getD 8 0) ∧ dgt (l.getD 9 0) ∧ l.getD 10 0 = 32 ∧
    dgt (l.getD 11 0) ∧ dgt (l.getD 12 0) ∧ l.getD 13 0 = 58 ∧ dgt (l.getD 14 0) ∧ dgt (l.getD 15 0) ∧ l.getD 16 0 = 58 ∧ dgt (l.getD 17 0) ∧ dgt (l.getD 18 0) := by
  simp only [pat, okAt, form, dgt, Bool.and_eq_true, Bool.true_and]
  simp [and_assoc]

theorem digs4_of {a b c d : UInt8} (ha : dgt a) (hb : dgt b) (hc : dgt c) (hd : dgt d) {n : Int} (h : n = 10 * (10 * (10 * (10 * 0 + (a.toNat - 48)) + (b.toNat - 48)) + (c.toNat - 48)) + (d.toNat - 48)) : digs n 4 4 = [a, b, c, d] := by
  obtain ⟨a1, a2⟩ := ha
  obtain ⟨b1, b2⟩ := hb
  obtain ⟨c1, c2⟩ := hc
  obtain ⟨d1, d2⟩ := hd
  rw [digs4, dg_of (b := a) a1 (by omega), dg_of (b := b) b1 (by omega), dg_of (b := c) c1 (by omega), dg_of (b := d) d1 (by omega)]

theorem digs2_of {a b : UInt8} (ha : dgt a) (hb : dgt b) {n : Int} (h : n = 10 * (10 * 0 + (a.toNat - 48)) + (b.toNat - 48)) : digs n 2 2 = [a, b] := by
  obtain ⟨a1, a2⟩ := ha
  obtain ⟨b1, b2⟩ := hb
  rw [digs2, dg_of (b := a) a1 (by omega), dg_of (b := b) b1 (by omega)]

/-- the text of the numbers of a text is that text -/
theorem txt_nm {l : List UInt8} (hl : l.length = 19) (h : pat l 19 = true) : txtC (nm l 19 0) (nm l 19 1) (nm l 19 2) (nm l 19 3) (nm l 19 4) (nm l 19 5) = l := by
  rw [pat_iff] at h
  obtain ⟨h0, h1, h2, h3, h4, h5, h6, h7, h8, h9, h10, h11, h12, h13, h14, h15, h16, h17, h18⟩ := h
  unfold txtC
  rw [digs4_of h0 h1 h2 h3 (nm_0 l), digs2_of h5 h6 (nm_1 l), digs2_of h8 h9 (nm_2 l), digs2_of h11 h12 (nm_3 l), digs2_of h14 h15 (nm_4 l), digs2_of h17 h18 (nm_5 l)]
  clear h0 h1 h2 h3 h5 h6 h8 h9 h11 h12 h14 h15 h17 h18
  match l, hl with
  | [b0, b1, b2, b3, b4, b5, b6, b7, b8, b9, b10, b11, b12, b13, b14, b15, b16, b17, b18], _ =>
    simp only [List.getD_cons_zero, List.getD_cons_succ] at h4 h7 h10 h13 h16 ⊢
    subst h4 h7 h10 h13 h16
    simp only [List.append_assoc, List.nil_append, List.cons_append, List.append_nil]

theorem dgt_dg {d : Int} (h0 : 0 ≤ d) (h1 : d ≤ 9) : dgt (dg d) := by
  have := dg_nat h0 h1
  unfold dgt
  omega

/-- the numbers of the text of a civil time -/
theorem nm_txt {y m d a b c : Int} (h : okc y m d a b c = true) : (txtC y m d a b c).length = 19 ∧ pat (txtC y m d a b c) 19 = true ∧
    nm (txtC y m d a b c) 19 0 = y ∧ nm (txtC y m d a b c) 19 1 = m ∧ nm (txtC y m d a b c) 19 2 = d ∧ nm (txtC y m d a b c) 19 3 = a ∧ nm (txtC y m d a b c) 19 4 = b ∧ nm (txtC y m d a b c) 19 5 = c := by
  obtain ⟨o1, o2⟩ := okc_true h
  have hm := Cal.okd_month o1
  have e := (Cal.long_bd y m).2
  obtain ⟨y0, y1, d0, d1⟩ := Cal.okd_iff.mp o1
  obtain ⟨a0, a1, b0, b1, c0, c1⟩ := hmsB_iff.mp o2
  have t : txtC y m d a b c = [dg (y / 1000 % 10), dg (y / 100 % 10), dg (y / 10 % 10), dg (y / 1 % 10), 45, dg (m / 10 % 10), dg (m / 1 % 10), 45, dg (d / 10 % 10), dg (d / 1 % 10), 32, dg (a / 10 % 10), dg (a / 1 % 10), 58, dg (b / 10 % 10), dg (b / 1 % 10), 58, dg (c / 10 % 10), dg (c / 1 % 10)] := by
    simp only [txtC, digs4, digs2, List.append_assoc, List.nil_append, List.cons_append, List.append_nil]
  rw [t]
  have g : ∀ n : Int, dgt (dg (n % 10)) ∧ ((dg (n % 10)).toNat : Int) - 48 = n % 10 := fun n => ⟨dgt_dg (by omega) (by omega), by have := dg_nat (d := n % 10) (by omega) (by omega); omega⟩
  refine ⟨rfl, ?_, ?_, ?_, ?_, ?_, ?_, ?_⟩
  · rw [pat_iff]
    exact ⟨(g _).1, (g _).1, (g _).1, (g _).1, rfl, (g _).1, (g _).1, rfl, (g _).1, (g _).1, rfl, (g _).1, (g _).1, rfl, (g _).1, (g _).1, rfl, (g _).1, (g _).1⟩
  · rw [nm_0]; simp only [List.getD_cons_zero, List.getD_cons_succ, (g _).2]; omega
  · rw [nm_1]; simp only [List.getD_cons_zero, List.getD_cons_succ, (g _).2]; omega
  · rw [nm_2]; simp only [List.getD_cons_zero, List.getD_cons_succ, (g _).2]; omega
  · rw [nm_3]; simp only [List.getD_cons_zero, List.getD_cons_succ, (g _).2]; omega
  · rw [nm_4]; simp only [List.getD_cons_zero, List.getD_cons_succ, (g _).2]; omega
  · rw [nm_5]; simp only [List.getD_cons_zero, List.getD_cons_succ, (g _).2]; omega
end Go.Proofs.YtjmjfjhiggiglaaDoor
