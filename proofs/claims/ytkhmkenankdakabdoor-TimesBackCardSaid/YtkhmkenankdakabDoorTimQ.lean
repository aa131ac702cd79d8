/- Texts of times and their numbers: plain law. -/
import Derived.Test.YtkhmkenankdakabDoorTimP
namespace Go.Proofs.YtkhmkenankdakabDoor
open Go Go.RowKit
set_option linter.unusedSimpArgs false
set_option linter.unusedVariables false

theorem dg_of {b : UInt8} {x : Int} (hb : 48 ≤ b.toNat) (h : x = (b.toNat : Int) - 48) : dg x = b := by
  subst h
  unfold dg
  rw [show (48 + ((b.toNat : Int) - 48)).toNat = b.toNat by omega]
  exact UInt8.ofNat_toNat

theorem nm_0 (l : List UInt8) : nm l 19 0 = 10 * (10 * (10 * (10 * 0 + ((l.getD 0 0).toNat - 48)) + ((l.getD 1 0).toNat - 48)) + ((l.getD 2 0).toNat - 48)) + ((l.getD 3 0).toNat - 48) := by simp [nm, form, kk]

theorem nm_1 (l : List UInt8) : nm l 19 1 = 10 * (10 * 0 + ((l.getD 5 0).toNat - 48)) + ((l.getD 6 0).toNat - 48) := by simp [nm, form, kk]

theorem nm_2 (l : List UInt8) : nm l 19 2 = 10 * (10 * 0 + ((l.getD 8 0).toNat - 48)) + ((l.getD 9 0).toNat - 48) := by simp [nm, form, kk]

theorem nm_3 (l : List UInt8) : nm l 19 3 = 10 * (10 * 0 + ((l.getD 11 0).toNat - 48)) + ((l.getD 12 0).toNat - 48) := by simp [nm, form, kk]

theorem nm_4 (l : List UInt8) : nm l 19 4 = 10 * (10 * 0 + ((l.getD 14 0).toNat - 48)) + ((l.getD 15 0).toNat - 48) := by simp [nm, form, kk]

theorem nm_5 (l : List UInt8) : nm l 19 5 = 10 * (10 * 0 + ((l.getD 17 0).toNat - 48)) + ((l.getD 18 0).toNat - 48) := by simp [nm, form, kk]

/-- a digit's byte -/
def dgt (b : UInt8) : Prop := 48 ≤ b.toNat ∧ b.toNat ≤ 57

theorem pat_iff (l : List UInt8) : pat l 19 = true ↔ dgt (l.getD 0 0) ∧ dgt (l.getD 1 0) ∧ dgt (l.getD 2 0) ∧ dgt (l.getD 3 0) ∧ l.getD 4 0 = 45 ∧ dgt (l.getD 5 0) ∧ dgt (l.getD 6 0) ∧ l.getD 7 0 = 45 ∧ dgt (l.getD 8 0) ∧ dgt (l.getD 9 0) ∧ l.getD 10 0 = 32 ∧
    dgt (l.getD 11 0) ∧ dgt (l.getD 12 0) ∧ l.getD 13 0 = 58 ∧ dgt (l.getD 14 0) ∧ dgt (l.getD 15 0) ∧ l.getD 16 0 = 58 ∧ dgt (l.getD 17 0) ∧ dgt (l.getD 18 0) := by
  simp only [pat, okAt, form, dgt, Bool.and_eq_true, Bool.true_and]
  simp [and_assoc]

theorem digs4_of {a b c d : UInt8} (ha : dgt a) (hb : dgt b) (hc : dgt c) (hd : dgt d) {n : Int} (h : n = 10 * (10 * (10 * (10 * 0 + (a.toNat - 48)) + (b.toNat - 48)) + (c.toNat - 48)) + (d.toNat - 48)) : digs n 4 4 = [a, b, c, d] := by
  obtain ⟨a1, a2⟩ := ha
  obtain ⟨b1, b2⟩ := hb
  obtain ⟨c1, c2⟩ := hc
  obtain ⟨d1, d2⟩ := hd
  rw [digs4, dg_of (b := a) a1 (by omega), dg_of (b := b) b1 (by omega), dg_of (b := c) c1 (by omega), dg_of (b := d) d1 (by omega)]

theorem digs2_of {a b : UInt8} (ha : dgt a) (hb : dgt b) {n : Int} (h : n = 10 * (10 * 0 + (a.toNat - 48)) + (b.toNat - 48)) : digs n 2 2 = [a, b] := by
  obtain ⟨a1, a2⟩ := ha
  obtain ⟨b1, b2⟩ := hb
  rw [digs2, dg_of (b := a) a1 (by omega), dg_of (b := b) b1 (by omega)]

/-- the text of the numbers of a text is that text -/
theorem txt_nm {l : List UInt8} (hl : l.length = 19) (h : pat l 19 = true) : txtC (nm l 19 0) (nm l 19 1) (nm l 19 2) (nm l 19 3) (nm l 19 4) (nm l 19 5) = l := by
  rw [pat_iff] at h
  obtain ⟨h0, h1, h2, h3, h4, h5, h6, h7, h8, h9, h10, h11, h12, h13, h14, h15, h16, h17, h18⟩ := h
  unfold txtC
  rw [digs4_of h0 h1 h2 h3 (nm_0 l), digs2_of h5 h6 (nm_1 l), digs2_of h8 h9 (nm_2 l), digs2_of h11 h12 (nm_3 l), digs2_of h14 h15 (nm_4 l), digs2_of h17 h18 (nm_5 l)]
  clear h0 h1 h2 h3 h5 h6 h8 h9 h11 h12 h14 h15 h17 h18
  match l, hl with
  | [b0, b1, b2, b3, b4, b5, b6, b7, b8, b9, b10, b11, b12, b13, b14, b15, b16, b17, b18], _ =>
    simp only [List.getD_cons_zero, List.getD_cons_succ] at h4 h7 h10 h13 h16 ⊢
    subst h4 h7 h10 h13 h16
    simp only [List.append_assoc, List.nil_append, List.cons_append, List.append_nil]

theorem dgt_dg {d : Int} (h0 : 0 ≤ d) (h1 : d ≤ 9) : dgt (dg d) := by
  have := dg_nat h0 h1
  unfold dgt
  omega

/-- the numbers of the text of a civil time -/
theorem nm_txt {y m d a b c : Int} (h : okc y m d a b c = true) : (txtC y m d a b c).length = 19 ∧ pat (txtC y m d a b c) 19 = true ∧
    nm (txtC y m d a b c) 19 0 = y ∧ nm (txtC y m d a b c) 19 1 = m ∧ nm (txtC y m d a b c) 19 2 = d ∧ nm (txtC y m d a b c) 19 3 = a ∧ nm (txtC y m d a b c) 19 4 = b ∧ nm (txtC y m d a b c) 19 5 = c := by
  obtain ⟨o1, o2⟩ := okc_true h
  have hm := Cal.okd_month o1
  have e := (Cal.long_bd y m).2
  obtain ⟨y0, y1, d0, d1⟩ := Cal.okd_iff.mp o1
  obtain ⟨a0, a1, b0, b1, c0, c1⟩ := hmsB_iff.mp o2
  have t : txtC y m d a b c = [dg (y / 1000 % 10), dg (y / 100 % 10), dg (y / 10 % 10), dg (y / 1 % 10), 45, dg (m / 10 % 10), dg (m / 1 % 10), 45, dg (d / 10 % 10), dg (d / 1 % 10), 32, dg (a / 10 % 10), dg (a / 1 % 10), 58, dg (b / 10 % 10), dg (b / 1 % 10), 58, dg (c / 10 % 10), dg (c / 1 % 10)] := by
    simp only [txtC, digs4, digs2, List.append_assoc, List.nil_append, List.cons_append, List.append_nil]
  rw [t]
  have g : ∀ n : Int, dgt (dg (n % 10)) ∧ ((dg (n % 10)).toNat : Int) - 48 = n % 10 := fun n => ⟨dgt_dg (by omega) (by omega), by have := dg_nat (d := n % 10) (by omega) (by omega); omega⟩
  refine ⟨rfl, ?_, ?_, ?_, ?_, ?_, ?_, ?_⟩
  · rw [pat_iff]
    exact ⟨(g _).1, (g _).1, (g _).1, (g _).1, rfl, (g _).1, (g _).1, rfl, (g _).1, (g _).1, rfl, (g _).1, (g _).1, rfl, (g _).1, (g _).1, rfl, (g _).1, (g _).1⟩
  · rw [nm_0]; simp only [List.getD_cons_zero, List.getD_cons_succ, (g _).2]; omega
  · rw [nm_1]; simp only [List.getD_cons_zero, List.getD_cons_succ, (g _).2]; omega
  · rw [nm_2]; simp only [List.getD_cons_zero, List.getD_cons_succ, (g _).2]; omega
  · rw [nm_3]; simp only [List.getD_cons_zero, List.getD_cons_succ, (g _).2]; omega
  · rw [nm_4]; simp only [List.getD_cons_zero, List.getD_cons_succ, (g _).2]; omega
  · rw [nm_5]; simp only [List.getD_cons_zero, List.getD_cons_succ, (g _).2]; omega
end Go.Proofs.YtkhmkenankdakabDoor
