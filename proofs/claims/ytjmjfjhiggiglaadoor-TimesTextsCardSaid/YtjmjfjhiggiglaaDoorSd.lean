/- Texts of times: times.Text and the reference's. -/
import Derived.Test.YtjmjfjhiggiglaaDoorSc
namespace Go.Proofs.YtjmjfjhiggiglaaDoor
open Go Go.B
set_option linter.unusedSimpArgs false
set_option linter.unusedVariables false
set_option linter.unusedSectionVars false

theorem bI_len (l : List UInt8) : (bI l).length = l.length := by simp [bI]

theorem dig_len (n : Int) (D k : Nat) : (digs n D k).length = k := by simp [digs]

theorem len_ok {l : List Int} (h : l.length ≤ 100) : Nat.ble (l.length * 2) 140737488355328 = true := by rw [Nat.ble_eq]; omega

theorem tx_loop {y m d a b c : Int} (y0 : 0 ≤ y) (y1 : y ≤ 1000000) (m0 : 0 ≤ m) (m1 : m ≤ 1000000) (d0 : 0 ≤ d) (d1 : d ≤ 1000000) (a0 : 0 ≤ a) (a1 : a ≤ 1000000) (b0 : 0 ≤ b) (b1 : b ≤ 1000000) (c0 : 0 ≤ c) (c1 : c ≤ 1000000) :
    times_Text_l2_L ([], y, m, d, a, b, c, 0) (bI (txtC y m d a b c)) := by
  refine ⟨0 + 1 + 1 + 1 + 1 + 1 + 1 + 1,
    bYes (by decide) (bYes (by decide) ⟨_, tx_unit3, _, tx_four y0 y1 ?_, len_ok ?_,
    bYes (by decide) (bNo (by decide) (bYes (by decide) ⟨_, tx_unit1, _, tx_two m0 m1 ?_, len_ok ?_,
    bYes (by decide) (bNo (by decide) (bNo (by decide) (bYes (by decide) ⟨_, tx_unit1, _, tx_two d0 d1 ?_, len_ok ?_,
    bYes (by decide) (bNo (by decide) (bNo (by decide) (bNo (by decide) (bYes (by decide) ⟨_, tx_unit1, _, tx_two a0 a1 ?_, len_ok ?_,
    bYes (by decide) (bNo (by decide) (bNo (by decide) (bNo (by decide) (bNo (by decide) (bYes (by decide) ⟨_, tx_unit1, _, tx_two b0 b1 ?_, len_ok ?_,
    bYes (by decide) (bNo (by decide) (bNo (by decide) (bNo (by decide) (bNo (by decide) (bNo (by decide) (bYes (by decide) ⟨_, tx_unit1, _, tx_two c0 c1 ?_, len_ok ?_,
    bNo (by decide) ?_⟩))))))⟩)))))⟩))))⟩)))⟩))⟩)⟩
  all_goals first | (simp [bI_len, dig_len]; done) | skip
  simp only [txtC, bI, List.map_append]
  rfl

/-- the text of a time -/
noncomputable def txtT (t : Int) : List UInt8 := txtC (Cal.dat (t / 86400)).1 (Cal.dat (t / 86400)).2.1 (Cal.dat (t / 86400)).2.2 (t % 86400 / 3600) (t % 86400 % 3600 / 60) (t % 86400 % 60)

theorem dat_bd {t : Int} (h : mayT t = true) : Cal.okd (Cal.dat (t / 86400)).1 (Cal.dat (t / 86400)).2.1 (Cal.dat (t / 86400)).2.2 = true ∧ Cal.num (Cal.dat (t / 86400)).1 (Cal.dat (t / 86400)).2.1 (Cal.dat (t / 86400)).2.2 = t / 86400 := by
  obtain ⟨h0, h1⟩ := mayT_true h
  exact Cal.dat_ok _ (by omega) (by omega)

theorem times_At_no {t : Int} (h : mayT t = false) : times_At_R t ((0, 0, 0, 0, 0, 0), 2) := ⟨_, times_May_fn t, bYes (by rw [h]; rfl) rfl⟩

theorem times_Text_no {t : Int} (h : mayT t = false) : times_Text_R t (⟨#[]⟩, 2) := ⟨_, times_At_no h, bYes rfl rfl⟩

theorem times_Text_fn {t : Int} (h : mayT t = true) : times_Text_R t (bA (txtT t), 0) := by
  obtain ⟨h0, h1⟩ := mayT_true h
  obtain ⟨k, _⟩ := dat_bd h
  have hm := Cal.okd_month k
  have hl := Cal.long_bd (Cal.dat (t / 86400)).1 (Cal.dat (t / 86400)).2.1
  obtain ⟨k1, k2, k3, k4⟩ := Cal.okd_iff.mp k
  have L : times_Text_l2_L ([], (Cal.dat (t / 86400)).1, (Cal.dat (t / 86400)).2.1, (Cal.dat (t / 86400)).2.2, t % 86400 / 3600, t % 86400 % 3600 / 60, t % 86400 % 60, 0) (bI (txtT t)) :=
    tx_loop (by omega) (by omega) (by omega) (by omega) (by omega) (by omega) (by omega) (by omega) (by omega) (by omega) (by omega) (by omega)
  exact ⟨_, times_At_fn h, bNo rfl ⟨_, L, by rw [bytesOf_bI]⟩⟩

-- the reference's

theorem dg_cut {d : Int} (h0 : 0 ≤ d) (h1 : d ≤ 9) : ByteArray.extract (⟨#[48, 49, 50, 51, 52, 53, 54, 55, 56, 57]⟩ : ByteArray) (Int.toNat d) (Int.toNat (d + 1)) = bA [dg d] := by
  have : d = 0 ∨ d = 1 ∨ d = 2 ∨ d = 3 ∨ d = 4 ∨ d = 5 ∨ d = 6 ∨ d = 7 ∨ d = 8 ∨ d = 9 := by omega
  rcases this with rfl | rfl | rfl | rfl | rfl | rfl | rfl | rfl | rfl | rfl <;> rfl

theorem rdg_step {n many i : Int} {l : List UInt8} {k : Nat} {y : ByteArray} (h0 : 0 ≤ n) (h1 : n ≤ 1000000) (hi : decide (i < many) = true) (hl : l.length ≤ 100)
    (h : curfewref05_digits_l0 k (n / 10, bA (dg (n % 10) :: l), many, IntKind.wrap .i64 (i + 1)) y) : curfewref05_digits_l0 (k + 1) (n, bA l, many, i) y := by
  have e1 : Int.tmod n 10 = n % 10 := Int.tmod_eq_emod_of_nonneg h0
  have e2 : IntKind.wrap .i64 (n % 10 + 1) = n % 10 + 1 := wi (by omega) (by omega)
  have e3 : IntKind.wrap .i64 (Int.tdiv n 10) = n / 10 := by rw [Int.tdiv_eq_ediv_of_nonneg h0]; exact wi (by omega) (by omega)
  refine bYes hi ?_
  rw [e1, e2, e3, dg_cut (by omega) (by omega), bA_add]
  refine ⟨?_, ?_, h⟩
  · rw [decide_eq_true (show 0 ≤ n % 10 + 1 by omega), decide_eq_true (show 0 ≤ n % 10 by omega)]
    simp only [Bool.true_and, Bool.and_true, Bool.and_eq_true, Nat.ble_eq]
    omega
  · rw [bA_size, bA_size]
    exact decide_eq_true (by simp; omega)

theorem rdg_two {n : Int} (h0 : 0 ≤ n) (h1 : n ≤ 1000000) : curfewref05_digits_R n 2 (bA (digs n 2 2)) := by
  refine ⟨_, ⟨_, rdg_step (l := []) h0 h1 (by decide) (by decide) (rdg_step (k := 1) (by omega) (by omega) (by decide) (by simp) (bNo (by decide) rfl))⟩, ?_⟩
  rw [digs2, show n / 1 = n by omega]

theorem rdg_four {n : Int} (h0 : 0 ≤ n) (h1 : n ≤ 1000000) : curfewref05_digits_R n 4 (bA (digs n 4 4)) := by
  refine ⟨_, ⟨_, rdg_step (l := []) h0 h1 (by decide) (by decide) (rdg_step (by omega) (by omega) (by decide) (by simp) (rdg_step (by omega) (by omega) (by decide) (by simp) (rdg_step (k := 1) (by omega) (by omega) (by decide) (by simp) (bNo (by decide) rfl))))⟩, ?_⟩
  rw [digs4, show n / 1 = n by omega, show n / 10 / 10 = n / 100 by omega, show n / 100 / 10 = n / 1000 by omega]

theorem r5At_fn {t : Int} (h : mayT t = true) : curfewref05_At_R t ((Cal.dat (t / 86400)).1, (Cal.dat (t / 86400)).2.1, (Cal.dat (t / 86400)).2.2, t % 86400 / 3600, t % 86400 % 3600 / 60, t % 86400 % 60) := by
  obtain ⟨h0, h1⟩ := mayT_true h
  have e1 : IntKind.wrap .i64 (Int.tdiv t 3600) = t / 3600 := by rw [Int.tdiv_eq_ediv_of_nonneg h0]; exact wi (by omega) (by omega)
  have e2 : IntKind.wrap .i64 (Int.tdiv (t / 3600) 24) = t / 86400 := by rw [Int.tdiv_eq_ediv_of_nonneg (by omega)]; rw [wi (by omega) (by omega)]; omega
  have e3 : IntKind.wrap .i64 (Int.tdiv t 60) = t / 60 := by rw [Int.tdiv_eq_ediv_of_nonneg h0]; exact wi (by omega) (by omega)
  have e4 : Int.tmod (t / 3600) 24 = t % 86400 / 3600 := by rw [Int.tmod_eq_emod_of_nonneg (by omega)]; omega
  have e5 : Int.tmod (t / 60) 60 = t % 86400 % 3600 / 60 := by rw [Int.tmod_eq_emod_of_nonneg (by omega)]; omega
  have e6 : Int.tmod t 60 = t % 86400 % 60 := by rw [Int.tmod_eq_emod_of_nonneg h0]; omega
  unfold curfewref05_At_R
  rw [e1, e2, e3, e4, e5, e6]
  exact ⟨_, r4At_fn (by simp [dayB]; omega), rfl⟩

theorem sz_ok {l m : List UInt8} (h : l.length + m.length ≤ 100) : decide (ByteArray.size (bA l) + ByteArray.size (bA m) ≤ 9223372036854775807) = true := by
  rw [bA_size, bA_size]; exact decide_eq_true (by omega)

theorem rtext_fn {y m d a b c t : Int} (y0 : 0 ≤ y) (y1 : y ≤ 1000000) (m0 : 0 ≤ m) (m1 : m ≤ 1000000) (d0 : 0 ≤ d) (d1 : d ≤ 1000000) (a0 : 0 ≤ a) (a1 : a ≤ 1000000) (b0 : 0 ≤ b) (b1 : b ≤ 1000000) (c0 : 0 ≤ c) (c1 : c ≤ 1000000)
    (h : curfewref05_At_R t (y, m, d, a, b, c)) : curfewref05_Text_R t (bA (txtC y m d a b c)) := by
  have s45 : (⟨#[45]⟩ : ByteArray) = bA [45] := rfl
  have s32 : (⟨#[32]⟩ : ByteArray) = bA [32] := rfl
  have s58 : (⟨#[58]⟩ : ByteArray) = bA [58] := rfl
  unfold curfewref05_Text_R
  rw [s45, s32, s58]
  refine ⟨_, h, _, rdg_four y0 y1, ?_⟩
  rw [bA_add]
  refine ⟨sz_ok (by simp [dig_len]), _, rdg_two m0 m1, ?_⟩
  rw [bA_add, bA_add]
  refine ⟨sz_ok (by simp [dig_len]), sz_ok (by simp [dig_len]), _, rdg_two d0 d1, ?_⟩
  rw [bA_add, bA_add]
  refine ⟨sz_ok (by simp [dig_len]), sz_ok (by simp [dig_len]), _, rdg_two a0 a1, ?_⟩
  rw [bA_add, bA_add]
  refine ⟨sz_ok (by simp [dig_len]), sz_ok (by simp [dig_len]), _, rdg_two b0 b1, ?_⟩
  rw [bA_add, bA_add]
  refine ⟨sz_ok (by simp [dig_len]), sz_ok (by simp [dig_len]), _, rdg_two c0 c1, ?_⟩
  rw [bA_add]
  refine ⟨sz_ok (by simp [dig_len]), ?_⟩
  simp only [txtC, List.nil_append, List.append_nil]

theorem r5Text_fn {t : Int} (h : mayT t = true) : curfewref05_Text_R t (bA (txtT t)) := by
  obtain ⟨h0, h1⟩ := mayT_true h
  obtain ⟨k, _⟩ := dat_bd h
  have hm := Cal.okd_month k
  have hl := Cal.long_bd (Cal.dat (t / 86400)).1 (Cal.dat (t / 86400)).2.1
  obtain ⟨k1, k2, k3, k4⟩ := Cal.okd_iff.mp k
  exact rtext_fn (by omega) (by omega) (by omega) (by omega) (by omega) (by omega) (by omega) (by omega) (by omega) (by omega) (by omega) (by omega) (r5At_fn h)

theorem r5Time_fn (t : Int) : curfewref05_Time_R t (mayT t) := by
  unfold curfewref05_Time_R mayT
  by_cases h : (0 : Int) ≤ t
  · exact bYes (decide_eq_true h) (by rw [decide_eq_true h, Bool.true_and])
  · exact bNo (decide_eq_false h) (by rw [decide_eq_false h, Bool.false_and])
end Go.Proofs.YtjmjfjhiggiglaaDoor
