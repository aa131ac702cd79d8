/- The reference's texts that are read. -/
import Derived.Test.YtjmjfjhiggiglaaDoorSe
namespace Go.Proofs.YtjmjfjhiggiglaaDoor
open Go Go.B
set_option linter.unusedSimpArgs false
set_option linter.unusedVariables false
set_option linter.unusedSectionVars false

instance (b : UInt8) : Decidable (dgt b) := by unfold dgt; infer_instance

theorem rv_step {l : List UInt8} {acc : Int} {i k : Nat} {r : curfewref05_value_l0_Y} (hi : i < l.length) (hl : l.length ≤ 100) (h0 : 0 ≤ acc) (h1 : acc ≤ 1000) (hd : dgt (l.getD i 0))
    (h : curfewref05_value_l0 k (bA l, 10 * acc + ((l.getD i 0).toNat - 48), (l.length : Int), ((i + 1 : Nat) : Int)) r) : curfewref05_value_l0 (k + 1) (bA l, acc, (l.length : Int), (i : Int)) r := by
  obtain ⟨d1, d2⟩ := hd
  have ix : ((decide (0 ≤ ((i : Nat) : Int))) && (decide (((i : Nat) : Int) < ((ByteArray.size (bA l) : Nat) : Int)))) = true := by rw [bA_size]; exact ix_ok hi
  refine bYes (decide_eq_true (by omega)) ⟨ix, ?_⟩
  rw [Int.toNat_natCast]
  refine bNo (decide_eq_false ?_) ⟨ix, bNo (decide_eq_false ?_) ⟨ix, ?_⟩⟩
  · show ¬ (((l.getD i 0).toNat : Nat) : Int) < 48
    omega
  · show ¬ (((l.getD i 0).toNat : Nat) : Int) > 57
    omega
  · show curfewref05_value_l0 k (bA l, IntKind.wrap .i64 (IntKind.wrap .i64 (10 * acc) + IntKind.wrap .i64 (IntKind.wrap .u8 ((((l.getD i 0).toNat : Nat) : Int) - 48))), (l.length : Int), IntKind.wrap .i64 ((i : Int) + 1)) r
    rw [wu8 (by omega) (by omega), wi (x := 10 * acc) (by omega) (by omega), wi (x := (((l.getD i 0).toNat : Nat) : Int) - 48) (by omega) (by omega), wi (x := 10 * acc + ((((l.getD i 0).toNat : Nat) : Int) - 48)) (by omega) (by omega), wi_succ (by omega)]
    exact h

theorem rv_bad {l : List UInt8} {acc : Int} {i : Nat} (hi : i < l.length) (hd : ¬ dgt (l.getD i 0)) : curfewref05_value_l0 1 (bA l, acc, (l.length : Int), (i : Int)) (Sum.inl ()) := by
  have ix : ((decide (0 ≤ ((i : Nat) : Int))) && (decide (((i : Nat) : Int) < ((ByteArray.size (bA l) : Nat) : Int)))) = true := by rw [bA_size]; exact ix_ok hi
  refine bYes (decide_eq_true (by omega)) ⟨ix, ?_⟩
  rw [Int.toNat_natCast]
  by_cases h : (l.getD i 0).toNat < 48
  · refine bYes (decide_eq_true ?_) rfl
    show (((l.getD i 0).toNat : Nat) : Int) < 48
    omega
  · have h2 : 57 < (l.getD i 0).toNat := by unfold dgt at hd; omega
    refine bNo (decide_eq_false ?_) ⟨ix, bYes (decide_eq_true ?_) rfl⟩
    · show ¬ (((l.getD i 0).toNat : Nat) : Int) < 48
      omega
    · show (((l.getD i 0).toNat : Nat) : Int) > 57
      omega

theorem rv_end {l : List UInt8} {acc : Int} {i : Nat} (hi : i = l.length) : curfewref05_value_l0 1 (bA l, acc, (l.length : Int), (i : Int)) (Sum.inr acc) :=
  bNo (decide_eq_false (by omega)) rfl

theorem rv_of {l : List UInt8} {k : Nat} {r : curfewref05_value_l0_Y} (h : curfewref05_value_l0 k (bA l, 0, (l.length : Int), ((0 : Nat) : Int)) r) : curfewref05_value_l0_L (bA l, 0, ((ByteArray.size (bA l) : Nat) : Int), 0) r := by
  rw [bA_size]; exact ⟨k, h⟩

theorem rv2_yes {x y : UInt8} (hx : dgt x) (hy : dgt y) : curfewref05_value_R (bA [x, y]) (10 * (10 * 0 + (x.toNat - 48)) + (y.toNat - 48), true) := by
  have q := hx.2
  have q' := hx.1
  exact ⟨_, rv_of (rv_step (l := [x, y]) (i := 0) (by simp) (by simp) (by omega) (by omega) hx (rv_step (l := [x, y]) (i := 1) (by simp) (by simp) (by simp; omega) (by simp; omega) hy (rv_end rfl))), rfl⟩

theorem rv2_no {x y : UInt8} (h : ¬ (dgt x ∧ dgt y)) : curfewref05_value_R (bA [x, y]) (0, false) := by
  by_cases hx : dgt x
  · have q := hx.2
    have q' := hx.1
    exact ⟨_, rv_of (rv_step (l := [x, y]) (i := 0) (by simp) (by simp) (by omega) (by omega) hx (rv_bad (l := [x, y]) (i := 1) (by simp) (fun k => h ⟨hx, k⟩))), rfl⟩
  · exact ⟨_, rv_of (rv_bad (l := [x, y]) (i := 0) (by simp) hx), rfl⟩

theorem rv4_yes {x y z u : UInt8} (hx : dgt x) (hy : dgt y) (hz : dgt z) (hu : dgt u) : curfewref05_value_R (bA [x, y, z, u]) (10 * (10 * (10 * (10 * 0 + (x.toNat - 48)) + (y.toNat - 48)) + (z.toNat - 48)) + (u.toNat - 48), true) := by
  have q1 := hx.2; have q2 := hx.1; have q3 := hy.2; have q4 := hy.1; have q5 := hz.2; have q6 := hz.1
  exact ⟨_, rv_of (rv_step (l := [x, y, z, u]) (i := 0) (by simp) (by simp) (by omega) (by omega) hx (rv_step (l := [x, y, z, u]) (i := 1) (by simp) (by simp) (by simp; omega) (by simp; omega) hy
    (rv_step (l := [x, y, z, u]) (i := 2) (by simp) (by simp) (by simp; omega) (by simp; omega) hz (rv_step (l := [x, y, z, u]) (i := 3) (by simp) (by simp) (by simp; omega) (by simp; omega) hu (rv_end rfl))))), rfl⟩

theorem rv4_no {x y z u : UInt8} (h : ¬ (dgt x ∧ dgt y ∧ dgt z ∧ dgt u)) : curfewref05_value_R (bA [x, y, z, u]) (0, false) := by
  by_cases hx : dgt x
  · have q1 := hx.2; have q2 := hx.1
    by_cases hy : dgt y
    · have q3 := hy.2; have q4 := hy.1
      by_cases hz : dgt z
      · have q5 := hz.2; have q6 := hz.1
        exact ⟨_, rv_of (rv_step (l := [x, y, z, u]) (i := 0) (by simp) (by simp) (by omega) (by omega) hx (rv_step (l := [x, y, z, u]) (i := 1) (by simp) (by simp) (by simp; omega) (by simp; omega) hy
          (rv_step (l := [x, y, z, u]) (i := 2) (by simp) (by simp) (by simp; omega) (by simp; omega) hz (rv_bad (l := [x, y, z, u]) (i := 3) (by simp) (fun k => h ⟨hx, hy, hz, k⟩))))), rfl⟩
      · exact ⟨_, rv_of (rv_step (l := [x, y, z, u]) (i := 0) (by simp) (by simp) (by omega) (by omega) hx (rv_step (l := [x, y, z, u]) (i := 1) (by simp) (by simp) (by simp; omega) (by simp; omega) hy
          (rv_bad (l := [x, y, z, u]) (i := 2) (by simp) hz))), rfl⟩
    · exact ⟨_, rv_of (rv_step (l := [x, y, z, u]) (i := 0) (by simp) (by simp) (by omega) (by omega) hx (rv_bad (l := [x, y, z, u]) (i := 1) (by simp) hy)), rfl⟩
  · exact ⟨_, rv_of (rv_bad (l := [x, y, z, u]) (i := 0) (by simp) hx), rfl⟩

theorem r5Right_fn (y m d a b c : Int) : curfewref05_Right_R y m d a b c (okc y m d a b c) := by
  refine ⟨_, r4Right_fn y m d, ?_⟩
  unfold okc
  cases h : Cal.okd y m d
  · exact bNo rfl rfl
  refine bYes rfl ?_
  rw [Bool.true_and]
  by_cases h1 : a ≥ 0
  · refine bYes (decide_eq_true h1) ?_
    by_cases h2 : a < 24
    · refine bYes (decide_eq_true h2) ?_
      by_cases h3 : b ≥ 0
      · refine bYes (decide_eq_true h3) ?_
        by_cases h4 : b < 60
        · refine bYes (decide_eq_true h4) ?_
          by_cases h5 : c ≥ 0
          · refine bYes (decide_eq_true h5) ?_
            exact decide_eq_decide.mpr ⟨fun h => ⟨h1, h2, h3, h4, h5, h⟩, fun h => h.2.2.2.2.2⟩
          · exact bNo (decide_eq_false h5) (hmsB_no (by omega)).symm
        · exact bNo (decide_eq_false h4) (hmsB_no (by omega)).symm
      · exact bNo (decide_eq_false h3) (hmsB_no (by omega)).symm
    · exact bNo (decide_eq_false h2) (hmsB_no (by omega)).symm
  · exact bNo (decide_eq_false h1) (hmsB_no (by omega)).symm

theorem r5Of_fn {y m d a b c : Int} (h : okc y m d a b c = true) : curfewref05_Of_R y m d a b c (tim y m d a b c) := by
  obtain ⟨h1, h2⟩ := okc_true h
  have n := Cal.num_bd h1
  have q := hmsB_iff.mp h2
  refine ⟨_, r4Of_fn h1, ?_⟩
  rw [wi (x := 24 * Cal.num y m d) (by omega) (by omega), wi (x := 24 * Cal.num y m d + a) (by omega) (by omega), wi (x := 60 * (24 * Cal.num y m d + a)) (by omega) (by omega), wi (x := 60 * (24 * Cal.num y m d + a) + b) (by omega) (by omega),
    wi (x := 60 * (60 * (24 * Cal.num y m d + a) + b)) (by omega) (by omega), wi (by omega) (by omega)]
  unfold tim; omega

theorem txtT_tim {y m d a b c : Int} (h : okc y m d a b c = true) : txtT (tim y m d a b c) = txtC y m d a b c := by
  obtain ⟨e1, e2, e3⟩ := tim_hms h
  unfold txtT
  rw [(tim_day h).1, Cal.dat_num (okc_true h).1, e1, e2, e3]

theorem r5Text_tim {y m d a b c : Int} (h : okc y m d a b c = true) : curfewref05_Text_R (tim y m d a b c) (bA (txtC y m d a b c)) := by
  have b1 := tim_bd h
  have k := r5Text_fn (t := tim y m d a b c) (by simp [mayT]; omega)
  rw [txtT_tim h] at k
  exact k

theorem bA_self (s : ByteArray) : bA s.data.toList = s := rfl

theorem bA_inj {l m : List UInt8} (h : bA l = bA m) : l = m := by
  have := congrArg (fun s => s.data.toList) h
  simpa [bA] using this

set_option maxHeartbeats 4000000 in
theorem r5Parse_fn (s : ByteArray) : curfewref05_Parse_R s (if pOk s = true then (pVal s, true) else (0, false)) := by
  by_cases h19 : s.size = 19
  rotate_left
  · have e : ((((ByteArray.size s : Nat) : Int)) != 19) = true := by simp; omega
    rw [if_neg (by unfold pOk; rw [decide_eq_false h19]; simp)]
    exact bYes e rfl
  have e : ((((ByteArray.size s : Nat) : Int)) != 19) = false := by rw [h19]; rfl
  have pv : pVal s = tim (nm s.data.toList 19 0) (nm s.data.toList 19 1) (nm s.data.toList 19 2) (nm s.data.toList 19 3) (nm s.data.toList 19 4) (nm s.data.toList 19 5) := rfl
  have po : pOk s = (pat s.data.toList 19 && okc (nm s.data.toList 19 0) (nm s.data.toList 19 1) (nm s.data.toList 19 2) (nm s.data.toList 19 3) (nm s.data.toList 19 4) (nm s.data.toList 19 5)) := by
    unfold pOk; rw [decide_eq_true h19, Bool.true_and]
  rw [pv, po]
  have hl : s.data.toList.length = 19 := by rw [Array.length_toList]; exact h19
  obtain ⟨l, hs⟩ : ∃ l, s.data.toList = l := ⟨_, rfl⟩
  have hs' : s = bA l := by rw [← hs]; rfl
  rw [hs] at hl ⊢
  subst hs'
  clear hs h19 pv po
  have P := pat_iff l
  have n0 := nm_0 l; have n1 := nm_1 l; have n2 := nm_2 l; have n3 := nm_3 l; have n4 := nm_4 l; have n5 := nm_5 l
  have T := fun h => txt_nm (l := l) hl h
  refine bNo e ?_
  have hN : ∀ {X : Int × Bool}, pat l 19 = false → (if (pat l 19 && okc (nm l 19 0) (nm l 19 1) (nm l 19 2) (nm l 19 3) (nm l 19 4) (nm l 19 5)) = true then X else (0, false)) = (0, false) := fun h => by rw [h]; rfl
  generalize nm l 19 0 = m0 at n0 T hN ⊢
  generalize nm l 19 1 = m1 at n1 T hN ⊢
  generalize nm l 19 2 = m2 at n2 T hN ⊢
  generalize nm l 19 3 = m3 at n3 T hN ⊢
  generalize nm l 19 4 = m4 at n4 T hN ⊢
  generalize nm l 19 5 = m5 at n5 T hN ⊢
  match l, hl with
  | [b0, b1, b2, b3, b4, b5, b6, b7, b8, b9, b10, b11, b12, b13, b14, b15, b16, b17, b18], _ =>
    simp only [List.getD_cons_zero, List.getD_cons_succ] at P n0 n1 n2 n3 n4 n5
    have no : ∀ {q : Prop}, (pat [b0, b1, b2, b3, b4, b5, b6, b7, b8, b9, b10, b11, b12, b13, b14, b15, b16, b17, b18] 19 = true → q) → ¬ q → pat [b0, b1, b2, b3, b4, b5, b6, b7, b8, b9, b10, b11, b12, b13, b14, b15, b16, b17, b18] 19 = false := fun a b => by
      rw [Bool.eq_false_iff]; exact fun h => b (a h)
    refine ⟨rfl, ?_⟩
    by_cases g0 : dgt b0 ∧ dgt b1 ∧ dgt b2 ∧ dgt b3
    rotate_left
    · exact ⟨_, rv4_no (x := b0) (y := b1) (z := b2) (u := b3) g0, bYes rfl (hN (no (fun h => by obtain ⟨a0, a1, a2, a3, _⟩ := P.mp h; exact ⟨a0, a1, a2, a3⟩) g0)).symm⟩
    have v0 : curfewref05_value_R (ByteArray.extract (bA [b0, b1, b2, b3, b4, b5, b6, b7, b8, b9, b10, b11, b12, b13, b14, b15, b16, b17, b18]) 0 4) (m0, true) := by rw [n0]; exact rv4_yes (x := b0) (y := b1) (z := b2) (u := b3) g0.1 g0.2.1 g0.2.2.1 g0.2.2.2
    refine ⟨_, v0, bNo rfl ⟨rfl, ?_⟩⟩
    by_cases g1 : dgt b5 ∧ dgt b6
    rotate_left
    · exact ⟨_, rv2_no (x := b5) (y := b6) g1, bYes rfl (hN (no (fun h => by obtain ⟨a0, a1, a2, a3, a4, a5, a6, _⟩ := P.mp h; exact ⟨a5, a6⟩) g1)).symm⟩
    have v1 : curfewref05_value_R (ByteArray.extract (bA [b0, b1, b2, b3, b4, b5, b6, b7, b8, b9, b10, b11, b12, b13, b14, b15, b16, b17, b18]) 5 7) (m1, true) := by rw [n1]; exact rv2_yes (x := b5) (y := b6) g1.1 g1.2
    refine ⟨_, v1, bNo rfl ⟨rfl, ?_⟩⟩
    by_cases g2 : dgt b8 ∧ dgt b9
    rotate_left
    · exact ⟨_, rv2_no (x := b8) (y := b9) g2, bYes rfl (hN (no (fun h => by obtain ⟨a0, a1, a2, a3, a4, a5, a6, a7, a8, a9, _⟩ := P.mp h; exact ⟨a8, a9⟩) g2)).symm⟩
    have v2 : curfewref05_value_R (ByteArray.extract (bA [b0, b1, b2, b3, b4, b5, b6, b7, b8, b9, b10, b11, b12, b13, b14, b15, b16, b17, b18]) 8 10) (m2, true) := by rw [n2]; exact rv2_yes (x := b8) (y := b9) g2.1 g2.2
    refine ⟨_, v2, bNo rfl ⟨rfl, ?_⟩⟩
    by_cases g3 : dgt b11 ∧ dgt b12
    rotate_left
    · exact ⟨_, rv2_no (x := b11) (y := b12) g3, bYes rfl (hN (no (fun h => by obtain ⟨a0, a1, a2, a3, a4, a5, a6, a7, a8, a9, a10, a11, a12, _⟩ := P.mp h; exact ⟨a11, a12⟩) g3)).symm⟩
    have v3 : curfewref05_value_R (ByteArray.extract (bA [b0, b1, b2, b3, b4, b5, b6, b7, b8, b9, b10, b11, b12, b13, b14, b15, b16, b17, b18]) 11 13) (m3, true) := by rw [n3]; exact rv2_yes (x := b11) (y := b12) g3.1 g3.2
    refine ⟨_, v3, bNo rfl ⟨rfl, ?_⟩⟩
    by_cases g4 : dgt b14 ∧ dgt b15
    rotate_left
    · exact ⟨_, rv2_no (x := b14) (y := b15) g4, bYes rfl (hN (no (fun h => by obtain ⟨a0, a1, a2, a3, a4, a5, a6, a7, a8, a9, a10, a11, a12, a13, a14, a15, _⟩ := P.mp h; exact ⟨a14, a15⟩) g4)).symm⟩
    have v4 : curfewref05_value_R (ByteArray.extract (bA [b0, b1, b2, b3, b4, b5, b6, b7, b8, b9, b10, b11, b12, b13, b14, b15, b16, b17, b18]) 14 16) (m4, true) := by rw [n4]; exact rv2_yes (x := b14) (y := b15) g4.1 g4.2
    refine ⟨_, v4, bNo rfl ⟨rfl, ?_⟩⟩
    by_cases g5 : dgt b17 ∧ dgt b18
    rotate_left
    · exact ⟨_, rv2_no (x := b17) (y := b18) g5, bYes rfl (hN (no (fun h => by obtain ⟨a0, a1, a2, a3, a4, a5, a6, a7, a8, a9, a10, a11, a12, a13, a14, a15, a16, a17, a18⟩ := P.mp h; exact ⟨a17, a18⟩) g5)).symm⟩
    have v5 : curfewref05_value_R (ByteArray.extract (bA [b0, b1, b2, b3, b4, b5, b6, b7, b8, b9, b10, b11, b12, b13, b14, b15, b16, b17, b18]) 17 19) (m5, true) := by rw [n5]; exact rv2_yes (x := b17) (y := b18) g5.1 g5.2
    refine ⟨_, v5, bNo rfl ?_⟩
    refine ⟨_, r5Right_fn m0 m1 m2 m3 m4 m5, ?_⟩
    cases hk : okc m0 m1 m2 m3 m4 m5
    · refine bYes rfl ?_
      rw [Bool.and_false]; rfl
    refine bNo rfl ⟨_, r5Of_fn hk, _, r5Text_tim hk, ?_⟩
    rw [toList_same, Bool.and_true]
    cases hp : pat [b0, b1, b2, b3, b4, b5, b6, b7, b8, b9, b10, b11, b12, b13, b14, b15, b16, b17, b18] 19
    · refine bYes ?_ rfl
      rw [decide_eq_false]; rfl
      intro q
      have := (nm_txt hk).2.1
      rw [bA_inj q, hp] at this
      cases this
    · refine bNo ?_ ⟨_, r5Of_fn hk, rfl⟩
      rw [T hp, decide_eq_true rfl]; rfl
end Go.Proofs.YtjmjfjhiggiglaaDoor
