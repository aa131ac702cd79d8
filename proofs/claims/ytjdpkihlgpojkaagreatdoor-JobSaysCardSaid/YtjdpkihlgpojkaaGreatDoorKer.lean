import Derived.Test.YtjdpkihlgpojkaaGreatDoorKb
import Derived.Test.YtjdpkihlgpojkaaGreatDoorKd
/- The reference: masks, and which may be. -/
namespace Go.Proofs.YtjdpkihlgpojkaaGreatDoor
open Go Go.B
set_option linter.unusedSimpArgs false
set_option linter.unusedVariables false
set_option linter.unusedSectionVars false
set_option maxRecDepth 20000

theorem rpower_fn {n : Nat} (h : n ≤ 63) : curfewref01_power_R n ((2 ^ n : Nat) : Int) := by
  have key := up_ind (P := fun i => ∃ k, curfewref01_power_l0 k (((2 ^ i : Nat) : Int), (n : Int), (i : Int)) ((2 ^ n : Nat) : Int)) (n := n)
    ⟨1, br_no (ilt_no (by omega)) rfl⟩ (fun i hi ⟨k, hk⟩ => ⟨k + 1, br_yes (yes_of (by omega)) (by
      have b := pow_bd (i := i + 1) (by omega)
      have b' := pow_bd (i := i) (by omega)
      have e : IntKind.wrap .u64 (((2 ^ i : Nat) : Int) * 2) = ((2 ^ (i + 1) : Nat) : Int) := by
        rw [Nat.pow_succ] at *
        rw [wu (by omega) (by omega)]; push_cast; omega
      show curfewref01_power_l0 k ((IntKind.wrap .u64 (((2 ^ i : Nat) : Int) * 2)), (n : Int), (IntKind.wrap .i64 ((i : Int) + 1))) _
      rw [e, wi_succ (by omega)]
      exact hk)⟩) 0 (by omega)
  exact ⟨_, key, rfl⟩

theorem rHas_fn {m : Int} (hm : U64 m) (n : Int) : curfewref01_Has_R m n (hasB m n) := by
  unfold curfewref01_Has_R hasB mayB
  by_cases h0 : n ≥ 0
  · refine br_yes (yes_of h0) ?_
    by_cases h1 : n ≤ 63
    · refine br_yes (yes_of h1) ?_
      obtain ⟨n', rfl⟩ : ∃ n' : Nat, n = n' := ⟨n.toNat, by omega⟩
      obtain ⟨m', rfl⟩ : ∃ m' : Nat, m = m' := ⟨m.toNat, by have := hm.1; omega⟩
      have b := pow_bd (i := n') (by omega)
      refine ⟨_, rpower_fn (by omega), ⟨by simp only [Bool.not_eq_true', beq_eq_false_iff_ne, ne_eq]; omega, ?_⟩⟩
      have hle : m' / 2 ^ n' ≤ m' := Nat.div_le_self _ _
      have h2 := hm.2
      have e : Int.tdiv (m' : Int) ((2 ^ n' : Nat) : Int) = ((m' / 2 ^ n' : Nat) : Int) := by
        rw [Int.tdiv_eq_ediv_of_nonneg (by omega)]; rfl
      simp only [Int.toNat_natCast]
      rw [Nat.testBit_eq_decide_div_mod_eq, yes_of h1]
      rw [e]
      generalize m' / 2 ^ n' = d at *
      rw [wu (by omega) (by omega), Int.tmod_eq_emod_of_nonneg (by omega)]
      simp only [show decide (0 ≤ (n' : Int)) = true from yes_of h0, Bool.true_and]
      rcases Nat.mod_two_eq_zero_or_one d with e | e
      · have e2 : (d : Int) % 2 = 0 := by omega
        rw [e, e2]; rfl
      · have e2 : (d : Int) % 2 = 1 := by omega
        rw [e, e2]; rfl
    · refine br_no (no_of h1) ?_
      rw [no_of h1, Bool.and_false, Bool.false_and]
  · refine br_no (no_of h0) ?_
    rw [no_of (p := 0 ≤ n) (by omega), Bool.false_and, Bool.false_and]

theorem rAll_fn {m : Int} (hm : U64 m) : curfewref01_All_R m (bitsL m) := by
  have key := up_ind (P := fun i => ∃ k, curfewref01_All_l0 k (lstB (fun j => Nat.testBit m.toNat j) i, m, (i : Int)) (bitsL m)) (n := 64)
    ⟨1, br_no (by decide) rfl⟩ (fun i hi ⟨k, hk⟩ => ⟨k + 1, br_yes (yes_of (by show (i : Int) < 64; omega)) (by
      refine ⟨_, rHas_fn hm _, ?_⟩
      rw [hasB_nat m (by omega)]
      cases hb : Nat.testBit m.toNat i
      · rw [lstB_no hb] at hk
        refine br_no rfl ?_
        show curfewref01_All_l0 k (lstB (fun j => Nat.testBit m.toNat j) i, m, (IntKind.wrap .i64 ((i : Int) + 1))) _
        rw [wi_succ (by omega)]; exact hk
      · rw [lstB_yes hb] at hk
        refine br_yes rfl ⟨nl_ok (by have := lstB_len (fun j => Nat.testBit m.toNat j) i; simp; omega), ?_⟩
        show curfewref01_All_l0 k (lstB (fun j => Nat.testBit m.toNat j) i ++ [(i : Int)], m, (IntKind.wrap .i64 ((i : Int) + 1))) _
        rw [wi_succ (by omega)]; exact hk)⟩) 0 (by omega)
  exact ⟨_, key, rfl⟩

theorem rOf_fn {l : List Int} (hl : ∀ x ∈ l, 0 ≤ x ∧ x ≤ 63) (hn : l.length ≤ 1000000000000) : curfewref01_Of_R l (((ofM l : Nat) : Int), true) := by
  have hm : ∀ i, (l.take i).foldl (fun m n => m ||| 2 ^ (Int.toNat n)) 0 < 2 ^ 64 := by
    have gen : ∀ (l' : List Int), (∀ x ∈ l', 0 ≤ x ∧ x ≤ 63) → ∀ m, m < 2 ^ 64 → l'.foldl (fun m n => m ||| 2 ^ (Int.toNat n)) m < 2 ^ 64 := by
      intro l'
      induction l' with
      | nil => intro _ m h; exact h
      | cons x l' ih => 
        intro hx m h
        have := hx x List.mem_cons_self
        exact ih (fun y hy => hx y (List.mem_cons_of_mem _ hy)) _ (or_lt h (by omega))
    intro i
    exact gen _ (fun x hx => hl x (List.mem_of_mem_take hx)) 0 (by decide)
  have key := up_ind (P := fun i => ∃ k, curfewref01_Of_l0 k ((((l.take i).foldl (fun m n => m ||| 2 ^ (Int.toNat n)) 0 : Nat) : Int), l, (l.length : Int), (i : Int)) (.inr ((ofM l : Nat) : Int))) (n := l.length)
    ⟨1, br_no (ilt_no (by omega)) (by rw [List.take_length]; rfl)⟩ (fun i hi ⟨k, hk⟩ => ⟨k + 1, br_yes (yes_of (by show (i : Int) < (l.length : Int); omega)) ⟨ix_ok hi, (by
      have hx := hl _ (getD_mem hi)
      have hs := hm i
      have e0 : l.take (i + 1) = l.take i ++ [l.getD i 0] := by
        rw [List.take_add_one, List.getD_eq_getElem?_getD, List.getElem?_eq_getElem hi]; rfl
      rw [e0, List.foldl_append] at hk
      simp only [List.foldl_cons, List.foldl_nil] at hk
      show br (decide (l.getD i 0 < 0)) _ (br (decide (l.getD i 0 > 63)) _ (∃ y3 : Bool, curfewref01_Has_R _ (l.getD i 0) y3 ∧ br (!y3) (∃ y4 : Int, curfewref01_power_R (l.getD i 0) y4 ∧ _) _))
      generalize (l.take i).foldl (fun m n => m ||| 2 ^ (Int.toNat n)) 0 = M at hs hk ⊢
      clear e0
      generalize l.getD i 0 = x at hx hk ⊢
      have e64 : (2 : Nat) ^ 64 = 18446744073709551616 := by decide
      refine br_no (ilt_no hx.1) (br_no (no_of (by omega)) ⟨_, rHas_fn ⟨by omega, by omega⟩ x, ?_⟩)
      obtain ⟨x', rfl⟩ : ∃ x' : Nat, x = x' := ⟨x.toNat, by omega⟩
      rw [hasB_nat _ (by omega)]
      simp only [Int.toNat_natCast] at hk ⊢
      cases hb : Nat.testBit M x'
      · refine br_yes rfl ⟨_, rpower_fn (by omega), ?_⟩
        have hl2 := or_lt hs (i := x') (by omega)
        rw [← or_new hb] at hk hl2
        show curfewref01_Of_l0 k (IntKind.wrap .u64 ((M : Int) + ((2 ^ x' : Nat) : Int)), l, (l.length : Int), (IntKind.wrap .i64 ((i : Int) + 1))) _
        generalize 2 ^ x' = P at *
        rw [wi_succ (by omega), wu (by omega) (by omega)]
        have e : (M : Int) + (P : Int) = ((M + P : Nat) : Int) := by push_cast; rfl
        rw [e]; exact hk
      · rw [or_old hb] at hk
        refine br_no rfl ?_
        show curfewref01_Of_l0 k ((M : Int), l, (l.length : Int), (IntKind.wrap .i64 ((i : Int) + 1))) _
        rw [wi_succ (by omega)]; exact hk)⟩⟩) 0 (by omega)
  exact ⟨_, key, rfl⟩

theorem rSpan_fn {a b s : Nat} (hab : a ≤ b) (hb : b ≤ 63) (hs : 1 ≤ s) (hs2 : s ≤ 9223372036854775807) : curfewref01_Span_R a b s (((ofM (spanL a s (b - a + 1)) : Nat) : Int), true) := by
  have key := up_ind (P := fun j => ∃ k, curfewref01_Span_l0 k (spanL a s j, (a : Int), (b : Int), (s : Int), (a : Int) + (j : Int)) (spanL a s (b - a + 1))) (n := b - a + 1)
    ⟨1, br_no (no_of (by show ¬ ((a : Int) + ((b - a + 1 : Nat) : Int) ≤ (b : Int)); omega)) rfl⟩ (fun j hj ⟨k, hk⟩ => ⟨k + 1, br_yes (yes_of (by show (a : Int) + (j : Int) ≤ (b : Int); omega)) ⟨by simp; omega, (by
      have e1 : Int.tmod (IntKind.wrap .i64 ((a : Int) + (j : Int) - (a : Int))) (s : Int) = ((j % s : Nat) : Int) := by
        rw [wi (by omega) (by omega), Int.tmod_eq_emod_of_nonneg (by omega)]
        rw [show (a : Int) + (j : Int) - (a : Int) = j from by omega]; rfl
      have e2 : IntKind.wrap .i64 ((a : Int) + (j : Int) + 1) = (a : Int) + ((j + 1 : Nat) : Int) := by rw [wi (by omega) (by omega)]; omega
      show br (Int.tmod (IntKind.wrap .i64 ((a : Int) + (j : Int) - (a : Int))) (s : Int) == 0) _ _
      rw [e1]
      unfold spanL at hk
      by_cases h0 : j % s = 0
      · rw [if_pos h0] at hk
        refine br_yes (by rw [h0]; rfl) ⟨nl_ok (by have := spanL_len (a : Int) s j; simp; omega), ?_⟩
        show curfewref01_Span_l0 k (spanL a s j ++ [(a : Int) + (j : Int)], (a : Int), (b : Int), (s : Int), IntKind.wrap .i64 ((a : Int) + (j : Int) + 1)) _
        rw [e2]; exact hk
      · rw [if_neg h0] at hk
        refine br_no (by simp; omega) ?_
        show curfewref01_Span_l0 k (spanL a s j, (a : Int), (b : Int), (s : Int), IntKind.wrap .i64 ((a : Int) + (j : Int) + 1)) _
        rw [e2]; exact hk)⟩⟩) 0 (by omega)
  simp only [Int.natCast_zero, Int.add_zero] at key
  refine br_no (ilt_no (by omega)) (br_no (no_of (by omega)) (br_no (no_of (by omega)) (br_no (ilt_no (by omega)) ⟨_, key, _, rOf_fn ?_ ?_, rfl⟩)))
  · intro x hx
    obtain ⟨i, h1, _, rfl⟩ := spanL_mem hx
    omega
  · have := spanL_len (a : Int) s (b - a + 1); omega
end Go.Proofs.YtjdpkihlgpojkaaGreatDoor
/- What the reference makes of texts of fields. -/
namespace Go.Proofs.YtjdpkihlgpojkaaGreatDoor
open Go Go.B
set_option linter.unusedSimpArgs false
set_option linter.unusedVariables false
set_option linter.unusedSectionVars false
set_option maxRecDepth 20000

theorem rEnds_fn {k : Nat} (hk : k < 5) : curfewref06_Ends_R (k : Int) (loA k, hiA k) := by
  refine ⟨?_, rfl⟩
  rw [Int.toNat_natCast]
  simp [Nat.ble_eq]; omega
end Go.Proofs.YtjdpkihlgpojkaaGreatDoor
