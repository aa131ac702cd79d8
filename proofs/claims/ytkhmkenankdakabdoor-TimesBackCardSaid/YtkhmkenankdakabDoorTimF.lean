/- The laws of layer 5 (times): the layer wakes; TimesRead. -/
import Derived.Test.YtkhmkenankdakabDoorTimE
namespace Go.Proofs.YtkhmkenankdakabDoor
open Go Go.RowKit
set_option linter.unusedSimpArgs false
set_option linter.unusedVariables false

theorem dat_wake5 : Cal.dat (951782399 / 86400) = (2000, 2, 28) := by
  have h := Cal.dat_num (y := 2000) (m := 2) (d := 28) (by decide)
  have e : Cal.num 2000 2 28 = 951782399 / 86400 := by decide +kernel
  rw [e] at h; exact h

theorem cvOf_wake (w : World) (hL : DaysLaid w) : Calls Tryd.prog 20 #[.agg #[.int .i64 2000, .int .i64 2, .int .i64 28, .int .i64 23, .int .i64 59, .int .i64 59]] w fun e w' => e = .returned (.tuple #[.int .i64 951782399, .int .i64 0]) ∧ Ext w w' := by
  have h := cvOf_yes 2000 2 28 23 59 59 w hL (by decide)
  have e : tim 2000 2 28 23 59 59 = 951782399 := by decide +kernel
  rw [e] at h; exact h

theorem text_wake (w : World) : Calls Tryd.prog 10 #[.int .i64 951782399] w fun e w' => e = .returned (.tuple #[.string ⟨#[50, 48, 48, 48, 45, 48, 50, 45, 50, 56, 32, 50, 51, 58, 53, 57, 58, 53, 57]⟩, .int .i64 0]) ∧ Ext w w' := by
  have h := text_yes 951782399 2000 2 28 w (by decide) dat_wake5
  have e : (txtC 2000 2 28 (951782399 % 86400 / 3600) (951782399 % 3600 / 60) (951782399 % 60)).toArray = #[50, 48, 48, 48, 45, 48, 50, 45, 50, 56, 32, 50, 51, 58, 53, 57, 58, 53, 57] := by decide +kernel
  rw [e] at h; exact h

theorem read_wake (w : World) : Calls Tryd.prog 13 #[.int .i64 100, .int .i64 101] w fun e w' => e = .returned (.int .i64 101) ∧ w = w' := by
  have h := tmRead_any 100 101 w
  have e : readT 100 101 = 101 := by decide +kernel
  rw [e] at h; exact h

set_option maxHeartbeats 1000000 in
theorem timesWakes (w : World) (hL : DaysLaid w) : Calls Tryd.prog 9 #[] w fun e w' => e = .returned (.bool true) ∧ Ext w w' := by
  go_enter Tryd.func9, Tryd.ntmps9
  go_wp2_with (first | (go_at_call 20; (with_reducible refine (cvOf_wake _ hL).mono ?_); rintro e w1 ⟨rfl, E1⟩; have hc1 := E1.2.1; have hf1 := E1.2.2; have hz1 := E1.size; have ht1 := E1.sizes; (try simp [Nat.add_one_le_iff] at hz1); (try have hy1 := Nat.le_of_lt hz1)) | (go_at_call 10; (with_reducible refine (text_wake _).mono ?_); rintro e w2 ⟨rfl, E2⟩; have hc2 := E2.2.1; have hf2 := E2.2.2; have hz2 := E2.size; have ht2 := E2.sizes; (try simp [Nat.add_one_le_iff] at hz2); (try have hy2 := Nat.le_of_lt hz2)) | (go_at_call 13; (with_reducible refine (read_wake _).mono ?_); rintro e w3 ⟨rfl, rfl⟩))
  go_ret
  refine ⟨rfl, ?_⟩
  (repeat (first | with_reducible exact Ext.refl _ | with_reducible assumption | exact Ext.mk (by with_reducible assumption) | with_reducible refine Ext.alloc ?_ _ | with_reducible refine Ext.drewN ?_ _ | with_reducible refine Ext.drew ?_ | with_reducible refine Ext.setCell ?_ (by first | (simp; done) | assumption | (simp; omega)) _ | (with_reducible refine Ext.trans ?_ (by with_reducible assumption))))

theorem readT_stay {l t : Int} (h : ¬ (timeB t = true ∧ l < t)) : readT l t = l := by
  unfold readT
  by_cases g : timeB t = true ∧ l ≤ t
  · rw [if_pos g]
    have : ¬ l < t := fun k => h ⟨g.1, k⟩
    omega
  · rw [if_neg g]

theorem readT_go {l t : Int} (h1 : timeB t = true) (h2 : l ≤ t) : readT l t = t := by
  unfold readT; rw [if_pos ⟨h1, h2⟩]

set_option maxHeartbeats 2000000 in
set_option maxRecDepth 100000 in
theorem walk_TimesRead (a0 : Int) (a1 : Option Addr) (len1 cap1 : Nat) (a2 : Int) (w : World) (w0 : (Lit.int .i64 a0).wf = true) (f1 : Sh.fits w (.slice 1 (.int .i64)) [.slice a1 len1 cap1]) (w2 : (Lit.int .i64 a2).wf = true) (hL : DaysLaid w) :
    Calls Tryd.prog 4 #[.int .i64 a0, .slice a1 len1 cap1, .int .i64 a2] w fun e w' => e = .returned (.bool true) ∧ Ext w w' := by
  obtain ⟨l1, g1⟩ := ints_of f1
  have fa := i64_range w0
  have fu := i64_range w2
  unfold maxLen at l1
  clear f1 w0 w2
  have G1 := Lib.hid g1
  clear g1
  go_enter Tryd.func4, Tryd.ntmps4
  go_wp2_with (go_at_call 9; (with_reducible refine (timesWakes _ hL).mono ?_); rintro e w1 ⟨rfl, E1⟩; have hc1 := E1.2.1; have hf1 := E1.2.2; have hz1 := E1.size; have ht1 := E1.sizes; (try simp [Nat.add_one_le_iff] at hz1); (try have hy1 := Nat.le_of_lt hz1))
  go_loopw [7, 19] (fun m i x => ∃ k : Nat, k ≤ len1 ∧ i = .int .i64 k ∧ Ext w x ∧ ∃ m' : Int, m = .int .i64 m' ∧ I64 m' ∧ (timeB a0 = true → timeB m' = true)) (fun _ i _ => len1 - (intOf i).toNat)
  case atStart => exact ⟨0, by omega, rfl, by (repeat (first | with_reducible exact Ext.refl _ | with_reducible assumption | exact Ext.mk (by with_reducible assumption) | with_reducible refine Ext.alloc ?_ _ | with_reducible refine Ext.drewN ?_ _ | with_reducible refine Ext.drew ?_ | with_reducible refine Ext.setCell ?_ (by first | (simp; done) | assumption | (simp; omega)) _ | (with_reducible refine Ext.trans ?_ (by with_reducible assumption)))), a0, rfl, fa, id⟩
  case round =>
    clear hc1 hf1 hz1 ht1 E1
    obtain ⟨k, hk, rfl, F0, m, rfl, fm, hm⟩ := hrel
    have kc0 := F0.2.1
    have kz0 := F0.size
    (try simp [Nat.add_one_le_iff] at kz0)
    by_cases hlt : k < len1
    · obtain ⟨b, off, rfl, hb, hcs⟩ : ∃ b off, a1 = some ⟨b, off, none⟩ ∧ b < w.heap.size ∧ ∀ i, i < len1 → ∃ n, I64 n ∧ w.cell? ⟨b, off + i, none⟩ = some (.int .i64 n) := by
        rcases G1.out with h | h
        · omega
        · exact h
      obtain ⟨t, ft, c0⟩ := hcs k hlt
      clear hcs
      by_cases h6 : k = 60
      · have h6' : ((k : Int) == 60) = true := by simp; omega
        clear h6
        go_upto_region 13 with fail
        by_cases hf : timeB m = true ∧ 1 ≤ a2
        · obtain ⟨hf1, hf2⟩ := hf
          obtain ⟨q, hq⟩ : ∃ q, m % a2 = q := ⟨_, rfl⟩
          have q0 : 0 ≤ q := by rw [← hq]; exact Int.emod_nonneg m (by omega)
          have q1 : q < a2 := by rw [← hq]; exact Int.emod_lt_of_pos m (by omega)
          have q2 : q ≤ m := by
            rw [← hq]
            have := Int.mul_ediv_add_emod m a2
            have h3 := Int.mul_nonneg (show 0 ≤ a2 by omega) (Int.ediv_nonneg (timeB_true hf1).1 (show 0 ≤ a2 by omega))
            omega
          obtain ⟨f, hff⟩ : ∃ f, m - q = f := ⟨_, rfl⟩
          have f0 : f % a2 = 0 := by
            rw [← hff, ← hq]
            have := Int.mul_ediv_add_emod m a2
            rw [show m - m % a2 = a2 * (m / a2) by omega]
            exact Int.mul_emod_right _ _
          have t1 := timeB_true hf1
          have tf : timeB f = true := by simp [timeB]; omega
          have C1 : Hid (∀ w, Calls Tryd.prog 14 #[.int .i64 m, .int .i64 a2] w fun e w' => e = .returned (.tuple #[.int .i64 f, .int .i64 0]) ∧ w = w') := by
            intro w; have k := tmFloor_yes m a2 w hf1 hf2; rw [hq, hff] at k; exact k
          have C2 : Hid (∀ w, Calls Tryd.prog 14 #[.int .i64 f, .int .i64 a2] w fun e w' => e = .returned (.tuple #[.int .i64 f, .int .i64 0]) ∧ w = w') := by
            intro w; have k := tmFloor_yes f a2 w tf hf2; rw [f0, Int.sub_zero] at k; exact k
          have d1 : decide (f ≤ m) = true := dt (by omega)
          have d2 : decide (wrap64 (m - f) < a2) = true := dt (by unfold wrap64; omega)
          have d3 : f.tmod a2 = 0 := by rw [Int.tmod_eq_emod_of_nonneg (by omega), f0]
          have d4 : a2 ≠ 0 := by omega
          clear hf1 hq f0 tf hff
          go_wp2_with (first | (go_at_call 14; (with_reducible refine (C1.out _).mono ?_); rintro e w5 ⟨rfl, rfl⟩) | (go_at_call 14; (with_reducible refine (C2.out _).mono ?_); rintro e w6 ⟨rfl, rfl⟩))
          go_ret
          refine ⟨rfl, ?_⟩
          (repeat (first | with_reducible exact Ext.refl _ | with_reducible assumption | exact Ext.mk (by with_reducible assumption) | with_reducible refine Ext.alloc ?_ _ | with_reducible refine Ext.drewN ?_ _ | with_reducible refine Ext.drew ?_ | with_reducible refine Ext.setCell ?_ (by first | (simp; done) | assumption | (simp; omega)) _ | (with_reducible refine Ext.trans ?_ (by with_reducible assumption))))
        · have hn : timeB m = false ∨ a2 < 1 := by
            cases h : timeB m
            · exact .inl rfl
            · exact .inr (by have : ¬ 1 ≤ a2 := fun h2 => hf ⟨h, h2⟩; omega)
          have HN := Lib.hid hn
          clear hn hf
          go_wp2_with (go_at_call 14; (with_reducible refine (tmFloor_no m a2 _ HN.out).mono ?_); rintro e w5 ⟨rfl, rfl⟩)
          go_ret
          refine ⟨rfl, ?_⟩
          (repeat (first | with_reducible exact Ext.refl _ | with_reducible assumption | exact Ext.mk (by with_reducible assumption) | with_reducible refine Ext.alloc ?_ _ | with_reducible refine Ext.drewN ?_ _ | with_reducible refine Ext.drew ?_ | with_reducible refine Ext.setCell ?_ (by first | (simp; done) | assumption | (simp; omega)) _ | (with_reducible refine Ext.trans ?_ (by with_reducible assumption))))
      · have h6' : ((k : Int) == 60) = false := by simp; omega
        clear h6
        obtain ⟨r, hr⟩ : ∃ r, readT m t = r := ⟨_, rfl⟩
        have R : Hid (∀ w, Calls Tryd.prog 13 #[.int .i64 m, .int .i64 t] w fun e w' => e = .returned (.int .i64 r) ∧ w = w') := by
          intro w; rw [← hr]; exact tmRead_any m t w
        by_cases hg : timeB t = true ∧ m < t
        · obtain ⟨ht, hmt⟩ := hg
          rw [readT_go ht (by omega)] at hr
          subst hr
          have HT := Lib.hid ht
          clear ht
          have d1 : decide (t < m) = false := df (by omega)
          have te : (t == m) = false := by simp; omega
          cases h0 : timeB a0
          · have H0 := Lib.hid h0
            clear h0
            go_wp2_with (first | (go_at_call 13; (with_reducible refine (R.out _).mono ?_); rintro e w2 ⟨rfl, rfl⟩) | (go_at_call 12; (with_reducible refine (may_yes _ _ H0.out).mono ?_); rintro e w3 ⟨rfl, rfl⟩) | (go_at_call 12; (with_reducible refine (may_no _ _ H0.out).mono ?_); rintro e w3 ⟨rfl, rfl⟩) | (go_at_call 12; (with_reducible refine (may_yes _ _ HT.out).mono ?_); rintro e w4 ⟨rfl, rfl⟩))
            all_goals exact ⟨⟨k + 1, by omega, by go_num, by (repeat (first | with_reducible exact Ext.refl _ | with_reducible assumption | exact Ext.mk (by with_reducible assumption) | with_reducible refine Ext.alloc ?_ _ | with_reducible refine Ext.drewN ?_ _ | with_reducible refine Ext.drew ?_ | with_reducible refine Ext.setCell ?_ (by first | (simp; done) | assumption | (simp; omega)) _ | (with_reducible refine Ext.trans ?_ (by with_reducible assumption)))), _, rfl, by first | exact ft | exact fm, by first | exact fun _ => HT.out | (intro h; cases h; done) | exact fun _ => HM.out⟩, by simp [intOf]; omega⟩
          · have H0 := Lib.hid h0
            clear h0
            go_wp2_with (first | (go_at_call 13; (with_reducible refine (R.out _).mono ?_); rintro e w2 ⟨rfl, rfl⟩) | (go_at_call 12; (with_reducible refine (may_yes _ _ H0.out).mono ?_); rintro e w3 ⟨rfl, rfl⟩) | (go_at_call 12; (with_reducible refine (may_no _ _ H0.out).mono ?_); rintro e w3 ⟨rfl, rfl⟩) | (go_at_call 12; (with_reducible refine (may_yes _ _ HT.out).mono ?_); rintro e w4 ⟨rfl, rfl⟩))
            all_goals exact ⟨⟨k + 1, by omega, by go_num, by (repeat (first | with_reducible exact Ext.refl _ | with_reducible assumption | exact Ext.mk (by with_reducible assumption) | with_reducible refine Ext.alloc ?_ _ | with_reducible refine Ext.drewN ?_ _ | with_reducible refine Ext.drew ?_ | with_reducible refine Ext.setCell ?_ (by first | (simp; done) | assumption | (simp; omega)) _ | (with_reducible refine Ext.trans ?_ (by with_reducible assumption)))), _, rfl, by first | exact ft | exact fm, by first | exact fun _ => HT.out | (intro h; cases h; done) | exact fun _ => HM.out⟩, by simp [intOf]; omega⟩
        · rw [readT_stay hg] at hr
          subst hr
          have HG := Lib.hid hg
          clear hg
          cases h0 : timeB a0
          · have H0 := Lib.hid h0
            clear h0 hm
            cases ht : timeB t
            · have HT := Lib.hid ht
              clear ht
              go_wp2_with (first | (go_at_call 13; (with_reducible refine (R.out _).mono ?_); rintro e w2 ⟨rfl, rfl⟩) | (go_at_call 12; (with_reducible refine (may_yes _ _ H0.out).mono ?_); rintro e w3 ⟨rfl, rfl⟩) | (go_at_call 12; (with_reducible refine (may_no _ _ H0.out).mono ?_); rintro e w3 ⟨rfl, rfl⟩) | (go_at_call 12; (with_reducible refine (may_yes _ _ HT.out).mono ?_); rintro e w4 ⟨rfl, rfl⟩) | (go_at_call 12; (with_reducible refine (may_no _ _ HT.out).mono ?_); rintro e w4 ⟨rfl, rfl⟩) | (go_at_call 12; (with_reducible refine (may_yes _ _ HM.out).mono ?_); rintro e w5 ⟨rfl, rfl⟩))
              all_goals exact ⟨⟨k + 1, by omega, by go_num, by (repeat (first | with_reducible exact Ext.refl _ | with_reducible assumption | exact Ext.mk (by with_reducible assumption) | with_reducible refine Ext.alloc ?_ _ | with_reducible refine Ext.drewN ?_ _ | with_reducible refine Ext.drew ?_ | with_reducible refine Ext.setCell ?_ (by first | (simp; done) | assumption | (simp; omega)) _ | (with_reducible refine Ext.trans ?_ (by with_reducible assumption)))), _, rfl, by first | exact ft | exact fm, by first | exact fun _ => HT.out | (intro h; cases h; done) | exact fun _ => HM.out⟩, by simp [intOf]; omega⟩
            · have d2 : decide (m < t) = false := df (by have := HG.out; simp [ht] at this; omega)
              have HT := Lib.hid ht
              clear ht
              go_wp2_with (first | (go_at_call 13; (with_reducible refine (R.out _).mono ?_); rintro e w2 ⟨rfl, rfl⟩) | (go_at_call 12; (with_reducible refine (may_yes _ _ H0.out).mono ?_); rintro e w3 ⟨rfl, rfl⟩) | (go_at_call 12; (with_reducible refine (may_no _ _ H0.out).mono ?_); rintro e w3 ⟨rfl, rfl⟩) | (go_at_call 12; (with_reducible refine (may_yes _ _ HT.out).mono ?_); rintro e w4 ⟨rfl, rfl⟩) | (go_at_call 12; (with_reducible refine (may_no _ _ HT.out).mono ?_); rintro e w4 ⟨rfl, rfl⟩) | (go_at_call 12; (with_reducible refine (may_yes _ _ HM.out).mono ?_); rintro e w5 ⟨rfl, rfl⟩))
              all_goals exact ⟨⟨k + 1, by omega, by go_num, by (repeat (first | with_reducible exact Ext.refl _ | with_reducible assumption | exact Ext.mk (by with_reducible assumption) | with_reducible refine Ext.alloc ?_ _ | with_reducible refine Ext.drewN ?_ _ | with_reducible refine Ext.drew ?_ | with_reducible refine Ext.setCell ?_ (by first | (simp; done) | assumption | (simp; omega)) _ | (with_reducible refine Ext.trans ?_ (by with_reducible assumption)))), _, rfl, by first | exact ft | exact fm, by first | exact fun _ => HT.out | (intro h; cases h; done) | exact fun _ => HM.out⟩, by simp [intOf]; omega⟩
          · have H0 := Lib.hid h0
            have HM := Lib.hid (hm h0)
            clear h0 hm
            cases ht : timeB t
            · have HT := Lib.hid ht
              clear ht
              go_wp2_with (first | (go_at_call 13; (with_reducible refine (R.out _).mono ?_); rintro e w2 ⟨rfl, rfl⟩) | (go_at_call 12; (with_reducible refine (may_yes _ _ H0.out).mono ?_); rintro e w3 ⟨rfl, rfl⟩) | (go_at_call 12; (with_reducible refine (may_no _ _ H0.out).mono ?_); rintro e w3 ⟨rfl, rfl⟩) | (go_at_call 12; (with_reducible refine (may_yes _ _ HT.out).mono ?_); rintro e w4 ⟨rfl, rfl⟩) | (go_at_call 12; (with_reducible refine (may_no _ _ HT.out).mono ?_); rintro e w4 ⟨rfl, rfl⟩) | (go_at_call 12; (with_reducible refine (may_yes _ _ HM.out).mono ?_); rintro e w5 ⟨rfl, rfl⟩))
              all_goals exact ⟨⟨k + 1, by omega, by go_num, by (repeat (first | with_reducible exact Ext.refl _ | with_reducible assumption | exact Ext.mk (by with_reducible assumption) | with_reducible refine Ext.alloc ?_ _ | with_reducible refine Ext.drewN ?_ _ | with_reducible refine Ext.drew ?_ | with_reducible refine Ext.setCell ?_ (by first | (simp; done) | assumption | (simp; omega)) _ | (with_reducible refine Ext.trans ?_ (by with_reducible assumption)))), _, rfl, by first | exact ft | exact fm, by first | exact fun _ => HT.out | (intro h; cases h; done) | exact fun _ => HM.out⟩, by simp [intOf]; omega⟩
            · have d2 : decide (m < t) = false := df (by have := HG.out; simp [ht] at this; omega)
              have HT := Lib.hid ht
              clear ht
              go_wp2_with (first | (go_at_call 13; (with_reducible refine (R.out _).mono ?_); rintro e w2 ⟨rfl, rfl⟩) | (go_at_call 12; (with_reducible refine (may_yes _ _ H0.out).mono ?_); rintro e w3 ⟨rfl, rfl⟩) | (go_at_call 12; (with_reducible refine (may_no _ _ H0.out).mono ?_); rintro e w3 ⟨rfl, rfl⟩) | (go_at_call 12; (with_reducible refine (may_yes _ _ HT.out).mono ?_); rintro e w4 ⟨rfl, rfl⟩) | (go_at_call 12; (with_reducible refine (may_no _ _ HT.out).mono ?_); rintro e w4 ⟨rfl, rfl⟩) | (go_at_call 12; (with_reducible refine (may_yes _ _ HM.out).mono ?_); rintro e w5 ⟨rfl, rfl⟩))
              all_goals exact ⟨⟨k + 1, by omega, by go_num, by (repeat (first | with_reducible exact Ext.refl _ | with_reducible assumption | exact Ext.mk (by with_reducible assumption) | with_reducible refine Ext.alloc ?_ _ | with_reducible refine Ext.drewN ?_ _ | with_reducible refine Ext.drew ?_ | with_reducible refine Ext.setCell ?_ (by first | (simp; done) | assumption | (simp; omega)) _ | (with_reducible refine Ext.trans ?_ (by with_reducible assumption)))), _, rfl, by first | exact ft | exact fm, by first | exact fun _ => HT.out | (intro h; cases h; done) | exact fun _ => HM.out⟩, by simp [intOf]; omega⟩
    · go_upto_region 13 with fail
      by_cases hf : timeB m = true ∧ 1 ≤ a2
      · obtain ⟨hf1, hf2⟩ := hf
        obtain ⟨q, hq⟩ : ∃ q, m % a2 = q := ⟨_, rfl⟩
        have q0 : 0 ≤ q := by rw [← hq]; exact Int.emod_nonneg m (by omega)
        have q1 : q < a2 := by rw [← hq]; exact Int.emod_lt_of_pos m (by omega)
        have q2 : q ≤ m := by
          rw [← hq]
          have := Int.mul_ediv_add_emod m a2
          have h3 := Int.mul_nonneg (show 0 ≤ a2 by omega) (Int.ediv_nonneg (timeB_true hf1).1 (show 0 ≤ a2 by omega))
          omega
        obtain ⟨f, hff⟩ : ∃ f, m - q = f := ⟨_, rfl⟩
        have f0 : f % a2 = 0 := by
          rw [← hff, ← hq]
          have := Int.mul_ediv_add_emod m a2
          rw [show m - m % a2 = a2 * (m / a2) by omega]
          exact Int.mul_emod_right _ _
        have t1 := timeB_true hf1
        have tf : timeB f = true := by simp [timeB]; omega
        have C1 : Hid (∀ w, Calls Tryd.prog 14 #[.int .i64 m, .int .i64 a2] w fun e w' => e = .returned (.tuple #[.int .i64 f, .int .i64 0]) ∧ w = w') := by
          intro w; have k := tmFloor_yes m a2 w hf1 hf2; rw [hq, hff] at k; exact k
        have C2 : Hid (∀ w, Calls Tryd.prog 14 #[.int .i64 f, .int .i64 a2] w fun e w' => e = .returned (.tuple #[.int .i64 f, .int .i64 0]) ∧ w = w') := by
          intro w; have k := tmFloor_yes f a2 w tf hf2; rw [f0, Int.sub_zero] at k; exact k
        have d1 : decide (f ≤ m) = true := dt (by omega)
        have d2 : decide (wrap64 (m - f) < a2) = true := dt (by unfold wrap64; omega)
        have d3 : f.tmod a2 = 0 := by rw [Int.tmod_eq_emod_of_nonneg (by omega), f0]
        have d4 : a2 ≠ 0 := by omega
        clear hf1 hq f0 tf hff
        go_wp2_with (first | (go_at_call 14; (with_reducible refine (C1.out _).mono ?_); rintro e w5 ⟨rfl, rfl⟩) | (go_at_call 14; (with_reducible refine (C2.out _).mono ?_); rintro e w6 ⟨rfl, rfl⟩))
        go_ret
        refine ⟨rfl, ?_⟩
        (repeat (first | with_reducible exact Ext.refl _ | with_reducible assumption | exact Ext.mk (by with_reducible assumption) | with_reducible refine Ext.alloc ?_ _ | with_reducible refine Ext.drewN ?_ _ | with_reducible refine Ext.drew ?_ | with_reducible refine Ext.setCell ?_ (by first | (simp; done) | assumption | (simp; omega)) _ | (with_reducible refine Ext.trans ?_ (by with_reducible assumption))))
      · have hn : timeB m = false ∨ a2 < 1 := by
          cases h : timeB m
          · exact .inl rfl
          · exact .inr (by have : ¬ 1 ≤ a2 := fun h2 => hf ⟨h, h2⟩; omega)
        have HN := Lib.hid hn
        clear hn hf
        go_wp2_with (go_at_call 14; (with_reducible refine (tmFloor_no m a2 _ HN.out).mono ?_); rintro e w5 ⟨rfl, rfl⟩)
        go_ret
        refine ⟨rfl, ?_⟩
        (repeat (first | with_reducible exact Ext.refl _ | with_reducible assumption | exact Ext.mk (by with_reducible assumption) | with_reducible refine Ext.alloc ?_ _ | with_reducible refine Ext.drewN ?_ _ | with_reducible refine Ext.drew ?_ | with_reducible refine Ext.setCell ?_ (by first | (simp; done) | assumption | (simp; omega)) _ | (with_reducible refine Ext.trans ?_ (by with_reducible assumption))))
end Go.Proofs.YtkhmkenankdakabDoor
