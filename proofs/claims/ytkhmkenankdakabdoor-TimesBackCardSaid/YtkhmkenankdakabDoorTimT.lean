/- The order of texts of times: plain law; the law TimesOrder, walked. -/
import Derived.Test.YtkhmkenankdakabDoorTimH
namespace Go.Proofs.YtkhmkenankdakabDoor
open Go Go.RowKit
set_option linter.unusedSimpArgs false
set_option linter.unusedVariables false

theorem bl_irr : ∀ l : List UInt8, Op.bytesLess l l = false
  | [] => rfl
  | a :: l => by
    show (decide (a < a) || (a == a && Op.bytesLess l l)) = false
    rw [bl_irr l]
    have : ¬ a < a := by simp [UInt8.lt_iff_toNat_lt]
    simp [this]

theorem bl_lt : ∀ {x x' : List UInt8} (y y' : List UInt8), x.length = x'.length → Op.bytesLess x x' = true → Op.bytesLess (x ++ y) (x' ++ y') = true
  | [], [], _, _, _, h => by simp [Op.bytesLess] at h
  | [], _ :: _, _, _, hl, _ => by simp at hl
  | _ :: _, [], _, _, hl, _ => by simp at hl
  | a :: x, b :: x', y, y', hl, h => by
    have h' : (decide (a < b) || (a == b && Op.bytesLess x x')) = true := h
    show (decide (a < b) || (a == b && Op.bytesLess (x ++ y) (x' ++ y'))) = true
    simp only [Bool.or_eq_true, Bool.and_eq_true] at h' ⊢
    rcases h' with h' | ⟨h1, h2⟩
    · exact .inl h'
    · exact .inr ⟨h1, bl_lt y y' (by simpa using hl) h2⟩

theorem bl_eq : ∀ (x : List UInt8) {y y' : List UInt8}, Op.bytesLess y y' = true → Op.bytesLess (x ++ y) (x ++ y') = true
  | [], _, _, h => h
  | a :: x, y, y', h => by
    show (decide (a < a) || (a == a && Op.bytesLess (x ++ y) (x ++ y'))) = true
    simp [bl_eq x h]

theorem bl_asym : ∀ {x y : List UInt8}, Op.bytesLess x y = true → Op.bytesLess y x = false
  | _, [], h => by simp [Op.bytesLess] at h
  | [], _ :: _, _ => rfl
  | a :: x, b :: y, h => by
    have h' : (decide (a < b) || (a == b && Op.bytesLess x y)) = true := h
    show (decide (b < a) || (b == a && Op.bytesLess y x)) = false
    simp only [Bool.or_eq_true, Bool.and_eq_true, decide_eq_true_eq, beq_iff_eq] at h'
    rcases h' with h' | ⟨h1, h2⟩
    · have h1 : ¬ b < a := by rw [UInt8.lt_iff_toNat_lt] at h' ⊢; omega
      have h2 : ¬ b = a := by intro e; subst e; exact h1 h'
      simp [h1, h2]
    · subst h1
      have h1 : ¬ a < a := by rw [UInt8.lt_iff_toNat_lt]; omega
      simp [h1, bl_asym h2]

theorem bl_ne {x y : List UInt8} (h : Op.bytesLess x y = true) : (x == y) = false := by
  cases e : x == y
  · rfl
  · rw [beq_iff_eq] at e; subst e; rw [bl_irr] at h; cases h

theorem dg_nat {d : Int} (h0 : 0 ≤ d) (h1 : d ≤ 9) : ((dg d).toNat : Int) = 48 + d := by
  unfold dg
  simp only [UInt8.toNat_ofNat']
  omega

theorem dg_lt {d e : Int} (h0 : 0 ≤ d) (h : d < e) (h1 : e ≤ 9) : dg d < dg e := by
  rw [UInt8.lt_iff_toNat_lt]
  have a := dg_nat h0 (show d ≤ 9 by omega)
  have b := dg_nat (show 0 ≤ e by omega) h1
  omega

theorem bl_head {d e : Int} (x y : List UInt8) (h0 : 0 ≤ d) (h1 : e ≤ 9) (h : d < e ∨ d = e ∧ Op.bytesLess x y = true) : Op.bytesLess (dg d :: x) (dg e :: y) = true := by
  show (decide (dg d < dg e) || (dg d == dg e && Op.bytesLess x y)) = true
  rcases h with h | ⟨rfl, h⟩
  · simp [dg_lt h0 h h1]
  · simp [h]

theorem digs4 (n : Int) : digs n 4 4 = [dg (n / 1000 % 10), dg (n / 100 % 10), dg (n / 10 % 10), dg (n / 1 % 10)] := rfl

theorem digs2 (n : Int) : digs n 2 2 = [dg (n / 10 % 10), dg (n / 1 % 10)] := rfl

theorem four (n : Int) (h0 : 0 ≤ n) (h1 : n ≤ 9999) : n = 1000 * (n / 1000 % 10) + 100 * (n / 100 % 10) + 10 * (n / 10 % 10) + n / 1 % 10 := by
  have e1 : n / 100 / 10 = n / 1000 := by omega
  have e2 : n / 10 / 10 = n / 100 := by omega
  have e3 : n / 1 = n := by omega
  rw [e3]
  omega

theorem digs4_lt {n n' : Int} (h0 : 0 ≤ n) (h : n < n') (h1 : n' ≤ 9999) : Op.bytesLess (digs n 4 4) (digs n' 4 4) = true := by
  rw [digs4, digs4]
  have k := four n h0 (by omega)
  have k' := four n' (by omega) h1
  have b1 : 0 ≤ n / 1000 % 10 ∧ n / 1000 % 10 ≤ 9 ∧ 0 ≤ n / 100 % 10 ∧ n / 100 % 10 ≤ 9 ∧ 0 ≤ n / 10 % 10 ∧ n / 10 % 10 ≤ 9 ∧ 0 ≤ n / 1 % 10 ∧ n / 1 % 10 ≤ 9 := by omega
  have b2 : 0 ≤ n' / 1000 % 10 ∧ n' / 1000 % 10 ≤ 9 ∧ 0 ≤ n' / 100 % 10 ∧ n' / 100 % 10 ≤ 9 ∧ 0 ≤ n' / 10 % 10 ∧ n' / 10 % 10 ≤ 9 ∧ 0 ≤ n' / 1 % 10 ∧ n' / 1 % 10 ≤ 9 := by omega
  generalize n / 1000 % 10 = p at *
  generalize n / 100 % 10 = q at *
  generalize n / 10 % 10 = r at *
  generalize n / 1 % 10 = s at *
  generalize n' / 1000 % 10 = p' at *
  generalize n' / 100 % 10 = q' at *
  generalize n' / 10 % 10 = r' at *
  generalize n' / 1 % 10 = s' at *
  refine bl_head _ _ (by omega) (by omega) ?_
  by_cases a : p < p'
  · exact .inl a
  refine .inr ⟨by omega, bl_head _ _ (by omega) (by omega) ?_⟩
  by_cases b : q < q'
  · exact .inl b
  refine .inr ⟨by omega, bl_head _ _ (by omega) (by omega) ?_⟩
  by_cases c : r < r'
  · exact .inl c
  refine .inr ⟨by omega, bl_head _ _ (by omega) (by omega) (.inl ?_)⟩
  omega

theorem digs2_lt {n n' : Int} (h0 : 0 ≤ n) (h : n < n') (h1 : n' ≤ 99) : Op.bytesLess (digs n 2 2) (digs n' 2 2) = true := by
  rw [digs2, digs2]
  refine bl_head _ _ (by omega) (by omega) ?_
  by_cases c : n / 10 % 10 < n' / 10 % 10
  · exact .inl c
  refine .inr ⟨by omega, bl_head _ _ (by omega) (by omega) (.inl ?_)⟩
  omega

theorem txtC_lt {y m d a b c y' m' d' a' b' c' : Int} (n1 : 0 ≤ y) (n2 : 0 ≤ m) (n3 : 0 ≤ d) (n4 : 0 ≤ a) (n5 : 0 ≤ b) (n6 : 0 ≤ c)
    (m1 : y' ≤ 9999) (m2 : m' ≤ 99) (m3 : d' ≤ 99) (m4 : a' ≤ 99) (m5 : b' ≤ 99) (m6 : c' ≤ 99)
    (h : y < y' ∨ y = y' ∧ (m < m' ∨ m = m' ∧ (d < d' ∨ d = d' ∧ (a < a' ∨ a = a' ∧ (b < b' ∨ b = b' ∧ c < c'))))) :
    Op.bytesLess (txtC y m d a b c) (txtC y' m' d' a' b' c') = true := by
  simp only [txtC, List.append_assoc, List.nil_append]
  rcases h with h | ⟨rfl, h⟩
  · exact bl_lt _ _ (by simp [digs_length]) (digs4_lt n1 h m1)
  refine bl_eq _ (bl_eq _ ?_)
  rcases h with h | ⟨rfl, h⟩
  · exact bl_lt _ _ (by simp [digs_length]) (digs2_lt n2 h m2)
  refine bl_eq _ (bl_eq _ ?_)
  rcases h with h | ⟨rfl, h⟩
  · exact bl_lt _ _ (by simp [digs_length]) (digs2_lt n3 h m3)
  refine bl_eq _ (bl_eq _ ?_)
  rcases h with h | ⟨rfl, h⟩
  · exact bl_lt _ _ (by simp [digs_length]) (digs2_lt n4 h m4)
  refine bl_eq _ (bl_eq _ ?_)
  rcases h with h | ⟨rfl, h⟩
  · exact bl_lt _ _ (by simp [digs_length]) (digs2_lt n5 h m5)
  refine bl_eq _ (bl_eq _ ?_)
  exact bl_lt _ _ (by simp [digs_length]) (digs2_lt n6 h m6)

theorem num_lex {y m d y' m' d' : Int} (h : Cal.okd y m d = true) (h' : Cal.okd y' m' d' = true) (k : Cal.num y m d < Cal.num y' m' d') : y < y' ∨ y = y' ∧ (m < m' ∨ m = m' ∧ d < d') := by
  have a := Cal.num_year h
  have a' := Cal.num_year h'
  have hm := Cal.okd_month h
  have hm' := Cal.okd_month h'
  obtain ⟨_, _, d1, d2⟩ := Cal.okd_iff.mp h
  obtain ⟨_, _, d1', d2'⟩ := Cal.okd_iff.mp h'
  rcases Int.lt_trichotomy y y' with q | q | q
  · exact .inl q
  · subst q
    refine .inr ⟨rfl, ?_⟩
    unfold Cal.num at k
    rcases Int.lt_trichotomy m m' with q | q | q
    · exact .inl q
    · subst q; exact .inr ⟨rfl, by omega⟩
    · have := Cal.cum_lt y m' m hm'.1 q hm.2; omega
  · have := Cal.dby_lt y' y q; omega

/-- a time's text -/
noncomputable def txtT (t : Int) : List UInt8 := txtC (Cal.dat (t / 86400)).1 (Cal.dat (t / 86400)).2.1 (Cal.dat (t / 86400)).2.2 (t % 86400 / 3600) (t % 3600 / 60) (t % 60)

theorem txtT_lt {t s : Int} (ht : timeB t = true) (hs : timeB s = true) (h : t < s) : Op.bytesLess (txtT t) (txtT s) = true := by
  obtain ⟨t1, t2⟩ := dayB_true (time_day ht)
  obtain ⟨s1, s2⟩ := dayB_true (time_day hs)
  obtain ⟨o1, p1⟩ := Cal.dat_ok _ t1 t2
  obtain ⟨o2, p2⟩ := Cal.dat_ok _ s1 s2
  have a1 := Cal.okd_iff.mp o1
  have a2 := Cal.okd_iff.mp o2
  have b1 := Cal.okd_month o1
  have b2 := Cal.okd_month o2
  have e := (Cal.long_bd (Cal.dat (s / 86400)).1 (Cal.dat (s / 86400)).2.1).2
  refine txtC_lt (by omega) (by omega) (by omega) (by omega) (by omega) (by omega) (by omega) (by omega) (by omega) (by omega) (by omega) (by omega) ?_
  by_cases hd : t / 86400 < s / 86400
  · rcases num_lex o1 o2 (by omega) with h | ⟨h1, h | ⟨h2, h3⟩⟩
    · exact .inl h
    · exact .inr ⟨h1, .inl h⟩
    · exact .inr ⟨h1, .inr ⟨h2, .inl h3⟩⟩
  · have hq : t / 86400 = s / 86400 := by omega
    rw [hq]
    refine .inr ⟨rfl, .inr ⟨rfl, .inr ⟨rfl, ?_⟩⟩⟩
    omega

theorem text_yes' (t : Int) (w : World) (h : timeB t = true) : Calls Tryd.prog 10 #[.int .i64 t] w fun e w' => e = .returned (.tuple #[.string ⟨(txtT t).toArray⟩, .int .i64 0]) ∧ Ext w w' := text_yes t _ _ _ w h rfl

theorem add_c_yes {t n u : Int} (h : addT t n = true) (e : t + n = u) : Hid (∀ w, Calls Tryd.prog 11 #[.int .i64 t, .int .i64 n] w fun e w' => e = .returned (.tuple #[.int .i64 u, .int .i64 0]) ∧ w = w') := fun w => by have k := tmAdd_yes t n w h; rw [e] at k; exact k

theorem add_c_no {t n : Int} (h : addT t n = false) (hn : I64 n) : Hid (∀ w, Calls Tryd.prog 11 #[.int .i64 t, .int .i64 n] w fun e w' => e = .returned (.tuple #[.int .i64 0, .int .i64 2]) ∧ w = w') := fun w => tmAdd_no t n w h hn

theorem addT_iff {t n : Int} : addT t n = true ↔ (0 ≤ t ∧ t ≤ 253402300799) ∧ (0 ≤ t + n ∧ t + n ≤ 253402300799) := by simp [addT, timeB]

theorem addT_not {t n : Int} (h : ¬ ((0 ≤ t ∧ t ≤ 253402300799) ∧ (0 ≤ t + n ∧ t + n ≤ 253402300799))) : addT t n = false := by
  cases e : addT t n
  · rfl
  · exact absurd (addT_iff.mp e) h

theorem addT_neg {t n : Int} (h : addT t n = false) : ¬ ((0 ≤ t ∧ t ≤ 253402300799) ∧ (0 ≤ t + n ∧ t + n ≤ 253402300799)) := fun k => by
  rw [addT_iff.mpr k] at h; cases h

theorem may_c {s : Int} (h : timeB s = true) : Hid (∀ w, Calls Tryd.prog 12 #[.int .i64 s] w fun e w' => e = .returned (.bool true) ∧ w = w') := fun w => may_yes s w h

set_option maxHeartbeats 8000000 in
set_option maxRecDepth 100000 in
theorem walk_TimesOrder (a b n : Int) (w : World) (w0 : (Lit.int .i64 a).wf = true) (w1 : (Lit.int .i64 b).wf = true) (w2 : (Lit.int .i64 n).wf = true) (hL : DaysLaid w) :
    Calls Tryd.prog 3 #[.int .i64 a, .int .i64 b, .int .i64 n] w fun e w' => e = .returned (.bool true) ∧ Ext w w' := by
  have fb : I64 b := i64_range w1
  have fn : I64 n := i64_range w2
  clear w0 w1 w2
  cases ha : timeB a
  · have CX : Hid (∀ w, Calls Tryd.prog 10 #[.int .i64 a] w fun e w' => e = .returned (.tuple #[.string ⟨#[]⟩, .int .i64 2]) ∧ Ext w w') := fun w => text_no a w ha
    have A1 := add_c_no (t := a) (n := b) (by simp [addT, ha]) fb
    cases hb : timeB b
    · have CY : Hid (∀ w, Calls Tryd.prog 10 #[.int .i64 b] w fun e w' => e = .returned (.tuple #[.string ⟨#[]⟩, .int .i64 2]) ∧ Ext w w') := fun w => text_no b w hb
      clear ha hb
      go_enter Tryd.func3, Tryd.ntmps3
      go_wp2_with (first | (go_at_call 9; (with_reducible refine (timesWakes _ hL).mono ?_); rintro e w1 ⟨rfl, E1⟩; have hc1 := E1.2.1; have hf1 := E1.2.2; have hz1 := E1.size; have ht1 := E1.sizes; (try simp [Nat.add_one_le_iff] at hz1); (try have hy1 := Nat.le_of_lt hz1)) | (go_at_call 10; (with_reducible refine (CX.out _).mono ?_); rintro e w2 ⟨rfl, E2⟩; have hc2 := E2.2.1; have hf2 := E2.2.2; have hz2 := E2.size; have ht2 := E2.sizes; (try simp [Nat.add_one_le_iff] at hz2); (try have hy2 := Nat.le_of_lt hz2)) | (go_at_call 10; (with_reducible refine (CY.out _).mono ?_); rintro e w3 ⟨rfl, E3⟩; have hc3 := E3.2.1; have hf3 := E3.2.2; have hz3 := E3.size; have ht3 := E3.sizes; (try simp [Nat.add_one_le_iff] at hz3); (try have hy3 := Nat.le_of_lt hz3)) | (go_at_call 11; (with_reducible refine (A1.out _).mono ?_); rintro e w4 ⟨rfl, rfl⟩))
      all_goals (go_ret; refine ⟨rfl, ?_⟩; (repeat (first | with_reducible exact Ext.refl _ | with_reducible assumption | exact Ext.mk (by with_reducible assumption) | with_reducible refine Ext.alloc ?_ _ | with_reducible refine Ext.drewN ?_ _ | with_reducible refine Ext.drew ?_ | with_reducible refine Ext.setCell ?_ (by first | (simp; done) | assumption | (simp; omega)) _ | (with_reducible refine Ext.trans ?_ (by with_reducible assumption)))))
    · obtain ⟨Y, hY⟩ : ∃ Y : ByteArray, ⟨(txtT b).toArray⟩ = Y := ⟨_, rfl⟩
      have CY : Hid (∀ w, Calls Tryd.prog 10 #[.int .i64 b] w fun e w' => e = .returned (.tuple #[.string Y, .int .i64 0]) ∧ Ext w w') := fun w => by have k := text_yes' b w hb; rw [hY] at k; exact k
      clear ha hb hY
      go_enter Tryd.func3, Tryd.ntmps3
      go_wp2_with (first | (go_at_call 9; (with_reducible refine (timesWakes _ hL).mono ?_); rintro e w1 ⟨rfl, E1⟩; have hc1 := E1.2.1; have hf1 := E1.2.2; have hz1 := E1.size; have ht1 := E1.sizes; (try simp [Nat.add_one_le_iff] at hz1); (try have hy1 := Nat.le_of_lt hz1)) | (go_at_call 10; (with_reducible refine (CX.out _).mono ?_); rintro e w2 ⟨rfl, E2⟩; have hc2 := E2.2.1; have hf2 := E2.2.2; have hz2 := E2.size; have ht2 := E2.sizes; (try simp [Nat.add_one_le_iff] at hz2); (try have hy2 := Nat.le_of_lt hz2)) | (go_at_call 10; (with_reducible refine (CY.out _).mono ?_); rintro e w3 ⟨rfl, E3⟩; have hc3 := E3.2.1; have hf3 := E3.2.2; have hz3 := E3.size; have ht3 := E3.sizes; (try simp [Nat.add_one_le_iff] at hz3); (try have hy3 := Nat.le_of_lt hz3)) | (go_at_call 11; (with_reducible refine (A1.out _).mono ?_); rintro e w4 ⟨rfl, rfl⟩))
      all_goals (go_ret; refine ⟨rfl, ?_⟩; (repeat (first | with_reducible exact Ext.refl _ | with_reducible assumption | exact Ext.mk (by with_reducible assumption) | with_reducible refine Ext.alloc ?_ _ | with_reducible refine Ext.drewN ?_ _ | with_reducible refine Ext.drew ?_ | with_reducible refine Ext.setCell ?_ (by first | (simp; done) | assumption | (simp; omega)) _ | (with_reducible refine Ext.trans ?_ (by with_reducible assumption)))))
  · obtain ⟨X, hX⟩ : ∃ X : ByteArray, ⟨(txtT a).toArray⟩ = X := ⟨_, rfl⟩
    have CX : Hid (∀ w, Calls Tryd.prog 10 #[.int .i64 a] w fun e w' => e = .returned (.tuple #[.string X, .int .i64 0]) ∧ Ext w w') := fun w => by have k := text_yes' a w ha; rw [hX] at k; exact k
    cases hb : timeB b
    · have CY : Hid (∀ w, Calls Tryd.prog 10 #[.int .i64 b] w fun e w' => e = .returned (.tuple #[.string ⟨#[]⟩, .int .i64 2]) ∧ Ext w w') := fun w => text_no b w hb
      clear ha hb hX
      cases hab : addT a b
      · have A1 := add_c_no hab fb
        clear hab
        go_enter Tryd.func3, Tryd.ntmps3
        go_wp2_with (first | (go_at_call 9; (with_reducible refine (timesWakes _ hL).mono ?_); rintro e w1 ⟨rfl, E1⟩; have hc1 := E1.2.1; have hf1 := E1.2.2; have hz1 := E1.size; have ht1 := E1.sizes; (try simp [Nat.add_one_le_iff] at hz1); (try have hy1 := Nat.le_of_lt hz1)) | (go_at_call 10; (with_reducible refine (CX.out _).mono ?_); rintro e w2 ⟨rfl, E2⟩; have hc2 := E2.2.1; have hf2 := E2.2.2; have hz2 := E2.size; have ht2 := E2.sizes; (try simp [Nat.add_one_le_iff] at hz2); (try have hy2 := Nat.le_of_lt hz2)) | (go_at_call 10; (with_reducible refine (CY.out _).mono ?_); rintro e w3 ⟨rfl, E3⟩; have hc3 := E3.2.1; have hf3 := E3.2.2; have hz3 := E3.size; have ht3 := E3.sizes; (try simp [Nat.add_one_le_iff] at hz3); (try have hy3 := Nat.le_of_lt hz3)) | (go_at_call 11; (with_reducible refine (A1.out _).mono ?_); rintro e w4 ⟨rfl, rfl⟩))
        all_goals (go_ret; refine ⟨rfl, ?_⟩; (repeat (first | with_reducible exact Ext.refl _ | with_reducible assumption | exact Ext.mk (by with_reducible assumption) | with_reducible refine Ext.alloc ?_ _ | with_reducible refine Ext.drewN ?_ _ | with_reducible refine Ext.drew ?_ | with_reducible refine Ext.setCell ?_ (by first | (simp; done) | assumption | (simp; omega)) _ | (with_reducible refine Ext.trans ?_ (by with_reducible assumption)))))
      · obtain ⟨⟨a1, a2⟩, b1, b2⟩ := addT_iff.mp hab
        obtain ⟨s, hs⟩ : ∃ s, a + b = s := ⟨_, rfl⟩
        have A1 := add_c_yes hab hs
        rw [hs] at b1 b2
        have MS := may_c (s := s) (by simp [timeB]; omega)
        have q1 : decide (253402300799 < b) = false := df (by omega)
        have q2 : decide (b < -253402300799) = false := df (by omega)
        clear hab
        by_cases n1 : 253402300799 < n
        · have A2 := add_c_no (t := s) (n := n) (addT_not (by omega)) fn
          have q3 := dt n1
          clear hs a1 a2
          go_enter Tryd.func3, Tryd.ntmps3
          go_wp2_with (first | (go_at_call 9; (with_reducible refine (timesWakes _ hL).mono ?_); rintro e w1 ⟨rfl, E1⟩; have hc1 := E1.2.1; have hf1 := E1.2.2; have hz1 := E1.size; have ht1 := E1.sizes; (try simp [Nat.add_one_le_iff] at hz1); (try have hy1 := Nat.le_of_lt hz1)) | (go_at_call 10; (with_reducible refine (CX.out _).mono ?_); rintro e w2 ⟨rfl, E2⟩; have hc2 := E2.2.1; have hf2 := E2.2.2; have hz2 := E2.size; have ht2 := E2.sizes; (try simp [Nat.add_one_le_iff] at hz2); (try have hy2 := Nat.le_of_lt hz2)) | (go_at_call 10; (with_reducible refine (CY.out _).mono ?_); rintro e w3 ⟨rfl, E3⟩; have hc3 := E3.2.1; have hf3 := E3.2.2; have hz3 := E3.size; have ht3 := E3.sizes; (try simp [Nat.add_one_le_iff] at hz3); (try have hy3 := Nat.le_of_lt hz3)) | (go_at_call 11; (with_reducible refine (A1.out _).mono ?_); rintro e w4 ⟨rfl, rfl⟩) | (go_at_call 11; (with_reducible refine (A2.out _).mono ?_); rintro e w5 ⟨rfl, rfl⟩))
          all_goals (go_ret; refine ⟨rfl, ?_⟩; (repeat (first | with_reducible exact Ext.refl _ | with_reducible assumption | exact Ext.mk (by with_reducible assumption) | with_reducible refine Ext.alloc ?_ _ | with_reducible refine Ext.drewN ?_ _ | with_reducible refine Ext.drew ?_ | with_reducible refine Ext.setCell ?_ (by first | (simp; done) | assumption | (simp; omega)) _ | (with_reducible refine Ext.trans ?_ (by with_reducible assumption)))))
        · have q3 := df n1
          by_cases n2 : n < -253402300799
          · have A2 := add_c_no (t := s) (n := n) (addT_not (by omega)) fn
            have q4 := dt n2
            clear hs a1 a2
            go_enter Tryd.func3, Tryd.ntmps3
            go_wp2_with (first | (go_at_call 9; (with_reducible refine (timesWakes _ hL).mono ?_); rintro e w1 ⟨rfl, E1⟩; have hc1 := E1.2.1; have hf1 := E1.2.2; have hz1 := E1.size; have ht1 := E1.sizes; (try simp [Nat.add_one_le_iff] at hz1); (try have hy1 := Nat.le_of_lt hz1)) | (go_at_call 10; (with_reducible refine (CX.out _).mono ?_); rintro e w2 ⟨rfl, E2⟩; have hc2 := E2.2.1; have hf2 := E2.2.2; have hz2 := E2.size; have ht2 := E2.sizes; (try simp [Nat.add_one_le_iff] at hz2); (try have hy2 := Nat.le_of_lt hz2)) | (go_at_call 10; (with_reducible refine (CY.out _).mono ?_); rintro e w3 ⟨rfl, E3⟩; have hc3 := E3.2.1; have hf3 := E3.2.2; have hz3 := E3.size; have ht3 := E3.sizes; (try simp [Nat.add_one_le_iff] at hz3); (try have hy3 := Nat.le_of_lt hz3)) | (go_at_call 11; (with_reducible refine (A1.out _).mono ?_); rintro e w4 ⟨rfl, rfl⟩) | (go_at_call 11; (with_reducible refine (A2.out _).mono ?_); rintro e w5 ⟨rfl, rfl⟩))
            all_goals (go_ret; refine ⟨rfl, ?_⟩; (repeat (first | with_reducible exact Ext.refl _ | with_reducible assumption | exact Ext.mk (by with_reducible assumption) | with_reducible refine Ext.alloc ?_ _ | with_reducible refine Ext.drewN ?_ _ | with_reducible refine Ext.drew ?_ | with_reducible refine Ext.setCell ?_ (by first | (simp; done) | assumption | (simp; omega)) _ | (with_reducible refine Ext.trans ?_ (by with_reducible assumption)))))
          · have q4 := df n2
            obtain ⟨bn, hbn⟩ : ∃ bn, b + n = bn := ⟨_, rfl⟩
            have q5 : wrap64 bn = bn := by unfold wrap64; omega
            cases hsn : addT s n
            · have A2 := add_c_no hsn fn
              have A3 := add_c_no (t := a) (n := bn) (addT_not (fun k => addT_neg hsn (by omega))) (by unfold I64; omega)
              clear hs a1 a2 hsn
              go_enter Tryd.func3, Tryd.ntmps3
              go_wp2_with (first | (go_at_call 9; (with_reducible refine (timesWakes _ hL).mono ?_); rintro e w1 ⟨rfl, E1⟩; have hc1 := E1.2.1; have hf1 := E1.2.2; have hz1 := E1.size; have ht1 := E1.sizes; (try simp [Nat.add_one_le_iff] at hz1); (try have hy1 := Nat.le_of_lt hz1)) | (go_at_call 10; (with_reducible refine (CX.out _).mono ?_); rintro e w2 ⟨rfl, E2⟩; have hc2 := E2.2.1; have hf2 := E2.2.2; have hz2 := E2.size; have ht2 := E2.sizes; (try simp [Nat.add_one_le_iff] at hz2); (try have hy2 := Nat.le_of_lt hz2)) | (go_at_call 10; (with_reducible refine (CY.out _).mono ?_); rintro e w3 ⟨rfl, E3⟩; have hc3 := E3.2.1; have hf3 := E3.2.2; have hz3 := E3.size; have ht3 := E3.sizes; (try simp [Nat.add_one_le_iff] at hz3); (try have hy3 := Nat.le_of_lt hz3)) | (go_at_call 11; (with_reducible refine (A1.out _).mono ?_); rintro e w4 ⟨rfl, rfl⟩) | (go_at_call 11; (with_reducible refine (A2.out _).mono ?_); rintro e w5 ⟨rfl, rfl⟩) | (go_at_call 11; (with_reducible refine (A3.out _).mono ?_); rintro e w6 ⟨rfl, rfl⟩) | (go_at_call 12; (with_reducible refine (MS.out _).mono ?_); rintro e w7 ⟨rfl, rfl⟩))
              all_goals (go_ret; refine ⟨rfl, ?_⟩; (repeat (first | with_reducible exact Ext.refl _ | with_reducible assumption | exact Ext.mk (by with_reducible assumption) | with_reducible refine Ext.alloc ?_ _ | with_reducible refine Ext.drewN ?_ _ | with_reducible refine Ext.drew ?_ | with_reducible refine Ext.setCell ?_ (by first | (simp; done) | assumption | (simp; omega)) _ | (with_reducible refine Ext.trans ?_ (by with_reducible assumption)))))
            · obtain ⟨u, hu⟩ : ∃ u, s + n = u := ⟨_, rfl⟩
              have A2 := add_c_yes hsn hu
              have A3 := add_c_yes (t := a) (n := bn) (u := u) (addT_iff.mpr (by have := addT_iff.mp hsn; omega)) (by omega)
              clear hs a1 a2 hsn hu
              go_enter Tryd.func3, Tryd.ntmps3
              go_wp2_with (first | (go_at_call 9; (with_reducible refine (timesWakes _ hL).mono ?_); rintro e w1 ⟨rfl, E1⟩; have hc1 := E1.2.1; have hf1 := E1.2.2; have hz1 := E1.size; have ht1 := E1.sizes; (try simp [Nat.add_one_le_iff] at hz1); (try have hy1 := Nat.le_of_lt hz1)) | (go_at_call 10; (with_reducible refine (CX.out _).mono ?_); rintro e w2 ⟨rfl, E2⟩; have hc2 := E2.2.1; have hf2 := E2.2.2; have hz2 := E2.size; have ht2 := E2.sizes; (try simp [Nat.add_one_le_iff] at hz2); (try have hy2 := Nat.le_of_lt hz2)) | (go_at_call 10; (with_reducible refine (CY.out _).mono ?_); rintro e w3 ⟨rfl, E3⟩; have hc3 := E3.2.1; have hf3 := E3.2.2; have hz3 := E3.size; have ht3 := E3.sizes; (try simp [Nat.add_one_le_iff] at hz3); (try have hy3 := Nat.le_of_lt hz3)) | (go_at_call 11; (with_reducible refine (A1.out _).mono ?_); rintro e w4 ⟨rfl, rfl⟩) | (go_at_call 11; (with_reducible refine (A2.out _).mono ?_); rintro e w5 ⟨rfl, rfl⟩) | (go_at_call 11; (with_reducible refine (A3.out _).mono ?_); rintro e w6 ⟨rfl, rfl⟩) | (go_at_call 12; (with_reducible refine (MS.out _).mono ?_); rintro e w7 ⟨rfl, rfl⟩))
              all_goals (go_ret; refine ⟨rfl, ?_⟩; (repeat (first | with_reducible exact Ext.refl _ | with_reducible assumption | exact Ext.mk (by with_reducible assumption) | with_reducible refine Ext.alloc ?_ _ | with_reducible refine Ext.drewN ?_ _ | with_reducible refine Ext.drew ?_ | with_reducible refine Ext.setCell ?_ (by first | (simp; done) | assumption | (simp; omega)) _ | (with_reducible refine Ext.trans ?_ (by with_reducible assumption)))))
    · obtain ⟨Y, hY⟩ : ∃ Y : ByteArray, ⟨(txtT b).toArray⟩ = Y := ⟨_, rfl⟩
      have CY : Hid (∀ w, Calls Tryd.prog 10 #[.int .i64 b] w fun e w' => e = .returned (.tuple #[.string Y, .int .i64 0]) ∧ Ext w w') := fun w => by have k := text_yes' b w hb; rw [hY] at k; exact k
      have eX : X.toList = txtT a := by rw [← hX]; simp
      have eY : Y.toList = txtT b := by rw [← hY]; simp
      rcases Int.lt_trichotomy a b with h | h | h
      · have l1 : Op.bytesLess X.toList Y.toList = true := by rw [eX, eY]; exact txtT_lt ha hb h
        have l2 : (X.toList == Y.toList) = false := bl_ne l1
        have l3 : decide (a < b) = true := dt h
        have l4 : (a == b) = false := by simp; omega
        clear ha hb hX hY eX eY
        cases hab : addT a b
        · have A1 := add_c_no hab fb
          clear hab
          go_enter Tryd.func3, Tryd.ntmps3
          go_wp2_with (first | (go_at_call 9; (with_reducible refine (timesWakes _ hL).mono ?_); rintro e w1 ⟨rfl, E1⟩; have hc1 := E1.2.1; have hf1 := E1.2.2; have hz1 := E1.size; have ht1 := E1.sizes; (try simp [Nat.add_one_le_iff] at hz1); (try have hy1 := Nat.le_of_lt hz1)) | (go_at_call 10; (with_reducible refine (CX.out _).mono ?_); rintro e w2 ⟨rfl, E2⟩; have hc2 := E2.2.1; have hf2 := E2.2.2; have hz2 := E2.size; have ht2 := E2.sizes; (try simp [Nat.add_one_le_iff] at hz2); (try have hy2 := Nat.le_of_lt hz2)) | (go_at_call 10; (with_reducible refine (CY.out _).mono ?_); rintro e w3 ⟨rfl, E3⟩; have hc3 := E3.2.1; have hf3 := E3.2.2; have hz3 := E3.size; have ht3 := E3.sizes; (try simp [Nat.add_one_le_iff] at hz3); (try have hy3 := Nat.le_of_lt hz3)) | (go_at_call 11; (with_reducible refine (A1.out _).mono ?_); rintro e w4 ⟨rfl, rfl⟩))
          all_goals (go_ret; refine ⟨rfl, ?_⟩; (repeat (first | with_reducible exact Ext.refl _ | with_reducible assumption | exact Ext.mk (by with_reducible assumption) | with_reducible refine Ext.alloc ?_ _ | with_reducible refine Ext.drewN ?_ _ | with_reducible refine Ext.drew ?_ | with_reducible refine Ext.setCell ?_ (by first | (simp; done) | assumption | (simp; omega)) _ | (with_reducible refine Ext.trans ?_ (by with_reducible assumption)))))
        · obtain ⟨⟨a1, a2⟩, b1, b2⟩ := addT_iff.mp hab
          obtain ⟨s, hs⟩ : ∃ s, a + b = s := ⟨_, rfl⟩
          have A1 := add_c_yes hab hs
          rw [hs] at b1 b2
          have MS := may_c (s := s) (by simp [timeB]; omega)
          have q1 : decide (253402300799 < b) = false := df (by omega)
          have q2 : decide (b < -253402300799) = false := df (by omega)
          clear hab
          by_cases n1 : 253402300799 < n
          · have A2 := add_c_no (t := s) (n := n) (addT_not (by omega)) fn
            have q3 := dt n1
            clear hs a1 a2
            go_enter Tryd.func3, Tryd.ntmps3
            go_wp2_with (first | (go_at_call 9; (with_reducible refine (timesWakes _ hL).mono ?_); rintro e w1 ⟨rfl, E1⟩; have hc1 := E1.2.1; have hf1 := E1.2.2; have hz1 := E1.size; have ht1 := E1.sizes; (try simp [Nat.add_one_le_iff] at hz1); (try have hy1 := Nat.le_of_lt hz1)) | (go_at_call 10; (with_reducible refine (CX.out _).mono ?_); rintro e w2 ⟨rfl, E2⟩; have hc2 := E2.2.1; have hf2 := E2.2.2; have hz2 := E2.size; have ht2 := E2.sizes; (try simp [Nat.add_one_le_iff] at hz2); (try have hy2 := Nat.le_of_lt hz2)) | (go_at_call 10; (with_reducible refine (CY.out _).mono ?_); rintro e w3 ⟨rfl, E3⟩; have hc3 := E3.2.1; have hf3 := E3.2.2; have hz3 := E3.size; have ht3 := E3.sizes; (try simp [Nat.add_one_le_iff] at hz3); (try have hy3 := Nat.le_of_lt hz3)) | (go_at_call 11; (with_reducible refine (A1.out _).mono ?_); rintro e w4 ⟨rfl, rfl⟩) | (go_at_call 11; (with_reducible refine (A2.out _).mono ?_); rintro e w5 ⟨rfl, rfl⟩))
            all_goals (go_ret; refine ⟨rfl, ?_⟩; (repeat (first | with_reducible exact Ext.refl _ | with_reducible assumption | exact Ext.mk (by with_reducible assumption) | with_reducible refine Ext.alloc ?_ _ | with_reducible refine Ext.drewN ?_ _ | with_reducible refine Ext.drew ?_ | with_reducible refine Ext.setCell ?_ (by first | (simp; done) | assumption | (simp; omega)) _ | (with_reducible refine Ext.trans ?_ (by with_reducible assumption)))))
          · have q3 := df n1
            by_cases n2 : n < -253402300799
            · have A2 := add_c_no (t := s) (n := n) (addT_not (by omega)) fn
              have q4 := dt n2
              clear hs a1 a2
              go_enter Tryd.func3, Tryd.ntmps3
              go_wp2_with (first | (go_at_call 9; (with_reducible refine (timesWakes _ hL).mono ?_); rintro e w1 ⟨rfl, E1⟩; have hc1 := E1.2.1; have hf1 := E1.2.2; have hz1 := E1.size; have ht1 := E1.sizes; (try simp [Nat.add_one_le_iff] at hz1); (try have hy1 := Nat.le_of_lt hz1)) | (go_at_call 10; (with_reducible refine (CX.out _).mono ?_); rintro e w2 ⟨rfl, E2⟩; have hc2 := E2.2.1; have hf2 := E2.2.2; have hz2 := E2.size; have ht2 := E2.sizes; (try simp [Nat.add_one_le_iff] at hz2); (try have hy2 := Nat.le_of_lt hz2)) | (go_at_call 10; (with_reducible refine (CY.out _).mono ?_); rintro e w3 ⟨rfl, E3⟩; have hc3 := E3.2.1; have hf3 := E3.2.2; have hz3 := E3.size; have ht3 := E3.sizes; (try simp [Nat.add_one_le_iff] at hz3); (try have hy3 := Nat.le_of_lt hz3)) | (go_at_call 11; (with_reducible refine (A1.out _).mono ?_); rintro e w4 ⟨rfl, rfl⟩) | (go_at_call 11; (with_reducible refine (A2.out _).mono ?_); rintro e w5 ⟨rfl, rfl⟩))
              all_goals (go_ret; refine ⟨rfl, ?_⟩; (repeat (first | with_reducible exact Ext.refl _ | with_reducible assumption | exact Ext.mk (by with_reducible assumption) | with_reducible refine Ext.alloc ?_ _ | with_reducible refine Ext.drewN ?_ _ | with_reducible refine Ext.drew ?_ | with_reducible refine Ext.setCell ?_ (by first | (simp; done) | assumption | (simp; omega)) _ | (with_reducible refine Ext.trans ?_ (by with_reducible assumption)))))
            · have q4 := df n2
              obtain ⟨bn, hbn⟩ : ∃ bn, b + n = bn := ⟨_, rfl⟩
              have q5 : wrap64 bn = bn := by unfold wrap64; omega
              cases hsn : addT s n
              · have A2 := add_c_no hsn fn
                have A3 := add_c_no (t := a) (n := bn) (addT_not (fun k => addT_neg hsn (by omega))) (by unfold I64; omega)
                clear hs a1 a2 hsn
                go_enter Tryd.func3, Tryd.ntmps3
                go_wp2_with (first | (go_at_call 9; (with_reducible refine (timesWakes _ hL).mono ?_); rintro e w1 ⟨rfl, E1⟩; have hc1 := E1.2.1; have hf1 := E1.2.2; have hz1 := E1.size; have ht1 := E1.sizes; (try simp [Nat.add_one_le_iff] at hz1); (try have hy1 := Nat.le_of_lt hz1)) | (go_at_call 10; (with_reducible refine (CX.out _).mono ?_); rintro e w2 ⟨rfl, E2⟩; have hc2 := E2.2.1; have hf2 := E2.2.2; have hz2 := E2.size; have ht2 := E2.sizes; (try simp [Nat.add_one_le_iff] at hz2); (try have hy2 := Nat.le_of_lt hz2)) | (go_at_call 10; (with_reducible refine (CY.out _).mono ?_); rintro e w3 ⟨rfl, E3⟩; have hc3 := E3.2.1; have hf3 := E3.2.2; have hz3 := E3.size; have ht3 := E3.sizes; (try simp [Nat.add_one_le_iff] at hz3); (try have hy3 := Nat.le_of_lt hz3)) | (go_at_call 11; (with_reducible refine (A1.out _).mono ?_); rintro e w4 ⟨rfl, rfl⟩) | (go_at_call 11; (with_reducible refine (A2.out _).mono ?_); rintro e w5 ⟨rfl, rfl⟩) | (go_at_call 11; (with_reducible refine (A3.out _).mono ?_); rintro e w6 ⟨rfl, rfl⟩) | (go_at_call 12; (with_reducible refine (MS.out _).mono ?_); rintro e w7 ⟨rfl, rfl⟩))
                all_goals (go_ret; refine ⟨rfl, ?_⟩; (repeat (first | with_reducible exact Ext.refl _ | with_reducible assumption | exact Ext.mk (by with_reducible assumption) | with_reducible refine Ext.alloc ?_ _ | with_reducible refine Ext.drewN ?_ _ | with_reducible refine Ext.drew ?_ | with_reducible refine Ext.setCell ?_ (by first | (simp; done) | assumption | (simp; omega)) _ | (with_reducible refine Ext.trans ?_ (by with_reducible assumption)))))
              · obtain ⟨u, hu⟩ : ∃ u, s + n = u := ⟨_, rfl⟩
                have A2 := add_c_yes hsn hu
                have A3 := add_c_yes (t := a) (n := bn) (u := u) (addT_iff.mpr (by have := addT_iff.mp hsn; omega)) (by omega)
                clear hs a1 a2 hsn hu
                go_enter Tryd.func3, Tryd.ntmps3
                go_wp2_with (first | (go_at_call 9; (with_reducible refine (timesWakes _ hL).mono ?_); rintro e w1 ⟨rfl, E1⟩; have hc1 := E1.2.1; have hf1 := E1.2.2; have hz1 := E1.size; have ht1 := E1.sizes; (try simp [Nat.add_one_le_iff] at hz1); (try have hy1 := Nat.le_of_lt hz1)) | (go_at_call 10; (with_reducible refine (CX.out _).mono ?_); rintro e w2 ⟨rfl, E2⟩; have hc2 := E2.2.1; have hf2 := E2.2.2; have hz2 := E2.size; have ht2 := E2.sizes; (try simp [Nat.add_one_le_iff] at hz2); (try have hy2 := Nat.le_of_lt hz2)) | (go_at_call 10; (with_reducible refine (CY.out _).mono ?_); rintro e w3 ⟨rfl, E3⟩; have hc3 := E3.2.1; have hf3 := E3.2.2; have hz3 := E3.size; have ht3 := E3.sizes; (try simp [Nat.add_one_le_iff] at hz3); (try have hy3 := Nat.le_of_lt hz3)) | (go_at_call 11; (with_reducible refine (A1.out _).mono ?_); rintro e w4 ⟨rfl, rfl⟩) | (go_at_call 11; (with_reducible refine (A2.out _).mono ?_); rintro e w5 ⟨rfl, rfl⟩) | (go_at_call 11; (with_reducible refine (A3.out _).mono ?_); rintro e w6 ⟨rfl, rfl⟩) | (go_at_call 12; (with_reducible refine (MS.out _).mono ?_); rintro e w7 ⟨rfl, rfl⟩))
                all_goals (go_ret; refine ⟨rfl, ?_⟩; (repeat (first | with_reducible exact Ext.refl _ | with_reducible assumption | exact Ext.mk (by with_reducible assumption) | with_reducible refine Ext.alloc ?_ _ | with_reducible refine Ext.drewN ?_ _ | with_reducible refine Ext.drew ?_ | with_reducible refine Ext.setCell ?_ (by first | (simp; done) | assumption | (simp; omega)) _ | (with_reducible refine Ext.trans ?_ (by with_reducible assumption)))))
      · subst h
        rw [hX] at hY
        subst hY
        have l1 : Op.bytesLess X.toList X.toList = false := bl_irr _
        clear ha hb hX eX eY
        cases hab : addT a a
        · have A1 := add_c_no hab fb
          clear hab
          go_enter Tryd.func3, Tryd.ntmps3
          go_wp2_with (first | (go_at_call 9; (with_reducible refine (timesWakes _ hL).mono ?_); rintro e w1 ⟨rfl, E1⟩; have hc1 := E1.2.1; have hf1 := E1.2.2; have hz1 := E1.size; have ht1 := E1.sizes; (try simp [Nat.add_one_le_iff] at hz1); (try have hy1 := Nat.le_of_lt hz1)) | (go_at_call 10; (with_reducible refine (CX.out _).mono ?_); rintro e w2 ⟨rfl, E2⟩; have hc2 := E2.2.1; have hf2 := E2.2.2; have hz2 := E2.size; have ht2 := E2.sizes; (try simp [Nat.add_one_le_iff] at hz2); (try have hy2 := Nat.le_of_lt hz2)) | (go_at_call 10; (with_reducible refine (CY.out _).mono ?_); rintro e w3 ⟨rfl, E3⟩; have hc3 := E3.2.1; have hf3 := E3.2.2; have hz3 := E3.size; have ht3 := E3.sizes; (try simp [Nat.add_one_le_iff] at hz3); (try have hy3 := Nat.le_of_lt hz3)) | (go_at_call 11; (with_reducible refine (A1.out _).mono ?_); rintro e w4 ⟨rfl, rfl⟩))
          all_goals (go_ret; refine ⟨rfl, ?_⟩; (repeat (first | with_reducible exact Ext.refl _ | with_reducible assumption | exact Ext.mk (by with_reducible assumption) | with_reducible refine Ext.alloc ?_ _ | with_reducible refine Ext.drewN ?_ _ | with_reducible refine Ext.drew ?_ | with_reducible refine Ext.setCell ?_ (by first | (simp; done) | assumption | (simp; omega)) _ | (with_reducible refine Ext.trans ?_ (by with_reducible assumption)))))
        · obtain ⟨⟨a1, a2⟩, b1, b2⟩ := addT_iff.mp hab
          obtain ⟨s, hs⟩ : ∃ s, a + a = s := ⟨_, rfl⟩
          have A1 := add_c_yes hab hs
          rw [hs] at b1 b2
          have MS := may_c (s := s) (by simp [timeB]; omega)
          have q1 : decide (253402300799 < a) = false := df (by omega)
          have q2 : decide (a < -253402300799) = false := df (by omega)
          clear hab
          by_cases n1 : 253402300799 < n
          · have A2 := add_c_no (t := s) (n := n) (addT_not (by omega)) fn
            have q3 := dt n1
            clear hs a1 a2
            go_enter Tryd.func3, Tryd.ntmps3
            go_wp2_with (first | (go_at_call 9; (with_reducible refine (timesWakes _ hL).mono ?_); rintro e w1 ⟨rfl, E1⟩; have hc1 := E1.2.1; have hf1 := E1.2.2; have hz1 := E1.size; have ht1 := E1.sizes; (try simp [Nat.add_one_le_iff] at hz1); (try have hy1 := Nat.le_of_lt hz1)) | (go_at_call 10; (with_reducible refine (CX.out _).mono ?_); rintro e w2 ⟨rfl, E2⟩; have hc2 := E2.2.1; have hf2 := E2.2.2; have hz2 := E2.size; have ht2 := E2.sizes; (try simp [Nat.add_one_le_iff] at hz2); (try have hy2 := Nat.le_of_lt hz2)) | (go_at_call 10; (with_reducible refine (CY.out _).mono ?_); rintro e w3 ⟨rfl, E3⟩; have hc3 := E3.2.1; have hf3 := E3.2.2; have hz3 := E3.size; have ht3 := E3.sizes; (try simp [Nat.add_one_le_iff] at hz3); (try have hy3 := Nat.le_of_lt hz3)) | (go_at_call 11; (with_reducible refine (A1.out _).mono ?_); rintro e w4 ⟨rfl, rfl⟩) | (go_at_call 11; (with_reducible refine (A2.out _).mono ?_); rintro e w5 ⟨rfl, rfl⟩))
            all_goals (go_ret; refine ⟨rfl, ?_⟩; (repeat (first | with_reducible exact Ext.refl _ | with_reducible assumption | exact Ext.mk (by with_reducible assumption) | with_reducible refine Ext.alloc ?_ _ | with_reducible refine Ext.drewN ?_ _ | with_reducible refine Ext.drew ?_ | with_reducible refine Ext.setCell ?_ (by first | (simp; done) | assumption | (simp; omega)) _ | (with_reducible refine Ext.trans ?_ (by with_reducible assumption)))))
          · have q3 := df n1
            by_cases n2 : n < -253402300799
            · have A2 := add_c_no (t := s) (n := n) (addT_not (by omega)) fn
              have q4 := dt n2
              clear hs a1 a2
              go_enter Tryd.func3, Tryd.ntmps3
              go_wp2_with (first | (go_at_call 9; (with_reducible refine (timesWakes _ hL).mono ?_); rintro e w1 ⟨rfl, E1⟩; have hc1 := E1.2.1; have hf1 := E1.2.2; have hz1 := E1.size; have ht1 := E1.sizes; (try simp [Nat.add_one_le_iff] at hz1); (try have hy1 := Nat.le_of_lt hz1)) | (go_at_call 10; (with_reducible refine (CX.out _).mono ?_); rintro e w2 ⟨rfl, E2⟩; have hc2 := E2.2.1; have hf2 := E2.2.2; have hz2 := E2.size; have ht2 := E2.sizes; (try simp [Nat.add_one_le_iff] at hz2); (try have hy2 := Nat.le_of_lt hz2)) | (go_at_call 10; (with_reducible refine (CY.out _).mono ?_); rintro e w3 ⟨rfl, E3⟩; have hc3 := E3.2.1; have hf3 := E3.2.2; have hz3 := E3.size; have ht3 := E3.sizes; (try simp [Nat.add_one_le_iff] at hz3); (try have hy3 := Nat.le_of_lt hz3)) | (go_at_call 11; (with_reducible refine (A1.out _).mono ?_); rintro e w4 ⟨rfl, rfl⟩) | (go_at_call 11; (with_reducible refine (A2.out _).mono ?_); rintro e w5 ⟨rfl, rfl⟩))
              all_goals (go_ret; refine ⟨rfl, ?_⟩; (repeat (first | with_reducible exact Ext.refl _ | with_reducible assumption | exact Ext.mk (by with_reducible assumption) | with_reducible refine Ext.alloc ?_ _ | with_reducible refine Ext.drewN ?_ _ | with_reducible refine Ext.drew ?_ | with_reducible refine Ext.setCell ?_ (by first | (simp; done) | assumption | (simp; omega)) _ | (with_reducible refine Ext.trans ?_ (by with_reducible assumption)))))
            · have q4 := df n2
              obtain ⟨bn, hbn⟩ : ∃ bn, a + n = bn := ⟨_, rfl⟩
              have q5 : wrap64 bn = bn := by unfold wrap64; omega
              cases hsn : addT s n
              · have A2 := add_c_no hsn fn
                have A3 := add_c_no (t := a) (n := bn) (addT_not (fun k => addT_neg hsn (by omega))) (by unfold I64; omega)
                clear hs a1 a2 hsn
                go_enter Tryd.func3, Tryd.ntmps3
                go_wp2_with (first | (go_at_call 9; (with_reducible refine (timesWakes _ hL).mono ?_); rintro e w1 ⟨rfl, E1⟩; have hc1 := E1.2.1; have hf1 := E1.2.2; have hz1 := E1.size; have ht1 := E1.sizes; (try simp [Nat.add_one_le_iff] at hz1); (try have hy1 := Nat.le_of_lt hz1)) | (go_at_call 10; (with_reducible refine (CX.out _).mono ?_); rintro e w2 ⟨rfl, E2⟩; have hc2 := E2.2.1; have hf2 := E2.2.2; have hz2 := E2.size; have ht2 := E2.sizes; (try simp [Nat.add_one_le_iff] at hz2); (try have hy2 := Nat.le_of_lt hz2)) | (go_at_call 10; (with_reducible refine (CY.out _).mono ?_); rintro e w3 ⟨rfl, E3⟩; have hc3 := E3.2.1; have hf3 := E3.2.2; have hz3 := E3.size; have ht3 := E3.sizes; (try simp [Nat.add_one_le_iff] at hz3); (try have hy3 := Nat.le_of_lt hz3)) | (go_at_call 11; (with_reducible refine (A1.out _).mono ?_); rintro e w4 ⟨rfl, rfl⟩) | (go_at_call 11; (with_reducible refine (A2.out _).mono ?_); rintro e w5 ⟨rfl, rfl⟩) | (go_at_call 11; (with_reducible refine (A3.out _).mono ?_); rintro e w6 ⟨rfl, rfl⟩) | (go_at_call 12; (with_reducible refine (MS.out _).mono ?_); rintro e w7 ⟨rfl, rfl⟩))
                all_goals (go_ret; refine ⟨rfl, ?_⟩; (repeat (first | with_reducible exact Ext.refl _ | with_reducible assumption | exact Ext.mk (by with_reducible assumption) | with_reducible refine Ext.alloc ?_ _ | with_reducible refine Ext.drewN ?_ _ | with_reducible refine Ext.drew ?_ | with_reducible refine Ext.setCell ?_ (by first | (simp; done) | assumption | (simp; omega)) _ | (with_reducible refine Ext.trans ?_ (by with_reducible assumption)))))
              · obtain ⟨u, hu⟩ : ∃ u, s + n = u := ⟨_, rfl⟩
                have A2 := add_c_yes hsn hu
                have A3 := add_c_yes (t := a) (n := bn) (u := u) (addT_iff.mpr (by have := addT_iff.mp hsn; omega)) (by omega)
                clear hs a1 a2 hsn hu
                go_enter Tryd.func3, Tryd.ntmps3
                go_wp2_with (first | (go_at_call 9; (with_reducible refine (timesWakes _ hL).mono ?_); rintro e w1 ⟨rfl, E1⟩; have hc1 := E1.2.1; have hf1 := E1.2.2; have hz1 := E1.size; have ht1 := E1.sizes; (try simp [Nat.add_one_le_iff] at hz1); (try have hy1 := Nat.le_of_lt hz1)) | (go_at_call 10; (with_reducible refine (CX.out _).mono ?_); rintro e w2 ⟨rfl, E2⟩; have hc2 := E2.2.1; have hf2 := E2.2.2; have hz2 := E2.size; have ht2 := E2.sizes; (try simp [Nat.add_one_le_iff] at hz2); (try have hy2 := Nat.le_of_lt hz2)) | (go_at_call 10; (with_reducible refine (CY.out _).mono ?_); rintro e w3 ⟨rfl, E3⟩; have hc3 := E3.2.1; have hf3 := E3.2.2; have hz3 := E3.size; have ht3 := E3.sizes; (try simp [Nat.add_one_le_iff] at hz3); (try have hy3 := Nat.le_of_lt hz3)) | (go_at_call 11; (with_reducible refine (A1.out _).mono ?_); rintro e w4 ⟨rfl, rfl⟩) | (go_at_call 11; (with_reducible refine (A2.out _).mono ?_); rintro e w5 ⟨rfl, rfl⟩) | (go_at_call 11; (with_reducible refine (A3.out _).mono ?_); rintro e w6 ⟨rfl, rfl⟩) | (go_at_call 12; (with_reducible refine (MS.out _).mono ?_); rintro e w7 ⟨rfl, rfl⟩))
                all_goals (go_ret; refine ⟨rfl, ?_⟩; (repeat (first | with_reducible exact Ext.refl _ | with_reducible assumption | exact Ext.mk (by with_reducible assumption) | with_reducible refine Ext.alloc ?_ _ | with_reducible refine Ext.drewN ?_ _ | with_reducible refine Ext.drew ?_ | with_reducible refine Ext.setCell ?_ (by first | (simp; done) | assumption | (simp; omega)) _ | (with_reducible refine Ext.trans ?_ (by with_reducible assumption)))))
      · have l1 : Op.bytesLess X.toList Y.toList = false := by rw [eX, eY]; exact bl_asym (txtT_lt hb ha h)
        have l2 : (X.toList == Y.toList) = false := by rw [eX, eY]; have := bl_ne (txtT_lt hb ha h); rw [beq_eq_false_iff_ne] at this ⊢; exact fun e => this e.symm
        have l3 : decide (a < b) = false := df (by omega)
        have l4 : (a == b) = false := by simp; omega
        clear ha hb hX hY eX eY
        cases hab : addT a b
        · have A1 := add_c_no hab fb
          clear hab
          go_enter Tryd.func3, Tryd.ntmps3
          go_wp2_with (first | (go_at_call 9; (with_reducible refine (timesWakes _ hL).mono ?_); rintro e w1 ⟨rfl, E1⟩; have hc1 := E1.2.1; have hf1 := E1.2.2; have hz1 := E1.size; have ht1 := E1.sizes; (try simp [Nat.add_one_le_iff] at hz1); (try have hy1 := Nat.le_of_lt hz1)) | (go_at_call 10; (with_reducible refine (CX.out _).mono ?_); rintro e w2 ⟨rfl, E2⟩; have hc2 := E2.2.1; have hf2 := E2.2.2; have hz2 := E2.size; have ht2 := E2.sizes; (try simp [Nat.add_one_le_iff] at hz2); (try have hy2 := Nat.le_of_lt hz2)) | (go_at_call 10; (with_reducible refine (CY.out _).mono ?_); rintro e w3 ⟨rfl, E3⟩; have hc3 := E3.2.1; have hf3 := E3.2.2; have hz3 := E3.size; have ht3 := E3.sizes; (try simp [Nat.add_one_le_iff] at hz3); (try have hy3 := Nat.le_of_lt hz3)) | (go_at_call 11; (with_reducible refine (A1.out _).mono ?_); rintro e w4 ⟨rfl, rfl⟩))
          all_goals (go_ret; refine ⟨rfl, ?_⟩; (repeat (first | with_reducible exact Ext.refl _ | with_reducible assumption | exact Ext.mk (by with_reducible assumption) | with_reducible refine Ext.alloc ?_ _ | with_reducible refine Ext.drewN ?_ _ | with_reducible refine Ext.drew ?_ | with_reducible refine Ext.setCell ?_ (by first | (simp; done) | assumption | (simp; omega)) _ | (with_reducible refine Ext.trans ?_ (by with_reducible assumption)))))
        · obtain ⟨⟨a1, a2⟩, b1, b2⟩ := addT_iff.mp hab
          obtain ⟨s, hs⟩ : ∃ s, a + b = s := ⟨_, rfl⟩
          have A1 := add_c_yes hab hs
          rw [hs] at b1 b2
          have MS := may_c (s := s) (by simp [timeB]; omega)
          have q1 : decide (253402300799 < b) = false := df (by omega)
          have q2 : decide (b < -253402300799) = false := df (by omega)
          clear hab
          by_cases n1 : 253402300799 < n
          · have A2 := add_c_no (t := s) (n := n) (addT_not (by omega)) fn
            have q3 := dt n1
            clear hs a1 a2
            go_enter Tryd.func3, Tryd.ntmps3
            go_wp2_with (first | (go_at_call 9; (with_reducible refine (timesWakes _ hL).mono ?_); rintro e w1 ⟨rfl, E1⟩; have hc1 := E1.2.1; have hf1 := E1.2.2; have hz1 := E1.size; have ht1 := E1.sizes; (try simp [Nat.add_one_le_iff] at hz1); (try have hy1 := Nat.le_of_lt hz1)) | (go_at_call 10; (with_reducible refine (CX.out _).mono ?_); rintro e w2 ⟨rfl, E2⟩; have hc2 := E2.2.1; have hf2 := E2.2.2; have hz2 := E2.size; have ht2 := E2.sizes; (try simp [Nat.add_one_le_iff] at hz2); (try have hy2 := Nat.le_of_lt hz2)) | (go_at_call 10; (with_reducible refine (CY.out _).mono ?_); rintro e w3 ⟨rfl, E3⟩; have hc3 := E3.2.1; have hf3 := E3.2.2; have hz3 := E3.size; have ht3 := E3.sizes; (try simp [Nat.add_one_le_iff] at hz3); (try have hy3 := Nat.le_of_lt hz3)) | (go_at_call 11; (with_reducible refine (A1.out _).mono ?_); rintro e w4 ⟨rfl, rfl⟩) | (go_at_call 11; (with_reducible refine (A2.out _).mono ?_); rintro e w5 ⟨rfl, rfl⟩))
            all_goals (go_ret; refine ⟨rfl, ?_⟩; (repeat (first | with_reducible exact Ext.refl _ | with_reducible assumption | exact Ext.mk (by with_reducible assumption) | with_reducible refine Ext.alloc ?_ _ | with_reducible refine Ext.drewN ?_ _ | with_reducible refine Ext.drew ?_ | with_reducible refine Ext.setCell ?_ (by first | (simp; done) | assumption | (simp; omega)) _ | (with_reducible refine Ext.trans ?_ (by with_reducible assumption)))))
          · have q3 := df n1
            by_cases n2 : n < -253402300799
            · have A2 := add_c_no (t := s) (n := n) (addT_not (by omega)) fn
              have q4 := dt n2
              clear hs a1 a2
              go_enter Tryd.func3, Tryd.ntmps3
              go_wp2_with (first | (go_at_call 9; (with_reducible refine (timesWakes _ hL).mono ?_); rintro e w1 ⟨rfl, E1⟩; have hc1 := E1.2.1; have hf1 := E1.2.2; have hz1 := E1.size; have ht1 := E1.sizes; (try simp [Nat.add_one_le_iff] at hz1); (try have hy1 := Nat.le_of_lt hz1)) | (go_at_call 10; (with_reducible refine (CX.out _).mono ?_); rintro e w2 ⟨rfl, E2⟩; have hc2 := E2.2.1; have hf2 := E2.2.2; have hz2 := E2.size; have ht2 := E2.sizes; (try simp [Nat.add_one_le_iff] at hz2); (try have hy2 := Nat.le_of_lt hz2)) | (go_at_call 10; (with_reducible refine (CY.out _).mono ?_); rintro e w3 ⟨rfl, E3⟩; have hc3 := E3.2.1; have hf3 := E3.2.2; have hz3 := E3.size; have ht3 := E3.sizes; (try simp [Nat.add_one_le_iff] at hz3); (try have hy3 := Nat.le_of_lt hz3)) | (go_at_call 11; (with_reducible refine (A1.out _).mono ?_); rintro e w4 ⟨rfl, rfl⟩) | (go_at_call 11; (with_reducible refine (A2.out _).mono ?_); rintro e w5 ⟨rfl, rfl⟩))
              all_goals (go_ret; refine ⟨rfl, ?_⟩; (repeat (first | with_reducible exact Ext.refl _ | with_reducible assumption | exact Ext.mk (by with_reducible assumption) | with_reducible refine Ext.alloc ?_ _ | with_reducible refine Ext.drewN ?_ _ | with_reducible refine Ext.drew ?_ | with_reducible refine Ext.setCell ?_ (by first | (simp; done) | assumption | (simp; omega)) _ | (with_reducible refine Ext.trans ?_ (by with_reducible assumption)))))
            · have q4 := df n2
              obtain ⟨bn, hbn⟩ : ∃ bn, b + n = bn := ⟨_, rfl⟩
              have q5 : wrap64 bn = bn := by unfold wrap64; omega
              cases hsn : addT s n
              · have A2 := add_c_no hsn fn
                have A3 := add_c_no (t := a) (n := bn) (addT_not (fun k => addT_neg hsn (by omega))) (by unfold I64; omega)
                clear hs a1 a2 hsn
                go_enter Tryd.func3, Tryd.ntmps3
                go_wp2_with (first | (go_at_call 9; (with_reducible refine (timesWakes _ hL).mono ?_); rintro e w1 ⟨rfl, E1⟩; have hc1 := E1.2.1; have hf1 := E1.2.2; have hz1 := E1.size; have ht1 := E1.sizes; (try simp [Nat.add_one_le_iff] at hz1); (try have hy1 := Nat.le_of_lt hz1)) | (go_at_call 10; (with_reducible refine (CX.out _).mono ?_); rintro e w2 ⟨rfl, E2⟩; have hc2 := E2.2.1; have hf2 := E2.2.2; have hz2 := E2.size; have ht2 := E2.sizes; (try simp [Nat.add_one_le_iff] at hz2); (try have hy2 := Nat.le_of_lt hz2)) | (go_at_call 10; (with_reducible refine (CY.out _).mono ?_); rintro e w3 ⟨rfl, E3⟩; have hc3 := E3.2.1; have hf3 := E3.2.2; have hz3 := E3.size; have ht3 := E3.sizes; (try simp [Nat.add_one_le_iff] at hz3); (try have hy3 := Nat.le_of_lt hz3)) | (go_at_call 11; (with_reducible refine (A1.out _).mono ?_); rintro e w4 ⟨rfl, rfl⟩) | (go_at_call 11; (with_reducible refine (A2.out _).mono ?_); rintro e w5 ⟨rfl, rfl⟩) | (go_at_call 11; (with_reducible refine (A3.out _).mono ?_); rintro e w6 ⟨rfl, rfl⟩) | (go_at_call 12; (with_reducible refine (MS.out _).mono ?_); rintro e w7 ⟨rfl, rfl⟩))
                all_goals (go_ret; refine ⟨rfl, ?_⟩; (repeat (first | with_reducible exact Ext.refl _ | with_reducible assumption | exact Ext.mk (by with_reducible assumption) | with_reducible refine Ext.alloc ?_ _ | with_reducible refine Ext.drewN ?_ _ | with_reducible refine Ext.drew ?_ | with_reducible refine Ext.setCell ?_ (by first | (simp; done) | assumption | (simp; omega)) _ | (with_reducible refine Ext.trans ?_ (by with_reducible assumption)))))
              · obtain ⟨u, hu⟩ : ∃ u, s + n = u := ⟨_, rfl⟩
                have A2 := add_c_yes hsn hu
                have A3 := add_c_yes (t := a) (n := bn) (u := u) (addT_iff.mpr (by have := addT_iff.mp hsn; omega)) (by omega)
                clear hs a1 a2 hsn hu
                go_enter Tryd.func3, Tryd.ntmps3
                go_wp2_with (first | (go_at_call 9; (with_reducible refine (timesWakes _ hL).mono ?_); rintro e w1 ⟨rfl, E1⟩; have hc1 := E1.2.1; have hf1 := E1.2.2; have hz1 := E1.size; have ht1 := E1.sizes; (try simp [Nat.add_one_le_iff] at hz1); (try have hy1 := Nat.le_of_lt hz1)) | (go_at_call 10; (with_reducible refine (CX.out _).mono ?_); rintro e w2 ⟨rfl, E2⟩; have hc2 := E2.2.1; have hf2 := E2.2.2; have hz2 := E2.size; have ht2 := E2.sizes; (try simp [Nat.add_one_le_iff] at hz2); (try have hy2 := Nat.le_of_lt hz2)) | (go_at_call 10; (with_reducible refine (CY.out _).mono ?_); rintro e w3 ⟨rfl, E3⟩; have hc3 := E3.2.1; have hf3 := E3.2.2; have hz3 := E3.size; have ht3 := E3.sizes; (try simp [Nat.add_one_le_iff] at hz3); (try have hy3 := Nat.le_of_lt hz3)) | (go_at_call 11; (with_reducible refine (A1.out _).mono ?_); rintro e w4 ⟨rfl, rfl⟩) | (go_at_call 11; (with_reducible refine (A2.out _).mono ?_); rintro e w5 ⟨rfl, rfl⟩) | (go_at_call 11; (with_reducible refine (A3.out _).mono ?_); rintro e w6 ⟨rfl, rfl⟩) | (go_at_call 12; (with_reducible refine (MS.out _).mono ?_); rintro e w7 ⟨rfl, rfl⟩))
                all_goals (go_ret; refine ⟨rfl, ?_⟩; (repeat (first | with_reducible exact Ext.refl _ | with_reducible assumption | exact Ext.mk (by with_reducible assumption) | with_reducible refine Ext.alloc ?_ _ | with_reducible refine Ext.drewN ?_ _ | with_reducible refine Ext.drew ?_ | with_reducible refine Ext.setCell ?_ (by first | (simp; done) | assumption | (simp; omega)) _ | (with_reducible refine Ext.trans ?_ (by with_reducible assumption)))))
end Go.Proofs.YtkhmkenankdakabDoor
