import Derived.Test.YtkhmkenankdakaaDoorDaysC
import Derived.Lib.Hide
namespace Go.Proofs.YtkhmkenankdakaaDoor
open Go Go.RowKit
set_option linter.unusedSimpArgs false
set_option linter.unusedVariables false

theorem at_no (n : Int) (w : World) (h : dayB n = false) : Calls Tryd.prog 13 #[.int .i64 n] w fun e w' => e = .returned (.tuple #[.agg #[.int .i64 0, .int .i64 0, .int .i64 0], .int .i64 2]) ∧ Ext w w' := by
  go_enter Tryd.func13, Tryd.ntmps13
  go_wp2_with fail
  go_step3
  go_wp2_with (go_at_call 28; (with_reducible refine (day_any _ _).mono ?_); rintro e w1 ⟨rfl, rfl⟩)
  rw [Exit.noGoto_ret]
  refine bodyPost_ret (v := .tuple #[.agg #[.int .i64 0, .int .i64 0, .int .i64 0], .int .i64 2]) (by simp [results, Tryd.results13, go_sem]) rfl ⟨?_, ?_⟩
  · rfl
  · (repeat (first | with_reducible exact Ext.refl _ | with_reducible assumption | exact Ext.mk (by with_reducible assumption) | with_reducible refine Ext.alloc ?_ _ | with_reducible refine Ext.drewN ?_ _ | with_reducible refine Ext.drew ?_ | with_reducible refine Ext.setCell ?_ (by first | (simp; done) | assumption | (simp; omega)) _ | (with_reducible refine Ext.trans ?_ (by with_reducible assumption))))

theorem check_yes (y m d : Int) (w : World) (hL : DaysLaid w) (h : Cal.okd y m d = true) : Calls Tryd.prog 19 #[.agg #[.int .i64 y, .int .i64 m, .int .i64 d]] w fun e w' => e = .returned (.int .i64 0) ∧ Ext w w' := by
  have := check_any y m d w hL; rw [h] at this; exact this
theorem check_no (y m d : Int) (w : World) (hL : DaysLaid w) (h : Cal.okd y m d = false) : Calls Tryd.prog 19 #[.agg #[.int .i64 y, .int .i64 m, .int .i64 d]] w fun e w' => e = .returned (.int .i64 140) ∧ Ext w w' := by
  have := check_any y m d w hL; rw [h] at this; exact this

theorem of_no (y m d : Int) (w : World) (hL : DaysLaid w) (h : Cal.okd y m d = false) : Calls Tryd.prog 10 #[.agg #[.int .i64 y, .int .i64 m, .int .i64 d]] w fun e w' => e = .returned (.tuple #[.int .i64 0, .int .i64 140]) ∧ Ext w w' := by
  have hL' := hL.ext (Ext.new w (.cells #[.int .i64 y, .int .i64 m, .int .i64 d] 26))
  go_enter Tryd.func10, Tryd.ntmps10
  go_wp2_with (go_at_call 19; (with_reducible refine (check_no _ _ _ _ hL' h).mono ?_); rintro e w1 ⟨rfl, E1⟩; have hc1 := E1.2.1; have hf1 := E1.2.2; have hz1 := E1.size; have ht1 := E1.sizes; (try simp [Nat.add_one_le_iff] at hz1); (try have hy1 := Nat.le_of_lt hz1))
  go_ret2
  exact ⟨rfl, (Ext.new _ _).trans E1⟩

set_option maxHeartbeats 1000000 in
theorem of_yes (y m d : Int) (w : World) (hL : DaysLaid w) (h : Cal.okd y m d = true) : Calls Tryd.prog 10 #[.agg #[.int .i64 y, .int .i64 m, .int .i64 d]] w fun e w' => e = .returned (.tuple #[.int .i64 (Cal.num y m d), .int .i64 0]) ∧ Ext w w' := by
  have hL' := hL.ext (Ext.new w (.cells #[.int .i64 y, .int .i64 m, .int .i64 d] 26))
  obtain ⟨m1, m2⟩ := Cal.okd_month h
  obtain ⟨y1, y2, d1, d2⟩ := Cal.okd_iff.mp h
  have d3 := (Cal.long_bd y m).2
  by_cases h3 : 3 ≤ m
  · have hn : Hid _ := Cal.num_march y m d h3 m2
    obtain ⟨n0, n1⟩ := Cal.mon_bd (m - 3) (by omega) (by omega)
    go_enter Tryd.func10, Tryd.ntmps10
    go_wp2_with (go_at_call 19; (with_reducible refine (check_yes _ _ _ _ hL' h).mono ?_); rintro e w1 ⟨rfl, E1⟩; have hc1 := E1.2.1; have hf1 := E1.2.2; have hz1 := E1.size; have ht1 := E1.sizes; (try simp [Nat.add_one_le_iff] at hz1); (try have hy1 := Nat.le_of_lt hz1))
    go_quiet (fail)
    go_wp2
    refine wp_region_from w1 (by (repeat (first | with_reducible exact Ext.refl _ | with_reducible assumption | exact Ext.mk (by with_reducible assumption) | with_reducible refine Ext.alloc ?_ _ | with_reducible refine Ext.drewN ?_ _ | with_reducible refine Ext.drew ?_ | with_reducible refine Ext.setCell ?_ (by first | (simp; done) | assumption | (simp; omega)) _ | (with_reducible refine Ext.trans ?_ (by with_reducible assumption))))) (by kernel_rfl) (by kernel_rfl) ?_
    repeat (go_big_quiet_step ((go_at_call 26; exact Calls.ext_of_keep (mon_any _ _ (by omega) (by omega)))))
    refine wpQuiet_nil ?_
    intro w2 hb2
    go_wp2
    go_ret2
    refine ⟨?_, ((Ext.new _ _).trans E1).trans hb2⟩
    rw [hn.out]
    have e : Cal.mby y = y * 365 + y / 4 - y / 100 + y / 400 := by unfold Cal.mby; omega
    rw [e]
    rfl
  · have hn : Hid _ := Cal.num_jan y m d m1 (by omega)
    obtain ⟨n0, n1⟩ := Cal.mon_bd (m + 9) (by omega) (by omega)
    have e9 : m - 3 + 12 = m + 9 := by omega
    go_enter Tryd.func10, Tryd.ntmps10
    go_wp2_with (go_at_call 19; (with_reducible refine (check_yes _ _ _ _ hL' h).mono ?_); rintro e w1 ⟨rfl, E1⟩; have hc1 := E1.2.1; have hf1 := E1.2.2; have hz1 := E1.size; have ht1 := E1.sizes; (try simp [Nat.add_one_le_iff] at hz1); (try have hy1 := Nat.le_of_lt hz1))
    go_quiet (fail)
    go_wp2
    refine wp_region_from w1 (by (repeat (first | with_reducible exact Ext.refl _ | with_reducible assumption | exact Ext.mk (by with_reducible assumption) | with_reducible refine Ext.alloc ?_ _ | with_reducible refine Ext.drewN ?_ _ | with_reducible refine Ext.drew ?_ | with_reducible refine Ext.setCell ?_ (by first | (simp; done) | assumption | (simp; omega)) _ | (with_reducible refine Ext.trans ?_ (by with_reducible assumption))))) (by kernel_rfl) (by kernel_rfl) ?_
    repeat (go_big_quiet_step ((go_at_call 26; exact Calls.ext_of_keep (mon_any _ _ (by omega) (by omega)))))
    refine wpQuiet_nil ?_
    intro w2 hb2
    go_wp2
    go_ret2
    refine ⟨?_, ((Ext.new _ _).trans E1).trans hb2⟩
    rw [hn.out]
    have e : Cal.mby (y - 1) = (y - 1) * 365 + (y - 1) / 4 - (y - 1) / 100 + (y - 1) / 400 := by unfold Cal.mby; omega
    rw [e]
    rfl

set_option maxHeartbeats 1000000 in
theorem add_bad (y m d n : Int) (w : World) (hL : DaysLaid w) (h : Cal.okd y m d = false) : Calls Tryd.prog 18 #[.agg #[.int .i64 y, .int .i64 m, .int .i64 d], .int .i64 n] w fun e w' => e = .returned (.tuple #[.agg #[.int .i64 0, .int .i64 0, .int .i64 0], .int .i64 140]) ∧ Ext w w' := by
  have hL' := (hL.ext (Ext.new w (.cells #[.int .i64 y, .int .i64 m, .int .i64 d] 26))).ext (Ext.new _ (.cells #[.int .i64 0, .int .i64 0, .int .i64 0] 26))
  go_enter Tryd.func18, Tryd.ntmps18
  go_wp2_with (go_at_call 10; (with_reducible refine (of_no _ _ _ _ hL' h).mono ?_); rintro e w1 ⟨rfl, E1⟩; have hc1 := E1.2.1; have hf1 := E1.2.2; have hz1 := E1.size; have ht1 := E1.sizes; (try simp [Nat.add_one_le_iff] at hz1); (try have hy1 := Nat.le_of_lt hz1))
  refine bodyPost_ret (v := .tuple #[.agg #[.int .i64 0, .int .i64 0, .int .i64 0], .int .i64 140]) (by simp [results, Tryd.results18, go_sem, hc1, hz1]) rfl ⟨?_, ?_⟩
  · rfl
  · (repeat (first | with_reducible exact Ext.refl _ | with_reducible assumption | exact Ext.mk (by with_reducible assumption) | with_reducible refine Ext.alloc ?_ _ | with_reducible refine Ext.drewN ?_ _ | with_reducible refine Ext.drew ?_ | with_reducible refine Ext.setCell ?_ (by first | (simp; done) | assumption | (simp; omega)) _ | (with_reducible refine Ext.trans ?_ (by with_reducible assumption))))

set_option maxHeartbeats 1000000 in
theorem add_out (y m d n : Int) (w : World) (hL : DaysLaid w) (h : Cal.okd y m d = true) (hn : dayB (Cal.num y m d + n) = false) (hi : -9223372036854775808 ≤ n ∧ n ≤ 9223372036854775807) :
    Calls Tryd.prog 18 #[.agg #[.int .i64 y, .int .i64 m, .int .i64 d], .int .i64 n] w fun e w' => e = .returned (.tuple #[.agg #[.int .i64 0, .int .i64 0, .int .i64 0], .int .i64 2]) ∧ Ext w w' := by
  have hL' := (hL.ext (Ext.new w (.cells #[.int .i64 y, .int .i64 m, .int .i64 d] 26))).ext (Ext.new _ (.cells #[.int .i64 0, .int .i64 0, .int .i64 0] 26))
  obtain ⟨b1, b2⟩ := Cal.num_bd h
  obtain ⟨i1, i2⟩ := hi
  have hn' := dayB_false hn
  by_cases g : n < - Cal.num y m d
  · have g1 := dt g
    go_enter Tryd.func18, Tryd.ntmps18
    go_wp2_with (go_at_call 10; (with_reducible refine (of_yes _ _ _ _ hL' h).mono ?_); rintro e w1 ⟨rfl, E1⟩; have hc1 := E1.2.1; have hf1 := E1.2.2; have hz1 := E1.size; have ht1 := E1.sizes; (try simp [Nat.add_one_le_iff] at hz1); (try have hy1 := Nat.le_of_lt hz1))
    refine bodyPost_ret (v := .tuple #[.agg #[.int .i64 0, .int .i64 0, .int .i64 0], .int .i64 2]) (by simp [results, Tryd.results18, go_sem, hc1, hz1]) rfl ⟨?_, ?_⟩
    · rfl
    · (repeat (first | with_reducible exact Ext.refl _ | with_reducible assumption | exact Ext.mk (by with_reducible assumption) | with_reducible refine Ext.alloc ?_ _ | with_reducible refine Ext.drewN ?_ _ | with_reducible refine Ext.drew ?_ | with_reducible refine Ext.setCell ?_ (by first | (simp; done) | assumption | (simp; omega)) _ | (with_reducible refine Ext.trans ?_ (by with_reducible assumption))))
  · have g1 := df g
    have g2 : decide (2932896 - Cal.num y m d < n) = true := dt (by omega)
    go_enter Tryd.func18, Tryd.ntmps18
    go_wp2_with (go_at_call 10; (with_reducible refine (of_yes _ _ _ _ hL' h).mono ?_); rintro e w1 ⟨rfl, E1⟩; have hc1 := E1.2.1; have hf1 := E1.2.2; have hz1 := E1.size; have ht1 := E1.sizes; (try simp [Nat.add_one_le_iff] at hz1); (try have hy1 := Nat.le_of_lt hz1))
    refine bodyPost_ret (v := .tuple #[.agg #[.int .i64 0, .int .i64 0, .int .i64 0], .int .i64 2]) (by simp [results, Tryd.results18, go_sem, hc1, hz1]) rfl ⟨?_, ?_⟩
    · rfl
    · (repeat (first | with_reducible exact Ext.refl _ | with_reducible assumption | exact Ext.mk (by with_reducible assumption) | with_reducible refine Ext.alloc ?_ _ | with_reducible refine Ext.drewN ?_ _ | with_reducible refine Ext.drew ?_ | with_reducible refine Ext.setCell ?_ (by first | (simp; done) | assumption | (simp; omega)) _ | (with_reducible refine Ext.trans ?_ (by with_reducible assumption))))

set_option maxHeartbeats 1000000 in
theorem add_in (y m d n : Int) (w : World) (hL : DaysLaid w) (h : Cal.okd y m d = true) (hn : dayB (Cal.num y m d + n) = true) :
    Calls Tryd.prog 18 #[.agg #[.int .i64 y, .int .i64 m, .int .i64 d], .int .i64 n] w fun e w' => e = .returned (.tuple #[.agg #[.int .i64 (Cal.dat (Cal.num y m d + n)).1, .int .i64 (Cal.dat (Cal.num y m d + n)).2.1, .int .i64 (Cal.dat (Cal.num y m d + n)).2.2], .int .i64 0]) ∧ Ext w w' := by
  have hL' := (hL.ext (Ext.new w (.cells #[.int .i64 y, .int .i64 m, .int .i64 d] 26))).ext (Ext.new _ (.cells #[.int .i64 0, .int .i64 0, .int .i64 0] 26))
  obtain ⟨b1, b2⟩ := Cal.num_bd h
  obtain ⟨i1, i2⟩ := dayB_true hn
  have g1 : decide (n < - Cal.num y m d) = false := df (by omega)
  have g2 : decide (2932896 - Cal.num y m d < n) = false := df (by omega)
  have HN := Lib.hid hn
  clear hn
  go_enter Tryd.func18, Tryd.ntmps18
  go_wp2_with (first | (go_at_call 10; (with_reducible refine (of_yes _ _ _ _ hL' h).mono ?_); rintro e w1 ⟨rfl, E1⟩; have hc1 := E1.2.1; have hf1 := E1.2.2; have hz1 := E1.size; have ht1 := E1.sizes; (try simp [Nat.add_one_le_iff] at hz1); (try have hy1 := Nat.le_of_lt hz1)) | (go_at_call 13; (with_reducible refine (at_yes _ _ HN.out).mono ?_); rintro e w2 ⟨rfl, E2⟩; have hc2 := E2.2.1; have hf2 := E2.2.2; have hz2 := E2.size; have ht2 := E2.sizes; (try simp [Nat.add_one_le_iff] at hz2); (try have hy2 := Nat.le_of_lt hz2)))
  have hz : w.heap.size + 1 < w2.heap.size := Nat.lt_of_lt_of_le hz1 hz2
  refine bodyPost_ret (v := .tuple #[.agg #[.int .i64 (Cal.dat (Cal.num y m d + n)).1, .int .i64 (Cal.dat (Cal.num y m d + n)).2.1, .int .i64 (Cal.dat (Cal.num y m d + n)).2.2], .int .i64 0]) (by simp [results, Tryd.results18, go_sem, hc1, hz1, hc2]) rfl ⟨?_, ?_⟩
  · rfl
  · (repeat (first | with_reducible exact Ext.refl _ | with_reducible assumption | exact Ext.mk (by with_reducible assumption) | with_reducible refine Ext.alloc ?_ _ | with_reducible refine Ext.drewN ?_ _ | with_reducible refine Ext.drew ?_ | with_reducible refine Ext.setCell ?_ (by first | (simp; done) | assumption | (simp; omega)) _ | (with_reducible refine Ext.trans ?_ (by with_reducible assumption))))

/-- the order of dates -/
def cmpD (y m d y' m' d' : Int) : Int := or3 (cmpI y y') (cmpI m m') (cmpI d d')
theorem cmpI_eq {a b : Int} : cmpI a b = 0 ↔ a = b := by unfold cmpI; split <;> (try split) <;> omega
theorem cmpD_eq {y m d y' m' d' : Int} : cmpD y m d y' m' d' = 0 ↔ y = y' ∧ m = m' ∧ d = d' := by
  unfold cmpD or3
  have a := @cmpI_eq y y'
  have b := @cmpI_eq m m'
  have c := @cmpI_eq d d'
  split
  · rename_i h; constructor
    · intro k; exact absurd k h
    · intro k; exact absurd (a.mpr k.1) h
  · rename_i h
    split
    · rename_i h2; constructor
      · intro k; exact absurd k h2
      · intro k; exact absurd (b.mpr k.2.1) h2
    · rename_i h2
      have h' : cmpI y y' = 0 := by simpa using h
      have h2' : cmpI m m' = 0 := by simpa using h2
      rw [c, a.mp h', b.mp h2']; simp

theorem or3_blk (k : Nat) (a b c : Int) (T : TypeId) (fr : Nat × Nat) (w : World) (h : w.heap[k]? = some (.cells #[.int .i64 a, .int .i64 b, .int .i64 c] T fr)) :
    Calls Tryd.prog 29 #[.slice (some ⟨k, 0, none⟩) 3 3] w fun e w' => e = .returned (.int .i64 (or3 a b c)) ∧ w = w' :=
  or3_any k a b c w (by rw [cell_of_block h]; rfl) (by rw [cell_of_block h]; rfl) (by rw [cell_of_block h]; rfl)

set_option maxHeartbeats 1000000 in
theorem compare_any (y m d y' m' d' : Int) (w : World) :
    Calls Tryd.prog 20 #[.agg #[.int .i64 y, .int .i64 m, .int .i64 d], .agg #[.int .i64 y', .int .i64 m', .int .i64 d']] w fun e w' => e = .returned (.int .i64 (cmpD y m d y' m' d')) ∧ Ext w w' := by
  go_enter Tryd.func20, Tryd.ntmps20
  go_wp2
  · rename_i e1 e2 e3
    go_ret
    refine ⟨ret_int (cmpD_eq.mpr ⟨e1, e2, e3⟩).symm, ?_⟩
    (repeat (first | with_reducible exact Ext.refl _ | with_reducible assumption | exact Ext.mk (by with_reducible assumption) | with_reducible refine Ext.alloc ?_ _ | with_reducible refine Ext.drewN ?_ _ | with_reducible refine Ext.drew ?_ | with_reducible refine Ext.setCell ?_ (by first | (simp; done) | assumption | (simp; omega)) _ | (with_reducible refine Ext.trans ?_ (by with_reducible assumption))))
  all_goals
    refine wp_region_from_tail _ (by (repeat (first | with_reducible exact Ext.refl _ | with_reducible assumption | exact Ext.mk (by with_reducible assumption) | with_reducible refine Ext.alloc ?_ _ | with_reducible refine Ext.drewN ?_ _ | with_reducible refine Ext.drew ?_ | with_reducible refine Ext.setCell ?_ (by first | (simp; done) | assumption | (simp; omega)) _ | (with_reducible refine Ext.trans ?_ (by with_reducible assumption))))) 15 (by kernel_rfl) (by kernel_rfl) ?_
    simp only [List.take_succ_cons, List.take_zero, List.drop_succ_cons, List.drop_zero]
    repeat (go_big_quiet_step ((go_at_call 30; exact Calls.ext_of_keep (cmpInt_any _ _ _))))
    refine wpQuiet_nil ?_
    rintro w1 E1
    go_wp2_with fail
    refine (or3_blk _ _ _ _ _ _ _ (new_block _ _)).mono ?_
    rintro e w2 ⟨rfl, rfl⟩
    go_wp2
    go_ret
    refine ⟨ret_int (by subst_vars; rfl), ?_⟩
    (repeat (first | with_reducible exact Ext.refl _ | with_reducible assumption | exact Ext.mk (by with_reducible assumption) | with_reducible refine Ext.alloc ?_ _ | with_reducible refine Ext.drewN ?_ _ | with_reducible refine Ext.drew ?_ | with_reducible refine Ext.setCell ?_ (by first | (simp; done) | assumption | (simp; omega)) _ | (with_reducible refine Ext.trans ?_ (by with_reducible assumption))))
