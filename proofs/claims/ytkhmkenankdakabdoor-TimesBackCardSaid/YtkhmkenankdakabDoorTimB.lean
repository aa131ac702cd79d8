/- Walks of package times and its reference: civil times and their times. -/
import Derived.Test.YtkhmkenankdakabDoorTimA
namespace Go.Proofs.YtkhmkenankdakabDoor
open Go Go.RowKit
set_option linter.unusedSimpArgs false
set_option linter.unusedVariables false

theorem within_yes (k : Nat) (a b c : Int) (T : TypeId) (fr : Nat × Nat) (w : World) (h : hmsB a b c = true) (hb : w.heap[k]? = some (.cells #[.int .i64 a, .int .i64 24, .int .i64 b, .int .i64 60, .int .i64 c, .int .i64 60] T fr)) :
    Calls Tryd.prog 41 #[.slice (some ⟨k, 0, none⟩) 3 3] w fun e w' => e = .returned (.bool true) ∧ Ext w w' := by
  have r := within_any k a b c T fr w hb; rw [h] at r; exact r

theorem within_no (k : Nat) (a b c : Int) (T : TypeId) (fr : Nat × Nat) (w : World) (h : hmsB a b c = false) (hb : w.heap[k]? = some (.cells #[.int .i64 a, .int .i64 24, .int .i64 b, .int .i64 60, .int .i64 c, .int .i64 60] T fr)) :
    Calls Tryd.prog 41 #[.slice (some ⟨k, 0, none⟩) 3 3] w fun e w' => e = .returned (.bool false) ∧ Ext w w' := by
  have r := within_any k a b c T fr w hb; rw [h] at r; exact r

set_option maxHeartbeats 1000000 in
theorem cvCheck_yes (y m d a b c : Int) (w : World) (hL : DaysLaid w) (h : okc y m d a b c = true) : Calls Tryd.prog 21 #[.agg #[.int .i64 y, .int .i64 m, .int .i64 d, .int .i64 a, .int .i64 b, .int .i64 c]] w fun e w' => e = .returned (.int .i64 0) ∧ Ext w w' := by
  obtain ⟨h1, h2⟩ := okc_true h
  have H1 := Lib.hid h1
  have H2 := Lib.hid h2
  clear h h1 h2
  go_enter Tryd.func21, Tryd.ntmps21
  go_wp2_with (first | (go_at_call 40; (with_reducible refine (check_yes _ _ _ _ (hL.ext (by (repeat (first | with_reducible exact Ext.refl _ | with_reducible assumption | exact Ext.mk (by with_reducible assumption) | with_reducible refine Ext.alloc ?_ _ | with_reducible refine Ext.drewN ?_ _ | with_reducible refine Ext.drew ?_ | with_reducible refine Ext.setCell ?_ (by first | (simp; done) | assumption | (simp; omega)) _ | (with_reducible refine Ext.trans ?_ (by with_reducible assumption)))))) H1.out).mono ?_); rintro e w1 ⟨rfl, E1⟩; have hc1 := E1.2.1; have hf1 := E1.2.2; have hz1 := E1.size; have ht1 := E1.sizes; (try simp [Nat.add_one_le_iff] at hz1); (try have hy1 := Nat.le_of_lt hz1); have F1 : Ext (w.alloc (.cells #[.int .i64 y, .int .i64 m, .int .i64 d, .int .i64 a, .int .i64 b, .int .i64 c] 37)) w1 := (by (repeat (first | with_reducible exact Ext.refl _ | with_reducible assumption | exact Ext.mk (by with_reducible assumption) | with_reducible refine Ext.alloc ?_ _ | with_reducible refine Ext.drewN ?_ _ | with_reducible refine Ext.drew ?_ | with_reducible refine Ext.setCell ?_ (by first | (simp; done) | assumption | (simp; omega)) _ | (with_reducible refine Ext.trans ?_ (by with_reducible assumption))))); have kc1 := F1.2.1; have kf1 := F1.2.2; have kz1 := F1.size; have kt1 := F1.sizes; (try simp [Nat.add_one_le_iff] at kz1); (try have ky1 := Nat.le_of_lt kz1)) | (go_at_call 41; (with_reducible refine (within_yes _ _ _ _ _ _ _ H2.out (new_block _ _)).mono ?_); rintro e w2 ⟨rfl, E2⟩; have hc2 := E2.2.1; have hf2 := E2.2.2; have hz2 := E2.size; have ht2 := E2.sizes; (try simp [Nat.add_one_le_iff] at hz2); (try have hy2 := Nat.le_of_lt hz2)))
  go_ret
  refine ⟨rfl, ?_⟩
  (repeat (first | with_reducible exact Ext.refl _ | with_reducible assumption | exact Ext.mk (by with_reducible assumption) | with_reducible refine Ext.alloc ?_ _ | with_reducible refine Ext.drewN ?_ _ | with_reducible refine Ext.drew ?_ | with_reducible refine Ext.setCell ?_ (by first | (simp; done) | assumption | (simp; omega)) _ | (with_reducible refine Ext.trans ?_ (by with_reducible assumption))))

set_option maxHeartbeats 1000000 in
theorem cvCheck_no (y m d a b c : Int) (w : World) (hL : DaysLaid w) (h : okc y m d a b c = false) : Calls Tryd.prog 21 #[.agg #[.int .i64 y, .int .i64 m, .int .i64 d, .int .i64 a, .int .i64 b, .int .i64 c]] w fun e w' => e = .returned (.int .i64 150) ∧ Ext w w' := by
  cases h1 : Cal.okd y m d
  · have H1 := Lib.hid h1
    clear h h1
    go_enter Tryd.func21, Tryd.ntmps21
    go_wp2_with (first | (go_at_call 40; (with_reducible refine (check_no _ _ _ _ (hL.ext (by (repeat (first | with_reducible exact Ext.refl _ | with_reducible assumption | exact Ext.mk (by with_reducible assumption) | with_reducible refine Ext.alloc ?_ _ | with_reducible refine Ext.drewN ?_ _ | with_reducible refine Ext.drew ?_ | with_reducible refine Ext.setCell ?_ (by first | (simp; done) | assumption | (simp; omega)) _ | (with_reducible refine Ext.trans ?_ (by with_reducible assumption)))))) H1.out).mono ?_); rintro e w1 ⟨rfl, E1⟩; have hc1 := E1.2.1; have hf1 := E1.2.2; have hz1 := E1.size; have ht1 := E1.sizes; (try simp [Nat.add_one_le_iff] at hz1); (try have hy1 := Nat.le_of_lt hz1); have F1 : Ext (w.alloc (.cells #[.int .i64 y, .int .i64 m, .int .i64 d, .int .i64 a, .int .i64 b, .int .i64 c] 37)) w1 := (by (repeat (first | with_reducible exact Ext.refl _ | with_reducible assumption | exact Ext.mk (by with_reducible assumption) | with_reducible refine Ext.alloc ?_ _ | with_reducible refine Ext.drewN ?_ _ | with_reducible refine Ext.drew ?_ | with_reducible refine Ext.setCell ?_ (by first | (simp; done) | assumption | (simp; omega)) _ | (with_reducible refine Ext.trans ?_ (by with_reducible assumption))))); have kc1 := F1.2.1; have kf1 := F1.2.2; have kz1 := F1.size; have kt1 := F1.sizes; (try simp [Nat.add_one_le_iff] at kz1); (try have ky1 := Nat.le_of_lt kz1)))
    go_ret
    refine ⟨rfl, ?_⟩
    (repeat (first | with_reducible exact Ext.refl _ | with_reducible assumption | exact Ext.mk (by with_reducible assumption) | with_reducible refine Ext.alloc ?_ _ | with_reducible refine Ext.drewN ?_ _ | with_reducible refine Ext.drew ?_ | with_reducible refine Ext.setCell ?_ (by first | (simp; done) | assumption | (simp; omega)) _ | (with_reducible refine Ext.trans ?_ (by with_reducible assumption))))
  · have h2 : hmsB a b c = false := by simpa [okc, h1] using h
    have H1 := Lib.hid h1
    have H2 := Lib.hid h2
    clear h h1 h2
    go_enter Tryd.func21, Tryd.ntmps21
    go_wp2_with (first | (go_at_call 40; (with_reducible refine (check_yes _ _ _ _ (hL.ext (by (repeat (first | with_reducible exact Ext.refl _ | with_reducible assumption | exact Ext.mk (by with_reducible assumption) | with_reducible refine Ext.alloc ?_ _ | with_reducible refine Ext.drewN ?_ _ | with_reducible refine Ext.drew ?_ | with_reducible refine Ext.setCell ?_ (by first | (simp; done) | assumption | (simp; omega)) _ | (with_reducible refine Ext.trans ?_ (by with_reducible assumption)))))) H1.out).mono ?_); rintro e w1 ⟨rfl, E1⟩; have hc1 := E1.2.1; have hf1 := E1.2.2; have hz1 := E1.size; have ht1 := E1.sizes; (try simp [Nat.add_one_le_iff] at hz1); (try have hy1 := Nat.le_of_lt hz1); have F1 : Ext (w.alloc (.cells #[.int .i64 y, .int .i64 m, .int .i64 d, .int .i64 a, .int .i64 b, .int .i64 c] 37)) w1 := (by (repeat (first | with_reducible exact Ext.refl _ | with_reducible assumption | exact Ext.mk (by with_reducible assumption) | with_reducible refine Ext.alloc ?_ _ | with_reducible refine Ext.drewN ?_ _ | with_reducible refine Ext.drew ?_ | with_reducible refine Ext.setCell ?_ (by first | (simp; done) | assumption | (simp; omega)) _ | (with_reducible refine Ext.trans ?_ (by with_reducible assumption))))); have kc1 := F1.2.1; have kf1 := F1.2.2; have kz1 := F1.size; have kt1 := F1.sizes; (try simp [Nat.add_one_le_iff] at kz1); (try have ky1 := Nat.le_of_lt kz1)) | (go_at_call 41; (with_reducible refine (within_no _ _ _ _ _ _ _ H2.out (new_block _ _)).mono ?_); rintro e w2 ⟨rfl, E2⟩; have hc2 := E2.2.1; have hf2 := E2.2.2; have hz2 := E2.size; have ht2 := E2.sizes; (try simp [Nat.add_one_le_iff] at hz2); (try have hy2 := Nat.le_of_lt hz2)))
    go_ret
    refine ⟨rfl, ?_⟩
    (repeat (first | with_reducible exact Ext.refl _ | with_reducible assumption | exact Ext.mk (by with_reducible assumption) | with_reducible refine Ext.alloc ?_ _ | with_reducible refine Ext.drewN ?_ _ | with_reducible refine Ext.drew ?_ | with_reducible refine Ext.setCell ?_ (by first | (simp; done) | assumption | (simp; omega)) _ | (with_reducible refine Ext.trans ?_ (by with_reducible assumption))))

set_option maxHeartbeats 1000000 in
theorem cvOf_no (y m d a b c : Int) (w : World) (hL : DaysLaid w) (h : okc y m d a b c = false) : Calls Tryd.prog 20 #[.agg #[.int .i64 y, .int .i64 m, .int .i64 d, .int .i64 a, .int .i64 b, .int .i64 c]] w fun e w' => e = .returned (.tuple #[.int .i64 0, .int .i64 150]) ∧ Ext w w' := by
  have H := Lib.hid h
  clear h
  go_enter Tryd.func20, Tryd.ntmps20
  go_wp2_with (first | (go_at_call 21; (with_reducible refine (cvCheck_no _ _ _ _ _ _ _ (hL.ext (by (repeat (first | with_reducible exact Ext.refl _ | with_reducible assumption | exact Ext.mk (by with_reducible assumption) | with_reducible refine Ext.alloc ?_ _ | with_reducible refine Ext.drewN ?_ _ | with_reducible refine Ext.drew ?_ | with_reducible refine Ext.setCell ?_ (by first | (simp; done) | assumption | (simp; omega)) _ | (with_reducible refine Ext.trans ?_ (by with_reducible assumption)))))) H.out).mono ?_); rintro e w1 ⟨rfl, E1⟩; have hc1 := E1.2.1; have hf1 := E1.2.2; have hz1 := E1.size; have ht1 := E1.sizes; (try simp [Nat.add_one_le_iff] at hz1); (try have hy1 := Nat.le_of_lt hz1); have F1 : Ext (w.alloc (.cells #[.int .i64 y, .int .i64 m, .int .i64 d, .int .i64 a, .int .i64 b, .int .i64 c] 37)) w1 := (by (repeat (first | with_reducible exact Ext.refl _ | with_reducible assumption | exact Ext.mk (by with_reducible assumption) | with_reducible refine Ext.alloc ?_ _ | with_reducible refine Ext.drewN ?_ _ | with_reducible refine Ext.drew ?_ | with_reducible refine Ext.setCell ?_ (by first | (simp; done) | assumption | (simp; omega)) _ | (with_reducible refine Ext.trans ?_ (by with_reducible assumption))))); have kc1 := F1.2.1; have kf1 := F1.2.2; have kz1 := F1.size; have kt1 := F1.sizes; (try simp [Nat.add_one_le_iff] at kz1); (try have ky1 := Nat.le_of_lt kz1)))
  go_ret2
  refine ⟨rfl, ?_⟩
  (repeat (first | with_reducible exact Ext.refl _ | with_reducible assumption | exact Ext.mk (by with_reducible assumption) | with_reducible refine Ext.alloc ?_ _ | with_reducible refine Ext.drewN ?_ _ | with_reducible refine Ext.drew ?_ | with_reducible refine Ext.setCell ?_ (by first | (simp; done) | assumption | (simp; omega)) _ | (with_reducible refine Ext.trans ?_ (by with_reducible assumption))))

set_option maxHeartbeats 1000000 in
theorem cvOf_yes (y m d a b c : Int) (w : World) (hL : DaysLaid w) (h : okc y m d a b c = true) : Calls Tryd.prog 20 #[.agg #[.int .i64 y, .int .i64 m, .int .i64 d, .int .i64 a, .int .i64 b, .int .i64 c]] w fun e w' => e = .returned (.tuple #[.int .i64 (tim y m d a b c), .int .i64 0]) ∧ Ext w w' := by
  obtain ⟨h1, h2⟩ := okc_true h
  have b0 := Cal.num_bd h1
  obtain ⟨b1, b2⟩ := b0
  obtain ⟨a1, a2, a3, a4, a5, a6⟩ := hmsB_iff.mp h2
  have H := Lib.hid h
  have H1 := Lib.hid h1
  clear h h1 h2
  go_enter Tryd.func20, Tryd.ntmps20
  go_wp2_with (first | (go_at_call 21; (with_reducible refine (cvCheck_yes _ _ _ _ _ _ _ (hL.ext (by (repeat (first | with_reducible exact Ext.refl _ | with_reducible assumption | exact Ext.mk (by with_reducible assumption) | with_reducible refine Ext.alloc ?_ _ | with_reducible refine Ext.drewN ?_ _ | with_reducible refine Ext.drew ?_ | with_reducible refine Ext.setCell ?_ (by first | (simp; done) | assumption | (simp; omega)) _ | (with_reducible refine Ext.trans ?_ (by with_reducible assumption)))))) H.out).mono ?_); rintro e w1 ⟨rfl, E1⟩; have hc1 := E1.2.1; have hf1 := E1.2.2; have hz1 := E1.size; have ht1 := E1.sizes; (try simp [Nat.add_one_le_iff] at hz1); (try have hy1 := Nat.le_of_lt hz1); have F1 : Ext (w.alloc (.cells #[.int .i64 y, .int .i64 m, .int .i64 d, .int .i64 a, .int .i64 b, .int .i64 c] 37)) w1 := (by (repeat (first | with_reducible exact Ext.refl _ | with_reducible assumption | exact Ext.mk (by with_reducible assumption) | with_reducible refine Ext.alloc ?_ _ | with_reducible refine Ext.drewN ?_ _ | with_reducible refine Ext.drew ?_ | with_reducible refine Ext.setCell ?_ (by first | (simp; done) | assumption | (simp; omega)) _ | (with_reducible refine Ext.trans ?_ (by with_reducible assumption))))); have kc1 := F1.2.1; have kf1 := F1.2.2; have kz1 := F1.size; have kt1 := F1.sizes; (try simp [Nat.add_one_le_iff] at kz1); (try have ky1 := Nat.le_of_lt kz1)) | (go_at_call 29; (with_reducible refine (of_yes _ _ _ _ (hL.ext (by (repeat (first | with_reducible exact Ext.refl _ | with_reducible assumption | exact Ext.mk (by with_reducible assumption) | with_reducible refine Ext.alloc ?_ _ | with_reducible refine Ext.drewN ?_ _ | with_reducible refine Ext.drew ?_ | with_reducible refine Ext.setCell ?_ (by first | (simp; done) | assumption | (simp; omega)) _ | (with_reducible refine Ext.trans ?_ (by with_reducible assumption)))))) H1.out).mono ?_); rintro e w2 ⟨rfl, E2⟩; have hc2 := E2.2.1; have hf2 := E2.2.2; have hz2 := E2.size; have ht2 := E2.sizes; (try simp [Nat.add_one_le_iff] at hz2); (try have hy2 := Nat.le_of_lt hz2); have F2 : Ext (w.alloc (.cells #[.int .i64 y, .int .i64 m, .int .i64 d, .int .i64 a, .int .i64 b, .int .i64 c] 37)) w2 := (by (repeat (first | with_reducible exact Ext.refl _ | with_reducible assumption | exact Ext.mk (by with_reducible assumption) | with_reducible refine Ext.alloc ?_ _ | with_reducible refine Ext.drewN ?_ _ | with_reducible refine Ext.drew ?_ | with_reducible refine Ext.setCell ?_ (by first | (simp; done) | assumption | (simp; omega)) _ | (with_reducible refine Ext.trans ?_ (by with_reducible assumption))))); have kc2 := F2.2.1; have kf2 := F2.2.2; have kz2 := F2.size; have kt2 := F2.sizes; (try simp [Nat.add_one_le_iff] at kz2); (try have ky2 := Nat.le_of_lt kz2)))
  go_ret2
  refine ⟨rfl, ?_⟩
  (repeat (first | with_reducible exact Ext.refl _ | with_reducible assumption | exact Ext.mk (by with_reducible assumption) | with_reducible refine Ext.alloc ?_ _ | with_reducible refine Ext.drewN ?_ _ | with_reducible refine Ext.drew ?_ | with_reducible refine Ext.setCell ?_ (by first | (simp; done) | assumption | (simp; omega)) _ | (with_reducible refine Ext.trans ?_ (by with_reducible assumption))))

set_option maxHeartbeats 1000000 in
theorem cvAt_no (t : Int) (w : World) (h : timeB t = false) : Calls Tryd.prog 16 #[.int .i64 t] w fun e w' => e = .returned (.tuple #[.agg #[.int .i64 0, .int .i64 0, .int .i64 0, .int .i64 0, .int .i64 0, .int .i64 0], .int .i64 2]) ∧ Ext w w' := by
  have H := Lib.hid h
  clear h
  go_enter Tryd.func16, Tryd.ntmps16
  go_wp2_with (first | (go_at_call 12; (with_reducible refine (may_no _ _ H.out).mono ?_); rintro e w1 ⟨rfl, rfl⟩))
  refine bodyPost_ret (v := .tuple #[.agg #[.int .i64 0, .int .i64 0, .int .i64 0, .int .i64 0, .int .i64 0, .int .i64 0], .int .i64 2]) (by simp [results, Tryd.results16, go_sem]) rfl ⟨?_, ?_⟩
  · rfl
  · (repeat (first | with_reducible exact Ext.refl _ | with_reducible assumption | exact Ext.mk (by with_reducible assumption) | with_reducible refine Ext.alloc ?_ _ | with_reducible refine Ext.drewN ?_ _ | with_reducible refine Ext.drew ?_ | with_reducible refine Ext.setCell ?_ (by first | (simp; done) | assumption | (simp; omega)) _ | (with_reducible refine Ext.trans ?_ (by with_reducible assumption))))

theorem time_day {t : Int} (h : timeB t = true) : dayB (t / 86400) = true := by
  have := timeB_true h
  simp [dayB]; omega

set_option maxHeartbeats 1000000 in
theorem cvAt_yes (t y m d : Int) (w : World) (h : timeB t = true) (e : Cal.dat (t / 86400) = (y, m, d)) : Calls Tryd.prog 16 #[.int .i64 t] w fun e w' => e = .returned (.tuple #[.agg #[.int .i64 y, .int .i64 m, .int .i64 d, .int .i64 (t % 86400 / 3600), .int .i64 (t % 3600 / 60), .int .i64 (t % 60)], .int .i64 0]) ∧ Ext w w' := by
  obtain ⟨h1, h2⟩ := timeB_true h
  have hday := Lib.hid (time_day h)
  have O := Lib.hid e
  have H := Lib.hid h
  clear h e
  go_enter Tryd.func16, Tryd.ntmps16
  go_wp2_with (first | (go_at_call 12; (with_reducible refine (may_yes _ _ H.out).mono ?_); rintro e w1 ⟨rfl, rfl⟩) | (go_at_call 37; (with_reducible refine (at_eq _ hday.out O.out).mono ?_); rintro e w2 ⟨rfl, E2⟩; have hc2 := E2.2.1; have hf2 := E2.2.2; have hz2 := E2.size; have ht2 := E2.sizes; (try simp [Nat.add_one_le_iff] at hz2); (try have hy2 := Nat.le_of_lt hz2)))
  refine bodyPost_ret (v := .tuple #[.agg #[.int .i64 y, .int .i64 m, .int .i64 d, .int .i64 (t % 86400 / 3600), .int .i64 (t % 3600 / 60), .int .i64 (t % 60)], .int .i64 0]) (by simp [results, Tryd.results16, go_sem, hc2, hz2, ht2]) rfl ⟨?_, ?_⟩
  · rfl
  · (repeat (first | with_reducible exact Ext.refl _ | with_reducible assumption | exact Ext.mk (by with_reducible assumption) | with_reducible refine Ext.alloc ?_ _ | with_reducible refine Ext.drewN ?_ _ | with_reducible refine Ext.drew ?_ | with_reducible refine Ext.setCell ?_ (by first | (simp; done) | assumption | (simp; omega)) _ | (with_reducible refine Ext.trans ?_ (by with_reducible assumption))))

set_option maxHeartbeats 1000000 in
theorem tmWeekday_yes (t : Int) (w : World) (h : timeB t = true) : Calls Tryd.prog 17 #[.int .i64 t] w fun e w' => e = .returned (.tuple #[.int .i64 ((t / 86400 + 4) % 7), .int .i64 0]) ∧ w = w' := by
  obtain ⟨h1, h2⟩ := timeB_true h
  have hday := Lib.hid (time_day h)
  have H := Lib.hid h
  clear h
  go_enter Tryd.func17, Tryd.ntmps17
  go_wp2_with (first | (go_at_call 12; (with_reducible refine (may_yes _ _ H.out).mono ?_); rintro e w1 ⟨rfl, rfl⟩) | (go_at_call 30; (with_reducible refine (weekday_yes _ _ hday.out).mono ?_); rintro e w2 ⟨rfl, rfl⟩))
  go_ret2
  exact ⟨rfl, rfl⟩

theorem tmWeekday_no (t : Int) (w : World) (h : timeB t = false) : Calls Tryd.prog 17 #[.int .i64 t] w fun e w' => e = .returned (.tuple #[.int .i64 0, .int .i64 2]) ∧ w = w' := by
  have H := Lib.hid h
  clear h
  go_enter Tryd.func17, Tryd.ntmps17
  go_wp2_with (first | (go_at_call 12; (with_reducible refine (may_no _ _ H.out).mono ?_); rintro e w1 ⟨rfl, rfl⟩))
  go_ret2
  exact ⟨rfl, rfl⟩

theorem refTime_yes (t : Int) (w : World) (h : timeB t = true) : Calls Tryd.prog 15 #[.int .i64 t] w fun e w' => e = .returned (.bool true) ∧ w = w' := by
  obtain ⟨h1, h2⟩ := timeB_true h
  clear h
  go_enter Tryd.func15, Tryd.ntmps15
  go_wp2
  go_ret
  exact ⟨ret_bool (by simp; try omega), rfl⟩

theorem refTime_no (t : Int) (w : World) (h : timeB t = false) : Calls Tryd.prog 15 #[.int .i64 t] w fun e w' => e = .returned (.bool false) ∧ w = w' := by
  have h' := timeB_false h
  clear h
  by_cases h1 : 0 ≤ t
  · have h2 : ¬ t ≤ 253402300799 := by omega
    clear h'
    go_enter Tryd.func15, Tryd.ntmps15
    go_wp2
    go_ret
    exact ⟨ret_bool (by simp; try omega), rfl⟩
  · clear h'
    go_enter Tryd.func15, Tryd.ntmps15
    go_wp2
    go_ret
    exact ⟨ret_bool (by simp; try omega), rfl⟩

set_option maxHeartbeats 1000000 in
theorem refWd_yes (t : Int) (w : World) (h : timeB t = true) : Calls Tryd.prog 19 #[.int .i64 t] w fun e w' => e = .returned (.int .i64 ((t / 86400 + 4) % 7)) ∧ w = w' := by
  obtain ⟨h1, h2⟩ := timeB_true h
  have hday := Lib.hid (time_day h)
  clear h
  go_enter Tryd.func19, Tryd.ntmps19
  go_wp2_with (first | (go_at_call 39; (with_reducible refine (refWeekday_day _ _ hday.out).mono ?_); rintro e w1 ⟨rfl, rfl⟩))
  go_ret
  exact ⟨rfl, rfl⟩

theorem refAt_eq {n y m d : Int} (w : World) (h : dayB n = true) (e : Cal.dat n = (y, m, d)) : Calls Tryd.prog 38 #[.int .i64 n] w fun e w' => e = .returned (.agg #[.int .i64 y, .int .i64 m, .int .i64 d]) ∧ Ext w w' := by
  have k := refAt_any n w h; rw [e] at k; exact k

set_option maxHeartbeats 1000000 in
theorem refCv_at (t y m d : Int) (w : World) (h : timeB t = true) (e : Cal.dat (t / 86400) = (y, m, d)) : Calls Tryd.prog 18 #[.int .i64 t] w fun e w' => e = .returned (.agg #[.int .i64 y, .int .i64 m, .int .i64 d, .int .i64 (t % 86400 / 3600), .int .i64 (t % 3600 / 60), .int .i64 (t % 60)]) ∧ Ext w w' := by
  obtain ⟨h1, h2⟩ := timeB_true h
  have hday := Lib.hid (time_day h)
  have O := Lib.hid e
  clear h e
  have e1 : t / 3600 / 24 = t / 86400 := by omega
  have e2 : t / 3600 % 24 = t % 86400 / 3600 := by omega
  have e3 : t / 60 % 60 = t % 3600 / 60 := by omega
  go_enter Tryd.func18, Tryd.ntmps18
  go_wp2_with (first | (go_at_call 38; (with_reducible refine (refAt_eq _ hday.out O.out).mono ?_); rintro e w2 ⟨rfl, E2⟩; have hc2 := E2.2.1; have hf2 := E2.2.2; have hz2 := E2.size; have ht2 := E2.sizes; (try simp [Nat.add_one_le_iff] at hz2); (try have hy2 := Nat.le_of_lt hz2)))
  refine bodyPost_ret (v := .agg #[.int .i64 y, .int .i64 m, .int .i64 d, .int .i64 (t % 86400 / 3600), .int .i64 (t % 3600 / 60), .int .i64 (t % 60)]) (by simp [results, Tryd.results18, go_sem, hc2, hz2, ht2]) rfl ⟨?_, ?_⟩
  · rfl
  · (repeat (first | with_reducible exact Ext.refl _ | with_reducible assumption | exact Ext.mk (by with_reducible assumption) | with_reducible refine Ext.alloc ?_ _ | with_reducible refine Ext.drewN ?_ _ | with_reducible refine Ext.drew ?_ | with_reducible refine Ext.setCell ?_ (by first | (simp; done) | assumption | (simp; omega)) _ | (with_reducible refine Ext.trans ?_ (by with_reducible assumption))))
