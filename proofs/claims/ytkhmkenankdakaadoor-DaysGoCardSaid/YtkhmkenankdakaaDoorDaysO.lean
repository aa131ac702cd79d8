/- The laws DaysGo and DaysEras, walked. -/
import Derived.Test.YtkhmkenankdakaaDoorDaysN
import Derived.Deep.DeepCutAuto
namespace Go.Proofs.YtkhmkenankdakaaDoor
open Go Go.RowKit
set_option linter.unusedSimpArgs false
set_option linter.unusedVariables false

/-- the day behind a date, in two steps -/
theorem next_day (n : Int) (h : dayB n = true) (h' : dayB (n + 1) = true) :
    (if Cal.long (Cal.dat n).1 (Cal.dat n).2.1 < (Cal.dat n).2.2 + 1 then (if 12 < (Cal.dat n).2.1 + 1 then Cal.dat (n + 1) = ((Cal.dat n).1 + 1, 1, 1) else Cal.dat (n + 1) = ((Cal.dat n).1, (Cal.dat n).2.1 + 1, 1))
      else Cal.dat (n + 1) = ((Cal.dat n).1, (Cal.dat n).2.1, (Cal.dat n).2.2 + 1)) := by
  obtain ⟨h1, h2⟩ := dayB_true h
  obtain ⟨h3, h4⟩ := dayB_true h'
  obtain ⟨o1, o2⟩ := Cal.dat_ok n h1 h2
  generalize Cal.dat n = p at *
  obtain ⟨y, m, d⟩ := p
  dsimp only at *
  obtain ⟨m1, m2⟩ := Cal.okd_month o1
  obtain ⟨y1, y2, d1, d2⟩ := Cal.okd_iff.mp o1
  have hnum : Cal.dby y + Cal.cum y m + d - 1 - 719528 = n := o2
  split
  · have ed : d = Cal.long y m := by omega
    split
    · have em : m = 12 := by omega
      subst em
      have e12 := Cal.cum_succ y 12 (by omega) (by omega)
      have e13 := Cal.cum_13 y
      rw [show (12 : Int) + 1 = 13 from rfl] at e12
      have es := Cal.dby_succ y
      have c1 := Cal.cum_1 (y + 1)
      have hy : y + 1 ≤ 9999 := by
        rcases Int.lt_or_le 9998 y with q | q
        · have : y = 9999 := by omega
          subst this
          have : Cal.dby (9999 + 1) = 3652425 := by decide
          omega
        · omega
      refine Cal.dat_of (Cal.okd_iff.mpr ⟨by omega, hy, by omega, ?_⟩) ?_
      · have := Cal.long_pos (y + 1) 1 (by omega) (by omega); omega
      · unfold Cal.num; omega
    · have ec := Cal.cum_succ y m m1 (by omega)
      refine Cal.dat_of (Cal.okd_iff.mpr ⟨y1, y2, by omega, ?_⟩) ?_
      · have := Cal.long_pos y (m + 1) (by omega) (by omega); omega
      · unfold Cal.num; omega
  · refine Cal.dat_of (Cal.okd_iff.mpr ⟨y1, y2, by omega, by omega⟩) ?_
    unfold Cal.num; omega

theorem at_eq {n y m d : Int} (w : World) (h : dayB n = true) (e : Cal.dat n = (y, m, d)) : Calls Tryd.prog 13 #[.int .i64 n] w fun e w' => e = .returned (.tuple #[.agg #[.int .i64 y, .int .i64 m, .int .i64 d], .int .i64 0]) ∧ Ext w w' := by
  have k := at_yes n w h; rw [e] at k; exact k
theorem dat_okd {n y m d : Int} (h : dayB n = true) (e : Cal.dat n = (y, m, d)) : Cal.okd y m d = true ∧ Cal.num y m d = n := by
  have k := Cal.dat_ok n (dayB_true h).1 (dayB_true h).2
  rw [e] at k; exact k
theorem add_eq {n t y m d Y M D : Int} (w : World) (hL : DaysLaid w) (h : dayB n = true) (h' : dayB (n + t) = true) (e : Cal.dat n = (y, m, d)) (e' : Cal.dat (n + t) = (Y, M, D)) :
    Calls Tryd.prog 18 #[.agg #[.int .i64 y, .int .i64 m, .int .i64 d], .int .i64 t] w fun e w' => e = .returned (.tuple #[.agg #[.int .i64 Y, .int .i64 M, .int .i64 D], .int .i64 0]) ∧ Ext w w' := by
  obtain ⟨o1, o2⟩ := dat_okd h e
  have k := add_in y m d t w hL o1 (by rw [o2]; exact h')
  rw [o2, e'] at k; exact k
theorem compare_eq {y m d Y M D c : Int} (w : World) (h : cmpD y m d Y M D = c) :
    Calls Tryd.prog 20 #[.agg #[.int .i64 y, .int .i64 m, .int .i64 d], .agg #[.int .i64 Y, .int .i64 M, .int .i64 D]] w fun e w' => e = .returned (.int .i64 c) ∧ Ext w w' := by
  have k := compare_any y m d Y M D w; rw [h] at k; exact k

theorem weekday_next (n : Int) : (n + 1 + 4) % 7 = ((n + 4) % 7 + 1) % 7 := by omega
theorem weekday_day1 (n : Int) (w : World) (h : dayB (n + 1) = true) : Calls Tryd.prog 14 #[.int .i64 (n + 1)] w fun e w' => e = .returned (.tuple #[.int .i64 (((n + 4) % 7 + 1) % 7), .int .i64 0]) ∧ w = w' := by
  have k := weekday_yes (n + 1) w h
  rw [weekday_next] at k; exact k

set_option maxHeartbeats 4000000 in
set_option maxRecDepth 100000 in
theorem walk_DaysGo (a0 : Int) (w : World) (w0 : (Lit.int .i64 a0).wf = true) (hL : DaysLaid w) :
    Calls Tryd.prog 7 #[.int .i64 a0] w fun e w' => e = .returned (.bool true) ∧ Ext w w' := by
  obtain ⟨r1, r2⟩ := i64_range w0
  clear w0
  obtain ⟨_, n1, n2⟩ := rem_bd a0 2932896 (by omega) (by omega)
  obtain ⟨n, hn⟩ : ∃ n, wrap64 ((IntKind.u64.wrap a0).tmod 2932896) = n := ⟨_, rfl⟩
  rw [hn] at n1 n2
  have hday : Hid (dayB n = true) := by show _ = _; simp [dayB]; omega
  have hday' : Hid (dayB (n + 1) = true) := by show _ = _; simp [dayB]; omega
  have nd := next_day n hday.out hday'.out
  obtain ⟨y, m, d, ho⟩ : ∃ y m d, Cal.dat n = (y, m, d) := ⟨_, _, _, rfl⟩
  rw [ho] at nd
  dsimp only at nd
  obtain ⟨o1, _⟩ := dat_okd hday.out ho
  obtain ⟨m1, m2⟩ := Cal.okd_month o1
  obtain ⟨y1, y2, d1, d2⟩ := Cal.okd_iff.mp o1
  have l31 := Cal.long_bd y m
  clear o1
  by_cases g1 : Cal.long y m < d + 1
  · rw [if_pos g1] at nd
    by_cases g2 : 12 < m + 1
    · rw [if_pos g2] at nd
      have ho' := nd
      clear nd
      have hc : cmpD y m d (y + 1) 1 1 = -1 := cmpD_lt (by omega)
      have C := Lib.hid hc
      clear hc
      have O := Lib.hid ho
      have O' := Lib.hid ho'
      clear ho ho'
      have back : Hid (Cal.dat (n + 1 + -1) = (y, m, d)) := by show _ = _; rw [show n + 1 + -1 = n by omega]; exact O.out
      have dback : Hid (dayB (n + 1 + -1) = true) := by show _ = _; rw [show n + 1 + -1 = n by omega]; exact hday.out
      go_enter Tryd.func7, Tryd.ntmps7
      go_wp2_with (first | (go_at_call 9; (with_reducible refine (daysWakes _ hL).mono ?_); rintro e w1 ⟨rfl, E1⟩; have hc1 := E1.2.1; have hf1 := E1.2.2; have hz1 := E1.size; have ht1 := E1.sizes; (try simp [Nat.add_one_le_iff] at hz1); (try have hy1 := Nat.le_of_lt hz1); have F1 : Ext w w1 := (by (repeat (first | with_reducible exact Ext.refl _ | with_reducible assumption | exact Ext.mk (by with_reducible assumption) | with_reducible refine Ext.alloc ?_ _ | with_reducible refine Ext.drewN ?_ _ | with_reducible refine Ext.drew ?_ | with_reducible refine Ext.setCell ?_ (by first | (simp; done) | assumption | (simp; omega)) _ | (with_reducible refine Ext.trans ?_ (by with_reducible assumption))))); have kc1 := F1.2.1; have kf1 := F1.2.2; have kz1 := F1.size; have kt1 := F1.sizes; (try simp [Nat.add_one_le_iff] at kz1); (try have ky1 := Nat.le_of_lt kz1)) | (go_at_call 13; (with_reducible refine (at_eq _ hday.out O.out).mono ?_); rintro e w2 ⟨rfl, E2⟩; have hc2 := E2.2.1; have hf2 := E2.2.2; have hz2 := E2.size; have ht2 := E2.sizes; (try simp [Nat.add_one_le_iff] at hz2); (try have hy2 := Nat.le_of_lt hz2); have F2 : Ext w w2 := (by (repeat (first | with_reducible exact Ext.refl _ | with_reducible assumption | exact Ext.mk (by with_reducible assumption) | with_reducible refine Ext.alloc ?_ _ | with_reducible refine Ext.drewN ?_ _ | with_reducible refine Ext.drew ?_ | with_reducible refine Ext.setCell ?_ (by first | (simp; done) | assumption | (simp; omega)) _ | (with_reducible refine Ext.trans ?_ (by with_reducible assumption))))); have kc2 := F2.2.1; have kf2 := F2.2.2; have kz2 := F2.size; have kt2 := F2.sizes; (try simp [Nat.add_one_le_iff] at kz2); (try have ky2 := Nat.le_of_lt kz2)) | (go_at_call 13; (with_reducible refine (at_eq _ hday'.out O'.out).mono ?_); rintro e w3 ⟨rfl, E3⟩; have hc3 := E3.2.1; have hf3 := E3.2.2; have hz3 := E3.size; have ht3 := E3.sizes; (try simp [Nat.add_one_le_iff] at hz3); (try have hy3 := Nat.le_of_lt hz3); have F3 : Ext w w3 := (by (repeat (first | with_reducible exact Ext.refl _ | with_reducible assumption | exact Ext.mk (by with_reducible assumption) | with_reducible refine Ext.alloc ?_ _ | with_reducible refine Ext.drewN ?_ _ | with_reducible refine Ext.drew ?_ | with_reducible refine Ext.setCell ?_ (by first | (simp; done) | assumption | (simp; omega)) _ | (with_reducible refine Ext.trans ?_ (by with_reducible assumption))))); have kc3 := F3.2.1; have kf3 := F3.2.2; have kz3 := F3.size; have kt3 := F3.sizes; (try simp [Nat.add_one_le_iff] at kz3); (try have ky3 := Nat.le_of_lt kz3)) | (go_at_call 14; (with_reducible refine (weekday_yes n _ hday.out).mono ?_); rintro e w4 ⟨rfl, rfl⟩) | (go_at_call 14; (with_reducible refine (weekday_day1 n _ hday'.out).mono ?_); rintro e w5 ⟨rfl, rfl⟩) | (go_at_call 20; (with_reducible refine (compare_eq _ C.out).mono ?_); rintro e w6 ⟨rfl, E6⟩; have hc6 := E6.2.1; have hf6 := E6.2.2; have hz6 := E6.size; have ht6 := E6.sizes; (try simp [Nat.add_one_le_iff] at hz6); (try have hy6 := Nat.le_of_lt hz6); have F6 : Ext w w6 := (by (repeat (first | with_reducible exact Ext.refl _ | with_reducible assumption | exact Ext.mk (by with_reducible assumption) | with_reducible refine Ext.alloc ?_ _ | with_reducible refine Ext.drewN ?_ _ | with_reducible refine Ext.drew ?_ | with_reducible refine Ext.setCell ?_ (by first | (simp; done) | assumption | (simp; omega)) _ | (with_reducible refine Ext.trans ?_ (by with_reducible assumption))))); have kc6 := F6.2.1; have kf6 := F6.2.2; have kz6 := F6.size; have kt6 := F6.sizes; (try simp [Nat.add_one_le_iff] at kz6); (try have ky6 := Nat.le_of_lt kz6)))
      have s36 : w2.heap.size < w6.heap.size := Nat.lt_trans hz3 hz6
      refine wp_forget (fun x => Ext w x ∧ (w2.heap.size < x.heap.size ∧ w3.heap.size < x.heap.size ∧ w6.heap.size < x.heap.size) ∧ Has3 x w2.heap.size (.int .i64 y) (.int .i64 m) (.int .i64 d) ∧ Has3 x w3.heap.size (.int .i64 (y + 1)) (.int .i64 1) (.int .i64 1) ∧ Has3 x w6.heap.size (.int .i64 y) (.int .i64 m) (.int .i64 (d + 1))) ⟨by (repeat (first | with_reducible exact Ext.refl _ | with_reducible assumption | exact Ext.mk (by with_reducible assumption) | with_reducible refine Ext.alloc ?_ _ | with_reducible refine Ext.drewN ?_ _ | with_reducible refine Ext.drew ?_ | with_reducible refine Ext.setCell ?_ (by first | (simp; done) | assumption | (simp; omega)) _ | (with_reducible refine Ext.trans ?_ (by with_reducible assumption)))), ⟨by simp; omega, by simp; omega, by simp⟩, ⟨by go_simp, by go_simp⟩, ⟨by go_simp, by go_simp⟩, ⟨by go_simp, by go_simp⟩⟩ ?_
      rintro x1 ⟨X1, ⟨x2, x3, x6⟩, ⟨⟨a0', a1', a2'⟩, _⟩, ⟨⟨b0', b1', b2'⟩, _⟩, ⟨c0', c1', c2'⟩, e0', e1', e2'⟩
      have w6s : w.heap.size ≤ w6.heap.size := (by first | exact E6.size | (have := F6.size; omega))
      have ne1 : w2.heap.size ≠ w6.heap.size := Nat.ne_of_lt s36
      have ne2 : w3.heap.size ≠ w6.heap.size := Nat.ne_of_lt hz6
      clear hc2 hf2 kc2 kf2 hc3 hf3 kc3 kf3 hc6 hf6 kc6 kf6 hc1 hf1 kc1 kf1
      refine wp_region_from x1 (by (repeat (first | with_reducible exact Ext.refl _ | with_reducible assumption | exact Ext.mk (by with_reducible assumption) | with_reducible refine Ext.alloc ?_ _ | with_reducible refine Ext.drewN ?_ _ | with_reducible refine Ext.drew ?_ | with_reducible refine Ext.setCell ?_ (by first | (simp; done) | assumption | (simp; omega)) _ | (with_reducible refine Ext.trans ?_ (by with_reducible assumption))))) (by kernel_rfl) (by kernel_rfl) ?_
      repeat (go_big_quiet_step ((go_at_call 24; exact Calls.ext_of (long_any _ _ _ (hL.ext (X1.trans (EW.ext _)))))))
      refine wpQuiet_nil ?_
      rintro w7 E7
      have hc7 := E7.2.1
      have hf7 := E7.2.2
      have hz7 := E7.size
      have z2 := Nat.lt_of_lt_of_le x2 hz7
      have z3 := Nat.lt_of_lt_of_le x3 hz7
      have z6 := Nat.lt_of_lt_of_le x6 hz7
      go_upto_region 16 with fail
      refine wp_forget (fun x => Ext w x ∧ (w2.heap.size < x.heap.size ∧ w3.heap.size < x.heap.size ∧ w6.heap.size < x.heap.size) ∧ Has3 x w2.heap.size (.int .i64 y) (.int .i64 m) (.int .i64 d) ∧ Has3 x w3.heap.size (.int .i64 (y + 1)) (.int .i64 1) (.int .i64 1) ∧ Has3 x w6.heap.size (.int .i64 (y + 1)) (.int .i64 1) (.int .i64 1)) ⟨by (repeat (first | with_reducible exact Ext.refl _ | with_reducible assumption | exact Ext.mk (by with_reducible assumption) | with_reducible refine Ext.alloc ?_ _ | with_reducible refine Ext.drewN ?_ _ | with_reducible refine Ext.drew ?_ | with_reducible refine Ext.setCell ?_ (by first | (simp; done) | assumption | (simp; omega)) _ | (with_reducible refine Ext.trans ?_ (by with_reducible assumption)))), ⟨by simpa using z2, by simpa using z3, by simpa using z6⟩, ⟨by go_simp, by go_simp⟩, ⟨by go_simp, by go_simp⟩, ⟨by go_simp, by go_simp⟩⟩ ?_
      rintro y1 ⟨Y1, ⟨x2, x3, x6⟩, ⟨⟨a0', a1', a2'⟩, _⟩, ⟨⟨b0', b1', b2'⟩, _⟩, ⟨c0', c1', c2'⟩, e0', e1', e2'⟩
      go_wp2_with (first | (go_at_call 18; (with_reducible refine (add_eq _ (hL.ext (by (repeat (first | with_reducible exact Ext.refl _ | with_reducible assumption | exact Ext.mk (by with_reducible assumption) | with_reducible refine Ext.alloc ?_ _ | with_reducible refine Ext.drewN ?_ _ | with_reducible refine Ext.drew ?_ | with_reducible refine Ext.setCell ?_ (by first | (simp; done) | assumption | (simp; omega)) _ | (with_reducible refine Ext.trans ?_ (by with_reducible assumption)))))) hday.out hday'.out O.out O'.out).mono ?_); rintro e w8 ⟨rfl, E8⟩; have hc8 := E8.2.1; have hf8 := E8.2.2; have hz8 := E8.size; have ht8 := E8.sizes; (try simp [Nat.add_one_le_iff] at hz8); (try have hy8 := Nat.le_of_lt hz8); have F8 : Ext y1 w8 := (by (repeat (first | with_reducible exact Ext.refl _ | with_reducible assumption | exact Ext.mk (by with_reducible assumption) | with_reducible refine Ext.alloc ?_ _ | with_reducible refine Ext.drewN ?_ _ | with_reducible refine Ext.drew ?_ | with_reducible refine Ext.setCell ?_ (by first | (simp; done) | assumption | (simp; omega)) _ | (with_reducible refine Ext.trans ?_ (by with_reducible assumption))))); have kc8 := F8.2.1; have kf8 := F8.2.2; have kz8 := F8.size; have kt8 := F8.sizes; (try simp [Nat.add_one_le_iff] at kz8); (try have ky8 := Nat.le_of_lt kz8)) | (go_at_call 18; (with_reducible refine (add_eq _ (hL.ext (by (repeat (first | with_reducible exact Ext.refl _ | with_reducible assumption | exact Ext.mk (by with_reducible assumption) | with_reducible refine Ext.alloc ?_ _ | with_reducible refine Ext.drewN ?_ _ | with_reducible refine Ext.drew ?_ | with_reducible refine Ext.setCell ?_ (by first | (simp; done) | assumption | (simp; omega)) _ | (with_reducible refine Ext.trans ?_ (by with_reducible assumption)))))) hday'.out dback.out O'.out back.out).mono ?_); rintro e w9 ⟨rfl, E9⟩; have hc9 := E9.2.1; have hf9 := E9.2.2; have hz9 := E9.size; have ht9 := E9.sizes; (try simp [Nat.add_one_le_iff] at hz9); (try have hy9 := Nat.le_of_lt hz9); have F9 : Ext y1 w9 := (by (repeat (first | with_reducible exact Ext.refl _ | with_reducible assumption | exact Ext.mk (by with_reducible assumption) | with_reducible refine Ext.alloc ?_ _ | with_reducible refine Ext.drewN ?_ _ | with_reducible refine Ext.drew ?_ | with_reducible refine Ext.setCell ?_ (by first | (simp; done) | assumption | (simp; omega)) _ | (with_reducible refine Ext.trans ?_ (by with_reducible assumption))))); have kc9 := F9.2.1; have kf9 := F9.2.2; have kz9 := F9.size; have kt9 := F9.sizes; (try simp [Nat.add_one_le_iff] at kz9); (try have ky9 := Nat.le_of_lt kz9)))
      go_ret
      refine ⟨rfl, ?_⟩
      (repeat (first | with_reducible exact Ext.refl _ | with_reducible assumption | exact Ext.mk (by with_reducible assumption) | with_reducible refine Ext.alloc ?_ _ | with_reducible refine Ext.drewN ?_ _ | with_reducible refine Ext.drew ?_ | with_reducible refine Ext.setCell ?_ (by first | (simp; done) | assumption | (simp; omega)) _ | (with_reducible refine Ext.trans ?_ (by with_reducible assumption))))
    · rw [if_neg g2] at nd
      have ho' := nd
      clear nd
      have hc : cmpD y m d y (m + 1) 1 = -1 := cmpD_lt2 (by omega)
      have C := Lib.hid hc
      clear hc
      have O := Lib.hid ho
      have O' := Lib.hid ho'
      clear ho ho'
      have back : Hid (Cal.dat (n + 1 + -1) = (y, m, d)) := by show _ = _; rw [show n + 1 + -1 = n by omega]; exact O.out
      have dback : Hid (dayB (n + 1 + -1) = true) := by show _ = _; rw [show n + 1 + -1 = n by omega]; exact hday.out
      go_enter Tryd.func7, Tryd.ntmps7
      go_wp2_with (first | (go_at_call 9; (with_reducible refine (daysWakes _ hL).mono ?_); rintro e w1 ⟨rfl, E1⟩; have hc1 := E1.2.1; have hf1 := E1.2.2; have hz1 := E1.size; have ht1 := E1.sizes; (try simp [Nat.add_one_le_iff] at hz1); (try have hy1 := Nat.le_of_lt hz1); have F1 : Ext w w1 := (by (repeat (first | with_reducible exact Ext.refl _ | with_reducible assumption | exact Ext.mk (by with_reducible assumption) | with_reducible refine Ext.alloc ?_ _ | with_reducible refine Ext.drewN ?_ _ | with_reducible refine Ext.drew ?_ | with_reducible refine Ext.setCell ?_ (by first | (simp; done) | assumption | (simp; omega)) _ | (with_reducible refine Ext.trans ?_ (by with_reducible assumption))))); have kc1 := F1.2.1; have kf1 := F1.2.2; have kz1 := F1.size; have kt1 := F1.sizes; (try simp [Nat.add_one_le_iff] at kz1); (try have ky1 := Nat.le_of_lt kz1)) | (go_at_call 13; (with_reducible refine (at_eq _ hday.out O.out).mono ?_); rintro e w2 ⟨rfl, E2⟩; have hc2 := E2.2.1; have hf2 := E2.2.2; have hz2 := E2.size; have ht2 := E2.sizes; (try simp [Nat.add_one_le_iff] at hz2); (try have hy2 := Nat.le_of_lt hz2); have F2 : Ext w w2 := (by (repeat (first | with_reducible exact Ext.refl _ | with_reducible assumption | exact Ext.mk (by with_reducible assumption) | with_reducible refine Ext.alloc ?_ _ | with_reducible refine Ext.drewN ?_ _ | with_reducible refine Ext.drew ?_ | with_reducible refine Ext.setCell ?_ (by first | (simp; done) | assumption | (simp; omega)) _ | (with_reducible refine Ext.trans ?_ (by with_reducible assumption))))); have kc2 := F2.2.1; have kf2 := F2.2.2; have kz2 := F2.size; have kt2 := F2.sizes; (try simp [Nat.add_one_le_iff] at kz2); (try have ky2 := Nat.le_of_lt kz2)) | (go_at_call 13; (with_reducible refine (at_eq _ hday'.out O'.out).mono ?_); rintro e w3 ⟨rfl, E3⟩; have hc3 := E3.2.1; have hf3 := E3.2.2; have hz3 := E3.size; have ht3 := E3.sizes; (try simp [Nat.add_one_le_iff] at hz3); (try have hy3 := Nat.le_of_lt hz3); have F3 : Ext w w3 := (by (repeat (first | with_reducible exact Ext.refl _ | with_reducible assumption | exact Ext.mk (by with_reducible assumption) | with_reducible refine Ext.alloc ?_ _ | with_reducible refine Ext.drewN ?_ _ | with_reducible refine Ext.drew ?_ | with_reducible refine Ext.setCell ?_ (by first | (simp; done) | assumption | (simp; omega)) _ | (with_reducible refine Ext.trans ?_ (by with_reducible assumption))))); have kc3 := F3.2.1; have kf3 := F3.2.2; have kz3 := F3.size; have kt3 := F3.sizes; (try simp [Nat.add_one_le_iff] at kz3); (try have ky3 := Nat.le_of_lt kz3)) | (go_at_call 14; (with_reducible refine (weekday_yes n _ hday.out).mono ?_); rintro e w4 ⟨rfl, rfl⟩) | (go_at_call 14; (with_reducible refine (weekday_day1 n _ hday'.out).mono ?_); rintro e w5 ⟨rfl, rfl⟩) | (go_at_call 20; (with_reducible refine (compare_eq _ C.out).mono ?_); rintro e w6 ⟨rfl, E6⟩; have hc6 := E6.2.1; have hf6 := E6.2.2; have hz6 := E6.size; have ht6 := E6.sizes; (try simp [Nat.add_one_le_iff] at hz6); (try have hy6 := Nat.le_of_lt hz6); have F6 : Ext w w6 := (by (repeat (first | with_reducible exact Ext.refl _ | with_reducible assumption | exact Ext.mk (by with_reducible assumption) | with_reducible refine Ext.alloc ?_ _ | with_reducible refine Ext.drewN ?_ _ | with_reducible refine Ext.drew ?_ | with_reducible refine Ext.setCell ?_ (by first | (simp; done) | assumption | (simp; omega)) _ | (with_reducible refine Ext.trans ?_ (by with_reducible assumption))))); have kc6 := F6.2.1; have kf6 := F6.2.2; have kz6 := F6.size; have kt6 := F6.sizes; (try simp [Nat.add_one_le_iff] at kz6); (try have ky6 := Nat.le_of_lt kz6)))
      have s36 : w2.heap.size < w6.heap.size := Nat.lt_trans hz3 hz6
      refine wp_forget (fun x => Ext w x ∧ (w2.heap.size < x.heap.size ∧ w3.heap.size < x.heap.size ∧ w6.heap.size < x.heap.size) ∧ Has3 x w2.heap.size (.int .i64 y) (.int .i64 m) (.int .i64 d) ∧ Has3 x w3.heap.size (.int .i64 y) (.int .i64 (m + 1)) (.int .i64 1) ∧ Has3 x w6.heap.size (.int .i64 y) (.int .i64 m) (.int .i64 (d + 1))) ⟨by (repeat (first | with_reducible exact Ext.refl _ | with_reducible assumption | exact Ext.mk (by with_reducible assumption) | with_reducible refine Ext.alloc ?_ _ | with_reducible refine Ext.drewN ?_ _ | with_reducible refine Ext.drew ?_ | with_reducible refine Ext.setCell ?_ (by first | (simp; done) | assumption | (simp; omega)) _ | (with_reducible refine Ext.trans ?_ (by with_reducible assumption)))), ⟨by simp; omega, by simp; omega, by simp⟩, ⟨by go_simp, by go_simp⟩, ⟨by go_simp, by go_simp⟩, ⟨by go_simp, by go_simp⟩⟩ ?_
      rintro x1 ⟨X1, ⟨x2, x3, x6⟩, ⟨⟨a0', a1', a2'⟩, _⟩, ⟨⟨b0', b1', b2'⟩, _⟩, ⟨c0', c1', c2'⟩, e0', e1', e2'⟩
      have w6s : w.heap.size ≤ w6.heap.size := (by first | exact E6.size | (have := F6.size; omega))
      have ne1 : w2.heap.size ≠ w6.heap.size := Nat.ne_of_lt s36
      have ne2 : w3.heap.size ≠ w6.heap.size := Nat.ne_of_lt hz6
      clear hc2 hf2 kc2 kf2 hc3 hf3 kc3 kf3 hc6 hf6 kc6 kf6 hc1 hf1 kc1 kf1
      refine wp_region_from x1 (by (repeat (first | with_reducible exact Ext.refl _ | with_reducible assumption | exact Ext.mk (by with_reducible assumption) | with_reducible refine Ext.alloc ?_ _ | with_reducible refine Ext.drewN ?_ _ | with_reducible refine Ext.drew ?_ | with_reducible refine Ext.setCell ?_ (by first | (simp; done) | assumption | (simp; omega)) _ | (with_reducible refine Ext.trans ?_ (by with_reducible assumption))))) (by kernel_rfl) (by kernel_rfl) ?_
      repeat (go_big_quiet_step ((go_at_call 24; exact Calls.ext_of (long_any _ _ _ (hL.ext (X1.trans (EW.ext _)))))))
      refine wpQuiet_nil ?_
      rintro w7 E7
      have hc7 := E7.2.1
      have hf7 := E7.2.2
      have hz7 := E7.size
      have z2 := Nat.lt_of_lt_of_le x2 hz7
      have z3 := Nat.lt_of_lt_of_le x3 hz7
      have z6 := Nat.lt_of_lt_of_le x6 hz7
      go_upto_region 16 with fail
      refine wp_forget (fun x => Ext w x ∧ (w2.heap.size < x.heap.size ∧ w3.heap.size < x.heap.size ∧ w6.heap.size < x.heap.size) ∧ Has3 x w2.heap.size (.int .i64 y) (.int .i64 m) (.int .i64 d) ∧ Has3 x w3.heap.size (.int .i64 y) (.int .i64 (m + 1)) (.int .i64 1) ∧ Has3 x w6.heap.size (.int .i64 y) (.int .i64 (m + 1)) (.int .i64 1)) ⟨by (repeat (first | with_reducible exact Ext.refl _ | with_reducible assumption | exact Ext.mk (by with_reducible assumption) | with_reducible refine Ext.alloc ?_ _ | with_reducible refine Ext.drewN ?_ _ | with_reducible refine Ext.drew ?_ | with_reducible refine Ext.setCell ?_ (by first | (simp; done) | assumption | (simp; omega)) _ | (with_reducible refine Ext.trans ?_ (by with_reducible assumption)))), ⟨by simpa using z2, by simpa using z3, by simpa using z6⟩, ⟨by go_simp, by go_simp⟩, ⟨by go_simp, by go_simp⟩, ⟨by go_simp, by go_simp⟩⟩ ?_
      rintro y1 ⟨Y1, ⟨x2, x3, x6⟩, ⟨⟨a0', a1', a2'⟩, _⟩, ⟨⟨b0', b1', b2'⟩, _⟩, ⟨c0', c1', c2'⟩, e0', e1', e2'⟩
      go_wp2_with (first | (go_at_call 18; (with_reducible refine (add_eq _ (hL.ext (by (repeat (first | with_reducible exact Ext.refl _ | with_reducible assumption | exact Ext.mk (by with_reducible assumption) | with_reducible refine Ext.alloc ?_ _ | with_reducible refine Ext.drewN ?_ _ | with_reducible refine Ext.drew ?_ | with_reducible refine Ext.setCell ?_ (by first | (simp; done) | assumption | (simp; omega)) _ | (with_reducible refine Ext.trans ?_ (by with_reducible assumption)))))) hday.out hday'.out O.out O'.out).mono ?_); rintro e w8 ⟨rfl, E8⟩; have hc8 := E8.2.1; have hf8 := E8.2.2; have hz8 := E8.size; have ht8 := E8.sizes; (try simp [Nat.add_one_le_iff] at hz8); (try have hy8 := Nat.le_of_lt hz8); have F8 : Ext y1 w8 := (by (repeat (first | with_reducible exact Ext.refl _ | with_reducible assumption | exact Ext.mk (by with_reducible assumption) | with_reducible refine Ext.alloc ?_ _ | with_reducible refine Ext.drewN ?_ _ | with_reducible refine Ext.drew ?_ | with_reducible refine Ext.setCell ?_ (by first | (simp; done) | assumption | (simp; omega)) _ | (with_reducible refine Ext.trans ?_ (by with_reducible assumption))))); have kc8 := F8.2.1; have kf8 := F8.2.2; have kz8 := F8.size; have kt8 := F8.sizes; (try simp [Nat.add_one_le_iff] at kz8); (try have ky8 := Nat.le_of_lt kz8)) | (go_at_call 18; (with_reducible refine (add_eq _ (hL.ext (by (repeat (first | with_reducible exact Ext.refl _ | with_reducible assumption | exact Ext.mk (by with_reducible assumption) | with_reducible refine Ext.alloc ?_ _ | with_reducible refine Ext.drewN ?_ _ | with_reducible refine Ext.drew ?_ | with_reducible refine Ext.setCell ?_ (by first | (simp; done) | assumption | (simp; omega)) _ | (with_reducible refine Ext.trans ?_ (by with_reducible assumption)))))) hday'.out dback.out O'.out back.out).mono ?_); rintro e w9 ⟨rfl, E9⟩; have hc9 := E9.2.1; have hf9 := E9.2.2; have hz9 := E9.size; have ht9 := E9.sizes; (try simp [Nat.add_one_le_iff] at hz9); (try have hy9 := Nat.le_of_lt hz9); have F9 : Ext y1 w9 := (by (repeat (first | with_reducible exact Ext.refl _ | with_reducible assumption | exact Ext.mk (by with_reducible assumption) | with_reducible refine Ext.alloc ?_ _ | with_reducible refine Ext.drewN ?_ _ | with_reducible refine Ext.drew ?_ | with_reducible refine Ext.setCell ?_ (by first | (simp; done) | assumption | (simp; omega)) _ | (with_reducible refine Ext.trans ?_ (by with_reducible assumption))))); have kc9 := F9.2.1; have kf9 := F9.2.2; have kz9 := F9.size; have kt9 := F9.sizes; (try simp [Nat.add_one_le_iff] at kz9); (try have ky9 := Nat.le_of_lt kz9)))
      go_ret
      refine ⟨rfl, ?_⟩
      (repeat (first | with_reducible exact Ext.refl _ | with_reducible assumption | exact Ext.mk (by with_reducible assumption) | with_reducible refine Ext.alloc ?_ _ | with_reducible refine Ext.drewN ?_ _ | with_reducible refine Ext.drew ?_ | with_reducible refine Ext.setCell ?_ (by first | (simp; done) | assumption | (simp; omega)) _ | (with_reducible refine Ext.trans ?_ (by with_reducible assumption))))
  · rw [if_neg g1] at nd
    have ho' := nd
    clear nd
    have hc : cmpD y m d y m (d + 1) = -1 := cmpD_lt3 (by omega)
    have C := Lib.hid hc
    clear hc
    have O := Lib.hid ho
    have O' := Lib.hid ho'
    clear ho ho'
    have back : Hid (Cal.dat (n + 1 + -1) = (y, m, d)) := by show _ = _; rw [show n + 1 + -1 = n by omega]; exact O.out
    have dback : Hid (dayB (n + 1 + -1) = true) := by show _ = _; rw [show n + 1 + -1 = n by omega]; exact hday.out
    go_enter Tryd.func7, Tryd.ntmps7
    go_wp2_with (first | (go_at_call 9; (with_reducible refine (daysWakes _ hL).mono ?_); rintro e w1 ⟨rfl, E1⟩; have hc1 := E1.2.1; have hf1 := E1.2.2; have hz1 := E1.size; have ht1 := E1.sizes; (try simp [Nat.add_one_le_iff] at hz1); (try have hy1 := Nat.le_of_lt hz1); have F1 : Ext w w1 := (by (repeat (first | with_reducible exact Ext.refl _ | with_reducible assumption | exact Ext.mk (by with_reducible assumption) | with_reducible refine Ext.alloc ?_ _ | with_reducible refine Ext.drewN ?_ _ | with_reducible refine Ext.drew ?_ | with_reducible refine Ext.setCell ?_ (by first | (simp; done) | assumption | (simp; omega)) _ | (with_reducible refine Ext.trans ?_ (by with_reducible assumption))))); have kc1 := F1.2.1; have kf1 := F1.2.2; have kz1 := F1.size; have kt1 := F1.sizes; (try simp [Nat.add_one_le_iff] at kz1); (try have ky1 := Nat.le_of_lt kz1)) | (go_at_call 13; (with_reducible refine (at_eq _ hday.out O.out).mono ?_); rintro e w2 ⟨rfl, E2⟩; have hc2 := E2.2.1; have hf2 := E2.2.2; have hz2 := E2.size; have ht2 := E2.sizes; (try simp [Nat.add_one_le_iff] at hz2); (try have hy2 := Nat.le_of_lt hz2); have F2 : Ext w w2 := (by (repeat (first | with_reducible exact Ext.refl _ | with_reducible assumption | exact Ext.mk (by with_reducible assumption) | with_reducible refine Ext.alloc ?_ _ | with_reducible refine Ext.drewN ?_ _ | with_reducible refine Ext.drew ?_ | with_reducible refine Ext.setCell ?_ (by first | (simp; done) | assumption | (simp; omega)) _ | (with_reducible refine Ext.trans ?_ (by with_reducible assumption))))); have kc2 := F2.2.1; have kf2 := F2.2.2; have kz2 := F2.size; have kt2 := F2.sizes; (try simp [Nat.add_one_le_iff] at kz2); (try have ky2 := Nat.le_of_lt kz2)) | (go_at_call 13; (with_reducible refine (at_eq _ hday'.out O'.out).mono ?_); rintro e w3 ⟨rfl, E3⟩; have hc3 := E3.2.1; have hf3 := E3.2.2; have hz3 := E3.size; have ht3 := E3.sizes; (try simp [Nat.add_one_le_iff] at hz3); (try have hy3 := Nat.le_of_lt hz3); have F3 : Ext w w3 := (by (repeat (first | with_reducible exact Ext.refl _ | with_reducible assumption | exact Ext.mk (by with_reducible assumption) | with_reducible refine Ext.alloc ?_ _ | with_reducible refine Ext.drewN ?_ _ | with_reducible refine Ext.drew ?_ | with_reducible refine Ext.setCell ?_ (by first | (simp; done) | assumption | (simp; omega)) _ | (with_reducible refine Ext.trans ?_ (by with_reducible assumption))))); have kc3 := F3.2.1; have kf3 := F3.2.2; have kz3 := F3.size; have kt3 := F3.sizes; (try simp [Nat.add_one_le_iff] at kz3); (try have ky3 := Nat.le_of_lt kz3)) | (go_at_call 14; (with_reducible refine (weekday_yes n _ hday.out).mono ?_); rintro e w4 ⟨rfl, rfl⟩) | (go_at_call 14; (with_reducible refine (weekday_day1 n _ hday'.out).mono ?_); rintro e w5 ⟨rfl, rfl⟩) | (go_at_call 20; (with_reducible refine (compare_eq _ C.out).mono ?_); rintro e w6 ⟨rfl, E6⟩; have hc6 := E6.2.1; have hf6 := E6.2.2; have hz6 := E6.size; have ht6 := E6.sizes; (try simp [Nat.add_one_le_iff] at hz6); (try have hy6 := Nat.le_of_lt hz6); have F6 : Ext w w6 := (by (repeat (first | with_reducible exact Ext.refl _ | with_reducible assumption | exact Ext.mk (by with_reducible assumption) | with_reducible refine Ext.alloc ?_ _ | with_reducible refine Ext.drewN ?_ _ | with_reducible refine Ext.drew ?_ | with_reducible refine Ext.setCell ?_ (by first | (simp; done) | assumption | (simp; omega)) _ | (with_reducible refine Ext.trans ?_ (by with_reducible assumption))))); have kc6 := F6.2.1; have kf6 := F6.2.2; have kz6 := F6.size; have kt6 := F6.sizes; (try simp [Nat.add_one_le_iff] at kz6); (try have ky6 := Nat.le_of_lt kz6)))
    have s36 : w2.heap.size < w6.heap.size := Nat.lt_trans hz3 hz6
    refine wp_forget (fun x => Ext w x ∧ (w2.heap.size < x.heap.size ∧ w3.heap.size < x.heap.size ∧ w6.heap.size < x.heap.size) ∧ Has3 x w2.heap.size (.int .i64 y) (.int .i64 m) (.int .i64 d) ∧ Has3 x w3.heap.size (.int .i64 y) (.int .i64 m) (.int .i64 (d + 1)) ∧ Has3 x w6.heap.size (.int .i64 y) (.int .i64 m) (.int .i64 (d + 1))) ⟨by (repeat (first | with_reducible exact Ext.refl _ | with_reducible assumption | exact Ext.mk (by with_reducible assumption) | with_reducible refine Ext.alloc ?_ _ | with_reducible refine Ext.drewN ?_ _ | with_reducible refine Ext.drew ?_ | with_reducible refine Ext.setCell ?_ (by first | (simp; done) | assumption | (simp; omega)) _ | (with_reducible refine Ext.trans ?_ (by with_reducible assumption)))), ⟨by simp; omega, by simp; omega, by simp⟩, ⟨by go_simp, by go_simp⟩, ⟨by go_simp, by go_simp⟩, ⟨by go_simp, by go_simp⟩⟩ ?_
    rintro x1 ⟨X1, ⟨x2, x3, x6⟩, ⟨⟨a0', a1', a2'⟩, _⟩, ⟨⟨b0', b1', b2'⟩, _⟩, ⟨c0', c1', c2'⟩, e0', e1', e2'⟩
    have w6s : w.heap.size ≤ w6.heap.size := (by first | exact E6.size | (have := F6.size; omega))
    have ne1 : w2.heap.size ≠ w6.heap.size := Nat.ne_of_lt s36
    have ne2 : w3.heap.size ≠ w6.heap.size := Nat.ne_of_lt hz6
    clear hc2 hf2 kc2 kf2 hc3 hf3 kc3 kf3 hc6 hf6 kc6 kf6 hc1 hf1 kc1 kf1
    refine wp_region_from x1 (by (repeat (first | with_reducible exact Ext.refl _ | with_reducible assumption | exact Ext.mk (by with_reducible assumption) | with_reducible refine Ext.alloc ?_ _ | with_reducible refine Ext.drewN ?_ _ | with_reducible refine Ext.drew ?_ | with_reducible refine Ext.setCell ?_ (by first | (simp; done) | assumption | (simp; omega)) _ | (with_reducible refine Ext.trans ?_ (by with_reducible assumption))))) (by kernel_rfl) (by kernel_rfl) ?_
    repeat (go_big_quiet_step ((go_at_call 24; exact Calls.ext_of (long_any _ _ _ (hL.ext (X1.trans (EW.ext _)))))))
    refine wpQuiet_nil ?_
    rintro w7 E7
    have hc7 := E7.2.1
    have hf7 := E7.2.2
    have hz7 := E7.size
    have z2 := Nat.lt_of_lt_of_le x2 hz7
    have z3 := Nat.lt_of_lt_of_le x3 hz7
    have z6 := Nat.lt_of_lt_of_le x6 hz7
    go_upto_region 16 with fail
    refine wp_forget (fun x => Ext w x ∧ (w2.heap.size < x.heap.size ∧ w3.heap.size < x.heap.size ∧ w6.heap.size < x.heap.size) ∧ Has3 x w2.heap.size (.int .i64 y) (.int .i64 m) (.int .i64 d) ∧ Has3 x w3.heap.size (.int .i64 y) (.int .i64 m) (.int .i64 (d + 1)) ∧ Has3 x w6.heap.size (.int .i64 y) (.int .i64 m) (.int .i64 (d + 1))) ⟨by (repeat (first | with_reducible exact Ext.refl _ | with_reducible assumption | exact Ext.mk (by with_reducible assumption) | with_reducible refine Ext.alloc ?_ _ | with_reducible refine Ext.drewN ?_ _ | with_reducible refine Ext.drew ?_ | with_reducible refine Ext.setCell ?_ (by first | (simp; done) | assumption | (simp; omega)) _ | (with_reducible refine Ext.trans ?_ (by with_reducible assumption)))), ⟨by simpa using z2, by simpa using z3, by simpa using z6⟩, ⟨by go_simp, by go_simp⟩, ⟨by go_simp, by go_simp⟩, ⟨by go_simp, by go_simp⟩⟩ ?_
    rintro y1 ⟨Y1, ⟨x2, x3, x6⟩, ⟨⟨a0', a1', a2'⟩, _⟩, ⟨⟨b0', b1', b2'⟩, _⟩, ⟨c0', c1', c2'⟩, e0', e1', e2'⟩
    go_wp2_with (first | (go_at_call 18; (with_reducible refine (add_eq _ (hL.ext (by (repeat (first | with_reducible exact Ext.refl _ | with_reducible assumption | exact Ext.mk (by with_reducible assumption) | with_reducible refine Ext.alloc ?_ _ | with_reducible refine Ext.drewN ?_ _ | with_reducible refine Ext.drew ?_ | with_reducible refine Ext.setCell ?_ (by first | (simp; done) | assumption | (simp; omega)) _ | (with_reducible refine Ext.trans ?_ (by with_reducible assumption)))))) hday.out hday'.out O.out O'.out).mono ?_); rintro e w8 ⟨rfl, E8⟩; have hc8 := E8.2.1; have hf8 := E8.2.2; have hz8 := E8.size; have ht8 := E8.sizes; (try simp [Nat.add_one_le_iff] at hz8); (try have hy8 := Nat.le_of_lt hz8); have F8 : Ext y1 w8 := (by (repeat (first | with_reducible exact Ext.refl _ | with_reducible assumption | exact Ext.mk (by with_reducible assumption) | with_reducible refine Ext.alloc ?_ _ | with_reducible refine Ext.drewN ?_ _ | with_reducible refine Ext.drew ?_ | with_reducible refine Ext.setCell ?_ (by first | (simp; done) | assumption | (simp; omega)) _ | (with_reducible refine Ext.trans ?_ (by with_reducible assumption))))); have kc8 := F8.2.1; have kf8 := F8.2.2; have kz8 := F8.size; have kt8 := F8.sizes; (try simp [Nat.add_one_le_iff] at kz8); (try have ky8 := Nat.le_of_lt kz8)) | (go_at_call 18; (with_reducible refine (add_eq _ (hL.ext (by (repeat (first | with_reducible exact Ext.refl _ | with_reducible assumption | exact Ext.mk (by with_reducible assumption) | with_reducible refine Ext.alloc ?_ _ | with_reducible refine Ext.drewN ?_ _ | with_reducible refine Ext.drew ?_ | with_reducible refine Ext.setCell ?_ (by first | (simp; done) | assumption | (simp; omega)) _ | (with_reducible refine Ext.trans ?_ (by with_reducible assumption)))))) hday'.out dback.out O'.out back.out).mono ?_); rintro e w9 ⟨rfl, E9⟩; have hc9 := E9.2.1; have hf9 := E9.2.2; have hz9 := E9.size; have ht9 := E9.sizes; (try simp [Nat.add_one_le_iff] at hz9); (try have hy9 := Nat.le_of_lt hz9); have F9 : Ext y1 w9 := (by (repeat (first | with_reducible exact Ext.refl _ | with_reducible assumption | exact Ext.mk (by with_reducible assumption) | with_reducible refine Ext.alloc ?_ _ | with_reducible refine Ext.drewN ?_ _ | with_reducible refine Ext.drew ?_ | with_reducible refine Ext.setCell ?_ (by first | (simp; done) | assumption | (simp; omega)) _ | (with_reducible refine Ext.trans ?_ (by with_reducible assumption))))); have kc9 := F9.2.1; have kf9 := F9.2.2; have kz9 := F9.size; have kt9 := F9.sizes; (try simp [Nat.add_one_le_iff] at kz9); (try have ky9 := Nat.le_of_lt kz9)))
    go_ret
    refine ⟨rfl, ?_⟩
    (repeat (first | with_reducible exact Ext.refl _ | with_reducible assumption | exact Ext.mk (by with_reducible assumption) | with_reducible refine Ext.alloc ?_ _ | with_reducible refine Ext.drewN ?_ _ | with_reducible refine Ext.drew ?_ | with_reducible refine Ext.setCell ?_ (by first | (simp; done) | assumption | (simp; omega)) _ | (with_reducible refine Ext.trans ?_ (by with_reducible assumption))))
