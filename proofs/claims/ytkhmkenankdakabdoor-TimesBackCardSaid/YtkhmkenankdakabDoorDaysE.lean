import Derived.Test.YtkhmkenankdakabDoorDaysD
import Derived.Deep.RegionHeld3
import Derived.Deep.DeepCutAuto
namespace Go.Proofs.YtkhmkenankdakabDoor
open Go Go.RowKit
set_option linter.unusedSimpArgs false
set_option linter.unusedVariables false

set_option maxHeartbeats 1000000 in
theorem refOf_any (y m d : Int) (w : World) (h : Cal.okd y m d = true) : Calls Tryd.prog 43 #[.agg #[.int .i64 y, .int .i64 m, .int .i64 d]] w fun e w' => e = .returned (.int .i64 (Cal.num y m d)) ∧ Ext w w' := by
  obtain ⟨m1, m2⟩ := Cal.okd_month h
  obtain ⟨y1, y2, d1, d2⟩ := Cal.okd_iff.mp h
  have d3 := (Cal.long_bd y m).2
  have D0 : Hid (Cal.dby 1970 = 719528) := by show _ = _; decide
  clear h
  go_enter Tryd.func43, Tryd.ntmps43
  go_wp2
  go_loop [3, 4] (fun n k => ∃ t : Int, 1970 ≤ t ∧ t ≤ y ∧ k = .int .i64 t ∧ n = .int .i64 (d - 1 + Cal.dby t - 719528)) (fun _ k => (y - intOf k).toNat)
  case atStart => exact ⟨1970, by omega, by omega, rfl, by rw [D0.out]; go_num⟩
  case round =>
    obtain ⟨t, t1, t2, rfl, rfl⟩ := hrel
    have b1 := Cal.dby_mono 1970 t t1
    have b2 := Cal.dby_mono t 9999 (by omega)
    have b3 : Cal.dby 9999 = 3652060 := by decide
    rw [D0.out] at b1
    rw [b3] at b2
    have lp1 := Cal.lp_01 t
    clear b3
    by_cases hk : t < y
    · have hs : Hid _ := Cal.dby_succ t
      go_wp2_with (go_at_call 49; (with_reducible refine (year_any _ _).mono ?_); rintro e w1 ⟨rfl, rfl⟩)
      go_round
      case rel => exact ⟨t + 1, by omega, by omega, by go_num, by rw [hs.out]; go_num⟩
      case measure => simp [intOf]; omega
    · obtain rfl : t = y := by omega
      go_wp2
      go_loop [3, 5] (fun n k => ∃ t' : Int, 1 ≤ t' ∧ t' ≤ m ∧ k = .int .i64 t' ∧ n = .int .i64 (d - 1 + Cal.dby t - 719528 + Cal.cum t t')) (fun _ k => (m - intOf k).toNat)
      case atStart => exact ⟨1, by omega, by omega, rfl, by rw [Cal.cum_1]; go_num⟩
      case round =>
        obtain ⟨t', t1', t2', rfl, rfl⟩ := hrel
        have c1 := Cal.cum_bd t t'
        have l1 := Cal.long_bd t t'
        by_cases hk' : t' < m
        · have hs' : Hid _ := Cal.cum_succ t t' t1' (by omega)
          go_wp2_with (go_at_call 50; (with_reducible refine (refLong_any _ _ _).mono ?_); rintro e w1 ⟨rfl, rfl⟩)
          go_round
          case rel => exact ⟨t' + 1, by omega, by omega, by go_num, by rw [hs'.out]; go_num⟩
          case measure => simp [intOf]; omega
        · obtain rfl : t' = m := by omega
          go_wp2
          go_ret
          refine ⟨ret_int (by unfold Cal.num; omega), ?_⟩
          (repeat (first | with_reducible exact Ext.refl _ | with_reducible assumption | exact Ext.mk (by with_reducible assumption) | with_reducible refine Ext.alloc ?_ _ | with_reducible refine Ext.drewN ?_ _ | with_reducible refine Ext.drew ?_ | with_reducible refine Ext.setCell ?_ (by first | (simp; done) | assumption | (simp; omega)) _ | (with_reducible refine Ext.trans ?_ (by with_reducible assumption))))

set_option maxHeartbeats 1000000 in
theorem refAt_any (n : Int) (w : World) (h : dayB n = true) : Calls Tryd.prog 38 #[.int .i64 n] w fun e w' => e = .returned (.agg #[.int .i64 (Cal.dat n).1, .int .i64 (Cal.dat n).2.1, .int .i64 (Cal.dat n).2.2]) ∧ Ext w w' := by
  obtain ⟨h1, h2⟩ := dayB_true h
  clear h
  obtain ⟨o1, o2⟩ := Cal.dat_ok n h1 h2
  obtain ⟨y, m, d, hd⟩ : ∃ y m d, Cal.dat n = (y, m, d) := ⟨_, _, _, rfl⟩
  rw [hd] at o1 o2
  have HD := Lib.hid hd
  clear hd
  dsimp only at o1 o2
  obtain ⟨m1, m2⟩ := Cal.okd_month o1
  obtain ⟨y1, y2, d1, d2⟩ := Cal.okd_iff.mp o1
  obtain ⟨n1, n2⟩ := Cal.num_year o1
  rw [o2] at n1 n2
  have ON : n + 719528 = Cal.dby y + Cal.cum y m + d - 1 := by rw [← o2]; unfold Cal.num; omega
  have ON' := Lib.hid ON
  clear ON o1 o2
  have D0 : Hid (Cal.dby 1970 = 719528) := by show _ = _; decide
  go_enter Tryd.func38, Tryd.ntmps38
  go_wp2
  refine wp_forget (fun x => Ext w x ∧ w.heap.size + 1 < x.heap.size ∧ Has3 x w.heap.size (.int .i64 0) (.int .i64 0) (.int .i64 0) ∧ Has3 x (w.heap.size + 1) (.int .i64 1970) (.int .i64 1) (.int .i64 0)) ⟨by (repeat (first | with_reducible exact Ext.refl _ | with_reducible assumption | exact Ext.mk (by with_reducible assumption) | with_reducible refine Ext.alloc ?_ _ | with_reducible refine Ext.drewN ?_ _ | with_reducible refine Ext.drew ?_ | with_reducible refine Ext.setCell ?_ (by first | (simp; done) | assumption | (simp; omega)) _ | (with_reducible refine Ext.trans ?_ (by with_reducible assumption)))), by simp, ⟨by go_simp, by go_simp⟩, ⟨by go_simp, by go_simp⟩⟩ ?_
  rintro w1 ⟨E1, S1, ⟨⟨q0, q1, q2⟩, f0, f1, f2⟩, ⟨p0, p1, p2⟩, g0, g1, g2⟩
  go_loopw [0] (fun k x => Ext w x ∧ w.heap.size + 1 < x.heap.size ∧ Has3 x w.heap.size (.int .i64 0) (.int .i64 0) (.int .i64 0) ∧ ∃ t : Int, 1970 ≤ t ∧ t ≤ y ∧ k = .int .i64 (n + 719528 - Cal.dby t) ∧ Has3 x (w.heap.size + 1) (.int .i64 t) (.int .i64 1) (.int .i64 0)) (fun k _ => (intOf k).toNat)
  case atStart => exact ⟨E1, S1, ⟨⟨q0, q1, q2⟩, f0, f1, f2⟩, 1970, by omega, by omega, by rw [D0.out]; go_num, ⟨p0, p1, p2⟩, g0, g1, g2⟩
  case round =>
    clear E1 S1 q0 q1 q2 f0 f1 f2 p0 p1 p2 g0 g1 g2
    obtain ⟨E1, S1, ⟨⟨q0, q1, q2⟩, f0, f1, f2⟩, t, t1, t2, rfl, ⟨p0, p1, p2⟩, g0, g1, g2⟩ := hrel
    have lp1 := Cal.lp_01 t
    have b2 := Cal.dby_mono t y t2
    have b1 := Cal.dby_mono 1970 t t1
    rw [D0.out] at b1
    by_cases hk : t < y
    · have hs : Hid _ := Cal.dby_succ t
      have b3 := Cal.dby_lt t y hk
      go_wp2_with (go_at_call 49; (with_reducible refine (year_any _ _).mono ?_); rintro e w1 ⟨rfl, rfl⟩)
      refine ⟨⟨by (repeat (first | with_reducible exact Ext.refl _ | with_reducible assumption | exact Ext.mk (by with_reducible assumption) | with_reducible refine Ext.alloc ?_ _ | with_reducible refine Ext.drewN ?_ _ | with_reducible refine Ext.drew ?_ | with_reducible refine Ext.setCell ?_ (by first | (simp; done) | assumption | (simp; omega)) _ | (with_reducible refine Ext.trans ?_ (by with_reducible assumption)))), by simpa using S1, ⟨by go_simp, by go_simp⟩, t + 1, by omega, by omega, by rw [hs.out]; go_num, by go_simp, by go_simp⟩, by simp [intOf]; omega⟩
    · obtain rfl : t = y := by omega
      have hz := S1
      go_wp2_with (go_at_call 49; (with_reducible refine (year_any _ _).mono ?_); rintro e w1 ⟨rfl, rfl⟩)
      obtain ⟨wo, rfl⟩ : ∃ wo : World, wo = wr := ⟨_, rfl⟩
      go_loopw [0] (fun k x => Ext w x ∧ w.heap.size + 1 < x.heap.size ∧ Has3 x w.heap.size (.int .i64 0) (.int .i64 0) (.int .i64 0) ∧ ∃ t' : Int, 1 ≤ t' ∧ t' ≤ m ∧ k = .int .i64 (Cal.cum t m + d - 1 - Cal.cum t t') ∧ Has3 x (w.heap.size + 1) (.int .i64 t) (.int .i64 t') (.int .i64 0)) (fun k _ => (intOf k).toNat)
      case atStart => exact ⟨E1, S1, ⟨⟨q0, q1, q2⟩, f0, f1, f2⟩, 1, by omega, by omega, by rw [ON'.out, Cal.cum_1]; go_num, ⟨p0, p1, p2⟩, g0, g1, g2⟩
      case round =>
        clear E1 S1 q0 q1 q2 f0 f1 f2 p0 p1 p2 g0 g1 g2 hz
        obtain ⟨E1, S1, ⟨⟨q0, q1, q2⟩, f0, f1, f2⟩, t', t1', t2', rfl, ⟨p0, p1, p2⟩, g0, g1, g2⟩ := hrel
        have c1 := Cal.cum_bd t t'
        have c2 := Cal.cum_bd t m
        have l1 := Cal.long_bd t t'
        have l2 := Cal.long_pos t t' t1' (by omega)
        have l3 := Cal.long_bd t m
        by_cases hk' : t' < m
        · have hs' : Hid _ := Cal.cum_succ t t' t1' (by omega)
          have c3 := Cal.cum_lt t t' m t1' hk' m2
          go_wp2_with (go_at_call 50; (with_reducible refine (refLong_any _ _ _).mono ?_); rintro e w1 ⟨rfl, rfl⟩)
          refine ⟨⟨by (repeat (first | with_reducible exact Ext.refl _ | with_reducible assumption | exact Ext.mk (by with_reducible assumption) | with_reducible refine Ext.alloc ?_ _ | with_reducible refine Ext.drewN ?_ _ | with_reducible refine Ext.drew ?_ | with_reducible refine Ext.setCell ?_ (by first | (simp; done) | assumption | (simp; omega)) _ | (with_reducible refine Ext.trans ?_ (by with_reducible assumption)))), by simpa using S1, ⟨by go_simp, by go_simp⟩, t' + 1, by omega, by omega, by rw [hs'.out]; go_num, by go_simp, by go_simp⟩, by simp [intOf]; omega⟩
        · obtain rfl : t' = m := by omega
          go_wp2_with (go_at_call 50; (with_reducible refine (refLong_any _ _ _).mono ?_); rintro e w1 ⟨rfl, rfl⟩)
          have ed : Cal.cum t t' + d - 1 - Cal.cum t t' + 1 = d := by omega
          refine bodyPost_ret (v := .agg #[.int .i64 t, .int .i64 t', .int .i64 d]) (by simp [results, Tryd.results38, go_sem, q0, q1, q2, S1, ed]) rfl ⟨?_, ?_⟩
          · rw [HD.out]
          · (repeat (first | with_reducible exact Ext.refl _ | with_reducible assumption | exact Ext.mk (by with_reducible assumption) | with_reducible refine Ext.alloc ?_ _ | with_reducible refine Ext.drewN ?_ _ | with_reducible refine Ext.drew ?_ | with_reducible refine Ext.setCell ?_ (by first | (simp; done) | assumption | (simp; omega)) _ | (with_reducible refine Ext.trans ?_ (by with_reducible assumption))))

theorem cmpI_lt {a b : Int} (h : a < b) : cmpI a b = -1 := by unfold cmpI; rw [if_pos h]

theorem cmpI_gt {a b : Int} (h : b < a) : cmpI a b = 1 := by unfold cmpI; rw [if_neg (by omega), if_pos h]

theorem cmpI_same (a : Int) : cmpI a a = 0 := cmpI_eq.mpr rfl

theorem cmpD_lt {y m d y' m' d' : Int} (h : y < y') : cmpD y m d y' m' d' = -1 := by unfold cmpD or3; rw [cmpI_lt h]; simp

theorem cmpD_gt {y m d y' m' d' : Int} (h : y' < y) : cmpD y m d y' m' d' = 1 := by unfold cmpD or3; rw [cmpI_gt h]; simp

theorem cmpD_lt2 {y m d m' d' : Int} (h : m < m') : cmpD y m d y m' d' = -1 := by unfold cmpD or3; rw [cmpI_same, cmpI_lt h]; simp

theorem cmpD_gt2 {y m d m' d' : Int} (h : m' < m) : cmpD y m d y m' d' = 1 := by unfold cmpD or3; rw [cmpI_same, cmpI_gt h]; simp

theorem cmpD_lt3 {y m d d' : Int} (h : d < d') : cmpD y m d y m d' = -1 := by unfold cmpD or3; rw [cmpI_same, cmpI_same, cmpI_lt h]; simp

theorem cmpD_gt3 {y m d d' : Int} (h : d' < d) : cmpD y m d y m d' = 1 := by unfold cmpD or3; rw [cmpI_same, cmpI_same, cmpI_gt h]; simp