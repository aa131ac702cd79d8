import Derived.Test.YtkhmkenankdakabDoorDaysB
import Derived.RegionTactic
import Derived.BigRegion
import Derived.WalkMore
namespace Go.Proofs.YtkhmkenankdakabDoor
open Go Go.RowKit
attribute [local go_sem] max2_int min2_int max_two min_two

theorem mon_any (m : Int) (w : World) (h0 : 0 ≤ m) (h1 : m ≤ 12) : Calls Tryd.prog 46 #[.int .i64 m] w fun e w' => e = .returned (.int .i64 (Cal.mon m)) ∧ w = w' := by
  go_enter Tryd.func46, Tryd.ntmps46
  go_wp2
  go_ret
  exact ⟨rfl, rfl⟩

set_option maxHeartbeats 1000000 in
theorem at_yes (n : Int) (w : World) (h : dayB n = true) : Calls Tryd.prog 37 #[.int .i64 n] w fun e w' => e = .returned (.tuple #[.agg #[.int .i64 (Cal.dat n).1, .int .i64 (Cal.dat n).2.1, .int .i64 (Cal.dat n).2.2], .int .i64 0]) ∧ Ext w w' := by
  obtain ⟨h1, h2⟩ := dayB_true h
  have hd := h
  clear h
  obtain ⟨a, ha⟩ : ∃ a, min ((n + 719468) / 146097) 100 = a := ⟨_, rfl⟩
  obtain ⟨b, hb⟩ : ∃ b, min ((n + 719468 - a * 146097) / 36524) 3 = b := ⟨_, rfl⟩
  obtain ⟨c, hc⟩ : ∃ c, min ((n + 719468 - a * 146097 - b * 36524) / 1461) 24 = c := ⟨_, rfl⟩
  obtain ⟨d, he⟩ : ∃ d, min ((n + 719468 - a * 146097 - b * 36524 - c * 1461) / 365) 3 = d := ⟨_, rfl⟩
  have a1 : 0 ≤ a ∧ a ≤ 100 := by omega
  have b1 : 0 ≤ b ∧ b ≤ 3 := by omega
  have c1 : 0 ≤ c ∧ c ≤ 24 := by omega
  have d1 : 0 ≤ d ∧ d ≤ 3 := by omega
  obtain ⟨p1, p2, p3, p4⟩ := Cal.parts (n + 719468) a b c d (by omega) (by omega) (by omega) hb.symm hc.symm he.symm
  have P1 : Hid _ := p1
  clear p1
  have P4 : Hid _ := p4
  clear p4
  obtain ⟨a1, a2⟩ := a1
  obtain ⟨b1, b2⟩ := b1
  obtain ⟨c1, c2⟩ := c1
  obtain ⟨d1, d2⟩ := d1
  have i0 : ∀ w : World, (Instr.index 83 (.agg #[.int .i64 146097, .int .i64 400, .int .i64 100, .int .i64 36524, .int .i64 100, .int .i64 3, .int .i64 1461, .int .i64 4, .int .i64 24, .int .i64 365, .int .i64 1, .int .i64 3]) (.int .i64 0)).run Tryd.prog w = .ok (.agg #[.int .i64 146097, .int .i64 400, .int .i64 100]) w := fun _ => by kernel_rfl
  have i1 : ∀ w : World, (Instr.index 83 (.agg #[.int .i64 146097, .int .i64 400, .int .i64 100, .int .i64 36524, .int .i64 100, .int .i64 3, .int .i64 1461, .int .i64 4, .int .i64 24, .int .i64 365, .int .i64 1, .int .i64 3]) (.int .i64 1)).run Tryd.prog w = .ok (.agg #[.int .i64 36524, .int .i64 100, .int .i64 3]) w := fun _ => by kernel_rfl
  have i2 : ∀ w : World, (Instr.index 83 (.agg #[.int .i64 146097, .int .i64 400, .int .i64 100, .int .i64 36524, .int .i64 100, .int .i64 3, .int .i64 1461, .int .i64 4, .int .i64 24, .int .i64 365, .int .i64 1, .int .i64 3]) (.int .i64 2)).run Tryd.prog w = .ok (.agg #[.int .i64 1461, .int .i64 4, .int .i64 24]) w := fun _ => by kernel_rfl
  have i3 : ∀ w : World, (Instr.index 83 (.agg #[.int .i64 146097, .int .i64 400, .int .i64 100, .int .i64 36524, .int .i64 100, .int .i64 3, .int .i64 1461, .int .i64 4, .int .i64 24, .int .i64 365, .int .i64 1, .int .i64 3]) (.int .i64 3)).run Tryd.prog w = .ok (.agg #[.int .i64 365, .int .i64 1, .int .i64 3]) w := fun _ => by kernel_rfl
  go_enter Tryd.func37, Tryd.ntmps37
  go_wp2_with fail
  go_step3
  go_wp2_with (go_at_call 47; (with_reducible refine (day_any _ _).mono ?_); rintro e w1 ⟨rfl, rfl⟩)
  refine wp_loop_unroll 6 (Unr.step ?_)
  go_wp2
  go_quiet (fail)
  go_wp2
  go_quiet (fail)
  go_wp2
  refine Unr.step ?_
  clear i0
  go_wp2
  go_quiet (fail)
  go_wp2
  go_quiet (fail)
  go_wp2
  refine Unr.step ?_
  clear i1
  go_wp2
  go_quiet (fail)
  go_wp2
  go_quiet (fail)
  go_wp2
  refine Unr.step ?_
  clear i2
  go_wp2
  go_quiet (fail)
  go_wp2
  go_quiet (fail)
  go_wp2
  refine Unr.step ?_
  clear i3
  go_wp2
  clear ha hb hc he
  have R : Hid (Cal.mby (a * 400 + b * 100 + c * 4 + d) + (n + 719468 - a * 146097 - b * 36524 - c * 1461 - d * 365) - 719468 = n) := by
    show _ = _
    rw [P1.out]; omega
  have Y : 0 ≤ a * 400 + b * 100 + c * 4 + d ∧ a * 400 + b * 100 + c * 4 + d ≤ 40403 := by omega
  obtain ⟨Y1, Y2⟩ := Y
  clear P1 a1 a2 b1 b2 c1 c2 d1 d2
  generalize n + 719468 - a * 146097 - b * 36524 - c * 1461 - d * 365 = r at *
  generalize a * 400 + b * 100 + c * 4 + d = y at *
  go_step3
  go_wp2
  refine wp_forget (fun x => Ext w x ∧ w.heap.size < x.heap.size ∧ Has3 x w.heap.size (.int .i64 0) (.int .i64 0) (.int .i64 0)) ⟨by (repeat (first | with_reducible exact Ext.refl _ | with_reducible assumption | exact Ext.mk (by with_reducible assumption) | with_reducible refine Ext.alloc ?_ _ | with_reducible refine Ext.drewN ?_ _ | with_reducible refine Ext.drew ?_ | with_reducible refine Ext.setCell ?_ (by first | (simp; done) | assumption | (simp; omega)) _ | (with_reducible refine Ext.trans ?_ (by with_reducible assumption)))), by simp; omega, ⟨by go_simp, by go_simp⟩⟩ ?_
  rintro w1 ⟨E1, S1, ⟨q0, q1, q2⟩, f0, f1, f2⟩
  go_loop [8] (fun m => ∃ k : Int, 0 ≤ k ∧ k ≤ 11 ∧ Cal.mon k ≤ r ∧ m = .int .i64 k) (fun m => (12 - intOf m).toNat)
  case atStart => exact ⟨0, by omega, by omega, by simp [Cal.mon]; omega, rfl⟩
  case round =>
    obtain ⟨k, k1, k2, k3, rfl⟩ := hrel
    have m1 := Cal.mon_bd k k1 (by omega)
    by_cases hk : r < Cal.mon (k + 1)
    · go_wp2_with (go_at_call 46; (with_reducible refine (mon_any _ _ (by omega) (by omega)).mono ?_); rintro e w1 ⟨rfl, rfl⟩)
      all_goals
        have D := Cal.of_march y r k k1 k2 k3 hk p3 P4.out (by rw [R.out]; exact h1) (by rw [R.out]; exact h2)
        rw [R.out] at D
        rw [Exit.noGoto_ret]
      · rename_i g
        rw [if_pos (by omega)] at D
        refine bodyPost_ret (v := .tuple #[.agg #[.int .i64 (y + 1), .int .i64 (k + 3 - 12), .int .i64 (r - Cal.mon k + 1)], .int .i64 0]) (by simp [results, Tryd.results37, go_sem, q0, q1, q2, S1]) rfl ⟨?_, ?_⟩
        · rw [D]
          have e : k + 3 - 12 = k - 9 := by omega
          rw [e]
        · (repeat (first | with_reducible exact Ext.refl _ | with_reducible assumption | exact Ext.mk (by with_reducible assumption) | with_reducible refine Ext.alloc ?_ _ | with_reducible refine Ext.drewN ?_ _ | with_reducible refine Ext.drew ?_ | with_reducible refine Ext.setCell ?_ (by first | (simp; done) | assumption | (simp; omega)) _ | (with_reducible refine Ext.trans ?_ (by with_reducible assumption))))
      · rename_i g
        rw [if_neg (by omega)] at D
        refine bodyPost_ret (v := .tuple #[.agg #[.int .i64 y, .int .i64 (k + 3), .int .i64 (r - Cal.mon k + 1)], .int .i64 0]) (by simp [results, Tryd.results37, go_sem, q0, q1, q2, S1]) rfl ⟨?_, ?_⟩
        · rw [D]
        · (repeat (first | with_reducible exact Ext.refl _ | with_reducible assumption | exact Ext.mk (by with_reducible assumption) | with_reducible refine Ext.alloc ?_ _ | with_reducible refine Ext.drewN ?_ _ | with_reducible refine Ext.drew ?_ | with_reducible refine Ext.setCell ?_ (by first | (simp; done) | assumption | (simp; omega)) _ | (with_reducible refine Ext.trans ?_ (by with_reducible assumption))))
    · have hk11 : k ≤ 10 := by
        have : Cal.mon (11 + 1) = 367 := by decide
        rcases Int.lt_or_le 10 k with q | q
        · have : k = 11 := by omega
          subst this; omega
        · exact q
      have m2 := Cal.mon_bd (k + 1) (by omega) (by omega)
      go_wp2_with (go_at_call 46; (with_reducible refine (mon_any _ _ (by omega) (by omega)).mono ?_); rintro e w1 ⟨rfl, rfl⟩)
      go_round
      case rel => exact ⟨k + 1, by omega, by omega, by omega, by go_num⟩
      case measure => simp [intOf]; omega
