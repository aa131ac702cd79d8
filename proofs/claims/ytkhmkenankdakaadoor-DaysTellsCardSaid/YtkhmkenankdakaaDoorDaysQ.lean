/- The law DaysTells, walked. -/
import Derived.Test.YtkhmkenankdakaaDoorDaysO
namespace Go.Proofs.YtkhmkenankdakaaDoor
open Go Go.RowKit
set_option linter.unusedSimpArgs false
set_option linter.unusedVariables false

theorem leap_yes (y : Int) (w : World) (b : Bool) (h : Cal.leapB y = b) : Calls Tryd.prog 22 #[.int .i64 y] w fun e w' => e = .returned (.bool b) ∧ Ext w w' := by
  have k := leap_any y w; rw [h] at k; exact k
theorem refLeap_yes (y : Int) (w : World) (b : Bool) (h : Cal.leapB y = b) : Calls Tryd.prog 23 #[.int .i64 y] w fun e w' => e = .returned (.bool b) ∧ w = w' := by
  have k := refLeap_any y w; rw [h] at k; exact k


set_option maxHeartbeats 4000000 in
set_option maxRecDepth 100000 in
theorem walk_DaysTells (a0 : Option Addr) (len0 cap0 : Nat) (a1 : Option Addr) (len1 cap1 : Nat) (a2 : Option Addr) (len2 cap2 : Nat) (w : World)
    (f0 : Sh.fits w (.slice 3 dateSh) [.slice a0 len0 cap0]) (f1 : Sh.fits w (.slice 1 (.int .i64)) [.slice a1 len1 cap1]) (f2 : Sh.fits w (.slice 1 (.int .i64)) [.slice a2 len2 cap2]) (hL : DaysLaid w) :
    Calls Tryd.prog 6 #[.slice a0 len0 cap0, .slice a1 len1 cap1, .slice a2 len2 cap2] w fun e w' => e = .returned (.bool true) ∧ Ext w w' := by
  obtain ⟨l0, g0⟩ := dates_of f0
  obtain ⟨l1, g1⟩ := ints_of f1
  obtain ⟨l2, g2⟩ := ints_of f2
  unfold maxLen at l0 l1 l2
  clear f0 f1 f2
  have G0 := Lib.hid g0
  have G1 := Lib.hid g1
  have G2 := Lib.hid g2
  clear g0 g1 g2
  go_enter Tryd.func6, Tryd.ntmps6
  go_wp2_with (go_at_call 9; (with_reducible refine (daysWakes _ hL).mono ?_); rintro e w1 ⟨rfl, E1⟩; have hc1 := E1.2.1; have hf1 := E1.2.2; have hz1 := E1.size; have ht1 := E1.sizes; (try simp [Nat.add_one_le_iff] at hz1); (try have hy1 := Nat.le_of_lt hz1); have F1 : Ext w w1 := (by (repeat (first | with_reducible exact Ext.refl _ | with_reducible assumption | exact Ext.mk (by with_reducible assumption) | with_reducible refine Ext.alloc ?_ _ | with_reducible refine Ext.drewN ?_ _ | with_reducible refine Ext.drew ?_ | with_reducible refine Ext.setCell ?_ (by first | (simp; done) | assumption | (simp; omega)) _ | (with_reducible refine Ext.trans ?_ (by with_reducible assumption))))); have kc1 := F1.2.1; have kf1 := F1.2.2; have kz1 := F1.size; have kt1 := F1.sizes; (try simp [Nat.add_one_le_iff] at kz1); (try have ky1 := Nat.le_of_lt kz1))
  go_loopw [18] (fun i x => ∃ k : Nat, k ≤ len0 ∧ i = .int .i64 k ∧ Ext w x) (fun i _ => len0 - (intOf i).toNat)
  case atStart => exact ⟨0, by omega, rfl, F1⟩
  case round =>
    clear E1 hc1 hf1 hz1 ht1 F1 kc1 kf1 kz1 kt1
    obtain ⟨k, hk, rfl, F0⟩ := hrel
    have kc0 := F0.2.1
    have kz0 := F0.size
    by_cases hlt : k < len0
    · obtain ⟨b, off, rfl, hb, hcs⟩ : ∃ b off, a0 = some ⟨b, off, none⟩ ∧ b < w.heap.size ∧ ∀ i, i < len0 → ∃ y m d, I64 y ∧ I64 m ∧ I64 d ∧ w.cell? ⟨b, off + i * 3, none⟩ = some (.int .i64 y) ∧ w.cell? ⟨b, off + i * 3 + 1, none⟩ = some (.int .i64 m) ∧ w.cell? ⟨b, off + i * 3 + 2, none⟩ = some (.int .i64 d) := by
        rcases G0.out with h | h
        · omega
        · exact h
      obtain ⟨y, m, d, hy, hm, hd, c0, c1, c2⟩ := hcs k hlt
      obtain ⟨y', m', d', _, _, _, c0', c1', c2'⟩ := hcs 0 (by omega)
      have hp0 : (0 : Int) < (len0 : Int) := by omega
      simp only [Nat.zero_mul, Nat.add_zero] at c0' c1' c2'
      clear hcs
      by_cases h6 : k = 12
      · have h6' : ((k : Int) == 12) = true := by simp; omega
        clear h6
        go_wp2
        go_loopw [69] (fun i x => ∃ k : Nat, k ≤ len1 ∧ i = .int .i64 k ∧ Ext w x) (fun i _ => len1 - (intOf i).toNat)
        case atStart => exact ⟨0, by omega, rfl, by (repeat (first | with_reducible exact Ext.refl _ | with_reducible assumption | exact Ext.mk (by with_reducible assumption) | with_reducible refine Ext.alloc ?_ _ | with_reducible refine Ext.drewN ?_ _ | with_reducible refine Ext.drew ?_ | with_reducible refine Ext.setCell ?_ (by first | (simp; done) | assumption | (simp; omega)) _ | (with_reducible refine Ext.trans ?_ (by with_reducible assumption))))⟩
        case round =>
          clear F0 kc0 kz0
          obtain ⟨k, hk, rfl, F0⟩ := hrel
          have kc0 := F0.2.1
          have kz0 := F0.size
          by_cases hlt : k < len1
          · have hlt0 := hlt
            obtain ⟨b, off, rfl, hb, hcs⟩ : ∃ b off, a1 = some ⟨b, off, none⟩ ∧ b < w.heap.size ∧ ∀ i, i < len1 → ∃ n, I64 n ∧ w.cell? ⟨b, off + i, none⟩ = some (.int .i64 n) := by
              rcases G1.out with h | h
              · omega
              · exact h
            obtain ⟨n, hn, c0⟩ := hcs k hlt
            clear hcs
            by_cases h6 : k = 12
            · have h6' : ((k : Int) == 12) = true := by simp; omega
              clear h6
              go_wp2
              go_ret
              refine ⟨rfl, ?_⟩
              (repeat (first | with_reducible exact Ext.refl _ | with_reducible assumption | exact Ext.mk (by with_reducible assumption) | with_reducible refine Ext.alloc ?_ _ | with_reducible refine Ext.drewN ?_ _ | with_reducible refine Ext.drew ?_ | with_reducible refine Ext.setCell ?_ (by first | (simp; done) | assumption | (simp; omega)) _ | (with_reducible refine Ext.trans ?_ (by with_reducible assumption))))
            · have h6' : ((k : Int) == 12) = false := by simp; omega
              clear h6
              obtain ⟨lb, hlb⟩ : ∃ b, Cal.leapB n = b := ⟨_, rfl⟩
              have LB := Lib.hid hlb
              clear hlb
              go_wp2_with (first | (go_at_call 22; (with_reducible refine (leap_yes _ _ lb LB.out).mono ?_); rintro e w3 ⟨rfl, E3⟩; have hc3 := E3.2.1; have hf3 := E3.2.2; have hz3 := E3.size; have ht3 := E3.sizes; (try simp [Nat.add_one_le_iff] at hz3); (try have hy3 := Nat.le_of_lt hz3); have F3 : Ext wr w3 := (by (repeat (first | with_reducible exact Ext.refl _ | with_reducible assumption | exact Ext.mk (by with_reducible assumption) | with_reducible refine Ext.alloc ?_ _ | with_reducible refine Ext.drewN ?_ _ | with_reducible refine Ext.drew ?_ | with_reducible refine Ext.setCell ?_ (by first | (simp; done) | assumption | (simp; omega)) _ | (with_reducible refine Ext.trans ?_ (by with_reducible assumption))))); have kc3 := F3.2.1; have kf3 := F3.2.2; have kz3 := F3.size; have kt3 := F3.sizes; (try simp [Nat.add_one_le_iff] at kz3); (try have ky3 := Nat.le_of_lt kz3)) | (go_at_call 23; (with_reducible refine (refLeap_yes _ _ lb LB.out).mono ?_); rintro e w4 ⟨rfl, rfl⟩))
              obtain ⟨wo, rfl⟩ : ∃ wo : World, wo = wr := ⟨_, rfl⟩
              go_loopw [83] (fun i x => ∃ j : Nat, j ≤ len2 ∧ i = .int .i64 j ∧ Ext w x) (fun i _ => len2 - (intOf i).toNat)
              case atStart => exact ⟨0, by omega, rfl, by (repeat (first | with_reducible exact Ext.refl _ | with_reducible assumption | exact Ext.mk (by with_reducible assumption) | with_reducible refine Ext.alloc ?_ _ | with_reducible refine Ext.drewN ?_ _ | with_reducible refine Ext.drew ?_ | with_reducible refine Ext.setCell ?_ (by first | (simp; done) | assumption | (simp; omega)) _ | (with_reducible refine Ext.trans ?_ (by with_reducible assumption))))⟩
              case round =>
                clear F0 kc0 kz0
                obtain ⟨j, hk', rfl, F0⟩ := hrel
                have kc0 := F0.2.1
                have kz0 := F0.size
                by_cases hlt' : j < len2
                · obtain ⟨b', off', rfl, hb', hcs⟩ : ∃ b off, a2 = some ⟨b, off, none⟩ ∧ b < w.heap.size ∧ ∀ i, i < len2 → ∃ n, I64 n ∧ w.cell? ⟨b, off + i, none⟩ = some (.int .i64 n) := by
                    rcases G2.out with h | h
                    · omega
                    · exact h
                  obtain ⟨mm, hmm, c0'⟩ := hcs j hlt'
                  clear hcs
                  by_cases h12 : (j : Int) < 12
                  · have h12' := dt h12
                    go_wp2_with (first | (go_at_call 24; (with_reducible refine (long_any _ _ _ (hL.ext (by (repeat (first | with_reducible exact Ext.refl _ | with_reducible assumption | exact Ext.mk (by with_reducible assumption) | with_reducible refine Ext.alloc ?_ _ | with_reducible refine Ext.drewN ?_ _ | with_reducible refine Ext.drew ?_ | with_reducible refine Ext.setCell ?_ (by first | (simp; done) | assumption | (simp; omega)) _ | (with_reducible refine Ext.trans ?_ (by with_reducible assumption))))))).mono ?_); rintro e w5 ⟨rfl, E5⟩; have hc5 := E5.2.1; have hf5 := E5.2.2; have hz5 := E5.size; have ht5 := E5.sizes; (try simp [Nat.add_one_le_iff] at hz5); (try have hy5 := Nat.le_of_lt hz5); have F5 : Ext wr w5 := (by (repeat (first | with_reducible exact Ext.refl _ | with_reducible assumption | exact Ext.mk (by with_reducible assumption) | with_reducible refine Ext.alloc ?_ _ | with_reducible refine Ext.drewN ?_ _ | with_reducible refine Ext.drew ?_ | with_reducible refine Ext.setCell ?_ (by first | (simp; done) | assumption | (simp; omega)) _ | (with_reducible refine Ext.trans ?_ (by with_reducible assumption))))); have kc5 := F5.2.1; have kf5 := F5.2.2; have kz5 := F5.size; have kt5 := F5.sizes; (try simp [Nat.add_one_le_iff] at kz5); (try have ky5 := Nat.le_of_lt kz5)) | (go_at_call 25; (with_reducible refine (refLong_any _ _ _).mono ?_); rintro e w6 ⟨rfl, rfl⟩))
                    (first | exact ⟨⟨j + 1, by omega, by go_num, by (repeat (first | with_reducible exact Ext.refl _ | with_reducible assumption | exact Ext.mk (by with_reducible assumption) | with_reducible refine Ext.alloc ?_ _ | with_reducible refine Ext.drewN ?_ _ | with_reducible refine Ext.drew ?_ | with_reducible refine Ext.setCell ?_ (by first | (simp; done) | assumption | (simp; omega)) _ | (with_reducible refine Ext.trans ?_ (by with_reducible assumption))))⟩, by simp [intOf]; omega⟩ | (refine ⟨?_, by simp [intOf]; omega⟩; (repeat apply Exists.intro); exact ⟨⟨j + 1, by omega, by go_num, by (repeat (first | with_reducible exact Ext.refl _ | with_reducible assumption | exact Ext.mk (by with_reducible assumption) | with_reducible refine Ext.alloc ?_ _ | with_reducible refine Ext.drewN ?_ _ | with_reducible refine Ext.drew ?_ | with_reducible refine Ext.setCell ?_ (by first | (simp; done) | assumption | (simp; omega)) _ | (with_reducible refine Ext.trans ?_ (by with_reducible assumption))))⟩, rfl⟩))
                  · have h12' := df h12
                    go_wp2
                    (first | exact ⟨⟨j + 1, by omega, by go_num, by (repeat (first | with_reducible exact Ext.refl _ | with_reducible assumption | exact Ext.mk (by with_reducible assumption) | with_reducible refine Ext.alloc ?_ _ | with_reducible refine Ext.drewN ?_ _ | with_reducible refine Ext.drew ?_ | with_reducible refine Ext.setCell ?_ (by first | (simp; done) | assumption | (simp; omega)) _ | (with_reducible refine Ext.trans ?_ (by with_reducible assumption))))⟩, by simp [intOf]; omega⟩ | (refine ⟨?_, by simp [intOf]; omega⟩; (repeat apply Exists.intro); exact ⟨⟨j + 1, by omega, by go_num, by (repeat (first | with_reducible exact Ext.refl _ | with_reducible assumption | exact Ext.mk (by with_reducible assumption) | with_reducible refine Ext.alloc ?_ _ | with_reducible refine Ext.drewN ?_ _ | with_reducible refine Ext.drew ?_ | with_reducible refine Ext.setCell ?_ (by first | (simp; done) | assumption | (simp; omega)) _ | (with_reducible refine Ext.trans ?_ (by with_reducible assumption))))⟩, rfl⟩))
                · go_wp2
                  (first | exact ⟨⟨k + 1, by omega, by go_num, by (repeat (first | with_reducible exact Ext.refl _ | with_reducible assumption | exact Ext.mk (by with_reducible assumption) | with_reducible refine Ext.alloc ?_ _ | with_reducible refine Ext.drewN ?_ _ | with_reducible refine Ext.drew ?_ | with_reducible refine Ext.setCell ?_ (by first | (simp; done) | assumption | (simp; omega)) _ | (with_reducible refine Ext.trans ?_ (by with_reducible assumption))))⟩, by simp [intOf]; omega⟩ | (refine ⟨?_, by simp [intOf]; omega⟩; (repeat apply Exists.intro); exact ⟨⟨k + 1, by omega, by go_num, by (repeat (first | with_reducible exact Ext.refl _ | with_reducible assumption | exact Ext.mk (by with_reducible assumption) | with_reducible refine Ext.alloc ?_ _ | with_reducible refine Ext.drewN ?_ _ | with_reducible refine Ext.drew ?_ | with_reducible refine Ext.setCell ?_ (by first | (simp; done) | assumption | (simp; omega)) _ | (with_reducible refine Ext.trans ?_ (by with_reducible assumption))))⟩, rfl⟩))
          · go_wp2
            go_ret
            refine ⟨rfl, ?_⟩
            (repeat (first | with_reducible exact Ext.refl _ | with_reducible assumption | exact Ext.mk (by with_reducible assumption) | with_reducible refine Ext.alloc ?_ _ | with_reducible refine Ext.drewN ?_ _ | with_reducible refine Ext.drew ?_ | with_reducible refine Ext.setCell ?_ (by first | (simp; done) | assumption | (simp; omega)) _ | (with_reducible refine Ext.trans ?_ (by with_reducible assumption))))
      · have h6' : ((k : Int) == 12) = false := by simp; omega
        have hbr : b < wr.heap.size := Nat.lt_of_lt_of_le hb kz0
        cases ho : Cal.okd y m d
        · have HO := Lib.hid ho
          clear ho
          go_wp2_with (first | (go_at_call 19; (with_reducible refine (check_no _ _ _ _ (hL.ext (by (repeat (first | with_reducible exact Ext.refl _ | with_reducible assumption | exact Ext.mk (by with_reducible assumption) | with_reducible refine Ext.alloc ?_ _ | with_reducible refine Ext.drewN ?_ _ | with_reducible refine Ext.drew ?_ | with_reducible refine Ext.setCell ?_ (by first | (simp; done) | assumption | (simp; omega)) _ | (with_reducible refine Ext.trans ?_ (by with_reducible assumption)))))) HO.out).mono ?_); rintro e w2 ⟨rfl, E2⟩; have hc2 := E2.2.1; have hf2 := E2.2.2; have hz2 := E2.size; have ht2 := E2.sizes; (try simp [Nat.add_one_le_iff] at hz2); (try have hy2 := Nat.le_of_lt hz2); have F2 : Ext (wr.alloc (.cells #[.int .i64 y, .int .i64 m, .int .i64 d] 26)) w2 := (by (repeat (first | with_reducible exact Ext.refl _ | with_reducible assumption | exact Ext.mk (by with_reducible assumption) | with_reducible refine Ext.alloc ?_ _ | with_reducible refine Ext.drewN ?_ _ | with_reducible refine Ext.drew ?_ | with_reducible refine Ext.setCell ?_ (by first | (simp; done) | assumption | (simp; omega)) _ | (with_reducible refine Ext.trans ?_ (by with_reducible assumption))))); have kc2 := F2.2.1; have kf2 := F2.2.2; have kz2 := F2.size; have kt2 := F2.sizes; (try simp [Nat.add_one_le_iff] at kz2); (try have ky2 := Nat.le_of_lt kz2)))
          have q0 : w2.cell? ⟨wr.heap.size, 0, none⟩ = some (.int .i64 y) := by go_simp
          have q1 : w2.cell? ⟨wr.heap.size, 1, none⟩ = some (.int .i64 m) := by go_simp
          have q2 : w2.cell? ⟨wr.heap.size, 2, none⟩ = some (.int .i64 d) := by go_simp
          have W2 : Ext w w2 := by (repeat (first | with_reducible exact Ext.refl _ | with_reducible assumption | exact Ext.mk (by with_reducible assumption) | with_reducible refine Ext.alloc ?_ _ | with_reducible refine Ext.drewN ?_ _ | with_reducible refine Ext.drew ?_ | with_reducible refine Ext.setCell ?_ (by first | (simp; done) | assumption | (simp; omega)) _ | (with_reducible refine Ext.trans ?_ (by with_reducible assumption))))
          have w2c := W2.2.1
          have hb2 : b < w2.heap.size := Nat.lt_of_lt_of_le hb W2.size
          refine wp_region_ext (by kernel_rfl) (by kernel_rfl) ?_
          repeat (go_big_quiet_step ((first | (go_at_call 11; exact Calls.ext_of (right_no _ _ _ _ HO.out)) | (go_at_call 20; exact Calls.ext_of (compare_any _ _ _ _ _ _ _)) | (go_at_call 21; exact Calls.ext_of (refCompare_any _ _ _ _ _ _ _)))))
          refine wpQuiet_nil ?_
          rintro w3 E3
          go_wp2
          (first | exact ⟨⟨k + 1, by omega, by go_num, by (repeat (first | with_reducible exact Ext.refl _ | with_reducible assumption | exact Ext.mk (by with_reducible assumption) | with_reducible refine Ext.alloc ?_ _ | with_reducible refine Ext.drewN ?_ _ | with_reducible refine Ext.drew ?_ | with_reducible refine Ext.setCell ?_ (by first | (simp; done) | assumption | (simp; omega)) _ | (with_reducible refine Ext.trans ?_ (by with_reducible assumption))))⟩, by simp [intOf]; omega⟩ | (refine ⟨?_, by simp [intOf]; omega⟩; (repeat apply Exists.intro); exact ⟨⟨k + 1, by omega, by go_num, by (repeat (first | with_reducible exact Ext.refl _ | with_reducible assumption | exact Ext.mk (by with_reducible assumption) | with_reducible refine Ext.alloc ?_ _ | with_reducible refine Ext.drewN ?_ _ | with_reducible refine Ext.drew ?_ | with_reducible refine Ext.setCell ?_ (by first | (simp; done) | assumption | (simp; omega)) _ | (with_reducible refine Ext.trans ?_ (by with_reducible assumption))))⟩, rfl⟩))
        · have HO := Lib.hid ho
          clear ho
          go_wp2_with (first | (go_at_call 19; (with_reducible refine (check_yes _ _ _ _ (hL.ext (by (repeat (first | with_reducible exact Ext.refl _ | with_reducible assumption | exact Ext.mk (by with_reducible assumption) | with_reducible refine Ext.alloc ?_ _ | with_reducible refine Ext.drewN ?_ _ | with_reducible refine Ext.drew ?_ | with_reducible refine Ext.setCell ?_ (by first | (simp; done) | assumption | (simp; omega)) _ | (with_reducible refine Ext.trans ?_ (by with_reducible assumption)))))) HO.out).mono ?_); rintro e w2 ⟨rfl, E2⟩; have hc2 := E2.2.1; have hf2 := E2.2.2; have hz2 := E2.size; have ht2 := E2.sizes; (try simp [Nat.add_one_le_iff] at hz2); (try have hy2 := Nat.le_of_lt hz2); have F2 : Ext (wr.alloc (.cells #[.int .i64 y, .int .i64 m, .int .i64 d] 26)) w2 := (by (repeat (first | with_reducible exact Ext.refl _ | with_reducible assumption | exact Ext.mk (by with_reducible assumption) | with_reducible refine Ext.alloc ?_ _ | with_reducible refine Ext.drewN ?_ _ | with_reducible refine Ext.drew ?_ | with_reducible refine Ext.setCell ?_ (by first | (simp; done) | assumption | (simp; omega)) _ | (with_reducible refine Ext.trans ?_ (by with_reducible assumption))))); have kc2 := F2.2.1; have kf2 := F2.2.2; have kz2 := F2.size; have kt2 := F2.sizes; (try simp [Nat.add_one_le_iff] at kz2); (try have ky2 := Nat.le_of_lt kz2)))
          have q0 : w2.cell? ⟨wr.heap.size, 0, none⟩ = some (.int .i64 y) := by go_simp
          have q1 : w2.cell? ⟨wr.heap.size, 1, none⟩ = some (.int .i64 m) := by go_simp
          have q2 : w2.cell? ⟨wr.heap.size, 2, none⟩ = some (.int .i64 d) := by go_simp
          have W2 : Ext w w2 := by (repeat (first | with_reducible exact Ext.refl _ | with_reducible assumption | exact Ext.mk (by with_reducible assumption) | with_reducible refine Ext.alloc ?_ _ | with_reducible refine Ext.drewN ?_ _ | with_reducible refine Ext.drew ?_ | with_reducible refine Ext.setCell ?_ (by first | (simp; done) | assumption | (simp; omega)) _ | (with_reducible refine Ext.trans ?_ (by with_reducible assumption))))
          have w2c := W2.2.1
          have hb2 : b < w2.heap.size := Nat.lt_of_lt_of_le hb W2.size
          refine wp_region_ext (by kernel_rfl) (by kernel_rfl) ?_
          repeat (go_big_quiet_step ((first | (go_at_call 11; exact Calls.ext_of (right_yes _ _ _ _ HO.out)) | (go_at_call 20; exact Calls.ext_of (compare_any _ _ _ _ _ _ _)) | (go_at_call 21; exact Calls.ext_of (refCompare_any _ _ _ _ _ _ _)))))
          refine wpQuiet_nil ?_
          rintro w3 E3
          go_wp2
          (first | exact ⟨⟨k + 1, by omega, by go_num, by (repeat (first | with_reducible exact Ext.refl _ | with_reducible assumption | exact Ext.mk (by with_reducible assumption) | with_reducible refine Ext.alloc ?_ _ | with_reducible refine Ext.drewN ?_ _ | with_reducible refine Ext.drew ?_ | with_reducible refine Ext.setCell ?_ (by first | (simp; done) | assumption | (simp; omega)) _ | (with_reducible refine Ext.trans ?_ (by with_reducible assumption))))⟩, by simp [intOf]; omega⟩ | (refine ⟨?_, by simp [intOf]; omega⟩; (repeat apply Exists.intro); exact ⟨⟨k + 1, by omega, by go_num, by (repeat (first | with_reducible exact Ext.refl _ | with_reducible assumption | exact Ext.mk (by with_reducible assumption) | with_reducible refine Ext.alloc ?_ _ | with_reducible refine Ext.drewN ?_ _ | with_reducible refine Ext.drew ?_ | with_reducible refine Ext.setCell ?_ (by first | (simp; done) | assumption | (simp; omega)) _ | (with_reducible refine Ext.trans ?_ (by with_reducible assumption))))⟩, rfl⟩))
    · go_wp2
      go_loopw [69] (fun i x => ∃ k : Nat, k ≤ len1 ∧ i = .int .i64 k ∧ Ext w x) (fun i _ => len1 - (intOf i).toNat)
      case atStart => exact ⟨0, by omega, rfl, by (repeat (first | with_reducible exact Ext.refl _ | with_reducible assumption | exact Ext.mk (by with_reducible assumption) | with_reducible refine Ext.alloc ?_ _ | with_reducible refine Ext.drewN ?_ _ | with_reducible refine Ext.drew ?_ | with_reducible refine Ext.setCell ?_ (by first | (simp; done) | assumption | (simp; omega)) _ | (with_reducible refine Ext.trans ?_ (by with_reducible assumption))))⟩
      case round =>
        clear F0 kc0 kz0
        obtain ⟨k, hk, rfl, F0⟩ := hrel
        have kc0 := F0.2.1
        have kz0 := F0.size
        by_cases hlt : k < len1
        · have hlt0 := hlt
          obtain ⟨b, off, rfl, hb, hcs⟩ : ∃ b off, a1 = some ⟨b, off, none⟩ ∧ b < w.heap.size ∧ ∀ i, i < len1 → ∃ n, I64 n ∧ w.cell? ⟨b, off + i, none⟩ = some (.int .i64 n) := by
            rcases G1.out with h | h
            · omega
            · exact h
          obtain ⟨n, hn, c0⟩ := hcs k hlt
          clear hcs
          by_cases h6 : k = 12
          · have h6' : ((k : Int) == 12) = true := by simp; omega
            clear h6
            go_wp2
            go_ret
            refine ⟨rfl, ?_⟩
            (repeat (first | with_reducible exact Ext.refl _ | with_reducible assumption | exact Ext.mk (by with_reducible assumption) | with_reducible refine Ext.alloc ?_ _ | with_reducible refine Ext.drewN ?_ _ | with_reducible refine Ext.drew ?_ | with_reducible refine Ext.setCell ?_ (by first | (simp; done) | assumption | (simp; omega)) _ | (with_reducible refine Ext.trans ?_ (by with_reducible assumption))))
          · have h6' : ((k : Int) == 12) = false := by simp; omega
            clear h6
            obtain ⟨lb, hlb⟩ : ∃ b, Cal.leapB n = b := ⟨_, rfl⟩
            have LB := Lib.hid hlb
            clear hlb
            go_wp2_with (first | (go_at_call 22; (with_reducible refine (leap_yes _ _ lb LB.out).mono ?_); rintro e w3 ⟨rfl, E3⟩; have hc3 := E3.2.1; have hf3 := E3.2.2; have hz3 := E3.size; have ht3 := E3.sizes; (try simp [Nat.add_one_le_iff] at hz3); (try have hy3 := Nat.le_of_lt hz3); have F3 : Ext wr w3 := (by (repeat (first | with_reducible exact Ext.refl _ | with_reducible assumption | exact Ext.mk (by with_reducible assumption) | with_reducible refine Ext.alloc ?_ _ | with_reducible refine Ext.drewN ?_ _ | with_reducible refine Ext.drew ?_ | with_reducible refine Ext.setCell ?_ (by first | (simp; done) | assumption | (simp; omega)) _ | (with_reducible refine Ext.trans ?_ (by with_reducible assumption))))); have kc3 := F3.2.1; have kf3 := F3.2.2; have kz3 := F3.size; have kt3 := F3.sizes; (try simp [Nat.add_one_le_iff] at kz3); (try have ky3 := Nat.le_of_lt kz3)) | (go_at_call 23; (with_reducible refine (refLeap_yes _ _ lb LB.out).mono ?_); rintro e w4 ⟨rfl, rfl⟩))
            obtain ⟨wo, rfl⟩ : ∃ wo : World, wo = wr := ⟨_, rfl⟩
            go_loopw [83] (fun i x => ∃ j : Nat, j ≤ len2 ∧ i = .int .i64 j ∧ Ext w x) (fun i _ => len2 - (intOf i).toNat)
            case atStart => exact ⟨0, by omega, rfl, by (repeat (first | with_reducible exact Ext.refl _ | with_reducible assumption | exact Ext.mk (by with_reducible assumption) | with_reducible refine Ext.alloc ?_ _ | with_reducible refine Ext.drewN ?_ _ | with_reducible refine Ext.drew ?_ | with_reducible refine Ext.setCell ?_ (by first | (simp; done) | assumption | (simp; omega)) _ | (with_reducible refine Ext.trans ?_ (by with_reducible assumption))))⟩
            case round =>
              clear F0 kc0 kz0
              obtain ⟨j, hk', rfl, F0⟩ := hrel
              have kc0 := F0.2.1
              have kz0 := F0.size
              by_cases hlt' : j < len2
              · obtain ⟨b', off', rfl, hb', hcs⟩ : ∃ b off, a2 = some ⟨b, off, none⟩ ∧ b < w.heap.size ∧ ∀ i, i < len2 → ∃ n, I64 n ∧ w.cell? ⟨b, off + i, none⟩ = some (.int .i64 n) := by
                  rcases G2.out with h | h
                  · omega
                  · exact h
                obtain ⟨mm, hmm, c0'⟩ := hcs j hlt'
                clear hcs
                by_cases h12 : (j : Int) < 12
                · have h12' := dt h12
                  go_wp2_with (first | (go_at_call 24; (with_reducible refine (long_any _ _ _ (hL.ext (by (repeat (first | with_reducible exact Ext.refl _ | with_reducible assumption | exact Ext.mk (by with_reducible assumption) | with_reducible refine Ext.alloc ?_ _ | with_reducible refine Ext.drewN ?_ _ | with_reducible refine Ext.drew ?_ | with_reducible refine Ext.setCell ?_ (by first | (simp; done) | assumption | (simp; omega)) _ | (with_reducible refine Ext.trans ?_ (by with_reducible assumption))))))).mono ?_); rintro e w5 ⟨rfl, E5⟩; have hc5 := E5.2.1; have hf5 := E5.2.2; have hz5 := E5.size; have ht5 := E5.sizes; (try simp [Nat.add_one_le_iff] at hz5); (try have hy5 := Nat.le_of_lt hz5); have F5 : Ext wr w5 := (by (repeat (first | with_reducible exact Ext.refl _ | with_reducible assumption | exact Ext.mk (by with_reducible assumption) | with_reducible refine Ext.alloc ?_ _ | with_reducible refine Ext.drewN ?_ _ | with_reducible refine Ext.drew ?_ | with_reducible refine Ext.setCell ?_ (by first | (simp; done) | assumption | (simp; omega)) _ | (with_reducible refine Ext.trans ?_ (by with_reducible assumption))))); have kc5 := F5.2.1; have kf5 := F5.2.2; have kz5 := F5.size; have kt5 := F5.sizes; (try simp [Nat.add_one_le_iff] at kz5); (try have ky5 := Nat.le_of_lt kz5)) | (go_at_call 25; (with_reducible refine (refLong_any _ _ _).mono ?_); rintro e w6 ⟨rfl, rfl⟩))
                  (first | exact ⟨⟨j + 1, by omega, by go_num, by (repeat (first | with_reducible exact Ext.refl _ | with_reducible assumption | exact Ext.mk (by with_reducible assumption) | with_reducible refine Ext.alloc ?_ _ | with_reducible refine Ext.drewN ?_ _ | with_reducible refine Ext.drew ?_ | with_reducible refine Ext.setCell ?_ (by first | (simp; done) | assumption | (simp; omega)) _ | (with_reducible refine Ext.trans ?_ (by with_reducible assumption))))⟩, by simp [intOf]; omega⟩ | (refine ⟨?_, by simp [intOf]; omega⟩; (repeat apply Exists.intro); exact ⟨⟨j + 1, by omega, by go_num, by (repeat (first | with_reducible exact Ext.refl _ | with_reducible assumption | exact Ext.mk (by with_reducible assumption) | with_reducible refine Ext.alloc ?_ _ | with_reducible refine Ext.drewN ?_ _ | with_reducible refine Ext.drew ?_ | with_reducible refine Ext.setCell ?_ (by first | (simp; done) | assumption | (simp; omega)) _ | (with_reducible refine Ext.trans ?_ (by with_reducible assumption))))⟩, rfl⟩))
                · have h12' := df h12
                  go_wp2
                  (first | exact ⟨⟨j + 1, by omega, by go_num, by (repeat (first | with_reducible exact Ext.refl _ | with_reducible assumption | exact Ext.mk (by with_reducible assumption) | with_reducible refine Ext.alloc ?_ _ | with_reducible refine Ext.drewN ?_ _ | with_reducible refine Ext.drew ?_ | with_reducible refine Ext.setCell ?_ (by first | (simp; done) | assumption | (simp; omega)) _ | (with_reducible refine Ext.trans ?_ (by with_reducible assumption))))⟩, by simp [intOf]; omega⟩ | (refine ⟨?_, by simp [intOf]; omega⟩; (repeat apply Exists.intro); exact ⟨⟨j + 1, by omega, by go_num, by (repeat (first | with_reducible exact Ext.refl _ | with_reducible assumption | exact Ext.mk (by with_reducible assumption) | with_reducible refine Ext.alloc ?_ _ | with_reducible refine Ext.drewN ?_ _ | with_reducible refine Ext.drew ?_ | with_reducible refine Ext.setCell ?_ (by first | (simp; done) | assumption | (simp; omega)) _ | (with_reducible refine Ext.trans ?_ (by with_reducible assumption))))⟩, rfl⟩))
              · go_wp2
                (first | exact ⟨⟨k + 1, by omega, by go_num, by (repeat (first | with_reducible exact Ext.refl _ | with_reducible assumption | exact Ext.mk (by with_reducible assumption) | with_reducible refine Ext.alloc ?_ _ | with_reducible refine Ext.drewN ?_ _ | with_reducible refine Ext.drew ?_ | with_reducible refine Ext.setCell ?_ (by first | (simp; done) | assumption | (simp; omega)) _ | (with_reducible refine Ext.trans ?_ (by with_reducible assumption))))⟩, by simp [intOf]; omega⟩ | (refine ⟨?_, by simp [intOf]; omega⟩; (repeat apply Exists.intro); exact ⟨⟨k + 1, by omega, by go_num, by (repeat (first | with_reducible exact Ext.refl _ | with_reducible assumption | exact Ext.mk (by with_reducible assumption) | with_reducible refine Ext.alloc ?_ _ | with_reducible refine Ext.drewN ?_ _ | with_reducible refine Ext.drew ?_ | with_reducible refine Ext.setCell ?_ (by first | (simp; done) | assumption | (simp; omega)) _ | (with_reducible refine Ext.trans ?_ (by with_reducible assumption))))⟩, rfl⟩))
        · go_wp2
          go_ret
          refine ⟨rfl, ?_⟩
          (repeat (first | with_reducible exact Ext.refl _ | with_reducible assumption | exact Ext.mk (by with_reducible assumption) | with_reducible refine Ext.alloc ?_ _ | with_reducible refine Ext.drewN ?_ _ | with_reducible refine Ext.drew ?_ | with_reducible refine Ext.setCell ?_ (by first | (simp; done) | assumption | (simp; omega)) _ | (with_reducible refine Ext.trans ?_ (by with_reducible assumption))))
