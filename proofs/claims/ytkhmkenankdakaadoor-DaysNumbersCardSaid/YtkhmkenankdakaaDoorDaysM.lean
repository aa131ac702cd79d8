import Derived.Test.YtkhmkenankdakaaDoorDaysL
namespace Go.Proofs.YtkhmkenankdakaaDoor
open Go Go.RowKit
set_option linter.unusedSimpArgs false
set_option linter.unusedVariables false

/-- an int that fits -/
def I64 (n : Int) : Prop := -9223372036854775808 ≤ n ∧ n ≤ 9223372036854775807
theorem cell_lt {w : World} {a : Addr} {v : Value} (h : w.cell? a = some v) : a.block < w.heap.size := by
  rcases Nat.lt_or_ge a.block w.heap.size with k | k
  · exact k
  · simp [World.cell?, Array.getElem?_eq_none k] at h
theorem add_plain {b off n : Nat} : (⟨b, off, none⟩ : Addr).add n = ⟨b, off + n, none⟩ := by
  unfold Addr.add; split <;> simp_all

/-- a slice that came in: its elements' cells -/
theorem slice_of {w : World} {n : Nat} {e : Sh} {a : Option Addr} {len cap : Nat} (h : Sh.fits w (.slice (n + 1) e) [.slice a len cap]) :
    len ≤ cap ∧ cap ≤ maxLen ∧ (len = 0 ∨ ∃ b off, a = some ⟨b, off, none⟩ ∧ b < w.heap.size ∧ ∀ i, i < len → ∃ cs', cs'.length = n + 1 ∧ (∀ j, j < n + 1 → w.cell? ⟨b, off + (i * (n + 1) + j), none⟩ = cs'[j]?) ∧ e.fits w cs') := by
  rcases h with h | ⟨x, l, c, h, h1, h2, h3⟩
  · simp at h; obtain ⟨rfl, rfl, rfl⟩ := h
    exact ⟨Nat.le_refl _, by simp [maxLen], .inl rfl⟩
  · simp at h; obtain ⟨rfl, rfl, rfl⟩ := h
    refine ⟨h1, h2, ?_⟩
    by_cases h0 : len = 0
    · exact .inl h0
    · obtain ⟨b, off, spot⟩ := x
      obtain ⟨cs', c1, c2, c3⟩ := h3 0 (by omega)
      have c20 := c2 0 (by omega)
      have hx : ∃ v, cs'[0]? = some v := ⟨cs'[0]'(by omega), by simp⟩
      obtain ⟨v, hv⟩ := hx
      rw [hv] at c20
      have hsp : spot = none := by simpa [Addr.add] using World.cell?_spot c20
      subst hsp
      have hb := cell_lt c20
      refine .inr ⟨b, off, rfl, by simpa [add_plain] using hb, fun i hi => ?_⟩
      obtain ⟨cs', c1, c2, c3⟩ := h3 i hi
      exact ⟨cs', c1, fun j hj => by rw [← c2 j hj, add_plain], c3⟩

abbrev dateSh : Sh := .field 0 1 (.int .i64) (.field 1 1 (.int .i64) (.field 2 1 (.int .i64) (.stop 3)))
theorem ints_of {w : World} {a : Option Addr} {len cap : Nat} (h : Sh.fits w (.slice 1 (.int .i64)) [.slice a len cap]) :
    len ≤ maxLen ∧ (len = 0 ∨ ∃ b off, a = some ⟨b, off, none⟩ ∧ b < w.heap.size ∧ ∀ i, i < len → ∃ n, I64 n ∧ w.cell? ⟨b, off + i, none⟩ = some (.int .i64 n)) := by
  obtain ⟨h1, h2, h3⟩ := slice_of h
  refine ⟨by omega, h3.imp id ?_⟩
  rintro ⟨b, off, h4, h5, h6⟩
  refine ⟨b, off, h4, h5, fun i hi => ?_⟩
  obtain ⟨cs', c1, c2, n, rfl, wf⟩ := h6 i hi
  have := c2 0 (by omega)
  exact ⟨n, i64_range wf, by simpa using this⟩
theorem dates_of {w : World} {a : Option Addr} {len cap : Nat} (h : Sh.fits w (.slice 3 dateSh) [.slice a len cap]) :
    len ≤ maxLen ∧ (len = 0 ∨ ∃ b off, a = some ⟨b, off, none⟩ ∧ b < w.heap.size ∧ ∀ i, i < len → ∃ y m d, I64 y ∧ I64 m ∧ I64 d ∧ w.cell? ⟨b, off + i * 3, none⟩ = some (.int .i64 y) ∧ w.cell? ⟨b, off + i * 3 + 1, none⟩ = some (.int .i64 m) ∧ w.cell? ⟨b, off + i * 3 + 2, none⟩ = some (.int .i64 d)) := by
  obtain ⟨h1, h2, h3⟩ := slice_of h
  refine ⟨by omega, h3.imp id ?_⟩
  rintro ⟨b, off, h4, h5, h6⟩
  refine ⟨b, off, h4, h5, fun i hi => ?_⟩
  obtain ⟨cs', c1, c2, c3⟩ := h6 i hi
  obtain ⟨y, m, d, e, hy, hm, hd⟩ := date_of (c := cs'.toArray) (by simpa using c3)
  have e' : cs' = [.int .i64 y, .int .i64 m, .int .i64 d] := by simpa using congrArg Array.toList e
  subst e'
  refine ⟨y, m, d, hy, hm, hd, by simpa using c2 0 (by omega), by simpa [Nat.add_assoc] using c2 1 (by omega), by simpa [Nat.add_assoc] using c2 2 (by omega)⟩

theorem right_yes (y m d : Int) (w : World) (h : Cal.okd y m d = true) : Calls Tryd.prog 11 #[.agg #[.int .i64 y, .int .i64 m, .int .i64 d]] w fun e w' => e = .returned (.bool true) ∧ Ext w w' := by
  have k := right_any y m d w; rw [h] at k; exact k
theorem right_no (y m d : Int) (w : World) (h : Cal.okd y m d = false) : Calls Tryd.prog 11 #[.agg #[.int .i64 y, .int .i64 m, .int .i64 d]] w fun e w' => e = .returned (.bool false) ∧ Ext w w' := by
  have k := right_any y m d w; rw [h] at k; exact k
theorem refDay_yes (n : Int) (w : World) (h : dayB n = true) : Calls Tryd.prog 15 #[.int .i64 n] w fun e w' => e = .returned (.bool true) ∧ w = w' := by
  have k := refDay_any n w; rw [h] at k; exact k
theorem refDay_no (n : Int) (w : World) (h : dayB n = false) : Calls Tryd.prog 15 #[.int .i64 n] w fun e w' => e = .returned (.bool false) ∧ w = w' := by
  have k := refDay_any n w; rw [h] at k; exact k
theorem refWeekday_day (n : Int) (w : World) (h : dayB n = true) : Calls Tryd.prog 17 #[.int .i64 n] w fun e w' => e = .returned (.int .i64 ((n + 4) % 7)) ∧ w = w' :=
  refWeekday_any n w (dayB_true h).1 (dayB_true h).2


set_option maxHeartbeats 4000000 in
set_option maxRecDepth 100000 in
theorem walk_DaysNumbers (a0 : Option Addr) (len0 cap0 : Nat) (a1 : Option Addr) (len1 cap1 : Nat) (w : World)
    (f0 : Sh.fits w (.slice 3 dateSh) [.slice a0 len0 cap0]) (f1 : Sh.fits w (.slice 1 (.int .i64)) [.slice a1 len1 cap1]) (hL : DaysLaid w) :
    Calls Tryd.prog 3 #[.slice a0 len0 cap0, .slice a1 len1 cap1] w fun e w' => e = .returned (.bool true) ∧ Ext w w' := by
  obtain ⟨l0, g0⟩ := dates_of f0
  obtain ⟨l1, g1⟩ := ints_of f1
  unfold maxLen at l0 l1
  clear f0 f1
  have G0 := Lib.hid g0
  have G1 := Lib.hid g1
  clear g0 g1
  go_enter Tryd.func3, Tryd.ntmps3
  go_wp2_with (go_at_call 9; (with_reducible refine (daysWakes _ hL).mono ?_); rintro e w1 ⟨rfl, E1⟩; have hc1 := E1.2.1; have hf1 := E1.2.2; have hz1 := E1.size; have ht1 := E1.sizes; (try simp [Nat.add_one_le_iff] at hz1); (try have hy1 := Nat.le_of_lt hz1); have F1 : Ext w w1 := (by (repeat (first | with_reducible exact Ext.refl _ | with_reducible assumption | exact Ext.mk (by with_reducible assumption) | with_reducible refine Ext.alloc ?_ _ | with_reducible refine Ext.drewN ?_ _ | with_reducible refine Ext.drew ?_ | with_reducible refine Ext.setCell ?_ (by first | (simp; done) | assumption | (simp; omega)) _ | (with_reducible refine Ext.trans ?_ (by with_reducible assumption))))); have kc1 := F1.2.1; have kf1 := F1.2.2; have kz1 := F1.size; have kt1 := F1.sizes; (try simp [Nat.add_one_le_iff] at kz1); (try have ky1 := Nat.le_of_lt kz1))
  go_loopw [19] (fun i x => ∃ k : Nat, k ≤ len0 ∧ i = .int .i64 k ∧ Ext w x) (fun i _ => len0 - (intOf i).toNat)
  case atStart => exact ⟨0, by omega, rfl, F1⟩
  case round =>
    clear E1 hc1 hf1 hz1 F1 kc1 kf1 kz1
    obtain ⟨k, hk, rfl, F0⟩ := hrel
    have kc0 := F0.2.1
    have kz0 := F0.size
    by_cases hlt : k < len0
    · obtain ⟨b, off, rfl, hb, hcs⟩ : ∃ b off, a0 = some ⟨b, off, none⟩ ∧ b < w.heap.size ∧ ∀ i, i < len0 → ∃ y m d, I64 y ∧ I64 m ∧ I64 d ∧ w.cell? ⟨b, off + i * 3, none⟩ = some (.int .i64 y) ∧ w.cell? ⟨b, off + i * 3 + 1, none⟩ = some (.int .i64 m) ∧ w.cell? ⟨b, off + i * 3 + 2, none⟩ = some (.int .i64 d) := by
        rcases G0.out with h | h
        · omega
        · exact h
      obtain ⟨y, m, d, hy, hm, hd, c0, c1, c2⟩ := hcs k hlt
      clear hcs
      by_cases h6 : k = 6
      · have h6' : ((k : Int) == 6) = true := by simp; omega
        clear h6
        go_wp2
        go_loopw [51] (fun i x => ∃ k : Nat, k ≤ len1 ∧ i = .int .i64 k ∧ Ext w x) (fun i _ => len1 - (intOf i).toNat)
        case atStart => exact ⟨0, by omega, rfl, by (repeat (first | with_reducible exact Ext.refl _ | with_reducible assumption | exact Ext.mk (by with_reducible assumption) | with_reducible refine Ext.alloc ?_ _ | with_reducible refine Ext.drewN ?_ _ | with_reducible refine Ext.drew ?_ | with_reducible refine Ext.setCell ?_ (by first | (simp; done) | assumption | (simp; omega)) _ | (with_reducible refine Ext.trans ?_ (by with_reducible assumption))))⟩
        case round =>
          clear F0 kc0 kz0
          obtain ⟨k, hk, rfl, F0⟩ := hrel
          have kc0 := F0.2.1
          have kz0 := F0.size
          by_cases hlt : k < len1
          · obtain ⟨b, off, rfl, hb, hcs⟩ : ∃ b off, a1 = some ⟨b, off, none⟩ ∧ b < w.heap.size ∧ ∀ i, i < len1 → ∃ n, I64 n ∧ w.cell? ⟨b, off + i, none⟩ = some (.int .i64 n) := by
              rcases G1.out with h | h
              · omega
              · exact h
            obtain ⟨n, hn, c0⟩ := hcs k hlt
            clear hcs
            by_cases h6 : k = 6
            · have h6' : ((k : Int) == 6) = true := by simp; omega
              clear h6
              go_wp2
              go_ret
              refine ⟨rfl, ?_⟩
              (repeat (first | with_reducible exact Ext.refl _ | with_reducible assumption | exact Ext.mk (by with_reducible assumption) | with_reducible refine Ext.alloc ?_ _ | with_reducible refine Ext.drewN ?_ _ | with_reducible refine Ext.drew ?_ | with_reducible refine Ext.setCell ?_ (by first | (simp; done) | assumption | (simp; omega)) _ | (with_reducible refine Ext.trans ?_ (by with_reducible assumption))))
            · have h6' : ((k : Int) == 6) = false := by simp; omega
              cases hd : dayB n
              · have HD := Lib.hid hd
                clear hd
                go_wp2_with (first | (go_at_call 13; (with_reducible refine (at_no n _ HD.out).mono ?_); rintro e w5 ⟨rfl, E5⟩; have hc5 := E5.2.1; have hf5 := E5.2.2; have hz5 := E5.size; have ht5 := E5.sizes; (try simp [Nat.add_one_le_iff] at hz5); (try have hy5 := Nat.le_of_lt hz5); have F5 : Ext wr w5 := (by (repeat (first | with_reducible exact Ext.refl _ | with_reducible assumption | exact Ext.mk (by with_reducible assumption) | with_reducible refine Ext.alloc ?_ _ | with_reducible refine Ext.drewN ?_ _ | with_reducible refine Ext.drew ?_ | with_reducible refine Ext.setCell ?_ (by first | (simp; done) | assumption | (simp; omega)) _ | (with_reducible refine Ext.trans ?_ (by with_reducible assumption))))); have kc5 := F5.2.1; have kf5 := F5.2.2; have kz5 := F5.size; have kt5 := F5.sizes; (try simp [Nat.add_one_le_iff] at kz5); (try have ky5 := Nat.le_of_lt kz5)) | (go_at_call 14; (with_reducible refine (weekday_no _ _ HD.out).mono ?_); rintro e w6 ⟨rfl, rfl⟩) | (go_at_call 15; (with_reducible refine (refDay_no _ _ HD.out).mono ?_); rintro e w7 ⟨rfl, rfl⟩))
                (first | exact ⟨⟨k + 1, by omega, by go_num, by (repeat (first | with_reducible exact Ext.refl _ | with_reducible assumption | exact Ext.mk (by with_reducible assumption) | with_reducible refine Ext.alloc ?_ _ | with_reducible refine Ext.drewN ?_ _ | with_reducible refine Ext.drew ?_ | with_reducible refine Ext.setCell ?_ (by first | (simp; done) | assumption | (simp; omega)) _ | (with_reducible refine Ext.trans ?_ (by with_reducible assumption))))⟩, by simp [intOf]; omega⟩ | (refine ⟨?_, by simp [intOf]; omega⟩; (repeat apply Exists.intro); exact ⟨⟨k + 1, by omega, by go_num, by (repeat (first | with_reducible exact Ext.refl _ | with_reducible assumption | exact Ext.mk (by with_reducible assumption) | with_reducible refine Ext.alloc ?_ _ | with_reducible refine Ext.drewN ?_ _ | with_reducible refine Ext.drew ?_ | with_reducible refine Ext.setCell ?_ (by first | (simp; done) | assumption | (simp; omega)) _ | (with_reducible refine Ext.trans ?_ (by with_reducible assumption))))⟩, rfl⟩))
              · have HD := Lib.hid hd
                clear hd
                go_wp2_with (first | (go_at_call 13; (with_reducible refine (at_yes n _ HD.out).mono ?_); rintro e w5 ⟨rfl, E5⟩; have hc5 := E5.2.1; have hf5 := E5.2.2; have hz5 := E5.size; have ht5 := E5.sizes; (try simp [Nat.add_one_le_iff] at hz5); (try have hy5 := Nat.le_of_lt hz5); have F5 : Ext wr w5 := (by (repeat (first | with_reducible exact Ext.refl _ | with_reducible assumption | exact Ext.mk (by with_reducible assumption) | with_reducible refine Ext.alloc ?_ _ | with_reducible refine Ext.drewN ?_ _ | with_reducible refine Ext.drew ?_ | with_reducible refine Ext.setCell ?_ (by first | (simp; done) | assumption | (simp; omega)) _ | (with_reducible refine Ext.trans ?_ (by with_reducible assumption))))); have kc5 := F5.2.1; have kf5 := F5.2.2; have kz5 := F5.size; have kt5 := F5.sizes; (try simp [Nat.add_one_le_iff] at kz5); (try have ky5 := Nat.le_of_lt kz5)) | (go_at_call 14; (with_reducible refine (weekday_yes _ _ HD.out).mono ?_); rintro e w6 ⟨rfl, rfl⟩) | (go_at_call 15; (with_reducible refine (refDay_yes _ _ HD.out).mono ?_); rintro e w7 ⟨rfl, rfl⟩))
                refine wp_region_ext (by kernel_rfl) (by kernel_rfl) ?_
                repeat (go_big_quiet_step ((first | (go_at_call 16; exact Calls.ext_of (refAt_any _ _ HD.out)) | (go_at_call 17; exact Calls.ext_of_keep (refWeekday_day _ _ HD.out)))))
                refine wpQuiet_nil ?_
                rintro w8 E8
                go_wp2
                (first | exact ⟨⟨k + 1, by omega, by go_num, by (repeat (first | with_reducible exact Ext.refl _ | with_reducible assumption | exact Ext.mk (by with_reducible assumption) | with_reducible refine Ext.alloc ?_ _ | with_reducible refine Ext.drewN ?_ _ | with_reducible refine Ext.drew ?_ | with_reducible refine Ext.setCell ?_ (by first | (simp; done) | assumption | (simp; omega)) _ | (with_reducible refine Ext.trans ?_ (by with_reducible assumption))))⟩, by simp [intOf]; omega⟩ | (refine ⟨?_, by simp [intOf]; omega⟩; (repeat apply Exists.intro); exact ⟨⟨k + 1, by omega, by go_num, by (repeat (first | with_reducible exact Ext.refl _ | with_reducible assumption | exact Ext.mk (by with_reducible assumption) | with_reducible refine Ext.alloc ?_ _ | with_reducible refine Ext.drewN ?_ _ | with_reducible refine Ext.drew ?_ | with_reducible refine Ext.setCell ?_ (by first | (simp; done) | assumption | (simp; omega)) _ | (with_reducible refine Ext.trans ?_ (by with_reducible assumption))))⟩, rfl⟩))
          · go_wp2
            go_ret
            refine ⟨rfl, ?_⟩
            (repeat (first | with_reducible exact Ext.refl _ | with_reducible assumption | exact Ext.mk (by with_reducible assumption) | with_reducible refine Ext.alloc ?_ _ | with_reducible refine Ext.drewN ?_ _ | with_reducible refine Ext.drew ?_ | with_reducible refine Ext.setCell ?_ (by first | (simp; done) | assumption | (simp; omega)) _ | (with_reducible refine Ext.trans ?_ (by with_reducible assumption))))
      · have h6' : ((k : Int) == 6) = false := by simp; omega
        cases ho : Cal.okd y m d
        · have HO := Lib.hid ho
          clear ho
          go_wp2_with (first | (go_at_call 10; (with_reducible refine (of_no _ _ _ _ (hL.ext (by (repeat (first | with_reducible exact Ext.refl _ | with_reducible assumption | exact Ext.mk (by with_reducible assumption) | with_reducible refine Ext.alloc ?_ _ | with_reducible refine Ext.drewN ?_ _ | with_reducible refine Ext.drew ?_ | with_reducible refine Ext.setCell ?_ (by first | (simp; done) | assumption | (simp; omega)) _ | (with_reducible refine Ext.trans ?_ (by with_reducible assumption)))))) HO.out).mono ?_); rintro e w2 ⟨rfl, E2⟩; have hc2 := E2.2.1; have hf2 := E2.2.2; have hz2 := E2.size; have ht2 := E2.sizes; (try simp [Nat.add_one_le_iff] at hz2); (try have hy2 := Nat.le_of_lt hz2); have F2 : Ext (wr.alloc (.cells #[.int .i64 y, .int .i64 m, .int .i64 d] 26)) w2 := (by (repeat (first | with_reducible exact Ext.refl _ | with_reducible assumption | exact Ext.mk (by with_reducible assumption) | with_reducible refine Ext.alloc ?_ _ | with_reducible refine Ext.drewN ?_ _ | with_reducible refine Ext.drew ?_ | with_reducible refine Ext.setCell ?_ (by first | (simp; done) | assumption | (simp; omega)) _ | (with_reducible refine Ext.trans ?_ (by with_reducible assumption))))); have kc2 := F2.2.1; have kf2 := F2.2.2; have kz2 := F2.size; have kt2 := F2.sizes; (try simp [Nat.add_one_le_iff] at kz2); (try have ky2 := Nat.le_of_lt kz2)) | (go_at_call 11; (with_reducible refine (right_no _ _ _ _ HO.out).mono ?_); rintro e w3 ⟨rfl, E3⟩; have hc3 := E3.2.1; have hf3 := E3.2.2; have hz3 := E3.size; have ht3 := E3.sizes; (try simp [Nat.add_one_le_iff] at hz3); (try have hy3 := Nat.le_of_lt hz3); have F3 : Ext (wr.alloc (.cells #[.int .i64 y, .int .i64 m, .int .i64 d] 26)) w3 := (by (repeat (first | with_reducible exact Ext.refl _ | with_reducible assumption | exact Ext.mk (by with_reducible assumption) | with_reducible refine Ext.alloc ?_ _ | with_reducible refine Ext.drewN ?_ _ | with_reducible refine Ext.drew ?_ | with_reducible refine Ext.setCell ?_ (by first | (simp; done) | assumption | (simp; omega)) _ | (with_reducible refine Ext.trans ?_ (by with_reducible assumption))))); have kc3 := F3.2.1; have kf3 := F3.2.2; have kz3 := F3.size; have kt3 := F3.sizes; (try simp [Nat.add_one_le_iff] at kz3); (try have ky3 := Nat.le_of_lt kz3)))
          (first | exact ⟨⟨k + 1, by omega, by go_num, by (repeat (first | with_reducible exact Ext.refl _ | with_reducible assumption | exact Ext.mk (by with_reducible assumption) | with_reducible refine Ext.alloc ?_ _ | with_reducible refine Ext.drewN ?_ _ | with_reducible refine Ext.drew ?_ | with_reducible refine Ext.setCell ?_ (by first | (simp; done) | assumption | (simp; omega)) _ | (with_reducible refine Ext.trans ?_ (by with_reducible assumption))))⟩, by simp [intOf]; omega⟩ | (refine ⟨?_, by simp [intOf]; omega⟩; (repeat apply Exists.intro); exact ⟨⟨k + 1, by omega, by go_num, by (repeat (first | with_reducible exact Ext.refl _ | with_reducible assumption | exact Ext.mk (by with_reducible assumption) | with_reducible refine Ext.alloc ?_ _ | with_reducible refine Ext.drewN ?_ _ | with_reducible refine Ext.drew ?_ | with_reducible refine Ext.setCell ?_ (by first | (simp; done) | assumption | (simp; omega)) _ | (with_reducible refine Ext.trans ?_ (by with_reducible assumption))))⟩, rfl⟩))
        · have HO := Lib.hid ho
          clear ho
          go_wp2_with (first | (go_at_call 10; (with_reducible refine (of_yes _ _ _ _ (hL.ext (by (repeat (first | with_reducible exact Ext.refl _ | with_reducible assumption | exact Ext.mk (by with_reducible assumption) | with_reducible refine Ext.alloc ?_ _ | with_reducible refine Ext.drewN ?_ _ | with_reducible refine Ext.drew ?_ | with_reducible refine Ext.setCell ?_ (by first | (simp; done) | assumption | (simp; omega)) _ | (with_reducible refine Ext.trans ?_ (by with_reducible assumption)))))) HO.out).mono ?_); rintro e w2 ⟨rfl, E2⟩; have hc2 := E2.2.1; have hf2 := E2.2.2; have hz2 := E2.size; have ht2 := E2.sizes; (try simp [Nat.add_one_le_iff] at hz2); (try have hy2 := Nat.le_of_lt hz2); have F2 : Ext (wr.alloc (.cells #[.int .i64 y, .int .i64 m, .int .i64 d] 26)) w2 := (by (repeat (first | with_reducible exact Ext.refl _ | with_reducible assumption | exact Ext.mk (by with_reducible assumption) | with_reducible refine Ext.alloc ?_ _ | with_reducible refine Ext.drewN ?_ _ | with_reducible refine Ext.drew ?_ | with_reducible refine Ext.setCell ?_ (by first | (simp; done) | assumption | (simp; omega)) _ | (with_reducible refine Ext.trans ?_ (by with_reducible assumption))))); have kc2 := F2.2.1; have kf2 := F2.2.2; have kz2 := F2.size; have kt2 := F2.sizes; (try simp [Nat.add_one_le_iff] at kz2); (try have ky2 := Nat.le_of_lt kz2)) | (go_at_call 11; (with_reducible refine (right_yes _ _ _ _ HO.out).mono ?_); rintro e w3 ⟨rfl, E3⟩; have hc3 := E3.2.1; have hf3 := E3.2.2; have hz3 := E3.size; have ht3 := E3.sizes; (try simp [Nat.add_one_le_iff] at hz3); (try have hy3 := Nat.le_of_lt hz3); have F3 : Ext (wr.alloc (.cells #[.int .i64 y, .int .i64 m, .int .i64 d] 26)) w3 := (by (repeat (first | with_reducible exact Ext.refl _ | with_reducible assumption | exact Ext.mk (by with_reducible assumption) | with_reducible refine Ext.alloc ?_ _ | with_reducible refine Ext.drewN ?_ _ | with_reducible refine Ext.drew ?_ | with_reducible refine Ext.setCell ?_ (by first | (simp; done) | assumption | (simp; omega)) _ | (with_reducible refine Ext.trans ?_ (by with_reducible assumption))))); have kc3 := F3.2.1; have kf3 := F3.2.2; have kz3 := F3.size; have kt3 := F3.sizes; (try simp [Nat.add_one_le_iff] at kz3); (try have ky3 := Nat.le_of_lt kz3)) | (go_at_call 12; (with_reducible refine (refOf_any _ _ _ _ HO.out).mono ?_); rintro e w4 ⟨rfl, E4⟩; have hc4 := E4.2.1; have hf4 := E4.2.2; have hz4 := E4.size; have ht4 := E4.sizes; (try simp [Nat.add_one_le_iff] at hz4); (try have hy4 := Nat.le_of_lt hz4); have F4 : Ext (wr.alloc (.cells #[.int .i64 y, .int .i64 m, .int .i64 d] 26)) w4 := (by (repeat (first | with_reducible exact Ext.refl _ | with_reducible assumption | exact Ext.mk (by with_reducible assumption) | with_reducible refine Ext.alloc ?_ _ | with_reducible refine Ext.drewN ?_ _ | with_reducible refine Ext.drew ?_ | with_reducible refine Ext.setCell ?_ (by first | (simp; done) | assumption | (simp; omega)) _ | (with_reducible refine Ext.trans ?_ (by with_reducible assumption))))); have kc4 := F4.2.1; have kf4 := F4.2.2; have kz4 := F4.size; have kt4 := F4.sizes; (try simp [Nat.add_one_le_iff] at kz4); (try have ky4 := Nat.le_of_lt kz4)))
          (first | exact ⟨⟨k + 1, by omega, by go_num, by (repeat (first | with_reducible exact Ext.refl _ | with_reducible assumption | exact Ext.mk (by with_reducible assumption) | with_reducible refine Ext.alloc ?_ _ | with_reducible refine Ext.drewN ?_ _ | with_reducible refine Ext.drew ?_ | with_reducible refine Ext.setCell ?_ (by first | (simp; done) | assumption | (simp; omega)) _ | (with_reducible refine Ext.trans ?_ (by with_reducible assumption))))⟩, by simp [intOf]; omega⟩ | (refine ⟨?_, by simp [intOf]; omega⟩; (repeat apply Exists.intro); exact ⟨⟨k + 1, by omega, by go_num, by (repeat (first | with_reducible exact Ext.refl _ | with_reducible assumption | exact Ext.mk (by with_reducible assumption) | with_reducible refine Ext.alloc ?_ _ | with_reducible refine Ext.drewN ?_ _ | with_reducible refine Ext.drew ?_ | with_reducible refine Ext.setCell ?_ (by first | (simp; done) | assumption | (simp; omega)) _ | (with_reducible refine Ext.trans ?_ (by with_reducible assumption))))⟩, rfl⟩))
    · go_wp2
      go_loopw [51] (fun i x => ∃ k : Nat, k ≤ len1 ∧ i = .int .i64 k ∧ Ext w x) (fun i _ => len1 - (intOf i).toNat)
      case atStart => exact ⟨0, by omega, rfl, by (repeat (first | with_reducible exact Ext.refl _ | with_reducible assumption | exact Ext.mk (by with_reducible assumption) | with_reducible refine Ext.alloc ?_ _ | with_reducible refine Ext.drewN ?_ _ | with_reducible refine Ext.drew ?_ | with_reducible refine Ext.setCell ?_ (by first | (simp; done) | assumption | (simp; omega)) _ | (with_reducible refine Ext.trans ?_ (by with_reducible assumption))))⟩
      case round =>
        clear F0 kc0 kz0
        obtain ⟨k, hk, rfl, F0⟩ := hrel
        have kc0 := F0.2.1
        have kz0 := F0.size
        by_cases hlt : k < len1
        · obtain ⟨b, off, rfl, hb, hcs⟩ : ∃ b off, a1 = some ⟨b, off, none⟩ ∧ b < w.heap.size ∧ ∀ i, i < len1 → ∃ n, I64 n ∧ w.cell? ⟨b, off + i, none⟩ = some (.int .i64 n) := by
            rcases G1.out with h | h
            · omega
            · exact h
          obtain ⟨n, hn, c0⟩ := hcs k hlt
          clear hcs
          by_cases h6 : k = 6
          · have h6' : ((k : Int) == 6) = true := by simp; omega
            clear h6
            go_wp2
            go_ret
            refine ⟨rfl, ?_⟩
            (repeat (first | with_reducible exact Ext.refl _ | with_reducible assumption | exact Ext.mk (by with_reducible assumption) | with_reducible refine Ext.alloc ?_ _ | with_reducible refine Ext.drewN ?_ _ | with_reducible refine Ext.drew ?_ | with_reducible refine Ext.setCell ?_ (by first | (simp; done) | assumption | (simp; omega)) _ | (with_reducible refine Ext.trans ?_ (by with_reducible assumption))))
          · have h6' : ((k : Int) == 6) = false := by simp; omega
            cases hd : dayB n
            · have HD := Lib.hid hd
              clear hd
              go_wp2_with (first | (go_at_call 13; (with_reducible refine (at_no n _ HD.out).mono ?_); rintro e w5 ⟨rfl, E5⟩; have hc5 := E5.2.1; have hf5 := E5.2.2; have hz5 := E5.size; have ht5 := E5.sizes; (try simp [Nat.add_one_le_iff] at hz5); (try have hy5 := Nat.le_of_lt hz5); have F5 : Ext wr w5 := (by (repeat (first | with_reducible exact Ext.refl _ | with_reducible assumption | exact Ext.mk (by with_reducible assumption) | with_reducible refine Ext.alloc ?_ _ | with_reducible refine Ext.drewN ?_ _ | with_reducible refine Ext.drew ?_ | with_reducible refine Ext.setCell ?_ (by first | (simp; done) | assumption | (simp; omega)) _ | (with_reducible refine Ext.trans ?_ (by with_reducible assumption))))); have kc5 := F5.2.1; have kf5 := F5.2.2; have kz5 := F5.size; have kt5 := F5.sizes; (try simp [Nat.add_one_le_iff] at kz5); (try have ky5 := Nat.le_of_lt kz5)) | (go_at_call 14; (with_reducible refine (weekday_no _ _ HD.out).mono ?_); rintro e w6 ⟨rfl, rfl⟩) | (go_at_call 15; (with_reducible refine (refDay_no _ _ HD.out).mono ?_); rintro e w7 ⟨rfl, rfl⟩))
              (first | exact ⟨⟨k + 1, by omega, by go_num, by (repeat (first | with_reducible exact Ext.refl _ | with_reducible assumption | exact Ext.mk (by with_reducible assumption) | with_reducible refine Ext.alloc ?_ _ | with_reducible refine Ext.drewN ?_ _ | with_reducible refine Ext.drew ?_ | with_reducible refine Ext.setCell ?_ (by first | (simp; done) | assumption | (simp; omega)) _ | (with_reducible refine Ext.trans ?_ (by with_reducible assumption))))⟩, by simp [intOf]; omega⟩ | (refine ⟨?_, by simp [intOf]; omega⟩; (repeat apply Exists.intro); exact ⟨⟨k + 1, by omega, by go_num, by (repeat (first | with_reducible exact Ext.refl _ | with_reducible assumption | exact Ext.mk (by with_reducible assumption) | with_reducible refine Ext.alloc ?_ _ | with_reducible refine Ext.drewN ?_ _ | with_reducible refine Ext.drew ?_ | with_reducible refine Ext.setCell ?_ (by first | (simp; done) | assumption | (simp; omega)) _ | (with_reducible refine Ext.trans ?_ (by with_reducible assumption))))⟩, rfl⟩))
            · have HD := Lib.hid hd
              clear hd
              go_wp2_with (first | (go_at_call 13; (with_reducible refine (at_yes n _ HD.out).mono ?_); rintro e w5 ⟨rfl, E5⟩; have hc5 := E5.2.1; have hf5 := E5.2.2; have hz5 := E5.size; have ht5 := E5.sizes; (try simp [Nat.add_one_le_iff] at hz5); (try have hy5 := Nat.le_of_lt hz5); have F5 : Ext wr w5 := (by (repeat (first | with_reducible exact Ext.refl _ | with_reducible assumption | exact Ext.mk (by with_reducible assumption) | with_reducible refine Ext.alloc ?_ _ | with_reducible refine Ext.drewN ?_ _ | with_reducible refine Ext.drew ?_ | with_reducible refine Ext.setCell ?_ (by first | (simp; done) | assumption | (simp; omega)) _ | (with_reducible refine Ext.trans ?_ (by with_reducible assumption))))); have kc5 := F5.2.1; have kf5 := F5.2.2; have kz5 := F5.size; have kt5 := F5.sizes; (try simp [Nat.add_one_le_iff] at kz5); (try have ky5 := Nat.le_of_lt kz5)) | (go_at_call 14; (with_reducible refine (weekday_yes _ _ HD.out).mono ?_); rintro e w6 ⟨rfl, rfl⟩) | (go_at_call 15; (with_reducible refine (refDay_yes _ _ HD.out).mono ?_); rintro e w7 ⟨rfl, rfl⟩))
              refine wp_region_ext (by kernel_rfl) (by kernel_rfl) ?_
              repeat (go_big_quiet_step ((first | (go_at_call 16; exact Calls.ext_of (refAt_any _ _ HD.out)) | (go_at_call 17; exact Calls.ext_of_keep (refWeekday_day _ _ HD.out)))))
              refine wpQuiet_nil ?_
              rintro w8 E8
              go_wp2
              (first | exact ⟨⟨k + 1, by omega, by go_num, by (repeat (first | with_reducible exact Ext.refl _ | with_reducible assumption | exact Ext.mk (by with_reducible assumption) | with_reducible refine Ext.alloc ?_ _ | with_reducible refine Ext.drewN ?_ _ | with_reducible refine Ext.drew ?_ | with_reducible refine Ext.setCell ?_ (by first | (simp; done) | assumption | (simp; omega)) _ | (with_reducible refine Ext.trans ?_ (by with_reducible assumption))))⟩, by simp [intOf]; omega⟩ | (refine ⟨?_, by simp [intOf]; omega⟩; (repeat apply Exists.intro); exact ⟨⟨k + 1, by omega, by go_num, by (repeat (first | with_reducible exact Ext.refl _ | with_reducible assumption | exact Ext.mk (by with_reducible assumption) | with_reducible refine Ext.alloc ?_ _ | with_reducible refine Ext.drewN ?_ _ | with_reducible refine Ext.drew ?_ | with_reducible refine Ext.setCell ?_ (by first | (simp; done) | assumption | (simp; omega)) _ | (with_reducible refine Ext.trans ?_ (by with_reducible assumption))))⟩, rfl⟩))
        · go_wp2
          go_ret
          refine ⟨rfl, ?_⟩
          (repeat (first | with_reducible exact Ext.refl _ | with_reducible assumption | exact Ext.mk (by with_reducible assumption) | with_reducible refine Ext.alloc ?_ _ | with_reducible refine Ext.drewN ?_ _ | with_reducible refine Ext.drew ?_ | with_reducible refine Ext.setCell ?_ (by first | (simp; done) | assumption | (simp; omega)) _ | (with_reducible refine Ext.trans ?_ (by with_reducible assumption))))
