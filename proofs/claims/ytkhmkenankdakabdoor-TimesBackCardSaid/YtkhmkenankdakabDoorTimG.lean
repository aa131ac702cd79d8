/- The law TimesGoes, walked. -/
import Derived.Test.YtkhmkenankdakabDoorTimF
namespace Go.Proofs.YtkhmkenankdakabDoor
open Go Go.RowKit
set_option linter.unusedSimpArgs false
set_option linter.unusedVariables false

abbrev pairSh : Sh := .field 0 1 (.int .i64) (.field 1 1 (.int .i64) (.stop 2))

theorem pairs_of {w : World} {a : Option Addr} {len cap : Nat} (h : Sh.fits w (.slice 2 pairSh) [.slice a len cap]) :
    len ≤ maxLen ∧ (len = 0 ∨ ∃ b off, a = some ⟨b, off, none⟩ ∧ b < w.heap.size ∧ ∀ i, i < len → ∃ x y, I64 x ∧ I64 y ∧ w.cell? ⟨b, off + i * 2, none⟩ = some (.int .i64 x) ∧ w.cell? ⟨b, off + i * 2 + 1, none⟩ = some (.int .i64 y)) := by
  obtain ⟨h1, h2, h3⟩ := slice_of h
  refine ⟨by omega, h3.imp id ?_⟩
  rintro ⟨b, off, h4, h5, h6⟩
  refine ⟨b, off, h4, h5, fun i hi => ?_⟩
  obtain ⟨cs', c1, c2, ⟨x, g1, w1⟩, ⟨y, g2, w2⟩, g3⟩ := h6 i hi
  match cs', c1 with
  | [a, b], _ =>
    simp at g1 g2
    subst g1; subst g2
    exact ⟨x, y, i64_range w1, i64_range w2, by simpa using c2 0 (by omega), by simpa [Nat.add_assoc] using c2 1 (by omega)⟩

set_option maxHeartbeats 2000000 in
set_option maxRecDepth 100000 in
theorem walk_TimesGoes (a0 : Option Addr) (len0 cap0 : Nat) (w : World) (f0 : Sh.fits w (.slice 2 pairSh) [.slice a0 len0 cap0]) (hL : DaysLaid w) :
    Calls Tryd.prog 6 #[.slice a0 len0 cap0] w fun e w' => e = .returned (.bool true) ∧ Ext w w' := by
  obtain ⟨l1, g1⟩ := pairs_of f0
  unfold maxLen at l1
  clear f0
  have G1 := Lib.hid g1
  clear g1
  go_enter Tryd.func6, Tryd.ntmps6
  go_wp2_with (go_at_call 9; (with_reducible refine (timesWakes _ hL).mono ?_); rintro e w1 ⟨rfl, E1⟩; have hc1 := E1.2.1; have hf1 := E1.2.2; have hz1 := E1.size; have ht1 := E1.sizes; (try simp [Nat.add_one_le_iff] at hz1); (try have hy1 := Nat.le_of_lt hz1))
  go_loopw [16] (fun i x => ∃ k : Nat, k ≤ len0 ∧ i = .int .i64 k ∧ Ext w x) (fun i _ => len0 - (intOf i).toNat)
  case atStart => exact ⟨0, by omega, rfl, by (repeat (first | with_reducible exact Ext.refl _ | with_reducible assumption | exact Ext.mk (by with_reducible assumption) | with_reducible refine Ext.alloc ?_ _ | with_reducible refine Ext.drewN ?_ _ | with_reducible refine Ext.drew ?_ | with_reducible refine Ext.setCell ?_ (by first | (simp; done) | assumption | (simp; omega)) _ | (with_reducible refine Ext.trans ?_ (by with_reducible assumption))))⟩
  case round =>
    clear hc1 hf1 hz1 ht1 E1
    obtain ⟨k, hk, rfl, F0⟩ := hrel
    have kc0 := F0.2.1
    have kz0 := F0.size
    (try simp [Nat.add_one_le_iff] at kz0)
    by_cases hlt : k < len0
    · obtain ⟨b, off, rfl, hb, hcs⟩ : ∃ b off, a0 = some ⟨b, off, none⟩ ∧ b < w.heap.size ∧ ∀ i, i < len0 → ∃ x y, I64 x ∧ I64 y ∧ w.cell? ⟨b, off + i * 2, none⟩ = some (.int .i64 x) ∧ w.cell? ⟨b, off + i * 2 + 1, none⟩ = some (.int .i64 y) := by
        rcases G1.out with h | h
        · omega
        · exact h
      obtain ⟨t, n, ft, fn, c0, c1⟩ := hcs k hlt
      clear hcs
      by_cases h6 : k = 30
      · have h6' : ((k : Int) == 30) = true := by simp; omega
        clear h6
        go_wp2
        go_ret
        refine ⟨rfl, ?_⟩
        (repeat (first | with_reducible exact Ext.refl _ | with_reducible assumption | exact Ext.mk (by with_reducible assumption) | with_reducible refine Ext.alloc ?_ _ | with_reducible refine Ext.drewN ?_ _ | with_reducible refine Ext.drew ?_ | with_reducible refine Ext.setCell ?_ (by first | (simp; done) | assumption | (simp; omega)) _ | (with_reducible refine Ext.trans ?_ (by with_reducible assumption))))
      · have h6' : ((k : Int) == 30) = false := by simp; omega
        clear h6
        obtain ⟨fn1, fn2⟩ := fn
        cases hT : timeB t
        · have C : Hid (∀ w, Calls Tryd.prog 14 #[.int .i64 t, .int .i64 n] w fun e w' => e = .returned (.tuple #[.int .i64 0, .int .i64 2]) ∧ w = w') := fun w => tmFloor_no t n w (.inl hT)
          have HA : Hid (addT t n = false) := by show _ = _; simp [addT, hT]
          have HT := Lib.hid hT
          clear hT
          go_wp2_with fail
          go_quiet (fail)
          go_wp2_with (first | (go_at_call 11; (with_reducible refine (tmAdd_yes _ _ _ HA.out).mono ?_); rintro e w2 ⟨rfl, rfl⟩) | (go_at_call 11; (with_reducible refine (tmAdd_no _ _ _ HA.out ⟨fn1, fn2⟩).mono ?_); rintro e w2 ⟨rfl, rfl⟩) | (go_at_call 24; (with_reducible refine (refAdd_yes _ _ _ HA.out).mono ?_); rintro e w3 ⟨rfl, rfl⟩) | (go_at_call 24; (with_reducible refine (refAdd_no _ _ _ HA.out).mono ?_); rintro e w3 ⟨rfl, rfl⟩) | (go_at_call 13; (with_reducible refine (tmRead_any _ _ _).mono ?_); rintro e w4 ⟨rfl, rfl⟩) | (go_at_call 25; (with_reducible refine (refRead_any _ _ _).mono ?_); rintro e w5 ⟨rfl, rfl⟩) | (go_at_call 15; (with_reducible refine (refTime_yes _ _ HT.out).mono ?_); rintro e w6 ⟨rfl, rfl⟩) | (go_at_call 15; (with_reducible refine (refTime_no _ _ HT.out).mono ?_); rintro e w6 ⟨rfl, rfl⟩) | (go_at_call 14; (with_reducible refine (C.out _).mono ?_); rintro e w7 ⟨rfl, rfl⟩))
          (first | exact ⟨⟨k + 1, by omega, by go_num, by (repeat (first | with_reducible exact Ext.refl _ | with_reducible assumption | exact Ext.mk (by with_reducible assumption) | with_reducible refine Ext.alloc ?_ _ | with_reducible refine Ext.drewN ?_ _ | with_reducible refine Ext.drew ?_ | with_reducible refine Ext.setCell ?_ (by first | (simp; done) | assumption | (simp; omega)) _ | (with_reducible refine Ext.trans ?_ (by with_reducible assumption))))⟩, by simp [intOf]; omega⟩ | (refine ⟨?_, by simp [intOf]; omega⟩; (repeat apply Exists.intro); exact ⟨⟨k + 1, by omega, by go_num, by (repeat (first | with_reducible exact Ext.refl _ | with_reducible assumption | exact Ext.mk (by with_reducible assumption) | with_reducible refine Ext.alloc ?_ _ | with_reducible refine Ext.drewN ?_ _ | with_reducible refine Ext.drew ?_ | with_reducible refine Ext.setCell ?_ (by first | (simp; done) | assumption | (simp; omega)) _ | (with_reducible refine Ext.trans ?_ (by with_reducible assumption))))⟩, rfl⟩))
        · have t0 := timeB_true hT
          by_cases hN : n < 1
          · have C : Hid (∀ w, Calls Tryd.prog 14 #[.int .i64 t, .int .i64 n] w fun e w' => e = .returned (.tuple #[.int .i64 0, .int .i64 2]) ∧ w = w') := fun w => tmFloor_no t n w (.inr hN)
            have HT := Lib.hid hT
            have dN := dt hN
            clear hT
            cases hA : addT t n
            · have HA := Lib.hid hA
              clear hA
              go_wp2_with fail
              go_quiet (fail)
              go_wp2_with (first | (go_at_call 11; (with_reducible refine (tmAdd_yes _ _ _ HA.out).mono ?_); rintro e w2 ⟨rfl, rfl⟩) | (go_at_call 11; (with_reducible refine (tmAdd_no _ _ _ HA.out ⟨fn1, fn2⟩).mono ?_); rintro e w2 ⟨rfl, rfl⟩) | (go_at_call 24; (with_reducible refine (refAdd_yes _ _ _ HA.out).mono ?_); rintro e w3 ⟨rfl, rfl⟩) | (go_at_call 24; (with_reducible refine (refAdd_no _ _ _ HA.out).mono ?_); rintro e w3 ⟨rfl, rfl⟩) | (go_at_call 13; (with_reducible refine (tmRead_any _ _ _).mono ?_); rintro e w4 ⟨rfl, rfl⟩) | (go_at_call 25; (with_reducible refine (refRead_any _ _ _).mono ?_); rintro e w5 ⟨rfl, rfl⟩) | (go_at_call 15; (with_reducible refine (refTime_yes _ _ HT.out).mono ?_); rintro e w6 ⟨rfl, rfl⟩) | (go_at_call 15; (with_reducible refine (refTime_no _ _ HT.out).mono ?_); rintro e w6 ⟨rfl, rfl⟩) | (go_at_call 14; (with_reducible refine (C.out _).mono ?_); rintro e w7 ⟨rfl, rfl⟩))
              (first | exact ⟨⟨k + 1, by omega, by go_num, by (repeat (first | with_reducible exact Ext.refl _ | with_reducible assumption | exact Ext.mk (by with_reducible assumption) | with_reducible refine Ext.alloc ?_ _ | with_reducible refine Ext.drewN ?_ _ | with_reducible refine Ext.drew ?_ | with_reducible refine Ext.setCell ?_ (by first | (simp; done) | assumption | (simp; omega)) _ | (with_reducible refine Ext.trans ?_ (by with_reducible assumption))))⟩, by simp [intOf]; omega⟩ | (refine ⟨?_, by simp [intOf]; omega⟩; (repeat apply Exists.intro); exact ⟨⟨k + 1, by omega, by go_num, by (repeat (first | with_reducible exact Ext.refl _ | with_reducible assumption | exact Ext.mk (by with_reducible assumption) | with_reducible refine Ext.alloc ?_ _ | with_reducible refine Ext.drewN ?_ _ | with_reducible refine Ext.drew ?_ | with_reducible refine Ext.setCell ?_ (by first | (simp; done) | assumption | (simp; omega)) _ | (with_reducible refine Ext.trans ?_ (by with_reducible assumption))))⟩, rfl⟩))
            · have HA := Lib.hid hA
              clear hA
              go_wp2_with fail
              go_quiet (fail)
              go_wp2_with (first | (go_at_call 11; (with_reducible refine (tmAdd_yes _ _ _ HA.out).mono ?_); rintro e w2 ⟨rfl, rfl⟩) | (go_at_call 11; (with_reducible refine (tmAdd_no _ _ _ HA.out ⟨fn1, fn2⟩).mono ?_); rintro e w2 ⟨rfl, rfl⟩) | (go_at_call 24; (with_reducible refine (refAdd_yes _ _ _ HA.out).mono ?_); rintro e w3 ⟨rfl, rfl⟩) | (go_at_call 24; (with_reducible refine (refAdd_no _ _ _ HA.out).mono ?_); rintro e w3 ⟨rfl, rfl⟩) | (go_at_call 13; (with_reducible refine (tmRead_any _ _ _).mono ?_); rintro e w4 ⟨rfl, rfl⟩) | (go_at_call 25; (with_reducible refine (refRead_any _ _ _).mono ?_); rintro e w5 ⟨rfl, rfl⟩) | (go_at_call 15; (with_reducible refine (refTime_yes _ _ HT.out).mono ?_); rintro e w6 ⟨rfl, rfl⟩) | (go_at_call 15; (with_reducible refine (refTime_no _ _ HT.out).mono ?_); rintro e w6 ⟨rfl, rfl⟩) | (go_at_call 14; (with_reducible refine (C.out _).mono ?_); rintro e w7 ⟨rfl, rfl⟩))
              (first | exact ⟨⟨k + 1, by omega, by go_num, by (repeat (first | with_reducible exact Ext.refl _ | with_reducible assumption | exact Ext.mk (by with_reducible assumption) | with_reducible refine Ext.alloc ?_ _ | with_reducible refine Ext.drewN ?_ _ | with_reducible refine Ext.drew ?_ | with_reducible refine Ext.setCell ?_ (by first | (simp; done) | assumption | (simp; omega)) _ | (with_reducible refine Ext.trans ?_ (by with_reducible assumption))))⟩, by simp [intOf]; omega⟩ | (refine ⟨?_, by simp [intOf]; omega⟩; (repeat apply Exists.intro); exact ⟨⟨k + 1, by omega, by go_num, by (repeat (first | with_reducible exact Ext.refl _ | with_reducible assumption | exact Ext.mk (by with_reducible assumption) | with_reducible refine Ext.alloc ?_ _ | with_reducible refine Ext.drewN ?_ _ | with_reducible refine Ext.drew ?_ | with_reducible refine Ext.setCell ?_ (by first | (simp; done) | assumption | (simp; omega)) _ | (with_reducible refine Ext.trans ?_ (by with_reducible assumption))))⟩, rfl⟩))
          · obtain ⟨q, hq⟩ : ∃ q, t / n = q := ⟨_, rfl⟩
            obtain ⟨f, hff⟩ : ∃ f, t - t % n = f := ⟨_, rfl⟩
            have C : Hid (∀ w, Calls Tryd.prog 14 #[.int .i64 t, .int .i64 n] w fun e w' => e = .returned (.tuple #[.int .i64 f, .int .i64 0]) ∧ w = w') := fun w => by have k := tmFloor_yes t n w hT (by omega); rw [hff] at k; exact k
            have q0 : 0 ≤ q := by rw [← hq]; exact Int.ediv_nonneg t0.1 (by omega)
            have q1 : q ≤ 253402300799 := by
              rw [← hq]
              have := Int.ediv_le_self n t0.1
              omega
            have q2 : q * n = f := by
              rw [← hff, ← hq]
              have := Int.mul_ediv_add_emod t n
              rw [Int.mul_comm]; omega
            have q3 : 0 ≤ t % n := Int.emod_nonneg t (by omega)
            have q5 : t % n < n := Int.emod_lt_of_pos t (by omega)
            have q6 : 0 ≤ f := by rw [← q2]; exact Int.mul_nonneg q0 (by omega)
            have q4 : t.tdiv n = q := by rw [Int.tdiv_eq_ediv_of_nonneg t0.1, hq]
            have e1 : wrap64 q = q := by unfold wrap64; omega
            have e2 : wrap64 f = f := by unfold wrap64; omega
            have HT := Lib.hid hT
            have dN := df hN
            have nz : n ≠ 0 := by omega
            clear hT hq hff q3 q5
            cases hA : addT t n
            · have HA := Lib.hid hA
              clear hA
              go_wp2_with fail
              go_quiet (fail)
              go_wp2_with (first | (go_at_call 11; (with_reducible refine (tmAdd_yes _ _ _ HA.out).mono ?_); rintro e w2 ⟨rfl, rfl⟩) | (go_at_call 11; (with_reducible refine (tmAdd_no _ _ _ HA.out ⟨fn1, fn2⟩).mono ?_); rintro e w2 ⟨rfl, rfl⟩) | (go_at_call 24; (with_reducible refine (refAdd_yes _ _ _ HA.out).mono ?_); rintro e w3 ⟨rfl, rfl⟩) | (go_at_call 24; (with_reducible refine (refAdd_no _ _ _ HA.out).mono ?_); rintro e w3 ⟨rfl, rfl⟩) | (go_at_call 13; (with_reducible refine (tmRead_any _ _ _).mono ?_); rintro e w4 ⟨rfl, rfl⟩) | (go_at_call 25; (with_reducible refine (refRead_any _ _ _).mono ?_); rintro e w5 ⟨rfl, rfl⟩) | (go_at_call 15; (with_reducible refine (refTime_yes _ _ HT.out).mono ?_); rintro e w6 ⟨rfl, rfl⟩) | (go_at_call 15; (with_reducible refine (refTime_no _ _ HT.out).mono ?_); rintro e w6 ⟨rfl, rfl⟩) | (go_at_call 14; (with_reducible refine (C.out _).mono ?_); rintro e w7 ⟨rfl, rfl⟩))
              (first | exact ⟨⟨k + 1, by omega, by go_num, by (repeat (first | with_reducible exact Ext.refl _ | with_reducible assumption | exact Ext.mk (by with_reducible assumption) | with_reducible refine Ext.alloc ?_ _ | with_reducible refine Ext.drewN ?_ _ | with_reducible refine Ext.drew ?_ | with_reducible refine Ext.setCell ?_ (by first | (simp; done) | assumption | (simp; omega)) _ | (with_reducible refine Ext.trans ?_ (by with_reducible assumption))))⟩, by simp [intOf]; omega⟩ | (refine ⟨?_, by simp [intOf]; omega⟩; (repeat apply Exists.intro); exact ⟨⟨k + 1, by omega, by go_num, by (repeat (first | with_reducible exact Ext.refl _ | with_reducible assumption | exact Ext.mk (by with_reducible assumption) | with_reducible refine Ext.alloc ?_ _ | with_reducible refine Ext.drewN ?_ _ | with_reducible refine Ext.drew ?_ | with_reducible refine Ext.setCell ?_ (by first | (simp; done) | assumption | (simp; omega)) _ | (with_reducible refine Ext.trans ?_ (by with_reducible assumption))))⟩, rfl⟩))
            · have HA := Lib.hid hA
              clear hA
              go_wp2_with fail
              go_quiet (fail)
              go_wp2_with (first | (go_at_call 11; (with_reducible refine (tmAdd_yes _ _ _ HA.out).mono ?_); rintro e w2 ⟨rfl, rfl⟩) | (go_at_call 11; (with_reducible refine (tmAdd_no _ _ _ HA.out ⟨fn1, fn2⟩).mono ?_); rintro e w2 ⟨rfl, rfl⟩) | (go_at_call 24; (with_reducible refine (refAdd_yes _ _ _ HA.out).mono ?_); rintro e w3 ⟨rfl, rfl⟩) | (go_at_call 24; (with_reducible refine (refAdd_no _ _ _ HA.out).mono ?_); rintro e w3 ⟨rfl, rfl⟩) | (go_at_call 13; (with_reducible refine (tmRead_any _ _ _).mono ?_); rintro e w4 ⟨rfl, rfl⟩) | (go_at_call 25; (with_reducible refine (refRead_any _ _ _).mono ?_); rintro e w5 ⟨rfl, rfl⟩) | (go_at_call 15; (with_reducible refine (refTime_yes _ _ HT.out).mono ?_); rintro e w6 ⟨rfl, rfl⟩) | (go_at_call 15; (with_reducible refine (refTime_no _ _ HT.out).mono ?_); rintro e w6 ⟨rfl, rfl⟩) | (go_at_call 14; (with_reducible refine (C.out _).mono ?_); rintro e w7 ⟨rfl, rfl⟩))
              (first | exact ⟨⟨k + 1, by omega, by go_num, by (repeat (first | with_reducible exact Ext.refl _ | with_reducible assumption | exact Ext.mk (by with_reducible assumption) | with_reducible refine Ext.alloc ?_ _ | with_reducible refine Ext.drewN ?_ _ | with_reducible refine Ext.drew ?_ | with_reducible refine Ext.setCell ?_ (by first | (simp; done) | assumption | (simp; omega)) _ | (with_reducible refine Ext.trans ?_ (by with_reducible assumption))))⟩, by simp [intOf]; omega⟩ | (refine ⟨?_, by simp [intOf]; omega⟩; (repeat apply Exists.intro); exact ⟨⟨k + 1, by omega, by go_num, by (repeat (first | with_reducible exact Ext.refl _ | with_reducible assumption | exact Ext.mk (by with_reducible assumption) | with_reducible refine Ext.alloc ?_ _ | with_reducible refine Ext.drewN ?_ _ | with_reducible refine Ext.drew ?_ | with_reducible refine Ext.setCell ?_ (by first | (simp; done) | assumption | (simp; omega)) _ | (with_reducible refine Ext.trans ?_ (by with_reducible assumption))))⟩, rfl⟩))
    · go_wp2
      go_ret
      refine ⟨rfl, ?_⟩
      (repeat (first | with_reducible exact Ext.refl _ | with_reducible assumption | exact Ext.mk (by with_reducible assumption) | with_reducible refine Ext.alloc ?_ _ | with_reducible refine Ext.drewN ?_ _ | with_reducible refine Ext.drew ?_ | with_reducible refine Ext.setCell ?_ (by first | (simp; done) | assumption | (simp; omega)) _ | (with_reducible refine Ext.trans ?_ (by with_reducible assumption))))
end Go.Proofs.YtkhmkenankdakabDoor
