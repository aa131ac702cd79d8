/- Walks of package times and its reference: times and civil times. -/
import Derived.Test.YtkhmkenankdakabDoorDaysQ
namespace Go.Proofs.YtkhmkenankdakabDoor
open Go Go.RowKit
set_option linter.unusedSimpArgs false
set_option linter.unusedVariables false

/-- is it a time? -/
def timeB (t : Int) : Bool := decide (0 ≤ t) && decide (t ≤ 253402300799)

theorem timeB_true {n : Int} (h : timeB n = true) : 0 ≤ n ∧ n ≤ 253402300799 := by simpa [timeB] using h

theorem timeB_false {n : Int} (h : timeB n = false) : ¬ (0 ≤ n ∧ n ≤ 253402300799) := by simp [timeB] at h; omega

/-- hours, minutes and seconds that may be -/
def hmsB (a b c : Int) : Bool := decide (0 ≤ a ∧ a < 24 ∧ 0 ≤ b ∧ b < 60 ∧ 0 ≤ c ∧ c < 60)

theorem hmsB_iff {a b c : Int} : hmsB a b c = true ↔ 0 ≤ a ∧ a < 24 ∧ 0 ≤ b ∧ b < 60 ∧ 0 ≤ c ∧ c < 60 := by simp [hmsB]

theorem hmsB_no {a b c : Int} (h : ¬ (0 ≤ a ∧ a < 24 ∧ 0 ≤ b ∧ b < 60 ∧ 0 ≤ c ∧ c < 60)) : hmsB a b c = false := by simp only [hmsB]; exact decide_eq_false h

/-- may a civil time be? -/
def okc (y m d a b c : Int) : Bool := Cal.okd y m d && hmsB a b c

/-- a civil time's time -/
def tim (y m d a b c : Int) : Int := Cal.num y m d * 86400 + a * 3600 + b * 60 + c

theorem okc_true {y m d a b c : Int} (h : okc y m d a b c = true) : Cal.okd y m d = true ∧ hmsB a b c = true := by simpa [okc] using h

theorem tim_bd {y m d a b c : Int} (h : okc y m d a b c = true) : 0 ≤ tim y m d a b c ∧ tim y m d a b c ≤ 253402300799 := by
  obtain ⟨h1, h2⟩ := okc_true h
  have := Cal.num_bd h1
  have := hmsB_iff.mp h2
  unfold tim; omega

theorem tim_day {y m d a b c : Int} (h : okc y m d a b c = true) : tim y m d a b c / 86400 = Cal.num y m d ∧ tim y m d a b c % 86400 = a * 3600 + b * 60 + c := by
  obtain ⟨h1, h2⟩ := okc_true h
  have := Cal.num_bd h1
  have := hmsB_iff.mp h2
  unfold tim; omega

theorem tim_hms {y m d a b c : Int} (h : okc y m d a b c = true) : tim y m d a b c % 86400 / 3600 = a ∧ tim y m d a b c % 86400 % 3600 / 60 = b ∧ tim y m d a b c % 86400 % 60 = c := by
  obtain ⟨h1, h2⟩ := okc_true h
  have := hmsB_iff.mp h2
  have e := (tim_day h).2
  rw [e]; omega

theorem may_yes (t : Int) (w : World) (h : timeB t = true) : Calls Tryd.prog 12 #[.int .i64 t] w fun e w' => e = .returned (.bool true) ∧ w = w' := by
  obtain ⟨h1, h2⟩ := timeB_true h
  clear h
  go_enter Tryd.func12, Tryd.ntmps12
  go_wp2
  go_ret
  exact ⟨ret_bool (by simp; try omega), rfl⟩

theorem may_no (t : Int) (w : World) (h : timeB t = false) : Calls Tryd.prog 12 #[.int .i64 t] w fun e w' => e = .returned (.bool false) ∧ w = w' := by
  have h' := timeB_false h
  clear h
  by_cases h1 : 0 ≤ t
  · have h2 : ¬ t ≤ 253402300799 := by omega
    clear h'
    go_enter Tryd.func12, Tryd.ntmps12
    go_wp2
    go_ret
    exact ⟨ret_bool (by simp; try omega), rfl⟩
  · clear h'
    go_enter Tryd.func12, Tryd.ntmps12
    go_wp2
    go_ret
    exact ⟨ret_bool (by simp; try omega), rfl⟩

set_option maxHeartbeats 1000000 in
theorem within_any (k : Nat) (a b c : Int) (T : TypeId) (fr : Nat × Nat) (w : World) (h : w.heap[k]? = some (.cells #[.int .i64 a, .int .i64 24, .int .i64 b, .int .i64 60, .int .i64 c, .int .i64 60] T fr)) :
    Calls Tryd.prog 41 #[.slice (some ⟨k, 0, none⟩) 3 3] w fun e w' => e = .returned (.bool (hmsB a b c)) ∧ Ext w w' := by
  have q0 : w.cell? ⟨k, 0, none⟩ = some (.int .i64 a) := by rw [cell_of_block h]; rfl
  have q1 : w.cell? ⟨k, 1, none⟩ = some (.int .i64 24) := by rw [cell_of_block h]; rfl
  have q2 : w.cell? ⟨k, 2, none⟩ = some (.int .i64 b) := by rw [cell_of_block h]; rfl
  have q3 : w.cell? ⟨k, 3, none⟩ = some (.int .i64 60) := by rw [cell_of_block h]; rfl
  have q4 : w.cell? ⟨k, 4, none⟩ = some (.int .i64 c) := by rw [cell_of_block h]; rfl
  have q5 : w.cell? ⟨k, 5, none⟩ = some (.int .i64 60) := by rw [cell_of_block h]; rfl
  have hk := cell_lt q0
  simp only at hk
  clear h
  by_cases a1 : a < 0
  · have hd : Hid (hmsB a b c = false) := hmsB_no (by omega)
    go_enter Tryd.func41, Tryd.ntmps41
    go_wp2
    refine wp_loop_unroll 5 (Unr.step ?_)
    go_wp2
    go_ret
    exact ⟨ret_bool hd.out.symm, by (repeat (first | with_reducible exact Ext.refl _ | with_reducible assumption | exact Ext.mk (by with_reducible assumption) | with_reducible refine Ext.alloc ?_ _ | with_reducible refine Ext.drewN ?_ _ | with_reducible refine Ext.drew ?_ | with_reducible refine Ext.setCell ?_ (by first | (simp; done) | assumption | (simp; omega)) _ | (with_reducible refine Ext.trans ?_ (by with_reducible assumption))))⟩
  by_cases a2 : 24 ≤ a
  · have hd : Hid (hmsB a b c = false) := hmsB_no (by omega)
    go_enter Tryd.func41, Tryd.ntmps41
    go_wp2
    refine wp_loop_unroll 5 (Unr.step ?_)
    go_wp2
    go_ret
    exact ⟨ret_bool hd.out.symm, by (repeat (first | with_reducible exact Ext.refl _ | with_reducible assumption | exact Ext.mk (by with_reducible assumption) | with_reducible refine Ext.alloc ?_ _ | with_reducible refine Ext.drewN ?_ _ | with_reducible refine Ext.drew ?_ | with_reducible refine Ext.setCell ?_ (by first | (simp; done) | assumption | (simp; omega)) _ | (with_reducible refine Ext.trans ?_ (by with_reducible assumption))))⟩
  by_cases b1 : b < 0
  · have hd : Hid (hmsB a b c = false) := hmsB_no (by omega)
    go_enter Tryd.func41, Tryd.ntmps41
    go_wp2
    refine wp_loop_unroll 5 (Unr.step ?_)
    go_wp2
    refine Unr.step ?_
    go_wp2
    go_ret
    exact ⟨ret_bool hd.out.symm, by (repeat (first | with_reducible exact Ext.refl _ | with_reducible assumption | exact Ext.mk (by with_reducible assumption) | with_reducible refine Ext.alloc ?_ _ | with_reducible refine Ext.drewN ?_ _ | with_reducible refine Ext.drew ?_ | with_reducible refine Ext.setCell ?_ (by first | (simp; done) | assumption | (simp; omega)) _ | (with_reducible refine Ext.trans ?_ (by with_reducible assumption))))⟩
  by_cases b2 : 60 ≤ b
  · have hd : Hid (hmsB a b c = false) := hmsB_no (by omega)
    go_enter Tryd.func41, Tryd.ntmps41
    go_wp2
    refine wp_loop_unroll 5 (Unr.step ?_)
    go_wp2
    refine Unr.step ?_
    go_wp2
    go_ret
    exact ⟨ret_bool hd.out.symm, by (repeat (first | with_reducible exact Ext.refl _ | with_reducible assumption | exact Ext.mk (by with_reducible assumption) | with_reducible refine Ext.alloc ?_ _ | with_reducible refine Ext.drewN ?_ _ | with_reducible refine Ext.drew ?_ | with_reducible refine Ext.setCell ?_ (by first | (simp; done) | assumption | (simp; omega)) _ | (with_reducible refine Ext.trans ?_ (by with_reducible assumption))))⟩
  by_cases c1 : c < 0
  · have hd : Hid (hmsB a b c = false) := hmsB_no (by omega)
    go_enter Tryd.func41, Tryd.ntmps41
    go_wp2
    refine wp_loop_unroll 5 (Unr.step ?_)
    go_wp2
    refine Unr.step ?_
    go_wp2
    refine Unr.step ?_
    go_wp2
    go_ret
    exact ⟨ret_bool hd.out.symm, by (repeat (first | with_reducible exact Ext.refl _ | with_reducible assumption | exact Ext.mk (by with_reducible assumption) | with_reducible refine Ext.alloc ?_ _ | with_reducible refine Ext.drewN ?_ _ | with_reducible refine Ext.drew ?_ | with_reducible refine Ext.setCell ?_ (by first | (simp; done) | assumption | (simp; omega)) _ | (with_reducible refine Ext.trans ?_ (by with_reducible assumption))))⟩
  by_cases c2 : 60 ≤ c
  · have hd : Hid (hmsB a b c = false) := hmsB_no (by omega)
    go_enter Tryd.func41, Tryd.ntmps41
    go_wp2
    refine wp_loop_unroll 5 (Unr.step ?_)
    go_wp2
    refine Unr.step ?_
    go_wp2
    refine Unr.step ?_
    go_wp2
    go_ret
    exact ⟨ret_bool hd.out.symm, by (repeat (first | with_reducible exact Ext.refl _ | with_reducible assumption | exact Ext.mk (by with_reducible assumption) | with_reducible refine Ext.alloc ?_ _ | with_reducible refine Ext.drewN ?_ _ | with_reducible refine Ext.drew ?_ | with_reducible refine Ext.setCell ?_ (by first | (simp; done) | assumption | (simp; omega)) _ | (with_reducible refine Ext.trans ?_ (by with_reducible assumption))))⟩
  have hd : Hid (hmsB a b c = true) := hmsB_iff.mpr (by omega)
  go_enter Tryd.func41, Tryd.ntmps41
  go_wp2
  refine wp_loop_unroll 5 (Unr.step ?_)
  go_wp2
  refine Unr.step ?_
  go_wp2
  refine Unr.step ?_
  go_wp2
  refine Unr.step ?_
  go_wp2
  go_ret
  exact ⟨ret_bool hd.out.symm, by (repeat (first | with_reducible exact Ext.refl _ | with_reducible assumption | exact Ext.mk (by with_reducible assumption) | with_reducible refine Ext.alloc ?_ _ | with_reducible refine Ext.drewN ?_ _ | with_reducible refine Ext.drew ?_ | with_reducible refine Ext.setCell ?_ (by first | (simp; done) | assumption | (simp; omega)) _ | (with_reducible refine Ext.trans ?_ (by with_reducible assumption))))⟩
