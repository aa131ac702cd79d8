import Derived.Test.YtkhmkenankdakabDoorDaysL
namespace Go.Proofs.YtkhmkenankdakabDoor
open Go Go.RowKit
set_option linter.unusedSimpArgs false
set_option linter.unusedVariables false

/-- an int that fits -/
def I64 (n : Int) : Prop := -9223372036854775808 ≤ n ∧ n ≤ 9223372036854775807

theorem cell_lt {w : World} {a : Addr} {v : Value} (h : w.cell? a = some v) : a.block < w.heap.size := by
  rcases Nat.lt_or_ge a.block w.heap.size with k | k
  · exact k
  · simp [World.cell?, Array.getElem?_eq_none k] at h

theorem add_plain {b off n : Nat} : (⟨b, off, none⟩ : Addr).add n = ⟨b, off + n, none⟩ := by
  unfold Addr.add; split <;> simp_all

/-- a slice that came in: its elements' cells -/
theorem slice_of {w : World} {n : Nat} {e : Sh} {a : Option Addr} {len cap : Nat} (h : Sh.fits w (.slice (n + 1) e) [.slice a len cap]) :
    len ≤ cap ∧ cap ≤ maxLen ∧ (len = 0 ∨ ∃ b off, a = some ⟨b, off, none⟩ ∧ b < w.heap.size ∧ ∀ i, i < len → ∃ cs', cs'.length = n + 1 ∧ (∀ j, j < n + 1 → w.cell? ⟨b, off + (i * (n + 1) + j), none⟩ = cs'[j]?) ∧ e.fits w cs') := by
  rcases h with h | ⟨x, l, c, h, h1, h2, h3⟩
  · simp at h; obtain ⟨rfl, rfl, rfl⟩ := h
    exact ⟨Nat.le_refl _, by simp [maxLen], .inl rfl⟩
  · simp at h; obtain ⟨rfl, rfl, rfl⟩ := h
    refine ⟨h1, h2, ?_⟩
    by_cases h0 : len = 0
    · exact .inl h0
    · obtain ⟨b, off, spot⟩ := x
      obtain ⟨cs', c1, c2, c3⟩ := h3 0 (by omega)
      have c20 := c2 0 (by omega)
      have hx : ∃ v, cs'[0]? = some v := ⟨cs'[0]'(by omega), by simp⟩
      obtain ⟨v, hv⟩ := hx
      rw [hv] at c20
      have hsp : spot = none := by simpa [Addr.add] using World.cell?_spot c20
      subst hsp
      have hb := cell_lt c20
      refine .inr ⟨b, off, rfl, by simpa [add_plain] using hb, fun i hi => ?_⟩
      obtain ⟨cs', c1, c2, c3⟩ := h3 i hi
      exact ⟨cs', c1, fun j hj => by rw [← c2 j hj, add_plain], c3⟩

abbrev dateSh : Sh := .field 0 1 (.int .i64) (.field 1 1 (.int .i64) (.field 2 1 (.int .i64) (.stop 3)))

theorem ints_of {w : World} {a : Option Addr} {len cap : Nat} (h : Sh.fits w (.slice 1 (.int .i64)) [.slice a len cap]) :
    len ≤ maxLen ∧ (len = 0 ∨ ∃ b off, a = some ⟨b, off, none⟩ ∧ b < w.heap.size ∧ ∀ i, i < len → ∃ n, I64 n ∧ w.cell? ⟨b, off + i, none⟩ = some (.int .i64 n)) := by
  obtain ⟨h1, h2, h3⟩ := slice_of h
  refine ⟨by omega, h3.imp id ?_⟩
  rintro ⟨b, off, h4, h5, h6⟩
  refine ⟨b, off, h4, h5, fun i hi => ?_⟩
  obtain ⟨cs', c1, c2, n, rfl, wf⟩ := h6 i hi
  have := c2 0 (by omega)
  exact ⟨n, i64_range wf, by simpa using this⟩

theorem dates_of {w : World} {a : Option Addr} {len cap : Nat} (h : Sh.fits w (.slice 3 dateSh) [.slice a len cap]) :
    len ≤ maxLen ∧ (len = 0 ∨ ∃ b off, a = some ⟨b, off, none⟩ ∧ b < w.heap.size ∧ ∀ i, i < len → ∃ y m d, I64 y ∧ I64 m ∧ I64 d ∧ w.cell? ⟨b, off + i * 3, none⟩ = some (.int .i64 y) ∧ w.cell? ⟨b, off + i * 3 + 1, none⟩ = some (.int .i64 m) ∧ w.cell? ⟨b, off + i * 3 + 2, none⟩ = some (.int .i64 d)) := by
  obtain ⟨h1, h2, h3⟩ := slice_of h
  refine ⟨by omega, h3.imp id ?_⟩
  rintro ⟨b, off, h4, h5, h6⟩
  refine ⟨b, off, h4, h5, fun i hi => ?_⟩
  obtain ⟨cs', c1, c2, c3⟩ := h6 i hi
  obtain ⟨y, m, d, e, hy, hm, hd⟩ := date_of (c := cs'.toArray) (by simpa using c3)
  have e' : cs' = [.int .i64 y, .int .i64 m, .int .i64 d] := by simpa using congrArg Array.toList e
  subst e'
  refine ⟨y, m, d, hy, hm, hd, by simpa using c2 0 (by omega), by simpa [Nat.add_assoc] using c2 1 (by omega), by simpa [Nat.add_assoc] using c2 2 (by omega)⟩

theorem right_yes (y m d : Int) (w : World) (h : Cal.okd y m d = true) : Calls Tryd.prog 42 #[.agg #[.int .i64 y, .int .i64 m, .int .i64 d]] w fun e w' => e = .returned (.bool true) ∧ Ext w w' := by
  have k := right_any y m d w; rw [h] at k; exact k

theorem right_no (y m d : Int) (w : World) (h : Cal.okd y m d = false) : Calls Tryd.prog 42 #[.agg #[.int .i64 y, .int .i64 m, .int .i64 d]] w fun e w' => e = .returned (.bool false) ∧ Ext w w' := by
  have k := right_any y m d w; rw [h] at k; exact k

theorem refWeekday_day (n : Int) (w : World) (h : dayB n = true) : Calls Tryd.prog 39 #[.int .i64 n] w fun e w' => e = .returned (.int .i64 ((n + 4) % 7)) ∧ w = w' :=
  refWeekday_any n w (dayB_true h).1 (dayB_true h).2