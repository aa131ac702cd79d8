/- The contracts of days and times as plain functions. -/
import Derived.Test.YtkhmkenankdakabDoorTimQ
namespace Go.Proofs.YtkhmkenankdakabDoor
open Go Go.RowKit
set_option linter.unusedSimpArgs false
set_option linter.unusedVariables false

noncomputable def atY (t : Int) : Int := cond (timeB t) (Cal.dat (t / 86400)).1 0

noncomputable def atM (t : Int) : Int := cond (timeB t) (Cal.dat (t / 86400)).2.1 0

noncomputable def atD (t : Int) : Int := cond (timeB t) (Cal.dat (t / 86400)).2.2 0

noncomputable def atA (t : Int) : Int := cond (timeB t) (t % 86400 / 3600) 0

noncomputable def atB (t : Int) : Int := cond (timeB t) (t % 3600 / 60) 0

noncomputable def atC (t : Int) : Int := cond (timeB t) (t % 60) 0

noncomputable def eTime (t : Int) : Int := cond (timeB t) 0 2

theorem at_hand (t : Int) (w : World) : Calls Tryd.prog 16 #[.int .i64 t] w fun e w' => e = .returned (.tuple #[.agg #[.int .i64 (atY t), .int .i64 (atM t), .int .i64 (atD t), .int .i64 (atA t), .int .i64 (atB t), .int .i64 (atC t)], .int .i64 (eTime t)]) ∧ Ext w w' := by
  cases h : timeB t
  · have k := cvAt_no t w h; simpa only [atY, atM, atD, atA, atB, atC, eTime, h, cond_false] using k
  · have k := cvAt_yes t (Cal.dat (t / 86400)).1 (Cal.dat (t / 86400)).2.1 (Cal.dat (t / 86400)).2.2 w h rfl; simpa only [atY, atM, atD, atA, atB, atC, eTime, h, cond_true] using k

noncomputable def ofT (y m d a b c : Int) : Int := cond (okc y m d a b c) (tim y m d a b c) 0

noncomputable def eOfT (y m d a b c : Int) : Int := cond (okc y m d a b c) 0 150

theorem of_hand (y m d a b c : Int) (w : World) (hL : DaysLaid w) : Calls Tryd.prog 20 #[.agg #[.int .i64 y, .int .i64 m, .int .i64 d, .int .i64 a, .int .i64 b, .int .i64 c]] w fun e w' => e = .returned (.tuple #[.int .i64 (ofT y m d a b c), .int .i64 (eOfT y m d a b c)]) ∧ Ext w w' := by
  cases h : okc y m d a b c
  · have k := cvOf_no y m d a b c w hL h; simpa only [ofT, eOfT, h, cond_false] using k
  · have k := cvOf_yes y m d a b c w hL h; simpa only [ofT, eOfT, h, cond_true] using k

noncomputable def textT (t : Int) : ByteArray := cond (timeB t) ⟨(txtT t).toArray⟩ ⟨#[]⟩

theorem text_hand (t : Int) (w : World) : Calls Tryd.prog 10 #[.int .i64 t] w fun e w' => e = .returned (.tuple #[.string (textT t), .int .i64 (eTime t)]) ∧ Ext w w' := by
  cases h : timeB t
  · have k := text_no t w h; simpa only [textT, eTime, h, cond_false] using k
  · have k := text_yes' t w h; simpa only [textT, eTime, h, cond_true] using k

/-- is a text a time's? -/
def pokB (s : ByteArray) : Bool := decide (s.size = 19 ∧ pat s.data.toList 19 = true ∧ okc (nm s.data.toList 19 0) (nm s.data.toList 19 1) (nm s.data.toList 19 2) (nm s.data.toList 19 3) (nm s.data.toList 19 4) (nm s.data.toList 19 5) = true)

noncomputable def parT (s : ByteArray) : Int := cond (pokB s) (tim (nm s.data.toList 19 0) (nm s.data.toList 19 1) (nm s.data.toList 19 2) (nm s.data.toList 19 3) (nm s.data.toList 19 4) (nm s.data.toList 19 5)) 0

noncomputable def eParT (s : ByteArray) : Int := cond (pokB s) 0 151

theorem parse_hand (s : ByteArray) (w : World) (hL : DaysLaid w) (hs : decide (s.size ≤ maxLen) = true) : Calls Tryd.prog 27 #[.string s] w fun e w' => e = .returned (.tuple #[.int .i64 (parT s), .int .i64 (eParT s)]) ∧ Ext w w' := by
  refine (parse_any s w hL (of_decide_eq_true hs)).mono ?_
  rintro e w' ⟨h1, h2⟩
  refine ⟨?_, h2⟩
  split at h1
  · rename_i h
    rw [h1]
    simp only [parT, eParT, pokB, decide_eq_true h, cond_true]
  · rename_i h
    rw [h1]
    simp only [parT, eParT, pokB, decide_eq_false h, cond_false]

noncomputable def ofD (y m d : Int) : Int := cond (Cal.okd y m d) (Cal.num y m d) 0

noncomputable def eOfD (y m d : Int) : Int := cond (Cal.okd y m d) 0 140

theorem ofD_hand (y m d : Int) (w : World) (hL : DaysLaid w) : Calls Tryd.prog 29 #[.agg #[.int .i64 y, .int .i64 m, .int .i64 d]] w fun e w' => e = .returned (.tuple #[.int .i64 (ofD y m d), .int .i64 (eOfD y m d)]) ∧ Ext w w' := by
  cases h : Cal.okd y m d
  · have k := of_no y m d w hL h; simpa only [ofD, eOfD, h, cond_false] using k
  · have k := of_yes y m d w hL h; simpa only [ofD, eOfD, h, cond_true] using k

noncomputable def wdD (n : Int) : Int := cond (dayB n) ((n + 4) % 7) 0

noncomputable def eDay (n : Int) : Int := cond (dayB n) 0 2

theorem wdD_hand (n : Int) (w : World) : Calls Tryd.prog 30 #[.int .i64 n] w fun e w' => e = .returned (.tuple #[.int .i64 (wdD n), .int .i64 (eDay n)]) ∧ Ext w w' := by
  cases h : dayB n
  · have k := weekday_no n w h
    refine k.mono ?_
    rintro e w' ⟨rfl, rfl⟩
    exact ⟨by simp only [wdD, eDay, h, cond_false], Ext.refl _⟩
  · have k := weekday_yes n w h
    refine k.mono ?_
    rintro e w' ⟨rfl, rfl⟩
    exact ⟨by simp only [wdD, eDay, h, cond_true], Ext.refl _⟩

noncomputable def wdT (t : Int) : Int := cond (timeB t) ((t / 86400 + 4) % 7) 0

theorem wdT_hand (t : Int) (w : World) : Calls Tryd.prog 17 #[.int .i64 t] w fun e w' => e = .returned (.tuple #[.int .i64 (wdT t), .int .i64 (eTime t)]) ∧ Ext w w' := by
  cases h : timeB t
  · have k := tmWeekday_no t w h
    refine k.mono ?_
    rintro e w' ⟨rfl, rfl⟩
    exact ⟨by simp only [wdT, eTime, h, cond_false], Ext.refl _⟩
  · have k := tmWeekday_yes t w h
    refine k.mono ?_
    rintro e w' ⟨rfl, rfl⟩
    exact ⟨by simp only [wdT, eTime, h, cond_true], Ext.refl _⟩

theorem may_hand (t : Int) (w : World) : Calls Tryd.prog 12 #[.int .i64 t] w fun e w' => e = .returned (.bool (timeB t)) ∧ Ext w w' := by
  cases h : timeB t
  · refine (may_no t w h).mono ?_
    rintro e w' ⟨rfl, rfl⟩
    exact ⟨rfl, Ext.refl _⟩
  · refine (may_yes t w h).mono ?_
    rintro e w' ⟨rfl, rfl⟩
    exact ⟨rfl, Ext.refl _⟩

/-- what a time's parts tell -/
theorem time_facts {t : Int} (h : timeB t = true) : okc (atY t) (atM t) (atD t) (atA t) (atB t) (atC t) = true ∧ tim (atY t) (atM t) (atD t) (atA t) (atB t) (atC t) = t ∧
    Cal.okd (atY t) (atM t) (atD t) = true ∧ Cal.num (atY t) (atM t) (atD t) = t / 86400 ∧ dayB (t / 86400) = true ∧ pokB (textT t) = true ∧ parT (textT t) = t := by
  obtain ⟨h1, h2⟩ := timeB_true h
  obtain ⟨d1, d2⟩ := dayB_true (time_day h)
  obtain ⟨o1, o2⟩ := Cal.dat_ok _ d1 d2
  have e1 : okc (atY t) (atM t) (atD t) (atA t) (atB t) (atC t) = true := by
    simp only [atY, atM, atD, atA, atB, atC, h, cond_true, okc, o1, Bool.true_and]
    rw [hmsB_iff]
    omega
  have e3 : Cal.okd (atY t) (atM t) (atD t) = true := by simp only [atY, atM, atD, h, cond_true, o1]
  have e4 : Cal.num (atY t) (atM t) (atD t) = t / 86400 := by simp only [atY, atM, atD, h, cond_true, o2]
  have e2 : tim (atY t) (atM t) (atD t) (atA t) (atB t) (atC t) = t := by
    unfold tim
    rw [e4]
    simp only [atA, atB, atC, h, cond_true]
    omega
  obtain ⟨n0, n1, n2, n3, n4, n5, n6, n7⟩ := nm_txt e1
  have ht : (textT t).data.toList = txtC (atY t) (atM t) (atD t) (atA t) (atB t) (atC t) := by
    simp only [textT, h, cond_true, txtT, atY, atM, atD, atA, atB, atC]
  have hs : (textT t).size = 19 := by
    show (textT t).data.size = 19
    rw [← Array.length_toList, ht, n0]
  have e5 : pokB (textT t) = true := by
    unfold pokB
    rw [ht, n2, n3, n4, n5, n6, n7]
    exact decide_eq_true ⟨hs, n1, e1⟩
  refine ⟨e1, e2, e3, e4, time_day h, e5, ?_⟩
  unfold parT
  rw [e5, ht, n2, n3, n4, n5, n6, n7]
  exact e2

theorem civ_facts {y m d a b c : Int} (h : okc y m d a b c = true) : timeB (tim y m d a b c) = true ∧ atY (tim y m d a b c) = y ∧ atM (tim y m d a b c) = m ∧ atD (tim y m d a b c) = d ∧ atA (tim y m d a b c) = a ∧ atB (tim y m d a b c) = b ∧ atC (tim y m d a b c) = c := by
  obtain ⟨d1, d2⟩ := tim_day h
  obtain ⟨h1, h2, h3⟩ := tim_hms h
  obtain ⟨b1, b2⟩ := tim_bd h
  have ht : timeB (tim y m d a b c) = true := by simp [timeB]; omega
  have e := Cal.dat_num (okc_true h).1
  refine ⟨ht, ?_, ?_, ?_, ?_, ?_, ?_⟩ <;> simp only [atY, atM, atD, atA, atB, atC, ht, cond_true, d1, e] <;> omega

theorem text_facts {s : ByteArray} (h : pokB s = true) : timeB (parT s) = true ∧ textT (parT s) = s := by
  have h' := of_decide_eq_true h
  obtain ⟨h1, h2, h3⟩ := h'
  obtain ⟨c1, c2, c3, c4, c5, c6, c7⟩ := civ_facts h3
  have e : parT s = tim (nm s.data.toList 19 0) (nm s.data.toList 19 1) (nm s.data.toList 19 2) (nm s.data.toList 19 3) (nm s.data.toList 19 4) (nm s.data.toList 19 5) := by simp only [parT, h, cond_true]
  rw [← e] at c1 c2 c3 c4 c5 c6 c7
  refine ⟨c1, ?_⟩
  have hl : s.data.toList.length = 19 := by rw [Array.length_toList]; exact h1
  have k := txt_nm hl h2
  have k2 : txtT (parT s) = s.data.toList := by
    rw [← k, ← c2, ← c3, ← c4, ← c5, ← c6, ← c7]
    simp only [txtT, atY, atM, atD, atA, atB, atC, c1, cond_true]
  simp only [textT, c1, cond_true, k2]
end Go.Proofs.YtkhmkenankdakabDoor
