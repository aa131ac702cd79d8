import Derived.Test.YtjbpihalfaclkaaGreatDoorMh
import Derived.Test.YtjbpihalfaclkaaGreatDoorMw
import Derived.Test.YtjbpihalfaclkaaGreatDoorMti
/- Which times a cron has (cron.At). -/
namespace Go.Proofs.YtjbpihalfaclkaaGreatDoor
open Go Go.B
set_option linter.unusedSimpArgs false
set_option linter.unusedVariables false
set_option linter.unusedSectionVars false
set_option maxRecDepth 20000

end Go.Proofs.YtjbpihalfaclkaaGreatDoor
/- No time of a cron lies between what is asked and what is told. -/
namespace Go.Proofs.YtjbpihalfaclkaaGreatDoor
open Go Go.B
set_option linter.unusedSimpArgs false
set_option linter.unusedVariables false
set_option linter.unusedSectionVars false
set_option maxRecDepth 20000

theorem has_mem {m x : Int} : hasB m x = true ↔ x ∈ bitsL m := by
  constructor
  · intro h
    unfold hasB at h
    simp only [Bool.and_eq_true] at h
    obtain ⟨h1, h2⟩ := h
    obtain ⟨h3, h4⟩ := mayB_true h1
    have := lstB_has (p := fun j => Nat.testBit m.toNat j) (i := 64) (j := x.toNat) (by omega) h2
    have e : ((x.toNat : Nat) : Int) = x := by omega
    rw [e] at this
    exact this
  · intro h
    have h1 := bitsL_mem h
    have h2 := lstB_yesmem h
    unfold hasB mayB
    simp only [Bool.and_eq_true]
    exact ⟨by simp; omega, h2⟩

theorem isT_iff {c : Cron} (hok : c.ok = true) {t : Int} (h0 : 0 ≤ t) : isT c t = true ↔ fitD c (t / 86400) = true ∧ t ∈ onL c (t / 86400) := by
  unfold isT
  simp only [Bool.and_eq_true]
  constructor
  · rintro ⟨h1, h2, h3, h4⟩
    refine ⟨h1, ?_⟩
    have h2 := of_decide_eq_true h2
    unfold onL
    refine List.mem_flatMap.mpr ⟨_, has_mem.mp h3, List.mem_map.mpr ⟨_, has_mem.mp h4, ?_⟩⟩
    unfold tm; omega
  · rintro ⟨h1, h2⟩
    obtain ⟨x, hx, y, hy, e⟩ := onL_mem h2
    have a1 := bitsL_mem hx
    have a2 := bitsL_mem hy
    have a3 := ho_le hok hx
    have a4 := mi_le hok hy
    unfold tm at e
    have e1 : t % 86400 / 3600 = x := by omega
    have e2 : t % 86400 % 3600 / 60 = y := by omega
    refine ⟨h1, decide_eq_true (by omega), ?_, ?_⟩
    · rw [e1]; exact has_mem.mpr hx
    · rw [e2]; exact has_mem.mpr hy

theorem time_isT {c : Cron} (hok : c.ok = true) {n t : Int} (hf : fitD c n = true) (ht : t ∈ onL c n) : isT c t = true ∧ mayT t = true ∧ t / 86400 = n := by
  obtain ⟨n0, n1⟩ := fitD_day hf
  obtain ⟨t0, t1⟩ := onL_day hok ht
  have e : t / 86400 = n := by omega
  refine ⟨(isT_iff hok (by omega)).mpr (by rw [e]; exact ⟨hf, ht⟩), by simp [mayT]; omega, e⟩

theorem find_none_of {p : Int → Bool} {l : List Int} (h : l.find? p = none) {x : Int} (hx : x ∈ l) : p x = false := by
  rw [List.find?_eq_none] at h
  have := h x hx
  simpa using this

theorem find_some_first {R : Int → Int → Prop} {p : Int → Bool} {t : Int} : ∀ {l : List Int}, l.Pairwise R → l.find? p = some t → ∀ x ∈ l, p x = true → x = t ∨ R t x
  | [], _, h, _, hx, _ => by cases hx
  | y :: l, hs, h, x, hx, hp => by
    rw [List.find?_cons] at h
    cases hy : p y with
    | true =>
      rw [hy] at h; cases h
      rcases List.mem_cons.mp hx with e | e
      · exact .inl e
      · exact .inr ((List.pairwise_cons.mp hs).1 x e)
    | false =>
      rw [hy] at h
      rcases List.mem_cons.mp hx with e | e
      · subst e; rw [hy] at hp; cases hp
      · exact find_some_first (List.pairwise_cons.mp hs).2 h x e hp

/-- ahead of what is told no time is -/
theorem nextF_tight {c : Cron} {a t x : Int} (h : nextF c a = some t) (x0 : 0 ≤ x) (x1 : a < x) (x2 : x < t) : isT c x = false := by
  cases hx : isT c x
  · rfl
  exfalso
  cases hok : c.ok
  · rw [nextF_no hok] at h; cases h
  obtain ⟨fx, mx⟩ := (isT_iff hok x0).mp hx
  obtain ⟨f0, f1⟩ := fitD_day fx
  rw [nextF_yes hok] at h
  obtain ⟨j, _, j2, h3, h4⟩ := firstI_some h
  rw [nextG_eq] at h3
  split at h3
  · rename_i hf
    have ht := List.mem_of_find?_eq_some h3
    obtain ⟨t0, t1⟩ := onL_day hok ht
    have hd : ofD a ≤ x / 86400 := by unfold ofD; omega
    rcases Int.lt_or_le (x / 86400) (ofD a + j) with k | k
    · have g := h4 (x / 86400 - ofD a).toNat (by omega) (by omega)
      rw [nextG_eq] at g
      have e : ofD a + (((x / 86400 - ofD a).toNat : Nat) : Int) = x / 86400 := by omega
      rw [e, fx, if_pos rfl] at g
      have := find_none_of g mx
      simp at this; omega
    · have e : x / 86400 = ofD a + j := by omega
      rw [← e] at h3
      rcases find_some_first (onL_rising hok _) h3 x mx (by simpa using x1) with r | r <;> omega
  · cases h3

theorem lastF_tight {c : Cron} {a t x : Int} (h : lastF c a = some t) (x0 : t < x) (x1 : x ≤ a) : isT c x = false := by
  cases hx : isT c x
  · rfl
  exfalso
  cases hok : c.ok
  · rw [lastF_no hok] at h; cases h
  rw [lastF_yes hok] at h
  obtain ⟨j, _, j2, h3, h4⟩ := firstI_some h
  rw [lastG_eq] at h3
  split at h3
  · rename_i hf
    have ht := List.mem_of_find?_eq_some h3
    have ht : t ∈ onL c (ofD a - j) := by simpa using ht
    obtain ⟨t0, t1⟩ := onL_day hok ht
    obtain ⟨q0, q1⟩ := fitD_day hf
    obtain ⟨fx, mx⟩ := (isT_iff hok (by omega)).mp hx
    obtain ⟨f0, f1⟩ := fitD_day fx
    have hd : x / 86400 ≤ ofD a := by unfold ofD; omega
    rcases Int.lt_or_le (ofD a - j) (x / 86400) with k | k
    · have g := h4 (ofD a - x / 86400).toNat (by omega) (by omega)
      rw [lastG_eq] at g
      have e : ofD a - (((ofD a - x / 86400).toNat : Nat) : Int) = x / 86400 := by omega
      rw [e, fx, if_pos rfl] at g
      have := find_none_of g (List.mem_reverse.mpr mx)
      simp at this; omega
    · have e : x / 86400 = ofD a - j := by omega
      rw [← e] at h3
      rcases find_some_first (R := fun a b => b < a) (List.pairwise_reverse.mpr (onL_rising hok _)) h3 x (List.mem_reverse.mpr mx) (by simpa using x1) with r | r <;> omega
  · cases h3
end Go.Proofs.YtjbpihalfaclkaaGreatDoor
