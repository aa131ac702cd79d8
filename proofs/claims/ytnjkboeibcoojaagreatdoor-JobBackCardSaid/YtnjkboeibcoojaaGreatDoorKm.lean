/- What the reference makes of masks: the one text of a field. -/
import Derived.Test.YtnjkboeibcoojaaGreatDoorKk
namespace Go.Proofs.YtnjkboeibcoojaaGreatDoor
open Go Go.B
set_option linter.unusedSimpArgs false
set_option linter.unusedVariables false
set_option linter.unusedSectionVars false
set_option maxRecDepth 20000

/-- runs, as far as the first i numbers go -/
def runI (p : Nat → Bool) (i : Nat) (a : Int) : Int × Int := (a, ((min (a.toNat + runLen p 64 a.toNat) i : Nat) : Int) - 1)

def runsI (p : Nat → Bool) (i : Nat) : List (Int × Int) := (lstB (stB p) i).map (runI p i)

theorem last_start (p : Nat → Bool) : ∀ i, 0 < i → p (i - 1) = true → ∃ (l : List Int) (a : Nat), lstB (stB p) i = l ++ [(a : Int)] ∧ a < i ∧ (∀ j : Nat, a ≤ j → j < i → p j = true) ∧ ∀ x ∈ l, x.toNat < a
  | 0, h, _ => absurd h (by omega)
  | i + 1, _, hp => by
    rw [Nat.add_sub_cancel] at hp
    by_cases hs : stB p i = true
    · exact ⟨_, i, lstB_yes hs, by omega, fun j h1 h2 => by rw [show j = i by omega]; exact hp, fun x hx => by have := lstB_mem hx; omega⟩
    · have hs' : stB p i = false := by simpa using hs
      have h0 : 0 < i := by
        rcases Nat.eq_zero_or_pos i with e | e
        · subst e; unfold stB at hs'; rw [hp] at hs'; cases hs'
        · exact e
      have hp1 : p (i - 1) = true := by
        unfold stB at hs'
        rw [hp, decide_eq_true h0] at hs'
        simpa using hs'
      obtain ⟨l, a, h1, h2, h3, h4⟩ := last_start p i h0 hp1
      refine ⟨l, a, by rw [lstB_no hs', h1], by omega, fun j g1 g2 => ?_, h4⟩
      by_cases e : j = i
      · rw [e]; exact hp
      · exact h3 j g1 (by omega)

theorem runLen_ge (p : Nat → Bool) : ∀ (f a i : Nat), a ≤ i → i - a ≤ f → (∀ j, a ≤ j → j < i → p j = true) → i ≤ a + runLen p f a
  | 0, a, i, h1, h2, _ => by omega
  | f + 1, a, i, h1, h2, h => by
    by_cases e : a = i
    · omega
    · unfold runLen
      rw [h a (Nat.le_refl _) (by omega), cond_true]
      have := runLen_ge p f (a + 1) i (by omega) (by omega) (fun j g1 g2 => h j (by omega) g2)
      omega

theorem runsI_no (p : Nat → Bool) (i : Nat) (h : p i = false) : runsI p (i + 1) = runsI p i := by
  have hs : stB p i = false := by unfold stB; rw [h]; rfl
  unfold runsI
  rw [lstB_no hs]
  refine List.map_congr_left fun a ha => ?_
  have hb := lstB_mem ha
  have := runLen_le p 64 a.toNat i (by omega) h
  unfold runI
  congr 3
  omega

theorem runsI_new (p : Nat → Bool) (i : Nat) (h : p i = true) (h0 : 0 < i → p (i - 1) = false) : runsI p (i + 1) = runsI p i ++ [((i : Int), (i : Int))] := by
  have hs : stB p i = true := by
    unfold stB
    rw [h]
    by_cases e : 0 < i
    · rw [h0 e]; simp
    · rw [decide_eq_false e]; rfl
  unfold runsI
  rw [lstB_yes hs, List.map_append, List.map_cons, List.map_nil]
  congr 1
  · refine List.map_congr_left fun a ha => ?_
    have hb := lstB_mem ha
    have hi : 0 < i := by omega
    have := runLen_le p 64 a.toNat (i - 1) (by omega) (h0 hi)
    unfold runI
    congr 3
    omega
  · have := runLen_pos p 63 i h
    have this : 1 ≤ runLen p 64 i := this
    unfold runI
    rw [Int.toNat_natCast, show min (i + runLen p 64 i) (i + 1) = i + 1 by omega]
    congr 2
    omega

theorem runsI_old (p : Nat → Bool) (i : Nat) (hi : i < 64) (h : p i = true) (h0 : 0 < i) (h1 : p (i - 1) = true) : 0 < (runsI p i).length ∧ runsI p (i + 1) = (runsI p i).set ((runsI p i).length - 1) (((runsI p i).getD ((runsI p i).length - 1) (0, 0)).1, (i : Int)) := by
  have hs : stB p i = false := by unfold stB; rw [h1, decide_eq_true h0]; simp
  obtain ⟨l, a, e1, e2, e3, e4⟩ := last_start p i h0 h1
  unfold runsI
  rw [lstB_no hs, e1, List.map_append, List.map_append]
  simp only [List.map_cons, List.map_nil, List.length_append, List.length_map, List.length_singleton, Nat.add_sub_cancel]
  refine ⟨by omega, ?_⟩
  have eset : (l.map (runI p i) ++ [runI p i (a : Int)]).getD l.length (0, 0) = runI p i (a : Int) := by
    rw [List.getD_eq_getElem?_getD, List.getElem?_append_right (by simp)]; simp
  rw [eset, List.set_append_right _ _ (by simp)]
  simp only [List.length_map, Nat.sub_self, List.set_cons_zero]
  congr 1
  · refine List.map_congr_left fun b hb => ?_
    have hbm : b ∈ lstB (stB p) i := by rw [e1]; exact List.mem_append_left _ hb
    have hbb := lstB_mem hbm
    have hab : (a : Int) ∈ lstB (stB p) i := by rw [e1]; simp
    have hst := lstB_yesmem hab
    rw [Int.toNat_natCast] at hst
    have hlt := e4 b hb
    have hpa : p (a - 1) = false := by
      unfold stB at hst
      rw [Bool.and_eq_true, decide_eq_true (show 0 < a by omega)] at hst
      simpa using hst.2
    have := runLen_le p 64 b.toNat (a - 1) (by omega) hpa
    unfold runI
    congr 3
    omega
  · have hall : ∀ j, a ≤ j → j < i + 1 → p j = true := fun j g1 g2 => by
      by_cases e : j = i
      · rw [e]; exact h
      · exact e3 j g1 (by omega)
    have := runLen_ge p 64 a (i + 1) (by omega) (by omega) hall
    unfold runI
    rw [Int.toNat_natCast, show min (a + runLen p 64 a) (i + 1) = i + 1 by omega]
    congr 2
    omega

theorem runsI_all {m : Nat} (hm : m < 9223372036854775808) : runsI (Nat.testBit m) 64 = runsO m := by
  unfold runsI runsO
  refine List.map_congr_left fun a ha => ?_
  have hb := lstB_mem ha
  have h63 : Nat.testBit m 63 = false := Nat.testBit_lt_two_pow (by simpa using hm)
  have := runLen_le (Nat.testBit m) 64 a.toNat 63 (by omega) h63
  unfold runI runF
  rw [show min (a.toNat + runLen (Nat.testBit m) 64 a.toNat) 64 = a.toNat + runLen (Nat.testBit m) 64 a.toNat by omega]
  congr 1
  omega

theorem runsI_len (p : Nat → Bool) (i : Nat) : (runsI p i).length ≤ i := by unfold runsI; rw [List.length_map]; exact lstB_len _ i
end Go.Proofs.YtnjkboeibcoojaaGreatDoor
