/- Blanks put two for one. -/
import Derived.Test.YtjbpihalfaclkaaGreatDoorPn
import Derived.Lib.Replace
import Derived.Lib.SplitLaws
namespace Go.Proofs.YtjbpihalfaclkaaGreatDoor
open Go Go.B
set_option linter.unusedSimpArgs false
set_option linter.unusedVariables false
set_option linter.unusedSectionVars false
set_option maxRecDepth 20000

theorem rep_cons {b : UInt8} (hb : b ≠ 32) (r : List UInt8) (n : Nat) (hn : n = r.count 32) : Lib.replaceK [32] [32, 32] n (b :: r) = b :: Lib.replaceK [32] [32, 32] n r := by
  cases n with
  | zero => rfl
  | succ k =>
    obtain ⟨i, hi⟩ := Lib.index_of_count (s := r) (old := [32]) (by rw [Lib.count_one]; omega)
    have hp : ([32] : List UInt8).isPrefixOf (b :: r) = false := by simp [List.isPrefixOf, Ne.symm hb]
    have hix : Lib.index (b :: r) [32] = ((i + 1 : Nat) : Int) := by
      rw [Lib.index, hp, hi]
      simp
      try omega
    rw [Lib.replaceK_hit _ _ _ _ _ hix, Lib.replaceK_hit _ _ _ _ _ hi]
    simp

theorem repK_dbl : ∀ (l : List UInt8) (n : Nat), n = l.count 32 → Lib.replaceK [32] [32, 32] n l = dblB l
  | [], n, h => by simp at h; subst h; rfl
  | b :: l, n, h => by
    have e : dblB (b :: l) = (if b = 32 then [32, 32] else [b]) ++ dblB l := by simp [dblB]
    rw [e]
    by_cases hb : b = 32
    · subst hb
      rw [List.count_cons_self] at h
      subst h
      have hix : Lib.index (32 :: l) [32] = ((0 : Nat) : Int) := by rw [Lib.index]; simp [List.isPrefixOf]
      rw [Lib.replaceK_hit _ _ _ _ _ hix, if_pos rfl]
      simp
      exact repK_dbl l _ rfl
    · rw [List.count_cons_of_ne (by simpa using hb)] at h
      rw [if_neg hb, rep_cons hb l n h, repK_dbl l n h]
      rfl

theorem rep_dbl (l : List UInt8) : Lib.replaceAll l [32] [32, 32] = dblB l := by
  unfold Lib.replaceAll Lib.replace
  rw [if_neg (by decide)]
  have : Lib.replaceNum l [32] (-1) = l.count 32 := by
    unfold Lib.replaceNum
    rw [if_pos (Or.inl (by decide)), Lib.count_one]
  rw [this]
  exact repK_dbl l _ rfl

theorem dblB_len (l : List UInt8) : (dblB l).length ≤ 2 * l.length := by
  induction l with
  | nil => simp [dblB]
  | cons b l ih =>
    have e : dblB (b :: l) = (if b = 32 then [32, 32] else [b]) ++ dblB l := by simp [dblB]
    rw [e, List.length_append]
    split <;> simp <;> omega

theorem textC_count {c : Cron} (hc : c.in) (hok : c.ok = true) : (textC c).count 32 = 4 := by
  obtain ⟨h0, h1, h2, h3, h4⟩ := hc
  unfold Cron.ok at hok
  simp only [Bool.and_eq_true] at hok
  obtain ⟨⟨⟨⟨e0, e1⟩, e2⟩, e3⟩, e4⟩ := hok
  have get : ∀ {k : Nat} {x : Int}, k < 5 → U64 x → okF k x = true → (textO k x.toNat).count 32 = 0 := by
    intro k x hk hx h
    exact List.count_eq_zero_of_not_mem fun hm => (text_two hk hx h).2.2.1 32 hm rfl
  unfold textC
  rw [join5]
  simp only [List.count_append, List.count_cons_self, get (by decide) h0 e0, get (by decide) h1 e1, get (by decide) h2 e2, get (by decide) h3 e3, get (by decide) h4 e4, List.cons_append, List.append_assoc]
  try rfl
end Go.Proofs.YtjbpihalfaclkaaGreatDoor
