/- What the program makes of texts of fields. -/
import Derived.Test.YtjdpkihlgpojkaaGreatDoorKd
namespace Go.Proofs.YtjdpkihlgpojkaaGreatDoor
open Go Go.B
set_option linter.unusedSimpArgs false
set_option linter.unusedVariables false
set_option linter.unusedSectionVars false
set_option maxRecDepth 20000

theorem mask_Span_loop2 {a b s : Nat} (hb : b ≤ 63) (hs : 1 ≤ s) (hs2 : s ≤ 1000) : ∀ (d n : Nat), b - n ≤ d → a ≤ n → n ≤ b → (n - a) % s = 0 → ∃ k, mask_Span_l0 k ((b : Int), (s : Int), ((ofM (spanL a s (n - a + 1)) : Nat) : Int), (n : Int)) ((spanM a b s : Nat) : Int) := by
  have stop : ∀ n : Nat, a ≤ n → n ≤ b → b < n + s → (n - a) % s = 0 → ∃ k, mask_Span_l0 k ((b : Int), (s : Int), ((ofM (spanL a s (n - a + 1)) : Nat) : Int), (n : Int)) ((spanM a b s : Nat) : Int) := fun n h1 h2 h3 h4 => by
    refine ⟨1, br_no (ile_no (by rw [wi (by omega) (by omega)]; omega)) ?_⟩
    unfold spanM
    rw [spanL_next (a : Int) s hs (n - a) (b - a) h4 (by omega) (by omega)]
  intro d
  induction d with
  | zero => intro n h1 h2 h3 h4; exact stop n h2 h3 (by omega) h4
  | succ d ih =>
    intro n h1 h2 h3 h4
    by_cases h5 : n + s ≤ b
    · have hmod : (n + s - a) % s = 0 := by rw [show n + s - a = n - a + s by omega, Nat.add_mod_right]; exact h4
      obtain ⟨k, hk⟩ := ih (n + s) (by omega) (by omega) h5 hmod
      refine ⟨k + 1, br_yes (yes_of (by rw [wi (by omega) (by omega)]; omega)) ?_⟩
      have e3 : IntKind.wrap .i64 ((n : Int) + (s : Int)) = ((n + s : Nat) : Int) := by rw [wi (by omega) (by omega)]; omega
      simp only [e3]
      refine ⟨_, mask_one_fn (by omega) (by omega), ?_⟩
      have hm : ofM (spanL a s (n - a + 1)) < 2 ^ 64 := ofM_lt fun x hx => by obtain ⟨i, q1, q2, q3⟩ := spanL_mem hx; omega
      have e64 : (2 : Nat) ^ 64 = 18446744073709551616 := by decide
      have hp : (2 : Nat) ^ (n + s) < 2 ^ 64 := Nat.pow_lt_pow_right (by omega) (by omega)
      have enew : ofM (spanL a s (n + s - a + 1)) = ofM (spanL a s (n - a + 1)) ||| 2 ^ (n + s) := by
        have e1 : spanL a s (n + s - a + 1) = spanL a s (n + s - a) ++ [(a : Int) + ((n + s - a : Nat) : Int)] := by
          conv => lhs; unfold spanL
          rw [if_pos hmod]
        rw [e1, ofM_snoc]
        have e2 := spanL_next (a : Int) s hs (n - a) (n + s - a - 1) h4 (by omega) (by omega)
        rw [show n + s - a - 1 + 1 = n + s - a by omega] at e2
        rw [e2]
        congr 2
        omega
      have hor := Nat.or_lt_two_pow hm hp
      rw [enew] at hk
      rw [Int.toNat_natCast]
      generalize (2 : Nat) ^ (n + s) = P at *
      generalize ofM (spanL a s (n - a + 1)) = M at *
      rw [or_toNat _ _ ⟨by omega, by omega⟩ ⟨by omega, by omega⟩, Int.toNat_natCast, Int.toNat_natCast, wu (by omega) (by omega)]
      exact hk
    · exact stop n h2 h3 (by omega) h4

theorem may_yes {n : Int} (h1 : 0 ≤ n) (h2 : n ≤ 63) : mask_may_R n true := by
  have := mask_may_fn n
  rwa [show mayB n = true by simp [mayB]; omega] at this

theorem field_span_fn {f t s : Nat} (hf : f ≤ 63) (ht : t ≤ 63) (hs : 1 ≤ s) (hs2 : s ≤ 1000) : field_span_R f t s (if f ≤ t then (((spanM f t s : Nat) : Int), true) else (0, false)) := by
  by_cases h : f ≤ t
  · rw [if_pos h]
    obtain ⟨k, hk⟩ := mask_Span_loop2 (a := f) ht hs hs2 (t - f) f (by omega) (Nat.le_refl _) h (by simp)
    have e1 : ofM (spanL f s (f - f + 1)) = 2 ^ f := by
      rw [Nat.sub_self]
      simp [spanL, ofM]
    rw [e1] at hk
    refine ⟨(((spanM f t s : Nat) : Int), 0), ⟨_, may_yes (by omega) (by omega), br_no rfl ⟨_, may_yes (by omega) (by omega), br_no rfl (br_no (no_of (by omega)) (br_no (no_of (by omega)) ⟨_, mask_one_fn (by omega) (by omega), _, ⟨k, hk⟩, rfl⟩))⟩⟩, rfl⟩
  · rw [if_neg h]
    exact ⟨(0, 2), ⟨_, may_yes (by omega) (by omega), br_no rfl ⟨_, may_yes (by omega) (by omega), br_no rfl (br_yes (yes_of (by omega)) rfl)⟩⟩, rfl⟩

theorem mask_Or2_fn {x y : Nat} (hx : x < 18446744073709551616) (hy : y < 18446744073709551616) : mask_Or_R [(x : Int), (y : Int)] ((x ||| y : Nat) : Int) := by
  have e64 : (2 : Nat) ^ 64 = 18446744073709551616 := by decide
  have hor := Nat.or_lt_two_pow (n := 64) (x := x) (y := y) (by omega) (by omega)
  refine ⟨_, ⟨3, br_yes rfl ⟨rfl, br_yes rfl (br_yes rfl ⟨rfl, br_no rfl (br_no rfl ?_)⟩)⟩⟩, rfl⟩
  show IntKind.wrap .u64 ((BitVec.toNat (BitVec.ofInt (IntKind.bits .u64) (x : Int) ||| BitVec.ofInt (IntKind.bits .u64) (y : Int)) : Nat) : Int) = _
  rw [or_toNat _ _ ⟨by omega, by omega⟩ ⟨by omega, by omega⟩, Int.toNat_natCast, Int.toNat_natCast]
  exact wu (by omega) (by omega)

theorem mask_And_fn {x y : Nat} (hx : x < 18446744073709551616) (hy : y < 18446744073709551616) : mask_And_R (x : Int) (y : Int) ((x &&& y : Nat) : Int) := by
  have hand := Nat.and_le_left (n := x) (m := y)
  refine ⟨_, ⟨3, br_yes (by decide) ⟨by decide, by decide, br_yes (by decide) (br_yes (by decide) ⟨by decide, by decide, br_no (by decide) (br_no (by decide) ?_)⟩)⟩⟩, rfl⟩
  show IntKind.wrap .u64 ((BitVec.toNat (BitVec.ofInt (IntKind.bits .u64) (x : Int) &&& BitVec.ofInt (IntKind.bits .u64) (y : Int)) : Nat) : Int) = _
  rw [and_toNat _ _ ⟨by omega, by omega⟩ ⟨by omega, by omega⟩, Int.toNat_natCast, Int.toNat_natCast]
  exact wu (by omega) (by omega)

theorem mask_Of0 : mask_Of_R [0] (1, 0) :=
  ⟨(1, true), ⟨2, br_yes (by decide) ⟨by decide, _, may_yes (by decide) (by decide), br_no rfl ⟨_, mask_one_fn (by decide) (by decide), br_no (by decide) (by decide)⟩⟩⟩, br_no rfl rfl⟩

/- numbers -/

def numF : List UInt8 → Nat → Int → Option Int
  | [], _, n => some n
  | b :: r, p, n => if dig b = false then none else if 0 < p ∧ n = 0 then none else if 2 < p then none else numF r (p + 1) (10 * n + ((b.toNat : Int) - 48))

theorem numF_good (l : List UInt8) : numF l 0 0 = if good l = true then some (valL l) else none := by
  match l with
  | [] => rfl
  | [a] => 
    cases ha : dig a <;> simp [numF, good, valL, valF, ha]
  | [a, b] =>
    cases ha : dig a <;> cases hb : dig b <;> simp [numF, good, valL, valF, ha, hb]
    have := dig_iff.mp ha
    by_cases h : a = 48
    · subst h; simp
    · have : a.toNat ≠ 48 := fun e => h (by rw [← UInt8.toNat_inj]; exact e)
      simp [h]
      omega
  | [a, b, c] =>
    cases ha : dig a <;> cases hb : dig b <;> cases hc : dig c <;> simp [numF, good, valL, valF, ha, hb, hc]
    have h1 := dig_iff.mp ha
    have h2 := dig_iff.mp hb
    by_cases h : a = 48
    · subst h; simp
    · have : a.toNat ≠ 48 := fun e => h (by rw [← UInt8.toNat_inj]; exact e)
      simp [h]
      omega
  | a :: b :: c :: d :: r =>
    have : good (a :: b :: c :: d :: r) = false := by simp [good]
    rw [this]
    unfold numF
    split
    · rfl
    · split
      · rfl
      · split
        · rfl
        · unfold numF
          split
          · rfl
          · split
            · rfl
            · split
              · rfl
              · unfold numF
                split
                · rfl
                · split
                  · rfl
                  · split
                    · rfl
                    · unfold numF
                      split
                      · rfl
                      · split
                        · rfl
                        · rw [if_pos (by omega)]; rfl

theorem number_loop (lo hi : Int) (s : ByteArray) (hs : s.size ≤ 1000000) : ∀ (d p : Nat) (n : Int), p + d = s.size → 0 ≤ n → n < 10 ^ (min p 3) → ∃ k, field_number_l0 k (lo, hi, s, p, n) (match numF ((bl s).drop p) p n with | none => Sum.inl () | some v => Sum.inr v)
  | 0, p, n, h, h0, h1 => by
    refine ⟨1, br_no (no_of (by omega)) ?_⟩
    rw [List.drop_eq_nil_of_le (by rw [bl_len]; omega)]
    rfl
  | d + 1, p, n, h, h0, h1 => by
    have hp : p < s.size := by omega
    rw [drop_bl hp]
    obtain ⟨b, hb⟩ : ∃ b, (bl s).getD p 0 = b := ⟨_, rfl⟩
    have dlo : b.toNat < 128 → Utf8.decode s p = (b.toNat, 1) := fun q => by rw [← hb]; exact dec_lo hp (by rw [hb]; exact q)
    have dhi : 128 ≤ b.toNat → 128 ≤ (Utf8.decode s p).1 := fun q => dec_hi hp (by rw [hb]; exact q)
    rw [hb]
    unfold numF
    cases hd : dig b
    · rw [if_pos rfl]
      by_cases h2 : b.toNat < 48
      · exact ⟨1, br_yes (yes_of hp) (br_yes (by rw [dlo (by omega)]; exact yes_of (by show (b.toNat : Int) < 48; omega)) rfl)⟩
      · have h3 : 57 < (Utf8.decode s p).1 := by
          rcases Nat.lt_or_ge b.toNat 128 with q | q
          · rw [dlo q]
            have : ¬ (48 ≤ b.toNat ∧ b.toNat ≤ 57) := fun e => by rw [dig_iff.mpr e] at hd; cases hd
            show 57 < b.toNat
            omega
          · have := dhi q; omega
        exact ⟨1, br_yes (yes_of hp) (br_no (no_of (by omega)) (br_yes (yes_of (by omega)) rfl))⟩
    · have hb2 := dig_iff.mp hd
      rw [if_neg (by simp)]
      have hdec := dlo (by omega)
      have hw : IntKind.wrap .i64 (IntKind.wrap .i64 (10 * n) + IntKind.wrap .i64 (IntKind.wrap .i32 (((b.toNat : Nat) : Int) - 48))) = 10 * n + ((b.toNat : Int) - 48) := by
        have hn : n < 1000 := by
          have : (10 : Int) ^ (min p 3) ≤ 10 ^ 3 := by
            have : (10 : Nat) ^ (min p 3) ≤ 10 ^ 3 := Nat.pow_le_pow_right (by omega) (by omega)
            exact_mod_cast this
          omega
        have e1 : IntKind.wrap .i32 (((b.toNat : Nat) : Int) - 48) = (b.toNat : Int) - 48 := by
          obtain ⟨q, hq⟩ : ∃ q : Nat, (b.toNat : Int) - 48 = (q : Int) := ⟨b.toNat - 48, by omega⟩
          rw [hq]
          have : q < 10 := by omega
          revert this
          revert q
          intro q _ hq
          have : ∀ q : Fin 10, IntKind.wrap .i32 (q.val : Int) = (q.val : Int) := by decide
          exact this ⟨q, hq⟩
        rw [e1, wi (x := 10 * n) (by omega) (by omega), wi (x := (b.toNat : Int) - 48) (by omega) (by omega), wi (by omega) (by omega)]
      have start : ∀ {Y : field_number_l0_Y}, (∃ k, br (decide (((p : Nat) : Int) > 0)) (br (n == 0) (Sum.inl () = Y) (br (decide (((p : Nat) : Int) > 2)) (Sum.inl () = Y) (field_number_l0 k (lo, hi, s, p + 1, 10 * n + ((b.toNat : Int) - 48)) Y))) (br (decide (((p : Nat) : Int) > 2)) (Sum.inl () = Y) (field_number_l0 k (lo, hi, s, p + 1, 10 * n + ((b.toNat : Int) - 48)) Y))) → ∃ k, field_number_l0 k (lo, hi, s, p, n) Y := fun {Y} hx => by
        obtain ⟨k, hx⟩ := hx
        refine ⟨k + 1, br_yes (yes_of hp) (br_no (by rw [hdec]; exact no_of (by show ¬ (b.toNat : Int) < 48; omega)) (br_no (by rw [hdec]; exact no_of (by show ¬ (b.toNat : Int) > 57; omega)) ?_))⟩
        unfold field_number_l0_j0; rw [hdec]
        show br _ (br _ _ (br _ _ (field_number_l0 k (lo, hi, s, p + 1, IntKind.wrap .i64 (IntKind.wrap .i64 (10 * n) + IntKind.wrap .i64 (IntKind.wrap .i32 (((b.toNat : Nat) : Int) - 48)))) Y))) (br _ _ (field_number_l0 k (lo, hi, s, p + 1, IntKind.wrap .i64 (IntKind.wrap .i64 (10 * n) + IntKind.wrap .i64 (IntKind.wrap .i32 (((b.toNat : Nat) : Int) - 48)))) Y))
        rw [hw]
        exact hx
      by_cases h2 : 0 < p ∧ n = 0
      · rw [if_pos h2]
        exact start ⟨0, br_yes (yes_of (by omega)) (br_yes (by simp [h2.2]) rfl)⟩
      · rw [if_neg h2]
        by_cases h3 : 2 < p
        · rw [if_pos h3]
          exact start ⟨0, br_yes (yes_of (by omega)) (br_no (by simp; omega) (br_yes (yes_of (by omega)) rfl))⟩
        · rw [if_neg h3]
          obtain ⟨k, hk⟩ := number_loop lo hi s hs d (p + 1) (10 * n + ((b.toNat : Int) - 48)) (by omega) (by omega) (by
            rw [show min (p + 1) 3 = min p 3 + 1 by omega, Int.pow_succ]; omega)
          by_cases h4 : 0 < p
          · exact start ⟨k, br_yes (yes_of (by omega)) (br_no (by simp; omega) (br_no (no_of (by omega)) hk))⟩
          · exact start ⟨k, br_no (no_of (by omega)) (br_no (no_of (by omega)) hk)⟩

def numQ (l : List UInt8) (lo hi : Int) : Option Int := match numO l with
  | some n => if lo ≤ n ∧ n ≤ hi then some n else none
  | none => none

theorem field_number_fn (s : ByteArray) (hs : s.size ≤ 1000000) (lo hi : Int) : ∃ n b, field_number_R s lo hi (n, b) ∧ (match numQ (bl s) lo hi with | some v => b = true ∧ n = v | none => b = false) := by
  obtain ⟨k, hk⟩ := number_loop lo hi s hs s.size 0 0 (by omega) (by omega) (by decide)
  rw [List.drop_zero, numF_good] at hk
  unfold numQ numO
  by_cases hg : good (bl s) = true
  · rw [if_pos hg] at hk
    by_cases hn : bl s = []
    · rw [if_neg (by simp [hn])]
      refine ⟨_, _, ⟨_, ⟨k, hk⟩, br_no ?_ rfl⟩, rfl⟩
      rw [tl_same]; simp [hn]
    · rw [if_pos ⟨hn, hg⟩]
      have h0 : (!(ByteArray.toList s == ByteArray.toList (⟨#[]⟩ : ByteArray))) = true := by
        rw [tl_same]; simpa using hn
      simp only
      by_cases h1 : lo ≤ valL (bl s)
      · refine ⟨_, _, ⟨_, ⟨k, hk⟩, br_yes h0 (br_yes (yes_of h1) rfl)⟩, ?_⟩
        by_cases h2 : valL (bl s) ≤ hi
        · rw [if_pos ⟨h1, h2⟩]; exact ⟨yes_of h2, rfl⟩
        · rw [if_neg (fun e => h2 e.2)]; exact no_of h2
      · refine ⟨_, _, ⟨_, ⟨k, hk⟩, br_yes h0 (br_no (no_of h1) rfl)⟩, ?_⟩
        rw [if_neg (fun e => h1 e.1)]
  · rw [if_neg hg] at hk
    rw [if_neg (fun e => hg e.2)]
    exact ⟨_, _, ⟨_, ⟨k, hk⟩, rfl⟩, rfl⟩
end Go.Proofs.YtjdpkihlgpojkaaGreatDoor
