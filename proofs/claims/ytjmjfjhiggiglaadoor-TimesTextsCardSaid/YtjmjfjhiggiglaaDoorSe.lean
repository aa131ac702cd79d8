/- times.Of, times.Parse. -/
import Derived.Test.YtjmjfjhiggiglaaDoorSd
namespace Go.Proofs.YtjmjfjhiggiglaaDoor
open Go Go.B
set_option linter.unusedSimpArgs false
set_option linter.unusedVariables false
set_option linter.unusedSectionVars false

theorem within_step {l : List (Int × Int)} {i : Nat} {k : Nat} {y : times_within_l0_Y} (hi : i < l.length) (hl : l.length ≤ 100) (h1 : ¬ (l.getD i (0, 0)).1 < 0) (h2 : ¬ (l.getD i (0, 0)).1 ≥ (l.getD i (0, 0)).2)
    (h : times_within_l0 k (l, (l.length : Int), ((i + 1 : Nat) : Int)) y) : times_within_l0 (k + 1) (l, (l.length : Int), (i : Int)) y := by
  refine bYes (decide_eq_true (by omega)) ⟨ix_ok hi, ?_⟩
  rw [Int.toNat_natCast, wi_succ (by omega)]
  exact bNo (decide_eq_false h1) (bNo (decide_eq_false h2) h)

theorem within_bad {l : List (Int × Int)} {i : Nat} (hi : i < l.length) (hl : l.length ≤ 100) (h : (l.getD i (0, 0)).1 < 0 ∨ (l.getD i (0, 0)).1 ≥ (l.getD i (0, 0)).2) :
    times_within_l0 1 (l, (l.length : Int), (i : Int)) (Sum.inl ()) := by
  refine bYes (decide_eq_true (by omega)) ⟨ix_ok hi, ?_⟩
  rw [Int.toNat_natCast]
  by_cases h1 : (l.getD i (0, 0)).1 < 0
  · exact bYes (decide_eq_true h1) rfl
  · exact bNo (decide_eq_false h1) (bYes (decide_eq_true (by omega)) rfl)

theorem within_end {l : List (Int × Int)} {i : Nat} (hi : i = l.length) : times_within_l0 1 (l, (l.length : Int), (i : Int)) (Sum.inr ()) :=
  bNo (decide_eq_false (by omega)) rfl

theorem wu8 {x : Int} (h0 : 0 ≤ x) (h1 : x ≤ 255) : IntKind.wrap .u8 x = x := by
  simp only [IntKind.wrap, IntKind.signed, IntKind.bits]
  simp
  omega

theorem within_fn (a b c : Int) : times_within_R [(a, 24), (b, 60), (c, 60)] (hmsB a b c) := by
  have L : ([(a, 24), (b, 60), (c, 60)] : List (Int × Int)).length ≤ 100 := by simp
  by_cases h1 : a < 0 ∨ a ≥ 24
  · exact ⟨_, ⟨_, within_bad (i := 0) (by simp) L h1⟩, (hmsB_no (by omega)).symm⟩
  by_cases h2 : b < 0 ∨ b ≥ 60
  · exact ⟨_, ⟨_, within_step (i := 0) (by simp) L (fun h => h1 (.inl h)) (fun h => h1 (.inr h)) (within_bad (i := 1) (by simp) L h2)⟩, (hmsB_no (by omega)).symm⟩
  by_cases h3 : c < 0 ∨ c ≥ 60
  · exact ⟨_, ⟨_, within_step (i := 0) (by simp) L (fun h => h1 (.inl h)) (fun h => h1 (.inr h)) (within_step (i := 1) (by simp) L (fun h => h2 (.inl h)) (fun h => h2 (.inr h)) (within_bad (i := 2) (by simp) L h3))⟩, (hmsB_no (by omega)).symm⟩
  · exact ⟨_, ⟨_, within_step (i := 0) (by simp) L (fun h => h1 (.inl h)) (fun h => h1 (.inr h)) (within_step (i := 1) (by simp) L (fun h => h2 (.inl h)) (fun h => h2 (.inr h)) (within_step (i := 2) (by simp) L (fun h => h3 (.inl h)) (fun h => h3 (.inr h)) (within_end rfl)))⟩, (hmsB_iff.mpr (by omega)).symm⟩

theorem times_Check_fn (y m d a b c : Int) : times_Check_R y m d a b c (if okc y m d a b c = true then 0 else 150) := by
  refine ⟨_, days_Check_fn y m d, ?_⟩
  unfold okc
  cases h : Cal.okd y m d
  · exact bYes rfl rfl
  · refine bNo rfl ⟨_, within_fn a b c, ?_⟩
    cases h2 : hmsB a b c
    · exact bYes rfl rfl
    · exact bNo rfl rfl

theorem times_Of_fn {y m d a b c : Int} (h : okc y m d a b c = true) : times_Of_R y m d a b c (tim y m d a b c, 0) := by
  have k := times_Check_fn y m d a b c
  rw [if_pos h] at k
  obtain ⟨h1, h2⟩ := okc_true h
  have n := Cal.num_bd h1
  have q := hmsB_iff.mp h2
  refine ⟨_, k, bNo rfl ⟨_, days_Of_fn h1, bNo rfl ?_⟩⟩
  show (IntKind.wrap .i64 (IntKind.wrap .i64 (IntKind.wrap .i64 (IntKind.wrap .i64 (Cal.num y m d * 86400) + IntKind.wrap .i64 (a * 3600)) + IntKind.wrap .i64 (b * 60)) + c), 0) = (tim y m d a b c, (0 : Int))
  rw [wi (x := Cal.num y m d * 86400) (by omega) (by omega), wi (x := a * 3600) (by omega) (by omega), wi (x := b * 60) (by omega) (by omega), wi (x := Cal.num y m d * 86400 + a * 3600) (by omega) (by omega),
    wi (x := Cal.num y m d * 86400 + a * 3600 + b * 60) (by omega) (by omega), wi (by omega) (by omega)]
  rfl

theorem times_Of_no {y m d a b c : Int} (h : okc y m d a b c = false) : times_Of_R y m d a b c (0, 150) := by
  have k := times_Check_fn y m d a b c
  rw [if_neg (by rw [h]; decide)] at k
  exact ⟨_, k, bYes rfl rfl⟩

theorem times_At_tim {y m d a b c : Int} (h : okc y m d a b c = true) : times_At_R (tim y m d a b c) ((y, m, d, a, b, c), 0) := by
  have b1 := tim_bd h
  have hm : mayT (tim y m d a b c) = true := by simp [mayT]; omega
  have k := times_At_fn hm
  obtain ⟨e1, e2, e3⟩ := tim_hms h
  rw [(tim_day h).1, Cal.dat_num (okc_true h).1, e1, e2, e3] at k
  exact k

theorem six (f : Nat → Int) : ∀ j, j < 6 → List.getD [f 0, f 1, f 2, f 3, f 4, f 5] j 0 = f j
  | 0, _ => rfl
  | 1, _ => rfl
  | 2, _ => rfl
  | 3, _ => rfl
  | 4, _ => rfl
  | 5, _ => rfl
  | n + 6, h => by omega

theorem parse_loop {s : ByteArray} (hs : s.size = 19) : ∀ (d i : Nat), i + d = 19 → pat s.data.toList i = true →
    ∃ k r, times_Parse_l0 k (nm s.data.toList i 0, nm s.data.toList i 1, nm s.data.toList i 2, nm s.data.toList i 3, nm s.data.toList i 4, nm s.data.toList i 5, s, ((kk i : Nat) : Int), true, ((i : Nat) : Int)) r ∧
      (pat s.data.toList 19 = true → r = (nm s.data.toList 19 0, nm s.data.toList 19 1, nm s.data.toList 19 2, nm s.data.toList 19 3, nm s.data.toList 19 4, nm s.data.toList 19 5, true)) ∧
      (pat s.data.toList 19 = false → r.2.2.2.2.2.2 = false)
  | 0, i, e, hp => by
    have e : i = 19 := by omega
    subst e
    exact ⟨0 + 1, _, bYes rfl (bNo (decide_eq_false (by rw [hs]; omega)) rfl), fun _ => rfl, fun h => by rw [hp] at h; cases h⟩
  | d + 1, i, e, hp => by
    have hi : i < 19 := by omega
    have ih := parse_loop hs d (i + 1) (by omega)
    have ix : ((decide (0 ≤ ((i : Nat) : Int))) && (decide (((i : Nat) : Int) < ((ByteArray.size s : Nat) : Int)))) = true := by rw [hs]; exact ix_ok hi
    have ix' : ((decide (0 ≤ ((i : Nat) : Int))) && (decide (((i : Nat) : Int) < 19))) = true := ix_ok hi
    have hlt : decide (((i : Nat) : Int) < ((ByteArray.size s : Nat) : Int)) = true := decide_eq_true (by omega)
    have wn : IntKind.wrap .i64 (((i : Nat) : Int) + 1) = ((i + 1 : Nat) : Int) := wi_succ (by omega)
    have hk6 := kk_lt i (by omega)
    have hform : (List.getD (Array.toList (ByteArray.data (⟨#[48, 48, 48, 48, 45, 48, 48, 45, 48, 48, 32, 48, 48, 58, 48, 48, 58, 48, 48]⟩ : ByteArray))) i 0) = form.getD i 0 := rfl
    by_cases hg : form.getD i 0 = 48 ∧ 48 ≤ (s.data.toList.getD i 0).toNat ∧ (s.data.toList.getD i 0).toNat ≤ 57
    · obtain ⟨hf, hd1, hd2⟩ := hg
      have hok : okAt s.data.toList i = true := by unfold okAt; rw [if_pos hf]; exact decide_eq_true ⟨hd1, hd2⟩
      have hp' : pat s.data.toList (i + 1) = true := by show (pat _ i && okAt _ i) = true; rw [hp, hok]; rfl
      obtain ⟨k, r, hk, hr⟩ := ih hp'
      have ek : kk (i + 1) = kk i := by rw [kk_succ i hi, if_pos hf]
      have eo : offN 0 ((kk i : Nat) : Int) 1 = kk i := by simp [offN]
      have b1 := nm_le hp (by omega) hk6
      have en : ∀ j, (bif Nat.beq (kk i) j then (IntKind.wrap .i64 ((IntKind.wrap .i64 (10 * nm s.data.toList i (kk i))) + (IntKind.wrap .i64 (IntKind.wrap .u8 ((((s.data.toList.getD i 0).toNat : Nat) : Int) - 48))))) else nm s.data.toList i j) = nm s.data.toList (i + 1) j := by
        intro j
        show _ = if form.getD i 0 = 48 ∧ kk i = j then 10 * nm s.data.toList i j + ((s.data.toList.getD i 0).toNat - 48) else nm s.data.toList i j
        by_cases hj : kk i = j
        · subst hj
          rw [Nat.beq_refl, if_pos ⟨hf, rfl⟩]
          have u8 : IntKind.wrap .u8 ((((s.data.toList.getD i 0).toNat : Nat) : Int) - 48) = (((s.data.toList.getD i 0).toNat : Nat) : Int) - 48 := wu8 (by omega) (by omega)
          rw [u8]
          show IntKind.wrap .i64 (_ + _) = _
          rw [wi (x := 10 * nm s.data.toList i (kk i)) (by omega) (by omega), wi (x := (((s.data.toList.getD i 0).toNat : Nat) : Int) - 48) (by omega) (by omega), wi (by omega) (by omega)]
        · have : Nat.beq (kk i) j = false := by
            cases hb : Nat.beq (kk i) j with
            | false => rfl
            | true => exact absurd (Nat.eq_of_beq_eq_true hb) hj
          rw [this, if_neg (fun h => hj h.2)]
          rfl
      refine ⟨k + 1, r, bYes rfl (bYes hlt ⟨ix, ?_⟩), hr⟩
      rw [Int.toNat_natCast]
      refine bYes (decide_eq_true (by omega)) ⟨ix, bYes (decide_eq_true (by omega)) ⟨ix', bYes (by rw [hform, hf]; rfl) ?_⟩⟩
      have kx : ((decide (0 ≤ ((kk i : Nat) : Int))) && (decide (((kk i : Nat) : Int) < 6))) = true := ix_ok hk6
      rw [eo, six (nm s.data.toList i) (kk i) hk6, en 0, en 1, en 2, en 3, en 4, en 5, wn]
      rw [ek] at hk
      have kb : Nat.blt (kk i) 6 = true := by rw [Nat.blt_eq]; exact hk6
      exact ⟨kx, kb, ix, kx, kb, hk⟩
    · have go : ∀ X E : Prop, E → br (decide ((((List.getD (Array.toList (ByteArray.data s)) i 0).toNat : Nat) : Int) ≥ 48)) (req ((decide (0 ≤ ((i : Nat) : Int))) && (decide (((i : Nat) : Int) < ((ByteArray.size s : Nat) : Int)))) (br (decide ((((List.getD (Array.toList (ByteArray.data s)) i 0).toNat : Nat) : Int) ≤ 57)) (req ((decide (0 ≤ ((i : Nat) : Int))) && (decide (((i : Nat) : Int) < 19))) (br ((((form.getD i 0).toNat : Nat) : Int) == 48) X E)) E)) E := by
        intro X E h
        by_cases c1 : 48 ≤ (s.data.toList.getD i 0).toNat
        · refine bYes (decide_eq_true (by omega)) ⟨ix, ?_⟩
          by_cases c2 : (s.data.toList.getD i 0).toNat ≤ 57
          · refine bYes (decide_eq_true (by omega)) ⟨ix', bNo ?_ h⟩
            rcases form_bd i hi with q | q | q | q
            · exact absurd ⟨q, c1, c2⟩ hg
            all_goals rw [q]; rfl
          · exact bNo (decide_eq_false (by omega)) h
        · exact bNo (decide_eq_false (by omega)) h
      by_cases hb : s.data.toList.getD i 0 = form.getD i 0
      · have hf : ¬ form.getD i 0 = 48 := fun q => hg ⟨q, by rw [hb, q]; decide, by rw [hb, q]; decide⟩
        have hok : okAt s.data.toList i = true := by unfold okAt; rw [if_neg hf, hb]; simp
        have hp' : pat s.data.toList (i + 1) = true := by show (pat _ i && okAt _ i) = true; rw [hp, hok]; rfl
        obtain ⟨k, r, hk, hr⟩ := ih hp'
        have ek : kk (i + 1) = kk i + 1 := by rw [kk_succ i hi, if_neg hf]
        have en : ∀ j, nm s.data.toList (i + 1) j = nm s.data.toList i j := fun j => if_neg fun h => hf h.1
        rw [ek, en 0, en 1, en 2, en 3, en 4, en 5] at hk
        refine ⟨k + 1, r, bYes rfl (bYes hlt ⟨ix, ?_⟩), hr⟩
        rw [Int.toNat_natCast]
        refine go _ _ ⟨ix, ix', bYes ?_ ?_⟩
        · rw [hform, hb]; simp
        · rw [wn, wi_succ (by omega)]; exact hk
      · have hbad : okAt s.data.toList i = false := by
          unfold okAt
          by_cases hf : form.getD i 0 = 48
          · rw [if_pos hf]; exact decide_eq_false fun h => hg ⟨hf, h⟩
          · rw [if_neg hf]; simpa using hb
        have h19 := pat_bad19 hbad hi
        refine ⟨0 + 1, (nm s.data.toList i 0, nm s.data.toList i 1, nm s.data.toList i 2, nm s.data.toList i 3, nm s.data.toList i 4, nm s.data.toList i 5, false), bYes rfl (bYes hlt ⟨ix, ?_⟩), (fun h => by rw [h19] at h; cases h), fun _ => rfl⟩
        rw [Int.toNat_natCast]
        refine go _ _ ⟨ix, ix', bNo ?_ rfl⟩
        rw [hform]
        simp only [beq_eq_false_iff_ne, ne_eq]
        intro q
        apply hb
        exact UInt8.toNat_inj.mp (by omega)

theorem parse_start {s : ByteArray} (hs : s.size = 19) : ∃ k r, times_Parse_l0 k (0, 0, 0, 0, 0, 0, s, 0, ((((ByteArray.size s : Nat) : Int)) == 19), 0) r ∧
      (pat s.data.toList 19 = true → r = (nm s.data.toList 19 0, nm s.data.toList 19 1, nm s.data.toList 19 2, nm s.data.toList 19 3, nm s.data.toList 19 4, nm s.data.toList 19 5, true)) ∧
      (pat s.data.toList 19 = false → r.2.2.2.2.2.2 = false) := by
  have e19 : ((((ByteArray.size s : Nat) : Int)) == 19) = true := by rw [hs]; rfl
  rw [e19]
  exact parse_loop hs 19 0 rfl rfl

/-- is it a time's text? -/
def pOk (s : ByteArray) : Bool := decide (s.size = 19) && (pat s.data.toList 19 && okc (nm s.data.toList 19 0) (nm s.data.toList 19 1) (nm s.data.toList 19 2) (nm s.data.toList 19 3) (nm s.data.toList 19 4) (nm s.data.toList 19 5))

def pVal (s : ByteArray) : Int := tim (nm s.data.toList 19 0) (nm s.data.toList 19 1) (nm s.data.toList 19 2) (nm s.data.toList 19 3) (nm s.data.toList 19 4) (nm s.data.toList 19 5)

theorem at_zero : times_At_R 0 (((Cal.dat (0 / 86400)).1, (Cal.dat (0 / 86400)).2.1, (Cal.dat (0 / 86400)).2.2, 0 % 86400 / 3600, 0 % 86400 % 3600 / 60, 0 % 86400 % 60), 0) := times_At_fn (by decide)

theorem of_any (y m d a b c : Int) : ∃ y5 : Int × Int, times_Of_R y m d a b c y5 ∧ ∃ y6, times_At_R y5.1 y6 := by
  cases h : okc y m d a b c
  · exact ⟨_, times_Of_no h, _, at_zero⟩
  · exact ⟨_, times_Of_fn h, _, times_At_tim h⟩

theorem eq_civ (y m d a b c : Int) : (!(((y == y) && ((m == m) && ((d == d) && true))) && ((a == a) && ((b == b) && ((c == c) && true))))) = false := by simp

theorem parse_out {s : ByteArray} {y m d a b c : Int} {ok : Bool} {k : Nat} {r : Int × Int} (hk : times_Parse_l0 k (0, 0, 0, 0, 0, 0, s, 0, ((((ByteArray.size s : Nat) : Int)) == 19), 0) (y, m, d, a, b, c, ok))
    (hr : r = if ok = true ∧ okc y m d a b c = true then (tim y m d a b c, 0) else (0, 151)) : times_Parse_R s r := by
  subst hr
  cases ok
  · obtain ⟨y5, o1, y6, o2⟩ := of_any y m d a b c
    rw [if_neg (fun h => by cases h.1)]
    exact ⟨_, ⟨k, hk⟩, _, o1, _, o2, bYes rfl rfl⟩
  · cases h3 : okc y m d a b c
    · rw [if_neg (fun h => by cases h.2)]
      exact ⟨_, ⟨k, hk⟩, _, times_Of_no h3, _, at_zero, bNo rfl (bYes rfl rfl)⟩
    · rw [if_pos ⟨rfl, rfl⟩]
      exact ⟨_, ⟨k, hk⟩, _, times_Of_fn h3, _, times_At_tim h3, bNo rfl (bNo rfl (bNo rfl (bNo (eq_civ y m d a b c) rfl)))⟩

theorem times_Parse_yes {s : ByteArray} (h : pOk s = true) : times_Parse_R s (pVal s, 0) := by
  simp only [pOk, Bool.and_eq_true] at h
  obtain ⟨h1, h2, h3⟩ := h
  obtain ⟨k, r, hk, hr, _⟩ := parse_start (of_decide_eq_true h1)
  rw [hr h2] at hk
  exact parse_out hk (if_pos ⟨rfl, h3⟩).symm

theorem times_Parse_no {s : ByteArray} (h : pOk s = false) : times_Parse_R s (0, 151) := by
  by_cases h1 : s.size = 19
  · obtain ⟨k, r, hk, hr, hr'⟩ := parse_start h1
    cases hp : pat s.data.toList 19
    · have q := hr' hp
      obtain ⟨y, m, d, a, b, c, ok⟩ := r
      exact parse_out hk (if_neg (fun h => by rw [show ok = false from q] at h; cases h.1)).symm
    · rw [hr hp] at hk
      have h3 : okc (nm s.data.toList 19 0) (nm s.data.toList 19 1) (nm s.data.toList 19 2) (nm s.data.toList 19 3) (nm s.data.toList 19 4) (nm s.data.toList 19 5) = false := by
        simp only [pOk, h1, hp, decide_true, Bool.true_and] at h
        exact h
      exact parse_out hk (if_neg (fun h => by rw [h3] at h; cases h.2)).symm
  · have e19 : ((((ByteArray.size s : Nat) : Int)) == 19) = false := by simp; omega
    exact parse_out (k := 0 + 1) (ok := false) (y := 0) (m := 0) (d := 0) (a := 0) (b := 0) (c := 0) (by rw [e19]; exact bNo rfl rfl) (if_neg (fun h => by cases h.1)).symm
end Go.Proofs.YtjmjfjhiggiglaaDoor
