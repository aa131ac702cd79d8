/- What the reference makes of masks: the one text of a field. -/
import Derived.Test.YtcbgnicdcdfmiaaDoorKk
namespace Go.Proofs.YtcbgnicdcdfmiaaDoor
open Go Go.B
set_option linter.unusedSimpArgs false
set_option linter.unusedVariables false
set_option linter.unusedSectionVars false
set_option maxRecDepth 20000

/-- runs, as far as the first i numbers go -/
def runI (p : Nat → Bool) (i : Nat) (a : Int) : Int × Int := (a, ((min (a.toNat + runLen p 64 a.toNat) i : Nat) : Int) - 1)

def runsI (p : Nat → Bool) (i : Nat) : List (Int × Int) := (lstB (stB p) i).map (runI p i)

theorem last_start (p : Nat → Bool) : ∀ i, 0 < i → p (i - 1) = true → ∃ (l : List Int) (a : Nat), lstB (stB p) i = l ++ [(a : Int)] ∧ a < i ∧ (∀ j : Nat, a ≤ j → j < i → p j = true) ∧ ∀ x ∈ l, x.toNat < a
  | 0, h, _ => absurd h (by omega)
  | i + 1, _, hp => by
    rw [Nat.add_sub_cancel] at hp
    by_cases hs : stB p i = true
    · exact ⟨_, i, lstB_yes hs, by omega, fun j h1 h2 => by rw [show j = i by omega]; exact hp, fun x hx => by have := lstB_mem hx; omega⟩
    · have hs' : stB p i = false := by simpa using hs
      have h0 : 0 < i := by
        rcases Nat.eq_zero_or_pos i with e | e
        · subst e; unfold stB at hs'; rw [hp] at hs'; cases hs'
        · exact e
      have hp1 : p (i - 1) = true := by
        unfold stB at hs'
        rw [hp, decide_eq_true h0] at hs'
        simpa using hs'
      obtain ⟨l, a, h1, h2, h3, h4⟩ := last_start p i h0 hp1
      refine ⟨l, a, by rw [lstB_no hs', h1], by omega, fun j g1 g2 => ?_, h4⟩
      by_cases e : j = i
      · rw [e]; exact hp
      · exact h3 j g1 (by omega)

theorem runLen_ge (p : Nat → Bool) : ∀ (f a i : Nat), a ≤ i → i - a ≤ f → (∀ j, a ≤ j → j < i → p j = true) → i ≤ a + runLen p f a
  | 0, a, i, h1, h2, _ => by omega
  | f + 1, a, i, h1, h2, h => by
    by_cases e : a = i
    · omega
    · unfold runLen
      rw [h a (Nat.le_refl _) (by omega), cond_true]
      have := runLen_ge p f (a + 1) i (by omega) (by omega) (fun j g1 g2 => h j (by omega) g2)
      omega

theorem runsI_no (p : Nat → Bool) (i : Nat) (h : p i = false) : runsI p (i + 1) = runsI p i := by
  have hs : stB p i = false := by unfold stB; rw [h]; rfl
  unfold runsI
  rw [lstB_no hs]
  refine List.map_congr_left fun a ha => ?_
  have hb := lstB_mem ha
  have := runLen_le p 64 a.toNat i (by omega) h
  unfold runI
  congr 3
  omega

theorem runsI_new (p : Nat → Bool) (i : Nat) (h : p i = true) (h0 : 0 < i → p (i - 1) = false) : runsI p (i + 1) = runsI p i ++ [((i : Int), (i : Int))] := by
  have hs : stB p i = true := by
    unfold stB
    rw [h]
    by_cases e : 0 < i
    · rw [h0 e]; simp
    · rw [decide_eq_false e]; rfl
  unfold runsI
  rw [lstB_yes hs, List.map_append, List.map_cons, List.map_nil]
  congr 1
  · refine List.map_congr_left fun a ha => ?_
    have hb := lstB_mem ha
    have hi : 0 < i := by omega
    have := runLen_le p 64 a.toNat (i - 1) (by omega) (h0 hi)
    unfold runI
    congr 3
    omega
  · have := runLen_pos p 63 i h
    have this : 1 ≤ runLen p 64 i := this
    unfold runI
    rw [Int.toNat_natCast, show min (i + runLen p 64 i) (i + 1) = i + 1 by omega]
    congr 2
    omega

theorem runsI_old (p : Nat → Bool) (i : Nat) (hi : i < 64) (h : p i = true) (h0 : 0 < i) (h1 : p (i - 1) = true) : 0 < (runsI p i).length ∧ runsI p (i + 1) = (runsI p i).set ((runsI p i).length - 1) (((runsI p i).getD ((runsI p i).length - 1) (0, 0)).1, (i : Int)) := by
  have hs : stB p i = false := by unfold stB; rw [h1, decide_eq_true h0]; simp
  obtain ⟨l, a, e1, e2, e3, e4⟩ := last_start p i h0 h1
  unfold runsI
  rw [lstB_no hs, e1, List.map_append, List.map_append]
  simp only [List.map_cons, List.map_nil, List.length_append, List.length_map, List.length_singleton, Nat.add_sub_cancel]
  refine ⟨by omega, ?_⟩
  have eset : (l.map (runI p i) ++ [runI p i (a : Int)]).getD l.length (0, 0) = runI p i (a : Int) := by
    rw [List.getD_eq_getElem?_getD, List.getElem?_append_right (by simp)]; simp
  rw [eset, List.set_append_right _ _ (by simp)]
  simp only [List.length_map, Nat.sub_self, List.set_cons_zero]
  congr 1
  · refine List.map_congr_left fun b hb => ?_
    have hbm : b ∈ lstB (stB p) i := by rw [e1]; exact List.mem_append_left _ hb
    have hbb := lstB_mem hbm
    have hab : (a : Int) ∈ lstB (stB p) i := by rw [e1]; simp
    have hst := lstB_yesmem hab
    rw [Int.toNat_natCast] at hst
    have hlt := e4 b hb
    have hpa : p (a - 1) = false := by
      unfold stB at hst
      rw [Bool.and_eq_true, decide_eq_true (show 0 < a by omega)] at hst
      simpa using hst.2
    have := runLen_le p 64 b.toNat (a - 1) (by omega) hpa
    unfold runI
    congr 3
    omega
  · have hall : ∀ j, a ≤ j → j < i + 1 → p j = true := fun j g1 g2 => by
      by_cases e : j = i
      · rw [e]; exact h
      · exact e3 j g1 (by omega)
    have := runLen_ge p 64 a (i + 1) (by omega) (by omega) hall
    unfold runI
    rw [Int.toNat_natCast, show min (a + runLen p 64 a) (i + 1) = i + 1 by omega]
    congr 2
    omega

theorem runsI_all {m : Nat} (hm : m < 9223372036854775808) : runsI (Nat.testBit m) 64 = runsO m := by
  unfold runsI runsO
  refine List.map_congr_left fun a ha => ?_
  have hb := lstB_mem ha
  have h63 : Nat.testBit m 63 = false := Nat.testBit_lt_two_pow (by simpa using hm)
  have := runLen_le (Nat.testBit m) 64 a.toNat 63 (by omega) h63
  unfold runI runF
  rw [show min (a.toNat + runLen (Nat.testBit m) 64 a.toNat) 64 = a.toNat + runLen (Nat.testBit m) 64 a.toNat by omega]
  congr 1
  omega

theorem runsI_len (p : Nat → Bool) (i : Nat) : (runsI p i).length ≤ i := by unfold runsI; rw [List.length_map]; exact lstB_len _ i

/-- the reference goes through the numbers that a mask has -/
theorem rruns_loop {m : Nat} (hm : m < 9223372036854775808) : ∀ d i, i + d = 64 → ∀ (pre : List Int), bitsL (m : Int) = pre ++ (bitsL (m : Int)).drop pre.length → lstB (Nat.testBit m) i = pre → ∃ q, curfewref01_Runs_l0 q (bitsL (m : Int), runsI (Nat.testBit m) i, (m : Int), ((bitsL (m : Int)).length : Int), ((lstB (Nat.testBit m) i).length : Int)) (runsI (Nat.testBit m) 64) := by
  have hbl : bitsL (m : Int) = lstB (Nat.testBit m) 64 := by unfold bitsL; rw [Int.toNat_natCast]
  have hle := bitsL_len (m : Int)
  -- the first numbers are a beginning of all
  have pref : ∀ d i, i + d = 64 → ∃ r, lstB (Nat.testBit m) 64 = lstB (Nat.testBit m) i ++ r := by
    intro d
    induction d with
    | zero =>
      intro i h
      have : i = 64 := by omega
      rw [this]
      exact ⟨[], by simp⟩
    | succ d ih =>
      intro i h
      obtain ⟨r, hr⟩ := ih (i + 1) (by omega)
      cases hp : Nat.testBit m i
      · rw [lstB_no hp] at hr; exact ⟨r, hr⟩
      · rw [lstB_yes hp] at hr; exact ⟨(i : Int) :: r, by rw [hr]; simp⟩
  intro d
  induction d with
  | zero =>
    intro i h _ _ _
    obtain rfl : i = 64 := by omega
    refine ⟨1, br_no (no_of (by rw [hbl]; omega)) rfl⟩
  | succ d ih =>
    intro i h pre _ _
    obtain ⟨q, hq⟩ := ih (i + 1) (by omega) (lstB (Nat.testBit m) (i + 1)) (by
      obtain ⟨r, hr⟩ := pref d (i + 1) (by omega)
      rw [hbl]
      conv => lhs; rw [hr]
      conv => rhs; rw [hr]
      rw [List.drop_left' rfl]) rfl
    cases hp : Nat.testBit m i
    · rw [lstB_no hp, runsI_no _ i hp] at hq
      exact ⟨q, hq⟩
    · rw [lstB_yes hp] at hq
      obtain ⟨r, hr⟩ := pref d (i + 1) (by omega)
      rw [lstB_yes hp] at hr
      have hlen : (lstB (Nat.testBit m) i).length < (bitsL (m : Int)).length := by rw [hbl, hr]; simp
      have hget : (bitsL (m : Int)).getD (lstB (Nat.testBit m) i).length 0 = (i : Int) := by
        rw [hbl, hr, List.getD_eq_getElem?_getD, List.append_assoc, List.getElem?_append_right (Nat.le_refl _)]
        simp
      have hil := runsI_len (Nat.testBit m) i
      rw [List.length_append, List.length_singleton] at hq
      have hhas : curfewref01_Has_R (m : Int) (IntKind.wrap .i64 ((i : Int) - 1)) (hasB (m : Int) ((i : Int) - 1)) := by
        rw [wi (by omega) (by omega)]
        exact rHas_fn (m := (m : Int)) ⟨by omega, by omega⟩ _
      refine ⟨q + 1, br_yes (yes_of (by omega)) ⟨ix_ok hlen, blt_ok hlen, ?_⟩⟩
      rw [Int.toNat_natCast, hget]
      refine ⟨_, hhas, ?_⟩
      rw [wi_succ (n := (lstB (Nat.testBit m) i).length) (by omega)]
      by_cases h1 : 0 < i ∧ Nat.testBit m (i - 1) = true
      · obtain ⟨g0, g1⟩ := runsI_old (Nat.testBit m) i (by omega) hp h1.1 h1.2
        rw [g1] at hq
        have hb : hasB (m : Int) ((i : Int) - 1) = true := by
          unfold hasB mayB
          rw [show ((i : Int) - 1).toNat = i - 1 by omega, Int.toNat_natCast, h1.2]
          simp; omega
        have ew : IntKind.wrap .i64 ((((runsI (Nat.testBit m) i).length : Nat) : Int) - 1) = (((runsI (Nat.testBit m) i).length - 1 : Nat) : Int) := by rw [wi (by omega) (by omega)]; omega
        refine br_yes hb ?_
        rw [ew, Int.toNat_natCast]
        refine ⟨?_, ?_, hq⟩
        · simp; omega
        · simp [Nat.blt_eq]; omega
      · have h0 : 0 < i → Nat.testBit m (i - 1) = false := fun e => by
          cases hc : Nat.testBit m (i - 1)
          · rfl
          · exact absurd ⟨e, hc⟩ h1
        rw [runsI_new _ i hp h0] at hq
        have hb : hasB (m : Int) ((i : Int) - 1) = false := by
          unfold hasB mayB
          by_cases e : 0 < i
          · rw [show ((i : Int) - 1).toNat = i - 1 by omega, Int.toNat_natCast, h0 e, Bool.and_false]
          · rw [decide_eq_false (show ¬ (0 : Int) ≤ (i : Int) - 1 by omega)]; rfl
        refine br_no hb ⟨?_, hq⟩
        simp [Nat.ble_eq]; omega

theorem rRuns_fn {m : Nat} (hm : m < 9223372036854775808) : curfewref01_Runs_R (m : Int) (runsO m) := by
  obtain ⟨q, hq⟩ := rruns_loop hm 64 0 (by omega) [] (by simp) rfl
  rw [runsI_all hm] at hq
  exact ⟨_, rAll_fn (m := (m : Int)) ⟨by omega, by omega⟩, _, ⟨q, hq⟩, rfl⟩

theorem rdigits_fn {n : Nat} (h : n < 100) : curfewref06_digits_R (n : Int) ⟨(digL n).toArray⟩ := by
  have hall : ∀ n : Fin 100, (n.val ≥ 10 → bytesOf [IntKind.wrap .u8 (IntKind.wrap .i64 (48 + IntKind.wrap .i64 (Int.tdiv (n.val : Int) 10)))] = ⟨[UInt8.ofNat (48 + n.val / 10)].toArray⟩) ∧ bytesOf [IntKind.wrap .u8 (IntKind.wrap .i64 (48 + Int.tmod (n.val : Int) 10))] = ⟨[UInt8.ofNat (48 + n.val % 10)].toArray⟩ := by
    intro n
    have e : ∀ n : Fin 100, (n.val ≥ 10 → bl (bytesOf [IntKind.wrap .u8 (IntKind.wrap .i64 (48 + IntKind.wrap .i64 (Int.tdiv (n.val : Int) 10)))]) = [UInt8.ofNat (48 + n.val / 10)]) ∧ bl (bytesOf [IntKind.wrap .u8 (IntKind.wrap .i64 (48 + Int.tmod (n.val : Int) 10))]) = [UInt8.ofNat (48 + n.val % 10)] := by decide +kernel
    exact ⟨fun h => bl_ext ((e n).1 h), bl_ext (e n).2⟩
  obtain ⟨a1, a2⟩ := hall ⟨n, h⟩
  simp only at a1 a2
  by_cases h10 : n ≥ 10
  · refine br_yes (yes_of (by omega)) ?_
    rw [a1 h10, a2, ba_append]
    refine ⟨rfl, ?_⟩
    unfold digL
    rw [if_neg (by omega)]
    rfl
  · refine br_no (no_of (by omega)) ?_
    rw [a2, show (⟨#[]⟩ : ByteArray) = ⟨[].toArray⟩ from rfl, ba_append]
    refine ⟨rfl, ?_⟩
    unfold digL
    rw [if_pos (by omega), Nat.mod_eq_of_lt (by omega)]
    rfl

theorem rtext_loop {rs : List (Int × Int)} (hl : rs.length ≤ 64) (hr : ∀ r ∈ rs, 0 ≤ r.1 ∧ r.1 ≤ r.2 ∧ r.2 ≤ 62) : ∀ d i, i + d = rs.length → ∃ q, curfewref06_Text_l1 q (rs, (⟨(Lib.join ((rs.take i).map runT) [44]).toArray⟩ : ByteArray), (rs.length : Int), (i : Int)) (⟨(Lib.join (rs.map runT) [44]).toArray⟩ : ByteArray) := by
  intro d
  induction d with
  | zero =>
    intro i h
    refine ⟨1, br_no (no_of (by omega)) ?_⟩
    rw [List.take_of_length_le (by omega)]
  | succ d ih =>
    intro i h
    have hi : i < rs.length := by omega
    obtain ⟨q, hq⟩ := ih (i + 1) (by omega)
    have ht : rs.take (i + 1) = rs.take i ++ [rs.getD i (0, 0)] := by
      rw [List.take_add_one, List.getD_eq_getElem?_getD, List.getElem?_eq_getElem hi]; rfl
    have hmem : rs.getD i (0, 0) ∈ rs := by rw [List.getD_eq_getElem?_getD, List.getElem?_eq_getElem hi]; exact List.getElem_mem hi
    have hb := hr _ hmem
    rw [ht, List.map_append, List.map_cons, List.map_nil, join_snoc] at hq
    have hjl := join_len [44] ((rs.take i).map runT) (fun x hx => by obtain ⟨r, _, rfl⟩ := List.mem_map.mp hx; exact runT_len r)
    rw [List.length_map, List.length_take] at hjl
    have hjl : (Lib.join ((rs.take i).map runT) [44]).length ≤ 400 := by
      have e6 : (5 + [(44 : UInt8)].length) = 6 := rfl
      rw [e6] at hjl
      omega
    have hnil : (rs.take i).map runT = [] ↔ i = 0 := by
      constructor
      · intro e
        have := congrArg List.length e
        rw [List.length_map, List.length_take] at this
        simp only [List.length_nil] at this
        omega
      · rintro rfl; rfl
    refine ⟨q + 1, br_yes (yes_of (by omega)) ⟨ix_ok hi, blt_ok hi, ?_⟩⟩
    rw [Int.toNat_natCast]
    generalize rs.getD i (0, 0) = r at *
    obtain ⟨a, b⟩ := r
    simp only at hb
    obtain ⟨a, rfl⟩ : ∃ n : Nat, a = n := ⟨a.toNat, by omega⟩
    obtain ⟨b, rfl⟩ : ∃ n : Nat, b = n := ⟨b.toNat, by omega⟩
    have hla := digL_len a
    have hlb := digL_len b
    have eT : runT ((a : Int), (b : Int)) = if (b : Int) > (a : Int) then digL a ++ 45 :: digL b else digL a := rfl
    generalize hJ : Lib.join ((rs.take i).map runT) [44] = J at *
    -- behind what stands ahead
    have rest : ∀ (P : List UInt8), P.length ≤ 500 → P ++ runT ((a : Int), (b : Int)) = (if (rs.take i).map runT = [] then runT ((a : Int), (b : Int)) else J ++ [44] ++ runT ((a : Int), (b : Int))) →
        ∃ y : ByteArray, curfewref06_digits_R (a : Int) y ∧ (req (decide (ByteArray.size (⟨P.toArray⟩ : ByteArray) + ByteArray.size y ≤ 9223372036854775807)) (br (decide ((b : Int) > (a : Int))) (∃ y' : ByteArray, curfewref06_digits_R (b : Int) y' ∧ (req (decide (ByteArray.size (⟨#[45]⟩ : ByteArray) + ByteArray.size y' ≤ 9223372036854775807)) (req (decide (ByteArray.size ((⟨P.toArray⟩ : ByteArray) ++ y) + ByteArray.size ((⟨#[45]⟩ : ByteArray) ++ y') ≤ 9223372036854775807)) (curfewref06_Text_l1 q (rs, (((⟨P.toArray⟩ : ByteArray) ++ y) ++ ((⟨#[45]⟩ : ByteArray) ++ y')), (rs.length : Int), IntKind.wrap .i64 ((i : Int) + 1)) (⟨(Lib.join (rs.map runT) [44]).toArray⟩ : ByteArray))))) (curfewref06_Text_l1 q (rs, ((⟨P.toArray⟩ : ByteArray) ++ y), (rs.length : Int), IntKind.wrap .i64 ((i : Int) + 1)) (⟨(Lib.join (rs.map runT) [44]).toArray⟩ : ByteArray)))) := by
      intro P hP he
      rw [← he] at hq
      refine ⟨_, rdigits_fn (n := a) (by omega), ?_, ?_⟩
      · rw [mk_size P, mk_size (digL a)]; exact yes_of (by omega)
      · rw [wi_succ (by omega)]
        by_cases h1 : (b : Int) > (a : Int)
        · rw [if_pos h1] at eT
          rw [eT] at hq
          refine br_yes (yes_of h1) ⟨_, rdigits_fn (n := b) (by omega), ?_, ?_, ?_⟩
          · rw [mk_size (digL b)]; exact yes_of (by show 1 + _ ≤ _; omega)
          · rw [show (⟨#[45]⟩ : ByteArray) = ⟨[45].toArray⟩ from rfl, ba_append, ba_append, mk_size (P ++ digL a), mk_size ([45] ++ digL b)]; exact yes_of (by simp; omega)
          · rw [show (⟨#[45]⟩ : ByteArray) = ⟨[45].toArray⟩ from rfl, ba_append, ba_append, ba_append]
            rw [show P ++ (digL a ++ 45 :: digL b) = P ++ digL a ++ ([45] ++ digL b) by simp] at hq
            exact hq
        · rw [if_neg h1] at eT
          rw [eT] at hq
          refine br_no (no_of h1) ?_
          rw [ba_append]
          exact hq
    by_cases h0 : i = 0
    · refine br_no (no_of (by omega)) ?_
      have hJ0 : J = [] := by rw [← hJ, hnil.mpr h0]; rfl
      have := rest [] (by simp) (by rw [if_pos (hnil.mpr h0)]; rfl)
      rw [hJ0]
      exact this
    · refine br_yes (yes_of (by omega)) ⟨?_, ?_⟩
      · rw [mk_size J]; exact yes_of (by show _ + 1 ≤ _; omega)
      · rw [show (⟨#[44]⟩ : ByteArray) = ⟨[44].toArray⟩ from rfl, ba_append]
        exact rest (J ++ [44]) (by simp; omega) (by rw [if_neg (fun e => h0 (hnil.mp e))])

theorem rText_fn {k : Nat} (hk : k < 5) {m : Nat} (hm : okF k (m : Int) = true) : curfewref06_Text_R (k : Int) (m : Int) ⟨(textO k m).toArray⟩ := by
  obtain ⟨hlt, h0⟩ := okF_lt hk hm
  have hb := ends_bd k hk
  refine ⟨_, rWhole_fn hk, ?_⟩
  rw [wholeN_eq]
  unfold textO
  by_cases hw : m = wholeN k
  · rw [if_pos hw]
    exact br_yes (by simp [hw]) rfl
  · rw [if_neg hw]
    refine br_no (by simp; omega) ?_
    have hall := rAll_fn (m := (m : Int)) ⟨by omega, by omega⟩
    -- the steps
    have steps : ∃ q, curfewref06_Text_l0 q ((k : Int), (m : Int), 2) (match stepO k m with | some n => Sum.inl (⟨(42 :: 47 :: digL n).toArray⟩ : ByteArray) | none => Sum.inr ()) := by
      unfold stepO
      by_cases h3 : 3 ≤ (bitsL (m : Int)).length
      · rw [if_pos h3]
        have key : ∀ d n : Nat, n + d = 64 → 2 ≤ n → ∃ q, curfewref06_Text_l0 q ((k : Int), (m : Int), (n : Int)) (match stepF k m d n with | some r => Sum.inl (⟨(42 :: 47 :: digL r).toArray⟩ : ByteArray) | none => Sum.inr ()) := by
          intro d
          induction d with
          | zero => intro n h1 h2; exact ⟨1, br_no (no_of (by omega)) rfl⟩
          | succ d ih =>
            intro n h1 h2
            obtain ⟨q, hq⟩ := ih (n + 1) (by omega) (by omega)
            have hsp : curfewref01_Span_R (loA k) (hiA k) (n : Int) (((spanM (loA k).toNat (hiA k).toNat n : Nat) : Int), true) := by
              have : curfewref01_Span_R ((loA k).toNat : Int) ((hiA k).toNat : Int) (n : Int) (((spanM (loA k).toNat (hiA k).toNat n : Nat) : Int), true) := rSpan_fn (a := (loA k).toNat) (b := (hiA k).toNat) (s := n) (by omega) (by omega) (by omega) (by omega)
              generalize spanM (loA k).toNat (hiA k).toNat n = M at *
              rw [Int.toNat_of_nonneg (by omega), Int.toNat_of_nonneg (by omega)] at this
              exact this
            unfold stepF
            refine ⟨q + 1, br_yes (yes_of (by omega)) ⟨_, hall, br_yes (yes_of (by omega)) ⟨_, rEnds_fn hk, _, rEnds_fn hk, _, hsp, ?_⟩⟩⟩
            by_cases he : spanM (loA k).toNat (hiA k).toNat n = m
            · rw [if_pos he]
              have hl := digL_len n
              refine br_yes (by simp [he]) ⟨_, rdigits_fn (n := n) (by omega), ?_, ?_⟩
              · rw [mk_size (digL n)]; exact yes_of (by show 2 + _ ≤ _; omega)
              · rw [show (⟨#[42, 47]⟩ : ByteArray) = ⟨[42, 47].toArray⟩ from rfl, ba_append]; rfl
            · rw [if_neg he]
              refine br_no (by simp; omega) ?_
              rw [wi_succ (by omega)]
              exact hq
        exact key 62 2 (by omega) (by omega)
      · rw [if_neg h3]
        exact ⟨1, br_yes rfl ⟨_, hall, br_no (no_of (by omega)) rfl⟩⟩
    obtain ⟨q, hq⟩ := steps
    refine ⟨_, ⟨q, hq⟩, ?_⟩
    cases stepO k m with
    | some n => rfl
    | none =>
      obtain ⟨q2, hq2⟩ := rtext_loop (rs := runsO m) (runsO_len m) (fun r hr => runsO_mem hlt hr) (runsO m).length 0 (by omega)
      exact ⟨_, rRuns_fn hlt, _, ⟨q2, hq2⟩, rfl⟩
end Go.Proofs.YtcbgnicdcdfmiaaDoor
