/- What the reference makes of masks: the one text of a field. -/
import Derived.Test.YtjbpihalfaclkaaGreatDoorKer
import Derived.Test.YtjbpihalfaclkaaGreatDoorKm
namespace Go.Proofs.YtjbpihalfaclkaaGreatDoor
open Go Go.B
set_option linter.unusedSimpArgs false
set_option linter.unusedVariables false
set_option linter.unusedSectionVars false
set_option maxRecDepth 20000

/-- the reference goes through the numbers that a mask has -/
theorem rruns_loop {m : Nat} (hm : m < 9223372036854775808) : ∀ d i, i + d = 64 → ∀ (pre : List Int), bitsL (m : Int) = pre ++ (bitsL (m : Int)).drop pre.length → lstB (Nat.testBit m) i = pre → ∃ q, curfewref01_Runs_l0 q (bitsL (m : Int), runsI (Nat.testBit m) i, (m : Int), ((bitsL (m : Int)).length : Int), ((lstB (Nat.testBit m) i).length : Int)) (runsI (Nat.testBit m) 64) := by
  have hbl : bitsL (m : Int) = lstB (Nat.testBit m) 64 := by unfold bitsL; rw [Int.toNat_natCast]
  have hle := bitsL_len (m : Int)
  -- the first numbers are a beginning of all
  have pref : ∀ d i, i + d = 64 → ∃ r, lstB (Nat.testBit m) 64 = lstB (Nat.testBit m) i ++ r := by
    intro d
    induction d with
    | zero =>
      intro i h
      have : i = 64 := by omega
      rw [this]
      exact ⟨[], by simp⟩
    | succ d ih =>
      intro i h
      obtain ⟨r, hr⟩ := ih (i + 1) (by omega)
      cases hp : Nat.testBit m i
      · rw [lstB_no hp] at hr; exact ⟨r, hr⟩
      · rw [lstB_yes hp] at hr; exact ⟨(i : Int) :: r, by rw [hr]; simp⟩
  intro d
  induction d with
  | zero =>
    intro i h _ _ _
    obtain rfl : i = 64 := by omega
    refine ⟨1, br_no (no_of (by rw [hbl]; omega)) rfl⟩
  | succ d ih =>
    intro i h pre _ _
    obtain ⟨q, hq⟩ := ih (i + 1) (by omega) (lstB (Nat.testBit m) (i + 1)) (by
      obtain ⟨r, hr⟩ := pref d (i + 1) (by omega)
      rw [hbl]
      conv => lhs; rw [hr]
      conv => rhs; rw [hr]
      rw [List.drop_left' rfl]) rfl
    cases hp : Nat.testBit m i
    · rw [lstB_no hp, runsI_no _ i hp] at hq
      exact ⟨q, hq⟩
    · rw [lstB_yes hp] at hq
      obtain ⟨r, hr⟩ := pref d (i + 1) (by omega)
      rw [lstB_yes hp] at hr
      have hlen : (lstB (Nat.testBit m) i).length < (bitsL (m : Int)).length := by rw [hbl, hr]; simp
      have hget : (bitsL (m : Int)).getD (lstB (Nat.testBit m) i).length 0 = (i : Int) := by
        rw [hbl, hr, List.getD_eq_getElem?_getD, List.append_assoc, List.getElem?_append_right (Nat.le_refl _)]
        simp
      have hil := runsI_len (Nat.testBit m) i
      rw [List.length_append, List.length_singleton] at hq
      have hhas : curfewref01_Has_R (m : Int) (IntKind.wrap .i64 ((i : Int) - 1)) (hasB (m : Int) ((i : Int) - 1)) := by
        rw [wi (by omega) (by omega)]
        exact rHas_fn (m := (m : Int)) ⟨by omega, by omega⟩ _
      refine ⟨q + 1, br_yes (yes_of (by omega)) ⟨ix_ok hlen, blt_ok hlen, ?_⟩⟩
      rw [Int.toNat_natCast, hget]
      refine ⟨_, hhas, ?_⟩
      rw [wi_succ (n := (lstB (Nat.testBit m) i).length) (by omega)]
      by_cases h1 : 0 < i ∧ Nat.testBit m (i - 1) = true
      · obtain ⟨g0, g1⟩ := runsI_old (Nat.testBit m) i (by omega) hp h1.1 h1.2
        rw [g1] at hq
        have hb : hasB (m : Int) ((i : Int) - 1) = true := by
          unfold hasB mayB
          rw [show ((i : Int) - 1).toNat = i - 1 by omega, Int.toNat_natCast, h1.2]
          simp; omega
        have ew : IntKind.wrap .i64 ((((runsI (Nat.testBit m) i).length : Nat) : Int) - 1) = (((runsI (Nat.testBit m) i).length - 1 : Nat) : Int) := by rw [wi (by omega) (by omega)]; omega
        refine br_yes hb ?_
        rw [ew, Int.toNat_natCast]
        refine ⟨?_, ?_, hq⟩
        · simp; omega
        · simp [Nat.blt_eq]; omega
      · have h0 : 0 < i → Nat.testBit m (i - 1) = false := fun e => by
          cases hc : Nat.testBit m (i - 1)
          · rfl
          · exact absurd ⟨e, hc⟩ h1
        rw [runsI_new _ i hp h0] at hq
        have hb : hasB (m : Int) ((i : Int) - 1) = false := by
          unfold hasB mayB
          by_cases e : 0 < i
          · rw [show ((i : Int) - 1).toNat = i - 1 by omega, Int.toNat_natCast, h0 e, Bool.and_false]
          · rw [decide_eq_false (show ¬ (0 : Int) ≤ (i : Int) - 1 by omega)]; rfl
        refine br_no hb ⟨?_, hq⟩
        simp [Nat.ble_eq]; omega

theorem rRuns_fn {m : Nat} (hm : m < 9223372036854775808) : curfewref01_Runs_R (m : Int) (runsO m) := by
  obtain ⟨q, hq⟩ := rruns_loop hm 64 0 (by omega) [] (by simp) rfl
  rw [runsI_all hm] at hq
  exact ⟨_, rAll_fn (m := (m : Int)) ⟨by omega, by omega⟩, _, ⟨q, hq⟩, rfl⟩

theorem rdigits_fn {n : Nat} (h : n < 100) : curfewref06_digits_R (n : Int) ⟨(digL n).toArray⟩ := by
  have hall : ∀ n : Fin 100, (n.val ≥ 10 → bytesOf [IntKind.wrap .u8 (IntKind.wrap .i64 (48 + IntKind.wrap .i64 (Int.tdiv (n.val : Int) 10)))] = ⟨[UInt8.ofNat (48 + n.val / 10)].toArray⟩) ∧ bytesOf [IntKind.wrap .u8 (IntKind.wrap .i64 (48 + Int.tmod (n.val : Int) 10))] = ⟨[UInt8.ofNat (48 + n.val % 10)].toArray⟩ := by
    intro n
    have e : ∀ n : Fin 100, (n.val ≥ 10 → bl (bytesOf [IntKind.wrap .u8 (IntKind.wrap .i64 (48 + IntKind.wrap .i64 (Int.tdiv (n.val : Int) 10)))]) = [UInt8.ofNat (48 + n.val / 10)]) ∧ bl (bytesOf [IntKind.wrap .u8 (IntKind.wrap .i64 (48 + Int.tmod (n.val : Int) 10))]) = [UInt8.ofNat (48 + n.val % 10)] := by decide +kernel
    exact ⟨fun h => bl_ext ((e n).1 h), bl_ext (e n).2⟩
  obtain ⟨a1, a2⟩ := hall ⟨n, h⟩
  simp only at a1 a2
  by_cases h10 : n ≥ 10
  · refine br_yes (yes_of (by omega)) ?_
    rw [a1 h10, a2, ba_append]
    refine ⟨rfl, ?_⟩
    unfold digL
    rw [if_neg (by omega)]
    rfl
  · refine br_no (no_of (by omega)) ?_
    rw [a2, show (⟨#[]⟩ : ByteArray) = ⟨[].toArray⟩ from rfl, ba_append]
    refine ⟨rfl, ?_⟩
    unfold digL
    rw [if_pos (by omega), Nat.mod_eq_of_lt (by omega)]
    rfl

theorem rtext_loop {rs : List (Int × Int)} (hl : rs.length ≤ 64) (hr : ∀ r ∈ rs, 0 ≤ r.1 ∧ r.1 ≤ r.2 ∧ r.2 ≤ 62) : ∀ d i, i + d = rs.length → ∃ q, curfewref06_Text_l1 q (rs, (⟨(Lib.join ((rs.take i).map runT) [44]).toArray⟩ : ByteArray), (rs.length : Int), (i : Int)) (⟨(Lib.join (rs.map runT) [44]).toArray⟩ : ByteArray) := by
  intro d
  induction d with
  | zero =>
    intro i h
    refine ⟨1, br_no (no_of (by omega)) ?_⟩
    rw [List.take_of_length_le (by omega)]
  | succ d ih =>
    intro i h
    have hi : i < rs.length := by omega
    obtain ⟨q, hq⟩ := ih (i + 1) (by omega)
    have ht : rs.take (i + 1) = rs.take i ++ [rs.getD i (0, 0)] := by
      rw [List.take_add_one, List.getD_eq_getElem?_getD, List.getElem?_eq_getElem hi]; rfl
    have hmem : rs.getD i (0, 0) ∈ rs := by rw [List.getD_eq_getElem?_getD, List.getElem?_eq_getElem hi]; exact List.getElem_mem hi
    have hb := hr _ hmem
    rw [ht, List.map_append, List.map_cons, List.map_nil, join_snoc] at hq
    have hjl := join_len [44] ((rs.take i).map runT) (fun x hx => by obtain ⟨r, _, rfl⟩ := List.mem_map.mp hx; exact runT_len r)
    rw [List.length_map, List.length_take] at hjl
    have hjl : (Lib.join ((rs.take i).map runT) [44]).length ≤ 400 := by
      have e6 : (5 + [(44 : UInt8)].length) = 6 := rfl
      rw [e6] at hjl
      omega
    have hnil : (rs.take i).map runT = [] ↔ i = 0 := by
      constructor
      · intro e
        have := congrArg List.length e
        rw [List.length_map, List.length_take] at this
        simp only [List.length_nil] at this
        omega
      · rintro rfl; rfl
    refine ⟨q + 1, br_yes (yes_of (by omega)) ⟨ix_ok hi, blt_ok hi, ?_⟩⟩
    rw [Int.toNat_natCast]
    generalize rs.getD i (0, 0) = r at *
    obtain ⟨a, b⟩ := r
    simp only at hb
    obtain ⟨a, rfl⟩ : ∃ n : Nat, a = n := ⟨a.toNat, by omega⟩
    obtain ⟨b, rfl⟩ : ∃ n : Nat, b = n := ⟨b.toNat, by omega⟩
    have hla := digL_len a
    have hlb := digL_len b
    have eT : runT ((a : Int), (b : Int)) = if (b : Int) > (a : Int) then digL a ++ 45 :: digL b else digL a := rfl
    generalize hJ : Lib.join ((rs.take i).map runT) [44] = J at *
    -- behind what stands ahead
    have rest : ∀ (P : List UInt8), P.length ≤ 500 → P ++ runT ((a : Int), (b : Int)) = (if (rs.take i).map runT = [] then runT ((a : Int), (b : Int)) else J ++ [44] ++ runT ((a : Int), (b : Int))) →
        ∃ y : ByteArray, curfewref06_digits_R (a : Int) y ∧ (req (decide (ByteArray.size (⟨P.toArray⟩ : ByteArray) + ByteArray.size y ≤ 9223372036854775807)) (br (decide ((b : Int) > (a : Int))) (∃ y' : ByteArray, curfewref06_digits_R (b : Int) y' ∧ (req (decide (ByteArray.size (⟨#[45]⟩ : ByteArray) + ByteArray.size y' ≤ 9223372036854775807)) (req (decide (ByteArray.size ((⟨P.toArray⟩ : ByteArray) ++ y) + ByteArray.size ((⟨#[45]⟩ : ByteArray) ++ y') ≤ 9223372036854775807)) (curfewref06_Text_l1 q (rs, (((⟨P.toArray⟩ : ByteArray) ++ y) ++ ((⟨#[45]⟩ : ByteArray) ++ y')), (rs.length : Int), IntKind.wrap .i64 ((i : Int) + 1)) (⟨(Lib.join (rs.map runT) [44]).toArray⟩ : ByteArray))))) (curfewref06_Text_l1 q (rs, ((⟨P.toArray⟩ : ByteArray) ++ y), (rs.length : Int), IntKind.wrap .i64 ((i : Int) + 1)) (⟨(Lib.join (rs.map runT) [44]).toArray⟩ : ByteArray)))) := by
      intro P hP he
      rw [← he] at hq
      refine ⟨_, rdigits_fn (n := a) (by omega), ?_, ?_⟩
      · rw [mk_size P, mk_size (digL a)]; exact yes_of (by omega)
      · rw [wi_succ (by omega)]
        by_cases h1 : (b : Int) > (a : Int)
        · rw [if_pos h1] at eT
          rw [eT] at hq
          refine br_yes (yes_of h1) ⟨_, rdigits_fn (n := b) (by omega), ?_, ?_, ?_⟩
          · rw [mk_size (digL b)]; exact yes_of (by show 1 + _ ≤ _; omega)
          · rw [show (⟨#[45]⟩ : ByteArray) = ⟨[45].toArray⟩ from rfl, ba_append, ba_append, mk_size (P ++ digL a), mk_size ([45] ++ digL b)]; exact yes_of (by simp; omega)
          · rw [show (⟨#[45]⟩ : ByteArray) = ⟨[45].toArray⟩ from rfl, ba_append, ba_append, ba_append]
            rw [show P ++ (digL a ++ 45 :: digL b) = P ++ digL a ++ ([45] ++ digL b) by simp] at hq
            exact hq
        · rw [if_neg h1] at eT
          rw [eT] at hq
          refine br_no (no_of h1) ?_
          rw [ba_append]
          exact hq
    by_cases h0 : i = 0
    · refine br_no (no_of (by omega)) ?_
      have hJ0 : J = [] := by rw [← hJ, hnil.mpr h0]; rfl
      have := rest [] (by simp) (by rw [if_pos (hnil.mpr h0)]; rfl)
      rw [hJ0]
      exact this
    · refine br_yes (yes_of (by omega)) ⟨?_, ?_⟩
      · rw [mk_size J]; exact yes_of (by show _ + 1 ≤ _; omega)
      · rw [show (⟨#[44]⟩ : ByteArray) = ⟨[44].toArray⟩ from rfl, ba_append]
        exact rest (J ++ [44]) (by simp; omega) (by rw [if_neg (fun e => h0 (hnil.mp e))])

theorem rText_fn {k : Nat} (hk : k < 5) {m : Nat} (hm : okF k (m : Int) = true) : curfewref06_Text_R (k : Int) (m : Int) ⟨(textO k m).toArray⟩ := by
  obtain ⟨hlt, h0⟩ := okF_lt hk hm
  have hb := ends_bd k hk
  refine ⟨_, rWhole_fn hk, ?_⟩
  rw [wholeN_eq]
  unfold textO
  by_cases hw : m = wholeN k
  · rw [if_pos hw]
    exact br_yes (by simp [hw]) rfl
  · rw [if_neg hw]
    refine br_no (by simp; omega) ?_
    have hall := rAll_fn (m := (m : Int)) ⟨by omega, by omega⟩
    -- the steps
    have steps : ∃ q, curfewref06_Text_l0 q ((k : Int), (m : Int), 2) (match stepO k m with | some n => Sum.inl (⟨(42 :: 47 :: digL n).toArray⟩ : ByteArray) | none => Sum.inr ()) := by
      unfold stepO
      by_cases h3 : 3 ≤ (bitsL (m : Int)).length
      · rw [if_pos h3]
        have key : ∀ d n : Nat, n + d = 64 → 2 ≤ n → ∃ q, curfewref06_Text_l0 q ((k : Int), (m : Int), (n : Int)) (match stepF k m d n with | some r => Sum.inl (⟨(42 :: 47 :: digL r).toArray⟩ : ByteArray) | none => Sum.inr ()) := by
          intro d
          induction d with
          | zero => intro n h1 h2; exact ⟨1, br_no (no_of (by omega)) rfl⟩
          | succ d ih =>
            intro n h1 h2
            obtain ⟨q, hq⟩ := ih (n + 1) (by omega) (by omega)
            have hsp : curfewref01_Span_R (loA k) (hiA k) (n : Int) (((spanM (loA k).toNat (hiA k).toNat n : Nat) : Int), true) := by
              have : curfewref01_Span_R ((loA k).toNat : Int) ((hiA k).toNat : Int) (n : Int) (((spanM (loA k).toNat (hiA k).toNat n : Nat) : Int), true) := rSpan_fn (a := (loA k).toNat) (b := (hiA k).toNat) (s := n) (by omega) (by omega) (by omega) (by omega)
              generalize spanM (loA k).toNat (hiA k).toNat n = M at *
              rw [Int.toNat_of_nonneg (by omega), Int.toNat_of_nonneg (by omega)] at this
              exact this
            unfold stepF
            refine ⟨q + 1, br_yes (yes_of (by omega)) ⟨_, hall, br_yes (yes_of (by omega)) ⟨_, rEnds_fn hk, _, rEnds_fn hk, _, hsp, ?_⟩⟩⟩
            by_cases he : spanM (loA k).toNat (hiA k).toNat n = m
            · rw [if_pos he]
              have hl := digL_len n
              refine br_yes (by simp [he]) ⟨_, rdigits_fn (n := n) (by omega), ?_, ?_⟩
              · rw [mk_size (digL n)]; exact yes_of (by show 2 + _ ≤ _; omega)
              · rw [show (⟨#[42, 47]⟩ : ByteArray) = ⟨[42, 47].toArray⟩ from rfl, ba_append]; rfl
            · rw [if_neg he]
              refine br_no (by simp; omega) ?_
              rw [wi_succ (by omega)]
              exact hq
        exact key 62 2 (by omega) (by omega)
      · rw [if_neg h3]
        exact ⟨1, br_yes rfl ⟨_, hall, br_no (no_of (by omega)) rfl⟩⟩
    obtain ⟨q, hq⟩ := steps
    refine ⟨_, ⟨q, hq⟩, ?_⟩
    cases stepO k m with
    | some n => rfl
    | none =>
      obtain ⟨q2, hq2⟩ := rtext_loop (rs := runsO m) (runsO_len m) (fun r hr => runsO_mem hlt hr) (runsO m).length 0 (by omega)
      exact ⟨_, rRuns_fn hlt, _, ⟨q2, hq2⟩, rfl⟩
end Go.Proofs.YtjbpihalfaclkaaGreatDoor
