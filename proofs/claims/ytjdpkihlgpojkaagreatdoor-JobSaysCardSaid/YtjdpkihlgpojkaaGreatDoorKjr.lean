import Derived.Test.YtjdpkihlgpojkaaGreatDoorKf
import Derived.Test.YtjdpkihlgpojkaaGreatDoorKer
import Derived.Test.YtjdpkihlgpojkaaGreatDoorKop
/- What the reference makes of texts of fields. -/
namespace Go.Proofs.YtjdpkihlgpojkaaGreatDoor
open Go Go.B
set_option linter.unusedSimpArgs false
set_option linter.unusedVariables false
set_option linter.unusedSectionVars false
set_option maxRecDepth 20000

def nmB (k : Nat) : List ByteArray := (nmT k).map fun l => ⟨l.toArray⟩

theorem nmB_len (k : Nat) : (nmB k).length = (nmT k).length := by simp [nmB]

theorem nmT_le (k : Nat) : (nmT k).length ≤ 12 := by unfold nmT; split <;> decide
end Go.Proofs.YtjdpkihlgpojkaaGreatDoor
/- What the reference makes of texts of fields. -/
namespace Go.Proofs.YtjdpkihlgpojkaaGreatDoor
open Go Go.B
set_option linter.unusedSimpArgs false
set_option linter.unusedVariables false
set_option linter.unusedSectionVars false
set_option maxRecDepth 20000

theorem rnum_loop (s : ByteArray) (hs : s.size ≤ 3) : ∀ (d i : Nat) (n : Int), i + d = s.size → 0 ≤ n → n < 10 ^ i → ∃ q, curfewref06_number_l0 q (s, n, (i : Int)) (if ((bl s).drop i).all dig = true then Sum.inr (valF n ((bl s).drop i)) else Sum.inl ())
  | 0, i, n, h, h0, h1 => by
    refine ⟨1, br_no (no_of (by omega)) ?_⟩
    rw [List.drop_eq_nil_of_le (by rw [bl_len]; omega)]; rfl
  | d + 1, i, n, h, h0, h1 => by
    have hi : i < s.size := by omega
    have hn : n < 1000 := by
      have : (10 : Int) ^ i ≤ 10 ^ 3 := by
        have : (10 : Nat) ^ i ≤ 10 ^ 3 := Nat.pow_le_pow_right (by omega) (by omega)
        exact_mod_cast this
      omega
    rw [drop_bl hi]
    obtain ⟨b, hb⟩ : ∃ b, (bl s).getD i 0 = b := ⟨_, rfl⟩
    have hb' : (List.getD (Array.toList (ByteArray.data s)) (Int.toNat (i : Int)) 0) = b := hb
    rw [hb, List.all_cons]
    have start : ∀ (q : Nat) {Y : curfewref06_number_l0_Y}, br (decide (((b.toNat : Nat) : Int) < 48)) (Sum.inl () = Y) (br (decide (((b.toNat : Nat) : Int) > 57)) (Sum.inl () = Y) (curfewref06_number_l0 q (s, IntKind.wrap .i64 (IntKind.wrap .i64 (10 * n) + IntKind.wrap .i64 (IntKind.wrap .u8 (((b.toNat : Nat) : Int) - 48))), IntKind.wrap .i64 ((i : Int) + 1)) Y)) → curfewref06_number_l0 (q + 1) (s, n, (i : Int)) Y := fun q {Y} hx => by
      refine br_yes (yes_of (by omega)) ⟨ix_ok hi, ?_⟩
      rw [hb']
      cases e : decide (((b.toNat : Nat) : Int) < 48)
      · rw [e] at hx
        cases e2 : decide (((b.toNat : Nat) : Int) > 57)
        · rw [e2] at hx
          exact br_no rfl ⟨ix_ok hi, br_no rfl ⟨ix_ok hi, hx⟩⟩
        · rw [e2] at hx
          exact br_no rfl ⟨ix_ok hi, br_yes rfl hx⟩
      · rw [e] at hx
        exact br_yes rfl hx
    cases hd : dig b
    · rw [Bool.false_and, if_neg (by decide)]
      have : ¬ (48 ≤ b.toNat ∧ b.toNat ≤ 57) := fun e => by rw [dig_iff.mpr e] at hd; cases hd
      by_cases h2 : b.toNat < 48
      · exact ⟨1, start 0 (br_yes (yes_of (by omega)) rfl)⟩
      · exact ⟨1, start 0 (br_no (no_of (by omega)) (br_yes (yes_of (by omega)) rfl))⟩
    · have hb2 := dig_iff.mp hd
      rw [Bool.true_and]
      obtain ⟨q, hq⟩ := rnum_loop s hs d (i + 1) (10 * n + ((b.toNat : Int) - 48)) (by omega) (by omega) (by rw [Int.pow_succ]; omega)
      refine ⟨q + 1, start q (br_no (no_of (by omega)) (br_no (no_of (by omega)) ?_))⟩
      have e1 : IntKind.wrap .u8 (((b.toNat : Nat) : Int) - 48) = (b.toNat : Int) - 48 := by
        obtain ⟨q, hq⟩ : ∃ q : Nat, (b.toNat : Int) - 48 = (q : Int) := ⟨b.toNat - 48, by omega⟩
        rw [hq]
        have : ∀ q : Fin 10, IntKind.wrap .u8 (q.val : Int) = (q.val : Int) := by decide
        exact this ⟨q, by omega⟩
      rw [e1, wi (x := 10 * n) (by omega) (by omega), wi (x := (b.toNat : Int) - 48) (by omega) (by omega), wi (x := 10 * n + ((b.toNat : Int) - 48)) (by omega) (by omega), wi_succ (by omega)]
      exact hq

theorem rnumber_fn (s : ByteArray) : curfewref06_number_R s (valR (numO (bl s))) := by
  unfold numO
  by_cases h0 : bl s = []
  · rw [if_neg (by simp [h0])]
    exact br_yes (by rw [tl_same]; simp [h0]) rfl
  · have e0 : (ByteArray.toList s == ByteArray.toList (⟨#[]⟩ : ByteArray)) = false := by rw [tl_same]; simpa using h0
    refine br_no e0 ?_
    have hpos : 0 < s.size := by rw [← bl_len]; exact List.length_pos_iff.mpr h0
    by_cases h3 : 3 < s.size
    · rw [if_neg (fun e => by have := e.2; unfold good at this; rw [bl_len] at this; simp at this; omega)]
      exact br_yes (yes_of (by omega)) rfl
    · refine br_no (no_of (by omega)) ?_
      obtain ⟨q, hq⟩ := rnum_loop s (by omega) s.size 0 0 (by omega) (by omega) (by decide)
      rw [List.drop_zero] at hq
      have hloop : ∀ hg : (decide ((bl s).length ≤ 1) || !((bl s).headD 0 == 48)) = true, ∃ y : curfewref06_number_l0_Y, curfewref06_number_l0_L (s, 0, 0) y ∧ sume (fun y => ((0 : Int), false) = valR (if bl s ≠ [] ∧ good (bl s) = true then some (valL (bl s)) else none)) (fun y => ((y : Int), true) = valR (if bl s ≠ [] ∧ good (bl s) = true then some (valL (bl s)) else none)) y := fun hg => by
        refine ⟨_, ⟨q, hq⟩, ?_⟩
        by_cases ha : (bl s).all dig = true
        · rw [if_pos ha, if_pos ⟨h0, by unfold good; rw [hg, ha]; simp; (try rw [bl_len]); omega⟩]
          rfl
        · rw [if_neg ha, if_neg (fun e => by have := e.2; unfold good at this; simp only [Bool.and_eq_true] at this; exact ha this.2)]
          rfl
      by_cases h1 : 1 < s.size
      · refine br_yes (yes_of (by omega)) ⟨yes_of (by omega), ?_⟩
        have hd : (bl s).getD 0 0 = (bl s).headD 0 := by cases bl s <;> rfl
        by_cases h48 : (bl s).headD 0 = 48
        · rw [if_neg (fun e => by have := e.2; unfold good at this; rw [h48, bl_len] at this; simp at this; omega)]
          refine br_yes ?_ rfl
          show ((((bl s).getD 0 0).toNat : Int) == 48) = true
          rw [hd, h48]; rfl
        · refine br_no ?_ (hloop (by rw [Bool.or_eq_true]; right; simpa using h48))
          show ((((bl s).getD 0 0).toNat : Int) == 48) = false
          rw [hd]
          have : ((bl s).headD 0).toNat ≠ 48 := fun e => h48 (by rw [← UInt8.toNat_inj]; exact e)
          exact beq_eq_false_iff_ne.mpr (by omega)
      · exact br_no (no_of (by omega)) (hloop (by rw [bl_len]; simp; omega))

theorem rnames_fn {k : Nat} (hk : k < 5) : curfewref06_names_R (k : Int) (nmB k) := by
  match k, hk with
  | 0, _ | 1, _ | 2, _ => exact br_no rfl (br_no rfl rfl)
  | 3, _ => exact br_yes rfl rfl
  | 4, _ => exact br_no rfl (br_yes rfl rfl)

theorem rvalue_loop {k : Nat} (hk : k < 5) (s : ByteArray) (hs : s.size ≤ 1000000) : ∀ (d i : Nat), i + d = (nmT k).length → ∃ q, curfewref06_Value_l0 q (loA k, hiA k, (k : Int), s, nmB k, ((nmB k).length : Int), (i : Int)) (match fnd ((bl s).map upB) ((nmT k).drop i) i with | some j => Sum.inl (loA k + (j : Int)) | none => Sum.inr ()) := by
  have hle := nmT_le k
  have hb := ends_bd k hk
  intro d
  induction d with
  | zero =>
    intro i h
    refine ⟨1, br_no (no_of (by rw [nmB_len]; omega)) ?_⟩
    rw [List.drop_eq_nil_of_le (by omega)]; rfl
  | succ d ih =>
    intro i h
    obtain ⟨q, hq⟩ := ih (i + 1) (by omega)
    have hil : i < (nmT k).length := by omega
    have hib : i < (nmB k).length := by rw [nmB_len]; exact hil
    rw [dropS [] hil]
    unfold fnd
    have hget : bl ((nmB k).getD i (⟨#[]⟩ : ByteArray)) = (nmT k).getD i [] := by
      rw [List.getD_eq_getElem?_getD, List.getD_eq_getElem?_getD]
      unfold nmB
      rw [List.getElem?_map]
      cases (nmT k)[i]? <;> rfl
    refine ⟨q + 1, br_yes (yes_of (by rw [nmB_len]; omega)) ⟨ix_ok hib, _, ⟨hs, rfl⟩, ?_⟩⟩
    rw [Int.toNat_natCast, tl_same, hget, bl_mk ((s.data.toList).map upB)]
    by_cases he : (bl s).map upB = (nmT k).getD i []
    · rw [if_pos he]
      refine br_yes (yes_of he) ?_
      show Sum.inl (IntKind.wrap .i64 (loA k + (i : Int))) = Sum.inl (loA k + (i : Int))
      rw [wi (by omega) (by omega)]
    · rw [if_neg he]
      refine br_no (no_of he) ?_
      show curfewref06_Value_l0 q (loA k, hiA k, (k : Int), s, nmB k, ((nmB k).length : Int), IntKind.wrap .i64 ((i : Int) + 1)) _
      rw [wi_succ (by omega)]
      exact hq

theorem rValue_fn {k : Nat} (hk : k < 5) (s : ByteArray) (hs : s.size ≤ 1000000) : curfewref06_Value_R (k : Int) s (valR (valO k (bl s))) := by
  have hb := ends_bd k hk
  obtain ⟨q, hq⟩ := rvalue_loop hk s hs (nmT k).length 0 (by omega)
  rw [List.drop_zero] at hq
  refine ⟨_, rEnds_fn hk, _, rnames_fn hk, _, ⟨q, hq⟩, ?_⟩
  unfold valO
  have num : ∀ hi : Int, ∃ y7 : Int × Bool, curfewref06_number_R s y7 ∧ br (!(y7.2)) ((0, false) = valR (numQ (bl s) (loA k) hi)) (br (decide (y7.1 < loA k)) ((0, false) = valR (numQ (bl s) (loA k) hi)) (br (decide (y7.1 > hi)) ((0, false) = valR (numQ (bl s) (loA k) hi)) ((y7.1, true) = valR (numQ (bl s) (loA k) hi)))) := fun hi => by
    refine ⟨_, rnumber_fn s, ?_⟩
    unfold numQ
    cases hn : numO (bl s) with
    | none => exact br_yes rfl rfl
    | some v =>
      refine br_no rfl ?_
      show br (decide (v < loA k)) _ (br (decide (v > hi)) _ ((v, true) = _))
      simp only
      by_cases h1 : v < loA k
      · rw [if_neg (by omega)]; exact br_yes (yes_of h1) rfl
      · refine br_no (no_of h1) ?_
        by_cases h2 : v > hi
        · rw [if_neg (by omega)]; exact br_yes (yes_of h2) rfl
        · rw [if_pos (by omega)]; exact br_no (no_of h2) rfl
  cases hf : fnd ((bl s).map upB) (nmT k) 0 with
  | some j => exact rfl
  | none =>
    show br ((k : Int) == 4) _ _
    by_cases h4 : k = 4
    · refine br_yes (by simp; omega) ?_
      have := num 7
      unfold numQ at this
      unfold hiV
      rw [if_pos h4]
      exact this
    · refine br_no (by simp; omega) ?_
      have := num (hiA k)
      unfold numQ at this
      unfold hiV
      rw [if_neg h4]
      exact this
/- cutting -/

theorem rcut_loop (s : ByteArray) (hs : s.size ≤ 1000000) (c : UInt8) : ∀ (d i : Nat), i + d = s.size → ∃ q, curfewref06_cut_l0 q (s, (c.toNat : Int), (i : Int)) (if (cutO c ((bl s).drop i)).2.2 = true then Sum.inl (⟨((bl s).take i ++ (cutO c ((bl s).drop i)).1).toArray⟩, ⟨(cutO c ((bl s).drop i)).2.1.toArray⟩) else Sum.inr ())
  | 0, i, h => by
    refine ⟨1, br_no (no_of (by omega)) ?_⟩
    rw [List.drop_eq_nil_of_le (by rw [bl_len]; omega)]; rfl
  | d + 1, i, h => by
    have hi : i < s.size := by omega
    obtain ⟨q, hq⟩ := rcut_loop s hs c d (i + 1) (by omega)
    have hd := drop_bl hi
    have ht : (bl s).take (i + 1) = (bl s).take i ++ [(bl s).getD i 0] := by
      have hi' : i < (bl s).length := hi
      rw [List.take_add_one, List.getD_eq_getElem?_getD, List.getElem?_eq_getElem hi']; rfl
    obtain ⟨b, hb⟩ : ∃ b, (bl s).getD i 0 = b := ⟨_, rfl⟩
    have hb' : (List.getD (Array.toList (ByteArray.data s)) (Int.toNat (i : Int)) 0) = b := hb
    rw [hb] at hd ht
    rw [hd]
    unfold cutO
    refine ⟨q + 1, br_yes (yes_of (by omega)) ⟨ix_ok hi, ?_⟩⟩
    rw [hb']
    by_cases he : b = c
    · rw [if_pos he]
      refine br_yes (by rw [he]; simp) ⟨?_, ?_, ?_⟩
      · simp [Nat.ble_eq]; omega
      · rw [wi_succ (by omega), Int.toNat_natCast]; simp [Nat.ble_eq]; omega
      · rw [wi_succ (by omega), Int.toNat_natCast, Int.toNat_natCast]
        simp only [if_true]
        congr 2
        · apply bl_ext
          rw [bl_extract, bl_mk ((bl s).take i ++ [])]; simp
        · apply bl_ext
          rw [bl_extract, bl_mk ((bl s).drop (i + 1))]
          exact List.take_of_length_le (by rw [List.length_drop, bl_len]; omega)
    · rw [if_neg he]
      refine br_no ?_ ?_
      · have : b.toNat ≠ c.toNat := fun e => he (by rw [← UInt8.toNat_inj]; exact e)
        simp; omega
      · rw [wi_succ (by omega)]
        rw [ht] at hq
        simp only [List.append_assoc, List.singleton_append] at hq
        exact hq

theorem rcut_fn (s : ByteArray) (hs : s.size ≤ 1000000) (c : UInt8) : curfewref06_cut_R s (c.toNat : Int) (⟨(cutO c (bl s)).1.toArray⟩, ⟨(cutO c (bl s)).2.1.toArray⟩, (cutO c (bl s)).2.2) := by
  obtain ⟨q, hq⟩ := rcut_loop s hs c s.size 0 (by omega)
  rw [List.drop_zero, List.take_zero, List.nil_append] at hq
  refine ⟨_, ⟨q, hq⟩, ?_⟩
  cases h : (cutO c (bl s)).2.2
  · rw [if_neg (by decide)]
    obtain ⟨h1, h2, _⟩ := cutO_no h
    rw [h1, h2]
    rfl
  · rw [if_pos rfl]
    rfl
/- items -/

def rTail (k by_ f t : Int) (y : Int × Bool) : Prop := ∃ y7 : Int × Bool, curfewref01_Span_R f t by_ y7 ∧ (br (y7.2) (br (k == 4) (∃ y8 : Bool, curfewref01_Has_R (y7.1) 7 y8 ∧ (br y8 (∃ y9 : List Int, curfewref01_All_R (y7.1) y9 ∧ (req (Nat.ble ((List.length ([0] ++ y9)) * 9) 140737488355328) (∃ y12 : Int × Bool, curfewref01_Of_R ([0] ++ y9) y12 ∧ ((IntKind.wrap .u64 (y12.1 - 128), y12.2) = y)))) (y7 = y))) (y7 = y)) (y7 = y))

theorem rTail_fn {k : Nat} (hk : k < 5) {f t s : Int} (hf : 0 ≤ f ∧ f ≤ hiV k) (ht : 0 ≤ t ∧ t ≤ hiV k) (hs : 1 ≤ s ∧ s ≤ 63) : rTail (k : Int) s f t (spR k f t s) := by
  have hb := ends_bd k hk
  obtain ⟨f, rfl⟩ : ∃ n : Nat, f = n := ⟨f.toNat, by omega⟩
  obtain ⟨t, rfl⟩ : ∃ n : Nat, t = n := ⟨t.toNat, by omega⟩
  obtain ⟨s, rfl⟩ : ∃ n : Nat, s = n := ⟨s.toNat, by omega⟩
  unfold spR
  simp only [Int.toNat_natCast]
  by_cases hft : f ≤ t
  · rw [if_pos (by omega)]
    have hm := spanM_u64 (a := f) (b := t) (s := s) (by omega) (by omega)
    have hm8 : k = 4 → spanM f t s < 256 := fun e => by
      have h1 := spanM_lt (a := f) (b := t) (s := s)
      have h7 := hb.2.2.2.2 e
      have : (2 : Nat) ^ (max f t + 1) ≤ 2 ^ 8 := Nat.pow_le_pow_right (by omega) (by omega)
      omega
    have hsp : curfewref01_Span_R (f : Int) (t : Int) (s : Int) (((spanM f t s : Nat) : Int), true) := rSpan_fn (a := f) (b := t) (s := s) hft (by omega) (by omega) (by omega)
    refine ⟨_, hsp, br_yes rfl ?_⟩
    clear hsp
    generalize spanM f t s = m at *
    by_cases h4 : k = 4
    · subst h4
      have hm8 := hm8 rfl
      have e7 : hasB (m : Int) 7 = m.testBit 7 := by simp [hasB, mayB]
      refine br_yes rfl ⟨_, rHas_fn (m := (m : Int)) ⟨by omega, by omega⟩ 7, ?_⟩
      cases h7 : m.testBit 7
      · refine br_no (by rw [e7, h7]) ?_
        unfold fixM; rw [if_neg (by simp [h7])]
      · obtain ⟨q1, q2⟩ := fix_all ⟨m, hm8⟩ h7
        simp only at q1 q2
        have hlen := bitsL_len (m : Int)
        refine br_yes (by rw [e7, h7]) ⟨_, rAll_fn (m := (m : Int)) ⟨by omega, by omega⟩, nl_ok (by simp; omega), _, rOf_fn (l := [0] ++ bitsL (m : Int)) ?_ (by simp; omega), ?_⟩
        · intro x hx
          rcases List.mem_append.mp hx with h | h
          · simp at h; omega
          · exact bitsL_mem h
        · rw [q1]
          show (IntKind.wrap .u64 (((m ||| 1 : Nat) : Int) - 128), true) = _
          unfold fixM
          rw [if_pos ⟨rfl, h7⟩]
          have hand : (m ||| 1) &&& 127 ≤ 127 := Nat.and_le_right
          rw [wu (by omega) (by omega)]
          congr 1
          omega
    · refine br_no (by simp; omega) ?_
      unfold fixM; rw [if_neg (fun e => h4 e.1)]
  · rw [if_neg (by omega)]
    exact ⟨(0, false), br_no (no_of (by omega)) (br_no (no_of (by omega)) (br_yes (yes_of (by omega)) rfl)), br_no rfl rfl⟩

def rMid (k lo hi : Int) (sp : ByteArray) (has : Bool) (by_ : Int) (y : Int × Bool) : Prop :=
  br (!(ByteArray.toList sp == ByteArray.toList (⟨#[42]⟩ : ByteArray))) (∃ y4 : ByteArray × ByteArray × Bool, curfewref06_cut_R sp 45 y4 ∧ (∃ y5 : Int × Bool, curfewref06_Value_R k (y4.1) y5 ∧ (br (!(y5.2)) ((0, false) = y) (br has (br (!(y4.2.2)) ((0, false) = y) (br (y4.2.2) (∃ y6 : Int × Bool, curfewref06_Value_R k (y4.2.1) y6 ∧ (br (!(y6.2)) ((0, false) = y) (rTail k by_ (y5.1) (y6.1) y))) (rTail k by_ (y5.1) (y5.1) y))) (br (y4.2.2) (∃ y6 : Int × Bool, curfewref06_Value_R k (y4.2.1) y6 ∧ (br (!(y6.2)) ((0, false) = y) (rTail k by_ (y5.1) (y6.1) y))) (rTail k by_ (y5.1) (y5.1) y)))))) (rTail k by_ lo hi y)

theorem rMid_fn {k : Nat} (hk : k < 5) (sp : ByteArray) (hs : sp.size ≤ 1000000) (has : Bool) {by_ : Int} (hby : 1 ≤ by_ ∧ by_ ≤ 63) : rMid (k : Int) (loA k) (hiA k) sp has by_ (match runO k (bl sp) has with | some (f, t) => spR k f t by_ | none => (0, false)) := by
  have hb := ends_bd k hk
  have cutv := rcut_fn sp hs 45
  have hl1 := (cutO_len (c := 45) (bl sp)).1
  have hl2 := cutO_len2 (c := 45) (bl sp)
  rw [bl_len] at hl1 hl2
  have v1 := rValue_fn hk ⟨(cutO 45 (bl sp)).1.toArray⟩ (by rw [mk_size]; omega)
  have v2 := rValue_fn hk ⟨(cutO 45 (bl sp)).2.1.toArray⟩ (by rw [mk_size]; omega)
  rw [bl_mk (cutO 45 (bl sp)).1] at v1
  rw [bl_mk (cutO 45 (bl sp)).2.1] at v2
  unfold runO rMid
  rw [tl_same]
  by_cases h42 : bl sp = [42]
  · rw [if_pos h42]
    exact br_no (by simp [h42]) (rTail_fn hk (by omega) (by omega) hby)
  · rw [if_neg h42]
    refine br_yes (by simp [h42]) ⟨_, cutv, _, v1, ?_⟩
    cases h1 : valO k (cutO 45 (bl sp)).1 with
    | none => exact br_yes rfl rfl
    | some f =>
      have hf := valO_bd hk h1
      refine br_no rfl ?_
      cases hd : (cutO 45 (bl sp)).2.2
      · cases has
        · exact br_no rfl (br_no rfl (rTail_fn hk (f := f) (t := f) (by omega) (by omega) hby))
        · exact br_yes rfl (br_yes rfl rfl)
      · have two : ∃ y6 : Int × Bool, curfewref06_Value_R (k : Int) ⟨(cutO 45 (bl sp)).2.1.toArray⟩ y6 ∧ (br (!(y6.2)) ((0, false) = (match (match valO k (cutO 45 (bl sp)).2.1 with | some t => some (f, t) | none => none) with | some (f, t) => spR k f t by_ | none => ((0 : Int), false))) (rTail (k : Int) by_ f (y6.1) (match (match valO k (cutO 45 (bl sp)).2.1 with | some t => some (f, t) | none => none) with | some (f, t) => spR k f t by_ | none => ((0 : Int), false)))) := by
          refine ⟨_, v2, ?_⟩
          cases h2 : valO k (cutO 45 (bl sp)).2.1 with
          | none => exact br_yes rfl rfl
          | some t =>
            have ht := valO_bd hk h2
            exact br_no rfl (rTail_fn hk (f := f) (t := t) (by omega) (by omega) hby)
        cases has
        · exact br_no rfl (br_yes rfl two)
        · exact br_yes rfl (br_no rfl (br_yes rfl two))

theorem mid_item (k : Nat) (sp : List UInt8) (has : Bool) (by_ : Int) : (match runO k sp has with | some (f, t) => spR k f t by_ | none => ((0 : Int), false)) = itemR (match runO k sp has with | none => none | some (f, t) => if f ≤ t then some (fixM k (spanM f.toNat t.toNat by_.toNat)) else none) := by
  cases runO k sp has with
  | none => rfl
  | some p =>
    obtain ⟨f, t⟩ := p
    show spR k f t by_ = itemR (if f ≤ t then _ else _)
    unfold spR
    by_cases h : f ≤ t
    · rw [if_pos h, if_pos h]; rfl
    · rw [if_neg h, if_neg h]; rfl

theorem ritem_fn {k : Nat} (hk : k < 5) (l : ByteArray) (hl : l.size ≤ 1000000) : curfewref06_item_R (k : Int) l (itemR (itemO k (bl l))) := by
  have hl1 := (cutO_len (c := 47) (bl l)).1
  have hl2 := cutO_len2 (c := 47) (bl l)
  rw [bl_len] at hl1 hl2
  have cutv := rcut_fn l hl 47
  unfold itemO
  refine ⟨_, rEnds_fn hk, _, cutv, ?_⟩
  generalize hsp : (cutO 47 (bl l)).1 = sp at *
  generalize hst : (cutO 47 (bl l)).2.1 = st at *
  generalize hhas : (cutO 47 (bl l)).2.2 = has at *
  have rest : ∀ by_ : Int, 1 ≤ by_ ∧ by_ ≤ 63 → rMid (k : Int) (loA k) (hiA k) ⟨sp.toArray⟩ has by_ (itemR (match runO k sp has with | none => none | some (f, t) => if f ≤ t then some (fixM k (spanM f.toNat t.toNat by_.toNat)) else none)) := fun by_ hby => by
    have := rMid_fn hk ⟨sp.toArray⟩ (by rw [mk_size]; omega) has hby
    rw [bl_mk sp, mid_item] at this
    exact this
  unfold byO
  cases has
  · exact br_no rfl (rest 1 (by omega))
  · simp only [if_true]
    have hn := rnumber_fn ⟨st.toArray⟩
    rw [bl_mk st] at hn
    refine br_yes rfl ⟨_, hn, ?_⟩
    cases hv : numO st with
    | none => exact br_yes rfl rfl
    | some v =>
      refine br_no rfl ?_
      show br (decide (v < 1)) _ (br (decide (v > 63)) _ _)
      by_cases h1 : v < 1
      · simp only [if_neg (show ¬ (1 ≤ v ∧ v ≤ 63) by omega)]
        exact br_yes (yes_of h1) rfl
      · refine br_no (no_of h1) ?_
        by_cases h2 : v > 63
        · simp only [if_neg (show ¬ (1 ≤ v ∧ v ≤ 63) by omega)]
          exact br_yes (yes_of h2) rfl
        · simp only [if_pos (show (1 ≤ v ∧ v ≤ 63) by omega)]
          exact br_no (no_of h2) (rest v (by omega))
end Go.Proofs.YtjdpkihlgpojkaaGreatDoor
/- What the reference makes of texts of fields: fields. -/
namespace Go.Proofs.YtjdpkihlgpojkaaGreatDoor
open Go Go.B
set_option linter.unusedSimpArgs false
set_option linter.unusedVariables false
set_option linter.unusedSectionVars false
set_option maxRecDepth 20000

theorem rOr_fn {l : List Nat} (hl : l.length ≤ 1000) (h : ∀ m ∈ l, m < 18446744073709551616) : curfewref01_Or_R (l.map (fun m : Nat => (m : Int))) ((orL l : Nat) : Int) := by
  have key : ∀ d i, i + d = l.length → ∃ q, curfewref01_Or_l0 q (allB (l.take i), l.map (fun m : Nat => (m : Int)), ((l.map (fun m : Nat => (m : Int))).length : Int), (i : Int)) (allB l) := by
    intro d
    induction d with
    | zero =>
      intro i hi
      refine ⟨1, br_no (no_of (by rw [List.length_map]; omega)) ?_⟩
      rw [List.take_of_length_le (by omega)]
    | succ d ih =>
      intro i hi
      obtain ⟨q, hq⟩ := ih (i + 1) (by omega)
      have hlt : i < l.length := by omega
      have hlm : i < (l.map (fun m : Nat => (m : Int))).length := by rw [List.length_map]; exact hlt
      have hget : (l.map (fun m : Nat => (m : Int))).getD i 0 = ((l.getD i 0 : Nat) : Int) := by
        rw [List.getD_eq_getElem?_getD, List.getD_eq_getElem?_getD, List.getElem?_map, List.getElem?_eq_getElem hlt]; rfl
      have hmem : l.getD i 0 ∈ l := by rw [List.getD_eq_getElem?_getD, List.getElem?_eq_getElem hlt]; exact List.getElem_mem hlt
      have ht : l.take (i + 1) = l.take i ++ [l.getD i 0] := by
        rw [List.take_add_one, List.getD_eq_getElem?_getD, List.getElem?_eq_getElem hlt]; rfl
      have hb := h _ hmem
      have hlen := allB_len (l.take i)
      have hbl := bitsL_len ((l.getD i 0 : Nat) : Int)
      rw [List.length_take] at hlen
      rw [ht, allB_snoc] at hq
      refine ⟨q + 1, br_yes (yes_of (by rw [List.length_map]; omega)) ⟨ix_ok hlm, ?_⟩⟩
      rw [Int.toNat_natCast, hget]
      refine ⟨_, rAll_fn (m := ((l.getD i 0 : Nat) : Int)) ⟨by omega, by omega⟩, nl_ok (by rw [List.length_append]; omega), ?_⟩
      rw [wi_succ (by omega)]
      exact hq
  obtain ⟨q, hq⟩ := key l.length 0 (by omega)
  have hlen := allB_len l
  refine ⟨_, ⟨q, hq⟩, _, rOf_fn (l := allB l) (fun x hx => allB_mem hx) (by omega), ?_⟩
  rw [ofM_allB h]

theorem rread_loop {k : Nat} (hk : k < 5) : ∀ (n : Nat) (r : List UInt8) (a : Nat) (l : List Nat), r.count 44 ≤ n → r.length ≤ 300 → l.length + n ≤ 300 → a ≤ l.length * 301 → ∃ q, curfewref06_Read_l0 q (l.map (fun m : Nat => (m : Int)), (k : Int), (a : Int), (⟨r.toArray⟩ : ByteArray), true) (match rdL k (splitN 44 n r) a l with | .inl p => Sum.inl (p : Int) | .inr l' => Sum.inr (l'.map (fun m : Nat => (m : Int)))) := by
  -- a round: the piece, and what comes behind
  have round : ∀ (r : List UInt8) (a : Nat) (l : List Nat), r.length ≤ 300 → l.length ≤ 300 → a ≤ l.length * 301 → ∀ (Y : curfewref06_Read_l0_Y), (match itemO k (cutO 44 r).1 with
      | none => Y = Sum.inl (a : Int)
      | some v => ∃ q, curfewref06_Read_l0 q ((l ++ [v]).map (fun m : Nat => (m : Int)), (k : Int), ((a + (cutO 44 r).1.length + 1 : Nat) : Int), (⟨(cutO 44 r).2.1.toArray⟩ : ByteArray), (cutO 44 r).2.2) Y) → ∃ q, curfewref06_Read_l0 q (l.map (fun m : Nat => (m : Int)), (k : Int), (a : Int), (⟨r.toArray⟩ : ByteArray), true) Y := by
    intro r a l hr hl ha Y h
    have hl1 := (cutO_len (c := 44) r).1
    have cutv := rcut_fn ⟨r.toArray⟩ (by rw [mk_size]; omega) 44
    rw [bl_mk r] at cutv
    have it := ritem_fn hk ⟨(cutO 44 r).1.toArray⟩ (by rw [mk_size]; omega)
    rw [bl_mk (cutO 44 r).1] at it
    cases ho : itemO k (cutO 44 r).1 with
    | none =>
      rw [ho] at h it
      subst h
      exact ⟨1, br_yes rfl ⟨_, cutv, _, it, br_yes rfl rfl⟩⟩
    | some v =>
      rw [ho] at h it
      obtain ⟨q, hq⟩ := h
      refine ⟨q + 1, br_yes rfl ⟨_, cutv, _, it, br_no rfl ⟨nl_ok (by simp; omega), ?_⟩⟩⟩
      have e1 : IntKind.wrap .i64 (IntKind.wrap .i64 ((a : Int) + ((ByteArray.size (⟨(cutO 44 r).1.toArray⟩ : ByteArray) : Nat) : Int)) + 1) = ((a + (cutO 44 r).1.length + 1 : Nat) : Int) := by
        rw [mk_size, wi (x := (a : Int) + (((cutO 44 r).1.length : Nat) : Int)) (by omega) (by omega), wi (by omega) (by omega)]; omega
      show curfewref06_Read_l0 q (l.map (fun m : Nat => (m : Int)) ++ [(v : Int)], (k : Int), IntKind.wrap .i64 (IntKind.wrap .i64 ((a : Int) + ((ByteArray.size (⟨(cutO 44 r).1.toArray⟩ : ByteArray) : Nat) : Int)) + 1), (⟨(cutO 44 r).2.1.toArray⟩ : ByteArray), (cutO 44 r).2.2) Y
      rw [e1]
      rw [List.map_append] at hq
      exact hq
  have last : ∀ (r : List UInt8) (a : Nat) (l : List Nat), r.length ≤ 300 → l.length ≤ 300 → a ≤ l.length * 301 → (cutO 44 r).2.2 = false → ∃ q, curfewref06_Read_l0 q (l.map (fun m : Nat => (m : Int)), (k : Int), (a : Int), (⟨r.toArray⟩ : ByteArray), true) (match rdL k [r] a l with | .inl p => Sum.inl (p : Int) | .inr l' => Sum.inr (l'.map (fun m : Nat => (m : Int)))) := by
    intro r a l hr hl ha hc
    refine round r a l hr hl ha _ ?_
    have c1 := (cutO_no hc).1
    rw [c1]
    unfold rdL
    cases itemO k r with
    | none => rfl
    | some v =>
      refine ⟨1, ?_⟩
      rw [hc]
      exact br_no rfl rfl
  intro n
  induction n with
  | zero =>
    intro r a l h1 h2 h3 h4
    unfold splitN
    refine last r a l h2 (by omega) h4 ?_
    cases hc : (cutO 44 r).2.2
    · rfl
    · exfalso
      have : (44 : UInt8) ∈ r := by rw [(cutO_yes hc).1]; simp
      exact absurd (List.count_pos_iff.mpr this) (by omega)
  | succ n ih =>
    intro r a l h1 h2 h3 h4
    unfold splitN
    cases hc : (cutO 44 r).2.2
    · rw [if_neg (by decide)]
      exact last r a l h2 (by omega) h4 hc
    · rw [if_pos rfl]
      obtain ⟨k1, k2⟩ := cutO_yes hc
      have hcount : r.count 44 = (cutO 44 r).2.1.count 44 + 1 := by
        conv => lhs; rw [k1]
        rw [List.count_append, List.count_cons_self, List.count_eq_zero_of_not_mem k2]; omega
      have hlen := (cutO_len (c := 44) r).2 hc
      refine round r a l h2 (by omega) h4 _ ?_
      unfold rdL
      cases ho : itemO k (cutO 44 r).1 with
      | none => rfl
      | some v =>
        rw [hc]
        exact ih (cutO 44 r).2.1 (a + (cutO 44 r).1.length + 1) (l ++ [v]) (by omega) (by omega) (by simp; omega) (by simp; omega)

theorem rRead_fn {k : Nat} (hk : k < 5) (s : ByteArray) (hs : s.size ≤ 1000000) : curfewref06_Read_R (k : Int) s (readO k (bl s)) := by
  unfold readO
  rw [bl_len]
  by_cases h : 256 < s.size
  · rw [if_pos h]
    exact br_yes (yes_of (by omega)) rfl
  · rw [if_neg h]
    refine br_no (no_of (by omega)) ?_
    obtain ⟨q, hq⟩ := rread_loop hk (bl s).length (bl s) 0 [] List.count_le_length (by rw [bl_len]; omega) (by rw [bl_len]; simp; omega) (by simp)
    refine ⟨_, ⟨q, hq⟩, ?_⟩
    have e := rdL_readL k (splitC 44 (bl s)) 0 []
    have e2 : orL [] = 0 := rfl
    rw [e2] at e
    rw [e]
    unfold splitC
    cases hr : rdL k (splitN 44 (bl s).length (bl s)) 0 [] with
    | inl p => rfl
    | inr l' =>
      obtain ⟨h1, h2⟩ := rdL_ok hk _ _ _ l' (fun m hm => by cases hm) hr
      have := splitN_len 44 (bl s).length (bl s)
      rw [bl_len] at this
      refine ⟨_, rOr_fn (by simp at h2; rw [h2]; omega) h1, rfl⟩
end Go.Proofs.YtjdpkihlgpojkaaGreatDoor
