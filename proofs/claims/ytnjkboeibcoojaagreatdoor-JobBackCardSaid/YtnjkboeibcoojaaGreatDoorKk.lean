/- What the program makes of masks: the one text of a field. -/
import Derived.Test.YtnjkboeibcoojaaGreatDoorKi
import Derived.Test.YtnjkboeibcoojaaGreatDoorKn
namespace Go.Proofs.YtnjkboeibcoojaaGreatDoor
open Go Go.B
set_option linter.unusedSimpArgs false
set_option linter.unusedVariables false
set_option linter.unusedSectionVars false
set_option maxRecDepth 20000

/-- a number below 100 as a text -/
def digL (n : Nat) : List UInt8 := if n < 10 then [UInt8.ofNat (48 + n)] else [UInt8.ofNat (48 + n / 10), UInt8.ofNat (48 + n % 10)]

theorem dec_dig {n : Nat} (h : n < 100) : Lib.decDigits n = digL n := by
  unfold digL
  rw [Lib.decDigits]
  split
  · rfl
  · rw [Lib.decDigits, dif_pos (by omega)]
    rfl

theorem digL_len (n : Nat) : (digL n).length ≤ 2 := by unfold digL; split <;> simp

theorem itoa_fn {n : Nat} (h : n < 100) : strconv_Itoa_R (n : Int) ⟨(digL n).toArray⟩ := by
  refine ⟨⟨by omega, by omega⟩, ?_⟩
  rw [Int.toNat_natCast, dec_dig h]

def runT (r : Int × Int) : List UInt8 := if r.2 > r.1 then digL r.1.toNat ++ 45 :: digL r.2.toNat else digL r.1.toNat

theorem runT_len (r : Int × Int) : (runT r).length ≤ 5 := by
  unfold runT
  have := digL_len r.1.toNat
  have := digL_len r.2.toNat
  split <;> simp <;> omega

/-- the step by which a mask has all from the lower end on -/
def stepF (k m : Nat) : Nat → Nat → Option Nat
  | 0, _ => none
  | f + 1, n => if spanM (loA k).toNat (hiA k).toNat n = m then some n else stepF k m f (n + 1)

def stepO (k m : Nat) : Option Nat := if 3 ≤ (bitsL (m : Int)).length then stepF k m 62 2 else none

def wholeN (k : Nat) : Nat := (wholeL.getD k 0).toNat

/-- the one text of a field -/
def textO (k m : Nat) : List UInt8 := if m = wholeN k then [42] else match stepO k m with
  | some n => 42 :: 47 :: digL n
  | none => Lib.join ((runsO m).map runT) [44]

theorem wholeN_eq (k : Nat) : wholeL.getD k 0 = (wholeN k : Int) := by
  have := (whole_U64 k).1
  unfold wholeN; omega

theorem okF_lt {k : Nat} (hk : k < 5) {m : Nat} (h : okF k (m : Int) = true) : m < 9223372036854775808 ∧ m ≠ 0 := by
  unfold okF at h
  rw [Bool.and_eq_true] at h
  obtain ⟨h0, h1⟩ := h
  unfold subB at h1
  rw [beq_iff_eq, Int.toNat_natCast] at h1
  have hle := Nat.and_le_right (n := m) (m := (wholeL.getD k 0).toNat)
  rw [h1] at hle
  refine ⟨?_, fun e => by subst e; simp at h0⟩
  have : (wholeL.getD k 0).toNat ≤ 1152921504606846975 := by
    match k, hk with
    | 0, _ | 1, _ | 2, _ | 3, _ | 4, _ => decide
  omega

theorem stepF_bd {k m : Nat} : ∀ {f n r : Nat}, stepF k m f n = some r → n ≤ r ∧ r < n + f
  | 0, n, r, h => by cases h
  | f + 1, n, r, h => by
    unfold stepF at h
    split at h
    · cases h; omega
    · have := stepF_bd h; omega

theorem stepped_fn {k : Nat} (hk : k < 5) {m : Nat} (hm : m < 18446744073709551616) : field_stepped_R (k : Int) (m : Int) (match stepO k m with | some n => (n : Int) | none => 0) := by
  have hb := ends_bd k hk
  have hc := mask_Count_fn hm
  unfold stepO
  by_cases h3 : 3 ≤ (bitsL (m : Int)).length
  · rw [if_pos h3]
    have key : ∀ d n : Nat, n + d = 64 → 2 ≤ n → ∃ q, field_stepped_l0 q ((k : Int), (m : Int), (n : Int)) (match stepF k m d n with | some r => Sum.inl (r : Int) | none => Sum.inr ()) := by
      intro d
      induction d with
      | zero => intro n h1 h2; exact ⟨1, br_no (no_of (by omega)) rfl⟩
      | succ d ih =>
        intro n h1 h2
        obtain ⟨q, hq⟩ := ih (n + 1) (by omega) (by omega)
        have hsp := field_span_fn (f := (loA k).toNat) (t := (hiA k).toNat) (s := n) (by omega) (by omega) (by omega) (by omega)
        rw [if_pos (by omega), Int.toNat_of_nonneg (by omega), Int.toNat_of_nonneg (by omega)] at hsp
        unfold stepF
        refine ⟨q + 1, br_yes (yes_of (by omega)) ⟨_, hc, br_yes (yes_of (by omega)) ⟨kk_ok hk, ends_ok hk, ?_⟩⟩⟩
        rw [ends_lo, ends_hi]
        refine ⟨_, hsp, ?_⟩
        by_cases he : spanM (loA k).toNat (hiA k).toNat n = m
        · rw [if_pos he]
          exact br_yes (by simp [he]) rfl
        · rw [if_neg he]
          refine br_no (by simp; omega) ?_
          rw [wi_succ (by omega)]
          exact hq
    obtain ⟨q, hq⟩ := key 62 2 (by omega) (by omega)
    refine ⟨_, ⟨q, hq⟩, ?_⟩
    cases stepF k m 62 2 <;> rfl
  · rw [if_neg h3]
    exact ⟨.inr (), ⟨1, br_yes rfl ⟨_, hc, br_no (no_of (by omega)) rfl⟩⟩, rfl⟩

theorem join_snoc (l : List (List UInt8)) (x s : List UInt8) : Lib.join (l ++ [x]) s = if l = [] then x else Lib.join l s ++ s ++ x := by
  cases l with
  | nil => exact Lib.join_one x s
  | cons y r =>
    rw [if_neg (by simp), List.cons_append, Lib.join_cons, Lib.join_cons]
    unfold Lib.joinTail
    simp

theorem join_len (s : List UInt8) : ∀ (l : List (List UInt8)), (∀ x ∈ l, x.length ≤ 5) → (Lib.join l s).length ≤ l.length * (5 + s.length) := by
  intro l h
  cases l with
  | nil => simp [Lib.join_nil]
  | cons x r =>
    rw [Lib.join_cons, List.length_append]
    have h1 := h x List.mem_cons_self
    have h2 : ∀ (r : List (List UInt8)), (∀ x ∈ r, x.length ≤ 5) → (Lib.joinTail s r).length ≤ r.length * (5 + s.length) := by
      intro r
      unfold Lib.joinTail
      induction r with
      | nil => intro _; simp
      | cons y r ih =>
        intro h
        have i1 := ih (fun z hz => h z (List.mem_cons_of_mem _ hz))
        have i2 := h y List.mem_cons_self
        simp only [List.map_cons, List.flatten_cons, List.length_append, List.length_cons, Nat.succ_mul]
        omega
    have h3 := h2 r (fun z hz => h z (List.mem_cons_of_mem _ hz))
    rw [List.length_cons, Nat.succ_mul]
    omega

theorem ba_append (a b : List UInt8) : (⟨a.toArray⟩ : ByteArray) ++ ⟨b.toArray⟩ = ⟨(a ++ b).toArray⟩ := by
  apply ByteArray.ext
  rw [ByteArray.data_append]
  simp

theorem texts_loop {rs : List (Int × Int)} (hl : rs.length ≤ 64) (hr : ∀ r ∈ rs, 0 ≤ r.1 ∧ r.1 ≤ r.2 ∧ r.2 ≤ 62) : ∀ d i, i + d = rs.length → ∃ q, field_Text_l0 q (rs, ((rs.take i).map runT).map (fun l => (⟨l.toArray⟩ : ByteArray)), (rs.length : Int), (i : Int)) ((rs.map runT).map (fun l => (⟨l.toArray⟩ : ByteArray))) := by
  intro d
  induction d with
  | zero =>
    intro i h
    refine ⟨1, br_no (no_of (by omega)) ?_⟩
    rw [List.take_of_length_le (by omega)]
  | succ d ih =>
    intro i h
    have hi : i < rs.length := by omega
    obtain ⟨q, hq⟩ := ih (i + 1) (by omega)
    have ht : rs.take (i + 1) = rs.take i ++ [rs.getD i (0, 0)] := by
      rw [List.take_add_one, List.getD_eq_getElem?_getD, List.getElem?_eq_getElem hi]; rfl
    have hmem : rs.getD i (0, 0) ∈ rs := by rw [List.getD_eq_getElem?_getD, List.getElem?_eq_getElem hi]; exact List.getElem_mem hi
    have hb := hr _ hmem
    rw [ht, List.map_append, List.map_append] at hq
    refine ⟨q + 1, br_yes (yes_of (by omega)) ⟨ix_ok hi, blt_ok hi, ?_⟩⟩
    rw [Int.toNat_natCast]
    generalize rs.getD i (0, 0) = r at *
    obtain ⟨a, b⟩ := r
    simp only at hb
    obtain ⟨a, rfl⟩ : ∃ n : Nat, a = n := ⟨a.toNat, by omega⟩
    obtain ⟨b, rfl⟩ : ∃ n : Nat, b = n := ⟨b.toNat, by omega⟩
    have hla := digL_len a
    have hlb := digL_len b
    have hlen : (((rs.take i).map runT).map (fun l => (⟨l.toArray⟩ : ByteArray))).length ≤ 64 := by simp; omega
    refine ⟨_, itoa_fn (by omega), ?_⟩
    have eT : runT ((a : Int), (b : Int)) = if (b : Int) > (a : Int) then digL a ++ 45 :: digL b else digL a := rfl
    by_cases h1 : (b : Int) > (a : Int)
    · rw [if_pos h1] at eT
      refine br_yes (yes_of h1) ⟨_, itoa_fn (by omega), ?_, ?_, ?_, ?_⟩
      · rw [mk_size (digL b)]; exact yes_of (by show 1 + _ ≤ _; omega)
      · rw [mk_size, show (⟨#[45]⟩ : ByteArray) = ⟨[45].toArray⟩ from rfl, ba_append, mk_size]; exact yes_of (by simp; omega)
      · simp [Nat.ble_eq]; omega
      · rw [wi_succ (by omega)]
        rw [show (⟨#[45]⟩ : ByteArray) = ⟨[45].toArray⟩ from rfl, ba_append, ba_append]
        simp only [List.map_cons, List.map_nil, eT] at hq
        exact hq
    · rw [if_neg h1] at eT
      refine br_no (no_of h1) ⟨?_, ?_⟩
      · simp [Nat.ble_eq]; omega
      · rw [wi_succ (by omega)]
        simp only [List.map_cons, List.map_nil, eT] at hq
        exact hq

theorem field_Text_fn {k : Nat} (hk : k < 5) {m : Nat} (hm : okF k (m : Int) = true) : field_Text_R (k : Int) (m : Int) (⟨(textO k m).toArray⟩, 0) := by
  obtain ⟨hlt, h0⟩ := okF_lt hk hm
  have hck := field_Check_fn k hk (m := (m : Int)) ⟨by omega, by omega⟩
  rw [hm] at hck
  refine ⟨_, hck, br_no rfl ⟨_, field_Whole_fn k hk, ?_⟩⟩
  rw [wholeN_eq]
  unfold textO
  by_cases hw : m = wholeN k
  · rw [if_pos hw]
    exact br_yes (by simp [hw]) rfl
  · rw [if_neg hw]
    refine br_no (by simp; omega) ⟨_, stepped_fn hk (by omega), ?_⟩
    cases hs : stepO k m with
    | some n =>
      have hn : 2 ≤ n ∧ n < 64 := by
        unfold stepO at hs
        split at hs
        · have := stepF_bd hs; omega
        · cases hs
      have hl := digL_len n
      refine br_yes (yes_of (by show (n : Int) > 0; omega)) ⟨_, itoa_fn (n := n) (by omega), ?_, ?_⟩
      · rw [mk_size (digL n)]; exact yes_of (by show 2 + _ ≤ _; omega)
      · rw [show (⟨#[42, 47]⟩ : ByteArray) = ⟨[42, 47].toArray⟩ from rfl, ba_append]
        rfl
    | none =>
      refine br_no (by decide) ⟨_, mask_Runs_fn hlt, ?_⟩
      have hrl := runsO_len m
      obtain ⟨q, hq⟩ := texts_loop (rs := runsO m) hrl (fun r hr => runsO_mem hlt hr) (runsO m).length 0 (by omega)
      have hjl := join_len [44] ((runsO m).map runT) (fun x hx => by obtain ⟨r, _, rfl⟩ := List.mem_map.mp hx; exact runT_len r)
      rw [List.length_map] at hjl
      have em : (((runsO m).map runT).map (fun l => (⟨l.toArray⟩ : ByteArray))).map (fun x => x.data.toList) = (runsO m).map runT := by
        rw [List.map_map]; simp [Function.comp_def]
      refine ⟨_, ⟨q, hq⟩, ⟨(Lib.join ((runsO m).map runT) [44]).toArray⟩, ⟨⟨by simp; omega, ?_⟩, ?_⟩, rfl⟩
      · rw [em]
        show (Lib.join ((runsO m).map runT) [44]).length ≤ _
        simp at hjl
        omega
      · rw [em]

theorem field_Text_bad {k : Nat} (hk : k < 5) {m : Nat} (hu : m < 18446744073709551616) (hm : okF k (m : Int) = false) : field_Text_R (k : Int) (m : Int) (⟨#[]⟩, 160) := by
  have hck := field_Check_fn k hk (m := (m : Int)) ⟨by omega, by omega⟩
  rw [hm] at hck
  exact ⟨_, hck, br_yes rfl rfl⟩

theorem field_Text_no {k : Int} (h : k < 0 ∨ 5 ≤ k) (m : Int) : field_Text_R k m (⟨#[]⟩, 2) := ⟨_, ⟨_, field_there_no h, br_yes rfl rfl⟩, br_yes rfl rfl⟩
end Go.Proofs.YtnjkboeibcoojaaGreatDoor
