/- What the program makes of texts of fields: values, items, fields. -/
import Derived.Test.YtjdpkihlgpojkaaGreatDoorKe
namespace Go.Proofs.YtjdpkihlgpojkaaGreatDoor
open Go Go.B
set_option linter.unusedSimpArgs false
set_option linter.unusedVariables false
set_option linter.unusedSectionVars false
set_option maxRecDepth 20000

theorem offk (k z : Nat) : offN 0 (k : Int) z = k * z := by simp [offN]

theorem kk_ok {k : Nat} (hk : k < 5) : ((decide (0 ≤ (k : Int))) && (decide ((k : Int) < 5))) = true := by simp; omega

theorem ends_ok {k : Nat} (hk : k < 5) : Nat.ble ((offN 0 (k : Int) 2) + 2) (List.length endsL) = true := by
  rw [offk, show List.length endsL = 10 from rfl, Nat.ble_eq]; omega

theorem ends_lo (k : Nat) : List.getD endsL ((offN 0 (k : Int) 2) + 0) 0 = loA k := by rw [offk]; rfl

theorem ends_hi (k : Nat) : List.getD endsL ((offN 0 (k : Int) 2) + 1) 0 = hiA k := by rw [offk]; rfl

theorem nm_ok {k : Nat} (hk : k < 5) : Nat.blt (offN 0 (k : Int) 1) (List.length namesL) = true := by
  rw [offk, show List.length namesL = 5 from rfl, Nat.blt_eq]; omega

theorem nm_get (k : Nat) : List.getD namesL (offN 0 (k : Int) 1) ⟨#[]⟩ = List.getD namesL k ⟨#[]⟩ := by rw [offk, Nat.mul_one]

theorem nm_size {k : Nat} (hk : k < 5) : (List.getD namesL k ⟨#[]⟩).size = 3 * (nmT k).length := by
  match k, hk with
  | 0, _ | 1, _ | 2, _ | 3, _ | 4, _ => rfl

theorem nm_at {k : Nat} (hk : k < 5) : ∀ i, i < (nmT k).length → ((bl (List.getD namesL k ⟨#[]⟩)).drop (3 * i)).take (3 * i + 3 - 3 * i) = (nmT k).getD i [] := by
  match k, hk with
  | 0, _ | 1, _ | 2, _ => intro i hi; simp [nmT] at hi
  | 3, _ => exact (by decide)
  | 4, _ => exact (by decide)

theorem nmT_ascii (k : Nat) : ∀ n ∈ nmT k, n.length = 3 ∧ ∀ b ∈ n, b.toNat < 128 := by
  unfold nmT
  split <;> decide

theorem dropS {α : Type} [Inhabited α] {l : List α} {i : Nat} (d : α) (h : i < l.length) : l.drop i = l.getD i d :: l.drop (i + 1) := by
  rw [List.drop_eq_getElem_cons h, List.getD_eq_getElem?_getD, List.getElem?_eq_getElem h]; rfl

theorem fnd_none {u : List UInt8} : ∀ {l : List (List UInt8)} {i : Nat}, (∀ x ∈ l, u ≠ x) → fnd u l i = none
  | [], _, _ => rfl
  | x :: xs, i, h => by
    unfold fnd
    rw [if_neg (h x List.mem_cons_self)]
    exact fnd_none fun y hy => h y (List.mem_cons_of_mem _ hy)

theorem value_loop {k : Nat} (hk : k < 5) (lo hi : Int) (u : ByteArray) : ∀ (d i : Nat), i + d = (nmT k).length → ∃ q, field_Value_l0 q ((k : Int), lo, hi, u, ((3 * i : Nat) : Int)) (match fnd (bl u) ((nmT k).drop i) i with | some j => Sum.inl (j : Int) | none => Sum.inr ()) := by
  have hlen : (nmT k).length ≤ 12 := by
    match k, hk with
    | 0, _ | 1, _ | 2, _ | 3, _ | 4, _ => decide
  intro d
  induction d with
  | zero =>
    intro i h
    refine ⟨1, kk_ok hk, nm_ok hk, br_no (no_of ?_) ?_⟩
    · rw [nm_get, nm_size hk]; omega
    · rw [List.drop_eq_nil_of_le (by omega)]; rfl
  | succ d ih =>
    intro i h
    obtain ⟨q, hq⟩ := ih (i + 1) (by omega)
    have hil : i < (nmT k).length := by omega
    have hlt : decide (((3 * i : Nat) : Int) < ((ByteArray.size (List.getD namesL (offN 0 (k : Int) 1) ⟨#[]⟩) : Nat) : Int)) = true := yes_of (by rw [nm_get, nm_size hk]; omega)
    by_cases h3 : u.size = 3
    · have e3 : IntKind.wrap .i64 (((3 * i : Nat) : Int) + 3) = ((3 * (i + 1) : Nat) : Int) := by rw [wi (by omega) (by omega)]; omega
      rw [dropS [] hil]
      unfold fnd
      refine ⟨q + 1, kk_ok hk, nm_ok hk, br_yes hlt (br_yes (by rw [h3]; rfl) ⟨kk_ok hk, nm_ok hk, ?_, ?_⟩)⟩
      · rw [e3, nm_get, nm_size hk, Int.toNat_natCast, Int.toNat_natCast]
        simp [Nat.ble_eq]
        omega
      · rw [e3, nm_get, Int.toNat_natCast, Int.toNat_natCast, tl_same, bl_extract]
        have hat := nm_at hk i hil
        rw [show 3 * (i + 1) = 3 * i + 3 by omega, hat]
        by_cases he : bl u = (nmT k).getD i []
        · rw [if_pos he]
          refine br_yes (yes_of he.symm) ?_
          show Sum.inl (IntKind.wrap .i64 (Int.tdiv ((3 * i : Nat) : Int) 3)) = Sum.inl (i : Int)
          congr 1
          rw [Int.tdiv_eq_ediv_of_nonneg (by omega), wi (by omega) (by omega)]
          omega
        · rw [if_neg he]
          refine br_no (no_of (fun e => he e.symm)) ?_
          exact hq
    · refine ⟨1, kk_ok hk, nm_ok hk, br_yes hlt (br_no (by simp; omega) ?_)⟩
      rw [fnd_none]
      intro x hx e
      have := (nmT_ascii k x (List.mem_of_mem_drop hx)).1
      rw [← e, bl_len] at this
      exact h3 this

theorem fnd_up {k : Nat} (s : ByteArray) : fnd (upS s) (nmT k) 0 = fnd ((bl s).map upB) (nmT k) 0 := by
  have : ∀ (l : List (List UInt8)) (i : Nat), (∀ n ∈ l, ∀ b ∈ n, b.toNat < 128) → fnd (upS s) l i = fnd ((bl s).map upB) l i := by
    intro l
    induction l with
    | nil => intro i _; rfl
    | cons x xs ih =>
      intro i h
      unfold fnd
      rw [ih (i + 1) (fun n hn => h n (List.mem_cons_of_mem _ hn))]
      by_cases e : upS s = x
      · rw [if_pos e, if_pos ((upS_name s (h x List.mem_cons_self)).mp e)]
      · rw [if_neg e, if_neg (fun e2 => e ((upS_name s (h x List.mem_cons_self)).mpr e2))]
  exact this _ 0 fun n hn => (nmT_ascii k n hn).2

def valR (o : Option Int) : Int × Bool := match o with | some n => (n, true) | none => (0, false)

theorem field_Value_fn {k : Nat} (hk : k < 5) (s : ByteArray) (hs : s.size ≤ 1000000) : field_Value_R (k : Int) s (valR (valO k (bl s))) := by
  have hb := ends_bd k hk
  obtain ⟨q, hq⟩ := value_loop hk (loA k) (hiA k) ⟨(upS s).toArray⟩ (nmT k).length 0 (by omega)
  rw [List.drop_zero, bl_mk (upS s), fnd_up] at hq
  refine ⟨_, field_there_fn k hk, br_no rfl ⟨kk_ok hk, ends_ok hk, _, ⟨hs, rfl⟩, ?_⟩⟩
  rw [ends_lo, ends_hi]
  refine ⟨_, ⟨q, hq⟩, ?_⟩
  unfold valO
  have num : ∀ hi : Int, ∃ y7 : Int × Bool, field_number_R s (loA k) hi y7 ∧ br (!(y7.2)) ((0, false) = valR (numQ (bl s) (loA k) hi)) ((y7.1, true) = valR (numQ (bl s) (loA k) hi)) := fun hi => by
    obtain ⟨n, b, h1, h2⟩ := field_number_fn s hs (loA k) hi
    refine ⟨(n, b), h1, ?_⟩
    cases hq : numQ (bl s) (loA k) hi with
    | none => rw [hq] at h2; exact br_yes (not_t h2) rfl
    | some v => rw [hq] at h2; obtain ⟨rfl, rfl⟩ := h2; exact br_no rfl rfl
  cases hf : fnd ((bl s).map upB) (nmT k) 0 with
  | some j =>
    have hj := fnd_lt hf
    have hn := nmT_len k hk
    have e1 : (IntKind.wrap .i64 (loA k + (j : Int)), true) = (loA k + (j : Int), true) := by
      rw [wi (by omega) (by omega)]
    simp only [sume]
    exact br_yes (yes_of (by omega)) e1
  | none =>
    show br ((k : Int) == 4) _ _
    by_cases h4 : k = 4
    · refine br_yes (by simp; omega) ?_
      have := num 7
      unfold numQ at this
      unfold hiV
      rw [if_pos h4]
      exact this
    · refine br_no (by simp; omega) ?_
      have := num (hiA k)
      unfold numQ at this
      unfold hiV
      rw [if_neg h4]
      exact this
/- items -/

def iTail (k by_ f t : Int) (y3 : _field_item_has_l0_Y) : Prop := ∃ y5 : Int × Bool, field_span_R f t by_ y5 ∧ (br (k == 4) (∃ y6 : Bool, mask_Has_R y5.1 7 y6 ∧ (br y6 (∃ y7 : Int × Int, mask_Of_R [0] y7 ∧ (∃ y8 : Int, mask_Or_R [y5.1, y7.1] y8 ∧ (∃ y9 : Int, field_Whole_R k y9 ∧ (∃ y10 : Int, mask_And_R y8 y9 y10 ∧ (Sum.inl (y10, y5.2) = y3))))) (Sum.inl (y5.1, y5.2) = y3))) (Sum.inl (y5.1, y5.2) = y3))

def spR (k : Nat) (f t s : Int) : Int × Bool := if f ≤ t then (((fixM k (spanM f.toNat t.toNat s.toNat) : Nat) : Int), true) else (0, false)

theorem iTail_fn {k : Nat} (hk : k < 5) {f t s : Int} (hf : 0 ≤ f ∧ f ≤ hiV k) (ht : 0 ≤ t ∧ t ≤ hiV k) (hs : 1 ≤ s ∧ s ≤ 63) : iTail (k : Int) s f t (.inl (spR k f t s)) := by
  have hb := ends_bd k hk
  obtain ⟨f, rfl⟩ : ∃ n : Nat, f = n := ⟨f.toNat, by omega⟩
  obtain ⟨t, rfl⟩ : ∃ n : Nat, t = n := ⟨t.toNat, by omega⟩
  obtain ⟨s, rfl⟩ : ∃ n : Nat, s = n := ⟨s.toNat, by omega⟩
  refine ⟨_, field_span_fn (f := f) (t := t) (s := s) (by omega) (by omega) (by omega) (by omega), ?_⟩
  unfold spR
  simp only [Int.toNat_natCast]
  by_cases hft : f ≤ t
  · have hft' : (f : Int) ≤ (t : Int) := by omega
    rw [if_pos hft, if_pos hft']
    have hm := spanM_u64 (a := f) (b := t) (s := s) (by omega) (by omega)
    generalize spanM f t s = m at *
    by_cases h4 : k = 4
    · subst h4
      refine br_yes rfl ⟨_, mask_Has_fn (m := (m : Int)) ⟨by omega, by omega⟩ 7, ?_⟩
      have e7 : hasB (m : Int) 7 = m.testBit 7 := by simp [hasB, mayB]
      cases h7 : m.testBit 7
      · refine br_no (by rw [e7, h7]) ?_
        unfold fixM; rw [if_neg (by simp [h7])]
      · have h1 : m ||| 1 < 18446744073709551616 := by
          have e64 : (2 : Nat) ^ 64 = 18446744073709551616 := by decide
          have := Nat.or_lt_two_pow (n := 64) (x := m) (y := 1) (by omega) (by decide)
          omega
        refine br_yes (by rw [e7, h7]) ⟨_, mask_Of0, _, mask_Or2_fn (x := m) (y := 1) hm (by decide), _, field_Whole_fn 4 (by decide), _, mask_And_fn (x := m ||| 1) (y := 127) h1 (by decide), ?_⟩
        unfold fixM; rw [if_pos ⟨rfl, h7⟩]
    · refine br_no (by simp; omega) ?_
      unfold fixM; rw [if_neg (fun e => h4 e.1)]
  · have hft' : ¬ (f : Int) ≤ (t : Int) := by omega
    rw [if_neg hft, if_neg hft']
    by_cases h4 : k = 4
    · subst h4
      refine br_yes rfl ⟨_, mask_Has_fn (m := 0) ⟨by omega, by omega⟩ 7, br_no (by decide) rfl⟩
    · exact br_no (by simp; omega) rfl

theorem strings_Cut_one (s : ByteArray) (hs : s.size ≤ 1000000) (c : UInt8) : strings_Cut_R s ⟨#[c]⟩ (⟨(cutO c (bl s)).1.toArray⟩, ⟨(cutO c (bl s)).2.1.toArray⟩, (cutO c (bl s)).2.2) := by
  refine ⟨hs, ?_⟩
  rw [show ((⟨#[c]⟩ : ByteArray).data.toList) = [c] from rfl, cut_one]

theorem mk_size (l : List UInt8) : (⟨l.toArray⟩ : ByteArray).size = l.length := by show l.toArray.size = _; simp

theorem cutO_len2 {c : UInt8} (l : List UInt8) : (cutO c l).2.1.length ≤ l.length := by
  cases h : (cutO c l).2.2
  · rw [(cutO_no h).2.1]; simp
  · have := (cutO_len l).2 h; omega

theorem has_loop {k : Nat} (hk : k < 5) (sp st : ByteArray) (hs : sp.size ≤ 1000000) (has : Bool) {by_ : Int} (hby : 1 ≤ by_ ∧ by_ ≤ 63) : ∃ q, _field_item_has_l0 q ((k : Int), sp, st, has, by_, 0) (match runO k (bl sp) has with | some (f, t) => Sum.inl (spR k f t by_) | none => Sum.inr ()) := by
  have all : _field_item_all_R (k : Int) sp st has ((loA k, hiA k), decide (bl sp = [42])) := by
    refine ⟨kk_ok hk, ends_ok hk, ?_⟩
    rw [ends_lo, ends_hi, tl_same]
  have fin : ∀ (q : Nat) (Y : _field_item_has_l0_Y), Sum.inr () = Y → _field_item_has_l0 (q + 1) ((k : Int), sp, st, has, by_, 3) Y := fun q Y h => br_no rfl h
  have cutv := strings_Cut_one sp hs 45
  have hl1 := (cutO_len (c := 45) (bl sp)).1
  have hl2 := cutO_len2 (c := 45) (bl sp)
  rw [bl_len] at hl1 hl2
  have v1 := field_Value_fn hk ⟨(cutO 45 (bl sp)).1.toArray⟩ (by rw [mk_size]; omega)
  have v2 := field_Value_fn hk ⟨(cutO 45 (bl sp)).2.1.toArray⟩ (by rw [mk_size]; omega)
  have v0 := field_Value_fn hk sp hs
  rw [bl_mk (cutO 45 (bl sp)).1] at v1
  rw [bl_mk (cutO 45 (bl sp)).2.1] at v2
  unfold runO
  by_cases h42 : bl sp = [42]
  · rw [if_pos h42]
    refine ⟨1, br_yes rfl (br_yes rfl ⟨_, all, br_yes (yes_of h42) ?_⟩)⟩
    have hb := ends_bd k hk
    exact iTail_fn hk (f := loA k) (t := hiA k) (by omega) (by omega) hby
  · rw [if_neg h42]
    -- what follows the first round
    have step1 : ∀ (q : Nat) (Y : _field_item_has_l0_Y), _field_item_has_l0 q ((k : Int), sp, st, has, by_, 1) Y → _field_item_has_l0 (q + 1) ((k : Int), sp, st, has, by_, 0) Y := fun q Y h => br_yes rfl (br_yes rfl ⟨_, all, br_no (no_of h42) h⟩)
    have step2 : ∀ (q : Nat) (Y : _field_item_has_l0_Y) (o : Int), _field_item_one_R (k : Int) sp st has ((o, o), false) → _field_item_has_l0 q ((k : Int), sp, st, has, by_, 2) Y → _field_item_has_l0 (q + 1) ((k : Int), sp, st, has, by_, 1) Y := fun q Y o h1 h => br_yes rfl (br_no rfl (br_yes rfl ⟨_, h1, br_no rfl h⟩))
    have step3 : ∀ (q : Nat) (Y : _field_item_has_l0_Y) (a b : Int), _field_item_some_R (k : Int) sp st has ((a, b), false) → _field_item_has_l0 q ((k : Int), sp, st, has, by_, 3) Y → _field_item_has_l0 (q + 1) ((k : Int), sp, st, has, by_, 2) Y := fun q Y a b h1 h => br_yes rfl (br_no rfl (br_no rfl (br_yes rfl ⟨_, h1, br_no rfl h⟩)))
    cases hd : (cutO 45 (bl sp)).2.2
    · -- no dash
      rw [hd] at cutv
      have c1 := (cutO_no hd).1
      rw [c1] at v1 cutv ⊢
      cases hv : valO k (bl sp) with
      | none =>
        rw [hv] at v0
        refine ⟨4, step1 _ _ (step2 _ _ _ ⟨_, v0, br_no rfl rfl⟩ (step3 _ _ _ _ ⟨_, cutv, _, v1, _, v2, br_no rfl rfl⟩ (fin _ _ rfl)))⟩
      | some f =>
        rw [hv] at v0
        have hf := valO_bd hk hv
        have hb := ends_bd k hk
        cases hh : has
        · subst hh
          refine ⟨2, step1 _ _ (br_yes rfl (br_no rfl (br_yes rfl ⟨_, ⟨_, v0, br_yes rfl rfl⟩, br_yes rfl ?_⟩)))⟩
          exact iTail_fn hk (f := f) (t := f) (by omega) (by omega) hby
        · subst hh
          refine ⟨4, step1 _ _ (step2 _ _ _ ⟨_, v0, br_yes rfl rfl⟩ (step3 _ _ _ _ ⟨_, cutv, _, v1, _, v2, br_no rfl rfl⟩ (fin _ _ rfl)))⟩
    · -- a dash
      rw [hd] at cutv
      have hm : (45 : UInt8) ∈ bl sp := by rw [(cutO_yes hd).1]; simp
      rw [dash_none hm] at v0
      have go : ∀ Y, _field_item_has_l0 2 ((k : Int), sp, st, has, by_, 2) Y → ∃ q, _field_item_has_l0 q ((k : Int), sp, st, has, by_, 0) Y := fun Y h => ⟨4, step1 _ _ (step2 _ _ _ ⟨_, v0, br_no rfl rfl⟩ h)⟩
      cases h1 : valO k (cutO 45 (bl sp)).1 with
      | none =>
        rw [h1] at v1
        exact go _ (step3 _ _ _ _ ⟨_, cutv, _, v1, _, v2, br_yes rfl (br_no rfl rfl)⟩ (fin _ _ rfl))
      | some f =>
        rw [h1] at v1
        simp only [if_true]
        cases h2 : valO k (cutO 45 (bl sp)).2.1 with
        | none =>
          rw [h2] at v2
          exact go _ (step3 _ _ _ _ ⟨_, cutv, _, v1, _, v2, br_yes rfl (br_yes rfl rfl)⟩ (fin _ _ rfl))
        | some t =>
          rw [h2] at v2
          have hf := valO_bd hk h1
          have ht := valO_bd hk h2
          have hb := ends_bd k hk
          refine go _ (br_yes rfl (br_no rfl (br_no rfl (br_yes rfl ⟨_, ⟨_, cutv, _, v1, _, v2, br_yes rfl (br_yes rfl rfl)⟩, br_yes rfl ?_⟩))))
          exact iTail_fn hk (f := f) (t := t) (by omega) (by omega) hby

def itemR (o : Option Nat) : Int × Bool := match o with | some n => ((n : Int), true) | none => (0, false)

theorem field_has_fn {k : Nat} (hk : k < 5) (l : ByteArray) (hl : l.size ≤ 1000000) : _field_item_has_R (k : Int) ⟨(cutO 47 (bl l)).1.toArray⟩ ⟨(cutO 47 (bl l)).2.1.toArray⟩ (cutO 47 (bl l)).2.2 (itemR (itemO k (bl l))) := by
  have hl1 := (cutO_len (c := 47) (bl l)).1
  have hl2 := cutO_len2 (c := 47) (bl l)
  rw [bl_len] at hl1 hl2
  unfold itemO
  generalize hsp : (cutO 47 (bl l)).1 = sp at *
  generalize hst : (cutO 47 (bl l)).2.1 = st at *
  generalize hhas : (cutO 47 (bl l)).2.2 = has at *
  -- behind the number of the step
  have rest : ∀ by_ : Int, 1 ≤ by_ ∧ by_ ≤ 63 → ∃ y : _field_item_has_l0_Y, _field_item_has_l0_L ((k : Int), ⟨sp.toArray⟩, ⟨st.toArray⟩, has, by_, 0) y ∧ sume (fun y => (y.1, y.2) = itemR (match runO k sp has with | none => none | some (f, t) => if f ≤ t then some (fixM k (spanM f.toNat t.toNat by_.toNat)) else none)) (fun y => ((0 : Int), false) = itemR (match runO k sp has with | none => none | some (f, t) => if f ≤ t then some (fixM k (spanM f.toNat t.toNat by_.toNat)) else none)) y := fun by_ hby => by
    obtain ⟨q, hq⟩ := has_loop hk ⟨sp.toArray⟩ ⟨st.toArray⟩ (by rw [mk_size]; omega) has hby
    rw [bl_mk sp] at hq
    refine ⟨_, ⟨q, hq⟩, ?_⟩
    cases hr : runO k sp has with
    | none => rfl
    | some p =>
      obtain ⟨f, t⟩ := p
      show ((spR k f t by_).1, (spR k f t by_).2) = itemR (if f ≤ t then some (fixM k (spanM f.toNat t.toNat by_.toNat)) else none)
      unfold spR
      by_cases h : f ≤ t
      · rw [if_pos h, if_pos h]; rfl
      · rw [if_neg h, if_neg h]; rfl
  unfold byO
  cases has
  · exact br_no rfl (rest 1 (by omega))
  · simp only [if_true]
    obtain ⟨n, b, h1, h2⟩ := field_number_fn ⟨st.toArray⟩ (by rw [mk_size]; omega) 1 63
    rw [bl_mk st] at h2
    unfold numQ at h2
    refine br_yes rfl ⟨(n, b), h1, ?_⟩
    cases hn : numO st with
    | none =>
      rw [hn] at h2
      exact br_yes (not_t h2) rfl
    | some v =>
      rw [hn] at h2
      simp only at h2
      by_cases hv : 1 ≤ v ∧ v ≤ 63
      · rw [if_pos hv] at h2
        simp only [if_pos hv]
        obtain ⟨rfl, rfl⟩ := h2
        exact br_no rfl (rest _ hv)
      · rw [if_neg hv] at h2
        simp only [if_neg hv]
        exact br_yes (not_t h2) rfl
/- fields -/

theorem splitN_len (c : UInt8) : ∀ (k : Nat) (l : List UInt8), (splitN c k l).length ≤ k + 1
  | 0, l => Nat.le_refl _
  | k + 1, l => by
    unfold splitN
    split
    · simp; exact splitN_len c k _
    · simp

theorem splitN_mem {c : UInt8} : ∀ (k : Nat) (l : List UInt8) {x : List UInt8}, x ∈ splitN c k l → x.length ≤ l.length
  | 0, l, x, h => by simp [splitN] at h; rw [h]; exact Nat.le_refl _
  | k + 1, l, x, h => by
    unfold splitN at h
    split at h
    · rcases List.mem_cons.mp h with rfl | h
      · exact (cutO_len l).1
      · have := splitN_mem k _ h
        have := cutO_len2 (c := c) l
        omega
    · simp at h; rw [h]; exact Nat.le_refl _

theorem read_loop {k : Nat} (hk : k < 5) (rows : List ByteArray) (hr : rows.length ≤ 300) (hx : ∀ x ∈ rows, x.size ≤ 300) : ∀ (d i at_ m : Nat), i + d = rows.length → at_ ≤ i * 301 → m < 18446744073709551616 → ∃ q, field_Read_l0 q (rows, (k : Int), (m : Int), (at_ : Int), (rows.length : Int), (i : Int)) (match readL k ((rows.drop i).map bl) at_ m with | (r, p, e) => if e = 0 then Sum.inr r else Sum.inl p) := by
  intro d
  induction d with
  | zero =>
    intro i at_ m h1 h2 h3
    refine ⟨1, br_no (no_of (by omega)) ?_⟩
    rw [List.drop_eq_nil_of_le (by omega)]
    rfl
  | succ d ih =>
    intro i at_ m h1 h2 h3
    have hi : i < rows.length := by omega
    have hmem : rows.getD i (⟨#[]⟩ : ByteArray) ∈ rows := by
      rw [List.getD_eq_getElem?_getD, List.getElem?_eq_getElem hi]; exact List.getElem_mem hi
    have hsz := hx _ hmem
    rw [dropS (⟨#[]⟩ : ByteArray) hi, List.map_cons]
    unfold readL
    generalize hrow : rows.getD i (⟨#[]⟩ : ByteArray) = row at *
    have start : ∀ (q : Nat) {Y : field_Read_l0_Y}, (∃ y7 : Int × Bool, _field_item_has_R (k : Int) ⟨(cutO 47 (bl row)).1.toArray⟩ ⟨(cutO 47 (bl row)).2.1.toArray⟩ (cutO 47 (bl row)).2.2 y7 ∧ (br (!(y7.2)) ((Sum.inl (at_ : Int)) = Y) (∃ y8 : Int, mask_Or_R [(m : Int), y7.1] y8 ∧ field_Read_l0 q (rows, (k : Int), y8, ((at_ + row.size + 1 : Nat) : Int), (rows.length : Int), ((i + 1 : Nat) : Int)) Y))) → field_Read_l0 (q + 1) (rows, (k : Int), (m : Int), (at_ : Int), (rows.length : Int), (i : Int)) Y := fun q {Y} hh => by
      refine br_yes (yes_of (by omega)) ⟨ix_ok hi, blt_ok hi, ?_⟩
      rw [Int.toNat_natCast, hrow]
      refine ⟨_, strings_Cut_one row (by omega) 47, ?_⟩
      rw [wi_succ (n := i) (by omega)]
      have e1 : IntKind.wrap .i64 ((at_ : Int) + IntKind.wrap .i64 (((ByteArray.size row : Nat) : Int) + 1)) = ((at_ + row.size + 1 : Nat) : Int) := by
        rw [wi (x := ((ByteArray.size row : Nat) : Int) + 1) (by omega) (by omega), wi (by omega) (by omega)]; omega
      rw [e1]
      exact hh
    have hit := field_has_fn hk row (by omega)
    cases ho : itemO k (bl row) with
    | none =>
      rw [ho] at hit
      exact ⟨1, start 0 ⟨_, hit, br_yes rfl rfl⟩⟩
    | some v =>
      rw [ho] at hit
      have hv := itemO_lt hk ho
      have hor : m ||| v < 18446744073709551616 := by
        have e64 : (2 : Nat) ^ 64 = 18446744073709551616 := by decide
        have := Nat.or_lt_two_pow (n := 64) (x := m) (y := v) (by omega) (by omega)
        omega
      obtain ⟨q, hq⟩ := ih (i + 1) (at_ + row.size + 1) (m ||| v) (by omega) (by omega) hor
      exact ⟨q + 1, start q ⟨_, hit, br_no rfl ⟨_, mask_Or2_fn h3 hv, hq⟩⟩⟩

theorem readL_shape (k : Nat) : ∀ (l : List (List UInt8)) (a m : Nat), (readL k l a m).2.2 = 0 ∧ (readL k l a m).2.1 = 0 ∨ (readL k l a m).2.2 = 160 ∧ (readL k l a m).1 = 0
  | [], a, m => .inl ⟨rfl, rfl⟩
  | x :: xs, a, m => by
    unfold readL
    split
    · exact .inr ⟨rfl, rfl⟩
    · exact readL_shape k xs _ _

theorem field_Read_fn {k : Nat} (hk : k < 5) (s : ByteArray) (hs : s.size ≤ 1000000) : field_Read_R (k : Int) s (readO k (bl s)) := by
  refine ⟨_, field_there_fn k hk, br_no rfl ?_⟩
  unfold readO
  rw [bl_len]
  by_cases h : 256 < s.size
  · rw [if_pos h]
    exact br_yes (yes_of (by omega)) rfl
  · rw [if_neg h]
    refine br_no (no_of (by omega)) ⟨_, ⟨⟨hs, by decide⟩, rfl⟩, ?_⟩
    have hsp := split_all 44 s
    generalize Lib.splitB ⟨#[44]⟩ 0 (Lib.countB s ⟨#[44]⟩) s = rows at *
    have hlen : rows.length ≤ 257 := by
      have h1 := splitN_len 44 (bl s).length (bl s)
      have h2 : (rows.map bl).length = _ := congrArg List.length hsp
      rw [List.length_map] at h2
      rw [h2]
      unfold splitC
      rw [bl_len] at h1 ⊢
      omega
    have hx : ∀ x ∈ rows, x.size ≤ 300 := fun x hx => by
      have : bl x ∈ splitC 44 (bl s) := by rw [← hsp]; exact List.mem_map.mpr ⟨x, hx, rfl⟩
      have := splitN_mem _ _ this
      rw [bl_len, bl_len] at this
      omega
    obtain ⟨q, hq⟩ := read_loop hk rows (by omega) hx rows.length 0 0 0 (by omega) (by omega) (by decide)
    rw [List.drop_zero, hsp] at hq
    refine ⟨_, ⟨q, hq⟩, ?_⟩
    have hshape := readL_shape k (splitC 44 (bl s)) 0 0
    generalize readL k (splitC 44 (bl s)) 0 0 = r at *
    obtain ⟨r1, r2, r3⟩ := r
    rcases hshape with ⟨e1, e2⟩ | ⟨e1, e2⟩
    · simp only at e1 e2
      subst e1; subst e2
      rfl
    · simp only at e1 e2
      subst e1; subst e2
      rfl

end Go.Proofs.YtjdpkihlgpojkaaGreatDoor
