import Derived.Test.YtjbpihalfaclkaaGreatDoorJb
import Derived.Test.YtjbpihalfaclkaaGreatDoorGTableDues
/- What tables come to: which may be. -/
namespace Go.Proofs.YtjbpihalfaclkaaGreatDoor
open Go Go.B
set_option linter.unusedSimpArgs false
set_option linter.unusedVariables false
set_option linter.unusedSectionVars false
set_option maxRecDepth 20000

/-- a row, as it is told -/
abbrev RowT := (Int × Bool × (Int × Int × Int × Int × Int) × Int × Int × Int × Int) × Bool × Int × (Int × Int × Int) × List Int

def zT : RowT := ((0, (false, ((0, (0, (0, (0, 0)))), (0, (0, (0, 0)))))), (false, (0, ((0, (0, 0)), []))))

def rowT (x : RowT) : Row := ⟨⟨x.1.1, x.1.2.1, ⟨x.1.2.2.1.1, x.1.2.2.1.2.1, x.1.2.2.1.2.2.1, x.1.2.2.1.2.2.2.1, x.1.2.2.1.2.2.2.2⟩, x.1.2.2.2.1, x.1.2.2.2.2.1, x.1.2.2.2.2.2.1, x.1.2.2.2.2.2.2⟩, x.2.1, x.2.2.1, x.2.2.2.1.1, x.2.2.2.1.2.1, x.2.2.2.1.2.2, x.2.2.2.2⟩

def tabIn (l : List RowT) : Prop := ∀ x ∈ l, (rowT x).in

theorem getT_mem {l : List RowT} {i : Nat} (h : i < l.length) : l.getD i zT ∈ l := by
  rw [List.getD_eq_getElem?_getD, List.getElem?_eq_getElem h]
  exact List.getElem_mem h

theorem dropT_cons {l : List RowT} {i : Nat} (h : i < l.length) : l.drop i = l.getD i zT :: l.drop (i + 1) := by
  rw [List.drop_eq_getElem_cons h]
  simp [List.getD_eq_getElem?_getD, List.getElem?_eq_getElem h]

def isNum (n : Int) (x : RowT) : Bool := decide (x.2.2.2.1.1 > 0) && (x.2.2.2.1.1 == n)

theorem twin_loop {z0 : Int} {z1 : Bool} {z2 z3 z4 z5 z6 z7 z8 z9 z10 : Int} {z11 : Bool} {z12 n z14 z15 : Int} {z16 : List Int} {m : List RowT} (hl : m.length ≤ 1000000) : ∀ (d i : Nat), i + d = m.length →
    ∃ k y, table_Check_l0 k (z0, z1, z2, z3, z4, z5, z6, z7, z8, z9, z10, z11, z12, n, z14, z15, z16, m, (m.length : Int), (i : Int)) y ∧ (if (m.drop i).any (isNum n) then ∃ j : Nat, y = .inl (j : Int) else y = .inr ()) := by
  intro d
  induction d with
  | zero =>
    intro i hi
    refine ⟨1, .inr (), br_no (no_of (by omega)) rfl, ?_⟩
    rw [List.drop_eq_nil_of_le (by omega)]
    rfl
  | succ d ih =>
    intro i hi
    have hlt : i < m.length := by omega
    obtain ⟨k, y, h1, h2⟩ := ih (i + 1) (by omega)
    have e : IntKind.wrap .i64 ((i : Int) + 1) = ((i + 1 : Nat) : Int) := wi_succ (by omega)
    rw [← e] at h1
    rw [dropT_cons hlt, List.any_cons]
    by_cases hp : (m.getD i zT).2.2.2.1.1 > 0
    · by_cases hq : (m.getD i zT).2.2.2.1.1 = n
      · have : isNum n (m.getD i zT) = true := by unfold isNum; rw [yes_of hp, hq]; simp
        refine ⟨1, .inl (i : Int), br_yes (yes_of (by omega)) ⟨ix_ok hlt, br_yes (yes_of hp) (br_yes (beq_iff_eq.mpr hq) rfl)⟩, ?_⟩
        rw [this]
        exact ⟨i, rfl⟩
      · have : isNum n (m.getD i zT) = false := by unfold isNum; rw [show ((m.getD i zT).2.2.2.1.1 == n) = false from beq_eq_false_iff_ne.mpr hq, Bool.and_false]
        refine ⟨k + 1, y, br_yes (yes_of (by omega)) ⟨ix_ok hlt, br_yes (yes_of hp) (br_no (beq_eq_false_iff_ne.mpr hq) h1)⟩, ?_⟩
        rw [this, Bool.false_or]; exact h2
    · have : isNum n (m.getD i zT) = false := by unfold isNum; rw [no_of hp]; rfl
      refine ⟨k + 1, y, br_yes (yes_of (by omega)) ⟨ix_ok hlt, br_no (no_of hp) h1⟩, ?_⟩
      rw [this, Bool.false_or]; exact h2

/-- from the i-th row on -/
noncomputable def tabB (l : List RowT) : Nat → Nat → Bool
  | 0, _ => true
  | d + 1, i => (rowT (l.getD i zT)).ok && ((decide (i = 0) || decide ((l.getD (i - 1) zT).1.1 < (l.getD i zT).1.1)) && (!((l.take i).any (isNum (l.getD i zT).2.2.2.1.1)) && tabB l d (i + 1)))

noncomputable def tabOk (l : List RowT) : Bool := decide (l.length ≤ 12) && tabB l l.length 0

theorem Check_loop {l : List RowT} (h : tabIn l) (hl : l.length ≤ 12) : ∀ (d i : Nat), i + d = l.length →
    ∃ k, table_Check_l1 k (l, (l.length : Int), (i : Int)) (if tabB l d i then .inr () else .inl ()) := by
  intro d
  induction d with
  | zero =>
    intro i hi
    exact ⟨1, br_no (no_of (by omega)) rfl⟩
  | succ d ih =>
    intro i hi
    have hlt : i < l.length := by omega
    obtain ⟨k, hk⟩ := ih (i + 1) (by omega)
    have e : IntKind.wrap .i64 ((i : Int) + 1) = ((i + 1 : Nat) : Int) := wi_succ (by omega)
    rw [← e] at hk
    have hr := table_CheckRow_fn (r := rowT (l.getD i zT)) (h _ (getT_mem hlt))
    unfold tabB
    cases hok : (rowT (l.getD i zT)).ok
    · rw [hok] at hr
      exact ⟨1, br_yes (yes_of (by omega)) ⟨ix_ok hlt, _, hr, br_yes rfl rfl⟩⟩
    rw [hok] at hr
    simp only [Bool.true_and]
    -- what follows the names
    have J0 : ∀ {v : table_Check_l1_Y}, v = (if (!((l.take i).any (isNum (l.getD i zT).2.2.2.1.1)) && tabB l d (i + 1)) then .inr () else .inl ()) → table_Check_l1_j0 (table_Check_l1 k) (i : Int) l (l.length : Int) v := by
      intro v hv
      obtain ⟨k2, y, q1, q2⟩ := twin_loop (z0 := (l.getD i zT).1.1) (z1 := (l.getD i zT).1.2.1) (z2 := (l.getD i zT).1.2.2.1.1) (z3 := (l.getD i zT).1.2.2.1.2.1) (z4 := (l.getD i zT).1.2.2.1.2.2.1) (z5 := (l.getD i zT).1.2.2.1.2.2.2.1) (z6 := (l.getD i zT).1.2.2.1.2.2.2.2) (z7 := (l.getD i zT).1.2.2.2.1) (z8 := (l.getD i zT).1.2.2.2.2.1) (z9 := (l.getD i zT).1.2.2.2.2.2.1) (z10 := (l.getD i zT).1.2.2.2.2.2.2) (z11 := (l.getD i zT).2.1) (z12 := (l.getD i zT).2.2.1) (n := (l.getD i zT).2.2.2.1.1) (z14 := (l.getD i zT).2.2.2.1.2.1) (z15 := (l.getD i zT).2.2.2.1.2.2) (z16 := (l.getD i zT).2.2.2.2) (m := List.take (Int.toNat (i : Int) - 0) (List.drop 0 l)) (by simp; omega) (List.take (Int.toNat (i : Int) - 0) (List.drop 0 l)).length 0 (by simp)
      rw [List.drop_zero] at q2
      have em : List.take (Int.toNat (i : Int) - 0) (List.drop 0 l) = l.take i := by simp
      refine ⟨by simp [Nat.ble_eq]; omega, y, ⟨k2, q1⟩, ?_⟩
      rw [em] at q2
      cases ha : (l.take i).any (isNum (l.getD i zT).2.2.2.1.1)
      · rw [ha] at q2 hv
        simp only [Bool.false_eq_true, if_false] at q2
        subst q2
        rw [hv]; exact hk
      · rw [ha] at q2 hv
        simp only [if_true] at q2
        obtain ⟨j, rfl⟩ := q2
        rw [hv]
        exact @br_yes (decide ((j : Int) ≥ 0)) _ (table_Check_l1 k (l, (l.length : Int), IntKind.wrap .i64 ((i : Int) + 1)) (if (!true && tabB l d (i + 1)) = true then Sum.inr () else Sum.inl ())) (yes_of (by omega)) rfl
    by_cases h0 : i = 0
    · refine ⟨k + 1, br_yes (yes_of (by omega)) ⟨ix_ok hlt, _, hr, br_no rfl (br_no (no_of (by omega)) (J0 ?_))⟩⟩
      rw [yes_of h0]; rfl
    · have ep : IntKind.wrap .i64 ((i : Int) - 1) = ((i - 1 : Nat) : Int) := by rw [wi (by omega) (by omega)]; omega
      rw [no_of h0, Bool.false_or]
      by_cases hn : (l.getD (i - 1) zT).1.1 < (l.getD i zT).1.1
      · refine ⟨k + 1, br_yes (yes_of (by omega)) ⟨ix_ok hlt, _, hr, br_no rfl (br_yes (yes_of (by omega)) ?_)⟩⟩
        rw [ep]
        refine ⟨ix_ok (by omega), br_no (no_of (by show ¬ (l.getD (i - 1) zT).1.1 ≥ (l.getD i zT).1.1; omega)) (J0 ?_)⟩
        rw [yes_of hn, Bool.true_and]
      · refine ⟨k + 1, br_yes (yes_of (by omega)) ⟨ix_ok hlt, _, hr, br_no rfl (br_yes (yes_of (by omega)) ?_)⟩⟩
        rw [ep, no_of hn]
        exact ⟨ix_ok (by omega), br_yes (yes_of (by show (l.getD (i - 1) zT).1.1 ≥ (l.getD i zT).1.1; omega)) rfl⟩

theorem table_Check_fn {l : List RowT} (h : tabIn l) : table_Check_R l (if tabOk l then 0 else 210) := by
  unfold tabOk
  by_cases hl : l.length ≤ 12
  · obtain ⟨k, hk⟩ := Check_loop h hl l.length 0 (by omega)
    refine br_no (no_of (by omega)) ⟨_, ⟨k, hk⟩, ?_⟩
    rw [yes_of hl, Bool.true_and]
    cases tabB l l.length 0 <;> rfl
  · refine br_yes (yes_of (by omega)) ?_
    rw [no_of hl]; rfl
end Go.Proofs.YtjbpihalfaclkaaGreatDoor
/- What tables come to: those of one's own, and names. -/
namespace Go.Proofs.YtjbpihalfaclkaaGreatDoor
open Go Go.B
set_option linter.unusedSimpArgs false
set_option linter.unusedVariables false
set_option linter.unusedSectionVars false
set_option maxRecDepth 20000

theorem clone_fn {l : List Int} (h : l.length ≤ 1000000) : slices_Clone__int64_int64_R l l := by
  refine ⟨fun e => ?_, by rw [Nat.ble_eq]; omega, rfl⟩
  have := Nat.eq_of_beq_eq_true e
  exact (List.length_eq_zero_iff.mp this).symm

/-- a row with so many that wait -/
def cutT (x : RowT) : RowT := (x.1, x.2.1, x.2.2.1, x.2.2.2.1, x.2.2.2.2.take 5)

abbrev Row17 := Int × Bool × Int × Int × Int × Int × Int × Int × Int × Int × Int × Bool × Int × Int × Int × Int × List Int

def flatT (x : RowT) : Row17 := (x.1.1, x.1.2.1, x.1.2.2.1.1, x.1.2.2.1.2.1, x.1.2.2.1.2.2.1, x.1.2.2.1.2.2.2.1, x.1.2.2.1.2.2.2.2, x.1.2.2.2.1, x.1.2.2.2.2.1, x.1.2.2.2.2.2.1, x.1.2.2.2.2.2.2, x.2.1, x.2.2.1, x.2.2.2.1.1, x.2.2.2.1.2.1, x.2.2.2.1.2.2, x.2.2.2.2)

theorem row_fn (x : RowT) : curfewlaw11_row_R x.1.1 x.1.2.1 x.1.2.2.1.1 x.1.2.2.1.2.1 x.1.2.2.1.2.2.1 x.1.2.2.1.2.2.2.1 x.1.2.2.1.2.2.2.2 x.1.2.2.2.1 x.1.2.2.2.2.1 x.1.2.2.2.2.2.1 x.1.2.2.2.2.2.2 x.2.1 x.2.2.1 x.2.2.2.1.1 x.2.2.2.1.2.1 x.2.2.2.1.2.2 x.2.2.2.2 (flatT (cutT x)) := by
  obtain ⟨a, b, c, d, q⟩ := x
  show curfewlaw11_row_R _ _ _ _ _ _ _ _ _ _ _ _ _ _ _ _ q _
  have hq : List.take ((Int.toNat (if 5 < (((List.length q) : Nat) : Int) then 5 else (((List.length q) : Nat) : Int))) - 0) (List.drop 0 q) = q.take 5 := by
    rw [List.drop_zero, Nat.sub_zero]
    by_cases h : 5 < (((List.length q) : Nat) : Int)
    · rw [if_pos h]; rfl
    · rw [if_neg h, Int.toNat_natCast, List.take_length, List.take_of_length_le (by omega)]
  refine ⟨?_, ?_⟩
  · by_cases h : 5 < (((List.length q) : Nat) : Int)
    · rw [if_pos h]; simp [Nat.ble_eq]; omega
    · rw [if_neg h]; simp [Nat.ble_eq]
  · have hc := clone_fn (l := q.take 5) (by rw [List.length_take]; omega)
    rw [← hq] at hc
    refine ⟨_, hc, ?_⟩
    rw [hq]; rfl

def ownL (l : List RowT) : List RowT := (l.take 13).map cutT

theorem own_loop {l : List RowT} (hl : l.length ≤ 9223372036854775807) : ∀ (d i : Nat) (out : List RowT), i + d = l.length → out.length ≤ i → (13 ≤ i → out.length ≤ 13) →
    ∃ k, curfewlaw11_own_l0 k (out, l, (l.length : Int), (i : Int)) (out ++ ((l.take 13).drop i).map cutT) := by
  intro d
  induction d with
  | zero =>
    intro i out hi ho h13
    refine ⟨1, br_no (no_of (by omega)) ?_⟩
    rw [List.drop_eq_nil_of_le (by rw [List.length_take]; omega)]
    simp
  | succ d ih =>
    intro i out hi ho h13
    have hlt : i < l.length := by omega
    have e : IntKind.wrap .i64 ((i : Int) + 1) = ((i + 1 : Nat) : Int) := wi_succ (by omega)
    by_cases h12 : (i : Int) ≤ 12
    · obtain ⟨k, hk⟩ := ih (i + 1) (out ++ [cutT (l.getD i zT)]) (by omega) (by simp; omega) (fun h => by simp; omega)
      rw [← e] at hk
      have ed : (l.take 13).drop i = l.getD i zT :: (l.take 13).drop (i + 1) := by
        have hlt2 : i < (l.take 13).length := by rw [List.length_take]; omega
        rw [dropT_cons hlt2]
        congr 1
        rw [List.getD_eq_getElem?_getD, List.getD_eq_getElem?_getD, List.getElem?_take, if_pos (by omega)]
      refine ⟨k + 1, br_yes (yes_of (by omega)) ⟨ix_ok hlt, br_yes (yes_of h12) ⟨_, row_fn (l.getD i zT), ?_, ?_⟩⟩⟩
      · rw [Nat.ble_eq]
        show (out ++ [cutT (l.getD i zT)]).length * 145 ≤ _
        simp; omega
      · rw [ed, List.map_cons, show out ++ cutT (l.getD i zT) :: ((l.take 13).drop (i + 1)).map cutT = (out ++ [cutT (l.getD i zT)]) ++ ((l.take 13).drop (i + 1)).map cutT from by simp]
        exact hk
    · obtain ⟨k, hk⟩ := ih (i + 1) out (by omega) (by omega) (fun _ => h13 (by omega))
      rw [← e] at hk
      have e1 : (l.take 13).drop i = [] := List.drop_eq_nil_of_le (by rw [List.length_take]; omega)
      have e2 : (l.take 13).drop (i + 1) = [] := List.drop_eq_nil_of_le (by rw [List.length_take]; omega)
      rw [e1]
      rw [e2] at hk
      exact ⟨k + 1, br_yes (yes_of (by omega)) ⟨ix_ok hlt, br_no (no_of h12) hk⟩⟩

theorem own_fn {l : List RowT} (hl : l.length ≤ 9223372036854775807) : curfewlaw11_own_R l (ownL l) := by
  obtain ⟨k, hk⟩ := own_loop hl l.length 0 [] (by omega) (Nat.le_refl _) (fun h => by omega)
  refine ⟨_, ⟨k, hk⟩, ?_⟩
  unfold ownL
  simp

theorem names_loop {l : List RowT} (hl : l.length ≤ 1000000) : ∀ (d i : Nat) (out : List Int), i + d = l.length → out.length ≤ i →
    ∃ k, table_Names_l0 k (out, l, (l.length : Int), (i : Int)) (out ++ (l.drop i).map (·.1.1)) := by
  intro d
  induction d with
  | zero =>
    intro i out hi ho
    refine ⟨1, br_no (no_of (by omega)) ?_⟩
    rw [List.drop_eq_nil_of_le (by omega)]; simp
  | succ d ih =>
    intro i out hi ho
    have hlt : i < l.length := by omega
    have e : IntKind.wrap .i64 ((i : Int) + 1) = ((i + 1 : Nat) : Int) := wi_succ (by omega)
    obtain ⟨k, hk⟩ := ih (i + 1) (out ++ [(l.getD i zT).1.1]) (by omega) (by simp; omega)
    rw [← e] at hk
    refine ⟨k + 1, br_yes (yes_of (by omega)) ⟨ix_ok hlt, ?_, ?_⟩⟩
    · rw [Nat.ble_eq]
      show (out ++ [(l.getD i zT).1.1]).length * 5 ≤ _
      simp; omega
    · rw [dropT_cons hlt, List.map_cons, show out ++ (l.getD i zT).1.1 :: (l.drop (i + 1)).map (·.1.1) = (out ++ [(l.getD i zT).1.1]) ++ (l.drop (i + 1)).map (·.1.1) from by simp]
      exact hk

theorem tabOk_len {l : List RowT} (h : tabOk l = true) : l.length ≤ 12 := by
  unfold tabOk at h
  simp only [Bool.and_eq_true, decide_eq_true_eq] at h
  exact h.1

theorem table_Names_fn {l : List RowT} (h : tabIn l) : table_Names_R l (if tabOk l then l.map (·.1.1) else []) := by
  refine ⟨_, table_Check_fn h, ?_⟩
  cases hk : tabOk l
  · exact br_yes rfl rfl
  · obtain ⟨k, hn⟩ := names_loop (l := l) (by have := tabOk_len hk; omega) l.length 0 [] (by omega) (Nat.le_refl _)
    exact br_no rfl ⟨_, ⟨k, hn⟩, by simp⟩
end Go.Proofs.YtjbpihalfaclkaaGreatDoor
/- What is due of a table, in order: the sort. -/
namespace Go.Proofs.YtjbpihalfaclkaaGreatDoor
open Go Go.B
set_option linter.unusedSimpArgs false
set_option linter.unusedVariables false
set_option linter.unusedSectionVars false
set_option maxRecDepth 20000

abbrev Du := Int × Int

def ltD (a b : Du) : Bool := decide (a.1 < b.1) || (decide (a.1 = b.1) && decide (a.2 < b.2))

theorem ltD_iff {a b : Du} : ltD a b = true ↔ a.1 < b.1 ∨ (a.1 = b.1 ∧ a.2 < b.2) := by unfold ltD; simp

theorem ltD_not {a b : Du} : ltD a b = false ↔ b.1 < a.1 ∨ (b.1 = a.1 ∧ b.2 ≤ a.2) := by
  rw [← Bool.not_eq_true, ltD_iff]; omega

theorem leD_trans {a b c : Du} (h : ltD b a = false) (k : ltD c b = false) : ltD c a = false := by
  rw [ltD_not] at *; omega

theorem ltD_le {a b : Du} (h : ltD a b = true) : ltD b a = false := by
  rw [ltD_iff] at h; rw [ltD_not]; omega

def cmpI (a b : Int) : Int := if a < b then -1 else if a > b then 1 else 0

theorem cmp_i64_fn (a b : Int) : cmp_Compare_int64_R a b (cmpI a b) := by
  have na : ∀ x : Int, cmp_isNaN_int64_R x false := fun x => by show (x != x) = false; simp
  refine ⟨_, na a, _, na b, br_no rfl (br_no rfl ?_)⟩
  unfold cmpI
  by_cases h : a < b
  · exact br_yes (yes_of h) (by rw [if_pos h])
  · refine br_no (no_of h) ?_
    rw [if_neg h]
    by_cases h2 : a > b
    · exact br_yes (yes_of h2) (by rw [if_pos h2])
    · exact br_no (no_of h2) (by rw [if_neg h2])

theorem cmp_u64_fn (a b : Int) : cmp_Compare_uint64_R a b (cmpI a b) := by
  have na : ∀ x : Int, cmp_isNaN_uint64_R x false := fun x => by show (x != x) = false; simp
  refine ⟨_, na a, _, na b, br_no rfl (br_no rfl ?_)⟩
  unfold cmpI
  by_cases h : a < b
  · exact br_yes (yes_of h) (by rw [if_pos h])
  · refine br_no (no_of h) ?_
    rw [if_neg h]
    by_cases h2 : a > b
    · exact br_yes (yes_of h2) (by rw [if_pos h2])
    · exact br_no (no_of h2) (by rw [if_neg h2])

def orC2 (a b : Int) : Int := if a ≠ 0 then a else b

theorem cmp_Or_fn (a b : Int) : cmp_Or_int_R [a, b] (orC2 a b) := by
  unfold orC2
  by_cases ha : a = 0
  · rw [if_neg (by simpa using ha)]
    by_cases hb : b = 0
    · refine ⟨.inr (), ⟨3, br_yes rfl ⟨rfl, br_no (by simp [ha]) (br_yes rfl ⟨rfl, br_no (by show (b != 0) = false; simp [hb]) (br_no rfl rfl)⟩)⟩⟩, ?_⟩
      exact hb.symm
    · exact ⟨.inl b, ⟨2, br_yes rfl ⟨rfl, br_no (by simp [ha]) (br_yes rfl ⟨rfl, br_yes (by show (b != 0) = true; simpa using hb) rfl⟩)⟩⟩, rfl⟩
  · rw [if_pos ha]
    exact ⟨.inl a, ⟨1, br_yes rfl ⟨rfl, br_yes (by simpa using ha) rfl⟩⟩, rfl⟩

theorem cmp_lt (a b : Du) : decide (orC2 (cmpI a.1 b.1) (cmpI a.2 b.2) < 0) = ltD a b := by
  rw [Bool.eq_iff_iff, decide_eq_true_iff, ltD_iff]
  unfold orC2 cmpI
  by_cases h1 : a.1 < b.1
  · simp [h1]
  · by_cases h2 : a.1 > b.1
    · rw [if_neg h1, if_pos h2]; simp; omega
    · rw [if_neg h1, if_neg h2]
      by_cases h3 : a.2 < b.2
      · simp [h3]; omega
      · by_cases h4 : a.2 > b.2
        · simp [h3, h4]; omega
        · simp [h3, h4]; omega

/-- the element at a place sinks to where it belongs -/
def swapD (L : List Du) (j : Nat) : List Du := (L.set (j + 1) (L.getD j (0, 0))).set j (L.getD (j + 1) (0, 0))

def sinkD : Nat → List Du → List Du × Nat
  | 0, L => (L, 0)
  | j + 1, L => if ltD (L.getD (j + 1) (0, 0)) (L.getD j (0, 0)) then sinkD j (swapD L j) else (L, j + 1)

theorem swapD_len (L : List Du) (j : Nat) : (swapD L j).length = L.length := by unfold swapD; simp

theorem sinkD_len : ∀ (j : Nat) (L : List Du), (sinkD j L).1.length = L.length
  | 0, L => rfl
  | j + 1, L => by
    unfold sinkD
    split
    · rw [sinkD_len j, swapD_len]
    · rfl

theorem sink_loop {x1 i : Int} : ∀ (j : Nat) (L : List Du), j < L.length → L.length ≤ 1000000 → ∃ k b, table_Dues_l1 k (L, x1, i, (j : Int)) ((sinkD j L).1, ((sinkD j L).2 : Int), decide (((sinkD j L).2 : Int) > 0), b)
  | 0, L, hj, hl => ⟨1, false, br_no (no_of (by omega)) rfl⟩
  | j + 1, L, hj, hl => by
    have ep : IntKind.wrap .i64 (((j + 1 : Nat) : Int) - 1) = (j : Int) := by rw [wi (by omega) (by omega)]; omega
    have c := cmp_lt (L.getD (j + 1) (0, 0)) (L.getD j (0, 0))
    have a1 := cmp_i64_fn (L.getD (j + 1) (0, 0)).1 (L.getD j (0, 0)).1
    have a2 := cmp_u64_fn (L.getD (j + 1) (0, 0)).2 (L.getD j (0, 0)).2
    have a3 := cmp_Or_fn (cmpI (L.getD (j + 1) (0, 0)).1 (L.getD j (0, 0)).1) (cmpI (L.getD (j + 1) (0, 0)).2 (L.getD j (0, 0)).2)
    unfold sinkD
    cases hc : ltD (L.getD (j + 1) (0, 0)) (L.getD j (0, 0))
    · rw [hc] at c
      refine ⟨1, true, br_yes (yes_of (by omega)) ⟨ix_ok hj, blt_ok hj, ?_⟩⟩
      rw [ep]
      exact ⟨ix_ok (by omega), blt_ok (by omega), _, a1, _, a2, _, a3, br_no c rfl⟩
    · rw [hc] at c
      obtain ⟨k, b, hk⟩ := sink_loop (x1 := x1) (i := i) j (swapD L j) (by rw [swapD_len]; omega) (by rw [swapD_len]; exact hl)
      refine ⟨k + 1, b, br_yes (yes_of (by omega)) ⟨ix_ok hj, blt_ok hj, ?_⟩⟩
      rw [ep]
      refine ⟨ix_ok (by omega), blt_ok (by omega), _, a1, _, a2, _, a3, br_yes c ⟨ix_ok (by omega), blt_ok (by omega), ix_ok hj, blt_ok hj, ix_ok hj, blt_ok hj, ix_ok (by omega), ?_, ?_⟩⟩
      · rw [List.length_set]; exact blt_ok (by omega)
      · exact hk

/-- the elements from a place on sink, one behind the other -/
def sortD : Nat → Nat → List Du → List Du
  | 0, _, L => L
  | d + 1, i, L => sortD d (i + 1) (sinkD i L).1

theorem sort_loop {n : Nat} (hn : n ≤ 1000000) : ∀ (d i : Nat) (L : List Du), i + d = n → L.length = n → ∃ k, table_Dues_l2 k (L, (n : Int), (i : Int)) (sortD d i L)
  | 0, i, L, h, hl => ⟨1, br_no (no_of (by omega)) rfl⟩
  | d + 1, i, L, h, hl => by
    obtain ⟨k1, b, h1⟩ := sink_loop (x1 := (n : Int)) (i := (i : Int)) i L (by omega) (by omega)
    obtain ⟨k, hk⟩ := sort_loop hn d (i + 1) (sinkD i L).1 (by omega) (by rw [sinkD_len]; exact hl)
    have e : IntKind.wrap .i64 ((i : Int) + 1) = ((i + 1 : Nat) : Int) := wi_succ (by omega)
    rw [← e] at hk
    exact ⟨k + 1, br_yes (yes_of (by omega)) ⟨_, ⟨k1, h1⟩, hk⟩⟩

theorem sortD_len : ∀ (d i : Nat) (L : List Du), (sortD d i L).length = L.length
  | 0, _, _ => rfl
  | d + 1, i, L => by
    show (sortD d (i + 1) (sinkD i L).1).length = _
    rw [sortD_len, sinkD_len]
end Go.Proofs.YtjbpihalfaclkaaGreatDoor
/- The sort sorts. -/
namespace Go.Proofs.YtjbpihalfaclkaaGreatDoor
open Go Go.B
set_option linter.unusedSimpArgs false
set_option linter.unusedVariables false
set_option linter.unusedSectionVars false
set_option maxRecDepth 20000

theorem swapD_app (A B : List Du) (a b : Du) : swapD (A ++ a :: b :: B) A.length = A ++ b :: a :: B := by
  unfold swapD
  have g0 : (A ++ a :: b :: B).getD A.length (0, 0) = a := by simp [List.getD_eq_getElem?_getD]
  have g1 : (A ++ a :: b :: B).getD (A.length + 1) (0, 0) = b := by simp [List.getD_eq_getElem?_getD, List.getElem?_append_right]
  rw [g0, g1, List.set_append_right _ _ (by omega), Nat.add_sub_cancel_left, List.set_append_right _ _ (Nat.le_refl _), Nat.sub_self]
  rfl

def leD (a b : Du) : Prop := ltD b a = false

theorem sink_sorts : ∀ (n : Nat) (A B : List Du) (x : Du), A.length = n → A.Pairwise leD → ∃ A2, (sinkD n (A ++ x :: B)).1 = A2 ++ B ∧ A2.Perm (A ++ [x]) ∧ A2.Pairwise leD
  | 0, A, B, x, hn, hp => by
    have : A = [] := List.length_eq_zero_iff.mp hn
    subst this
    exact ⟨[x], rfl, List.Perm.refl _, List.pairwise_singleton _ _⟩
  | n + 1, A, B, x, hn, hp => by
    obtain ⟨A', a, rfl⟩ : ∃ A' a, A = A' ++ [a] := by
      have hne : A ≠ [] := fun e => by rw [e] at hn; cases hn
      exact ⟨A.dropLast, A.getLast hne, (List.dropLast_concat_getLast hne).symm⟩
    have hn' : A'.length = n := by simpa using hn
    subst hn'
    have e : (A' ++ [a]) ++ x :: B = A' ++ a :: x :: B := by simp
    rw [e]
    have g0 : (A' ++ a :: x :: B).getD A'.length (0, 0) = a := by simp [List.getD_eq_getElem?_getD]
    have g1 : (A' ++ a :: x :: B).getD (A'.length + 1) (0, 0) = x := by simp [List.getD_eq_getElem?_getD, List.getElem?_append_right]
    obtain ⟨p1, p2, p3⟩ := List.pairwise_append.mp hp
    unfold sinkD
    rw [g0, g1]
    cases hc : ltD x a
    · refine ⟨A' ++ [a] ++ [x], by simp, List.Perm.refl _, List.pairwise_append.mpr ⟨hp, List.pairwise_singleton _ _, fun u hu v hv => ?_⟩⟩
      rw [List.mem_singleton] at hv
      subst hv
      rcases List.mem_append.mp hu with h1 | h1
      · exact leD_trans (p3 u h1 a List.mem_cons_self) hc
      · rw [List.mem_singleton] at h1; subst h1; exact hc
    · rw [if_pos rfl, swapD_app]
      obtain ⟨A2, q1, q2, q3⟩ := sink_sorts A'.length A' (a :: B) x rfl p1
      refine ⟨A2 ++ [a], by rw [q1]; simp, ?_, List.pairwise_append.mpr ⟨q3, List.pairwise_singleton _ _, fun u hu v hv => ?_⟩⟩
      · have h1 : (A2 ++ [a]).Perm ((A' ++ [x]) ++ [a]) := List.Perm.append_right _ q2
        refine h1.trans ?_
        rw [List.append_assoc, List.append_assoc]
        exact List.Perm.append_left _ (List.Perm.swap _ _ _)
      · rw [List.mem_singleton] at hv
        subst hv
        rcases List.mem_append.mp (q2.mem_iff.mp hu) with h1 | h1
        · exact p3 u h1 v List.mem_cons_self
        · rw [List.mem_singleton] at h1; subst h1; exact ltD_le hc

theorem sort_sorts : ∀ (d i : Nat) (A B : List Du), A.length = i → B.length = d → A.Pairwise leD → (sortD d i (A ++ B)).Perm (A ++ B) ∧ (sortD d i (A ++ B)).Pairwise leD
  | 0, i, A, B, hi, hd, hp => by
    have : B = [] := List.length_eq_zero_iff.mp hd
    subst this
    rw [List.append_nil]
    exact ⟨List.Perm.refl _, hp⟩
  | d + 1, i, A, B, hi, hd, hp => by
    cases B with
    | nil => cases hd
    | cons x B =>
      obtain ⟨A2, q1, q2, q3⟩ := sink_sorts i A B x hi hp
      show (sortD d (i + 1) (sinkD i (A ++ x :: B)).1).Perm _ ∧ _
      have hl : A2.length = i + 1 := by have := q2.length_eq; simp at this; omega
      obtain ⟨r1, r2⟩ := sort_sorts d (i + 1) A2 B hl (by simpa using hd) q3
      show (sortD d (i + 1) (sinkD i (A ++ x :: B)).1).Perm _ ∧ (sortD d (i + 1) (sinkD i (A ++ x :: B)).1).Pairwise leD
      rw [q1]
      refine ⟨r1.trans ?_, r2⟩
      have := List.Perm.append_right B q2
      rwa [List.append_assoc] at this

/-- what is due of a table, in the table's order, and in order -/
def duesW (l : List RowT) : List Du := (l.filter fun x => x.2.2.1 != -1).map fun x => (x.2.2.1, IntKind.wrap .u64 x.1.1)

def duesS (l : List RowT) : List Du := sortD ((duesW l).length - 1) 1 (duesW l)

theorem duesS_len (l : List RowT) : (duesS l).length = (duesW l).length := sortD_len _ _ _

theorem duesS_ok (l : List RowT) : (duesS l).Perm (duesW l) ∧ (duesS l).Pairwise leD := by
  unfold duesS
  cases h : duesW l with
  | nil => exact ⟨List.Perm.refl _, List.Pairwise.nil⟩
  | cons x B => exact sort_sorts B.length 1 [x] B rfl rfl (List.pairwise_singleton _ _)

theorem dues_loop {l : List RowT} (hl : l.length ≤ 1000000) : ∀ (d i : Nat) (out : List Du), i + d = l.length → out.length ≤ i →
    ∃ k, table_Dues_l0 k (out, l, (l.length : Int), (i : Int)) (out ++ duesW (l.drop i)) := by
  intro d
  induction d with
  | zero =>
    intro i out hi ho
    refine ⟨1, br_no (no_of (by omega)) ?_⟩
    rw [List.drop_eq_nil_of_le (by omega)]; simp [duesW]
  | succ d ih =>
    intro i out hi ho
    have hlt : i < l.length := by omega
    have e : IntKind.wrap .i64 ((i : Int) + 1) = ((i + 1 : Nat) : Int) := wi_succ (by omega)
    rw [dropT_cons hlt]
    cases hx : ((l.getD i zT).2.2.1 != -1)
    · obtain ⟨k, hk⟩ := ih (i + 1) out (by omega) (by omega)
      rw [← e] at hk
      refine ⟨k + 1, br_yes (yes_of (by omega)) ⟨ix_ok hlt, br_no hx ?_⟩⟩
      have : duesW (l.getD i zT :: l.drop (i + 1)) = duesW (l.drop (i + 1)) := by unfold duesW; rw [List.filter_cons, hx]; rfl
      rw [this]; exact hk
    · obtain ⟨k, hk⟩ := ih (i + 1) (out ++ [((l.getD i zT).2.2.1, IntKind.wrap .u64 (l.getD i zT).1.1)]) (by omega) (by simp; omega)
      rw [← e] at hk
      refine ⟨k + 1, br_yes (yes_of (by omega)) ⟨ix_ok hlt, br_yes hx ⟨?_, ?_⟩⟩⟩
      · rw [Nat.ble_eq]
        show (out ++ [((l.getD i zT).2.2.1, IntKind.wrap .u64 (l.getD i zT).1.1)]).length * 17 ≤ _
        simp; omega
      · have : duesW (l.getD i zT :: l.drop (i + 1)) = ((l.getD i zT).2.2.1, IntKind.wrap .u64 (l.getD i zT).1.1) :: duesW (l.drop (i + 1)) := by unfold duesW; rw [List.filter_cons, hx]; rfl
        rw [this, show out ++ ((l.getD i zT).2.2.1, IntKind.wrap .u64 (l.getD i zT).1.1) :: duesW (l.drop (i + 1)) = (out ++ [((l.getD i zT).2.2.1, IntKind.wrap .u64 (l.getD i zT).1.1)]) ++ duesW (l.drop (i + 1)) from by simp]
        exact hk

theorem duesW_le (l : List RowT) : (duesW l).length ≤ l.length := by
  unfold duesW
  rw [List.length_map]
  exact List.length_filter_le _ _
end Go.Proofs.YtjbpihalfaclkaaGreatDoor
/- What is due of a table: the program; whether it is there, whether names rise. -/
namespace Go.Proofs.YtjbpihalfaclkaaGreatDoor
open Go Go.B
set_option linter.unusedSimpArgs false
set_option linter.unusedVariables false
set_option linter.unusedSectionVars false
set_option maxRecDepth 20000

theorem wu8 {n : Int} (h0 : 0 ≤ n) (h1 : n ≤ 255) : IntKind.wrap .u8 n = n := by
  simp only [IntKind.wrap, IntKind.signed, IntKind.bits]
  simp
  omega

theorem len_small {n : Int} (h0 : 0 ≤ n) (h1 : n ≤ 255) : ∃ y, math_bits_Len_R n y := by
  refine ⟨_, _, br_no (no_of (by omega)) (br_no (no_of (by omega)) (br_no (no_of (by omega)) ⟨?_, rfl⟩)), rfl⟩
  rw [wu8 h0 h1, yes_of h0, yes_of (by omega)]; rfl

theorem table_Dues_fn {l : List RowT} (h : tabIn l) : table_Dues_R l (if tabOk l then duesS l else []) := by
  refine ⟨_, table_Check_fn h, ?_⟩
  cases hk : tabOk l
  · exact br_yes rfl rfl
  have hl := tabOk_len hk
  have hw := duesW_le l
  obtain ⟨k, hd⟩ := dues_loop (l := l) (by omega) l.length 0 [] (by omega) (Nat.le_refl _)
  rw [List.drop_zero, List.nil_append] at hd
  have eu : IntKind.wrap .u64 (((List.length (duesW l)) : Nat) : Int) = ((duesW l).length : Int) := wu (by omega) (by omega)
  obtain ⟨y7, h7⟩ := len_small (n := ((duesW l).length : Int)) (by omega) (by omega)
  have e0 : IntKind.wrap .i64 (((duesW l).length : Int) - 0) = ((duesW l).length : Int) := by rw [wi (by omega) (by omega)]; omega
  have hs : table_Dues_l2_L (duesW l, ((duesW l).length : Int), 1) (duesS l) := by
    unfold duesS
    cases hn : (duesW l).length with
    | zero => exact ⟨1, br_no (no_of (by omega)) rfl⟩
    | succ m =>
      obtain ⟨k2, q⟩ := sort_loop (n := m + 1) (by omega) m 1 (duesW l) (by omega) hn
      exact ⟨k2, q⟩
  refine br_no rfl ⟨_, ⟨k, hd⟩, y7, by rw [eu]; exact h7, duesS l, ⟨1, br_yes ?_ ⟨_, hs, rfl⟩⟩, ?_, rfl⟩
  · rw [e0]; exact yes_of (by omega)
  · rw [duesS_len]; exact Nat.beq_refl _

theorem index_loop {L : List Du} {a b : Int} (hl : L.length ≤ 1000000) : ∀ (d i : Nat), i + d = L.length →
    ∃ k y, slices_Index__api_Due_api_Due_l0 k (a, b, L, (L.length : Int), (i : Int)) y ∧ ((a, b) ∈ L.drop i → ∃ j : Nat, y = .inl (j : Int)) := by
  intro d
  induction d with
  | zero =>
    intro i hi
    refine ⟨1, .inr (), br_no (no_of (by omega)) rfl, fun h => ?_⟩
    rw [List.drop_eq_nil_of_le (by omega)] at h; cases h
  | succ d ih =>
    intro i hi
    have hlt : i < L.length := by omega
    obtain ⟨k, y, h1, h2⟩ := ih (i + 1) (by omega)
    have e : IntKind.wrap .i64 ((i : Int) + 1) = ((i + 1 : Nat) : Int) := wi_succ (by omega)
    rw [← e] at h1
    cases hc : ((a == (L.getD i (0, 0)).1) && ((b == (L.getD i (0, 0)).2) && true))
    · refine ⟨k + 1, y, br_yes (yes_of (by omega)) ⟨ix_ok hlt, br_no hc h1⟩, fun h => h2 ?_⟩
      have ed : L.drop i = L.getD i (0, 0) :: L.drop (i + 1) := by
        rw [List.drop_eq_getElem_cons hlt]
        simp [List.getD_eq_getElem?_getD, List.getElem?_eq_getElem hlt]
      rw [ed] at h
      rcases List.mem_cons.mp h with h | h
      · rw [← h] at hc; simp at hc
      · exact h
    · exact ⟨1, .inl (i : Int), br_yes (yes_of (by omega)) ⟨ix_ok hlt, br_yes hc rfl⟩, fun _ => ⟨i, rfl⟩⟩

theorem Contains_yes {L : List Du} {a b : Int} (hl : L.length ≤ 1000000) (h : (a, b) ∈ L) : slices_Contains__api_Due_api_Due_R L a b true := by
  obtain ⟨k, y, h1, h2⟩ := index_loop (a := a) (b := b) hl L.length 0 (by omega)
  obtain ⟨j, rfl⟩ := h2 (by rw [List.drop_zero]; exact h)
  exact ⟨_, ⟨_, ⟨k, h1⟩, rfl⟩, yes_of (by omega)⟩

theorem lessU_fn (a b : Int) : cmp_Less_uint32_R a b (decide (a < b)) := ⟨_, (by show (a != a) = false; simp : cmp_isNaN_uint32_R a false), br_no rfl rfl⟩

theorem IsSorted_yes {L : List Int} (hl : L.length ≤ 1000000) (h : ∀ i, i + 1 < L.length → L.getD i 0 ≤ L.getD (i + 1) 0) : slices_IsSorted__uint32_uint32_R L true := by
  have go : ∀ i, i < L.length → ∃ k, slices_IsSorted__uint32_uint32_l0 k (L, (i : Int)) (.inr ()) := by
    intro i
    induction i with
    | zero => exact fun _ => ⟨1, br_no (no_of (by omega)) rfl⟩
    | succ i ih =>
      intro hi
      obtain ⟨k, hk⟩ := ih (by omega)
      have ep : IntKind.wrap .i64 (((i + 1 : Nat) : Int) - 1) = (i : Int) := by rw [wi (by omega) (by omega)]; omega
      refine ⟨k + 1, br_yes (yes_of (by omega)) ⟨ix_ok hi, ?_⟩⟩
      rw [ep]
      refine ⟨ix_ok (by omega), _, lessU_fn _ _, br_no (no_of ?_) hk⟩
      have := h i hi
      show ¬ L.getD (i + 1) 0 < L.getD i 0
      omega
  cases hn : L.length with
  | zero =>
    refine ⟨.inr (), ⟨1, ?_⟩, rfl⟩
    rw [hn, show IntKind.wrap .i64 (((0 : Nat) : Int) - 1) = -1 from by rw [wi (by decide) (by decide)]; rfl]
    exact br_no (by decide) rfl
  | succ m =>
    obtain ⟨k, hk⟩ := go m (by omega)
    refine ⟨.inr (), ⟨k, ?_⟩, rfl⟩
    rw [hn, show IntKind.wrap .i64 (((m + 1 : Nat) : Int) - 1) = (m : Int) from by rw [wi (by omega) (by omega)]; omega]
    exact hk
end Go.Proofs.YtjbpihalfaclkaaGreatDoor
/- What tables come to: a table with one job in it. -/
namespace Go.Proofs.YtjbpihalfaclkaaGreatDoor
open Go Go.B
set_option linter.unusedSimpArgs false
set_option linter.unusedVariables false
set_option linter.unusedSectionVars false
set_option maxRecDepth 20000

def hC : Cron := ⟨1, 16777215, 4294967294, 8190, 127⟩

def hJ : Job := ⟨7, false, hC, 0, 0, 0, 0⟩

theorem hC_in : hC.in := ⟨⟨by decide, by decide⟩, ⟨by decide, by decide⟩, ⟨by decide, by decide⟩, ⟨by decide, by decide⟩, ⟨by decide, by decide⟩⟩

theorem hJ_in : hJ.in := ⟨hC_in, by decide, by decide⟩

theorem hC_n : nextFC hC (-1) = some 0 ∧ nextFC hC 100 = some 3600 ∧ nextFC hC 3599 = some 3600 ∧ nextFC hC 7200 = some 10800 := by decide +kernel

theorem hJ_good : hJ.good = true := by
  have h1 := hC_n.1
  unfold Job.good everB
  rw [show hJ.c = hC from rfl, nextF_C, h1]
  decide +kernel

theorem hJ_first (t : Int) : firstJ hJ t = nextFC hC t := by
  unfold firstJ
  rw [hJ_good]
  show nextF hC t = _
  rw [nextF_C]

theorem hJ_ck : hJ.ck = 0 := by
  have := Job.ck_good hJ
  rw [hJ_good] at this
  simpa using this

def hT (pa : Bool) (nx : Int) : RowT := ((7, (false, ((1, (16777215, (4294967294, (8190, 127)))), (0, (0, (0, 0)))))), (pa, (nx, ((0, (0, 0)), []))))

theorem hT_in (pa : Bool) (nx : Int) : tabIn [hT pa nx] := by
  intro x hx
  rw [List.mem_singleton] at hx
  subst hx
  exact ⟨hJ_in, by show (0 : Nat) ≤ 1000; omega, by show (0 : Int) ≤ 0; omega⟩

theorem hT_of (pa : Bool) (nx : Int) (h : (rowT (hT pa nx)).ok = true) : tabOk [hT pa nx] = true := by
  show (true && ((rowT (hT pa nx)).ok && _)) = true
  rw [h]
  rfl

theorem hT_go : tabOk [hT false 3600] = true := by
  refine hT_of _ _ ?_
  have o : ofJ hJ 3600 = true := by
    rw [ofJ_iff, hJ_first]
    exact hC_n.2.2.1
  show (hJ.good && (true && (true && (true && (true && (true && (true && (true && ((mayT 3600 && ofJ hJ 3600) && true)))))))) ) = true
  rw [hJ_good, o]
  rfl

theorem hT_stop : tabOk [hT true (-1)] = true := by
  refine hT_of _ _ ?_
  show (hJ.good && (true && (true && (true && (true && (true && (true && (true && true))))))) ) = true
  rw [hJ_good]
  rfl

theorem cmp_u32_fn (a b : Int) : cmp_Compare_uint32_R a b (cmpI a b) := by
  have na : ∀ x : Int, cmp_isNaN_uint32_R x false := fun x => by show (x != x) = false; simp
  refine ⟨_, na a, _, na b, br_no rfl (br_no rfl ?_)⟩
  unfold cmpI
  by_cases h : a < b
  · exact br_yes (yes_of h) (by rw [if_pos h])
  · refine br_no (no_of h) ?_
    rw [if_neg h]
    by_cases h2 : a > b
    · exact br_yes (yes_of h2) (by rw [if_pos h2])
    · exact br_no (no_of h2) (by rw [if_neg h2])

theorem place0 : table_place_R [] 7 (0, false) := ⟨0, ⟨1, br_no rfl rfl⟩, br_no rfl rfl⟩

theorem place1 (pa : Bool) (nx : Int) : table_place_R [hT pa nx] 7 (0, true) := by
  have e : IntKind.wrap .i64 (Int.fdiv (IntKind.wrap .u64 (IntKind.wrap .i64 (0 + 1))) (2 ^ 1)) = 0 := by decide
  have L : table_place_l0 2 ([hT pa nx], 7, 1, 0, 1) 0 := by
    refine br_yes rfl ?_
    rw [e]
    exact ⟨rfl, 0, cmp_u32_fn 7 7, br_no rfl (br_no rfl rfl)⟩
  exact ⟨0, ⟨2, L⟩, br_yes rfl ⟨rfl, 0, cmp_u32_fn 7 7, rfl⟩⟩

theorem copied0 : table_copied_R [] [] := ⟨[], ⟨fun _ => rfl, rfl, rfl⟩, [], ⟨1, br_no rfl rfl⟩, rfl⟩

theorem copied1 (pa : Bool) (nx : Int) : table_copied_R [hT pa nx] [hT pa nx] := by
  refine ⟨[hT pa nx], ⟨fun e => Bool.noConfusion e, rfl, rfl⟩, [hT pa nx], ⟨2, ?_⟩, rfl⟩
  exact br_yes rfl ⟨rfl, rfl, [], clone_fn (Nat.zero_le 1000000), rfl, rfl, br_no (show decide (IntKind.wrap .i64 (0 + 1) < (1 : Int)) = false from by decide) rfl⟩

theorem chk {l : List RowT} (h : tabIn l) (h2 : tabOk l = true) : table_Check_R l 0 := by
  have := table_Check_fn h
  rw [h2] at this
  exact this

theorem none_in : tabIn [] := fun _ h => nomatch h

theorem none_ok : tabOk [] = true := rfl

theorem jck : job_Check_R 7 false 1 16777215 4294967294 8190 127 0 0 0 0 0 := by
  have := job_Check_fn hJ_in
  rw [hJ_ck] at this
  exact this

theorem jfirst {t u : Int} (h : nextFC hC t = some u) : job_First_R 7 false 1 16777215 4294967294 8190 127 0 0 0 0 t (u, true) := by
  have := job_First_fn hJ_in t
  rw [hJ_first, h] at this
  exact this

theorem may_yes {t : Int} (h : 0 ≤ t) (h2 : t ≤ 253402300799) : times_May_R t true := by
  have := times_May_fn t
  rw [show mayT t = true from by simp [mayT, h, h2]] at this
  exact this

theorem add0 : table_Add_R [] 7 false 1 16777215 4294967294 8190 127 0 0 0 0 100 ([hT false 3600], 0) :=
  ⟨0, chk none_in none_ok, br_no rfl ⟨true, may_yes (by decide) (by decide), br_no rfl ⟨0, jck, br_no rfl ⟨(0, false), place0, (3600, true), jfirst hC_n.2.1,
    br_no rfl (br_no rfl (br_no rfl ⟨[], copied0, rfl, br_yes rfl ⟨rfl, rfl⟩⟩))⟩⟩⟩⟩

theorem add1 : table_Add_R [hT false 3600] 7 false 1 16777215 4294967294 8190 127 0 0 0 0 100 ([], 5) :=
  ⟨0, chk (hT_in _ _) hT_go, br_no rfl ⟨true, may_yes (by decide) (by decide), br_no rfl ⟨0, jck, br_no rfl ⟨(0, true), place1 _ _, (3600, true), jfirst hC_n.2.1,
    br_yes rfl rfl⟩⟩⟩⟩

theorem pause1 : table_Pause_R [hT false 3600] 7 ([hT true (-1)], 0) :=
  ⟨0, chk (hT_in _ _) hT_go, br_no rfl ⟨(0, true), place1 _ _, br_no rfl ⟨[hT false 3600], copied1 _ _, rfl, rfl, rfl, rfl, rfl⟩⟩⟩

theorem line1 : (rowT (hT true (-1))).line = [] := rfl

theorem resume1 : table_Resume_R [hT true (-1)] 7 7200 ([hT false 10800], 0) := by
  have hl := table_line_fn (hT_in true (-1) _ (List.mem_singleton.mpr rfl))
  rw [line1] at hl
  exact ⟨0, chk (hT_in _ _) hT_stop, br_no rfl ⟨true, may_yes (by decide) (by decide), br_no rfl ⟨0, chk (hT_in _ _) hT_stop, br_no rfl ⟨(0, true), place1 _ _, br_no rfl
    ⟨[hT true (-1)], copied1 _ _, rfl, rfl, br_no rfl ⟨rfl, [], hl, br_no rfl ⟨rfl, (10800, true), jfirst hC_n.2.2.2, rfl, rfl, br_no rfl ⟨rfl, rfl⟩⟩⟩⟩⟩⟩⟩⟩

theorem wakes11 : curfewlaw11_wakes_R true :=
  ⟨_, rfl, ([hT false 3600], 0), add0, _, rfl, ([], 5), add1, ([hT true (-1)], 0), pause1, ([hT false 10800], 0), resume1,
    br_yes rfl (br_yes rfl (br_yes rfl (br_yes rfl (br_yes rfl ⟨rfl, rfl, br_yes rfl (br_yes rfl ⟨rfl, rfl, br_yes rfl ⟨rfl, rfl, rfl⟩⟩)⟩))))⟩
end Go.Proofs.YtjbpihalfaclkaaGreatDoor
/- The law of a table's dues. -/
namespace Go.Proofs.YtjbpihalfaclkaaGreatDoor
open Go Go.B
set_option linter.unusedSimpArgs false
set_option linter.unusedVariables false
set_option linter.unusedSectionVars false
set_option maxRecDepth 20000

theorem wu64 {n : Int} (h0 : 0 ≤ n) (h1 : n ≤ 4294967295) : IntKind.wrap .u64 n = n := by
  simp only [IntKind.wrap, IntKind.signed, IntKind.bits]
  simp
  omega

theorem tabB_all {l : List RowT} : ∀ (d i : Nat), i + d = l.length → tabB l d i = true → ∀ j, i ≤ j → j < l.length → (rowT (l.getD j zT)).ok = true ∧ (j = 0 ∨ (l.getD (j - 1) zT).1.1 < (l.getD j zT).1.1) := by
  intro d
  induction d with
  | zero => intro i hi _ j h1 h2; omega
  | succ d ih =>
    intro i hi h j h1 h2
    unfold tabB at h
    simp only [Bool.and_eq_true, Bool.or_eq_true, decide_eq_true_eq] at h
    by_cases e : j = i
    · subst e; exact ⟨h.1, h.2.1⟩
    · exact ih (i + 1) (by omega) h.2.2.2 j (by omega) h2

theorem tabOk_all {l : List RowT} (h : tabOk l = true) : ∀ j, j < l.length → (rowT (l.getD j zT)).ok = true ∧ (j = 0 ∨ (l.getD (j - 1) zT).1.1 < (l.getD j zT).1.1) := by
  unfold tabOk at h
  rw [Bool.and_eq_true] at h
  exact fun j hj => tabB_all l.length 0 (by omega) h.2 j (by omega) hj

theorem ok_next {r : Row} (h : r.ok = true) (hn : r.nx ≠ -1) : firstJ r.j (r.nx - 1) = some r.nx ∧ 0 ≤ r.nx ∧ r.nx ≤ 253402300799 := by
  unfold Row.ok at h
  simp only [Bool.and_eq_true] at h
  obtain ⟨_, _, _, _, _, _, _, _, ha⟩ := h
  rw [List.all_eq_true] at ha
  have hm := ha r.nx (by unfold Row.line; rw [if_neg hn]; simp)
  rw [Bool.and_eq_true] at hm
  have o := ofJ_iff.mp hm.2
  have := ofJ_parts hm.2
  exact ⟨o, this.2.1, this.2.2.1⟩

theorem rows_loop {l : List RowT} {D : List Du} {N : List Int} (hl : l.length ≤ 1000000) (hin : tabIn l) (hk : ∀ j, j < l.length → (rowT (l.getD j zT)).ok = true)
    (hc : ∀ x ∈ l, x.2.2.1 ≠ -1 → slices_Contains__api_Due_api_Due_R D x.2.2.1 (IntKind.wrap .u64 x.1.1) true) : ∀ (d i c : Nat), i + d = l.length → c ≤ i →
    ∃ k, curfewlaw11_TableDues_l0 k (l, D, N, (c : Int), (l.length : Int), (i : Int)) (.inr ((c + (duesW (l.drop i)).length : Nat) : Int)) := by
  intro d
  induction d with
  | zero =>
    intro i c hi hci
    refine ⟨1, br_no (no_of (by omega)) ?_⟩
    rw [List.drop_eq_nil_of_le (by omega)]; rfl
  | succ d ih =>
    intro i c hi hci
    have hlt : i < l.length := by omega
    have e : IntKind.wrap .i64 ((i : Int) + 1) = ((i + 1 : Nat) : Int) := wi_succ (by omega)
    have ec : IntKind.wrap .i64 ((c : Int) + 1) = ((c + 1 : Nat) : Int) := wi_succ (by omega)
    rw [dropT_cons hlt]
    by_cases hx : (l.getD i zT).2.2.1 = -1
    · obtain ⟨k, h⟩ := ih (i + 1) c (by omega) (by omega)
      rw [← e] at h
      have : duesW (l.getD i zT :: l.drop (i + 1)) = duesW (l.drop (i + 1)) := by unfold duesW; rw [List.filter_cons, hx]; rfl
      rw [this]
      exact ⟨k + 1, br_yes (yes_of (by omega)) ⟨ix_ok hlt, blt_ok hlt, br_yes (beq_iff_eq.mpr hx) h⟩⟩
    · obtain ⟨k, h⟩ := ih (i + 1) (c + 1) (by omega) (by omega)
      rw [← e, ← ec] at h
      have hb : ((l.getD i zT).2.2.1 != -1) = true := by simpa using hx
      have : duesW (l.getD i zT :: l.drop (i + 1)) = ((l.getD i zT).2.2.1, IntKind.wrap .u64 (l.getD i zT).1.1) :: duesW (l.drop (i + 1)) := by unfold duesW; rw [List.filter_cons, hb]; rfl
      rw [this, List.length_cons, show c + ((duesW (l.drop (i + 1))).length + 1) = (c + 1) + (duesW (l.drop (i + 1))).length from by omega]
      obtain ⟨o1, o2, o3⟩ := ok_next (r := rowT (l.getD i zT)) (hk i hlt) hx
      have hf := job_First_fn (j := (rowT (l.getD i zT)).j) (hin _ (getT_mem hlt)).1 ((l.getD i zT).2.2.1 - 1)
      rw [show firstJ (rowT (l.getD i zT)).j ((l.getD i zT).2.2.1 - 1) = some (l.getD i zT).2.2.1 from o1] at hf
      have ew : IntKind.wrap .i64 ((l.getD i zT).2.2.1 - 1) = (l.getD i zT).2.2.1 - 1 := by
        have a1 : 0 ≤ (l.getD i zT).2.2.1 := o2
        have a2 : (l.getD i zT).2.2.1 ≤ 253402300799 := o3
        exact wi (by omega) (by omega)
      rw [← ew] at hf
      exact ⟨k + 1, br_yes (yes_of (by omega)) ⟨ix_ok hlt, blt_ok hlt, br_no (beq_eq_false_iff_ne.mpr hx) ⟨true, hc _ (getT_mem hlt) hx, br_no rfl ⟨_, hf, br_no rfl (br_no (bne_self_eq_false _) h)⟩⟩⟩⟩

theorem rise_loop {l : List RowT} {D : List Du} {N : List Int} {c : Int} (hl : D.length ≤ 1000000)
    (hd : ∀ j, j + 1 < D.length → ltD (D.getD j (0, 0)) (D.getD (j + 1) (0, 0)) = true) : ∀ (d i : Nat), i + d = D.length →
    ∃ k, curfewlaw11_TableDues_l1 k (l, D, N, c, (D.length : Int), (i : Int)) (.inr ()) := by
  intro d
  induction d with
  | zero =>
    intro i hi
    exact ⟨1, br_no (no_of (by omega)) rfl⟩
  | succ d ih =>
    intro i hi
    have hlt : i < D.length := by omega
    have e : IntKind.wrap .i64 ((i : Int) + 1) = ((i + 1 : Nat) : Int) := wi_succ (by omega)
    obtain ⟨k, h⟩ := ih (i + 1) (by omega)
    rw [← e] at h
    by_cases h0 : i = 0
    · exact ⟨k + 1, br_yes (yes_of (by omega)) ⟨ix_ok hlt, blt_ok hlt, br_no (no_of (by omega)) h⟩⟩
    · have ep : IntKind.wrap .i64 ((i : Int) - 1) = ((i - 1 : Nat) : Int) := by rw [wi (by omega) (by omega)]; omega
      have hr := hd (i - 1) (by omega)
      rw [show i - 1 + 1 = i from by omega, ltD_iff] at hr
      refine ⟨k + 1, br_yes (yes_of (by omega)) ⟨ix_ok hlt, blt_ok hlt, br_yes (yes_of (by omega)) ?_⟩⟩
      rw [ep]
      refine ⟨ix_ok (by omega), blt_ok (by omega), br_no (no_of ?_) ⟨ix_ok (by omega), blt_ok (by omega), ?_⟩⟩
      · show ¬ (D.getD (i - 1) (0, 0)).1 > (D.getD i (0, 0)).1
        omega
      · by_cases he : (D.getD (i - 1) (0, 0)).1 = (D.getD i (0, 0)).1
        · refine br_yes (beq_iff_eq.mpr he) ⟨ix_ok (by omega), blt_ok (by omega), br_no (no_of ?_) h⟩
          show ¬ (D.getD (i - 1) (0, 0)).2 ≥ (D.getD i (0, 0)).2
          omega
        · exact br_no (beq_eq_false_iff_ne.mpr he) h

theorem names_up {l : List RowT} (h : tabOk l = true) : ∀ (i j : Nat), i < j → j < l.length → (l.getD i zT).1.1 < (l.getD j zT).1.1 := by
  intro i j
  induction j with
  | zero => intro h1; omega
  | succ j ih =>
    intro h1 h2
    have := (tabOk_all h (j + 1) h2).2
    rcases this with e | e
    · omega
    · rw [Nat.add_sub_cancel] at e
      by_cases hj : i = j
      · subst hj; exact e
      · have := ih (by omega) (by omega); omega

theorem dues_apart {l : List RowT} (h : tabOk l = true) (hn : ∀ x ∈ l, 0 ≤ x.1.1 ∧ x.1.1 ≤ 4294967295) : (duesW l).Pairwise fun a b => a.2 ≠ b.2 := by
  unfold duesW
  rw [List.pairwise_map]
  refine List.Pairwise.filter _ ?_
  rw [List.pairwise_iff_getElem]
  intro i j hi hj hij
  have := names_up h i j hij hj
  rw [List.getD_eq_getElem?_getD, List.getD_eq_getElem?_getD, List.getElem?_eq_getElem hi, List.getElem?_eq_getElem hj] at this
  have n1 := hn _ (List.getElem_mem hi)
  have n2 := hn _ (List.getElem_mem hj)
  rw [wu64 n1.1 n1.2, wu64 n2.1 n2.2]
  simp only [Option.getD_some] at this
  omega

theorem duesS_up {l : List RowT} (h : tabOk l = true) (hn : ∀ x ∈ l, 0 ≤ x.1.1 ∧ x.1.1 ≤ 4294967295) : ∀ j, j + 1 < (duesS l).length → ltD ((duesS l).getD j (0, 0)) ((duesS l).getD (j + 1) (0, 0)) = true := by
  intro j hj
  obtain ⟨hp, hs⟩ := duesS_ok l
  have ha : (duesS l).Pairwise fun a b => a.2 ≠ b.2 := (hp.pairwise_iff (fun {a b} hab => fun e => hab e.symm)).mpr (dues_apart h hn)
  rw [List.pairwise_iff_getElem] at hs ha
  have s := hs j (j + 1) (by omega) hj (by omega)
  have a := ha j (j + 1) (by omega) hj (by omega)
  rw [List.getD_eq_getElem?_getD, List.getD_eq_getElem?_getD, List.getElem?_eq_getElem (by omega), List.getElem?_eq_getElem hj]
  simp only [Option.getD_some]
  unfold leD at s
  rw [ltD_not] at s
  rw [ltD_iff]
  omega

theorem TableDues_fn {l : List RowT} (hl : l.length ≤ 9223372036854775807) (hin : tabIn (ownL l)) (hn : ∀ x ∈ ownL l, 0 ≤ x.1.1 ∧ x.1.1 ≤ 4294967295) : curfewlaw11_TableDues_R l true := by
  refine ⟨true, wakes11, br_no rfl ⟨_, own_fn hl, _, table_Dues_fn hin, _, table_Names_fn hin, _, table_Check_fn hin, ?_⟩⟩
  cases hk : tabOk (ownL l)
  · refine br_yes rfl ?_
    simp only [Bool.false_eq_true, if_false]
    decide
  have h12 := tabOk_len hk
  have hdl : (duesS (ownL l)).length ≤ 12 := by rw [duesS_len]; have := duesW_le (ownL l); omega
  obtain ⟨k0, h0⟩ := rows_loop (l := ownL l) (D := duesS (ownL l)) (N := (ownL l).map (·.1.1)) (by omega) hin (fun j hj => (tabOk_all hk j hj).1) (fun x hx hne => Contains_yes (by omega) ((duesS_ok (ownL l)).1.mem_iff.mpr (by
    unfold duesW
    exact List.mem_map.mpr ⟨x, List.mem_filter.mpr ⟨hx, by simpa using hne⟩, rfl⟩))) (ownL l).length 0 0 (by omega) (Nat.le_refl _)
  rw [List.drop_zero, Nat.zero_add] at h0
  obtain ⟨k1, h1⟩ := rise_loop (l := ownL l) (D := duesS (ownL l)) (N := (ownL l).map (·.1.1)) (c := (((duesW (ownL l)).length : Nat) : Int)) (by omega) (duesS_up hk hn) (duesS (ownL l)).length 0 (by omega)
  refine br_no rfl ⟨_, ⟨k0, h0⟩, _, ⟨k1, h1⟩, ?_⟩
  refine br_yes (beq_iff_eq.mpr ?_) (br_yes (beq_iff_eq.mpr ?_) ⟨true, IsSorted_yes ?_ ?_, rfl⟩)
  · show (((duesW (ownL l)).length : Nat) : Int) = (((duesS (ownL l)).length : Nat) : Int)
    rw [duesS_len]
  · show (((List.map (·.1.1) (ownL l)).length : Nat) : Int) = _
    rw [List.length_map]
  · show (List.map (·.1.1) (ownL l)).length ≤ _
    rw [List.length_map]; omega
  · show ∀ i, i + 1 < (List.map (·.1.1) (ownL l)).length → (List.map (·.1.1) (ownL l)).getD i 0 ≤ (List.map (·.1.1) (ownL l)).getD (i + 1) 0
    intro i hi
    rw [List.length_map] at hi
    have := names_up hk i (i + 1) (by omega) hi
    have hg : ∀ j, j < (ownL l).length → (List.map (·.1.1) (ownL l)).getD j 0 = ((ownL l).getD j zT).1.1 := by
      intro j hj
      simp [List.getD_eq_getElem?_getD, List.getElem?_eq_getElem hj]
    rw [hg i (by omega), hg (i + 1) hi]
    omega
end Go.Proofs.YtjbpihalfaclkaaGreatDoor
