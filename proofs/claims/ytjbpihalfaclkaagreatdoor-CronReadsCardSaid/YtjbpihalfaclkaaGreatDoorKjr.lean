/- What the reference makes of texts of fields: fields. -/
import Derived.Test.YtjbpihalfaclkaaGreatDoorKj
import Derived.Test.YtjbpihalfaclkaaGreatDoorKgr
namespace Go.Proofs.YtjbpihalfaclkaaGreatDoor
open Go Go.B
set_option linter.unusedSimpArgs false
set_option linter.unusedVariables false
set_option linter.unusedSectionVars false
set_option maxRecDepth 20000

theorem rOr_fn {l : List Nat} (hl : l.length ≤ 1000) (h : ∀ m ∈ l, m < 18446744073709551616) : curfewref01_Or_R (l.map (fun m : Nat => (m : Int))) ((orL l : Nat) : Int) := by
  have key : ∀ d i, i + d = l.length → ∃ q, curfewref01_Or_l0 q (allB (l.take i), l.map (fun m : Nat => (m : Int)), ((l.map (fun m : Nat => (m : Int))).length : Int), (i : Int)) (allB l) := by
    intro d
    induction d with
    | zero =>
      intro i hi
      refine ⟨1, br_no (no_of (by rw [List.length_map]; omega)) ?_⟩
      rw [List.take_of_length_le (by omega)]
    | succ d ih =>
      intro i hi
      obtain ⟨q, hq⟩ := ih (i + 1) (by omega)
      have hlt : i < l.length := by omega
      have hlm : i < (l.map (fun m : Nat => (m : Int))).length := by rw [List.length_map]; exact hlt
      have hget : (l.map (fun m : Nat => (m : Int))).getD i 0 = ((l.getD i 0 : Nat) : Int) := by
        rw [List.getD_eq_getElem?_getD, List.getD_eq_getElem?_getD, List.getElem?_map, List.getElem?_eq_getElem hlt]; rfl
      have hmem : l.getD i 0 ∈ l := by rw [List.getD_eq_getElem?_getD, List.getElem?_eq_getElem hlt]; exact List.getElem_mem hlt
      have ht : l.take (i + 1) = l.take i ++ [l.getD i 0] := by
        rw [List.take_add_one, List.getD_eq_getElem?_getD, List.getElem?_eq_getElem hlt]; rfl
      have hb := h _ hmem
      have hlen := allB_len (l.take i)
      have hbl := bitsL_len ((l.getD i 0 : Nat) : Int)
      rw [List.length_take] at hlen
      rw [ht, allB_snoc] at hq
      refine ⟨q + 1, br_yes (yes_of (by rw [List.length_map]; omega)) ⟨ix_ok hlm, ?_⟩⟩
      rw [Int.toNat_natCast, hget]
      refine ⟨_, rAll_fn (m := ((l.getD i 0 : Nat) : Int)) ⟨by omega, by omega⟩, nl_ok (by rw [List.length_append]; omega), ?_⟩
      rw [wi_succ (by omega)]
      exact hq
  obtain ⟨q, hq⟩ := key l.length 0 (by omega)
  have hlen := allB_len l
  refine ⟨_, ⟨q, hq⟩, _, rOf_fn (l := allB l) (fun x hx => allB_mem hx) (by omega), ?_⟩
  rw [ofM_allB h]

theorem rread_loop {k : Nat} (hk : k < 5) : ∀ (n : Nat) (r : List UInt8) (a : Nat) (l : List Nat), r.count 44 ≤ n → r.length ≤ 300 → l.length + n ≤ 300 → a ≤ l.length * 301 → ∃ q, curfewref06_Read_l0 q (l.map (fun m : Nat => (m : Int)), (k : Int), (a : Int), (⟨r.toArray⟩ : ByteArray), true) (match rdL k (splitN 44 n r) a l with | .inl p => Sum.inl (p : Int) | .inr l' => Sum.inr (l'.map (fun m : Nat => (m : Int)))) := by
  -- a round: the piece, and what comes behind
  have round : ∀ (r : List UInt8) (a : Nat) (l : List Nat), r.length ≤ 300 → l.length ≤ 300 → a ≤ l.length * 301 → ∀ (Y : curfewref06_Read_l0_Y), (match itemO k (cutO 44 r).1 with
      | none => Y = Sum.inl (a : Int)
      | some v => ∃ q, curfewref06_Read_l0 q ((l ++ [v]).map (fun m : Nat => (m : Int)), (k : Int), ((a + (cutO 44 r).1.length + 1 : Nat) : Int), (⟨(cutO 44 r).2.1.toArray⟩ : ByteArray), (cutO 44 r).2.2) Y) → ∃ q, curfewref06_Read_l0 q (l.map (fun m : Nat => (m : Int)), (k : Int), (a : Int), (⟨r.toArray⟩ : ByteArray), true) Y := by
    intro r a l hr hl ha Y h
    have hl1 := (cutO_len (c := 44) r).1
    have cutv := rcut_fn ⟨r.toArray⟩ (by rw [mk_size]; omega) 44
    rw [bl_mk r] at cutv
    have it := ritem_fn hk ⟨(cutO 44 r).1.toArray⟩ (by rw [mk_size]; omega)
    rw [bl_mk (cutO 44 r).1] at it
    cases ho : itemO k (cutO 44 r).1 with
    | none =>
      rw [ho] at h it
      subst h
      exact ⟨1, br_yes rfl ⟨_, cutv, _, it, br_yes rfl rfl⟩⟩
    | some v =>
      rw [ho] at h it
      obtain ⟨q, hq⟩ := h
      refine ⟨q + 1, br_yes rfl ⟨_, cutv, _, it, br_no rfl ⟨nl_ok (by simp; omega), ?_⟩⟩⟩
      have e1 : IntKind.wrap .i64 (IntKind.wrap .i64 ((a : Int) + ((ByteArray.size (⟨(cutO 44 r).1.toArray⟩ : ByteArray) : Nat) : Int)) + 1) = ((a + (cutO 44 r).1.length + 1 : Nat) : Int) := by
        rw [mk_size, wi (x := (a : Int) + (((cutO 44 r).1.length : Nat) : Int)) (by omega) (by omega), wi (by omega) (by omega)]; omega
      show curfewref06_Read_l0 q (l.map (fun m : Nat => (m : Int)) ++ [(v : Int)], (k : Int), IntKind.wrap .i64 (IntKind.wrap .i64 ((a : Int) + ((ByteArray.size (⟨(cutO 44 r).1.toArray⟩ : ByteArray) : Nat) : Int)) + 1), (⟨(cutO 44 r).2.1.toArray⟩ : ByteArray), (cutO 44 r).2.2) Y
      rw [e1]
      rw [List.map_append] at hq
      exact hq
  have last : ∀ (r : List UInt8) (a : Nat) (l : List Nat), r.length ≤ 300 → l.length ≤ 300 → a ≤ l.length * 301 → (cutO 44 r).2.2 = false → ∃ q, curfewref06_Read_l0 q (l.map (fun m : Nat => (m : Int)), (k : Int), (a : Int), (⟨r.toArray⟩ : ByteArray), true) (match rdL k [r] a l with | .inl p => Sum.inl (p : Int) | .inr l' => Sum.inr (l'.map (fun m : Nat => (m : Int)))) := by
    intro r a l hr hl ha hc
    refine round r a l hr hl ha _ ?_
    have c1 := (cutO_no hc).1
    rw [c1]
    unfold rdL
    cases itemO k r with
    | none => rfl
    | some v =>
      refine ⟨1, ?_⟩
      rw [hc]
      exact br_no rfl rfl
  intro n
  induction n with
  | zero =>
    intro r a l h1 h2 h3 h4
    unfold splitN
    refine last r a l h2 (by omega) h4 ?_
    cases hc : (cutO 44 r).2.2
    · rfl
    · exfalso
      have : (44 : UInt8) ∈ r := by rw [(cutO_yes hc).1]; simp
      exact absurd (List.count_pos_iff.mpr this) (by omega)
  | succ n ih =>
    intro r a l h1 h2 h3 h4
    unfold splitN
    cases hc : (cutO 44 r).2.2
    · rw [if_neg (by decide)]
      exact last r a l h2 (by omega) h4 hc
    · rw [if_pos rfl]
      obtain ⟨k1, k2⟩ := cutO_yes hc
      have hcount : r.count 44 = (cutO 44 r).2.1.count 44 + 1 := by
        conv => lhs; rw [k1]
        rw [List.count_append, List.count_cons_self, List.count_eq_zero_of_not_mem k2]; omega
      have hlen := (cutO_len (c := 44) r).2 hc
      refine round r a l h2 (by omega) h4 _ ?_
      unfold rdL
      cases ho : itemO k (cutO 44 r).1 with
      | none => rfl
      | some v =>
        rw [hc]
        exact ih (cutO 44 r).2.1 (a + (cutO 44 r).1.length + 1) (l ++ [v]) (by omega) (by omega) (by simp; omega) (by simp; omega)

theorem rRead_fn {k : Nat} (hk : k < 5) (s : ByteArray) (hs : s.size ≤ 1000000) : curfewref06_Read_R (k : Int) s (readO k (bl s)) := by
  unfold readO
  rw [bl_len]
  by_cases h : 256 < s.size
  · rw [if_pos h]
    exact br_yes (yes_of (by omega)) rfl
  · rw [if_neg h]
    refine br_no (no_of (by omega)) ?_
    obtain ⟨q, hq⟩ := rread_loop hk (bl s).length (bl s) 0 [] List.count_le_length (by rw [bl_len]; omega) (by rw [bl_len]; simp; omega) (by simp)
    refine ⟨_, ⟨q, hq⟩, ?_⟩
    have e := rdL_readL k (splitC 44 (bl s)) 0 []
    have e2 : orL [] = 0 := rfl
    rw [e2] at e
    rw [e]
    unfold splitC
    cases hr : rdL k (splitN 44 (bl s).length (bl s)) 0 [] with
    | inl p => rfl
    | inr l' =>
      obtain ⟨h1, h2⟩ := rdL_ok hk _ _ _ l' (fun m hm => by cases hm) hr
      have := splitN_len 44 (bl s).length (bl s)
      rw [bl_len] at this
      refine ⟨_, rOr_fn (by simp at h2; rw [h2]; omega) h1, rfl⟩
end Go.Proofs.YtjbpihalfaclkaaGreatDoor
