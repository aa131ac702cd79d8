import Derived.Test.YtjdpkihlgpojkaaGreatDoorKjr
import Derived.Test.YtjdpkihlgpojkaaGreatDoorPb
import Derived.Test.YtjdpkihlgpojkaaGreatDoorMb
/- The reference's words, macros and crons. -/
namespace Go.Proofs.YtjdpkihlgpojkaaGreatDoor
open Go Go.B
set_option linter.unusedSimpArgs false
set_option linter.unusedVariables false
set_option linter.unusedSectionVars false
set_option maxRecDepth 20000

def wB (l : List (Nat × List UInt8)) : List (Int × ByteArray) := l.map fun x => ((x.1 : Int), (⟨x.2.toArray⟩ : ByteArray))

theorem wB_len (l : List (Nat × List UInt8)) : (wB l).length = l.length := by simp [wB]

theorem wB_snoc (l : List (Nat × List UInt8)) (x : Nat × List UInt8) : wB (l ++ [x]) = wB l ++ [((x.1 : Int), (⟨x.2.toArray⟩ : ByteArray))] := by simp [wB]

theorem wB_get (l : List (Nat × List UInt8)) (i : Nat) : (wB l).getD i (0, ⟨#[]⟩) = (((l.getD i (0, [])).1 : Int), (⟨(l.getD i (0, [])).2.toArray⟩ : ByteArray)) := by
  unfold wB
  rw [List.getD_eq_getElem?_getD, List.getElem?_map, List.getD_eq_getElem?_getD]
  cases l[i]? <;> rfl

theorem wB_set (l : List (Nat × List UInt8)) (i : Nat) (x : Nat × List UInt8) : (wB l).set i ((x.1 : Int), (⟨x.2.toArray⟩ : ByteArray)) = wB (l.set i x) := by
  unfold wB
  rw [List.map_set]

/-- the state of the reading behind the first i bytes -/
def stW (l : List UInt8) (i : Nat) : List (Nat × List UInt8) × Bool × Nat := (l.take i).foldl stepW ([], true, 0)

theorem stW_succ (l : List UInt8) (i : Nat) (h : i < l.length) : stW l (i + 1) = stepW (stW l i) (l.getD i 0) := by
  unfold stW
  rw [List.take_add_one, List.foldl_append, List.getElem?_eq_getElem h]
  simp [List.getD_eq_getElem?_getD, List.getElem?_eq_getElem h]

theorem stW_pos (l : List UInt8) : ∀ i, i ≤ l.length → (stW l i).2.2 = i ∧ (stW l i).2.1 = (decide (i = 0) || decide (l.getD (i - 1) 0 = 32)) ∧ ((stW l i).2.1 = false → 1 ≤ (stW l i).1.length) ∧ (stW l i).1.length ≤ i ∧ ∀ x ∈ (stW l i).1, x.2.length ≤ i
  | 0, _ => by simp [stW]
  | i + 1, h => by
    obtain ⟨h1, h2, h3, h4, h5⟩ := stW_pos l i (by omega)
    rw [stW_succ l i (by omega)]
    unfold stepW
    by_cases hb : l.getD i 0 = 32
    · rw [if_pos hb]
      refine ⟨by simp; omega, by rw [Nat.add_sub_cancel, hb]; simp, by simp, by simp; omega, fun x hx => ?_⟩
      have := h5 x hx; omega
    · rw [if_neg hb]
      have hb' : decide (l.getD i 0 = 32) = false := decide_eq_false hb
      cases hp : (stW l i).2.1
      · have h3 := h3 hp
        rw [if_neg (by decide)]
        refine ⟨by simp; omega, by rw [Nat.add_sub_cancel, hb']; simp, by simp; omega, by simp; omega, fun x hx => ?_⟩
        have hlt : (stW l i).1.length - 1 < (stW l i).1.length := by omega
        rcases List.mem_or_eq_of_mem_set hx with hx | hx
        · have := h5 x hx; omega
        · rw [hx]
          have hm : (stW l i).1.getD ((stW l i).1.length - 1) (0, []) ∈ (stW l i).1 := by
            rw [List.getD_eq_getElem?_getD, List.getElem?_eq_getElem hlt]; exact List.getElem_mem hlt
          have := h5 _ hm
          rw [List.length_append, List.length_singleton]; omega
      · rw [if_pos rfl]
        refine ⟨by simp; omega, by rw [Nat.add_sub_cancel, hb']; simp, by simp, by simp; omega, fun x hx => ?_⟩
        simp only [List.mem_append, List.mem_singleton] at hx
        rcases hx with hx | hx
        · have := h5 x hx; omega
        · rw [hx]; simp

theorem b_ne {b : UInt8} (h : b ≠ 32) : (((b.toNat : Nat) : Int) == 32) = false := by
  have : b.toNat ≠ 32 := fun e => h (by rw [← UInt8.toNat_inj]; exact e)
  exact beq_eq_false_iff_ne.mpr (by omega)

theorem ext_one (s : ByteArray) {i : Nat} (h : i < s.size) : ByteArray.extract s i (i + 1) = ⟨[(bl s).getD i 0].toArray⟩ := by
  apply bl_ext
  rw [bl_extract]
  show _ = [(bl s).getD i 0]
  rw [show i + 1 - i = 1 by omega, drop_bl h]
  rfl

theorem rwords_loop (s : ByteArray) (hs : s.size ≤ 1000) : ∀ d i, i + d = s.size → ∃ q, curfewref07_words_l0 q (wB (stW (bl s) i).1, s, (i : Int)) (wB (wordsO (bl s))) := by
  intro d
  induction d with
  | zero =>
    intro i h
    refine ⟨1, br_no (no_of (by omega)) ?_⟩
    unfold stW
    rw [List.take_of_length_le (by rw [bl_len]; omega), words_fold]
  | succ d ih =>
    intro i h
    have hi : i < s.size := by omega
    have hil : i < (bl s).length := hi
    obtain ⟨q, hq⟩ := ih (i + 1) (by omega)
    have ew : IntKind.wrap .i64 ((i : Int) + 1) = ((i + 1 : Nat) : Int) := wi_succ (by omega)
    obtain ⟨p1, p2, p3, p4, p5⟩ := stW_pos (bl s) i (by omega)
    have p1' := p1
    rw [stW_succ (bl s) i hil] at hq
    have hd : ((decide (0 ≤ (i : Int))) && (decide ((i : Int) < ((ByteArray.size s : Nat) : Int)))) = true := by simp; omega
    have hb : (List.getD (Array.toList (ByteArray.data s)) (Int.toNat (i : Int)) 0) = (bl s).getD i 0 := by rw [Int.toNat_natCast]
    by_cases h32 : (bl s).getD i 0 = 32
    · refine ⟨q + 1, br_yes (yes_of (by omega)) ⟨hd, br_yes (by rw [hb, h32]; rfl) ?_⟩⟩
      rw [ew]
      have e : stepW (stW (bl s) i) ((bl s).getD i 0) = ((stW (bl s) i).1, true, (stW (bl s) i).2.2 + 1) := by unfold stepW; rw [if_pos h32]
      rw [e] at hq
      exact hq
    · have hne : ((((List.getD (Array.toList (ByteArray.data s)) (Int.toNat (i : Int)) 0).toNat : Nat) : Int) == 32) = false := by
        rw [hb]
        exact b_ne h32
      have hext : ByteArray.extract s (Int.toNat (i : Int)) (Int.toNat (((i + 1 : Nat) : Int))) = ⟨[(bl s).getD i 0].toArray⟩ := by
        rw [Int.toNat_natCast, Int.toNat_natCast, ext_one s hi]
      have hsl : ((((decide (0 ≤ ((i + 1 : Nat) : Int))) && (Nat.ble (Int.toNat ((i + 1 : Nat) : Int)) (ByteArray.size s))) && (decide (0 ≤ (i : Int)))) && (Nat.ble (Int.toNat (i : Int)) (Int.toNat ((i + 1 : Nat) : Int)))) = true := by
        rw [Int.toNat_natCast, Int.toNat_natCast]
        simp [Nat.ble_eq]; omega
      -- a word goes on, or begins
      have last : ∀ (L : List (Nat × List UInt8)), 1 ≤ L.length → L.length ≤ i + 1 → (∀ x ∈ L, x.2.length ≤ i) → ∀ {Y},
          curfewref07_words_l0 q (wB (L.set (L.length - 1) ((L.getD (L.length - 1) (0, [])).1, (L.getD (L.length - 1) (0, [])).2 ++ [(bl s).getD i 0])), s, ((i + 1 : Nat) : Int)) Y →
          (req ((decide (0 ≤ (IntKind.wrap .i64 ((((List.length (wB L)) : Nat) : Int) - 1)))) && (decide ((IntKind.wrap .i64 ((((List.length (wB L)) : Nat) : Int) - 1)) < (((List.length (wB L)) : Nat) : Int)))) (req (Nat.blt (Int.toNat (IntKind.wrap .i64 ((((List.length (wB L)) : Nat) : Int) - 1))) (List.length (wB L))) (req ((((decide (0 ≤ (IntKind.wrap .i64 ((i : Int) + 1)))) && (Nat.ble (Int.toNat (IntKind.wrap .i64 ((i : Int) + 1))) (ByteArray.size s))) && (decide (0 ≤ (i : Int)))) && (Nat.ble (Int.toNat (i : Int)) (Int.toNat (IntKind.wrap .i64 ((i : Int) + 1))))) (req (decide (ByteArray.size ((List.getD (wB L) (Int.toNat (IntKind.wrap .i64 ((((List.length (wB L)) : Nat) : Int) - 1))) (0, (⟨#[]⟩ : ByteArray))).2) + ByteArray.size (ByteArray.extract s (Int.toNat (i : Int)) (Int.toNat (IntKind.wrap .i64 ((i : Int) + 1)))) ≤ 9223372036854775807)) (req ((decide (0 ≤ (IntKind.wrap .i64 ((((List.length (wB L)) : Nat) : Int) - 1)))) && (decide ((IntKind.wrap .i64 ((((List.length (wB L)) : Nat) : Int) - 1)) < (((List.length (wB L)) : Nat) : Int)))) (req (Nat.blt (Int.toNat (IntKind.wrap .i64 ((((List.length (wB L)) : Nat) : Int) - 1))) (List.length (wB L))) (curfewref07_words_l0 q ((List.set (wB L) (Int.toNat (IntKind.wrap .i64 ((((List.length (wB L)) : Nat) : Int) - 1))) (((List.getD (wB L) (Int.toNat (IntKind.wrap .i64 ((((List.length (wB L)) : Nat) : Int) - 1))) (0, (⟨#[]⟩ : ByteArray))).1), (((List.getD (wB L) (Int.toNat (IntKind.wrap .i64 ((((List.length (wB L)) : Nat) : Int) - 1))) (0, (⟨#[]⟩ : ByteArray))).2) ++ (ByteArray.extract s (Int.toNat (i : Int)) (Int.toNat (IntKind.wrap .i64 ((i : Int) + 1))))))), s, (IntKind.wrap .i64 ((i : Int) + 1))) Y))))))) := by
        intro L hL1 hL2 hL3 Y hY
        have el : IntKind.wrap .i64 (((List.length (wB L) : Nat) : Int) - 1) = ((L.length - 1 : Nat) : Int) := by rw [wB_len, wi (by omega) (by omega)]; omega
        have hlt : L.length - 1 < L.length := by omega
        have hmem : (L.getD (L.length - 1) (0, [])) ∈ L := by
          rw [List.getD_eq_getElem?_getD, List.getElem?_eq_getElem hlt]; exact List.getElem_mem hlt
        rw [el, ew, hext]
        rw [Int.toNat_natCast (L.length - 1), wB_get]
        have ix : ((decide (0 ≤ ((L.length - 1 : Nat) : Int))) && (decide (((L.length - 1 : Nat) : Int) < ((List.length (wB L) : Nat) : Int)))) = true := by rw [wB_len]; simp; omega
        have ib : Nat.blt (L.length - 1) (List.length (wB L)) = true := by rw [wB_len, Nat.blt_eq]; exact hlt
        refine ⟨ix, ib, hsl, ?_, ix, ib, ?_⟩
        · have := hL3 _ hmem
          have m1 := mk_size (L.getD (L.length - 1) (0, [])).2
          have m2 := mk_size [(bl s).getD i 0]
          simp only [List.length_singleton] at m2
          exact yes_of (by simp only; omega)
        · simp only
          rw [ba_append, wB_set L (L.length - 1) ((L.getD (L.length - 1) (0, [])).1, (L.getD (L.length - 1) (0, [])).2 ++ [(bl s).getD i 0])]
          exact hY
      cases hp : (stW (bl s) i).2.1
      · -- it goes on
        rw [hp] at p2
        have i0 : i ≠ 0 := fun e => by subst e; simp at p2
        have h31 : (bl s).getD (i - 1) 0 ≠ 32 := fun e => by rw [e] at p2; simp at p2
        have e : stepW (stW (bl s) i) ((bl s).getD i 0) = ((stW (bl s) i).1.set ((stW (bl s) i).1.length - 1) (((stW (bl s) i).1.getD ((stW (bl s) i).1.length - 1) (0, [])).1, ((stW (bl s) i).1.getD ((stW (bl s) i).1.length - 1) (0, [])).2 ++ [(bl s).getD i 0]), false, (stW (bl s) i).2.2 + 1) := by
          unfold stepW; rw [if_neg h32, hp]; rfl
        rw [e] at hq
        have em : IntKind.wrap .i64 ((i : Int) - 1) = ((i - 1 : Nat) : Int) := by rw [wi (by omega) (by omega)]; omega
        refine ⟨q + 1, br_yes (yes_of (by omega)) ⟨hd, br_no hne (br_no (by simp; omega) ⟨by rw [em]; simp; omega, br_no ?_ (last _ (p3 hp) (by omega) (fun x hx => p5 x hx) hq)⟩)⟩⟩
        rw [em, Int.toNat_natCast]
        show ((((bl s).getD (i - 1) 0).toNat : Int) == 32) = false
        exact b_ne h31
      · -- it begins
        have e : stepW (stW (bl s) i) ((bl s).getD i 0) = ((stW (bl s) i).1 ++ [(i, [(bl s).getD i 0])], false, (stW (bl s) i).2.2 + 1) := by
          unfold stepW; rw [if_neg h32, hp, p1']; rfl
        rw [e] at hq
        have enew : wB (stW (bl s) i).1 ++ [((i : Int), (⟨#[]⟩ : ByteArray))] = wB ((stW (bl s) i).1 ++ [(i, [])]) := by rw [wB_snoc]
        have hset : ((stW (bl s) i).1 ++ [(i, ([] : List UInt8))]).set (((stW (bl s) i).1 ++ [(i, ([] : List UInt8))]).length - 1) ((((stW (bl s) i).1 ++ [(i, ([] : List UInt8))]).getD (((stW (bl s) i).1 ++ [(i, ([] : List UInt8))]).length - 1) (0, [])).1, (((stW (bl s) i).1 ++ [(i, ([] : List UInt8))]).getD (((stW (bl s) i).1 ++ [(i, ([] : List UInt8))]).length - 1) (0, [])).2 ++ [(bl s).getD i 0]) = (stW (bl s) i).1 ++ [(i, [(bl s).getD i 0])] := by simp
        have hlast := last ((stW (bl s) i).1 ++ [(i, [])]) (by simp) (by simp; omega) (fun x hx => by
          rcases List.mem_append.mp hx with hx | hx
          · exact p5 x hx
          · simp at hx; rw [hx]; simp) (by rw [hset]; exact hq)
        have hroom : Nat.ble ((List.length (wB (stW (bl s) i).1 ++ [((i : Int), (⟨#[]⟩ : ByteArray))])) * 25) 140737488355328 = true := by
          rw [Nat.ble_eq, List.length_append, wB_len]; simp; omega
        rw [← enew] at hlast
        by_cases i0 : i = 0
        · exact ⟨q + 1, br_yes (yes_of (by omega)) ⟨hd, br_no hne (br_yes (by simp [i0]) ⟨hroom, hlast⟩)⟩⟩
        · have em : IntKind.wrap .i64 ((i : Int) - 1) = ((i - 1 : Nat) : Int) := by rw [wi (by omega) (by omega)]; omega
          refine ⟨q + 1, br_yes (yes_of (by omega)) ⟨hd, br_no hne (br_no (by simp; omega) ⟨by rw [em]; simp; omega, br_yes ?_ ⟨hroom, hlast⟩⟩)⟩⟩
          rw [hp] at p2
          have h31 : (bl s).getD (i - 1) 0 = 32 := by simpa [i0] using p2.symm
          rw [em, Int.toNat_natCast]
          show ((((bl s).getD (i - 1) 0).toNat : Int) == 32) = true
          rw [h31]; rfl

theorem rwords_fn {s : ByteArray} (hs : s.size ≤ 1000) : curfewref07_words_R s (wB (wordsO (bl s))) := by
  obtain ⟨q, hq⟩ := rwords_loop s hs s.size 0 (by omega)
  exact ⟨_, ⟨q, hq⟩, rfl⟩

theorem rMacro_fn (s : ByteArray) : curfewref07_Macro_R s ⟨(macroO (bl s)).toArray⟩ := by
  unfold curfewref07_Macro_R curfewref07_Macro_j0
  simp only [tl_same]
  generalize bl s = l
  by_cases h0 : l = [64, 121, 101, 97, 114, 108, 121]
  · subst h0; (repeat (first | refine br_yes (by decide +kernel) ?_ | refine br_no (by decide +kernel) ?_)); rfl
  by_cases h1 : l = [64, 97, 110, 110, 117, 97, 108, 108, 121]
  · subst h1; (repeat (first | refine br_yes (by decide +kernel) ?_ | refine br_no (by decide +kernel) ?_)); rfl
  by_cases h2 : l = [64, 109, 111, 110, 116, 104, 108, 121]
  · subst h2; (repeat (first | refine br_yes (by decide +kernel) ?_ | refine br_no (by decide +kernel) ?_)); rfl
  by_cases h3 : l = [64, 119, 101, 101, 107, 108, 121]
  · subst h3; (repeat (first | refine br_yes (by decide +kernel) ?_ | refine br_no (by decide +kernel) ?_)); rfl
  by_cases h4 : l = [64, 100, 97, 105, 108, 121]
  · subst h4; (repeat (first | refine br_yes (by decide +kernel) ?_ | refine br_no (by decide +kernel) ?_)); rfl
  by_cases h5 : l = [64, 109, 105, 100, 110, 105, 103, 104, 116]
  · subst h5; (repeat (first | refine br_yes (by decide +kernel) ?_ | refine br_no (by decide +kernel) ?_)); rfl
  by_cases h6 : l = [64, 104, 111, 117, 114, 108, 121]
  · subst h6; (repeat (first | refine br_yes (by decide +kernel) ?_ | refine br_no (by decide +kernel) ?_)); rfl
  have hm : macroO l = [] := by
    unfold macroO
    rw [if_neg h0, if_neg h1, if_neg h2, if_neg h3, if_neg h4, if_neg h5, if_neg h6]
  rw [hm]
  exact br_no (decide_eq_false h0) (br_no (decide_eq_false h1) (br_no (decide_eq_false h2) (br_no (decide_eq_false h3) (br_no (decide_eq_false h4) (br_no (decide_eq_false h5) (br_no (decide_eq_false h6) rfl))))))

theorem rReadC_loop {s : ByteArray} {ws : List (Nat × List UInt8)} (hw : ∀ x ∈ ws, x.1 + x.2.length ≤ 256) (hl : ws.length ≤ 1000) : ∀ (d i : Nat) (c : F5), i + d = ws.length → i ≤ 5 → ∃ q, curfewref07_Read0_l0 q (wB ws, c.1, c.2.1, c.2.2.1, c.2.2.2.1, c.2.2.2.2, s, (ws.length : Int), (i : Int)) (match goC (ws.drop i) i c with
    | .inl p => .inl p
    | .inr (_, c') => .inr (c'.1, c'.2.1, c'.2.2.1, c'.2.2.2.1, c'.2.2.2.2)) := by
  intro d
  induction d with
  | zero =>
    intro i c h hi5
    rw [List.drop_eq_nil_of_le (by omega)]
    exact ⟨1, br_no (no_of (by omega)) rfl⟩
  | succ d ih =>
    intro i c h hi5
    have hi : i < ws.length := by omega
    have ew : IntKind.wrap .i64 ((i : Int) + 1) = ((i + 1 : Nat) : Int) := wi_succ (by omega)
    have hmem : ws.getD i (0, []) ∈ ws := by
      rw [List.getD_eq_getElem?_getD, List.getElem?_eq_getElem hi]; exact List.getElem_mem hi
    have hdr : ws.drop i = ws.getD i (0, []) :: ws.drop (i + 1) := by
      rw [List.drop_eq_getElem_cons hi, List.getD_eq_getElem?_getD, List.getElem?_eq_getElem hi]; rfl
    have hx := hw _ hmem
    have e1 : ((decide (0 ≤ (i : Int))) && (decide ((i : Int) < (((List.length (wB ws)) : Nat) : Int)))) = true := by rw [wB_len]; exact ix_ok hi
    have e2 : Nat.blt (Int.toNat (i : Int)) (List.length (wB ws)) = true := by rw [wB_len]; exact blt_ok hi
    have eg : List.getD (wB ws) (Int.toNat (i : Int)) (0, (⟨#[]⟩ : ByteArray)) = (((ws.getD i (0, [])).1 : Int), (⟨(ws.getD i (0, [])).2.toArray⟩ : ByteArray)) := by rw [Int.toNat_natCast, wB_get]
    rw [hdr]
    generalize hxx : ws.getD i (0, []) = x at *
    unfold goC
    by_cases h5 : 5 ≤ i
    · rw [if_pos h5]
      obtain rfl : i = 5 := by omega
      exact ⟨1, br_yes (yes_of (by omega)) ⟨e1, e2, br_yes rfl (by rw [eg])⟩⟩
    · rw [if_neg h5]
      have hp := readO_pos (k := i) x.2
      have hr := rRead_fn (k := i) (by omega) ⟨x.2.toArray⟩ (by rw [mk_size]; omega)
      rw [bl_mk x.2] at hr
      by_cases he : (readO i x.2).2.2 = 0
      · rw [if_pos he]
        obtain ⟨q, hq⟩ := ih (i + 1) (setF c i (readO i x.2).1) (by omega) (by omega)
        refine ⟨q + 1, br_yes (yes_of (by omega)) ⟨e1, e2, br_no (by simp; omega) ⟨_, by rw [eg]; exact hr, br_no (by rw [he]; rfl) ⟨by simp; omega, by rw [offk, Nat.blt_eq]; omega, ?_⟩⟩⟩⟩
        rw [ew, offk, Nat.mul_one]
        have i4 : i = 0 ∨ i = 1 ∨ i = 2 ∨ i = 3 ∨ i = 4 := by omega
        rcases i4 with rfl | rfl | rfl | rfl | rfl <;> exact hq
      · rw [if_neg he]
        refine ⟨1, br_yes (yes_of (by omega)) ⟨e1, e2, br_no (by simp; omega) ⟨_, by rw [eg]; exact hr, br_yes (by simpa using he) ?_⟩⟩⟩
        rw [eg]
        simp only
        rw [wi (by omega) (by omega)]

theorem rReadD_loop {s : ByteArray} {ws : List (Nat × List UInt8)} (hw : ∀ x ∈ ws, x.1 + x.2.length ≤ 256) (hl : ws.length ≤ 1000) : ∀ (d i : Nat) (c : F5), i + d = ws.length → i ≤ 5 → ∃ q, curfewref07_Read_l0 q (wB ws, c.1, c.2.1, c.2.2.1, c.2.2.2.1, c.2.2.2.2, s, (ws.length : Int), (i : Int)) (match goC (ws.drop i) i c with
    | .inl p => .inl p
    | .inr (_, c') => .inr (c'.1, c'.2.1, c'.2.2.1, c'.2.2.2.1, c'.2.2.2.2)) := by
  intro d
  induction d with
  | zero =>
    intro i c h hi5
    rw [List.drop_eq_nil_of_le (by omega)]
    exact ⟨1, br_no (no_of (by omega)) rfl⟩
  | succ d ih =>
    intro i c h hi5
    have hi : i < ws.length := by omega
    have ew : IntKind.wrap .i64 ((i : Int) + 1) = ((i + 1 : Nat) : Int) := wi_succ (by omega)
    have hmem : ws.getD i (0, []) ∈ ws := by
      rw [List.getD_eq_getElem?_getD, List.getElem?_eq_getElem hi]; exact List.getElem_mem hi
    have hdr : ws.drop i = ws.getD i (0, []) :: ws.drop (i + 1) := by
      rw [List.drop_eq_getElem_cons hi, List.getD_eq_getElem?_getD, List.getElem?_eq_getElem hi]; rfl
    have hx := hw _ hmem
    have e1 : ((decide (0 ≤ (i : Int))) && (decide ((i : Int) < (((List.length (wB ws)) : Nat) : Int)))) = true := by rw [wB_len]; exact ix_ok hi
    have e2 : Nat.blt (Int.toNat (i : Int)) (List.length (wB ws)) = true := by rw [wB_len]; exact blt_ok hi
    have eg : List.getD (wB ws) (Int.toNat (i : Int)) (0, (⟨#[]⟩ : ByteArray)) = (((ws.getD i (0, [])).1 : Int), (⟨(ws.getD i (0, [])).2.toArray⟩ : ByteArray)) := by rw [Int.toNat_natCast, wB_get]
    rw [hdr]
    generalize hxx : ws.getD i (0, []) = x at *
    unfold goC
    by_cases h5 : 5 ≤ i
    · rw [if_pos h5]
      obtain rfl : i = 5 := by omega
      exact ⟨1, br_yes (yes_of (by omega)) ⟨e1, e2, br_yes rfl (by rw [eg])⟩⟩
    · rw [if_neg h5]
      have hp := readO_pos (k := i) x.2
      have hr := rRead_fn (k := i) (by omega) ⟨x.2.toArray⟩ (by rw [mk_size]; omega)
      rw [bl_mk x.2] at hr
      by_cases he : (readO i x.2).2.2 = 0
      · rw [if_pos he]
        obtain ⟨q, hq⟩ := ih (i + 1) (setF c i (readO i x.2).1) (by omega) (by omega)
        refine ⟨q + 1, br_yes (yes_of (by omega)) ⟨e1, e2, br_no (by simp; omega) ⟨_, by rw [eg]; exact hr, br_no (by rw [he]; rfl) ⟨by simp; omega, by rw [offk, Nat.blt_eq]; omega, ?_⟩⟩⟩⟩
        rw [ew, offk, Nat.mul_one]
        have i4 : i = 0 ∨ i = 1 ∨ i = 2 ∨ i = 3 ∨ i = 4 := by omega
        rcases i4 with rfl | rfl | rfl | rfl | rfl <;> exact hq
      · rw [if_neg he]
        refine ⟨1, br_yes (yes_of (by omega)) ⟨e1, e2, br_no (by simp; omega) ⟨_, by rw [eg]; exact hr, br_yes (by simpa using he) ?_⟩⟩⟩
        rw [eg]
        simp only
        rw [wi (by omega) (by omega)]
end Go.Proofs.YtjdpkihlgpojkaaGreatDoor
/- The reference's crons of texts. -/
namespace Go.Proofs.YtjdpkihlgpojkaaGreatDoor
open Go Go.B
set_option linter.unusedSimpArgs false
set_option linter.unusedVariables false
set_option linter.unusedSectionVars false
set_option maxRecDepth 20000

theorem wordsO_ok {l : List UInt8} {x : Nat × List UInt8} (h : x ∈ wordsO l) : x.2 ≠ [] ∧ x.1 + x.2.length ≤ l.length := by
  have := wordsF_ok _ _ _ _ h
  exact ⟨this.1, by omega⟩

/-- no macro -/
theorem rPlain_fn {s : ByteArray} (hs : s.size ≤ 256) (h : ∀ x r, wordsO (bl s) = x :: r → x.2.headD 0 ≠ 64) : curfewref07_Read0_R s (cronP s.size (wordsO (bl s))) := by
  have hw := rwords_fn (s := s) (by omega)
  have hlen : (wordsO (bl s)).length ≤ 257 := by have := wordsF_len ((bl s).length + 1) 0 (bl s); have e : (bl s).length = s.size := rfl; unfold wordsO; omega
  have hok : ∀ x ∈ wordsO (bl s), x.1 + x.2.length ≤ 256 := fun x hx => by have := (wordsO_ok hx).2; have e : (bl s).length = s.size := rfl; omega
  obtain ⟨q, hq⟩ := rReadC_loop (s := s) hok (by omega) (wordsO (bl s)).length 0 f0 (by omega) (by omega)
  rw [List.drop_zero] at hq
  have tail : ∀ y, curfewref07_Read0_l0 q (wB (wordsO (bl s)), 0, 0, 0, 0, 0, s, ((wordsO (bl s)).length : Int), 0) y → y = (match goC (wordsO (bl s)) 0 f0 with | .inl p => .inl p | .inr (_, c') => .inr (c'.1, c'.2.1, c'.2.2.1, c'.2.2.2.1, c'.2.2.2.2)) →
      sume (fun y9 => (((0, (0, (0, (0, 0)))), (y9, false)) = cronP s.size (wordsO (bl s)))) (fun y9 => (br (decide ((((List.length (wB (wordsO (bl s)))) : Nat) : Int) < 5)) (((0, (0, (0, (0, 0)))), (((ByteArray.size s : Nat) : Int), false)) = cronP s.size (wordsO (bl s))) (∃ y10 : Int × Int × Int × Int × Int, (curfewref07_Of_R y9.1 y9.2.1 y9.2.2.1 y9.2.2.2.1 y9.2.2.2.2 y10) ∧ ((y10, (0, true)) = cronP s.size (wordsO (bl s)))))) y := by
    intro y _ hy
    unfold cronP
    cases hg : goC (wordsO (bl s)) 0 f0 with
    | inl p => rw [hg] at hy; subst hy; rfl
    | inr x =>
      obtain ⟨n, c'⟩ := x
      rw [hg] at hy; subst hy
      have hn : ∀ (ws : List (Nat × List UInt8)) (m n : Nat) (c c' : F5), goC ws m c = .inr (n, c') → n = m + ws.length := by
        intro ws
        induction ws with
        | nil => intro m n c c' e; cases e; rfl
        | cons x r ih =>
          intro m n c c' e
          unfold goC at e
          split at e
          · cases e
          · split at e
            · have := ih _ _ _ _ e; simp; omega
            · cases e
      have := hn _ _ _ _ _ hg
      by_cases h5 : n < 5
      · have e : (if n < 5 then (f0, (s.size : Int), false) else (c', 0, true)) = (f0, (s.size : Int), false) := if_pos h5
        simp only [sume]
        refine br_yes (yes_of (by rw [wB_len]; omega)) ?_
        simp only [e]; rfl
      · have e : (if n < 5 then (f0, (s.size : Int), false) else (c', 0, true)) = (c', 0, true) := if_neg h5
        simp only [sume]
        refine br_no (no_of (by rw [wB_len]; omega)) ⟨c', rfl, ?_⟩
        simp only [e]
  refine ⟨_, hw, ?_⟩
  cases hws : wordsO (bl s) with
  | nil =>
    rw [hws] at hq tail
    exact br_no (by decide) ⟨_, ⟨q, hq⟩, tail _ hq rfl⟩
  | cons x r =>
    have hx := wordsO_ok (l := bl s) (x := x) (by rw [hws]; simp)
    have h64 := h x r hws
    rw [hws] at hq tail
    rw [← wB_len (x :: r)] at hq tail
    have hne : ((((List.getD (Array.toList (ByteArray.data ((List.getD (wB (x :: r)) 0 (0, (⟨#[]⟩ : ByteArray))).2))) 0 0).toNat : Nat) : Int) == 64) = false := by
      show ((((List.getD x.2 0 0).toNat : Nat) : Int) == 64) = false
      cases e : x.2 with
      | nil => exact absurd e hx.1
      | cons b t =>
        rw [e] at h64
        have : b.toNat ≠ 64 := fun e2 => h64 (by rw [List.headD_cons, ← UInt8.toNat_inj]; exact e2)
        exact beq_eq_false_iff_ne.mpr (by show ((b.toNat : Nat) : Int) ≠ 64; omega)
    have hsz : decide (0 < ((ByteArray.size ((List.getD (wB (x :: r)) 0 (0, (⟨#[]⟩ : ByteArray))).2) : Nat) : Int)) = true := by
      show decide (0 < ((ByteArray.size (⟨x.2.toArray⟩ : ByteArray) : Nat) : Int)) = true
      rw [mk_size]
      have := List.length_pos_iff.mpr hx.1
      exact yes_of (by omega)
    have hl0 : (0 : Int) < ((List.length (wB (x :: r)) : Nat) : Int) := by rw [wB_len, List.length_cons]; omega
    exact br_yes (yes_of hl0) ⟨yes_of hl0, by rw [wB_len, Nat.blt_eq]; simp, hsz, br_no hne ⟨_, ⟨q, hq⟩, tail _ hq rfl⟩⟩

/-- no macro -/
theorem rPlainD_fn {s : ByteArray} (hs : s.size ≤ 256) (h : ∀ x r, wordsO (bl s) = x :: r → x.2.headD 0 ≠ 64) : curfewref07_Read_R s (cronP s.size (wordsO (bl s))) := by
  have hw := rwords_fn (s := s) (by omega)
  have hlen : (wordsO (bl s)).length ≤ 257 := by have := wordsF_len ((bl s).length + 1) 0 (bl s); have e : (bl s).length = s.size := rfl; unfold wordsO; omega
  have hok : ∀ x ∈ wordsO (bl s), x.1 + x.2.length ≤ 256 := fun x hx => by have := (wordsO_ok hx).2; have e : (bl s).length = s.size := rfl; omega
  obtain ⟨q, hq⟩ := rReadD_loop (s := s) hok (by omega) (wordsO (bl s)).length 0 f0 (by omega) (by omega)
  rw [List.drop_zero] at hq
  have tail : ∀ y, curfewref07_Read_l0 q (wB (wordsO (bl s)), 0, 0, 0, 0, 0, s, ((wordsO (bl s)).length : Int), 0) y → y = (match goC (wordsO (bl s)) 0 f0 with | .inl p => .inl p | .inr (_, c') => .inr (c'.1, c'.2.1, c'.2.2.1, c'.2.2.2.1, c'.2.2.2.2)) →
      sume (fun y9 => (((0, (0, (0, (0, 0)))), (y9, false)) = cronP s.size (wordsO (bl s)))) (fun y9 => (br (decide ((((List.length (wB (wordsO (bl s)))) : Nat) : Int) < 5)) (((0, (0, (0, (0, 0)))), (((ByteArray.size s : Nat) : Int), false)) = cronP s.size (wordsO (bl s))) (∃ y10 : Int × Int × Int × Int × Int, (curfewref07_Of_R y9.1 y9.2.1 y9.2.2.1 y9.2.2.2.1 y9.2.2.2.2 y10) ∧ ((y10, (0, true)) = cronP s.size (wordsO (bl s)))))) y := by
    intro y _ hy
    unfold cronP
    cases hg : goC (wordsO (bl s)) 0 f0 with
    | inl p => rw [hg] at hy; subst hy; rfl
    | inr x =>
      obtain ⟨n, c'⟩ := x
      rw [hg] at hy; subst hy
      have hn : ∀ (ws : List (Nat × List UInt8)) (m n : Nat) (c c' : F5), goC ws m c = .inr (n, c') → n = m + ws.length := by
        intro ws
        induction ws with
        | nil => intro m n c c' e; cases e; rfl
        | cons x r ih =>
          intro m n c c' e
          unfold goC at e
          split at e
          · cases e
          · split at e
            · have := ih _ _ _ _ e; simp; omega
            · cases e
      have := hn _ _ _ _ _ hg
      by_cases h5 : n < 5
      · have e : (if n < 5 then (f0, (s.size : Int), false) else (c', 0, true)) = (f0, (s.size : Int), false) := if_pos h5
        simp only [sume]
        refine br_yes (yes_of (by rw [wB_len]; omega)) ?_
        simp only [e]; rfl
      · have e : (if n < 5 then (f0, (s.size : Int), false) else (c', 0, true)) = (c', 0, true) := if_neg h5
        simp only [sume]
        refine br_no (no_of (by rw [wB_len]; omega)) ⟨c', rfl, ?_⟩
        simp only [e]
  refine ⟨_, hw, ?_⟩
  cases hws : wordsO (bl s) with
  | nil =>
    rw [hws] at hq tail
    exact br_no (by decide) ⟨_, ⟨q, hq⟩, tail _ hq rfl⟩
  | cons x r =>
    have hx := wordsO_ok (l := bl s) (x := x) (by rw [hws]; simp)
    have h64 := h x r hws
    rw [hws] at hq tail
    rw [← wB_len (x :: r)] at hq tail
    have hne : ((((List.getD (Array.toList (ByteArray.data ((List.getD (wB (x :: r)) 0 (0, (⟨#[]⟩ : ByteArray))).2))) 0 0).toNat : Nat) : Int) == 64) = false := by
      show ((((List.getD x.2 0 0).toNat : Nat) : Int) == 64) = false
      cases e : x.2 with
      | nil => exact absurd e hx.1
      | cons b t =>
        rw [e] at h64
        have : b.toNat ≠ 64 := fun e2 => h64 (by rw [List.headD_cons, ← UInt8.toNat_inj]; exact e2)
        exact beq_eq_false_iff_ne.mpr (by show ((b.toNat : Nat) : Int) ≠ 64; omega)
    have hsz : decide (0 < ((ByteArray.size ((List.getD (wB (x :: r)) 0 (0, (⟨#[]⟩ : ByteArray))).2) : Nat) : Int)) = true := by
      show decide (0 < ((ByteArray.size (⟨x.2.toArray⟩ : ByteArray) : Nat) : Int)) = true
      rw [mk_size]
      have := List.length_pos_iff.mpr hx.1
      exact yes_of (by omega)
    have hl0 : (0 : Int) < ((List.length (wB (x :: r)) : Nat) : Int) := by rw [wB_len, List.length_cons]; omega
    exact br_yes (yes_of hl0) ⟨yes_of hl0, by rw [wB_len, Nat.blt_eq]; simp, hsz, br_no hne ⟨_, ⟨q, hq⟩, tail _ hq rfl⟩⟩

def macTexts : List (List UInt8) := [[48, 32, 48, 32, 49, 32, 49, 32, 42], [48, 32, 48, 32, 49, 32, 42, 32, 42], [48, 32, 48, 32, 42, 32, 42, 32, 48], [48, 32, 48, 32, 42, 32, 42, 32, 42], [48, 32, 42, 32, 42, 32, 42, 32, 42]]

theorem mac_mem {l : List UInt8} (h : macroO l ≠ []) : macroO l ∈ macTexts := by
  revert h
  unfold macroO
  repeat' split
  all_goals first
    | (intro _; decide)
    | (intro h; exact absurd rfl h)

theorem mac_all : ∀ t ∈ macTexts, t.length ≤ 256 ∧ (cronP t.length (wordsO t)).2 = (0, true) ∧ (match wordsO t with | x :: _ => decide (x.2.headD 0 ≠ 64) | [] => true) = true := by decide +kernel

/-- the reference's cron of a text -/
theorem rRead07_fn {s : ByteArray} (hs : s.size ≤ 256) : curfewref07_Read_R s (cronO (bl s)) := by
  have hlen : (bl s).length = s.size := rfl
  unfold cronO
  cases hws : wordsO (bl s) with
  | nil =>
    have := rPlainD_fn hs (fun x r e => by rw [hws] at e; cases e)
    rw [hws] at this
    exact this
  | cons x r =>
    simp only
    by_cases h64 : x.2.headD 0 = 64
    · rw [if_pos h64]
      have hw := rwords_fn (s := s) (by omega)
      rw [hws] at hw
      have hx := wordsO_ok (l := bl s) (x := x) (by rw [hws]; simp)
      have hl0 : (0 : Int) < ((List.length (wB (x :: r)) : Nat) : Int) := by rw [wB_len, List.length_cons]; omega
      have hb0 : Nat.blt 0 (List.length (wB (x :: r))) = true := by rw [wB_len, Nat.blt_eq]; simp
      have hhead : ((((List.getD (Array.toList (ByteArray.data ((List.getD (wB (x :: r)) 0 (0, (⟨#[]⟩ : ByteArray))).2))) 0 0).toNat : Nat) : Int) == 64) = true := by
        show ((((List.getD x.2 0 0).toNat : Nat) : Int) == 64) = true
        cases e : x.2 with
        | nil => exact absurd e hx.1
        | cons b t => rw [e] at h64; rw [List.headD_cons] at h64; rw [h64]; rfl
      have hsz : decide (0 < ((ByteArray.size ((List.getD (wB (x :: r)) 0 (0, (⟨#[]⟩ : ByteArray))).2) : Nat) : Int)) = true := by
        show decide (0 < ((ByteArray.size (⟨x.2.toArray⟩ : ByteArray) : Nat) : Int)) = true
        rw [mk_size]
        have := List.length_pos_iff.mpr hx.1
        exact yes_of (by omega)
      have hm := rMacro_fn (⟨x.2.toArray⟩ : ByteArray)
      rw [bl_mk x.2] at hm
      refine ⟨_, hw, br_yes (yes_of hl0) ⟨yes_of hl0, hb0, hsz, br_yes hhead ⟨yes_of hl0, hb0, _, hm, ?_⟩⟩⟩
      cases e : macroO x.2 with
      | nil => exact br_yes (by rw [tl_same]; rfl) ⟨yes_of hl0, hb0, rfl⟩
      | cons b t =>
        have hne : macroO x.2 ≠ [] := by rw [e]; simp
        obtain ⟨a1, a2, a3⟩ := mac_all _ (mac_mem hne)
        rw [e] at a1 a2 a3
        refine br_no (by rw [tl_same]; simp) ?_
        cases r with
        | nil =>
          refine br_no (by rw [wB_len]; rfl) ⟨_, rPlain_fn (s := ⟨(b :: t).toArray⟩) (by rw [mk_size]; exact a1) (fun y r e2 => by
            have e2 : wordsO (b :: t) = y :: r := e2
            rw [e2] at a3; simpa using a3), ?_⟩
          have e3 : meansO x.2 = ((cronP (b :: t).length (wordsO (b :: t))).1, true) := by
            unfold meansO; rw [if_neg hne, e]
          simp only [e3]
          rw [mk_size]
          exact Prod.ext rfl a2
        | cons z r2 =>
          have hl1 : (1 : Int) < ((List.length (wB (x :: z :: r2)) : Nat) : Int) := by rw [wB_len, List.length_cons, List.length_cons]; omega
          exact br_yes (yes_of hl1) ⟨yes_of hl1, by rw [wB_len, Nat.blt_eq]; simp, rfl⟩
    · rw [if_neg h64]
      have := rPlainD_fn hs (fun y t e => by rw [hws] at e; cases e; exact h64)
      rw [hws] at this
      exact this
end Go.Proofs.YtjdpkihlgpojkaaGreatDoor
