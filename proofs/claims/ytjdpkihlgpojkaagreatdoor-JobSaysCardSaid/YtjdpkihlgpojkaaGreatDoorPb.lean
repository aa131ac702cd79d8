import Derived.Test.YtjdpkihlgpojkaaGreatDoorKop
import Derived.Test.YtjdpkihlgpojkaaGreatDoorFud
import Derived.Test.YtjdpkihlgpojkaaGreatDoorGy
/- Words of texts, and what texts of crons say (plain). -/
namespace Go.Proofs.YtjdpkihlgpojkaaGreatDoor
open Go Go.B
set_option linter.unusedSimpArgs false
set_option linter.unusedVariables false
set_option linter.unusedSectionVars false
set_option maxRecDepth 20000

def trimL (l : List UInt8) : List UInt8 := Lib.trimLeftB l 32

theorem trimL_nil : trimL [] = [] := rfl

theorem trimL_blank (l : List UInt8) : trimL (32 :: l) = trimL l := by unfold trimL Lib.trimLeftB; simp

theorem trimL_other {b : UInt8} (h : b ≠ 32) (l : List UInt8) : trimL (b :: l) = b :: l := by unfold trimL Lib.trimLeftB; simp [h]

theorem trimL_len : ∀ l, (trimL l).length ≤ l.length
  | [] => Nat.le_refl _
  | b :: l => by
    by_cases h : b = 32
    · subst h; rw [trimL_blank]; have := trimL_len l; simp; omega
    · rw [trimL_other h]; exact Nat.le_refl _

def word1 (l : List UInt8) : List UInt8 := (cutO 32 (trimL l)).1

/-- the words, and where they begin -/
def wordsF : Nat → Nat → List UInt8 → List (Nat × List UInt8)
  | 0, _, _ => []
  | f + 1, p, l => if word1 l = [] then [] else (p + (l.length - (trimL l).length), word1 l) :: wordsF f (p + (l.length - (trimL l).length) + (word1 l).length) ((trimL l).drop (word1 l).length)

def wordsO (l : List UInt8) : List (Nat × List UInt8) := wordsF (l.length + 1) 0 l

theorem word1_none (l : List UInt8) : word1 l = [] ↔ trimL l = [] := by
  induction l with
  | nil => simp [word1, trimL_nil, cutO]
  | cons b l ih =>
    unfold word1 at *
    by_cases h : b = 32
    · subst h; rw [trimL_blank]; exact ih
    · rw [trimL_other h]; unfold cutO; rw [if_neg h]; simp

theorem cut_drop (l : List UInt8) : l.drop (cutO 32 l).1.length = [] ∨ ∃ r, l.drop (cutO 32 l).1.length = 32 :: r := by
  cases h : (cutO 32 l).2.2
  · left; rw [(cutO_no h).1]; simp
  · right
    refine ⟨(cutO 32 l).2.1, ?_⟩
    have := (cutO_yes h).1
    conv => lhs; rw [this]
    have e : (cutO 32 ((cutO 32 l).1 ++ 32 :: (cutO 32 l).2.1)).1 = (cutO 32 l).1 := by rw [← this]
    rw [e]; simp

theorem cut_pre (l : List UInt8) : l = (cutO 32 l).1 ++ l.drop (cutO 32 l).1.length := by
  cases h : (cutO 32 l).2.2
  · rw [(cutO_no h).1]; simp
  · have := (cutO_yes h).1
    conv => lhs; rw [this]
    congr 1
    have e : (cutO 32 ((cutO 32 l).1 ++ 32 :: (cutO 32 l).2.1)).1 = (cutO 32 l).1 := by rw [← this]
    conv => rhs; rw [this, e]
    simp

theorem cut_not (l : List UInt8) : (32 : UInt8) ∉ (cutO 32 l).1 := by
  cases h : (cutO 32 l).2.2
  · rw [(cutO_no h).1]; exact (cutO_no h).2.2
  · exact (cutO_yes h).2
/- the reference's way: byte by byte -/

def stepW (s : List (Nat × List UInt8) × Bool × Nat) (b : UInt8) : List (Nat × List UInt8) × Bool × Nat :=
  if b = 32 then (s.1, true, s.2.2 + 1) else if s.2.1 then (s.1 ++ [(s.2.2, [b])], false, s.2.2 + 1)
  else (s.1.set (s.1.length - 1) ((s.1.getD (s.1.length - 1) (0, [])).1, (s.1.getD (s.1.length - 1) (0, [])).2 ++ [b]), false, s.2.2 + 1)

theorem fold_word (w : List UInt8) (h : (32 : UInt8) ∉ w) : ∀ (out : List (Nat × List UInt8)) (p : Nat) (x : List UInt8) (q : Nat), w.foldl stepW (out ++ [(p, x)], false, q) = (out ++ [(p, x ++ w)], false, q + w.length) := by
  induction w with
  | nil => intro out p x q; simp
  | cons b w ih =>
    intro out p x q
    simp only [List.mem_cons, not_or] at h
    rw [List.foldl_cons]
    have e : stepW (out ++ [(p, x)], false, q) b = (out ++ [(p, x ++ [b])], false, q + 1) := by
      unfold stepW
      rw [if_neg (fun e => h.1 e.symm)]
      simp
    rw [e, ih h.2]
    simp; omega

theorem fold_trim : ∀ (l : List UInt8) (out : List (Nat × List UInt8)) (p : Nat), l.foldl stepW (out, true, p) = (trimL l).foldl stepW (out, true, p + (l.length - (trimL l).length))
  | [], out, p => rfl
  | b :: l, out, p => by
    by_cases h : b = 32
    · subst h
      rw [trimL_blank, List.foldl_cons]
      have : stepW (out, true, p) 32 = (out, true, p + 1) := rfl
      rw [this, fold_trim l out (p + 1)]
      have := trimL_len l
      congr 3
      simp; omega
    · rw [trimL_other h]; simp

theorem fold_words : ∀ (f : Nat) (l : List UInt8) (out : List (Nat × List UInt8)) (p : Nat), l.length < f → (l.foldl stepW (out, true, p)).1 = out ++ wordsF f p l
  | 0, l, out, p, h => by omega
  | f + 1, l, out, p, h => by
    rw [fold_trim]
    unfold wordsF
    by_cases hw : word1 l = []
    · rw [if_pos hw, (word1_none l).mp hw]; simp
    · rw [if_neg hw]
      have hl := trimL_len l
      obtain ⟨b, w, hbw⟩ : ∃ b w, word1 l = b :: w := by
        cases e : word1 l with
        | nil => exact absurd e hw
        | cons b w => exact ⟨b, w, rfl⟩
      have hp := cut_pre (trimL l)
      have hn := cut_not (trimL l)
      have hd := cut_drop (trimL l)
      have hc : (cutO 32 (trimL l)).1 = word1 l := rfl
      rw [hc] at hp hn hd
      generalize p + (l.length - (trimL l).length) = q at *
      conv => lhs; rw [hp]
      rw [List.foldl_append, hbw]
      rw [hbw] at hn hd hp
      simp only [List.mem_cons, not_or] at hn
      rw [List.foldl_cons]
      have e1 : stepW (out, true, q) b = (out ++ [(q, [b])], false, q + 1) := by
        unfold stepW; rw [if_neg (fun e => hn.1 e.symm)]; rfl
      rw [e1, fold_word w hn.2]
      have hlen : ((trimL l).drop (b :: w).length).length < f := by
        rw [List.length_drop]
        have : (trimL l).length = (b :: w).length + ((trimL l).drop (b :: w).length).length := by
          conv => lhs; rw [hp]
          rw [List.length_append]
        simp at this ⊢; omega
      rw [show q + 1 + w.length = q + (b :: w).length by simp; omega]
      have e2 : (out ++ [(q, [b] ++ w)]) = out ++ [(q, b :: w)] := rfl
      rw [e2]
      rcases hd with hd | ⟨r, hd⟩
      · rw [hd]
        simp only [List.foldl_nil]
        have : wordsF f (q + (b :: w).length) [] = [] := by
          cases f with
          | zero => rfl
          | succ f => unfold wordsF; rw [if_pos ((word1_none []).mpr rfl)]
        rw [this]
      · have hf := fold_words f ((trimL l).drop (b :: w).length) (out ++ [(q, b :: w)]) (q + (b :: w).length) hlen
        rw [hd] at hf ⊢
        rw [List.foldl_cons] at hf ⊢
        have e3 : ∀ x : Bool, stepW (out ++ [(q, b :: w)], x, q + (b :: w).length) 32 = (out ++ [(q, b :: w)], true, q + (b :: w).length + 1) := fun x => rfl
        rw [e3] at hf ⊢
        rw [hf]
        simp

theorem words_fold (l : List UInt8) : (l.foldl stepW ([], true, 0)).1 = wordsO l := by
  have := fold_words (l.length + 1) l [] 0 (by omega)
  rw [List.nil_append] at this
  exact this

theorem wordsF_ok : ∀ (f p : Nat) (l : List UInt8) (x : Nat × List UInt8), x ∈ wordsF f p l → x.2 ≠ [] ∧ x.1 + x.2.length ≤ p + l.length ∧ (32 : UInt8) ∉ x.2
  | 0, p, l, x, h => by cases h
  | f + 1, p, l, x, h => by
    unfold wordsF at h
    split at h
    · cases h
    · rename_i hw
      have hl := trimL_len l
      have hp := congrArg List.length (cut_pre (trimL l))
      rw [List.length_append] at hp
      have hc : (cutO 32 (trimL l)).1 = word1 l := rfl
      rw [hc] at hp
      rcases List.mem_cons.mp h with rfl | h
      · exact ⟨hw, by show p + (l.length - (trimL l).length) + (word1 l).length ≤ _; omega, cut_not _⟩
      · have := wordsF_ok f _ _ x h
        exact ⟨this.1, by omega, this.2.2⟩

theorem wordsF_len : ∀ (f p : Nat) (l : List UInt8), (wordsF f p l).length ≤ f
  | 0, p, l => Nat.le_refl _
  | f + 1, p, l => by
    unfold wordsF
    split
    · simp
    · simp; exact wordsF_len f _ _

/- fields of crons -/

abbrev F5 := Int × Int × Int × Int × Int

def setF (c : F5) (n : Nat) (m : Int) : F5 := match n with
  | 0 => (m, c.2.1, c.2.2.1, c.2.2.2.1, c.2.2.2.2)
  | 1 => (c.1, m, c.2.2.1, c.2.2.2.1, c.2.2.2.2)
  | 2 => (c.1, c.2.1, m, c.2.2.2.1, c.2.2.2.2)
  | 3 => (c.1, c.2.1, c.2.2.1, m, c.2.2.2.2)
  | 4 => (c.1, c.2.1, c.2.2.1, c.2.2.2.1, m)
  | _ => c

def f0 : F5 := (0, 0, 0, 0, 0)

/-- the words as fields: where it is wrong, or how many there are -/
def goC : List (Nat × List UInt8) → Nat → F5 → Sum Int (Nat × F5)
  | [], n, c => .inr (n, c)
  | x :: r, n, c => if 5 ≤ n then .inl x.1 else if (readO n x.2).2.2 = 0 then goC r (n + 1) (setF c n (readO n x.2).1) else .inl ((x.1 : Int) + (readO n x.2).2.1)

/-- a cron's text without a macro -/
def cronP (len : Nat) (ws : List (Nat × List UInt8)) : F5 × Int × Bool := match goC ws 0 f0 with
  | .inl p => (f0, p, false)
  | .inr (n, c) => if n < 5 then (f0, (len : Int), false) else (c, 0, true)

def macroO (l : List UInt8) : List UInt8 :=
  if l = [64, 121, 101, 97, 114, 108, 121] then [48, 32, 48, 32, 49, 32, 49, 32, 42] else
  if l = [64, 97, 110, 110, 117, 97, 108, 108, 121] then [48, 32, 48, 32, 49, 32, 49, 32, 42] else
  if l = [64, 109, 111, 110, 116, 104, 108, 121] then [48, 32, 48, 32, 49, 32, 42, 32, 42] else
  if l = [64, 119, 101, 101, 107, 108, 121] then [48, 32, 48, 32, 42, 32, 42, 32, 48] else
  if l = [64, 100, 97, 105, 108, 121] then [48, 32, 48, 32, 42, 32, 42, 32, 42] else
  if l = [64, 109, 105, 100, 110, 105, 103, 104, 116] then [48, 32, 48, 32, 42, 32, 42, 32, 42] else
  if l = [64, 104, 111, 117, 114, 108, 121] then [48, 32, 42, 32, 42, 32, 42, 32, 42] else []

/-- what a macro means -/
def meansO (l : List UInt8) : F5 × Bool := if macroO l = [] then (f0, false) else ((cronP (macroO l).length (wordsO (macroO l))).1, true)

/-- a cron's text -/
def cronO (l : List UInt8) : F5 × Int × Bool := match wordsO l with
  | x :: r => if x.2.headD 0 = 64 then (match macroO x.2 with
      | [] => (f0, (x.1 : Int), false)
      | _ :: _ => match r with
        | [] => ((meansO x.2).1, 0, true)
        | y :: _ => (f0, (y.1 : Int), false))
    else cronP l.length (x :: r)
  | [] => cronP l.length []
end Go.Proofs.YtjdpkihlgpojkaaGreatDoor
/- cron.Read and cron.Macro: what they say. -/
namespace Go.Proofs.YtjdpkihlgpojkaaGreatDoor
open Go Go.B
set_option linter.unusedSimpArgs false
set_option linter.unusedVariables false
set_option linter.unusedSectionVars false
set_option maxRecDepth 20000

theorem readO_pos {k : Nat} (l : List UInt8) : 0 ≤ (readO k l).2.1 ∧ (readO k l).2.1 ≤ l.length := by
  by_cases h : l.length ≤ 256
  · rw [readO_rd k h]
    cases e : rdL k (splitC 44 l) 0 [] with
    | inl p =>
      have key : ∀ (ps : List (List UInt8)) (a : Nat) (l' : List Nat) (p : Nat), rdL k ps a l' = .inl p → p + 1 ≤ a + tot ps := by
        intro ps
        induction ps with
        | nil => intro a l' p e; cases e
        | cons x xs ih =>
          intro a l' p e
          rw [rdL_cons] at e
          have ht : tot (x :: xs) = x.length + 1 + tot xs := by simp [tot]
          cases ho : itemO k x with
          | none => rw [ho] at e; cases e; omega
          | some q => rw [ho] at e; have := ih _ _ _ e; omega
      have := key _ _ _ _ e
      have ht : tot (splitC 44 l) = l.length + 1 := tot_splitN 44 _ l
      simp only
      omega
    | inr l' => simp
  · unfold readO; rw [if_pos (by omega)]; simp

theorem trimL_drop : ∀ l : List UInt8, trimL l = l.drop (l.length - (trimL l).length)
  | [] => rfl
  | b :: l => by
    by_cases h : b = 32
    · subst h
      rw [trimL_blank]
      have := trimL_len l
      rw [show (32 :: l : List UInt8).length - (trimL l).length = (l.length - (trimL l).length) + 1 by simp; omega, List.drop_succ_cons]
      exact trimL_drop l
    · rw [trimL_other h]; simp

theorem word_len (l : List UInt8) : (word1 l).length ≤ (trimL l).length := by
  have hp := congrArg List.length (cut_pre (trimL l))
  rw [List.length_append] at hp
  show (cutO 32 (trimL l)).1.length ≤ _
  omega

theorem bl_from (s : ByteArray) (p : Nat) : bl (ByteArray.extract s p s.size) = (bl s).drop p := by
  rw [bl_extract, List.take_of_length_le]
  rw [List.length_drop]; show (bl s).length - p ≤ s.size - p; rw [bl_len]; exact Nat.le_refl _

theorem trim_fn (s : ByteArray) (p : Nat) : strings_TrimLeft_R (ByteArray.extract s (Int.toNat (p : Int)) s.size) ⟨#[32]⟩ ⟨(trimL ((bl s).drop p)).toArray⟩ := by
  refine ⟨32, by decide, rfl, ?_⟩
  rw [Int.toNat_natCast]
  show _ = (⟨(Lib.trimLeftB (bl (ByteArray.extract s p s.size)) 32).toArray⟩ : ByteArray)
  rw [bl_from]; rfl

theorem cut_fn {l : List UInt8} (h : l.length ≤ 1000000) : strings_Cut_R ⟨(trimL l).toArray⟩ ⟨#[32]⟩ (⟨(word1 l).toArray⟩, ⟨(cutO 32 (trimL l)).2.1.toArray⟩, (cutO 32 (trimL l)).2.2) := by
  have := strings_Cut_one ⟨(trimL l).toArray⟩ (by rw [mk_size]; have := trimL_len l; omega) 32
  exact this

theorem empty_word (l : List UInt8) : (ByteArray.toList (⟨(word1 l).toArray⟩ : ByteArray) == ByteArray.toList (⟨#[]⟩ : ByteArray)) = decide (word1 l = []) := by
  rw [tl_same]

theorem place_ok {s : ByteArray} {p : Nat} (hp : p ≤ s.size) : ((decide (0 ≤ (p : Int))) && (Nat.ble (Int.toNat (p : Int)) (ByteArray.size s))) = true := by
  rw [Int.toNat_natCast]; simp [Nat.ble_eq]; omega

theorem at_eq {s : ByteArray} {p : Nat} (hs : s.size ≤ 256) (hp : p ≤ s.size) : IntKind.wrap .i64 (((ByteArray.size s : Nat) : Int) - ((ByteArray.size (⟨(trimL ((bl s).drop p)).toArray⟩ : ByteArray) : Nat) : Int)) = ((p + (((bl s).drop p).length - (trimL ((bl s).drop p)).length) : Nat) : Int) := by
  have hl := trimL_len ((bl s).drop p)
  have hd : ((bl s).drop p).length = s.size - p := by rw [List.length_drop]; rfl
  rw [mk_size (trimL ((bl s).drop p)), wi (by omega) (by omega)]; omega

theorem next_eq {a : Nat} {w : List UInt8} (h : a + w.length ≤ 1000) : IntKind.wrap .i64 ((a : Int) + ((ByteArray.size (⟨w.toArray⟩ : ByteArray) : Nat) : Int)) = ((a + w.length : Nat) : Int) := by
  rw [mk_size w, wi (by omega) (by omega)]; omega

theorem goC_pos : ∀ (ws : List (Nat × List UInt8)) (n : Nat) (c : F5) (p : Int), goC ws n c = .inl p → 0 ≤ p
  | [], n, c, p, h => by cases h
  | x :: r, n, c, p, h => by
    unfold goC at h
    split at h
    · cases h; omega
    · split at h
      · exact goC_pos r _ _ p h
      · cases h; have := (readO_pos (k := n) x.2).1; omega

theorem goC_n : ∀ (ws : List (Nat × List UInt8)) (n n' : Nat) (c c' : F5), n ≤ 5 → goC ws n c = .inr (n', c') → n' ≤ 5
  | [], n, n', c, c', h, e => by cases e; exact h
  | x :: r, n, n', c, c', h, e => by
    unfold goC at e
    split at e
    · cases e
    · split at e
      · exact goC_n r _ _ _ _ (by omega) e
      · cases e

def cronRes (x : F5 × Int × Bool) : F5 × Int × Int := (x.1, x.2.1, if x.2.2 then 0 else 170)

theorem read0_round {n : Nat} (hn : n < 5) {s : ByteArray} (hs : s.size ≤ 256) {p : Nat} (hp : p < s.size) (c : F5) {q : Nat} {y : cron_Read0_l0_Y}
    (hw : word1 ((bl s).drop p) ≠ []) (h64 : n = 0 → (word1 ((bl s).drop p)).headD 0 ≠ 64)
    (herr : (readO n (word1 ((bl s).drop p))).2.2 ≠ 0 → y = .inr (.inl ((setF c n (readO n (word1 ((bl s).drop p))).1).1, (setF c n (readO n (word1 ((bl s).drop p))).1).2.1, (setF c n (readO n (word1 ((bl s).drop p))).1).2.2.1, (setF c n (readO n (word1 ((bl s).drop p))).1).2.2.2.1, (setF c n (readO n (word1 ((bl s).drop p))).1).2.2.2.2, (n : Int), 5, ((p + (((bl s).drop p).length - (trimL ((bl s).drop p)).length) : Nat) : Int) + (readO n (word1 ((bl s).drop p))).2.1)))
    (hok : (readO n (word1 ((bl s).drop p))).2.2 = 0 → cron_Read0_l0 q ((setF c n (readO n (word1 ((bl s).drop p))).1).1, (setF c n (readO n (word1 ((bl s).drop p))).1).2.1, (setF c n (readO n (word1 ((bl s).drop p))).1).2.2.1, (setF c n (readO n (word1 ((bl s).drop p))).1).2.2.2.1, (setF c n (readO n (word1 ((bl s).drop p))).1).2.2.2.2, ((n + 1 : Nat) : Int), 5, s, ((p + (((bl s).drop p).length - (trimL ((bl s).drop p)).length) + (word1 ((bl s).drop p)).length : Nat) : Int)) y) :
    cron_Read0_l0 (q + 1) (c.1, c.2.1, c.2.2.1, c.2.2.2.1, c.2.2.2.2, (n : Int), 5, s, (p : Int)) y := by
  have hl := trimL_len ((bl s).drop p)
  have hwl := word_len ((bl s).drop p)
  have hd : ((bl s).drop p).length = s.size - p := by rw [List.length_drop]; rfl
  have hdl : ((bl s).drop p).length ≤ 1000000 := by omega
  have hsz : (⟨(word1 ((bl s).drop p)).toArray⟩ : ByteArray).size ≤ 1000000 := by rw [mk_size]; omega
  have hin : ∀ k : Nat, IntKind.wrap .i64 (((p + (((bl s).drop p).length - (trimL ((bl s).drop p)).length) : Nat) : Int) + (readO k (word1 ((bl s).drop p))).2.1) = ((p + (((bl s).drop p).length - (trimL ((bl s).drop p)).length) : Nat) : Int) + (readO k (word1 ((bl s).drop p))).2.1 := fun k => by
    have := readO_pos (k := k) (word1 ((bl s).drop p))
    exact wi (by omega) (by omega)
  match n, hn with
  | 0, _ =>
    refine br_yes (yes_of (by omega)) ⟨place_ok (by omega), _, trim_fn s p, _, cut_fn hdl, br_no (by rw [empty_word]; exact decide_eq_false hw) (br_no rfl (br_yes rfl ⟨yes_of (by rw [mk_size]; cases e : word1 ((bl s).drop p) with | nil => exact absurd e hw | cons b w => simp), br_no (by have := h64 rfl; cases e : word1 ((bl s).drop p) with | nil => exact absurd e hw | cons b w => rw [e] at this; simp at this ⊢; intro e2; exact this (by rw [← UInt8.toNat_inj]; exact_mod_cast e2)) ⟨_, field_Read_fn (by decide) _ hsz, by decide, br_yes rfl ?_⟩⟩))⟩
    dsimp only
    rw [at_eq hs (by omega), next_eq (by omega)]
    by_cases he : (readO 0 (word1 ((bl s).drop p))).2.2 = 0
    · exact br_no (by show (!((readO 0 (word1 ((bl s).drop p))).2.2 == 0)) = false; rw [he]; rfl) (br_no (by show (!((readO 0 (word1 ((bl s).drop p))).2.2 == 0)) = false; rw [he]; rfl) (hok he))
    · have e2 := hin 0
      exact br_yes (by simpa using he) (br_yes (by simpa using he) (by rw [herr he, e2]; rfl))
  | 1, _ =>
    refine br_yes (yes_of (by omega)) ⟨place_ok (by omega), _, trim_fn s p, _, cut_fn hdl, br_no (by rw [empty_word]; exact decide_eq_false hw) (br_no rfl (br_no rfl ⟨_, field_Read_fn (by decide) _ hsz, by decide, br_no rfl (br_yes rfl ?_)⟩))⟩
    dsimp only
    rw [at_eq hs (by omega), next_eq (by omega)]
    by_cases he : (readO 1 (word1 ((bl s).drop p))).2.2 = 0
    · exact br_no (by show (!((readO 1 (word1 ((bl s).drop p))).2.2 == 0)) = false; rw [he]; rfl) (br_no (by show (!((readO 1 (word1 ((bl s).drop p))).2.2 == 0)) = false; rw [he]; rfl) (hok he))
    · have e2 := hin 1
      exact br_yes (by simpa using he) (br_yes (by simpa using he) (by rw [herr he, e2]; rfl))
  | 2, _ =>
    refine br_yes (yes_of (by omega)) ⟨place_ok (by omega), _, trim_fn s p, _, cut_fn hdl, br_no (by rw [empty_word]; exact decide_eq_false hw) (br_no rfl (br_no rfl ⟨_, field_Read_fn (by decide) _ hsz, by decide, br_no rfl (br_no rfl (br_yes rfl ?_))⟩))⟩
    dsimp only
    rw [at_eq hs (by omega), next_eq (by omega)]
    by_cases he : (readO 2 (word1 ((bl s).drop p))).2.2 = 0
    · exact br_no (by show (!((readO 2 (word1 ((bl s).drop p))).2.2 == 0)) = false; rw [he]; rfl) (br_no (by show (!((readO 2 (word1 ((bl s).drop p))).2.2 == 0)) = false; rw [he]; rfl) (hok he))
    · have e2 := hin 2
      exact br_yes (by simpa using he) (br_yes (by simpa using he) (by rw [herr he, e2]; rfl))
  | 3, _ =>
    refine br_yes (yes_of (by omega)) ⟨place_ok (by omega), _, trim_fn s p, _, cut_fn hdl, br_no (by rw [empty_word]; exact decide_eq_false hw) (br_no rfl (br_no rfl ⟨_, field_Read_fn (by decide) _ hsz, by decide, br_no rfl (br_no rfl (br_no rfl (br_yes rfl ?_)))⟩))⟩
    dsimp only
    rw [at_eq hs (by omega), next_eq (by omega)]
    by_cases he : (readO 3 (word1 ((bl s).drop p))).2.2 = 0
    · exact br_no (by show (!((readO 3 (word1 ((bl s).drop p))).2.2 == 0)) = false; rw [he]; rfl) (br_no (by show (!((readO 3 (word1 ((bl s).drop p))).2.2 == 0)) = false; rw [he]; rfl) (hok he))
    · have e2 := hin 3
      exact br_yes (by simpa using he) (br_yes (by simpa using he) (by rw [herr he, e2]; rfl))
  | 4, _ =>
    refine br_yes (yes_of (by omega)) ⟨place_ok (by omega), _, trim_fn s p, _, cut_fn hdl, br_no (by rw [empty_word]; exact decide_eq_false hw) (br_no rfl (br_no rfl ⟨_, field_Read_fn (by decide) _ hsz, by decide, br_no rfl (br_no rfl (br_no rfl (br_no rfl (br_yes rfl ?_))))⟩))⟩
    dsimp only
    rw [at_eq hs (by omega), next_eq (by omega)]
    by_cases he : (readO 4 (word1 ((bl s).drop p))).2.2 = 0
    · exact br_no (by show (!((readO 4 (word1 ((bl s).drop p))).2.2 == 0)) = false; rw [he]; rfl) (br_no (by show (!((readO 4 (word1 ((bl s).drop p))).2.2 == 0)) = false; rw [he]; rfl) (hok he))
    · have e2 := hin 4
      exact br_yes (by simpa using he) (br_yes (by simpa using he) (by rw [herr he, e2]; rfl))

theorem read0_loop {s : ByteArray} (hs : s.size ≤ 256) : ∀ (f p n : Nat) (c : F5), p ≤ s.size → s.size < p + f → n ≤ 5 → (n = 0 → ∀ x r, wordsF f p ((bl s).drop p) = x :: r → x.2.headD 0 ≠ 64) →
    ∃ q y, cron_Read0_l0 q (c.1, c.2.1, c.2.2.1, c.2.2.2.1, c.2.2.2.2, (n : Int), 5, s, (p : Int)) y ∧ (match goC (wordsF f p ((bl s).drop p)) n c with
      | .inl w => ∃ c' : F5, ∃ n' : Int, y = .inr (.inl (c'.1, c'.2.1, c'.2.2.1, c'.2.2.2.1, c'.2.2.2.2, n', 5, w))
      | .inr (n', c') => y = .inl (c'.1, c'.2.1, c'.2.2.1, c'.2.2.2.1, c'.2.2.2.2, (n' : Int), 5) ∨ y = .inr (.inr (c'.1, c'.2.1, c'.2.2.1, c'.2.2.2.1, c'.2.2.2.2, (n' : Int), 5))) := by
  intro f
  induction f with
  | zero => intro p n c h1 h2; omega
  | succ f ih =>
    intro p n c h1 h2 h3 h4
    have hl := trimL_len ((bl s).drop p)
    have hwl := word_len ((bl s).drop p)
    have hd : ((bl s).drop p).length = s.size - p := by rw [List.length_drop]; rfl
    have hdl : ((bl s).drop p).length ≤ 1000000 := by omega
    by_cases hp : p < s.size
    · by_cases hw : word1 ((bl s).drop p) = []
      · have e : wordsF (f + 1) p ((bl s).drop p) = [] := by unfold wordsF; rw [if_pos hw]
        rw [e]
        refine ⟨1, .inl (c.1, c.2.1, c.2.2.1, c.2.2.2.1, c.2.2.2.2, (n : Int), 5), ?_, .inl rfl⟩
        exact br_yes (yes_of (by omega)) ⟨place_ok (by omega), _, trim_fn s p, _, cut_fn hdl, br_yes (by rw [empty_word]; exact decide_eq_true hw) rfl⟩
      · have e : wordsF (f + 1) p ((bl s).drop p) = (p + (((bl s).drop p).length - (trimL ((bl s).drop p)).length), word1 ((bl s).drop p)) :: wordsF f (p + (((bl s).drop p).length - (trimL ((bl s).drop p)).length) + (word1 ((bl s).drop p)).length) ((trimL ((bl s).drop p)).drop (word1 ((bl s).drop p)).length) := by
          conv => lhs; unfold wordsF
          rw [if_neg hw]
        have hpos : 0 < (word1 ((bl s).drop p)).length := List.length_pos_iff.mpr hw
        by_cases h5 : n = 5
        · subst h5
          rw [e]
          unfold goC
          rw [if_pos (by omega)]
          refine ⟨1, _, ?_, c, 5, rfl⟩
          refine br_yes (yes_of (by omega)) ⟨place_ok (by omega), _, trim_fn s p, _, cut_fn hdl, br_no (by rw [empty_word]; exact decide_eq_false hw) (br_yes rfl (br_yes rfl ?_))⟩
          dsimp only
          rw [at_eq hs (by omega)]
          rfl
        · have hdrop : (trimL ((bl s).drop p)).drop (word1 ((bl s).drop p)).length = (bl s).drop (p + (((bl s).drop p).length - (trimL ((bl s).drop p)).length) + (word1 ((bl s).drop p)).length) := by
            conv => lhs; rw [trimL_drop ((bl s).drop p)]
            rw [List.drop_drop, List.drop_drop, Nat.add_assoc]
          rw [hdrop] at e
          have h64 : n = 0 → (word1 ((bl s).drop p)).headD 0 ≠ 64 := fun h => h4 h _ _ e
          rw [e]
          unfold goC
          rw [if_neg (by omega)]
          by_cases he : (readO n (word1 ((bl s).drop p))).2.2 = 0
          · rw [if_pos he]
            obtain ⟨q, y, hq, hy⟩ := ih (p + (((bl s).drop p).length - (trimL ((bl s).drop p)).length) + (word1 ((bl s).drop p)).length) (n + 1) (setF c n (readO n (word1 ((bl s).drop p))).1) (by omega) (by omega) (by omega) (fun h => by omega)
            exact ⟨q + 1, y, read0_round (by omega) hs hp c hw h64 (fun h => absurd he h) (fun _ => hq), hy⟩
          · rw [if_neg he]
            exact ⟨1, _, read0_round (q := 0) (by omega) hs hp c hw h64 (fun _ => rfl) (fun h => absurd h he), _, _, rfl⟩
    · have e0 : (bl s).drop p = [] := List.drop_eq_nil_of_le (by rw [bl_len]; omega)
      rw [e0]
      have e : wordsF (f + 1) p [] = [] := by unfold wordsF; rw [if_pos ((word1_none []).mpr rfl)]
      rw [e]
      exact ⟨1, .inr (.inr (c.1, c.2.1, c.2.2.1, c.2.2.2.1, c.2.2.2.2, (n : Int), 5)), br_no (no_of (by omega)) rfl, .inr rfl⟩

theorem read0_plain {s : ByteArray} (hs : s.size ≤ 256) (h : ∀ x r, wordsO (bl s) = x :: r → x.2.headD 0 ≠ 64) : cron_Read0_R s (cronRes (cronP s.size (wordsO (bl s)))) := by
  refine br_no (no_of (by omega)) ?_
  obtain ⟨q, y, hq, hy⟩ := read0_loop hs (s.size + 1) 0 0 f0 (by omega) (by omega) (by omega) (fun _ => h)
  refine ⟨y, ⟨q, hq⟩, ?_⟩
  have e : wordsF (s.size + 1) 0 ((bl s).drop 0) = wordsO (bl s) := rfl
  rw [e] at hy
  unfold cronP
  cases hg : goC (wordsO (bl s)) 0 f0 with
  | inl w =>
    rw [hg] at hy
    obtain ⟨c', n', rfl⟩ := hy
    have := goC_pos _ _ _ _ hg
    exact br_no (no_of (by simp only; omega)) (br_yes (yes_of (by simp only; omega)) rfl)
  | inr x =>
    obtain ⟨n', c'⟩ := x
    rw [hg] at hy
    have := goC_n _ _ _ _ _ (by omega) hg
    by_cases h5 : n' < 5
    · have e : (if n' < 5 then (f0, (s.size : Int), false) else (c', 0, true)) = (f0, (s.size : Int), false) := if_pos h5
      simp only [e]
      rcases hy with rfl | rfl
      · exact br_yes (yes_of (by simp only; omega)) (br_yes (yes_of (by omega)) rfl)
      · exact br_yes (yes_of (by simp only; omega)) (br_yes (yes_of (by omega)) rfl)
    · have e : (if n' < 5 then (f0, (s.size : Int), false) else (c', 0, true)) = (c', 0, true) := if_neg h5
      simp only [e]
      rcases hy with rfl | rfl
      · exact br_no (no_of (by simp only; omega)) rfl
      · exact br_no (no_of (by simp only; omega)) rfl

theorem macro_one {m : ByteArray} {r : F5 × Bool} (hm : m.size ≤ 256) (h : (match wordsO (bl m) with | x :: _ => decide (x.2.headD 0 = 64) | [] => false) = false) (h2 : cronP m.size (wordsO (bl m)) = (r.1, 0, true)) (h3 : r.2 = true) : ∃ y : F5 × Int × Int, cron_Read0_R m y ∧ ((y.1.1, y.1.2.1, y.1.2.2.1, y.1.2.2.2.1, y.1.2.2.2.2), (y.2.2 == 0)) = r := by
  have := read0_plain hm (fun x t e => by rw [e] at h; simpa using h)
  rw [h2] at this
  exact ⟨_, this, Prod.ext rfl h3.symm⟩

theorem cron_Macro_fn (s : ByteArray) : cron_Macro_R s (meansO (bl s)) := by
  unfold cron_Macro_R
  simp only [tl_same]
  generalize bl s = l
  by_cases h0 : bl (⟨#[64, 121, 101, 97, 114, 108, 121]⟩ : ByteArray) = l
  · subst h0; exact br_yes (decide_eq_true rfl) (macro_one (by decide) (by decide +kernel) (by decide +kernel) (by decide +kernel))
  by_cases h1 : bl (⟨#[64, 97, 110, 110, 117, 97, 108, 108, 121]⟩ : ByteArray) = l
  · subst h1; exact br_no (decide_eq_false h0) (br_yes (decide_eq_true rfl) (macro_one (by decide) (by decide +kernel) (by decide +kernel) (by decide +kernel)))
  by_cases h2 : bl (⟨#[64, 109, 111, 110, 116, 104, 108, 121]⟩ : ByteArray) = l
  · subst h2; exact br_no (decide_eq_false h0) (br_no (decide_eq_false h1) (br_yes (decide_eq_true rfl) (macro_one (by decide) (by decide +kernel) (by decide +kernel) (by decide +kernel))))
  by_cases h3 : bl (⟨#[64, 119, 101, 101, 107, 108, 121]⟩ : ByteArray) = l
  · subst h3; exact br_no (decide_eq_false h0) (br_no (decide_eq_false h1) (br_no (decide_eq_false h2) (br_yes (decide_eq_true rfl) (macro_one (by decide) (by decide +kernel) (by decide +kernel) (by decide +kernel)))))
  by_cases h4 : bl (⟨#[64, 100, 97, 105, 108, 121]⟩ : ByteArray) = l
  · subst h4; exact br_no (decide_eq_false h0) (br_no (decide_eq_false h1) (br_no (decide_eq_false h2) (br_no (decide_eq_false h3) (br_yes (decide_eq_true rfl) (macro_one (by decide) (by decide +kernel) (by decide +kernel) (by decide +kernel))))))
  by_cases h5 : bl (⟨#[64, 109, 105, 100, 110, 105, 103, 104, 116]⟩ : ByteArray) = l
  · subst h5; exact br_no (decide_eq_false h0) (br_no (decide_eq_false h1) (br_no (decide_eq_false h2) (br_no (decide_eq_false h3) (br_no (decide_eq_false h4) (br_yes (decide_eq_true rfl) (macro_one (by decide) (by decide +kernel) (by decide +kernel) (by decide +kernel)))))))
  by_cases h6 : bl (⟨#[64, 104, 111, 117, 114, 108, 121]⟩ : ByteArray) = l
  · subst h6; exact br_no (decide_eq_false h0) (br_no (decide_eq_false h1) (br_no (decide_eq_false h2) (br_no (decide_eq_false h3) (br_no (decide_eq_false h4) (br_no (decide_eq_false h5) (br_yes (decide_eq_true rfl) (macro_one (by decide) (by decide +kernel) (by decide +kernel) (by decide +kernel))))))))
  refine br_no (decide_eq_false h0) (br_no (decide_eq_false h1) (br_no (decide_eq_false h2) (br_no (decide_eq_false h3) (br_no (decide_eq_false h4) (br_no (decide_eq_false h5) (br_no (decide_eq_false h6) ?_))))))
  have hm : macroO l = [] := by
    unfold macroO
    rw [if_neg (fun e => h0 e.symm), if_neg (fun e => h1 e.symm), if_neg (fun e => h2 e.symm), if_neg (fun e => h3 e.symm), if_neg (fun e => h4 e.symm), if_neg (fun e => h5 e.symm), if_neg (fun e => h6 e.symm)]
  unfold meansO
  rw [if_pos hm]
  rfl

theorem readM_round {n : Nat} (hn : n < 5) {s : ByteArray} (hs : s.size ≤ 256) {p : Nat} (hp : p < s.size) (c : F5) {q : Nat} {y : cron_Read_l0_Y}
    (hw : word1 ((bl s).drop p) ≠ []) (h64 : n = 0 → (word1 ((bl s).drop p)).headD 0 ≠ 64)
    (herr : (readO n (word1 ((bl s).drop p))).2.2 ≠ 0 → y = .inr (.inl ((setF c n (readO n (word1 ((bl s).drop p))).1).1, (setF c n (readO n (word1 ((bl s).drop p))).1).2.1, (setF c n (readO n (word1 ((bl s).drop p))).1).2.2.1, (setF c n (readO n (word1 ((bl s).drop p))).1).2.2.2.1, (setF c n (readO n (word1 ((bl s).drop p))).1).2.2.2.2, (n : Int), 5, ((p + (((bl s).drop p).length - (trimL ((bl s).drop p)).length) : Nat) : Int) + (readO n (word1 ((bl s).drop p))).2.1)))
    (hok : (readO n (word1 ((bl s).drop p))).2.2 = 0 → cron_Read_l0 q ((setF c n (readO n (word1 ((bl s).drop p))).1).1, (setF c n (readO n (word1 ((bl s).drop p))).1).2.1, (setF c n (readO n (word1 ((bl s).drop p))).1).2.2.1, (setF c n (readO n (word1 ((bl s).drop p))).1).2.2.2.1, (setF c n (readO n (word1 ((bl s).drop p))).1).2.2.2.2, ((n + 1 : Nat) : Int), 5, s, ((p + (((bl s).drop p).length - (trimL ((bl s).drop p)).length) + (word1 ((bl s).drop p)).length : Nat) : Int)) y) :
    cron_Read_l0 (q + 1) (c.1, c.2.1, c.2.2.1, c.2.2.2.1, c.2.2.2.2, (n : Int), 5, s, (p : Int)) y := by
  have hl := trimL_len ((bl s).drop p)
  have hwl := word_len ((bl s).drop p)
  have hd : ((bl s).drop p).length = s.size - p := by rw [List.length_drop]; rfl
  have hdl : ((bl s).drop p).length ≤ 1000000 := by omega
  have hsz : (⟨(word1 ((bl s).drop p)).toArray⟩ : ByteArray).size ≤ 1000000 := by rw [mk_size]; omega
  have hin : ∀ k : Nat, IntKind.wrap .i64 (((p + (((bl s).drop p).length - (trimL ((bl s).drop p)).length) : Nat) : Int) + (readO k (word1 ((bl s).drop p))).2.1) = ((p + (((bl s).drop p).length - (trimL ((bl s).drop p)).length) : Nat) : Int) + (readO k (word1 ((bl s).drop p))).2.1 := fun k => by
    have := readO_pos (k := k) (word1 ((bl s).drop p))
    exact wi (by omega) (by omega)
  match n, hn with
  | 0, _ =>
    refine br_yes (yes_of (by omega)) ⟨place_ok (by omega), _, trim_fn s p, _, cut_fn hdl, br_no (by rw [empty_word]; exact decide_eq_false hw) (br_no rfl (br_yes rfl ⟨yes_of (by rw [mk_size]; cases e : word1 ((bl s).drop p) with | nil => exact absurd e hw | cons b w => simp), br_no (by have := h64 rfl; cases e : word1 ((bl s).drop p) with | nil => exact absurd e hw | cons b w => rw [e] at this; simp at this ⊢; intro e2; exact this (by rw [← UInt8.toNat_inj]; exact_mod_cast e2)) ⟨_, field_Read_fn (by decide) _ hsz, by decide, br_yes rfl ?_⟩⟩))⟩
    dsimp only
    rw [at_eq hs (by omega), next_eq (by omega)]
    by_cases he : (readO 0 (word1 ((bl s).drop p))).2.2 = 0
    · exact br_no (by show (!((readO 0 (word1 ((bl s).drop p))).2.2 == 0)) = false; rw [he]; rfl) (br_no (by show (!((readO 0 (word1 ((bl s).drop p))).2.2 == 0)) = false; rw [he]; rfl) (hok he))
    · have e2 := hin 0
      exact br_yes (by simpa using he) (br_yes (by simpa using he) (by rw [herr he, e2]; rfl))
  | 1, _ =>
    refine br_yes (yes_of (by omega)) ⟨place_ok (by omega), _, trim_fn s p, _, cut_fn hdl, br_no (by rw [empty_word]; exact decide_eq_false hw) (br_no rfl (br_no rfl ⟨_, field_Read_fn (by decide) _ hsz, by decide, br_no rfl (br_yes rfl ?_)⟩))⟩
    dsimp only
    rw [at_eq hs (by omega), next_eq (by omega)]
    by_cases he : (readO 1 (word1 ((bl s).drop p))).2.2 = 0
    · exact br_no (by show (!((readO 1 (word1 ((bl s).drop p))).2.2 == 0)) = false; rw [he]; rfl) (br_no (by show (!((readO 1 (word1 ((bl s).drop p))).2.2 == 0)) = false; rw [he]; rfl) (hok he))
    · have e2 := hin 1
      exact br_yes (by simpa using he) (br_yes (by simpa using he) (by rw [herr he, e2]; rfl))
  | 2, _ =>
    refine br_yes (yes_of (by omega)) ⟨place_ok (by omega), _, trim_fn s p, _, cut_fn hdl, br_no (by rw [empty_word]; exact decide_eq_false hw) (br_no rfl (br_no rfl ⟨_, field_Read_fn (by decide) _ hsz, by decide, br_no rfl (br_no rfl (br_yes rfl ?_))⟩))⟩
    dsimp only
    rw [at_eq hs (by omega), next_eq (by omega)]
    by_cases he : (readO 2 (word1 ((bl s).drop p))).2.2 = 0
    · exact br_no (by show (!((readO 2 (word1 ((bl s).drop p))).2.2 == 0)) = false; rw [he]; rfl) (br_no (by show (!((readO 2 (word1 ((bl s).drop p))).2.2 == 0)) = false; rw [he]; rfl) (hok he))
    · have e2 := hin 2
      exact br_yes (by simpa using he) (br_yes (by simpa using he) (by rw [herr he, e2]; rfl))
  | 3, _ =>
    refine br_yes (yes_of (by omega)) ⟨place_ok (by omega), _, trim_fn s p, _, cut_fn hdl, br_no (by rw [empty_word]; exact decide_eq_false hw) (br_no rfl (br_no rfl ⟨_, field_Read_fn (by decide) _ hsz, by decide, br_no rfl (br_no rfl (br_no rfl (br_yes rfl ?_)))⟩))⟩
    dsimp only
    rw [at_eq hs (by omega), next_eq (by omega)]
    by_cases he : (readO 3 (word1 ((bl s).drop p))).2.2 = 0
    · exact br_no (by show (!((readO 3 (word1 ((bl s).drop p))).2.2 == 0)) = false; rw [he]; rfl) (br_no (by show (!((readO 3 (word1 ((bl s).drop p))).2.2 == 0)) = false; rw [he]; rfl) (hok he))
    · have e2 := hin 3
      exact br_yes (by simpa using he) (br_yes (by simpa using he) (by rw [herr he, e2]; rfl))
  | 4, _ =>
    refine br_yes (yes_of (by omega)) ⟨place_ok (by omega), _, trim_fn s p, _, cut_fn hdl, br_no (by rw [empty_word]; exact decide_eq_false hw) (br_no rfl (br_no rfl ⟨_, field_Read_fn (by decide) _ hsz, by decide, br_no rfl (br_no rfl (br_no rfl (br_no rfl (br_yes rfl ?_))))⟩))⟩
    dsimp only
    rw [at_eq hs (by omega), next_eq (by omega)]
    by_cases he : (readO 4 (word1 ((bl s).drop p))).2.2 = 0
    · exact br_no (by show (!((readO 4 (word1 ((bl s).drop p))).2.2 == 0)) = false; rw [he]; rfl) (br_no (by show (!((readO 4 (word1 ((bl s).drop p))).2.2 == 0)) = false; rw [he]; rfl) (hok he))
    · have e2 := hin 4
      exact br_yes (by simpa using he) (br_yes (by simpa using he) (by rw [herr he, e2]; rfl))

theorem readM_loop {s : ByteArray} (hs : s.size ≤ 256) : ∀ (f p n : Nat) (c : F5), p ≤ s.size → s.size < p + f → n ≤ 5 → (n = 0 → ∀ x r, wordsF f p ((bl s).drop p) = x :: r → x.2.headD 0 ≠ 64) →
    ∃ q y, cron_Read_l0 q (c.1, c.2.1, c.2.2.1, c.2.2.2.1, c.2.2.2.2, (n : Int), 5, s, (p : Int)) y ∧ (match goC (wordsF f p ((bl s).drop p)) n c with
      | .inl w => ∃ c' : F5, ∃ n' : Int, y = .inr (.inl (c'.1, c'.2.1, c'.2.2.1, c'.2.2.2.1, c'.2.2.2.2, n', 5, w))
      | .inr (n', c') => y = .inl (c'.1, c'.2.1, c'.2.2.1, c'.2.2.2.1, c'.2.2.2.2, (n' : Int), 5) ∨ y = .inr (.inr (c'.1, c'.2.1, c'.2.2.1, c'.2.2.2.1, c'.2.2.2.2, (n' : Int), 5))) := by
  intro f
  induction f with
  | zero => intro p n c h1 h2; omega
  | succ f ih =>
    intro p n c h1 h2 h3 h4
    have hl := trimL_len ((bl s).drop p)
    have hwl := word_len ((bl s).drop p)
    have hd : ((bl s).drop p).length = s.size - p := by rw [List.length_drop]; rfl
    have hdl : ((bl s).drop p).length ≤ 1000000 := by omega
    by_cases hp : p < s.size
    · by_cases hw : word1 ((bl s).drop p) = []
      · have e : wordsF (f + 1) p ((bl s).drop p) = [] := by unfold wordsF; rw [if_pos hw]
        rw [e]
        refine ⟨1, .inl (c.1, c.2.1, c.2.2.1, c.2.2.2.1, c.2.2.2.2, (n : Int), 5), ?_, .inl rfl⟩
        exact br_yes (yes_of (by omega)) ⟨place_ok (by omega), _, trim_fn s p, _, cut_fn hdl, br_yes (by rw [empty_word]; exact decide_eq_true hw) rfl⟩
      · have e : wordsF (f + 1) p ((bl s).drop p) = (p + (((bl s).drop p).length - (trimL ((bl s).drop p)).length), word1 ((bl s).drop p)) :: wordsF f (p + (((bl s).drop p).length - (trimL ((bl s).drop p)).length) + (word1 ((bl s).drop p)).length) ((trimL ((bl s).drop p)).drop (word1 ((bl s).drop p)).length) := by
          conv => lhs; unfold wordsF
          rw [if_neg hw]
        have hpos : 0 < (word1 ((bl s).drop p)).length := List.length_pos_iff.mpr hw
        by_cases h5 : n = 5
        · subst h5
          rw [e]
          unfold goC
          rw [if_pos (by omega)]
          refine ⟨1, _, ?_, c, 5, rfl⟩
          refine br_yes (yes_of (by omega)) ⟨place_ok (by omega), _, trim_fn s p, _, cut_fn hdl, br_no (by rw [empty_word]; exact decide_eq_false hw) (br_yes rfl (br_yes rfl ?_))⟩
          dsimp only
          rw [at_eq hs (by omega)]
          rfl
        · have hdrop : (trimL ((bl s).drop p)).drop (word1 ((bl s).drop p)).length = (bl s).drop (p + (((bl s).drop p).length - (trimL ((bl s).drop p)).length) + (word1 ((bl s).drop p)).length) := by
            conv => lhs; rw [trimL_drop ((bl s).drop p)]
            rw [List.drop_drop, List.drop_drop, Nat.add_assoc]
          rw [hdrop] at e
          have h64 : n = 0 → (word1 ((bl s).drop p)).headD 0 ≠ 64 := fun h => h4 h _ _ e
          rw [e]
          unfold goC
          rw [if_neg (by omega)]
          by_cases he : (readO n (word1 ((bl s).drop p))).2.2 = 0
          · rw [if_pos he]
            obtain ⟨q, y, hq, hy⟩ := ih (p + (((bl s).drop p).length - (trimL ((bl s).drop p)).length) + (word1 ((bl s).drop p)).length) (n + 1) (setF c n (readO n (word1 ((bl s).drop p))).1) (by omega) (by omega) (by omega) (fun h => by omega)
            exact ⟨q + 1, y, readM_round (by omega) hs hp c hw h64 (fun h => absurd he h) (fun _ => hq), hy⟩
          · rw [if_neg he]
            exact ⟨1, _, readM_round (q := 0) (by omega) hs hp c hw h64 (fun _ => rfl) (fun h => absurd h he), _, _, rfl⟩
    · have e0 : (bl s).drop p = [] := List.drop_eq_nil_of_le (by rw [bl_len]; omega)
      rw [e0]
      have e : wordsF (f + 1) p [] = [] := by unfold wordsF; rw [if_pos ((word1_none []).mpr rfl)]
      rw [e]
      exact ⟨1, .inr (.inr (c.1, c.2.1, c.2.2.1, c.2.2.2.1, c.2.2.2.2, (n : Int), 5)), br_no (no_of (by omega)) rfl, .inr rfl⟩

theorem readM_plain {s : ByteArray} (hs : s.size ≤ 256) (h : ∀ x r, wordsO (bl s) = x :: r → x.2.headD 0 ≠ 64) : cron_Read_R s (cronRes (cronP s.size (wordsO (bl s)))) := by
  refine br_no (no_of (by omega)) ?_
  obtain ⟨q, y, hq, hy⟩ := readM_loop hs (s.size + 1) 0 0 f0 (by omega) (by omega) (by omega) (fun _ => h)
  refine ⟨y, ⟨q, hq⟩, ?_⟩
  have e : wordsF (s.size + 1) 0 ((bl s).drop 0) = wordsO (bl s) := rfl
  rw [e] at hy
  unfold cronP
  cases hg : goC (wordsO (bl s)) 0 f0 with
  | inl w =>
    rw [hg] at hy
    obtain ⟨c', n', rfl⟩ := hy
    have := goC_pos _ _ _ _ hg
    exact br_no (no_of (by simp only; omega)) (br_yes (yes_of (by simp only; omega)) rfl)
  | inr x =>
    obtain ⟨n', c'⟩ := x
    rw [hg] at hy
    have := goC_n _ _ _ _ _ (by omega) hg
    by_cases h5 : n' < 5
    · have e : (if n' < 5 then (f0, (s.size : Int), false) else (c', 0, true)) = (f0, (s.size : Int), false) := if_pos h5
      simp only [e]
      rcases hy with rfl | rfl
      · exact br_yes (yes_of (by simp only; omega)) (br_yes (yes_of (by omega)) rfl)
      · exact br_yes (yes_of (by simp only; omega)) (br_yes (yes_of (by omega)) rfl)
    · have e : (if n' < 5 then (f0, (s.size : Int), false) else (c', 0, true)) = (c', 0, true) := if_neg h5
      simp only [e]
      rcases hy with rfl | rfl
      · exact br_no (no_of (by simp only; omega)) rfl
      · exact br_no (no_of (by simp only; omega)) rfl

theorem means_ne {l : List UInt8} (h : macroO l ≠ []) : (meansO l).2 = true := by unfold meansO; rw [if_neg h]

theorem after_macro {s : ByteArray} (hs : s.size ≤ 256) {f p : Nat} (c : F5) (hp : p ≤ s.size) (hf : s.size < p + f) : ∃ y, cron_Read_l0 1 (c.1, c.2.1, c.2.2.1, c.2.2.2.1, c.2.2.2.2, 1, 1, s, (p : Int)) y ∧ (match wordsF f p ((bl s).drop p) with
    | [] => y = .inl (c.1, c.2.1, c.2.2.1, c.2.2.2.1, c.2.2.2.2, 1, 1) ∨ y = .inr (.inr (c.1, c.2.1, c.2.2.1, c.2.2.2.1, c.2.2.2.2, 1, 1))
    | x :: _ => y = .inr (.inl (c.1, c.2.1, c.2.2.1, c.2.2.2.1, c.2.2.2.2, 1, 1, (x.1 : Int)))) := by
  obtain ⟨f, rfl⟩ : ∃ g, f = g + 1 := ⟨f - 1, by omega⟩
  have hd : ((bl s).drop p).length = s.size - p := by rw [List.length_drop]; rfl
  have hdl : ((bl s).drop p).length ≤ 1000000 := by omega
  by_cases hlt : p < s.size
  · by_cases hw : word1 ((bl s).drop p) = []
    · have e : wordsF (f + 1) p ((bl s).drop p) = [] := by unfold wordsF; rw [if_pos hw]
      rw [e]
      exact ⟨_, br_yes (yes_of (by omega)) ⟨place_ok (by omega), _, trim_fn s p, _, cut_fn hdl, br_yes (by rw [empty_word]; exact decide_eq_true hw) rfl⟩, .inl rfl⟩
    · unfold wordsF
      rw [if_neg hw]
      refine ⟨_, br_yes (yes_of (by omega)) ⟨place_ok (by omega), _, trim_fn s p, _, cut_fn hdl, br_no (by rw [empty_word]; exact decide_eq_false hw) (br_yes rfl (br_yes rfl rfl))⟩, ?_⟩
      dsimp only
      rw [at_eq hs (by omega)]
  · have e0 : (bl s).drop p = [] := List.drop_eq_nil_of_le (by rw [bl_len]; omega)
    rw [e0]
    have e : wordsF (f + 1) p [] = [] := by unfold wordsF; rw [if_pos ((word1_none []).mpr rfl)]
    rw [e]
    exact ⟨_, br_no (no_of (by omega)) rfl, .inr rfl⟩

theorem cron_Read_fn {s : ByteArray} (hs : s.size ≤ 256) : cron_Read_R s (cronRes (cronO (bl s))) := by
  have hlen : (bl s).length = s.size := rfl
  unfold cronO
  cases hw : wordsO (bl s) with
  | nil => 
    have := readM_plain hs (fun x r e => by rw [hw] at e; cases e)
    rw [hw] at this
    exact this
  | cons x r =>
    simp only
    by_cases h64 : x.2.headD 0 = 64
    · rw [if_pos h64]
      refine br_no (no_of (by omega)) ?_
      have hw' := hw
      unfold wordsO wordsF at hw'
      have hdl : (bl s).length ≤ 1000000 := by omega
      have hl := trimL_len (bl s)
      have hwl := word_len (bl s)
      by_cases h0 : word1 (bl s) = []
      · rw [if_pos h0] at hw'; cases hw'
      rw [if_neg h0] at hw'
      obtain ⟨rfl, rfl⟩ := List.cons.inj hw'
      simp only at h64 ⊢
      have hsz : 0 < s.size := by
        have : 0 < (word1 (bl s)).length := List.length_pos_iff.mpr h0
        omega
      have hin := at_eq (s := s) (p := 0) hs (by omega)
      have hhead : ((((List.getD (Array.toList (ByteArray.data (⟨(word1 (bl s)).toArray⟩ : ByteArray))) 0 0).toNat : Nat) : Int) == 64) = true := by
        show ((((List.getD (word1 (bl s)) 0 0).toNat : Nat) : Int) == 64) = true
        cases e : word1 (bl s) with
        | nil => exact absurd e h0
        | cons b w => rw [e] at h64; simp at h64; rw [h64]; rfl
      have hpos : decide (0 < ((ByteArray.size (⟨(word1 (bl s)).toArray⟩ : ByteArray) : Nat) : Int)) = true := by
        rw [mk_size]
        have : 0 < (word1 (bl s)).length := List.length_pos_iff.mpr h0
        exact yes_of (by omega)
      have hmac := cron_Macro_fn ⟨(word1 (bl s)).toArray⟩
      rw [bl_mk (word1 (bl s))] at hmac
      have hround : ∀ {q : Nat} {y : cron_Read_l0_Y}, (br (!(meansO (word1 (bl s))).2) ((Sum.inr (Sum.inl ((meansO (word1 (bl s))).1.1, (meansO (word1 (bl s))).1.2.1, (meansO (word1 (bl s))).1.2.2.1, (meansO (word1 (bl s))).1.2.2.2.1, (meansO (word1 (bl s))).1.2.2.2.2, 0, 1, ((0 + ((bl s).length - (trimL (bl s)).length) : Nat) : Int)))) = y) (cron_Read_l0 q ((meansO (word1 (bl s))).1.1, (meansO (word1 (bl s))).1.2.1, (meansO (word1 (bl s))).1.2.2.1, (meansO (word1 (bl s))).1.2.2.2.1, (meansO (word1 (bl s))).1.2.2.2.2, 1, 1, s, ((0 + ((bl s).length - (trimL (bl s)).length) + (word1 (bl s)).length : Nat) : Int)) y)) → cron_Read_l0 (q + 1) (0, 0, 0, 0, 0, 0, 5, s, 0) y := by
        intro q y h
        refine br_yes (yes_of (by omega)) ⟨place_ok (p := 0) (by omega), _, trim_fn s 0, _, cut_fn (l := (bl s).drop 0) hdl, br_no (by rw [empty_word]; exact decide_eq_false h0) (br_no rfl (br_yes rfl ⟨hpos, br_yes hhead ⟨_, hmac, ?_⟩⟩))⟩
        dsimp only
        rw [at_eq hs (by omega), next_eq (by simp only [List.drop_zero]; omega)]
        exact h
      cases hm : macroO (word1 (bl s)) with
      | nil =>
        have e2 : meansO (word1 (bl s)) = (f0, false) := by unfold meansO; rw [if_pos hm]
        refine ⟨(Sum.inr (Sum.inl ((meansO (word1 (bl s))).1.1, (meansO (word1 (bl s))).1.2.1, (meansO (word1 (bl s))).1.2.2.1, (meansO (word1 (bl s))).1.2.2.2.1, (meansO (word1 (bl s))).1.2.2.2.2, 0, 1, ((0 + ((bl s).length - (trimL (bl s)).length) : Nat) : Int)))), ⟨1, hround (q := 0) (br_yes (by rw [e2]; rfl) rfl)⟩, ?_⟩
        simp only [sume]
        refine br_no (no_of ?_) (br_yes (yes_of ?_) rfl)
        · omega
        · omega
      | cons b t =>
        have e2 := means_ne (l := word1 (bl s)) (by rw [hm]; simp)
        have hdrop : (trimL (bl s)).drop (word1 (bl s)).length = (bl s).drop (0 + ((bl s).length - (trimL (bl s)).length) + (word1 (bl s)).length) := by
          conv => lhs; rw [trimL_drop (bl s)]
          rw [List.drop_drop, Nat.zero_add]
        rw [hdrop]
        have hp2 : 0 < (word1 (bl s)).length := List.length_pos_iff.mpr h0
        obtain ⟨y, hy1, hy2⟩ := after_macro hs (f := (bl s).length) (p := 0 + ((bl s).length - (trimL (bl s)).length) + (word1 (bl s)).length) (meansO (word1 (bl s))).1 (by omega) (by omega)
        refine ⟨y, ⟨2, hround (br_no (by rw [e2]; rfl) hy1)⟩, ?_⟩
        cases hw2 : wordsF (bl s).length (0 + ((bl s).length - (trimL (bl s)).length) + (word1 (bl s)).length) ((bl s).drop (0 + ((bl s).length - (trimL (bl s)).length) + (word1 (bl s)).length)) with
        | nil =>
          rw [hw2] at hy2
          rcases hy2 with rfl | rfl
          · simp only [sume]; exact br_no rfl rfl
          · simp only [sume]; exact br_no rfl rfl
        | cons z r2 =>
          rw [hw2] at hy2
          subst hy2
          simp only [sume]
          refine br_no (no_of ?_) (br_yes (yes_of ?_) rfl)
          · omega
          · omega
    · rw [if_neg h64]
      have := readM_plain hs (fun y t e => by rw [hw] at e; cases e; exact h64)
      rw [hw] at this
      exact this

end Go.Proofs.YtjdpkihlgpojkaaGreatDoor
