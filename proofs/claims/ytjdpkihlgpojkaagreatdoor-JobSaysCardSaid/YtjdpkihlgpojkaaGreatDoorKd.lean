import Derived.Test.YtjdpkihlgpojkaaGreatDoorFud
import Derived.Test.YtjdpkihlgpojkaaGreatDoorKb
/- Texts of fields: what they say (plain). -/
namespace Go.Proofs.YtjdpkihlgpojkaaGreatDoor
open Go Go.B
set_option linter.unusedSimpArgs false
set_option linter.unusedVariables false
set_option linter.unusedSectionVars false
set_option maxRecDepth 20000

theorem tl_loop (b : ByteArray) : ∀ (d i : Nat) (r : List UInt8), i + d = b.size → ByteArray.toList.loop b i r = r.reverse ++ b.data.toList.drop i
  | 0, i, r, h => by
    rw [ByteArray.toList.loop, if_neg (by omega), List.drop_eq_nil_of_le (by show b.data.toList.length ≤ i; rw [Array.length_toList]; show b.size ≤ i; omega), List.append_nil]
  | d + 1, i, r, h => by
    rw [ByteArray.toList.loop, if_pos (by omega), tl_loop b d (i + 1) _ (by omega), List.reverse_cons, List.append_assoc]
    congr 1
    have hlt : i < b.data.toList.length := by rw [Array.length_toList]; show i < b.size; omega
    rw [List.drop_eq_getElem_cons hlt]
    have : b.get! i = b.data.toList[i] := by
      have hi : i < b.data.size := by omega
      show b.data[i]! = _
      rw [getElem!_pos b.data i hi]; simp
    rw [this]
    rfl

abbrev bl (s : ByteArray) : List UInt8 := s.data.toList

theorem tl_eq (b : ByteArray) : ByteArray.toList b = bl b := by
  unfold ByteArray.toList
  rw [tl_loop b b.size 0 [] (by omega)]
  simp

theorem bl_mk (l : List UInt8) : bl ⟨l.toArray⟩ = l := rfl

theorem bl_ext {a b : ByteArray} (h : bl a = bl b) : a = b := by
  apply ByteArray.ext
  exact Array.toList_inj.mp h

theorem bl_len (s : ByteArray) : (bl s).length = s.size := rfl

theorem tl_same (a b : ByteArray) : (ByteArray.toList a == ByteArray.toList b) = decide (bl a = bl b) := by
  rw [tl_eq, tl_eq]
  rw [Bool.eq_iff_iff]; simp

/- cutting -/

def cutO (c : UInt8) : List UInt8 → List UInt8 × List UInt8 × Bool
  | [] => ([], [], false)
  | b :: r => if b = c then ([], r, true) else ((b :: (cutO c r).1), (cutO c r).2.1, (cutO c r).2.2)

def splitN (c : UInt8) : Nat → List UInt8 → List (List UInt8)
  | 0, l => [l]
  | n + 1, l => if (cutO c l).2.2 then (cutO c l).1 :: splitN c n (cutO c l).2.1 else [l]

theorem cutO_no {c : UInt8} : ∀ {l : List UInt8}, (cutO c l).2.2 = false → (cutO c l).1 = l ∧ (cutO c l).2.1 = [] ∧ c ∉ l
  | [], _ => ⟨rfl, rfl, by simp⟩
  | b :: r, h => by
    unfold cutO at h ⊢
    split at h
    · cases h
    · rename_i hb
      obtain ⟨h1, h2, h3⟩ := cutO_no (l := r) h
      rw [if_neg hb]
      exact ⟨by simp [h1], h2, by simp only [List.mem_cons, not_or]; exact ⟨fun e => hb e.symm, h3⟩⟩

theorem cutO_yes {c : UInt8} : ∀ {l : List UInt8}, (cutO c l).2.2 = true → l = (cutO c l).1 ++ c :: (cutO c l).2.1 ∧ c ∉ (cutO c l).1
  | [], h => by cases h
  | b :: r, h => by
    unfold cutO at h ⊢
    split at h
    · rename_i hb; rw [if_pos hb, hb]; exact ⟨rfl, by simp⟩
    · rename_i hb
      obtain ⟨h1, h2⟩ := cutO_yes (l := r) h
      rw [if_neg hb]
      refine ⟨by simp only [List.cons_append]; rw [← h1], ?_⟩
      simp only [List.mem_cons, not_or]; exact ⟨fun e => hb e.symm, h2⟩

theorem cutO_len {c : UInt8} (l : List UInt8) : (cutO c l).1.length ≤ l.length ∧ ((cutO c l).2.2 = true → (cutO c l).2.1.length + 1 + (cutO c l).1.length = l.length) := by
  cases h : (cutO c l).2.2
  · obtain ⟨h1, _, _⟩ := cutO_no h; rw [h1]; simp
  · obtain ⟨h1, _⟩ := cutO_yes h
    have := congrArg List.length h1
    simp at this
    exact ⟨by omega, fun _ => by omega⟩

theorem index_one (c : UInt8) : ∀ l : List UInt8, (Lib.index l [c] = -1 ∧ (cutO c l).2.2 = false) ∨ ((cutO c l).2.2 = true ∧ Lib.index l [c] = ((cutO c l).1.length : Int))
  | [] => .inl ⟨rfl, rfl⟩
  | b :: r => by
    unfold Lib.index cutO
    by_cases hb : b = c
    · subst hb
      rw [if_pos rfl]
      refine .inr ⟨rfl, ?_⟩
      simp [List.isPrefixOf]
    · rw [if_neg hb]
      have e : ([c] : List UInt8).isPrefixOf (b :: r) = false := by simp [List.isPrefixOf]; exact fun e => hb e.symm
      rw [e]
      rcases index_one c r with ⟨h1, h2⟩ | ⟨h1, h2⟩
      · left; rw [h1]; exact ⟨rfl, h2⟩
      · right
        refine ⟨h1, ?_⟩
        rw [h2]
        simp
        try omega

theorem take_cut {l A B : List UInt8} {c : UInt8} (h : l = A ++ c :: B) : l.take A.length = A ∧ l.drop (A.length + 1) = B := by
  subst h
  refine ⟨List.take_left' rfl, ?_⟩
  rw [show A ++ c :: B = (A ++ [c]) ++ B by simp]
  exact List.drop_left' (by simp)

theorem cut_one (c : UInt8) (l : List UInt8) : Lib.cut l [c] = cutO c l := by
  unfold Lib.cut
  rcases index_one c l with ⟨h1, h2⟩ | ⟨h1, h2⟩
  · obtain ⟨k1, k2, _⟩ := cutO_no h2
    rw [if_neg (by omega)]
    exact Prod.ext k1.symm (Prod.ext k2.symm h2.symm)
  · obtain ⟨k1, _⟩ := cutO_yes h1
    rw [if_pos (by omega), h2, Int.toNat_natCast]
    refine Prod.ext ?_ (Prod.ext ?_ h1.symm)
    · exact (take_cut k1).1
    · exact (take_cut k1).2

theorem bl_extract (s : ByteArray) (a b : Nat) : bl (s.extract a b) = ((bl s).drop a).take (b - a) := by
  show (s.extract a b).data.toList = _
  rw [ByteArray.data_extract, Array.toList_extract, List.extract_eq_take_drop]

theorem indexB_eq (s sep : ByteArray) : Lib.indexB s sep = Lib.index (bl s) (bl sep) := rfl

theorem split_one (c : UInt8) : ∀ (k : Nat) (s : ByteArray), (Lib.splitB ⟨#[c]⟩ 0 k s).map bl = splitN c k (bl s)
  | 0, s => rfl
  | k + 1, s => by
    rcases index_one c (bl s) with ⟨h1, h2⟩ | ⟨h1, h2⟩
    · rw [Lib.splitB_miss _ _ _ _ (by rw [indexB_eq]; exact h1)]
      unfold splitN
      rw [if_neg (by rw [h2]; decide)]
      rfl
    · rw [Lib.splitB_hit _ _ _ _ (cutO c (bl s)).1.length (by rw [indexB_eq]; exact h2)]
      unfold splitN
      rw [if_pos h1]
      obtain ⟨k1, _⟩ := cutO_yes h1
      rw [List.map_cons, split_one c k]
      congr 1
      · rw [bl_extract, List.drop_zero]
        exact (take_cut k1).1
      · congr 1
        rw [bl_extract, show ((⟨#[c]⟩ : ByteArray).size) = 1 from rfl]
        have hl := (cutO_len (c := c) (bl s)).2 h1
        rw [bl_len] at hl
        rw [(take_cut k1).2]
        exact List.take_of_length_le (by omega)

theorem splitN_fuel (c : UInt8) : ∀ (k k' : Nat) (l : List UInt8), l.count c ≤ k → l.count c ≤ k' → splitN c k l = splitN c k' l := by
  have zero : ∀ (k : Nat) (l : List UInt8), l.count c = 0 → splitN c k l = [l] := fun k l h => by
    cases k with
    | zero => rfl
    | succ k =>
      unfold splitN
      cases hc : (cutO c l).2.2
      · rfl
      · exfalso
        obtain ⟨k1, _⟩ := cutO_yes hc
        have : c ∈ l := by rw [k1]; simp
        exact absurd (List.count_pos_iff.mpr this) (by omega)
  intro k
  induction k with
  | zero => intro k' l h1 h2; rw [zero 0 l (by omega), zero k' l (by omega)]
  | succ k ih =>
    intro k' l h1 h2
    cases k' with
    | zero => rw [zero (k + 1) l (by omega), zero 0 l (by omega)]
    | succ k' =>
      unfold splitN
      cases hc : (cutO c l).2.2
      · rfl
      · obtain ⟨k1, k2⟩ := cutO_yes hc
        have : l.count c = (cutO c l).2.1.count c + 1 := by
          conv => lhs; rw [k1]
          rw [List.count_append, List.count_cons_self, List.count_eq_zero_of_not_mem k2]; omega
        simp only [if_true]
        rw [ih k' _ (by omega) (by omega)]

def splitC (c : UInt8) (l : List UInt8) : List (List UInt8) := splitN c l.length l

theorem count_one' (s : ByteArray) (c : UInt8) : Lib.countB s ⟨#[c]⟩ = (bl s).count c := Lib.count_one c (bl s)

theorem split_all (c : UInt8) (s : ByteArray) : (Lib.splitB ⟨#[c]⟩ 0 (Lib.countB s ⟨#[c]⟩) s).map bl = splitC c (bl s) := by
  rw [split_one, count_one']
  exact splitN_fuel c _ _ _ (Nat.le_refl _) List.count_le_length

/- great letters -/

theorem getD_ofNat {b : UInt8} {n : Nat} (h : b.toNat = n) : UInt8.ofNat n = b := by subst h; simp

theorem upB_ascii {b : UInt8} (h : b.toNat < 128) : Lib.encodeRune (upR b.toNat) = [upB b] := by
  have : ∀ q : Fin 128, Lib.encodeRune (upR q.val) = [upB (UInt8.ofNat q.val)] := by decide +kernel
  have := this ⟨b.toNat, h⟩
  rw [getD_ofNat rfl] at this
  exact this

theorem upB_high {b : UInt8} (h : 128 ≤ b.toNat) : upB b = b := if_neg (by omega)

theorem enc_high {r : Nat} (h : 128 ≤ r) : ∃ c ∈ Lib.encodeRune r, 128 ≤ c.toNat := by
  have key : ∃ x ∈ Lib.encodeRuneZ r, 128 ≤ x ∧ x < 256 := by
    have hby := Lib.encodeRuneZ_byte r
    have pick : ∀ x, x ∈ Lib.encodeRuneZ (r : Int) → 128 ≤ x → ∃ x ∈ Lib.encodeRuneZ (r : Int), 128 ≤ x ∧ x < 256 := fun x hx h1 => ⟨x, hx, h1, (hby x hx).2⟩
    by_cases h1 : (r : Int) ≤ 2047
    · exact pick _ (by rw [Lib.encodeRuneZ_two (by omega) h1]; exact List.mem_cons_self) (by omega)
    · by_cases h2 : (2048 ≤ (r : Int) ∧ (r : Int) < 55296) ∨ (57343 < (r : Int) ∧ (r : Int) ≤ 65535)
      · exact pick _ (by rw [Lib.encodeRuneZ_three h2]; exact List.mem_cons_self) (by omega)
      · by_cases h3 : 65536 ≤ (r : Int) ∧ (r : Int) ≤ 1114111
        · exact pick _ (by rw [Lib.encodeRuneZ_four h3.1 h3.2]; exact List.mem_cons_self) (by omega)
        · exact pick _ (by rw [Lib.encodeRuneZ_bad (by omega)]; exact List.mem_cons_self) (by omega)
  obtain ⟨x, hx, h1, h2⟩ := key
  refine ⟨x.toNat.toUInt8, List.mem_map.mpr ⟨x, hx, rfl⟩, ?_⟩
  rw [show x.toNat.toUInt8 = UInt8.ofNat x.toNat from rfl, UInt8.toNat_ofNat']
  omega

theorem dec_lo {s : ByteArray} {p : Nat} (h : p < s.size) (ha : ((bl s).getD p 0).toNat < 128) : Utf8.decode s p = (((bl s).getD p 0).toNat, 1) := by
  have e : s[p]'h = (bl s).getD p 0 := by
    have hp : p < (bl s).length := h
    rw [List.getD_eq_getElem?_getD, List.getElem?_eq_getElem hp]
    rfl
  rw [← e] at ha ⊢
  exact decode_ascii s p h ha

theorem dec_hi {s : ByteArray} {p : Nat} (h : p < s.size) (ha : 128 ≤ ((bl s).getD p 0).toNat) : 128 ≤ (Utf8.decode s p).1 := by
  have e : s[p]'h = (bl s).getD p 0 := by
    have hp : p < (bl s).length := h
    rw [List.getD_eq_getElem?_getD, List.getElem?_eq_getElem hp]
    rfl
  rw [← e] at ha
  exact (decode_high s p h ha).1

theorem drop_bl {s : ByteArray} {p : Nat} (h : p < s.size) : (bl s).drop p = (bl s).getD p 0 :: (bl s).drop (p + 1) := by
  have hp : p < (bl s).length := h
  rw [List.drop_eq_getElem_cons hp, List.getD_eq_getElem?_getD, List.getElem?_eq_getElem hp]
  rfl

theorem upFrom_ascii (s : ByteArray) : ∀ (f p : Nat), s.size ≤ p + f → (∀ b ∈ (bl s).drop p, b.toNat < 128) → upFrom s f p = ((bl s).drop p).map upB
  | 0, p, h, _ => by rw [List.drop_eq_nil_of_le (by rw [bl_len]; omega)]; rfl
  | f + 1, p, h, ha => by
    unfold upFrom
    by_cases hp : p < s.size
    · rw [if_pos hp]
      rw [drop_bl hp] at ha ⊢
      have hb := ha _ List.mem_cons_self
      rw [dec_lo hp hb, upB_ascii hb, upFrom_ascii s f (p + 1) (by omega) (fun b hb => ha b (List.mem_cons_of_mem _ hb))]
      rfl
    · rw [if_neg hp, List.drop_eq_nil_of_le (by rw [bl_len]; omega)]; rfl

theorem upFrom_high (s : ByteArray) : ∀ (f p : Nat), s.size ≤ p + f → (∃ b ∈ (bl s).drop p, 128 ≤ b.toNat) → ∃ c ∈ upFrom s f p, 128 ≤ c.toNat
  | 0, p, h, ⟨b, hb, _⟩ => by rw [List.drop_eq_nil_of_le (by rw [bl_len]; omega)] at hb; cases hb
  | f + 1, p, h, ⟨b, hb, h1⟩ => by
    unfold upFrom
    by_cases hp : p < s.size
    · rw [if_pos hp]
      rw [drop_bl hp] at hb
      rcases Nat.lt_or_ge ((bl s).getD p 0).toNat 128 with hl | hl
      · rcases List.mem_cons.mp hb with rfl | hb
        · omega
        · rw [dec_lo hp hl]
          obtain ⟨c, hc, h2⟩ := upFrom_high s f (p + 1) (by omega) ⟨b, hb, h1⟩
          exact ⟨c, List.mem_append_right _ hc, h2⟩
      · have h3 := dec_hi hp hl
        have h4 : upR (Utf8.decode s p).1 = (Utf8.decode s p).1 := if_neg (by omega)
        rw [h4]
        obtain ⟨c, hc, h2⟩ := enc_high h3
        exact ⟨c, List.mem_append_left _ hc, h2⟩
    · rw [List.drop_eq_nil_of_le (by rw [bl_len]; omega)] at hb; cases hb

/-- a name of plain letters -/
theorem upS_name (s : ByteArray) {n : List UInt8} (hn : ∀ b ∈ n, b.toNat < 128) : upS s = n ↔ (bl s).map upB = n := by
  by_cases ha : ∀ b ∈ bl s, b.toNat < 128
  · have := upFrom_ascii s s.size 0 (by omega) (by simpa using ha)
    unfold upS
    rw [this]; rfl
  · have ha : ∃ b ∈ bl s, 128 ≤ b.toNat := by
      by_cases h : ∃ b ∈ bl s, 128 ≤ b.toNat
      · exact h
      · exact absurd (fun b hb => by rcases Nat.lt_or_ge b.toNat 128 with k | k; exact k; exact absurd ⟨b, hb, k⟩ h) ha
    constructor
    · intro h
      obtain ⟨c, hc, h1⟩ := upFrom_high s s.size 0 (by omega) (by simpa using ha)
      have : c ∈ upS s := hc
      rw [h] at this
      exact absurd (hn c this) (by omega)
    · intro h
      obtain ⟨b, hb, h1⟩ := ha
      have : upB b ∈ (bl s).map upB := List.mem_map.mpr ⟨b, hb, rfl⟩
      rw [h, upB_high h1] at this
      exact absurd (hn b this) (by omega)

theorem ba_append (a b : List UInt8) : (⟨a.toArray⟩ : ByteArray) ++ ⟨b.toArray⟩ = ⟨(a ++ b).toArray⟩ := by
  apply ByteArray.ext
  rw [ByteArray.data_append]
  simp
end Go.Proofs.YtjdpkihlgpojkaaGreatDoor
/- What texts of fields come to: numbers, values, items (plain), and spans of masks. -/
namespace Go.Proofs.YtjdpkihlgpojkaaGreatDoor
open Go Go.B
set_option linter.unusedSimpArgs false
set_option linter.unusedVariables false
set_option linter.unusedSectionVars false
set_option maxRecDepth 20000

def loA (k : Nat) : Int := endsL.getD (k * 2 + 0) 0

def hiA (k : Nat) : Int := endsL.getD (k * 2 + 1) 0

def dig (b : UInt8) : Bool := decide (48 ≤ b.toNat) && decide (b.toNat ≤ 57)

def valF (n : Int) (l : List UInt8) : Int := l.foldl (fun n b => 10 * n + ((b.toNat : Int) - 48)) n

def valL (l : List UInt8) : Int := valF 0 l

def good (l : List UInt8) : Bool := decide (l.length ≤ 3) && (decide (l.length ≤ 1) || !(l.headD 0 == 48)) && l.all dig

/-- the number of a text -/
def numO (l : List UInt8) : Option Int := if l ≠ [] ∧ good l = true then some (valL l) else none

def nmT : Nat → List (List UInt8)
  | 3 => [[74, 65, 78], [70, 69, 66], [77, 65, 82], [65, 80, 82], [77, 65, 89], [74, 85, 78], [74, 85, 76], [65, 85, 71], [83, 69, 80], [79, 67, 84], [78, 79, 86], [68, 69, 67]]
  | 4 => [[83, 85, 78], [77, 79, 78], [84, 85, 69], [87, 69, 68], [84, 72, 85], [70, 82, 73], [83, 65, 84]]
  | _ => []

def fnd (u : List UInt8) : List (List UInt8) → Nat → Option Nat
  | [], _ => none
  | x :: xs, i => if u = x then some i else fnd u xs (i + 1)

def hiV (k : Nat) : Int := if k = 4 then 7 else hiA k

/-- the number of a value -/
def valO (k : Nat) (l : List UInt8) : Option Int := match fnd (l.map upB) (nmT k) 0 with
  | some i => some (loA k + i)
  | none => match numO l with
    | some n => if loA k ≤ n ∧ n ≤ hiV k then some n else none
    | none => none

def spanM (a b s : Nat) : Nat := ofM (spanL a s (b - a + 1))

/-- Sunday is 0 -/
def fixM (k m : Nat) : Nat := if k = 4 ∧ m.testBit 7 = true then (m ||| 1) &&& 127 else m

def byO (st : List UInt8) (has : Bool) : Option Int := if has then (match numO st with | some n => if 1 ≤ n ∧ n ≤ 63 then some n else none | none => none) else some 1

def runO (k : Nat) (sp : List UInt8) (has : Bool) : Option (Int × Int) :=
  if sp = [42] then some (loA k, hiA k) else
  match valO k (cutO 45 sp).1 with
  | none => none
  | some f => if (cutO 45 sp).2.2 then (match valO k (cutO 45 sp).2.1 with | some t => some (f, t) | none => none) else if has then none else some (f, f)

/-- what an item has -/
def itemO (k : Nat) (l : List UInt8) : Option Nat := match byO (cutO 47 l).2.1 (cutO 47 l).2.2 with
  | none => none
  | some by_ => match runO k (cutO 47 l).1 (cutO 47 l).2.2 with
    | none => none
    | some (f, t) => if f ≤ t then some (fixM k (spanM f.toNat t.toNat by_.toNat)) else none

def readL (k : Nat) : List (List UInt8) → Nat → Nat → Int × Int × Int
  | [], _, m => ((m : Int), 0, 0)
  | x :: xs, at_, m => match itemO k x with
    | none => (0, (at_ : Int), 160)
    | some q => readL k xs (at_ + x.length + 1) (m ||| q)

/-- the field of a text -/
def readO (k : Nat) (l : List UInt8) : Int × Int × Int := if 256 < l.length then (0, 0, 3) else readL k (splitC 44 l) 0 0

/- facts -/

theorem dig_iff {b : UInt8} : dig b = true ↔ 48 ≤ b.toNat ∧ b.toNat ≤ 57 := by simp [dig]

theorem fnd_lt {u : List UInt8} : ∀ {l : List (List UInt8)} {i j : Nat}, fnd u l i = some j → i ≤ j ∧ j < i + l.length
  | [], i, j, h => by cases h
  | x :: xs, i, j, h => by
    unfold fnd at h
    split at h
    · cases h; simp
    · have := fnd_lt h; simp; omega

theorem nmT_len (k : Nat) (hk : k < 5) : ((nmT k).length : Int) ≤ hiA k - loA k + 1 := by
  match k, hk with
  | 0, _ | 1, _ | 2, _ | 3, _ | 4, _ => decide

theorem ends_bd (k : Nat) (hk : k < 5) : 0 ≤ loA k ∧ loA k ≤ hiA k ∧ hiA k ≤ hiV k ∧ hiV k ≤ 59 ∧ (k = 4 → hiV k ≤ 7) := by
  match k, hk with
  | 0, _ | 1, _ | 2, _ | 3, _ | 4, _ => decide

theorem valO_bd {k : Nat} (hk : k < 5) {l : List UInt8} {n : Int} (h : valO k l = some n) : loA k ≤ n ∧ n ≤ hiV k := by
  have hb := ends_bd k hk
  have hn := nmT_len k hk
  unfold valO at h
  split at h
  · rename_i i hi
    cases h
    have := fnd_lt hi
    omega
  · split at h
    · split at h
      · cases h; assumption
      · cases h
    · cases h

theorem runO_bd {k : Nat} (hk : k < 5) {sp : List UInt8} {has : Bool} {f t : Int} (h : runO k sp has = some (f, t)) : 0 ≤ f ∧ f ≤ hiV k ∧ 0 ≤ t ∧ t ≤ hiV k := by
  have hb := ends_bd k hk
  unfold runO at h
  split at h
  · cases h; omega
  · split at h
    · cases h
    · rename_i f' hf
      have h1 := valO_bd hk hf
      split at h
      · split at h
        · rename_i t' ht
          have h2 := valO_bd hk ht
          cases h; omega
        · cases h
      · split at h
        · cases h
        · cases h; omega

/-- a text with a dash is no value -/
theorem dash_none {k : Nat} {l : List UInt8} (h : (45 : UInt8) ∈ l) : valO k l = none := by
  have h1 : fnd (l.map upB) (nmT k) 0 = none := by
    have hm : (45 : UInt8) ∈ l.map upB := List.mem_map.mpr ⟨45, h, by decide⟩
    have : ∀ (ns : List (List UInt8)) (i : Nat), (∀ n ∈ ns, (45 : UInt8) ∉ n) → fnd (l.map upB) ns i = none := by
      intro ns
      induction ns with
      | nil => intro i _; rfl
      | cons x xs ih =>
        intro i hx
        unfold fnd
        rw [if_neg (fun e : l.map upB = x => hx x List.mem_cons_self (by rw [← e]; exact hm))]
        exact ih _ (fun n hn => hx n (List.mem_cons_of_mem _ hn))
    refine this _ 0 ?_
    unfold nmT
    split <;> decide
  have h2 : numO l = none := by
    unfold numO
    rw [if_neg]
    rintro ⟨_, hg⟩
    unfold good at hg
    simp only [Bool.and_eq_true] at hg
    have := List.all_eq_true.mp hg.2 45 h
    revert this; decide
  unfold valO
  rw [h1, h2]

/- spans -/

theorem spanL_next (a : Int) (s : Nat) (hs : 1 ≤ s) : ∀ (i j : Nat), i % s = 0 → i ≤ j → j < i + s → spanL a s (j + 1) = spanL a s (i + 1) := by
  intro i j hi
  induction j with
  | zero =>
    intro h1 _
    have : i = 0 := by omega
    rw [this]
  | succ j ih =>
    intro h1 h2
    by_cases e : i = j + 1
    · rw [e]
    · rw [← ih (by omega) (by omega)]
      conv => lhs; unfold spanL
      rw [if_neg]
      have hd : (j + 1) % s = (j + 1 - i) % s := by
        obtain ⟨q, hq⟩ : ∃ q, i = s * q := ⟨i / s, by have := Nat.div_add_mod i s; omega⟩
        rw [hq]
        rw [show j + 1 = (j + 1 - s * q) + s * q by omega, Nat.add_mul_mod_self_left]
        congr 1
        omega
      rw [hd, Nat.mod_eq_of_lt (by omega)]
      omega

theorem ofM_snoc (l : List Int) (x : Int) : ofM (l ++ [x]) = ofM l ||| 2 ^ x.toNat := by simp [ofM]

theorem ofM_lt {l : List Int} {b : Nat} (h : ∀ x ∈ l, x.toNat < b) : ofM l < 2 ^ b := by
  have : ∀ (l : List Int) (m : Nat), m < 2 ^ b → (∀ x ∈ l, x.toNat < b) → l.foldl (fun m n => m ||| 2 ^ n.toNat) m < 2 ^ b := by
    intro l
    induction l with
    | nil => intro m hm _; exact hm
    | cons x l ih =>
      intro m hm hx
      exact ih _ (Nat.or_lt_two_pow hm (Nat.pow_lt_pow_right (by omega) (hx x List.mem_cons_self))) fun y hy => hx y (List.mem_cons_of_mem _ hy)
  exact this l 0 (Nat.pow_pos (by omega)) h

theorem spanM_lt {a b s : Nat} : spanM a b s < 2 ^ (max a b + 1) := by
  refine ofM_lt fun x hx => ?_
  obtain ⟨i, h1, h2, h3⟩ := spanL_mem hx
  omega

theorem spanM_u64 {a b s : Nat} (ha : a ≤ 63) (hb : b ≤ 63) : spanM a b s < 18446744073709551616 := by
  have h := spanM_lt (a := a) (b := b) (s := s)
  have : (2 : Nat) ^ (max a b + 1) ≤ 2 ^ 64 := Nat.pow_le_pow_right (by omega) (by omega)
  have e : (2 : Nat) ^ 64 = 18446744073709551616 := by decide
  omega

theorem fix_all : ∀ m : Fin 256, m.val.testBit 7 = true → ofM ([0] ++ bitsL (m.val : Int)) = (m.val ||| 1) ∧ ((m.val ||| 1) &&& 127) + 128 = (m.val ||| 1) := by decide +kernel

theorem fix_lt {k m : Nat} (h : m < 18446744073709551616) : fixM k m < 18446744073709551616 := by
  unfold fixM
  split
  · have := Nat.and_le_right (n := m ||| 1) (m := 127); omega
  · exact h

theorem itemO_lt {k : Nat} (hk : k < 5) {l : List UInt8} {m : Nat} (h : itemO k l = some m) : m < 18446744073709551616 := by
  unfold itemO at h
  split at h
  · cases h
  · split at h
    · cases h
    · rename_i f t hr
      have hb := ends_bd k hk
      have hr := runO_bd hk hr
      split at h
      · cases h
        exact fix_lt (spanM_u64 (by omega) (by omega))
      · cases h
end Go.Proofs.YtjdpkihlgpojkaaGreatDoor
