/- Soundness of Ba, first part: values and memory. -/
import Derived.Test.YtbammhmbapeboaaGreatDoorBa
namespace Go.B
open Go
set_option linter.unusedVariables false
set_option linter.unusedSectionVars false
set_option linter.unusedSimpArgs false

/-- where our own blocks lie; memory that nobody writes to -/
structure Env where
  l : List Nat
  M : Nat → Option Obj

def Env.snoc (ρ : Env) (r : Nat) : Env := ⟨ρ.l ++ [r], ρ.M⟩

def Env.take (ρ : Env) (n : Nat) : Env := ⟨ρ.l.take n, ρ.M⟩

def Env.le (a b : Env) : Prop := a.l <+: b.l ∧ ∀ r o, a.M r = some o → b.M r = some o

theorem Env.le_refl (ρ : Env) : ρ.le ρ := ⟨List.prefix_rfl, fun _ _ h => h⟩

theorem Env.le_trans {a b c : Env} (h : a.le b) (k : b.le c) : a.le c := ⟨h.1.trans k.1, fun r o q => k.2 r o (h.2 r o q)⟩

theorem Env.le_snoc (ρ : Env) (r : Nat) : ρ.le (ρ.snoc r) := ⟨List.prefix_append _ _, fun _ _ h => h⟩

/-- plain data in memory -/
def Deep (M : Nat → Option Obj) : (t : Ty) → t.den → List Value → Prop
  | .int k, n, us => us = [.int k n]
  | .bool, b, us => us = [.bool b]
  | .str, s, us => us = [.string s]
  | .sl t, l, us => ∃ a c, us = [.slice a l.length c] ∧ l.length ≤ c ∧ (l = [] ∨ ∃ r o cs T fr, a = some ⟨r, o, none⟩ ∧ M r = some (.cells cs T fr) ∧ ∀ i (h : i < l.length), Deep M t l[i] ((cs.toList.drop (o + i * t.size)).take t.size))
  | .pr a b, x, us => ∃ u v, us = u ++ v ∧ Deep M a x.1 u ∧ Deep M b x.2 v

/-- the elements of a row -/
def Elems (M : Nat → Option Obj) (t : Ty) (l : List t.den) (us : List Value) (o : Nat) : Prop := ∀ i (h : i < l.length), Deep M t l[i] ((us.drop (o + i * t.size)).take t.size)

def Back (M : Nat → Option Obj) (t : Ty) (l : List t.den) (a : Option Addr) : Prop := l = [] ∨ ∃ r o cs T fr, a = some ⟨r, o, none⟩ ∧ M r = some (.cells cs T fr) ∧ Elems M t l cs.toList o

theorem Deep_sl {M : Nat → Option Obj} {t : Ty} {l : List t.den} {us : List Value} : Deep M (.sl t) l us ↔ ∃ a c, us = [.slice a l.length c] ∧ l.length ≤ c ∧ Back M t l a := Iff.rfl

/-- as far as rows and variables go -/
def leM (M M' : Nat → Option Obj) : Prop := ∀ r us T fr, M r = some (.cells us T fr) → M' r = some (.cells us T fr)

theorem Deep_monoC {M M' : Nat → Option Obj} (h : leM M M') : ∀ {t : Ty} {x : t.den} {us : List Value}, Deep M t x us → Deep M' t x us
  | .int _, _, _, d => d
  | .bool, _, _, d => d
  | .str, _, _, d => d
  | .sl t, l, us, d => by
    obtain ⟨a, c, h1, h2, h3⟩ := d
    refine ⟨a, c, h1, h2, ?_⟩
    rcases h3 with h3 | ⟨r, o, cs, T, fr, e1, e2, e3⟩
    · exact .inl h3
    · exact .inr ⟨r, o, cs, T, fr, e1, h _ _ _ _ e2, fun i hi => Deep_monoC h (e3 i hi)⟩
  | .pr a b, x, us, d => by
    obtain ⟨u, v, h1, h2, h3⟩ := d
    exact ⟨u, v, h1, Deep_monoC h h2, Deep_monoC h h3⟩

theorem Elems_monoC {M M' : Nat → Option Obj} (h : leM M M') {t : Ty} {l : List t.den} {us : List Value} {o : Nat} (d : Elems M t l us o) : Elems M' t l us o := fun i hi => Deep_monoC h (d i hi)

theorem Back_monoC {M M' : Nat → Option Obj} (h : leM M M') {t : Ty} {l : List t.den} {a : Option Addr} (d : Back M t l a) : Back M' t l a := by
  rcases d with d | ⟨r, o, cs, T, fr, e1, e2, e3⟩
  · exact .inl d
  · exact .inr ⟨r, o, cs, T, fr, e1, h _ _ _ _ e2, Elems_monoC h e3⟩

theorem leM_of {M M' : Nat → Option Obj} (h : ∀ r o, M r = some o → M' r = some o) : leM M M' := fun r us T fr e => h _ _ e

theorem Deep_mono {M M' : Nat → Option Obj} (h : ∀ r o, M r = some o → M' r = some o) {t : Ty} {x : t.den} {us : List Value} (d : Deep M t x us) : Deep M' t x us := Deep_monoC (leM_of h) d

theorem Elems_mono {M M' : Nat → Option Obj} (h : ∀ r o, M r = some o → M' r = some o) {t : Ty} {l : List t.den} {us : List Value} {o : Nat} (d : Elems M t l us o) : Elems M' t l us o := Elems_monoC (leM_of h) d

theorem Back_mono {M M' : Nat → Option Obj} (h : ∀ r o, M r = some o → M' r = some o) {t : Ty} {l : List t.den} {a : Option Addr} (d : Back M t l a) : Back M' t l a := Back_monoC (leM_of h) d

theorem Deep_len {M : Nat → Option Obj} : ∀ {t : Ty} {x : t.den} {us : List Value}, Deep M t x us → us.length = t.size
  | .int _, _, _, d => by have d : _ = _ := d; rw [d]; rfl
  | .bool, _, _, d => by have d : _ = _ := d; rw [d]; rfl
  | .str, _, _, d => by have d : _ = _ := d; rw [d]; rfl
  | .sl _, _, _, d => by obtain ⟨a, c, h1, _⟩ := d; rw [h1]; rfl
  | .pr a b, _, _, d => by
    obtain ⟨u, v, rfl, h2, h3⟩ := d
    rw [List.length_append, Deep_len h2, Deep_len h3]; rfl

theorem Ty.size_pos : ∀ t : Ty, 0 < t.size
  | .int _ => Nat.one_pos
  | .bool => Nat.one_pos
  | .str => Nat.one_pos
  | .sl _ => Nat.one_pos
  | .pr a b => Nat.lt_of_lt_of_le a.size_pos (Nat.le_add_right _ _)

theorem Elems_nil {M : Nat → Option Obj} {t : Ty} {us : List Value} {o : Nat} : Elems M t [] us o := fun i h => by cases h

mutual

/-- the value u is one that v tells of; ρ: where our own blocks lie -/
def D (ρ : Env) : V → Value → Prop
  | .any, _ => True
  | .bool b, u => u = .bool b
  | .int k n, u => u = .int k n
  | .str s, u => u = .string s
  | .ptr k o, u => ∃ r, ρ.l[k]? = some r ∧ u = .pointer (some ⟨r, o, none⟩)
  | .gp g o, u => u = .pointer (some ⟨g, o, none⟩)
  | .slc k o n c, u => ∃ r, ρ.l[k]? = some r ∧ u = .slice (some ⟨r, o, none⟩) n c ∧ n ≤ c
  | .fn f a b, u => ∃ as bs, u = .func (.func f) as bs ∧ Ds ρ a as.toList ∧ Ds ρ b bs.toList
  | .yld k, u => ∃ r, ρ.l[k]? = some r ∧ u = .func (.yield r) #[] #[]
  | .agg cs, u => ∃ us : Array Value, u = .agg us ∧ Ds ρ cs us.toList
  | .tup cs, u => ∃ us : Array Value, u = .tuple us ∧ Ds ρ cs us.toList
  | .old v, u => u = v
  | .row k z n c, u => (n = 0 ∧ c = 0 ∧ ∃ a, u = .slice a 0 0) ∨ ((0 < c ∧ n ≤ c) ∧ ∃ r, ρ.l[k]? = some r ∧ u = .slice (some ⟨r, 0, none⟩) n c)
  | .rs k z o n c, u => (n = 0 ∧ c = 0 ∧ ∃ a, u = .slice a 0 0) ∨ (∃ r, ρ.l[k]? = some r ∧ u = .slice (some ⟨r, o * z, none⟩) n c ∧ n ≤ c)
  | .rp k z i f, u => ∃ r, ρ.l[k]? = some r ∧ u = .pointer (some ⟨r, i * z + f, none⟩)
  | .sl t l c, u => ∃ a cp, u = .slice a l.length cp ∧ l.length ≤ cp ∧ (∀ n, c = some n → cp = n) ∧ Back ρ.M t l a
  | .sp t x f, u => ∃ r o cs T fr, u = .pointer (some ⟨r, o + f, none⟩) ∧ ρ.M r = some (.cells cs T fr) ∧ Deep ρ.M t x ((cs.toList.drop o).take t.size)
  | .nw _ _ _, _ => False
  | .mp k, u => ∃ r, ρ.l[k]? = some r ∧ u = .map (some r)

def Ds (ρ : Env) : List V → List Value → Prop
  | [], us => us = []
  | v :: vs, us => ∃ u us', us = u :: us' ∧ D ρ v u ∧ Ds ρ vs us'
end

theorem D_any {ρ : Env} {u : Value} : D ρ .any u := by simp [D]

theorem D_lift {ρ : Env} (u : Value) : D ρ (lift u) u := by cases u <;> simp [lift, D]

theorem Ds_cons {ρ : Env} {v : V} {vs : List V} {us : List Value} : Ds ρ (v :: vs) us ↔ ∃ u us', us = u :: us' ∧ D ρ v u ∧ Ds ρ vs us' := by
  conv => lhs; unfold Ds

theorem Ds_nil {ρ : Env} {us : List Value} : Ds ρ [] us ↔ us = [] := by conv => lhs; unfold Ds

theorem Ds_len {ρ : Env} : ∀ {vs : List V} {us : List Value}, Ds ρ vs us → us.length = vs.length
  | [], us, h => by rw [Ds_nil] at h; subst h; rfl
  | v :: vs, us, h => by rw [Ds_cons] at h; obtain ⟨u, us', rfl, _, h⟩ := h; simp [Ds_len h]

theorem Ds_iff {ρ : Env} : ∀ {vs : List V} {us : List Value}, Ds ρ vs us ↔ us.length = vs.length ∧ ∀ (i : Nat) v u, vs[i]? = some v → us[i]? = some u → D ρ v u
  | [], us => by
    rw [Ds_nil]
    constructor
    · rintro rfl; simp
    · rintro ⟨h, _⟩; simpa using h
  | v :: vs, us => by
    rw [Ds_cons]
    constructor
    · rintro ⟨u, us', rfl, h1, h2⟩
      obtain ⟨h3, h4⟩ := Ds_iff.mp h2
      refine ⟨by simp [h3], fun i v' u' hv hu => ?_⟩
      cases i with
      | zero => simp at hv hu; subst hv; subst hu; exact h1
      | succ i => exact h4 i v' u' (by simpa using hv) (by simpa using hu)
    · rintro ⟨h1, h2⟩
      cases us with
      | nil => simp at h1
      | cons u us =>
        refine ⟨u, us, rfl, h2 0 v u rfl rfl, Ds_iff.mpr ⟨by simpa using h1, fun i v' u' hv hu => h2 (i + 1) v' u' (by simpa using hv) (by simpa using hu)⟩⟩

theorem Ds_get {ρ : Env} {vs : List V} {us : List Value} (h : Ds ρ vs us) {i : Nat} {v : V} (hv : vs[i]? = some v) : ∃ u, us[i]? = some u ∧ D ρ v u := by
  obtain ⟨h1, h2⟩ := Ds_iff.mp h
  have hi : i < us.length := by rw [h1]; exact (List.getElem?_eq_some_iff.mp hv).1
  exact ⟨us[i], List.getElem?_eq_getElem hi, h2 i v _ hv (List.getElem?_eq_getElem hi)⟩

theorem Ds_append {ρ : Env} {a b : List V} {as bs : List Value} (h : Ds ρ a as) (k : Ds ρ b bs) : Ds ρ (a ++ b) (as ++ bs) := by
  induction a generalizing as with
  | nil => rw [Ds_nil] at h; subst h; simpa using k
  | cons v a ih =>
    rw [Ds_cons] at h
    obtain ⟨u, us', rfl, h1, h2⟩ := h
    rw [List.cons_append, List.cons_append, Ds_cons]
    exact ⟨u, us' ++ bs, rfl, h1, ih h2⟩

theorem Ds_drop {ρ : Env} {vs : List V} {us : List Value} (h : Ds ρ vs us) (n : Nat) : Ds ρ (vs.drop n) (us.drop n) := by
  obtain ⟨h1, h2⟩ := Ds_iff.mp h
  refine Ds_iff.mpr ⟨by simp [h1], fun i v u hv hu => ?_⟩
  rw [List.getElem?_drop] at hv hu
  exact h2 _ _ _ hv hu

theorem Ds_take {ρ : Env} {vs : List V} {us : List Value} (h : Ds ρ vs us) (n : Nat) : Ds ρ (vs.take n) (us.take n) := by
  obtain ⟨h1, h2⟩ := Ds_iff.mp h
  refine Ds_iff.mpr ⟨by simp [h1], fun i v u hv hu => ?_⟩
  rw [List.getElem?_take] at hv hu
  split at hv
  · rename_i hi; rw [if_pos hi] at hu; exact h2 _ _ _ hv hu
  · cases hv

theorem Ds_set {ρ : Env} {vs : List V} {us : List Value} (h : Ds ρ vs us) (n : Nat) {v : V} {u : Value} (k : D ρ v u) : Ds ρ (vs.set n v) (us.set n u) := by
  obtain ⟨h1, h2⟩ := Ds_iff.mp h
  refine Ds_iff.mpr ⟨by simp [h1], fun i v' u' hv hu => ?_⟩
  rw [List.getElem?_set] at hv hu
  split at hv
  · rename_i hi
    subst hi
    rw [if_pos rfl] at hu
    split at hv
    · rename_i hl
      rw [if_pos (by omega)] at hu
      cases hv; cases hu; exact k
    · cases hv
  · rename_i hi
    rw [if_neg hi] at hu
    exact h2 _ _ _ hv hu

theorem Ds_map {ρ : Env} {α : Type} (f : α → V) (g : α → Value) : ∀ l : List α, (∀ x ∈ l, D ρ (f x) (g x)) → Ds ρ (l.map f) (l.map g)
  | [], _ => by simp [Ds]
  | x :: l, h => by
    rw [List.map_cons, List.map_cons, Ds_cons]
    exact ⟨_, _, rfl, h x (by simp), Ds_map f g l (fun y hy => h y (by simp [hy]))⟩

theorem pre_get {ρ ρ' : Env} (h : ρ.le ρ') {k r : Nat} (q : ρ.l[k]? = some r) : ρ'.l[k]? = some r := by
  obtain ⟨⟨t, ht⟩, _⟩ := h
  rw [← ht, List.getElem?_append_left (List.getElem?_eq_some_iff.mp q).1]; exact q

theorem beq_ne {m n : Nat} (h : m ≠ n) : Nat.beq m n = false := by
  cases e : Nat.beq m n
  · rfl
  · exact absurd (Nat.eq_of_beq_eq_true e) h

def Env.leC (a b : Env) : Prop := a.l <+: b.l ∧ leM a.M b.M

theorem Env.le.toC {a b : Env} (h : a.le b) : a.leC b := ⟨h.1, leM_of h.2⟩

theorem pre_getC {ρ ρ' : Env} (h : ρ.leC ρ') {k r : Nat} (h1 : ρ.l[k]? = some r) : ρ'.l[k]? = some r := by
  obtain ⟨⟨t, ht⟩, _⟩ := h
  rw [← ht, List.getElem?_append_left (List.getElem?_eq_some_iff.mp h1).1]
  exact h1
mutual

theorem D_monoC {ρ ρ' : Env} (h : ρ.leC ρ') : ∀ {v : V} {u : Value}, D ρ v u → D ρ' v u
  | .any, u, _ => D_any
  | .bool _, u, k => by simpa [D] using k
  | .int _ _, u, k => by simpa [D] using k
  | .str _, u, k => by simpa [D] using k
  | .ptr k o, u, q => by
    simp only [D] at q ⊢
    obtain ⟨r, h1, h2⟩ := q
    exact ⟨r, pre_getC h h1, h2⟩
  | .gp _ _, u, k => by simpa [D] using k
  | .slc k o n c, u, q => by
    simp only [D] at q ⊢
    obtain ⟨r, h1, h2⟩ := q
    exact ⟨r, pre_getC h h1, h2⟩
  | .fn f a b, u, q => by
    simp only [D] at q ⊢
    obtain ⟨as, bs, h1, h2, h3⟩ := q
    exact ⟨as, bs, h1, Ds_monoC h h2, Ds_monoC h h3⟩
  | .yld k, u, q => by
    simp only [D] at q ⊢
    obtain ⟨r, h1, h2⟩ := q
    exact ⟨r, pre_getC h h1, h2⟩
  | .agg cs, u, q => by
    simp only [D] at q ⊢
    obtain ⟨us, h1, h2⟩ := q
    exact ⟨us, h1, Ds_monoC h h2⟩
  | .tup cs, u, q => by
    simp only [D] at q ⊢
    obtain ⟨us, h1, h2⟩ := q
    exact ⟨us, h1, Ds_monoC h h2⟩
  | .old _, u, k => by simpa [D] using k
  | .row _ _ _ _, u, q => by
    simp only [D] at q ⊢
    rcases q with q | ⟨h0, r, h1, h2⟩
    · exact .inl q
    · exact .inr ⟨h0, r, pre_getC h h1, h2⟩
  | .rs _ _ _ _ _, u, q => by
    simp only [D] at q ⊢
    rcases q with q | ⟨r, h1, h2⟩
    · exact .inl q
    · exact .inr ⟨r, pre_getC h h1, h2⟩
  | .rp _ _ _ _, u, q => by
    simp only [D] at q ⊢
    obtain ⟨r, h1, h2⟩ := q
    exact ⟨r, pre_getC h h1, h2⟩
  | .sl _ _ _, u, q => by
    simp only [D] at q ⊢
    obtain ⟨a, cp, h1, h2, h3, h4⟩ := q
    exact ⟨a, cp, h1, h2, h3, Back_monoC h.2 h4⟩
  | .sp _ _ _, u, q => by
    simp only [D] at q ⊢
    obtain ⟨r, o, cs, T, fr, h1, h2, h3⟩ := q
    exact ⟨r, o, cs, T, fr, h1, h.2 _ _ _ _ h2, Deep_monoC h.2 h3⟩
  | .nw _ _ _, u, q => by simp only [D] at q
  | .mp _, u, q => by
    simp only [D] at q ⊢
    obtain ⟨r, h1, h2⟩ := q
    exact ⟨r, pre_getC h h1, h2⟩

theorem Ds_monoC {ρ ρ' : Env} (h : ρ.leC ρ') : ∀ {vs : List V} {us : List Value}, Ds ρ vs us → Ds ρ' vs us
  | [], us, k => by simpa [Ds] using k
  | v :: vs, us, k => by
    simp only [Ds] at k ⊢
    obtain ⟨u, us', h1, h2, h3⟩ := k
    exact ⟨u, us', h1, D_monoC h h2, Ds_monoC h h3⟩
end

theorem D_mono {ρ ρ' : Env} (h : ρ.le ρ') {v : V} {u : Value} (d : D ρ v u) : D ρ' v u := D_monoC h.toC d

theorem Ds_mono {ρ ρ' : Env} (h : ρ.le ρ') {vs : List V} {us : List Value} (d : Ds ρ vs us) : Ds ρ' vs us := Ds_monoC h.toC d

theorem take_get {ρ : Env} {n k r : Nat} (h : ρ.l[k]? = some r) (hk : k < n) : (ρ.take n).l[k]? = some r := by
  show (ρ.l.take n)[k]? = _
  rw [List.getElem?_take, if_pos hk]; exact h
mutual

theorem D_take {ρ : Env} {n : Nat} : ∀ {v : V} {u : Value}, inN n v = true → D ρ v u → D (ρ.take n) v u
  | .any, u, _, _ => D_any
  | .bool _, u, _, k => by simpa [D] using k
  | .int _ _, u, _, k => by simpa [D] using k
  | .str _, u, _, k => by simpa [D] using k
  | .ptr k o, u, i, q => by
    simp only [D] at q ⊢
    obtain ⟨r, h1, h2⟩ := q
    exact ⟨r, take_get h1 (by simpa [inN, Nat.blt_eq] using i), h2⟩
  | .gp _ _, u, _, k => by simpa [D] using k
  | .slc k o n c, u, i, q => by
    simp only [D] at q ⊢
    obtain ⟨r, h1, h2⟩ := q
    exact ⟨r, take_get h1 (by simpa [inN, Nat.blt_eq] using i), h2⟩
  | .fn f a b, u, i, q => by
    simp only [D] at q ⊢
    simp only [inN, Bool.and_eq_true] at i
    obtain ⟨as, bs, h1, h2, h3⟩ := q
    exact ⟨as, bs, h1, Ds_takeN i.1 h2, Ds_takeN i.2 h3⟩
  | .yld k, u, i, q => by
    simp only [D] at q ⊢
    obtain ⟨r, h1, h2⟩ := q
    exact ⟨r, take_get h1 (by simpa [inN, Nat.blt_eq] using i), h2⟩
  | .agg cs, u, i, q => by
    simp only [D] at q ⊢
    obtain ⟨us, h1, h2⟩ := q
    exact ⟨us, h1, Ds_takeN (by simpa [inN] using i) h2⟩
  | .tup cs, u, i, q => by
    simp only [D] at q ⊢
    obtain ⟨us, h1, h2⟩ := q
    exact ⟨us, h1, Ds_takeN (by simpa [inN] using i) h2⟩
  | .old _, u, _, k => by simpa [D] using k
  | .row _ _ _ _, u, i, q => by
    simp only [D] at q ⊢
    rcases q with q | ⟨h0, r, h1, h2⟩
    · exact .inl q
    · exact .inr ⟨h0, r, take_get h1 (by simpa [inN, Nat.blt_eq] using i), h2⟩
  | .rs _ _ _ _ _, u, i, q => by
    simp only [D] at q ⊢
    rcases q with q | ⟨r, h1, h2⟩
    · exact .inl q
    · exact .inr ⟨r, take_get h1 (by simpa [inN, Nat.blt_eq] using i), h2⟩
  | .rp _ _ _ _, u, i, q => by
    simp only [D] at q ⊢
    obtain ⟨r, h1, h2⟩ := q
    exact ⟨r, take_get h1 (by simpa [inN, Nat.blt_eq] using i), h2⟩
  | .sl _ _ _, u, _, q => by simpa only [D, Env.take] using q
  | .sp _ _ _, u, _, q => by simpa only [D, Env.take] using q
  | .nw _ _ _, u, _, q => by simp only [D] at q
  | .mp _, u, i, q => by
    simp only [D] at q ⊢
    obtain ⟨r, h1, h2⟩ := q
    exact ⟨r, take_get h1 (by simpa [inN, Nat.blt_eq] using i), h2⟩

theorem Ds_takeN {ρ : Env} {n : Nat} : ∀ {vs : List V} {us : List Value}, inNs n vs = true → Ds ρ vs us → Ds (ρ.take n) vs us
  | [], us, _, k => by simpa [Ds] using k
  | v :: vs, us, i, k => by
    simp only [Ds] at k ⊢
    simp only [inNs, Bool.and_eq_true] at i
    obtain ⟨u, us', h1, h2, h3⟩ := k
    exact ⟨u, us', h1, D_take i.1 h2, Ds_takeN i.2 h3⟩
end

/- temporaries -/

def TR (ρ : Env) (ts : List (Nat × V)) (tmps : Array Value) : Prop := ∀ i, D ρ (find i ts) (tmps.getD i undef)

theorem TR.monoC {ρ ρ' : Env} {ts : List (Nat × V)} {tmps : Array Value} (h : TR ρ ts tmps) (k : ρ.leC ρ') : TR ρ' ts tmps := fun i => D_monoC k (h i)

theorem TR.mono {ρ ρ' : Env} {ts : List (Nat × V)} {tmps : Array Value} (h : TR ρ ts tmps) (k : ρ.le ρ') : TR ρ' ts tmps := fun i => D_mono k (h i)

theorem find_ins (n i : Nat) (v : V) (ts : List (Nat × V)) : find i (ins n v ts) = if n = i then v else find i ts := by
  unfold ins
  by_cases h : n = i
  · subst h; simp [find]
  · have : Nat.beq n i = false := beq_ne h
    simp [find, this, h]

theorem find_insS (n i : Nat) (v : V) : ∀ ts, find i (insS n v ts) = if n = i then v else find i ts
  | [] => find_ins n i v []
  | (m, u) :: l => by
    unfold insS
    by_cases h : m = n
    · subst h
      simp only [Nat.beq_refl, find]
      by_cases h2 : m = i
      · subst h2; simp
      · have : Nat.beq m i = false := beq_ne h2
        simp [this, h2]
    · have hb : Nat.beq m n = false := beq_ne h
      simp only [hb]
      cases Nat.ble n m with
      | true => exact find_ins n i v ((m, u) :: l)
      | false =>
        simp only [find, find_insS n i v l]
        by_cases h2 : m = i
        · subst h2; simp [Ne.symm h]
        · have : Nat.beq m i = false := beq_ne h2
          simp [this]

theorem find_sortT (i : Nat) : ∀ l : List (Nat × V), find i (sortT l) = find i l
  | [] => rfl
  | (n, v) :: l => by
    show find i (insS n v (sortT l)) = find i ((n, v) :: l)
    rw [find_insS, find_sortT i l]
    by_cases h : n = i
    · subst h; simp [find]
    · simp [find, beq_ne h, h]

theorem TR.ins {ρ : Env} {ts : List (Nat × V)} {tmps : Array Value} (h : TR ρ ts tmps) {d : Nat} (hd : d < tmps.size) {v : V} {u : Value} (k : D ρ v u) : TR ρ (ins d v ts) (tmps.setIfInBounds d u) := fun i => by
  rw [find_ins]
  by_cases e : d = i
  · subst e
    rw [if_pos rfl]
    simpa [Array.getD_eq_getD_getElem?, hd] using k
  · rw [if_neg e]
    have := h i
    simpa [Array.getD_eq_getD_getElem?, Array.getElem?_setIfInBounds_ne e] using this

theorem TR.know {ρ : Env} {ts : List (Nat × V)} {tmps : Array Value} (h : TR ρ ts tmps) {d : Nat} {v : V} (k : D ρ v (tmps.getD d undef)) : TR ρ (B.ins d v ts) tmps := fun i => by
  rw [find_ins]
  by_cases e : d = i
  · subst e; rw [if_pos rfl]; exact k
  · rw [if_neg e]; exact h i

theorem find_filter (ok : Nat → Bool) (i : Nat) : ∀ ts, find i (ts.filter fun p => ok p.1) = find i ts ∨ find i (ts.filter fun p => ok p.1) = .any
  | [] => .inl rfl
  | (m, v) :: l => by
    have ih := find_filter ok i l
    rw [List.filter_cons]
    split
    · simp only [find]
      cases Nat.beq m i
      · exact ih
      · exact .inl rfl
    · rename_i hm
      simp only [find]
      cases e : Nat.beq m i
      · exact ih
      · refine .inr ?_
        have e' : m = i := Nat.eq_of_beq_eq_true e
        subst e'
        have : ∀ l : List (Nat × V), find m (l.filter fun p => ok p.1) = .any := by
          intro l
          induction l with
          | nil => rfl
          | cons p l ih2 =>
            obtain ⟨q, v'⟩ := p
            rw [List.filter_cons]
            split
            · rename_i hq
              simp only [find]
              cases e2 : Nat.beq q m
              · exact ih2
              · rw [Nat.eq_of_beq_eq_true e2] at hq; exact absurd hq hm
            · exact ih2
        exact this l

theorem TR.filter {ρ : Env} {ts : List (Nat × V)} {tmps : Array Value} (h : TR ρ ts tmps) (ok : Nat → Bool) : TR ρ (ts.filter fun p => ok p.1) tmps := fun i => by
  rcases find_filter ok i ts with e | e
  · rw [e]; exact h i
  · rw [e]; exact D_any

theorem TR.sorted {ρ : Env} {ts : List (Nat × V)} {tmps : Array Value} (h : TR ρ ts tmps) : TR ρ (sortT ts) tmps := fun i => by
  rw [find_sortT]; exact h i

theorem weakV_sound {ρ : Env} {v v' : V} {u : Value} (h : weakV v v') (d : D ρ v u) : D ρ v' u := by
  rcases h with rfl | rfl | ⟨rfl, ⟨k, z, rfl⟩ | ⟨t, rfl⟩⟩ | ⟨k, z, n, c, rfl, rfl⟩ | ⟨t, l, c, rfl, rfl⟩
  · exact d
  · exact D_any
  · simp only [D] at d ⊢
    exact .inl ⟨by simp, by simp, none, d⟩
  · simp only [D] at d ⊢
    exact ⟨none, 0, d, Nat.zero_le _, fun n h => (by cases h), .inl rfl⟩
  · simp only [D] at d ⊢
    rcases d with ⟨rfl, rfl, a, h⟩ | ⟨hc, r, h1, h2⟩
    · exact .inl ⟨by simp, by simp, a, h⟩
    · exact .inr ⟨r, h1, by simpa using h2, hc.2⟩
  · simp only [D] at d ⊢
    obtain ⟨a, cp, h1, h2, _, h4⟩ := d
    exact ⟨a, cp, h1, h2, fun n h => (by cases h), h4⟩

theorem weakVs_sound {ρ : Env} : ∀ {vs vs' : List V} {us : List Value}, weakVs vs vs' → Ds ρ vs us → Ds ρ vs' us
  | [], [], _, _, d => d
  | [], _ :: _, _, h, _ => h.elim
  | _ :: _, [], _, h, _ => h.elim
  | v :: vs, v' :: vs', us, h, d => by
    rw [Ds_cons] at d ⊢
    obtain ⟨u, us', rfl, h1, h2⟩ := d
    exact ⟨u, us', rfl, weakV_sound h.1 h1, weakVs_sound h.2 h2⟩

theorem find_weakT {ts : List (Nat × V)} (i : Nat) : ∀ {l : List (Nat × V)}, weakT ts l → find i l = .any ∨ weakV (find i ts) (find i l)
  | [], _ => .inl rfl
  | (n, v) :: l, h => by
    simp only [find]
    cases e : Nat.beq n i
    · exact find_weakT i h.2
    · have : n = i := Nat.eq_of_beq_eq_true e
      subst this
      exact .inr h.1

theorem TR.weak {ρ : Env} {ts l : List (Nat × V)} {tmps : Array Value} (h : TR ρ ts tmps) (k : weakT ts l) : TR ρ l tmps := fun i => by
  rcases find_weakT i k with e | e
  · rw [e]; exact D_any
  · exact weakV_sound e (h i)

theorem find_inNT {n : Nat} (i : Nat) : ∀ {l : List (Nat × V)}, inNT n l = true → inN n (find i l) = true
  | [], _ => by simp [find, inN]
  | (m, v) :: l, h => by
    simp only [inNT, Bool.and_eq_true] at h
    simp only [find]
    cases Nat.beq m i
    · exact find_inNT i h.2
    · exact h.1

theorem TR.take {ρ : Env} {ts : List (Nat × V)} {tmps : Array Value} (h : TR ρ ts tmps) {n : Nat} (k : inNT n ts = true) : TR (ρ.take n) ts tmps := fun i => D_take (find_inNT i k) (h i)

/- deferred marks: W: how much memory there was when the function began, H: there is now -/

def MR (W H : Nat) (ρ : Env) : List Nat → List Deferred → Prop
  | ms, [] => ms = []
  | ms, d :: ds => ∃ r, d = { target := .collected r, args := #[] } ∧ W ≤ r ∧ r < H ∧ (∀ d' ∈ ds, d' ≠ d) ∧
      ((∃ m ms', ms = m :: ms' ∧ ρ.l[m]? = some r ∧ MR W H ρ ms' ds) ∨ (ρ.M r = some (.deferred (some [])) ∧ MR W H ρ ms ds))

theorem MR.mono {W H H' : Nat} {ρ ρ' : Env} (k : ρ.le ρ') (hH : H ≤ H') : ∀ {ms : List Nat} {ds : List Deferred}, MR W H ρ ms ds → MR W H' ρ' ms ds
  | ms, [], h => h
  | ms, d :: ds, h => by
    obtain ⟨r, h1, h2, h3, h4, h5⟩ := h
    refine ⟨r, h1, h2, Nat.lt_of_lt_of_le h3 hH, h4, ?_⟩
    rcases h5 with ⟨m, ms', e, h6, h7⟩ | ⟨h6, h7⟩
    · exact .inl ⟨m, ms', e, pre_get k h6, h7.mono k hH⟩
    · exact .inr ⟨k.2 _ _ h6, h7.mono k hH⟩

theorem MR.take {W H : Nat} {ρ : Env} {n : Nat} : ∀ {ms : List Nat} {ds : List Deferred}, inNM n ms = true → MR W H ρ ms ds → MR W H (ρ.take n) ms ds
  | ms, [], _, h => h
  | ms, d :: ds, i, h => by
    obtain ⟨r, h1, h2, h3, h4, h5⟩ := h
    refine ⟨r, h1, h2, h3, h4, ?_⟩
    rcases h5 with ⟨m, ms', rfl, h6, h7⟩ | ⟨h6, h7⟩
    · simp only [inNM, Bool.and_eq_true] at i
      exact .inl ⟨m, ms', rfl, take_get h6 (by simpa [Nat.blt_eq] using i.1), h7.take i.2⟩
    · exact .inr ⟨h6, h7.take i⟩

theorem MR.lt {W H : Nat} {ρ : Env} : ∀ {ms : List Nat} {ds : List Deferred}, MR W H ρ ms ds → ∀ d ∈ ds, ∃ r, d = { target := .collected r, args := #[] } ∧ r < H
  | ms, [], _, d, hd => by cases hd
  | ms, d :: ds, h, x, hx => by
    obtain ⟨r, h1, h2, h3, h4, h5⟩ := h
    rcases List.mem_cons.mp hx with rfl | hx
    · exact ⟨r, h1, h3⟩
    · rcases h5 with ⟨m, ms', rfl, h6, h7⟩ | ⟨h6, h7⟩
      · exact h7.lt x hx
      · exact h7.lt x hx

/-- a mark is forgotten: what it stands for stays as it is -/
theorem MR.forget {W H : Nat} {ρ ρ' : Env} (k : ρ.le ρ') {x r : Nat} (hx : ρ.l[x]? = some r) (hM : ρ'.M r = some (.deferred (some []))) : ∀ {ms : List Nat} {ds : List Deferred}, MR W H ρ ms ds → MR W H ρ' (ms.filter fun m => !Nat.beq m x) ds
  | ms, [], h => by have : ms = [] := h; subst this; rfl
  | ms, d :: ds, h => by
    obtain ⟨q, h1, h2, h3, h4, h5⟩ := h
    refine ⟨q, h1, h2, h3, h4, ?_⟩
    rcases h5 with ⟨m, ms', rfl, h6, h7⟩ | ⟨h6, h7⟩
    · by_cases e : m = x
      · subst e
        rw [hx] at h6; cases h6
        refine .inr ⟨hM, ?_⟩
        have := h7.forget k hx hM
        simpa [List.filter_cons, Nat.beq_refl] using this
      · refine .inl ⟨m, ms'.filter fun m => !Nat.beq m x, ?_, pre_get k h6, h7.forget k hx hM⟩
        simp [List.filter_cons, beq_ne e]
    · exact .inr ⟨k.2 _ _ h6, h7.forget k hx hM⟩

/-- what M says of a place that nothing of it stands for is not needed -/
theorem MR.drop {W H : Nat} {ρ ρ' : Env} (hl : ρ'.l = ρ.l) {r : Nat} (hM : ∀ x, x ≠ r → ρ'.M x = ρ.M x) : ∀ {ms : List Nat} {ds : List Deferred}, (∀ d ∈ ds, d ≠ { target := .collected r, args := #[] }) → MR W H ρ ms ds → MR W H ρ' ms ds
  | ms, [], _, h => h
  | ms, d :: ds, hd, h => by
    obtain ⟨q, h1, h2, h3, h4, h5⟩ := h
    refine ⟨q, h1, h2, h3, h4, ?_⟩
    have hds : ∀ d ∈ ds, d ≠ { target := .collected r, args := #[] } := fun x hx => hd x (List.mem_cons_of_mem _ hx)
    rcases h5 with ⟨m, ms', rfl, h6, h7⟩ | ⟨h6, h7⟩
    · exact .inl ⟨m, ms', rfl, by rw [hl]; exact h6, h7.drop hl hM hds⟩
    · refine .inr ⟨?_, h7.drop hl hM hds⟩
      rw [hM q ?_]
      · exact h6
      · rintro rfl
        exact hd d (List.mem_cons_self ..) h1

/- a code sets only temporaries that are there -/

def okOps (n : Nat) (ops : List Oper) : Bool := ops.all fun o => match o.dst with | some d => Nat.blt d n | none => true

def okC (n : Nat) : Code → Bool
  | .region _ ops _ => okOps n ops.toList
  | .seq a b => okC n a && okC n b
  | .cond _ a b => okC n a && okC n b
  | .block _ a => okC n a
  | .loop a => okC n a
  | .scope a => okC n a
  | .rangeFunc _ ps a b => (ps.toList.all fun d => Nat.blt d n) && okC n a && okC n b
  | _ => true

/- memory -/

def CF.vals : CF → List Value
  | .int k l => l.map (.int k)
  | .str l => l.map .string
  | .some _ => []

def CF.also (w : World) (g : Nat) : CF → Prop
  | .some k => ∃ n, w.cell? ⟨g, 0, Option.none⟩ = Option.some (.int k n)
  | _ => True

def OR (ρ : Env) (o : Obj) : Blk → Prop
  | .cells vs => ∃ (us : Array Value) (T : TypeId), o = .cells us T (0, 0) ∧ Ds ρ vs us.toList
  | .loop st pend L => ∃ R : Loop, o = .loop R ∧ R.state = st ∧ R.pending = pend ∧ R.params.toList = L.ps ∧ R.assign = L.assign ∧ R.body = L.body ∧ TR ρ L.ts R.tmps ∧ ρ.l[L.d]? = some R.defers ∧
      okC R.tmps.size L.assign = true ∧ okC R.tmps.size L.body = true ∧ (L.ps.all fun d => Nat.blt d R.tmps.size) = true
  | .dfr => o = .deferred (some [])
  | .iter s pos => o = .stringIter s pos
  | .map kd es => ∃ (ms : Array MapEntry) (clock : Nat), o = .map ms clock ∧ ms.toList.map (·.key) = es.map (fun e => Value.int kd e.1) ∧ Ds ρ (es.map (·.2)) (ms.toList.map (·.val))
  | .dead => True
  | .row t l T c => l.length ≤ c ∧ c ≤ 9223372036854775807 ∧ ∃ us : Array Value, o = .cells us T (0, 0) ∧ c * t.size ≤ us.size ∧ Elems ρ.M t l us.toList 0
  | .ice t l T c => l.length ≤ c ∧ c ≤ 9223372036854775807 ∧ ∃ us : Array Value, o = .cells us T (0, 0) ∧ c * t.size ≤ us.size ∧ Elems ρ.M t l us.toList 0

/-- nothing is known of it -/
def free : Blk → Prop
  | .dead => True
  | .row _ l _ c => l = [] ∧ c = 0
  | .ice _ l _ c => l = [] ∧ c = 0
  | _ => False

def isIce : Blk → Bool
  | .ice _ _ _ _ => true
  | _ => false

theorem OR.monoC {ρ ρ' : Env} {o : Obj} {b : Blk} (h : OR ρ o b) (k : ρ.leC ρ') : OR ρ' o b := by
  cases b with
  | cells vs => obtain ⟨us, T, h1, h2⟩ := h; exact ⟨us, T, h1, Ds_monoC k h2⟩
  | loop st pend L =>
    obtain ⟨R, h1, h2, h3, h4, h5, h6, h7, h8, h9⟩ := h
    exact ⟨R, h1, h2, h3, h4, h5, h6, h7.monoC k, pre_getC k h8, h9⟩
  | dfr => exact h
  | iter _ _ => exact h
  | map kd es => obtain ⟨ms, clock, h1, h2, h3⟩ := h; exact ⟨ms, clock, h1, h2, Ds_monoC k h3⟩
  | dead => trivial
  | row _ _ _ _ => obtain ⟨h1, h2, us, h3, h4, h5⟩ := h; exact ⟨h1, h2, us, h3, h4, Elems_monoC k.2 h5⟩
  | ice _ _ _ _ => obtain ⟨h1, h2, us, h3, h4, h5⟩ := h; exact ⟨h1, h2, us, h3, h4, Elems_monoC k.2 h5⟩

theorem OR.mono {ρ ρ' : Env} {o : Obj} {b : Blk} (h : OR ρ o b) (k : ρ.le ρ') : OR ρ' o b := h.monoC k.toC

theorem OR.take {ρ : Env} {o : Obj} {b : Blk} {n : Nat} (h : OR ρ o b) (k : inNB n b = true) : OR (ρ.take n) o b := by
  cases b with
  | cells vs => obtain ⟨us, T, h1, h2⟩ := h; exact ⟨us, T, h1, Ds_takeN (by simpa [inNB] using k) h2⟩
  | loop st pend L =>
    simp only [inNB, Bool.and_eq_true] at k
    obtain ⟨R, h1, h2, h3, h4, h5, h6, h7, h8, h9⟩ := h
    exact ⟨R, h1, h2, h3, h4, h5, h6, h7.take k.1, take_get h8 (by simpa [Nat.blt_eq] using k.2), h9⟩
  | dfr => exact h
  | iter _ _ => exact h
  | map kd es => obtain ⟨ms, clock, h1, h2, h3⟩ := h; exact ⟨ms, clock, h1, h2, Ds_takeN (by simpa only [inNB] using k) h3⟩
  | dead => trivial
  | row _ _ _ _ => exact h
  | ice _ _ _ _ => exact h

/-- a table lies where its variable is -/
def GlAt (w : World) (g : Nat) (cf : CF) : Prop := (g < w.heap.size ∧ cf.also w g) ∧ ∀ i u, cf.vals[i]? = some u → w.cell? ⟨g, i, none⟩ = some u

theorem GlAt.same {w w' : World} {g : Nat} {cf : CF} (h : GlAt w g cf) (e : w'.heap[g]? = w.heap[g]?) : GlAt w' g cf := by
  have hs : g < w'.heap.size := by
    rcases Nat.lt_or_ge g w'.heap.size with k | k
    · exact k
    · rw [Array.getElem?_eq_none k, Array.getElem?_eq_getElem h.1.1] at e; cases e
  have hc : ∀ i, w'.cell? ⟨g, i, none⟩ = w.cell? ⟨g, i, none⟩ := fun i => by
    unfold World.cell?
    simp only [e]
  refine ⟨⟨hs, ?_⟩, fun i u hi => by rw [hc]; exact h.2 i u hi⟩
  have := h.1.2
  cases cf with
  | some k => obtain ⟨n, hn⟩ := this; exact ⟨n, by rw [hc]; exact hn⟩
  | int _ _ => exact True.intro
  | str _ => exact True.intro

structure Rel (gs : List (Nat × CF)) (ρ : Env) (hp : List Blk) (w : World) : Prop where
  len : ρ.l.length = hp.length
  inj : ∀ (i j r : Nat) (bi bj : Blk), hp[i]? = some bi → hp[j]? = some bj → ρ.l[i]? = some r → ρ.l[j]? = some r → i = j ∨ free bi ∨ free bj
  blk : ∀ (k : Nat) (b : Blk) (r : Nat), hp[k]? = some b → ρ.l[k]? = some r → free b ∨ ∃ o, w.heap[r]? = some o ∧ OR ρ o b
  gl : ∀ (g : Nat) (cf : CF), assoc g gs = some cf → (∀ (i : Nat) (b : Blk), hp[i]? = some b → ρ.l[i]? = some g → free b) ∧ GlAt w g cf
  im : ∀ (r : Nat) (o : Obj), ρ.M r = some o → w.heap[r]? = some o ∧ ∀ (i : Nat) (b : Blk), hp[i]? = some b → ρ.l[i]? = some r → free b ∨ isIce b = true
  ic : ∀ (k r : Nat) (b : Blk), hp[k]? = some b → ρ.l[k]? = some r → isIce b = true → free b ∨ ∃ o, ρ.M r = some o

theorem Rel.get {gs ρ hp} {w : World} (h : Rel gs ρ hp w) {k : Nat} {b : Blk} {r : Nat} (hb : hp[k]? = some b) (hr : ρ.l[k]? = some r) (hf : ¬ free b) : ∃ o, w.heap[r]? = some o ∧ OR ρ o b := by
  rcases h.blk k b r hb hr with h1 | h1
  · exact absurd h1 hf
  · exact h1

theorem some_lt {w : World} {r : Nat} {o : Obj} (h : w.heap[r]? = some o) : r < w.heap.size := (Array.getElem?_eq_some_iff.mp h).1

theorem Rel.noM {gs ρ hp} {w : World} (h : Rel gs ρ hp w) {r : Nat} (hr : w.heap.size ≤ r) : ρ.M r = none := by
  cases e : ρ.M r with
  | none => rfl
  | some o => have := some_lt (h.im r o e).1; omega

theorem Rel.noM' {gs ρ hp} {w : World} (h : Rel gs ρ hp w) {k r : Nat} {b : Blk} (hb : hp[k]? = some b) (hr : ρ.l[k]? = some r) (hf : ¬ free b) (hi : isIce b = false) : ρ.M r = none := by
  cases e : ρ.M r with
  | none => rfl
  | some o =>
    rcases (h.im r o e).2 k b hb hr with q | q
    · exact absurd q hf
    · rw [hi] at q; cases q

/-- what has come of memory -/
structure Gr (ρ : Env) (w : World) (ρ' : Env) (w' : World) : Prop where
  pre : ρ.le ρ'
  new : ∀ r ∈ ρ'.l, r ∈ ρ.l ∨ w.heap.size ≤ r
  newM : ∀ r o, ρ'.M r = some o → ρ.M r = some o ∨ r ∈ ρ.l ∨ w.heap.size ≤ r
  os : w'.os = w.os
  tape : w'.tape = w.tape
  output : w'.output = w.output
  size : w.heap.size ≤ w'.heap.size
  old : ∀ b, b < w.heap.size → b ∉ ρ.l → w'.heap[b]? = w.heap[b]?

theorem Gr.of {ρ : Env} {w w' : World} (os : w'.os = w.os) (tape : w'.tape = w.tape) (output : w'.output = w.output) (size : w.heap.size ≤ w'.heap.size) (old : ∀ b, b < w.heap.size → b ∉ ρ.l → w'.heap[b]? = w.heap[b]?) : Gr ρ w ρ w' :=
  ⟨Env.le_refl _, fun r h => .inl h, fun r o h => .inl h, os, tape, output, size, old⟩

theorem Gr.refl (ρ : Env) (w : World) : Gr ρ w ρ w := .of rfl rfl rfl (Nat.le_refl _) fun _ _ _ => rfl

theorem Gr.trans {ρ ρ1 ρ2 : Env} {w w1 w2 : World} (h : Gr ρ w ρ1 w1) (k : Gr ρ1 w1 ρ2 w2) : Gr ρ w ρ2 w2 := by
  have nw : ∀ r, r ∈ ρ1.l ∨ w1.heap.size ≤ r → r ∈ ρ.l ∨ w.heap.size ≤ r := fun r hr => by
    rcases hr with h1 | h1
    · exact h.new r h1
    · exact .inr (Nat.le_trans h.size h1)
  refine ⟨Env.le_trans h.pre k.pre, fun r hr => nw r (k.new r hr), fun r o hr => ?_, k.os.trans h.os, k.tape.trans h.tape, k.output.trans h.output, Nat.le_trans h.size k.size, fun b hb hn => ?_⟩
  · rcases k.newM r o hr with h1 | h1
    · exact h.newM r o h1
    · exact .inr (nw r h1)
  · have h1 : b ∉ ρ1.l := fun hm => by
      rcases h.new b hm with h2 | h2
      · exact hn h2
      · omega
    rw [k.old b (Nat.lt_of_lt_of_le hb h.size) h1, h.old b hb hn]

theorem Gr.drew {ρ : Env} {w : World} (n : Nat) : Gr ρ w ρ { w with drawn := n } := .of rfl rfl rfl (Nat.le_refl _) fun _ _ _ => rfl

theorem Rel.drew {gs ρ hp} {w : World} (h : Rel gs ρ hp w) (n : Nat) : Rel gs ρ hp { w with drawn := n } := ⟨h.len, h.inj, h.blk, h.gl, h.im, h.ic⟩

/-- only ρ's first blocks are looked at -/
theorem Gr.back {ρ ρ' : Env} {w w' : World} (h : Gr ρ w ρ' w') : Gr ρ w ρ w' := .of h.os h.tape h.output h.size h.old

theorem mem_of_get {ρ : Env} {k r : Nat} (h : ρ.l[k]? = some r) : r ∈ ρ.l := List.mem_of_getElem? h

theorem get_snoc (ρ : Env) (r : Nat) {k x : Nat} (h : (ρ.snoc r).l[k]? = some x) : ρ.l[k]? = some x ∨ (k = ρ.l.length ∧ x = r) := by
  change (ρ.l ++ [r])[k]? = some x at h
  rw [List.getElem?_append] at h
  split at h
  · exact .inl h
  · rename_i hk
    refine .inr ?_
    have : k - ρ.l.length = 0 := by
      rcases Nat.eq_zero_or_pos (k - ρ.l.length) with e | e
      · exact e
      · rw [List.getElem?_eq_none (by simp; omega)] at h; cases h
    rw [this] at h
    simp at h
    exact ⟨by omega, h.symm⟩

theorem snoc_get (ρ : Env) (r : Nat) : (ρ.snoc r).l[ρ.l.length]? = some r := by simp [Env.snoc]

theorem get_len {ρ : Env} {hp : List Blk} (h : ρ.l.length = hp.length) {k r : Nat} (hk : ρ.l[k]? = some r) : ∃ b, hp[k]? = some b := by
  have := (List.getElem?_eq_some_iff.mp hk).1
  exact ⟨hp[k], List.getElem?_eq_getElem (by omega)⟩

theorem get_snoc_blk (hp : List Blk) (b : Blk) {k : Nat} {x : Blk} (h : (hp ++ [b])[k]? = some x) : hp[k]? = some x ∨ (k = hp.length ∧ x = b) := by
  rw [List.getElem?_append] at h
  split at h
  · exact .inl h
  · rename_i hk
    refine .inr ?_
    have : k - hp.length = 0 := by
      rcases Nat.eq_zero_or_pos (k - hp.length) with e | e
      · exact e
      · rw [List.getElem?_eq_none (by simp; omega)] at h; cases h
    rw [this] at h
    simp at h
    exact ⟨by omega, h.symm⟩

/-- one block more: new, or free, or one that is nobody's -/
theorem Rel.adopt {gs ρ hp} {w : World} (h : Rel gs ρ hp w) {r : Nat} (b : Blk) (hi : isIce b = false)
    (hr : free b ∨ ((∀ (i : Nat) (x : Blk), hp[i]? = some x → ρ.l[i]? = some r → free x) ∧ (∀ g p, assoc g gs = some p → g ≠ r) ∧ ρ.M r = none ∧ ∃ o, w.heap[r]? = some o ∧ OR (ρ.snoc r) o b)) :
    Rel gs (ρ.snoc r) (hp ++ [b]) w := by
  have hpre : ρ.le (ρ.snoc r) := Env.le_snoc _ _
  -- both lists grow alike
  have both : ∀ {k : Nat} {x : Blk} {s : Nat}, (hp ++ [b])[k]? = some x → (ρ.snoc r).l[k]? = some s → (hp[k]? = some x ∧ ρ.l[k]? = some s) ∨ (k = hp.length ∧ x = b ∧ s = r) := by
    intro k x s h1 h2
    rcases get_snoc_blk _ _ h1 with a1 | ⟨a1, a1'⟩
    · rcases get_snoc _ _ h2 with a2 | ⟨a2, _⟩
      · exact .inl ⟨a1, a2⟩
      · have := (List.getElem?_eq_some_iff.mp a1).1
        rw [a2, h.len] at this; omega
    · rcases get_snoc _ _ h2 with a2 | ⟨_, a2⟩
      · have := (List.getElem?_eq_some_iff.mp a2).1
        rw [a1, h.len] at this; omega
      · exact .inr ⟨a1, a1', a2⟩
  refine ⟨by simp [Env.snoc, h.len], fun i j s bi bj h1 h2 h3 h4 => ?_, fun k x s h1 h2 => ?_, fun g cf hg' => ?_, fun s o hs => ?_, fun k s x h1 h2 h3 => ?_⟩
  · rcases both h1 h3 with ⟨a1, a2⟩ | ⟨a1, a2, a3⟩
    · rcases both h2 h4 with ⟨c1, c2⟩ | ⟨c1, c2, c3⟩
      · exact h.inj i j s bi bj a1 c1 a2 c2
      · rcases hr with hr | ⟨hr, _⟩
        · exact .inr (.inr (c2 ▸ hr))
        · exact .inr (.inl (hr i bi a1 (c3 ▸ a2)))
    · rcases both h2 h4 with ⟨c1, c2⟩ | ⟨c1, c2, c3⟩
      · rcases hr with hr | ⟨hr, _⟩
        · exact .inr (.inl (a2 ▸ hr))
        · exact .inr (.inr (hr j bj c1 (a3 ▸ c2)))
      · exact .inl (a1.trans c1.symm)
  · rcases both h1 h2 with ⟨a1, a2⟩ | ⟨_, a2, a3⟩
    · rcases h.blk k x s a1 a2 with q | ⟨o, q1, q2⟩
      · exact .inl q
      · exact .inr ⟨o, q1, q2.mono hpre⟩
    · rcases hr with hr | ⟨_, _, _, hr⟩
      · exact .inl (a2 ▸ hr)
      · rw [a2, a3]; exact .inr hr
  · obtain ⟨q1, q2⟩ := h.gl g cf hg'
    refine ⟨fun i x h1 h2 => ?_, q2⟩
    rcases both h1 h2 with ⟨a1, a2⟩ | ⟨_, a2, a3⟩
    · exact q1 i x a1 a2
    · rcases hr with hr | ⟨_, hr, _, _⟩
      · exact a2 ▸ hr
      · exact absurd a3 (hr g _ hg')
  · obtain ⟨q1, q2⟩ := h.im s o hs
    refine ⟨q1, fun i x h1 h2 => ?_⟩
    rcases both h1 h2 with ⟨a1, a2⟩ | ⟨_, a2, a3⟩
    · exact q2 i x a1 a2
    · rcases hr with hr | ⟨_, _, hr, _⟩
      · exact .inl (a2 ▸ hr)
      · rw [a3] at hs
        have hs : ρ.M r = some o := hs
        rw [hr] at hs; cases hs
  · rcases both h1 h2 with ⟨a1, a2⟩ | ⟨_, a2, a3⟩
    · exact h.ic k s x a1 a2 h3
    · rw [a2, hi] at h3; cases h3

/-- only blocks that are ours or given have turned or come: nothing that is told has -/
theorem Rel.same {gs ρ hp} {w w' : World} (h : Rel gs ρ hp w) (hs : ∀ r, r < w.heap.size → w'.heap[r]? = w.heap[r]?) : Rel gs ρ hp w' := by
  refine ⟨h.len, h.inj, fun k b r hb hr => ?_, fun g cf hg => ?_, fun r o hr => ?_, h.ic⟩
  · rcases h.blk k b r hb hr with q | ⟨o, h1, h2⟩
    · exact .inl q
    · exact .inr ⟨o, by rw [hs r (some_lt h1)]; exact h1, h2⟩
  · obtain ⟨h1, h2⟩ := h.gl g cf hg
    exact ⟨h1, h2.same (hs g h2.1.1)⟩
  · obtain ⟨h1, h2⟩ := h.im r o hr
    exact ⟨by rw [hs r (some_lt h1)]; exact h1, h2⟩

theorem Rel.new {gs ρ hp} {w : World} (h : Rel gs ρ hp w) {r : Nat} (hr : w.heap.size ≤ r) : (∀ (i : Nat) (x : Blk), hp[i]? = some x → ρ.l[i]? = some r → free x) ∧ (∀ g p, assoc g gs = some p → g ≠ r) := by
  refine ⟨fun i x h1 h2 => ?_, fun g p hg e => ?_⟩
  · rcases h.blk i x r h1 h2 with q | ⟨o, q, _⟩
    · exact q
    · have := some_lt q; omega
  · have := (h.gl g p hg).2.1
    omega

theorem Gr.adopt {ρ ρ' : Env} {w w' : World} (h : Gr ρ w ρ' w') {r : Nat} (hr : r ∈ ρ'.l ∨ w.heap.size ≤ r) : Gr ρ w (ρ'.snoc r) w' := by
  refine ⟨Env.le_trans h.pre (Env.le_snoc _ _), fun x hx => ?_, h.newM, h.os, h.tape, h.output, h.size, h.old⟩
  rcases List.mem_append.mp hx with h1 | h1
  · exact h.new x h1
  · simp at h1; subst h1
    rcases hr with hr | hr
    · exact h.new x hr
    · exact .inr hr

theorem Rel.alloc {gs ρ hp} {w : World} (h : Rel gs ρ hp w) (o : Obj) (b : Blk) (hg : isIce b = false) (k : OR (ρ.snoc w.heap.size) o b) :
    Rel gs (ρ.snoc w.heap.size) (hp ++ [b]) (w.alloc o) ∧ Gr ρ w (ρ.snoc w.heap.size) (w.alloc o) := by
  have hs : (w.alloc o).heap.size = w.heap.size + 1 := by show (w.heap.push o).size = _; simp
  have hold : ∀ r, r < w.heap.size → (w.alloc o).heap[r]? = w.heap[r]? := fun r hr => by
    show (w.heap.push o)[r]? = _
    rw [Array.getElem?_push, if_neg (by omega)]
  have R1 := h.same hold
  obtain ⟨n1, n2⟩ := h.new (Nat.le_refl w.heap.size)
  refine ⟨R1.adopt b hg (.inr ⟨n1, n2, h.noM (Nat.le_refl _), o, by show (w.heap.push o)[w.heap.size]? = _; simp, k⟩), ?_⟩
  exact (Gr.of (w := w) (w' := w.alloc o) rfl rfl rfl (by omega) (fun b hb _ => hold b hb) : Gr ρ w ρ (w.alloc o)).adopt (.inr (Nat.le_refl _))

theorem set_get {hp : List Blk} {k : Nat} {b : Blk} {j : Nat} {x : Blk} (hx : (hp.set k b)[j]? = some x) : (j = k ∧ x = b) ∨ (j ≠ k ∧ hp[j]? = some x) := by
  rw [List.getElem?_set] at hx
  split at hx
  · rename_i e
    split at hx
    · cases hx; exact .inl ⟨e.symm, rfl⟩
    · cases hx
  · rename_i e
    exact .inr ⟨fun e' => e e'.symm, hx⟩

/-- a block of our own becomes another -/
theorem Rel.put {gs ρ hp} {w : World} (h : Rel gs ρ hp w) {k r : Nat} {b0 : Blk} (hk : hp[k]? = some b0) (hf : ¬ free b0) (hg0 : isIce b0 = false) (hr : ρ.l[k]? = some r) (o : Obj) (b : Blk) (hg : isIce b = false) (q : OR ρ o b) :
    Rel gs ρ (hp.set k b) { w with heap := w.heap.setIfInBounds r o } ∧ Gr ρ w ρ { w with heap := w.heap.setIfInBounds r o } := by
  obtain ⟨o0, ho0, _⟩ := h.get hk hr hf
  have hlt := some_lt ho0
  have hM := h.noM' hk hr hf hg0
  -- another one at the same place is free
  have other : ∀ j x, j ≠ k → hp[j]? = some x → ρ.l[j]? = some r → free x := fun j x hj h1 h2 => by
    rcases h.inj j k r x b0 h1 hk h2 hr with e | e | e
    · exact absurd e hj
    · exact e
    · exact absurd e hf
  refine ⟨⟨by simp [h.len], fun i j s bi bj h1 h2 h3 h4 => ?_, fun j x s hx hs => ?_, fun g cf hg' => ?_, fun s o' hs => ?_, fun j s x hx hs hi => ?_⟩, Gr.of rfl rfl rfl (by simp) fun b' hb hn => ?_⟩
  · rcases set_get h1 with ⟨e1, e1'⟩ | ⟨e1, e1'⟩
    · rcases set_get h2 with ⟨e2, _⟩ | ⟨e2, e2'⟩
      · exact .inl (e1.trans e2.symm)
      · subst e1
        rw [hr] at h3; cases h3
        exact .inr (.inr (other j bj e2 e2' h4))
    · rcases set_get h2 with ⟨e2, _⟩ | ⟨e2, e2'⟩
      · subst e2
        rw [hr] at h4; cases h4
        exact .inr (.inl (other i bi e1 e1' h3))
      · exact h.inj i j s bi bj e1' e2' h3 h4
  · rcases set_get hx with ⟨e, e'⟩ | ⟨e, e'⟩
    · subst e; subst e'
      rw [hr] at hs; cases hs
      exact .inr ⟨o, by simp [hlt], q⟩
    · rcases h.blk j x s e' hs with q1 | ⟨o', q1, q2⟩
      · exact .inl q1
      · by_cases e2 : s = r
        · subst e2
          exact .inl (other j x e e' hs)
        · refine .inr ⟨o', ?_, q2⟩
          show (w.heap.setIfInBounds r o)[s]? = _
          rw [Array.getElem?_setIfInBounds_ne (Ne.symm e2)]; exact q1
  · obtain ⟨h1, h2⟩ := h.gl g cf hg'
    have hne : r ≠ g := fun e => by
      subst e
      exact hf (h1 k b0 hk hr)
    refine ⟨fun i x hx hi => ?_, h2.same ?_⟩
    · rcases set_get hx with ⟨e, _⟩ | ⟨_, e'⟩
      · subst e
        rw [hr] at hi; cases hi
        exact absurd rfl hne
      · exact h1 i x e' hi
    · show (w.heap.setIfInBounds r o)[g]? = _
      rw [Array.getElem?_setIfInBounds_ne hne]
  · obtain ⟨h1, h2⟩ := h.im s o' hs
    have hne : r ≠ s := fun e => by subst e; rw [hM] at hs; cases hs
    refine ⟨by
      show (w.heap.setIfInBounds r o)[s]? = _
      rw [Array.getElem?_setIfInBounds_ne hne]; exact h1, fun i x hx hi => ?_⟩
    rcases set_get hx with ⟨e, _⟩ | ⟨_, e'⟩
    · subst e
      rw [hr] at hi; cases hi
      exact absurd rfl hne
    · exact h2 i x e' hi
  · rcases set_get hx with ⟨e, rfl⟩ | ⟨_, e'⟩
    · rw [hg] at hi; cases hi
    · exact h.ic j s x e' hs hi
  · have hne : r ≠ b' := fun e => hn (e ▸ mem_of_get hr)
    show (w.heap.setIfInBounds r o)[b']? = _
    rw [Array.getElem?_setIfInBounds_ne hne]

/-- a block is forgotten -/
theorem Rel.kill {gs ρ hp} {w : World} (h : Rel gs ρ hp w) (k : Nat) : Rel gs ρ (hp.set k .dead) w := by
  have getx : ∀ {j : Nat} {x : Blk}, (hp.set k .dead)[j]? = some x → x = .dead ∨ hp[j]? = some x := by
    intro j x hx
    rcases set_get hx with ⟨_, e⟩ | ⟨_, e⟩
    · exact .inl e
    · exact .inr e
  refine ⟨by simp [h.len], fun i j s bi bj h1 h2 h3 h4 => ?_, fun j x s hx hs => ?_, fun g cf hg' => ?_, fun s o hs => ?_, fun j s x hx hs hi => ?_⟩
  · rcases getx h1 with rfl | e1
    · exact .inr (.inl trivial)
    · rcases getx h2 with rfl | e2
      · exact .inr (.inr trivial)
      · exact h.inj i j s bi bj e1 e2 h3 h4
  · rcases getx hx with rfl | e
    · exact .inl trivial
    · exact h.blk j x s e hs
  · obtain ⟨h1, h2⟩ := h.gl g cf hg'
    refine ⟨fun i x hx hi => ?_, h2⟩
    rcases getx hx with rfl | e
    · trivial
    · exact h1 i x e hi
  · obtain ⟨h1, h2⟩ := h.im s o hs
    refine ⟨h1, fun i x hx hi => ?_⟩
    rcases getx hx with rfl | e
    · exact .inl trivial
    · exact h2 i x e hi
  · rcases getx hx with rfl | e
    · exact .inl trivial
    · exact h.ic j s x e hs hi

/-- a row of our own is written to no more -/
theorem Rel.freeze {gs ρ hp} {w : World} (h : Rel gs ρ hp w) {k r : Nat} {t : Ty} {l : List t.den} {T : TypeId} {c : Nat} (hk : hp[k]? = some (.row t l T c)) (hr : ρ.l[k]? = some r) :
    ∃ ρ', ρ'.l = ρ.l ∧ Rel gs ρ' (hp.set k (.ice t l T c)) w ∧ Gr ρ w ρ' w ∧ (free (.ice t l T c) ∨ ∃ o, ρ'.M r = some o ∧ OR ρ' o (.ice t l T c)) := by
  have fr : ∀ x, free (.ice t l T c) → x = Blk.ice t l T c → free x := fun x h e => e ▸ h
  have fi : free (.row t l T c) ↔ free (.ice t l T c) := Iff.rfl
  by_cases hf : free (.row t l T c)
  · refine ⟨ρ, rfl, ⟨by simp [h.len], fun i j s bi bj h1 h2 h3 h4 => ?_, fun j x s hx hs => ?_, fun g cf hg' => ?_, fun s o hs => ?_, fun j s x hx hs hi => ?_⟩, Gr.refl _ _, .inl hf⟩
    · rcases set_get h1 with ⟨e1, rfl⟩ | ⟨e1, e1'⟩
      · exact .inr (.inl hf)
      · rcases set_get h2 with ⟨e2, rfl⟩ | ⟨e2, e2'⟩
        · exact .inr (.inr hf)
        · exact h.inj i j s bi bj e1' e2' h3 h4
    · rcases set_get hx with ⟨e, rfl⟩ | ⟨e, e'⟩
      · exact .inl hf
      · exact h.blk j x s e' hs
    · obtain ⟨h1, h2⟩ := h.gl g cf hg'
      refine ⟨fun i x hx hi => ?_, h2⟩
      rcases set_get hx with ⟨e, rfl⟩ | ⟨e, e'⟩
      · exact hf
      · exact h1 i x e' hi
    · obtain ⟨h1, h2⟩ := h.im s o hs
      refine ⟨h1, fun i x hx hi => ?_⟩
      rcases set_get hx with ⟨e, rfl⟩ | ⟨e, e'⟩
      · exact .inl hf
      · exact h2 i x e' hi
    · rcases set_get hx with ⟨e, rfl⟩ | ⟨e, e'⟩
      · exact .inl hf
      · exact h.ic j s x e' hs hi
  · obtain ⟨o, ho, hor⟩ := h.get hk hr hf
    have hM := h.noM' hk hr hf rfl
    have le : ρ.le ⟨ρ.l, fun x => if x = r then some o else ρ.M x⟩ := ⟨List.prefix_rfl, fun x o' hx => by
      show (if x = r then some o else ρ.M x) = _
      by_cases e : x = r
      · subst e; rw [hM] at hx; cases hx
      · rw [if_neg e]; exact hx⟩
    have hor' : OR ⟨ρ.l, fun x => if x = r then some o else ρ.M x⟩ o (.ice t l T c) := OR.mono (b := .ice t l T c) (ρ := ρ) hor le
    refine ⟨⟨ρ.l, fun x => if x = r then some o else ρ.M x⟩, rfl, ⟨by simp [h.len], fun i j s bi bj h1 h2 h3 h4 => ?_, fun j x s hx hs => ?_, fun g cf hg' => ?_, fun s o' hs => ?_, fun j s x hx hs hi => ?_⟩, ?_, .inr ⟨o, by simp, hor'⟩⟩
    · rcases set_get h1 with ⟨e1, rfl⟩ | ⟨e1, e1'⟩
      · rcases set_get h2 with ⟨e2, rfl⟩ | ⟨e2, e2'⟩
        · exact .inl (e1.trans e2.symm)
        · subst e1
          exact h.inj i j s (.row t l T c) bj hk e2' h3 h4
      · rcases set_get h2 with ⟨e2, rfl⟩ | ⟨e2, e2'⟩
        · subst e2
          exact h.inj i j s bi (.row t l T c) e1' hk h3 h4
        · exact h.inj i j s bi bj e1' e2' h3 h4
    · rcases set_get hx with ⟨e, rfl⟩ | ⟨e, e'⟩
      · subst e
        have hs : ρ.l[j]? = some s := hs
        rw [hr] at hs; cases hs
        exact .inr ⟨o, ho, hor'⟩
      · rcases h.blk j x s e' hs with q | ⟨o', q1, q2⟩
        · exact .inl q
        · exact .inr ⟨o', q1, q2.mono le⟩
    · obtain ⟨h1, h2⟩ := h.gl g cf hg'
      refine ⟨fun i x hx hi => ?_, h2⟩
      rcases set_get hx with ⟨e, rfl⟩ | ⟨e, e'⟩
      · subst e
        exact h1 i (.row t l T c) hk hi
      · exact h1 i x e' hi
    · have hs : (if s = r then some o else ρ.M s) = some o' := hs
      by_cases e : s = r
      · subst e
        rw [if_pos rfl] at hs; cases hs
        refine ⟨ho, fun i x hx hi => ?_⟩
        rcases set_get hx with ⟨e, rfl⟩ | ⟨e, e'⟩
        · exact .inr rfl
        · rcases h.inj i k s x _ e' hk hi hr with q | q | q
          · exact absurd q e
          · exact .inl q
          · exact absurd q hf
      · rw [if_neg e] at hs
        obtain ⟨h1, h2⟩ := h.im s o' hs
        refine ⟨h1, fun i x hx hi => ?_⟩
        rcases set_get hx with ⟨e, rfl⟩ | ⟨e, e'⟩
        · exact .inr rfl
        · exact h2 i x e' hi
    · rcases set_get hx with ⟨e, rfl⟩ | ⟨e, e'⟩
      · subst e
        have hs : ρ.l[j]? = some s := hs
        rw [hr] at hs; cases hs
        exact .inr ⟨o, by simp⟩
      · rcases h.ic j s x e' hs hi with q | ⟨o', q⟩
        · exact .inl q
        · exact .inr ⟨o', le.2 _ _ q⟩
    · refine ⟨le, fun x h => .inl h, fun x o' hx => ?_, rfl, rfl, rfl, Nat.le_refl _, fun _ _ _ => rfl⟩
      have hx : (if x = r then some o else ρ.M x) = some o' := hx
      by_cases e : x = r
      · subst e; exact .inr (.inl (mem_of_get hr))
      · rw [if_neg e] at hx; exact .inl hx

theorem Rel.forget {gs ρ hp} {w : World} (h : Rel gs ρ hp w) {k r : Nat} (hk : hp[k]? = some .dfr) (hr : ρ.l[k]? = some r) :
    ∃ ρ', ρ'.l = ρ.l ∧ Rel gs ρ' (hp.set k .dead) w ∧ ρ.le ρ' ∧ ρ'.M r = some (.deferred (some [])) ∧ ∀ x o, ρ'.M x = some o → ρ.M x = some o ∨ x = r := by
  have hf : ¬ free .dfr := id
  obtain ⟨o, ho, hor⟩ := h.get hk hr hf
  have hor : o = .deferred (some []) := hor
  subst hor
  have hM := h.noM' hk hr hf rfl
  have le : ρ.le ⟨ρ.l, fun x => if x = r then some (.deferred (some [])) else ρ.M x⟩ := ⟨List.prefix_rfl, fun x o' hx => by
    show (if x = r then some (Obj.deferred (some [])) else ρ.M x) = _
    by_cases e : x = r
    · subst e; rw [hM] at hx; cases hx
    · rw [if_neg e]; exact hx⟩
  refine ⟨⟨ρ.l, fun x => if x = r then some (.deferred (some [])) else ρ.M x⟩, rfl, ⟨by simp [h.len], fun i j s bi bj h1 h2 h3 h4 => ?_, fun j x s hx hs => ?_, fun g cf hg' => ?_, fun s o' hs => ?_, fun j s x hx hs hi => ?_⟩, le, by simp, fun x o' hx => ?_⟩
  · rcases set_get h1 with ⟨e1, rfl⟩ | ⟨e1, e1'⟩
    · exact .inr (.inl trivial)
    · rcases set_get h2 with ⟨e2, rfl⟩ | ⟨e2, e2'⟩
      · exact .inr (.inr trivial)
      · exact h.inj i j s bi bj e1' e2' h3 h4
  · rcases set_get hx with ⟨e, rfl⟩ | ⟨e, e'⟩
    · exact .inl trivial
    · rcases h.blk j x s e' hs with q | ⟨o', q1, q2⟩
      · exact .inl q
      · exact .inr ⟨o', q1, q2.mono le⟩
  · obtain ⟨h1, h2⟩ := h.gl g cf hg'
    refine ⟨fun i x hx hi => ?_, h2⟩
    rcases set_get hx with ⟨e, rfl⟩ | ⟨e, e'⟩
    · trivial
    · exact h1 i x e' hi
  · have hs : (if s = r then some (Obj.deferred (some [])) else ρ.M s) = some o' := hs
    by_cases e : s = r
    · subst e
      rw [if_pos rfl] at hs; cases hs
      refine ⟨ho, fun i x hx hi => ?_⟩
      rcases set_get hx with ⟨e, rfl⟩ | ⟨e, e'⟩
      · exact .inl trivial
      · rcases h.inj i k s x _ e' hk hi hr with q | q | q
        · exact absurd q e
        · exact .inl q
        · exact absurd q hf
    · rw [if_neg e] at hs
      obtain ⟨h1, h2⟩ := h.im s o' hs
      refine ⟨h1, fun i x hx hi => ?_⟩
      rcases set_get hx with ⟨e, rfl⟩ | ⟨e, e'⟩
      · exact .inl trivial
      · exact h2 i x e' hi
  · rcases set_get hx with ⟨e, rfl⟩ | ⟨e, e'⟩
    · exact .inl trivial
    · rcases h.ic j s x e' hs hi with q | ⟨o', q⟩
      · exact .inl q
      · exact .inr ⟨o', le.2 _ _ q⟩
  · have hx : (if x = r then some (Obj.deferred (some [])) else ρ.M x) = some o' := hx
    by_cases e : x = r
    · exact .inr e
    · rw [if_neg e] at hx; exact .inl hx

/-- what is deferred is taken: nobody holds it -/
theorem Rel.taken {gs ρ hp} {w : World} (h : Rel gs ρ hp w) {r : Nat} (hr : ρ.M r = some (.deferred (some []))) :
    Rel gs ⟨ρ.l, fun x => if x = r then none else ρ.M x⟩ hp { w with heap := w.heap.setIfInBounds r (.deferred none) } := by
  obtain ⟨h0, h1⟩ := h.im r _ hr
  have le : ρ.leC ⟨ρ.l, fun x => if x = r then none else ρ.M x⟩ := ⟨List.prefix_rfl, fun x us T fr hx => by
    show (if x = r then none else ρ.M x) = _
    by_cases e : x = r
    · subst e; rw [hr] at hx; cases hx
    · rw [if_neg e]; exact hx⟩
  have off : ∀ x, x ≠ r → (w.heap.setIfInBounds r (.deferred none))[x]? = w.heap[x]? := fun x hx => by
    rw [Array.getElem?_setIfInBounds_ne (Ne.symm hx)]
  refine ⟨h.len, h.inj, fun k b x hb hx => ?_, fun g cf hg => ?_, fun x o hx => ?_, fun k x b hb hx hi => ?_⟩
  · rcases h.blk k b x hb hx with q | ⟨o, q1, q2⟩
    · exact .inl q
    · by_cases e : x = r
      · subst e
        rcases h1 k b hb hx with q | q
        · exact .inl q
        · exfalso
          rw [h0] at q1; cases q1
          cases b <;> first | (cases q; done) | skip
          obtain ⟨_, _, us, e, _⟩ := q2
          cases e
      · exact .inr ⟨o, by rw [off x e]; exact q1, q2.monoC le⟩
  · obtain ⟨g1, g2⟩ := h.gl g cf hg
    refine ⟨g1, ?_⟩
    by_cases e : g = r
    · subst e
      have hv : GlAt w g cf := g2
      refine ⟨⟨by simpa using g2.1.1, ?_⟩, fun i u hi => ?_⟩
      · have := g2.1.2
        cases cf with
        | some k =>
          obtain ⟨n, hn⟩ := this
          unfold World.cell? at hn
          simp [h0] at hn
        | int _ _ => exact True.intro
        | str _ => exact True.intro
      · have := g2.2 i u hi
        unfold World.cell? at this
        simp [h0] at this
    · exact g2.same (off g e)
  · have hx : (if x = r then none else ρ.M x) = some o := hx
    by_cases e : x = r
    · rw [if_pos e] at hx; cases hx
    · rw [if_neg e] at hx
      obtain ⟨q1, q2⟩ := h.im x o hx
      exact ⟨by rw [off x e]; exact q1, q2⟩
  · rcases h.ic k x b hb hx hi with q | ⟨o, q⟩
    · exact .inl q
    · by_cases e : x = r
      · subst e
        rcases h.blk k b x hb hx with q1 | ⟨o', q1, q2⟩
        · exact .inl q1
        · exfalso
          rw [h0] at q1; cases q1
          cases b <;> first | (cases hi; done) | skip
          obtain ⟨_, _, us, e, _⟩ := q2
          cases e
      · exact .inr ⟨o, by show (if x = r then none else ρ.M x) = _; rw [if_neg e]; exact q⟩

theorem inNH_get {n : Nat} : ∀ {l : List Blk} {k : Nat} {b : Blk}, inNH n l = true → l[k]? = some b → inNB n b = true
  | [], k, b, _, h => by simp at h
  | x :: l, 0, b, i, h => by simp only [inNH, Bool.and_eq_true] at i; simp at h; subst h; exact i.1
  | x :: l, k + 1, b, i, h => by simp only [inNH, Bool.and_eq_true] at i; exact inNH_get i.2 (by simpa using h)

theorem Rel.take {gs ρ hp} {w : World} (h : Rel gs ρ hp w) (n : Nat) (i : inNH n (hp.take n) = true) : Rel gs (ρ.take n) (hp.take n) w := by
  have hg : ∀ {k r : Nat}, (ρ.take n).l[k]? = some r → k < n ∧ ρ.l[k]? = some r := fun {k r} hk => by
    change (ρ.l.take n)[k]? = some r at hk
    rw [List.getElem?_take] at hk
    split at hk
    · exact ⟨by assumption, hk⟩
    · cases hk
  have hb : ∀ {k : Nat} {x : Blk}, (hp.take n)[k]? = some x → k < n ∧ hp[k]? = some x := fun {k x} hk => by
    rw [List.getElem?_take] at hk
    split at hk
    · exact ⟨by assumption, hk⟩
    · cases hk
  refine ⟨by simp [Env.take, h.len], fun a b r ba bb h1 h2 h3 h4 => h.inj a b r ba bb (hb h1).2 (hb h2).2 (hg h3).2 (hg h4).2, fun k b r hbk hr => ?_, fun g cf hg' => ?_, fun r o hr => ?_, fun k r b hb' hr hi => h.ic k r b (hb hb').2 (hg hr).2 hi⟩
  · obtain ⟨hk, hr'⟩ := hg hr
    rcases h.blk k b r (hb hbk).2 hr' with q | ⟨o, h1, h2⟩
    · exact .inl q
    · exact .inr ⟨o, h1, h2.take (inNH_get i hbk)⟩
  · obtain ⟨h1, h2⟩ := h.gl g cf hg'
    exact ⟨fun i x hx hi => h1 i x (hb hx).2 (hg hi).2, h2⟩
  · obtain ⟨h1, h2⟩ := h.im r o hr
    exact ⟨h1, fun i x hx hi => h2 i x (hb hx).2 (hg hi).2⟩

/-- what is told of blocks is told less -/
theorem weakH_sound {gs : List (Nat × CF)} {ρ : Env} {hp hp' : List Blk} {w : World} (h : Rel gs ρ hp w) (hw : weakH hp hp') (hl : hp'.length = hp.length) : Rel gs ρ hp' w := by
  have key : ∀ {hp hp' : List Blk}, weakH hp hp' → hp'.length = hp.length → ∀ {k : Nat} {x : Blk}, hp'[k]? = some x → ∃ y, hp[k]? = some y ∧ weakB y x := by
    intro hp
    induction hp with
    | nil => intro hp' _ hl k x hx; have : hp' = [] := by simpa using hl
             subst this; simp at hx
    | cons b l ih =>
      intro hp' hw hl k x hx
      cases hp' with
      | nil => simp at hl
      | cons b' l' =>
        cases k with
        | zero => simp at hx; subst hx; exact ⟨b, rfl, hw.1⟩
        | succ k => exact ih hw.2 (by simpa using hl) (by simpa using hx)
  have fr : ∀ {y x : Blk}, weakB y x → free y → free x := by
    intro y x h1 h2
    rcases h1 with rfl | rfl | ⟨t, T, rfl⟩ | h1
    · exact h2
    · trivial
    · exact ⟨rfl, rfl⟩
    · cases y <;> cases x <;> first | exact h1.elim | exact h2.elim
  have gv : ∀ {y x : Blk}, weakB y x → isIce y = true → free x ∨ isIce x = true := by
    intro y x h1 h2
    rcases h1 with rfl | rfl | ⟨t, T, rfl⟩ | h1
    · exact .inr h2
    · exact .inl trivial
    · exact .inl ⟨rfl, rfl⟩
    · cases y <;> cases x <;> first | exact h1.elim | cases h2
  refine ⟨by rw [h.len, hl], fun i j r bi bj h1 h2 h3 h4 => ?_, fun k x r hx hr => ?_, fun g cf hg => ?_, fun r o hr => ?_, fun k r x hx hr hi => ?_⟩
  · obtain ⟨yi, a1, a2⟩ := key hw hl h1
    obtain ⟨yj, c1, c2⟩ := key hw hl h2
    rcases h.inj i j r yi yj a1 c1 h3 h4 with e | e | e
    · exact .inl e
    · exact .inr (.inl (fr a2 e))
    · exact .inr (.inr (fr c2 e))
  · obtain ⟨y, a1, a2⟩ := key hw hl hx
    rcases h.blk k y r a1 hr with q | ⟨o, q1, q2⟩
    · exact .inl (fr a2 q)
    · rcases a2 with rfl | rfl | ⟨t, T, rfl⟩ | a2
      · exact .inr ⟨o, q1, q2⟩
      · exact .inl trivial
      · exact .inl ⟨rfl, rfl⟩
      · cases y <;> cases x <;> first | exact a2.elim | skip
        · obtain ⟨us, T, e1, e2⟩ := q2
          exact .inr ⟨o, q1, us, T, e1, weakVs_sound a2 e2⟩
        · obtain ⟨rfl, rfl, f1, f2, f3, f4, f5, f6⟩ := a2
          obtain ⟨RL, e1, e2, e3, e4, e5, e6, e7, e8, e9, e10, e11⟩ := q2
          exact .inr ⟨o, q1, RL, e1, e2, e3, by rw [f2]; exact e4, by rw [f3]; exact e5, by rw [f4]; exact e6, e7.weak f6, by rw [f5]; exact e8, by rw [f3]; exact e9, by rw [f4]; exact e10, by rw [f2]; exact e11⟩
  · obtain ⟨h1, h2⟩ := h.gl g cf hg
    refine ⟨fun i x hx hi => ?_, h2⟩
    obtain ⟨y, a1, a2⟩ := key hw hl hx
    exact fr a2 (h1 i y a1 hi)
  · obtain ⟨h1, h2⟩ := h.im r o hr
    refine ⟨h1, fun i x hx hi => ?_⟩
    obtain ⟨y, a1, a2⟩ := key hw hl hx
    rcases h2 i y a1 hi with e | e
    · exact .inl (fr a2 e)
    · exact gv a2 e
  · obtain ⟨y, a1, a2⟩ := key hw hl hx
    rcases a2 with rfl | rfl | ⟨t, T, rfl⟩ | a2
    · exact h.ic k r _ a1 hr hi
    · exact .inl trivial
    · cases hi
    · cases y <;> cases x <;> first | exact a2.elim | cases hi

/-- a block of another number -/
theorem Rel.moved {gs ρ hp} {w : World} (h : Rel gs ρ hp w) {k r : Nat} {b : Blk} (hk : hp[k]? = some b) (hf : ¬ free b) (hg : isIce b = false) (hr : ρ.l[k]? = some r) : Rel gs (ρ.snoc r) (hp.set k .dead ++ [b]) w := by
  obtain ⟨o, h1, h2⟩ := h.get hk hr hf
  refine (h.kill k).adopt b hg (.inr ⟨fun i x hx hi => ?_, fun g p hgp e => ?_, h.noM' hk hr hf hg, o, h1, h2.mono (Env.le_snoc _ _)⟩)
  · rcases set_get hx with ⟨_, rfl⟩ | ⟨hne, hx⟩
    · trivial
    · rcases h.inj i k r x b hx hk hi hr with e | e | e
      · exact absurd e hne
      · exact e
      · exact absurd e hf
  · subst e
    exact hf ((h.gl g p hgp).1 k b hk hr)

/-- a block of another number, of which less is told -/
theorem Rel.movedTo {gs ρ hp} {w : World} (h : Rel gs ρ hp w) {k r : Nat} {b b' : Blk} (hk : hp[k]? = some b) (hf : ¬ free b) (hg : isIce b = false) (hg' : isIce b' = false) (hr : ρ.l[k]? = some r) (hb : ∀ o, OR ρ o b → OR ρ o b') : Rel gs (ρ.snoc r) (hp.set k .dead ++ [b']) w := by
  obtain ⟨o, h1, h2⟩ := h.get hk hr hf
  refine (h.kill k).adopt b' hg' (.inr ⟨fun i x hx hi => ?_, fun g p hgp e => ?_, h.noM' hk hr hf hg, o, h1, (hb o h2).mono (Env.le_snoc _ _)⟩)
  · rcases set_get hx with ⟨_, rfl⟩ | ⟨hne, hx⟩
    · trivial
    · rcases h.inj i k r x b hx hk hi hr with e | e | e
      · exact absurd e hne
      · exact e
      · exact absurd e hf
  · subst e
    exact hf ((h.gl g p hgp).1 k b hk hr)

theorem Elems_getD {M : Nat → Option Obj} {t : Ty} {l : List t.den} {us : List Value} {o : Nat} (h : Elems M t l us o) {i : Nat} (hi : i < l.length) : Deep M t (l.getD i t.dflt) ((us.drop (o + i * t.size)).take t.size) := by
  have := h i hi
  rwa [List.getD_eq_getElem?_getD, List.getElem?_eq_getElem hi]

/-- a row's elements -/
theorem row_all {gs : List (Nat × CF)} {ρ : Env} {hp : List Blk} {w : World} (R : Rel gs ρ hp w) {k : Nat} {x : RowOf} (h : rowAt hp k = some x) {r : Nat} (hr : ρ.l[k]? = some r) :
    x.l = [] ∨ ∃ us T, w.heap[r]? = some (.cells us T (0, 0)) ∧ Elems ρ.M x.t x.l us.toList 0 := by
  unfold rowAt at h
  split at h
  · rename_i t l T c hk
    cases h
    rcases R.blk k _ r hk hr with hf | ⟨o, h1, _, _, us, rfl, _, h5⟩
    · exact .inl hf.1
    · exact .inr ⟨us, T, h1, h5⟩
  · rename_i t l T c hk
    cases h
    rcases R.blk k _ r hk hr with hf | ⟨o, h1, _, _, us, rfl, _, h5⟩
    · exact .inl hf.1
    · exact .inr ⟨us, T, h1, h5⟩
  · cases h
end Go.B
