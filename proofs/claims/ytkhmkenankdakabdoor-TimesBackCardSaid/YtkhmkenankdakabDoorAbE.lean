/- Soundness of AbD, first part: values and memory. -/
import Derived.Test.YtkhmkenankdakabDoorAbD
namespace Go.Ab
open Go
set_option linter.unusedVariables false
set_option linter.unusedSimpArgs false

mutual

/-- the value u is one that v tells of; ρ: where our own blocks lie -/
def D (ρ : List Nat) : V → Value → Prop
  | .any, _ => True
  | .bool b, u => u = .bool b
  | .int k n, u => u = .int k n
  | .str s, u => u = .string s
  | .ptr k o, u => ∃ r, ρ[k]? = some r ∧ u = .pointer (some ⟨r, o, none⟩)
  | .gp g o, u => u = .pointer (some ⟨g, o, none⟩)
  | .slc k o n c, u => ∃ r, ρ[k]? = some r ∧ u = .slice (some ⟨r, o, none⟩) n c
  | .fn f a b, u => ∃ as bs, u = .func (.func f) as bs ∧ Ds ρ a as.toList ∧ Ds ρ b bs.toList
  | .yld k, u => ∃ r, ρ[k]? = some r ∧ u = .func (.yield r) #[] #[]
  | .agg cs, u => ∃ us : Array Value, u = .agg us ∧ Ds ρ cs us.toList
  | .tup cs, u => ∃ us : Array Value, u = .tuple us ∧ Ds ρ cs us.toList
  | .old v, u => u = v

def Ds (ρ : List Nat) : List V → List Value → Prop
  | [], us => us = []
  | v :: vs, us => ∃ u us', us = u :: us' ∧ D ρ v u ∧ Ds ρ vs us'
end

theorem D_any {ρ : List Nat} {u : Value} : D ρ .any u := by simp [D]

theorem D_lift {ρ : List Nat} (u : Value) : D ρ (lift u) u := by cases u <;> simp [lift, D]

theorem Ds_cons {ρ : List Nat} {v : V} {vs : List V} {us : List Value} : Ds ρ (v :: vs) us ↔ ∃ u us', us = u :: us' ∧ D ρ v u ∧ Ds ρ vs us' := by
  conv => lhs; unfold Ds

theorem Ds_nil {ρ : List Nat} {us : List Value} : Ds ρ [] us ↔ us = [] := by conv => lhs; unfold Ds

theorem Ds_len {ρ : List Nat} : ∀ {vs : List V} {us : List Value}, Ds ρ vs us → us.length = vs.length
  | [], us, h => by rw [Ds_nil] at h; subst h; rfl
  | v :: vs, us, h => by rw [Ds_cons] at h; obtain ⟨u, us', rfl, _, h⟩ := h; simp [Ds_len h]

theorem Ds_iff {ρ : List Nat} : ∀ {vs : List V} {us : List Value}, Ds ρ vs us ↔ us.length = vs.length ∧ ∀ (i : Nat) v u, vs[i]? = some v → us[i]? = some u → D ρ v u
  | [], us => by
    rw [Ds_nil]
    constructor
    · rintro rfl; simp
    · rintro ⟨h, _⟩; simpa using h
  | v :: vs, us => by
    rw [Ds_cons]
    constructor
    · rintro ⟨u, us', rfl, h1, h2⟩
      obtain ⟨h3, h4⟩ := Ds_iff.mp h2
      refine ⟨by simp [h3], fun i v' u' hv hu => ?_⟩
      cases i with
      | zero => simp at hv hu; subst hv; subst hu; exact h1
      | succ i => exact h4 i v' u' (by simpa using hv) (by simpa using hu)
    · rintro ⟨h1, h2⟩
      cases us with
      | nil => simp at h1
      | cons u us =>
        refine ⟨u, us, rfl, h2 0 v u rfl rfl, Ds_iff.mpr ⟨by simpa using h1, fun i v' u' hv hu => h2 (i + 1) v' u' (by simpa using hv) (by simpa using hu)⟩⟩

theorem Ds_get {ρ : List Nat} {vs : List V} {us : List Value} (h : Ds ρ vs us) {i : Nat} {v : V} (hv : vs[i]? = some v) : ∃ u, us[i]? = some u ∧ D ρ v u := by
  obtain ⟨h1, h2⟩ := Ds_iff.mp h
  have hi : i < us.length := by rw [h1]; exact (List.getElem?_eq_some_iff.mp hv).1
  exact ⟨us[i], List.getElem?_eq_getElem hi, h2 i v _ hv (List.getElem?_eq_getElem hi)⟩

theorem Ds_append {ρ : List Nat} {a b : List V} {as bs : List Value} (h : Ds ρ a as) (k : Ds ρ b bs) : Ds ρ (a ++ b) (as ++ bs) := by
  induction a generalizing as with
  | nil => rw [Ds_nil] at h; subst h; simpa using k
  | cons v a ih =>
    rw [Ds_cons] at h
    obtain ⟨u, us', rfl, h1, h2⟩ := h
    rw [List.cons_append, List.cons_append, Ds_cons]
    exact ⟨u, us' ++ bs, rfl, h1, ih h2⟩

theorem Ds_drop {ρ : List Nat} {vs : List V} {us : List Value} (h : Ds ρ vs us) (n : Nat) : Ds ρ (vs.drop n) (us.drop n) := by
  obtain ⟨h1, h2⟩ := Ds_iff.mp h
  refine Ds_iff.mpr ⟨by simp [h1], fun i v u hv hu => ?_⟩
  rw [List.getElem?_drop] at hv hu
  exact h2 _ _ _ hv hu

theorem Ds_take {ρ : List Nat} {vs : List V} {us : List Value} (h : Ds ρ vs us) (n : Nat) : Ds ρ (vs.take n) (us.take n) := by
  obtain ⟨h1, h2⟩ := Ds_iff.mp h
  refine Ds_iff.mpr ⟨by simp [h1], fun i v u hv hu => ?_⟩
  rw [List.getElem?_take] at hv hu
  split at hv
  · rename_i hi; rw [if_pos hi] at hu; exact h2 _ _ _ hv hu
  · cases hv

theorem Ds_set {ρ : List Nat} {vs : List V} {us : List Value} (h : Ds ρ vs us) (n : Nat) {v : V} {u : Value} (k : D ρ v u) : Ds ρ (vs.set n v) (us.set n u) := by
  obtain ⟨h1, h2⟩ := Ds_iff.mp h
  refine Ds_iff.mpr ⟨by simp [h1], fun i v' u' hv hu => ?_⟩
  rw [List.getElem?_set] at hv hu
  split at hv
  · rename_i hi
    subst hi
    rw [if_pos rfl] at hu
    split at hv
    · rename_i hl
      rw [if_pos (by omega)] at hu
      cases hv; cases hu; exact k
    · cases hv
  · rename_i hi
    rw [if_neg hi] at hu
    exact h2 _ _ _ hv hu

theorem Ds_map {ρ : List Nat} {α : Type} (f : α → V) (g : α → Value) : ∀ l : List α, (∀ x ∈ l, D ρ (f x) (g x)) → Ds ρ (l.map f) (l.map g)
  | [], _ => by simp [Ds]
  | x :: l, h => by
    rw [List.map_cons, List.map_cons, Ds_cons]
    exact ⟨_, _, rfl, h x (by simp), Ds_map f g l (fun y hy => h y (by simp [hy]))⟩

theorem pre_get {ρ ρ' : List Nat} (h : ρ <+: ρ') {k r : Nat} (q : ρ[k]? = some r) : ρ'[k]? = some r := by
  obtain ⟨t, rfl⟩ := h
  rw [List.getElem?_append_left (List.getElem?_eq_some_iff.mp q).1]; exact q

theorem beq_ne {m n : Nat} (h : m ≠ n) : Nat.beq m n = false := by
  cases e : Nat.beq m n
  · rfl
  · exact absurd (Nat.eq_of_beq_eq_true e) h
mutual

theorem D_mono {ρ ρ' : List Nat} (h : ρ <+: ρ') : ∀ {v : V} {u : Value}, D ρ v u → D ρ' v u
  | .any, u, _ => D_any
  | .bool _, u, k => by simpa [D] using k
  | .int _ _, u, k => by simpa [D] using k
  | .str _, u, k => by simpa [D] using k
  | .ptr k o, u, q => by
    simp only [D] at q ⊢
    obtain ⟨r, h1, h2⟩ := q
    exact ⟨r, pre_get h h1, h2⟩
  | .gp _ _, u, k => by simpa [D] using k
  | .slc k o n c, u, q => by
    simp only [D] at q ⊢
    obtain ⟨r, h1, h2⟩ := q
    exact ⟨r, pre_get h h1, h2⟩
  | .fn f a b, u, q => by
    simp only [D] at q ⊢
    obtain ⟨as, bs, h1, h2, h3⟩ := q
    exact ⟨as, bs, h1, Ds_mono h h2, Ds_mono h h3⟩
  | .yld k, u, q => by
    simp only [D] at q ⊢
    obtain ⟨r, h1, h2⟩ := q
    exact ⟨r, pre_get h h1, h2⟩
  | .agg cs, u, q => by
    simp only [D] at q ⊢
    obtain ⟨us, h1, h2⟩ := q
    exact ⟨us, h1, Ds_mono h h2⟩
  | .tup cs, u, q => by
    simp only [D] at q ⊢
    obtain ⟨us, h1, h2⟩ := q
    exact ⟨us, h1, Ds_mono h h2⟩
  | .old _, u, k => by simpa [D] using k

theorem Ds_mono {ρ ρ' : List Nat} (h : ρ <+: ρ') : ∀ {vs : List V} {us : List Value}, Ds ρ vs us → Ds ρ' vs us
  | [], us, k => by simpa [Ds] using k
  | v :: vs, us, k => by
    simp only [Ds] at k ⊢
    obtain ⟨u, us', h1, h2, h3⟩ := k
    exact ⟨u, us', h1, D_mono h h2, Ds_mono h h3⟩
end

theorem take_get {ρ : List Nat} {n k r : Nat} (h : ρ[k]? = some r) (hk : k < n) : (ρ.take n)[k]? = some r := by
  rw [List.getElem?_take, if_pos hk]; exact h
mutual

theorem D_take {ρ : List Nat} {n : Nat} : ∀ {v : V} {u : Value}, inN n v = true → D ρ v u → D (ρ.take n) v u
  | .any, u, _, _ => D_any
  | .bool _, u, _, k => by simpa [D] using k
  | .int _ _, u, _, k => by simpa [D] using k
  | .str _, u, _, k => by simpa [D] using k
  | .ptr k o, u, i, q => by
    simp only [D] at q ⊢
    obtain ⟨r, h1, h2⟩ := q
    exact ⟨r, take_get h1 (by simpa [inN, Nat.blt_eq] using i), h2⟩
  | .gp _ _, u, _, k => by simpa [D] using k
  | .slc k o n c, u, i, q => by
    simp only [D] at q ⊢
    obtain ⟨r, h1, h2⟩ := q
    exact ⟨r, take_get h1 (by simpa [inN, Nat.blt_eq] using i), h2⟩
  | .fn f a b, u, i, q => by
    simp only [D] at q ⊢
    simp only [inN, Bool.and_eq_true] at i
    obtain ⟨as, bs, h1, h2, h3⟩ := q
    exact ⟨as, bs, h1, Ds_takeN i.1 h2, Ds_takeN i.2 h3⟩
  | .yld k, u, i, q => by
    simp only [D] at q ⊢
    obtain ⟨r, h1, h2⟩ := q
    exact ⟨r, take_get h1 (by simpa [inN, Nat.blt_eq] using i), h2⟩
  | .agg cs, u, i, q => by
    simp only [D] at q ⊢
    obtain ⟨us, h1, h2⟩ := q
    exact ⟨us, h1, Ds_takeN (by simpa [inN] using i) h2⟩
  | .tup cs, u, i, q => by
    simp only [D] at q ⊢
    obtain ⟨us, h1, h2⟩ := q
    exact ⟨us, h1, Ds_takeN (by simpa [inN] using i) h2⟩
  | .old _, u, _, k => by simpa [D] using k

theorem Ds_takeN {ρ : List Nat} {n : Nat} : ∀ {vs : List V} {us : List Value}, inNs n vs = true → Ds ρ vs us → Ds (ρ.take n) vs us
  | [], us, _, k => by simpa [Ds] using k
  | v :: vs, us, i, k => by
    simp only [Ds] at k ⊢
    simp only [inNs, Bool.and_eq_true] at i
    obtain ⟨u, us', h1, h2, h3⟩ := k
    exact ⟨u, us', h1, D_take i.1 h2, Ds_takeN i.2 h3⟩
end

/- temporaries -/

def TR (ρ : List Nat) (ts : List (Nat × V)) (tmps : Array Value) : Prop := ∀ i, D ρ (find i ts) (tmps.getD i undef)

theorem TR.mono {ρ ρ' : List Nat} {ts : List (Nat × V)} {tmps : Array Value} (h : TR ρ ts tmps) (k : ρ <+: ρ') : TR ρ' ts tmps := fun i => D_mono k (h i)

theorem find_ins (n i : Nat) (v : V) : ∀ ts, find i (ins n v ts) = if n = i then v else find i ts
  | [] => by
    by_cases h : n = i
    · subst h; simp [ins, find]
    · have : Nat.beq n i = false := beq_ne h
      simp [ins, find, this, h]
  | (m, u) :: l => by
    unfold ins
    by_cases h : m = n
    · subst h
      simp only [Nat.beq_refl, find]
      by_cases h2 : m = i
      · subst h2; simp
      · have : Nat.beq m i = false := beq_ne h2
        simp [this, h2]
    · have hb : Nat.beq m n = false := beq_ne h
      simp only [hb, find, find_ins n i v l]
      by_cases h2 : m = i
      · subst h2; simp [Ne.symm h]
      · have : Nat.beq m i = false := beq_ne h2
        simp [this]

theorem TR.ins {ρ : List Nat} {ts : List (Nat × V)} {tmps : Array Value} (h : TR ρ ts tmps) {d : Nat} (hd : d < tmps.size) {v : V} {u : Value} (k : D ρ v u) : TR ρ (ins d v ts) (tmps.setIfInBounds d u) := fun i => by
  rw [find_ins]
  by_cases e : d = i
  · subst e
    rw [if_pos rfl]
    simpa [Array.getD_eq_getD_getElem?, hd] using k
  · rw [if_neg e]
    have := h i
    simpa [Array.getD_eq_getD_getElem?, Array.getElem?_setIfInBounds_ne e] using this

theorem TR.know {ρ : List Nat} {ts : List (Nat × V)} {tmps : Array Value} (h : TR ρ ts tmps) {d : Nat} {v : V} (k : D ρ v (tmps.getD d undef)) : TR ρ (Ab.ins d v ts) tmps := fun i => by
  rw [find_ins]
  by_cases e : d = i
  · subst e; rw [if_pos rfl]; exact k
  · rw [if_neg e]; exact h i

theorem find_filter (ok : Nat → Bool) (i : Nat) : ∀ ts, find i (ts.filter fun p => ok p.1) = find i ts ∨ find i (ts.filter fun p => ok p.1) = .any
  | [] => .inl rfl
  | (m, v) :: l => by
    have ih := find_filter ok i l
    rw [List.filter_cons]
    split
    · simp only [find]
      cases Nat.beq m i
      · exact ih
      · exact .inl rfl
    · rename_i hm
      simp only [find]
      cases e : Nat.beq m i
      · exact ih
      · refine .inr ?_
        have e' : m = i := Nat.eq_of_beq_eq_true e
        subst e'
        have : ∀ l : List (Nat × V), find m (l.filter fun p => ok p.1) = .any := by
          intro l
          induction l with
          | nil => rfl
          | cons p l ih2 =>
            obtain ⟨q, v'⟩ := p
            rw [List.filter_cons]
            split
            · rename_i hq
              simp only [find]
              cases e2 : Nat.beq q m
              · exact ih2
              · rw [Nat.eq_of_beq_eq_true e2] at hq; exact absurd hq hm
            · exact ih2
        exact this l

theorem TR.filter {ρ : List Nat} {ts : List (Nat × V)} {tmps : Array Value} (h : TR ρ ts tmps) (ok : Nat → Bool) : TR ρ (ts.filter fun p => ok p.1) tmps := fun i => by
  rcases find_filter ok i ts with e | e
  · rw [e]; exact h i
  · rw [e]; exact D_any

theorem find_weakT {ts : List (Nat × V)} (i : Nat) : ∀ {l : List (Nat × V)}, weakT ts l → find i l = .any ∨ find i l = find i ts
  | [], _ => .inl rfl
  | (n, v) :: l, h => by
    simp only [find]
    cases e : Nat.beq n i
    · exact find_weakT i h.2
    · have : n = i := Nat.eq_of_beq_eq_true e
      subst this
      exact .inr h.1.symm

theorem TR.weak {ρ : List Nat} {ts l : List (Nat × V)} {tmps : Array Value} (h : TR ρ ts tmps) (k : weakT ts l) : TR ρ l tmps := fun i => by
  rcases find_weakT i k with e | e
  · rw [e]; exact D_any
  · rw [e]; exact h i

theorem find_inNT {n : Nat} (i : Nat) : ∀ {l : List (Nat × V)}, inNT n l = true → inN n (find i l) = true
  | [], _ => by simp [find, inN]
  | (m, v) :: l, h => by
    simp only [inNT, Bool.and_eq_true] at h
    simp only [find]
    cases Nat.beq m i
    · exact find_inNT i h.2
    · exact h.1

theorem TR.take {ρ : List Nat} {ts : List (Nat × V)} {tmps : Array Value} (h : TR ρ ts tmps) {n : Nat} (k : inNT n ts = true) : TR (ρ.take n) ts tmps := fun i => D_take (find_inNT i k) (h i)

/- deferred marks -/

def MR (ρ : List Nat) : List Nat → List Deferred → Prop
  | [], ds => ds = []
  | d :: ms, ds => ∃ r ds', ρ[d]? = some r ∧ ds = { target := .collected r, args := #[] } :: ds' ∧ MR ρ ms ds'

theorem MR.mono {ρ ρ' : List Nat} (k : ρ <+: ρ') : ∀ {ms : List Nat} {ds : List Deferred}, MR ρ ms ds → MR ρ' ms ds
  | [], ds, h => h
  | d :: ms, ds, h => by
    obtain ⟨r, ds', h1, h2, h3⟩ := h
    exact ⟨r, ds', pre_get k h1, h2, h3.mono k⟩

theorem MR.take {ρ : List Nat} {n : Nat} : ∀ {ms : List Nat} {ds : List Deferred}, inNM n ms = true → MR ρ ms ds → MR (ρ.take n) ms ds
  | [], ds, _, h => h
  | d :: ms, ds, i, h => by
    simp only [inNM, Bool.and_eq_true] at i
    obtain ⟨r, ds', h1, h2, h3⟩ := h
    exact ⟨r, ds', take_get h1 (by simpa [Nat.blt_eq] using i.1), h2, h3.take i.2⟩

/- a code sets only temporaries that are there -/

def okOps (n : Nat) (ops : List Oper) : Bool := ops.all fun o => match o.dst with | some d => Nat.blt d n | none => true

def okC (n : Nat) : Code → Bool
  | .region _ ops _ => okOps n ops.toList
  | .seq a b => okC n a && okC n b
  | .cond _ a b => okC n a && okC n b
  | .block _ a => okC n a
  | .loop a => okC n a
  | .scope a => okC n a
  | .rangeFunc _ ps a b => (ps.toList.all fun d => Nat.blt d n) && okC n a && okC n b
  | _ => true

/- memory -/

def OR (ρ : List Nat) (o : Obj) : Blk → Prop
  | .cells vs => ∃ (us : Array Value) (T : TypeId), o = .cells us T (0, 0) ∧ Ds ρ vs us.toList
  | .loop st pend L => ∃ R : Loop, o = .loop R ∧ R.state = st ∧ R.pending = pend ∧ R.params.toList = L.ps ∧ R.assign = L.assign ∧ R.body = L.body ∧ TR ρ L.ts R.tmps ∧ ρ[L.d]? = some R.defers ∧
      okC R.tmps.size L.assign = true ∧ okC R.tmps.size L.body = true ∧ (L.ps.all fun d => Nat.blt d R.tmps.size) = true
  | .dfr => o = .deferred (some [])
  | .dead => True

theorem OR.mono {ρ ρ' : List Nat} {o : Obj} {b : Blk} (h : OR ρ o b) (k : ρ <+: ρ') : OR ρ' o b := by
  cases b with
  | cells vs => obtain ⟨us, T, h1, h2⟩ := h; exact ⟨us, T, h1, Ds_mono k h2⟩
  | loop st pend L =>
    obtain ⟨R, h1, h2, h3, h4, h5, h6, h7, h8, h9⟩ := h
    exact ⟨R, h1, h2, h3, h4, h5, h6, h7.mono k, pre_get k h8, h9⟩
  | dfr => exact h
  | dead => trivial

theorem OR.take {ρ : List Nat} {o : Obj} {b : Blk} {n : Nat} (h : OR ρ o b) (k : inNB n b = true) : OR (ρ.take n) o b := by
  cases b with
  | cells vs => obtain ⟨us, T, h1, h2⟩ := h; exact ⟨us, T, h1, Ds_takeN (by simpa [inNB] using k) h2⟩
  | loop st pend L =>
    simp only [inNB, Bool.and_eq_true] at k
    obtain ⟨R, h1, h2, h3, h4, h5, h6, h7, h8, h9⟩ := h
    exact ⟨R, h1, h2, h3, h4, h5, h6, h7.take k.1, take_get h8 (by simpa [Nat.blt_eq] using k.2), h9⟩
  | dfr => exact h
  | dead => trivial

/-- a table of numbers lies where its variable is -/
def GlAt (w : World) (g : Nat) (k : IntKind) (ns : List Int) : Prop := g < w.heap.size ∧ ∀ i, i < ns.length → w.cell? ⟨g, i, none⟩ = some (.int k (ns.getD i 0))

theorem GlAt.same {w w' : World} {g : Nat} {k : IntKind} {ns : List Int} (h : GlAt w g k ns) (e : w'.heap[g]? = w.heap[g]?) : GlAt w' g k ns := by
  have hs : g < w'.heap.size := by
    rcases Nat.lt_or_ge g w'.heap.size with k | k
    · exact k
    · rw [Array.getElem?_eq_none k, Array.getElem?_eq_getElem h.1] at e; cases e
  refine ⟨hs, fun i hi => ?_⟩
  rw [← h.2 i hi]
  unfold World.cell?
  simp only [e]

structure Rel (gs : List (Nat × (IntKind × List Int))) (ρ : List Nat) (hp : List Blk) (w : World) : Prop where
  len : ρ.length = hp.length
  inj : ∀ (i j r : Nat), ρ[i]? = some r → ρ[j]? = some r → i = j
  lt : ∀ r ∈ ρ, r < w.heap.size
  blk : ∀ (k : Nat) (b : Blk) (r : Nat), hp[k]? = some b → ρ[k]? = some r → ∃ o, w.heap[r]? = some o ∧ OR ρ o b
  gl : ∀ (g : Nat) (k : IntKind) (ns : List Int), assoc g gs = some (k, ns) → g ∉ ρ ∧ GlAt w g k ns

/-- what has come of memory -/
structure Gr (ρ : List Nat) (w : World) (ρ' : List Nat) (w' : World) : Prop where
  pre : ρ <+: ρ'
  new : ∀ r ∈ ρ', r ∈ ρ ∨ w.heap.size ≤ r
  os : w'.os = w.os
  tape : w'.tape = w.tape
  output : w'.output = w.output
  size : w.heap.size ≤ w'.heap.size
  old : ∀ b, b < w.heap.size → b ∉ ρ → w'.heap[b]? = w.heap[b]?

theorem Gr.refl (ρ : List Nat) (w : World) : Gr ρ w ρ w := ⟨List.prefix_rfl, fun r h => .inl h, rfl, rfl, rfl, Nat.le_refl _, fun _ _ _ => rfl⟩

theorem Gr.trans {ρ ρ1 ρ2 : List Nat} {w w1 w2 : World} (h : Gr ρ w ρ1 w1) (k : Gr ρ1 w1 ρ2 w2) : Gr ρ w ρ2 w2 := by
  refine ⟨h.pre.trans k.pre, fun r hr => ?_, k.os.trans h.os, k.tape.trans h.tape, k.output.trans h.output, Nat.le_trans h.size k.size, fun b hb hn => ?_⟩
  · rcases k.new r hr with h1 | h1
    · exact h.new r h1
    · exact .inr (Nat.le_trans h.size h1)
  · have h1 : b ∉ ρ1 := fun hm => by
      rcases h.new b hm with h2 | h2
      · exact hn h2
      · omega
    rw [k.old b (Nat.lt_of_lt_of_le hb h.size) h1, h.old b hb hn]

theorem Gr.drew {ρ : List Nat} {w : World} (n : Nat) : Gr ρ w ρ { w with drawn := n } := ⟨List.prefix_rfl, fun r h => .inl h, rfl, rfl, rfl, Nat.le_refl _, fun _ _ _ => rfl⟩

theorem Rel.drew {gs ρ hp} {w : World} (h : Rel gs ρ hp w) (n : Nat) : Rel gs ρ hp { w with drawn := n } := ⟨h.len, h.inj, h.lt, h.blk, h.gl⟩

/-- only ρ's first blocks are looked at -/
theorem Gr.back {ρ ρ' : List Nat} {w w' : World} (h : Gr ρ w ρ' w') : Gr ρ w ρ w' := ⟨List.prefix_rfl, fun r h => .inl h, h.os, h.tape, h.output, h.size, h.old⟩

theorem mem_of_get {ρ : List Nat} {k r : Nat} (h : ρ[k]? = some r) : r ∈ ρ := List.mem_of_getElem? h

theorem get_snoc (ρ : List Nat) (r : Nat) {k x : Nat} (h : (ρ ++ [r])[k]? = some x) : ρ[k]? = some x ∨ (k = ρ.length ∧ x = r) := by
  rw [List.getElem?_append] at h
  split at h
  · exact .inl h
  · rename_i hk
    refine .inr ?_
    have : k - ρ.length = 0 := by
      rcases Nat.eq_zero_or_pos (k - ρ.length) with e | e
      · exact e
      · rw [List.getElem?_eq_none (by simp; omega)] at h; cases h
    rw [this] at h
    simp at h
    exact ⟨by omega, h.symm⟩

theorem Rel.alloc {gs ρ hp} {w : World} (h : Rel gs ρ hp w) (o : Obj) (b : Blk) (k : OR (ρ ++ [w.heap.size]) o b) :
    Rel gs (ρ ++ [w.heap.size]) (hp ++ [b]) (w.alloc o) ∧ Gr ρ w (ρ ++ [w.heap.size]) (w.alloc o) := by
  have hs : (w.alloc o).heap.size = w.heap.size + 1 := by show (w.heap.push o).size = _; simp
  have hold : ∀ r, r < w.heap.size → (w.alloc o).heap[r]? = w.heap[r]? := fun r hr => by
    show (w.heap.push o)[r]? = _; rw [Array.getElem?_push, if_neg (by omega)]
  have hpre : ρ <+: ρ ++ [w.heap.size] := List.prefix_append _ _
  refine ⟨⟨by simp [h.len], fun i j r hi hj => ?_, fun r hr => ?_, fun j b' r hb hr => ?_, fun g k' ns hg => ?_⟩, hpre, fun r hr => ?_, rfl, rfl, rfl, by omega, fun r hr _ => hold r hr⟩
  · rcases get_snoc _ _ hi with h1 | ⟨h1, h1'⟩ <;> rcases get_snoc _ _ hj with h2 | ⟨h2, h2'⟩
    · exact h.inj i j r h1 h2
    · have := h.lt r (mem_of_get h1); omega
    · have := h.lt r (mem_of_get h2); omega
    · omega
  · rcases List.mem_append.mp hr with h1 | h1
    · have := h.lt r h1; omega
    · simp at h1; omega
  · rcases get_snoc _ _ hr with h1 | ⟨h1, h1'⟩
    · have hj : j < hp.length := by rw [← h.len]; exact (List.getElem?_eq_some_iff.mp h1).1
      rw [List.getElem?_append_left hj] at hb
      obtain ⟨o', h2, h3⟩ := h.blk j b' r hb h1
      exact ⟨o', by rw [hold r (h.lt r (mem_of_get h1))]; exact h2, h3.mono hpre⟩
    · subst h1'
      rw [h1, h.len, List.getElem?_append_right (Nat.le_refl _)] at hb
      simp at hb
      subst hb
      exact ⟨o, by show (w.heap.push o)[w.heap.size]? = _; simp, k⟩
  · obtain ⟨h1, h2⟩ := h.gl g k' ns hg
    have hlt : g < w.heap.size := h2.1
    refine ⟨fun hm => ?_, h2.same (hold g hlt)⟩
    rcases List.mem_append.mp hm with h3 | h3
    · exact h1 h3
    · simp at h3; omega
  · rcases List.mem_append.mp hr with h1 | h1
    · exact .inl h1
    · simp at h1; exact .inr (by omega)

/-- a block of our own becomes another -/
theorem Rel.put {gs ρ hp} {w : World} (h : Rel gs ρ hp w) {k r : Nat} (hr : ρ[k]? = some r) (o : Obj) (b : Blk) (q : OR ρ o b) :
    Rel gs ρ (hp.set k b) { w with heap := w.heap.setIfInBounds r o } ∧ Gr ρ w ρ { w with heap := w.heap.setIfInBounds r o } := by
  have hlt := h.lt r (mem_of_get hr)
  refine ⟨⟨by simp [h.len], h.inj, fun x hx => by simpa using h.lt x hx, fun j b' x hb hx => ?_, fun g k' ns hg => ?_⟩, List.prefix_rfl, fun r h => .inl h, rfl, rfl, rfl, by simp, fun b' hb hn => ?_⟩
  · rw [List.getElem?_set] at hb
    split at hb
    · rename_i e
      subst e
      have e2 : r = x := by rw [hr] at hx; exact Option.some.inj hx
      subst e2
      split at hb
      · cases hb
        exact ⟨o, by simp [hlt], q⟩
      · cases hb
    · rename_i e
      obtain ⟨o', h2, h3⟩ := h.blk j b' x hb hx
      refine ⟨o', ?_, h3⟩
      have hne : r ≠ x := fun e2 => e (h.inj k j r hr (e2 ▸ hx))
      show (w.heap.setIfInBounds r o)[x]? = _
      rw [Array.getElem?_setIfInBounds_ne hne]; exact h2
  · obtain ⟨h1, h2⟩ := h.gl g k' ns hg
    refine ⟨h1, h2.same ?_⟩
    have hne : r ≠ g := fun e => h1 (e ▸ mem_of_get hr)
    show (w.heap.setIfInBounds r o)[g]? = _
    rw [Array.getElem?_setIfInBounds_ne hne]
  · have hne : r ≠ b' := fun e => hn (e ▸ mem_of_get hr)
    show (w.heap.setIfInBounds r o)[b']? = _
    rw [Array.getElem?_setIfInBounds_ne hne]

theorem inNH_get {n : Nat} : ∀ {l : List Blk} {k : Nat} {b : Blk}, inNH n l = true → l[k]? = some b → inNB n b = true
  | [], k, b, _, h => by simp at h
  | x :: l, 0, b, i, h => by simp only [inNH, Bool.and_eq_true] at i; simp at h; subst h; exact i.1
  | x :: l, k + 1, b, i, h => by simp only [inNH, Bool.and_eq_true] at i; exact inNH_get i.2 (by simpa using h)

theorem Rel.take {gs ρ hp} {w : World} (h : Rel gs ρ hp w) (n : Nat) (i : inNH n (hp.take n) = true) : Rel gs (ρ.take n) (hp.take n) w := by
  have hg : ∀ {k r : Nat}, (ρ.take n)[k]? = some r → k < n ∧ ρ[k]? = some r := fun {k r} hk => by
    rw [List.getElem?_take] at hk
    split at hk
    · exact ⟨by assumption, hk⟩
    · cases hk
  refine ⟨by simp [h.len], fun a b r ha hb => h.inj a b r (hg ha).2 (hg hb).2, fun r hr => h.lt r (List.mem_of_mem_take hr), fun k b r hb hr => ?_, fun g k ns hg' => ?_⟩
  · obtain ⟨hk, hr'⟩ := hg hr
    have hb' := hb
    rw [List.getElem?_take, if_pos hk] at hb'
    obtain ⟨o, h1, h2⟩ := h.blk k b r hb' hr'
    exact ⟨o, h1, h2.take (inNH_get i hb)⟩
  · obtain ⟨h1, h2⟩ := h.gl g k ns hg'
    exact ⟨fun hm => h1 (List.mem_of_mem_take hm), h2⟩
end Go.Ab
