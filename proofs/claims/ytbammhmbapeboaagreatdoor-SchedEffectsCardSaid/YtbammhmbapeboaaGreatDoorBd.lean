/- Soundness of Ba: operations that make memory or write to it. -/
import Derived.MapKept
import Derived.Carry
import Derived.Test.YtbammhmbapeboaaGreatDoorBc
import Derived.Laws.AppendOwn
import Derived.Lib.OthersKept
import Derived.Laws.RangeString
import Derived.Laws.MakeOwn
namespace Go.B
open Go
set_option linter.unusedVariables false
set_option linter.unusedSimpArgs false
set_option linter.unusedSectionVars false

theorem TR.put {ρ : Env} {ts : List (Nat × V)} {a : Act} (h : TR ρ ts a.tmps) {d : Option Tmp} (hd : ∀ x, d = some x → x < a.tmps.size) {v : V} {u : Value} (k : D ρ v u) : TR ρ (putT d v ts) (a.put d u).tmps := by
  cases d with
  | none => exact h
  | some d => exact h.ins (hd d rfl) k

theorem put_size (a : Act) (d : Option Tmp) (u : Value) : (a.put d u).tmps.size = a.tmps.size := by cases d <;> simp [Act.put]

theorem put_defers (a : Act) (d : Option Tmp) (u : Value) : (a.put d u).defers = a.defers := by cases d <;> rfl

theorem D_undef {ρ : Env} : D ρ (.tup []) undef := by simp [D, Ds, undef]

theorem setRow_eq {w : World} {g : Nat} {old cs : Array Value} {T : TypeId} {fr : Nat × Nat} (h : w.heap[g]? = some (.cells old T fr)) : w.setRow g cs = { w with heap := w.heap.setIfInBounds g (.cells cs T fr) } := by
  have hlt : g < w.heap.size := (Array.getElem?_eq_some_iff.1 h).1
  unfold World.setRow
  congr 1
  apply Array.ext_getElem?
  intro i
  rw [Array.getElem?_modify]
  by_cases e : g = i
  · subst e
    rw [if_pos rfl, h]
    simp [hlt]
  · rw [if_neg e, Array.getElem?_setIfInBounds_ne e]

/- plain data out of cells -/

theorem castL_of {a b : Ty} {l : List a.den} {l' : List b.den} (h : castL a b l = some l') : ∃ e : a = b, e ▸ l = l' := by
  unfold castL at h
  split at h
  · rename_i e; cases h; exact ⟨e, rfl⟩
  · cases h

theorem popInt_of {k : IntKind} {vs r : List V} {n : Int} (h : popInt k vs = some (n, r)) : vs = .int k n :: r := by
  unfold popInt at h
  split at h
  · split at h
    · rename_i hk
      have := kindEq_of hk
      subst this
      cases h; rfl
    · cases h
  · cases h

theorem popBool_of {vs r : List V} {n : Bool} (h : popBool vs = some (n, r)) : vs = .bool n :: r := by
  unfold popBool at h
  split at h
  · cases h; rfl
  · cases h

theorem popStr_of {vs r : List V} {n : ByteArray} (h : popStr vs = some (n, r)) : vs = .str n :: r := by
  unfold popStr at h
  split at h
  · cases h; rfl
  · cases h

theorem popAgg_of {vs r cs : List V} (h : popAgg vs = some (cs, r)) : vs = .agg cs :: r := by
  unfold popAgg at h
  split at h
  · cases h; rfl
  · cases h

theorem popTup_of {vs r cs : List V} (h : popTup vs = some (cs, r)) : vs = .tup cs :: r := by
  unfold popTup at h
  split at h
  · cases h; rfl
  · cases h

theorem nil_of {v : V} (h : nil? v = true) : v = .old (.slice none 0 0) := by
  unfold nil? at h
  split at h
  · rfl
  · cases h

theorem popSl_of {t : Ty} {vs r : List V} {l : List t.den} (h : popSl t vs = some (l, r)) : (∃ c, vs = .sl t l c :: r) ∨ (vs = .old (.slice none 0 0) :: r ∧ l = []) := by
  unfold popSl at h
  split at h
  · split at h
    · split at h
      · rename_i l' hl
        cases h
        obtain ⟨e, hl⟩ := castL_of hl
        subst e
        subst hl
        exact .inl ⟨_, rfl⟩
      · cases h
    · split at h
      · rename_i hn
        cases h
        rw [nil_of hn]
        exact .inr ⟨rfl, rfl⟩
      · cases h
  · cases h

theorem of_sound {ρ : Env} : ∀ {t : Ty} {vs : List V} {us : List Value} {x : t.den} {r : List V}, Ds ρ vs us → t.of vs = some (x, r) → ∃ u v, us = u ++ v ∧ Deep ρ.M t x u ∧ Ds ρ r v
  | .int k, vs, us, x, r, d, h => by
    rw [popInt_of h, Ds_cons] at d
    obtain ⟨u, us', rfl, d1, d2⟩ := d
    simp only [D] at d1
    subst d1
    exact ⟨[_], us', rfl, rfl, d2⟩
  | .bool, vs, us, x, r, d, h => by
    rw [popBool_of h, Ds_cons] at d
    obtain ⟨u, us', rfl, d1, d2⟩ := d
    simp only [D] at d1
    subst d1
    exact ⟨[_], us', rfl, rfl, d2⟩
  | .str, vs, us, x, r, d, h => by
    rw [popStr_of h, Ds_cons] at d
    obtain ⟨u, us', rfl, d1, d2⟩ := d
    simp only [D] at d1
    subst d1
    exact ⟨[_], us', rfl, rfl, d2⟩
  | .sl t, vs, us, x, r, d, h => by
    rcases popSl_of h with ⟨c, e⟩ | ⟨e, e2⟩
    · rw [e, Ds_cons] at d
      obtain ⟨u, us', rfl, d1, d2⟩ := d
      simp only [D] at d1
      obtain ⟨a, cp, rfl, h2, _, h4⟩ := d1
      exact ⟨[_], us', rfl, Deep_sl.mpr ⟨a, cp, rfl, h2, h4⟩, d2⟩
    · subst e2
      rw [e, Ds_cons] at d
      obtain ⟨u, us', rfl, d1, d2⟩ := d
      simp only [D] at d1
      subst d1
      exact ⟨[_], us', rfl, Deep_sl.mpr ⟨none, 0, rfl, Nat.le_refl _, .inl rfl⟩, d2⟩
  | .pr a b, vs, us, x, r, d, h => by
    unfold Ty.of at h
    split at h
    · rename_i y q hy
      split at h
      · rename_i y' q' hy'
        cases h
        obtain ⟨u1, v1, rfl, d1, d2⟩ := of_sound d hy
        obtain ⟨u2, v2, rfl, d3, d4⟩ := of_sound d2 hy'
        exact ⟨u1 ++ u2, v2, by simp, ⟨u1, u2, rfl, d1, d3⟩, d4⟩
      · cases h
    · cases h

theorem whole_sound {ρ : Env} {t : Ty} {vs : List V} {us : List Value} {x : t.den} (d : Ds ρ vs us) (h : t.whole vs = some x) : Deep ρ.M t x us := by
  unfold Ty.whole at h
  split at h
  · rename_i y hy
    cases h
    obtain ⟨u, v, rfl, d1, d2⟩ := of_sound d hy
    rw [Ds_nil] at d2
    subst d2
    simpa using d1
  · cases h

theorem Elems_cons {M : Nat → Option Obj} {t : Ty} {x : t.den} {l : List t.den} {u v : List Value} (h : Deep M t x u) (k : Elems M t l v 0) : Elems M t (x :: l) (u ++ v) 0 := by
  intro i hi
  have hl := Deep_len h
  cases i with
  | zero =>
    simp only [Nat.zero_mul, Nat.add_zero, List.drop_zero, List.getElem_cons_zero]
    rw [← hl, List.take_left]
    exact h
  | succ i =>
    have := k i (by simpa using hi)
    simp only [List.getElem_cons_succ]
    rw [Nat.zero_add] at *
    rw [show (i + 1) * t.size = u.length + i * t.size by rw [hl, Nat.add_mul]; omega, ← List.drop_drop, List.drop_left]
    exact this

theorem many_sound {ρ : Env} {t : Ty} : ∀ {n : Nat} {vs : List V} {us : List Value} {l : List t.den}, Ds ρ vs us → t.many n vs = some l → l.length = n ∧ Elems ρ.M t l us 0 ∧ n * t.size ≤ us.length
  | 0, vs, us, l, d, h => by
    simp only [Ty.many] at h
    cases h
    exact ⟨rfl, Elems_nil, by simp⟩
  | n + 1, vs, us, l, d, h => by
    simp only [Ty.many] at h
    split at h
    · rename_i x r hx
      split at h
      · rename_i l' hl
        cases h
        obtain ⟨u, v, rfl, d1, d2⟩ := of_sound d hx
        obtain ⟨e1, e2, e3⟩ := many_sound d2 hl
        refine ⟨by simp [e1], Elems_cons d1 e2, ?_⟩
        rw [List.length_append, Deep_len d1, Nat.add_mul]
        omega
      · cases h
    · cases h

theorem Deep_one {M : Nat → Option Obj} : ∀ {t : Ty} {x : t.den} {us : List Value}, Deep M t x us → ∀ u ∈ us, u.oneCell' = true
  | .int _, _, _, d => by have d : _ = _ := d; rw [d]; simp [Value.oneCell']
  | .bool, _, _, d => by have d : _ = _ := d; rw [d]; simp [Value.oneCell']
  | .str, _, _, d => by have d : _ = _ := d; rw [d]; simp [Value.oneCell']
  | .sl _, _, _, d => by obtain ⟨a, c, h1, _⟩ := d; rw [h1]; simp [Value.oneCell']
  | .pr a b, _, _, d => by
    obtain ⟨u, v, rfl, h2, h3⟩ := d
    intro x hx
    rcases List.mem_append.mp hx with hx | hx
    · exact Deep_one h2 x hx
    · exact Deep_one h3 x hx

theorem Elems_cut {M : Nat → Option Obj} {t : Ty} {l : List t.den} {us : List Value} {o : Nat} (h : Elems M t l us o) (a n : Nat) : Elems M t ((l.drop a).take n) us (o + a * t.size) := by
  intro i hi
  have hi' : a + i < l.length := by simp at hi; omega
  have := h (a + i) hi'
  rw [Nat.add_mul, ← Nat.add_assoc] at this
  simpa using this

theorem Elems_append {M : Nat → Option Obj} {t : Ty} {l k : List t.den} {us vs : List Value} (h : Elems M t l us 0) (hl : us.length = l.length * t.size) (g : Elems M t k vs 0) : Elems M t (l ++ k) (us ++ vs) 0 := by
  intro i hi
  rw [Nat.zero_add]
  by_cases hil : i < l.length
  · have := h i hil
    rw [Nat.zero_add] at this
    have hle : i * t.size + t.size ≤ us.length := by
      rw [hl]
      have := Nat.mul_le_mul_right t.size hil
      rw [Nat.succ_mul] at this
      exact this
    rw [List.getElem_append_left hil, List.drop_append_of_le_length (by omega), List.take_append_of_le_length (by simp; omega)]
    exact this
  · have hi2 : i - l.length < k.length := by simp at hi; omega
    have := g (i - l.length) hi2
    rw [Nat.zero_add] at this
    rw [List.getElem_append_right (by omega)]
    rw [show i * t.size = us.length + (i - l.length) * t.size by rw [hl, ← Nat.add_mul]; congr 1; omega, ← List.drop_drop, List.drop_left]
    exact this

/-- a part of memory that holds a row -/
theorem seg {M : Nat → Option Obj} {t : Ty} {l : List t.den} {cs : List Value} {o : Nat} (h : Elems M t l cs o) : ((cs.drop o).take (l.length * t.size)).length = l.length * t.size ∧ Elems M t l ((cs.drop o).take (l.length * t.size)) 0 ∧ ∀ u ∈ (cs.drop o).take (l.length * t.size), u.oneCell' = true := by
  have hlen : ((cs.drop o).take (l.length * t.size)).length = l.length * t.size := by
    rcases Nat.eq_zero_or_pos l.length with e | e
    · simp [e]
    · have h1 := Deep_len (h (l.length - 1) (by omega))
      simp only [List.length_take, List.length_drop] at h1 ⊢
      have hp := t.size_pos
      have e2 : (l.length - 1) * t.size + t.size = l.length * t.size := by
        have : l.length - 1 + 1 = l.length := by omega
        rw [← Nat.succ_mul, Nat.succ_eq_add_one, this]
      omega
  have hel : Elems M t l ((cs.drop o).take (l.length * t.size)) 0 := by
    intro i hi
    have := h i hi
    rw [Nat.zero_add]
    have hle : i * t.size + t.size ≤ l.length * t.size := by
      have := Nat.mul_le_mul_right t.size hi
      rw [Nat.succ_mul] at this
      exact this
    rw [List.drop_take, List.take_take, Nat.min_eq_left (by omega), List.drop_drop]
    exact this
  refine ⟨hlen, hel, fun u hu => ?_⟩
  obtain ⟨j, hj, rfl⟩ := List.getElem_of_mem hu
  have hp := t.size_pos
  have hi : j / t.size < l.length := (Nat.div_lt_iff_lt_mul hp).mpr (by omega)
  have h2 := hel (j / t.size) hi
  rw [Nat.zero_add] at h2
  refine Deep_one h2 _ ?_
  have hm := Nat.mod_lt j hp
  have he := Nat.div_add_mod j t.size
  rw [Nat.mul_comm] at he
  refine List.mem_iff_getElem?.mpr ⟨j % t.size, ?_⟩
  rw [List.getElem?_take, if_pos hm, List.getElem?_drop, he, List.getElem?_eq_getElem hj]

/-- what a row's content is in memory -/
def Lies (M : Nat → Option Obj) (t : Ty) (l : List t.den) (w : World) (u : Value) : Prop :=
  ∃ a c, u = .slice a l.length c ∧ l.length ≤ c ∧ (l = [] ∨ ∃ r o cs T fr, a = some ⟨r, o, none⟩ ∧ w.heap[r]? = some (.cells cs T fr) ∧ Elems M t l cs.toList o)

theorem Lies.nil {M : Nat → Option Obj} {t : Ty} {w : World} {a : Option Addr} {c : Nat} : Lies M t [] w (.slice a 0 c) := ⟨a, c, rfl, Nat.zero_le _, .inl rfl⟩

theorem Lies.of {M : Nat → Option Obj} {t : Ty} {l : List t.den} {w : World} {r o c : Nat} {cs : Array Value} {T : TypeId} {fr : Nat × Nat} (h : w.heap[r]? = some (.cells cs T fr)) (e : Elems M t l cs.toList o) (hc : l.length ≤ c) : Lies M t l w (.slice (some ⟨r, o, none⟩) l.length c) :=
  ⟨_, c, rfl, hc, .inr ⟨r, o, cs, T, fr, rfl, h, e⟩⟩

theorem Lies.src {P : Program} {M : Nat → Option Obj} {t : Ty} {l : List t.den} {w : World} {u : Value} (h : Lies M t l w u) {tx e' : TypeId} (hk : P.underlying tx = some (.slice e')) :
    ∃ news, news.length = l.length * t.size ∧ Elems M t l news 0 ∧ (∀ x ∈ news, x.oneCell' = true) ∧ Src P t.size tx u l.length news w := by
  obtain ⟨a, c, rfl, _, h4⟩ := h
  rcases h4 with rfl | ⟨r, o, cs, T, fr, rfl, h4, h5⟩
  · refine ⟨[], by simp, Elems_nil, fun _ h => (by cases h), ?_⟩
    cases a with
    | none => exact Src.ofNil w hk c
    | some a => exact Src.ofSlice w hk a 0 c [] (by simp) (fun j u hj => (by simp at hj)) (fun _ hx => (by cases hx))
  · obtain ⟨h1, h2, h3⟩ := seg h5
    refine ⟨_, h1, h2, h3, Src.ofSlice w hk ⟨r, o, none⟩ l.length c _ h1 (fun j x hj => ?_) h3⟩
    rw [addr_add]
    rw [List.getElem?_take] at hj
    split at hj
    · rw [List.getElem?_drop] at hj
      rw [cell_at h4]; simpa using hj
    · cases hj

theorem fold_bytes : ∀ (l : List Int) (r : ByteArray), l.foldl (fun r n => r.push (UInt8.ofNat n.toNat)) r = ⟨r.data ++ (l.map fun n => UInt8.ofNat n.toNat).toArray⟩
  | [], r => by simp
  | n :: l, r => by
    rw [List.foldl_cons, fold_bytes l]
    simp [ByteArray.push]

theorem Lies.text {P : Program} {M : Nat → Option Obj} {l : List Int} {w : World} {u : Value} (h : Lies M (.int .u8) l w u) {src dst e' : TypeId} (hs : P.underlying src = some (.slice e')) (he : P.underlying e' = some (.int .u8)) (hd : P.underlying dst = some .string) :
    (convert src dst u).run P w = .ok (.string (bytesOf l)) w := by
  obtain ⟨a, c, rfl, _, h4⟩ := h
  rw [run_convert_bytes_string w src dst e' a l.length c hs he hd]
  have fin : ∀ a : Addr, (∀ (j : Nat) (v : Value), (l.map (Value.int .u8))[j]? = some v → w.cell? (a.add j) = some v) → (Conv.bytesToString (.slice (some a) l.length c)).run P w = .ok (.string (bytesOf l)) w := by
    intro a ha
    have hl := run_loadCells_list (P := P) w a (l.map (Value.int .u8)) ha
    rw [List.length_map] at hl
    rw [run_bytesToString w a l.length c l hl, fold_bytes]
    have he0 : ByteArray.empty.data = #[] := rfl
    rw [he0, Array.empty_append]
    rfl
  rcases h4 with rfl | ⟨r, o, cs, T, fr, rfl, h4, h5⟩
  · cases a with
    | none => simp [Conv.bytesToString]; rfl
    | some a => exact fin a (fun j v hj => by simp at hj)
  · refine fin _ fun j v hj => ?_
    rw [addr_add]
    rw [List.getElem?_map] at hj
    cases hg : l[j]? with
    | none => rw [hg] at hj; cases hj
    | some n =>
      rw [hg] at hj
      cases hj
      obtain ⟨hlt, hn⟩ := List.getElem?_eq_some_iff.mp hg
      have hx : (cs.toList.drop (o + j * 1)).take 1 = [Value.int .u8 n] := by
        have := h5 j hlt
        rw [hn] at this
        exact this
      rw [Nat.mul_one] at hx
      have h0 := congrArg (·[0]?) hx
      simp only [List.getElem?_take, List.getElem?_drop] at h0
      rw [cell_at h4]
      simpa using h0
section
variable {gs : List (Nat × CF)} {ρ : Env} {hp : List Blk} {w : World}

theorem len_nil {α : Type} {l : List α} (h : l.length = 0) : l = [] := List.eq_nil_of_length_eq_zero h

theorem con_lies (R : Rel gs ρ hp w) {v : V} {u : Value} (d : D ρ v u) {t : Ty} {l : List t.den} (h : con hp t v = some (l, true)) : Lies ρ.M t l w u := by
  unfold con at h
  split at h
  · rename_i t' l' cp
    split at h
    · rename_i l2 hl
      cases h
      obtain ⟨e, hl⟩ := castL_of hl
      subst e
      subst hl
      simp only [D] at d
      obtain ⟨a, cp', rfl, h2, _, h4⟩ := d
      rcases h4 with h0 | ⟨r, o, cs, T, fr, rfl, h5, h6⟩
      · subst h0; exact Lies.nil
      · exact Lies.of (R.im _ _ h5).1 h6 h2
    · cases h
  · rename_i k z n cp
    split at h
    · rename_i t' l' hrow
      split at h
      · rename_i hz
        have hz := Nat.eq_of_beq_eq_true hz
        split at h
        · rename_i l2 hl
          simp only [Option.some.injEq, Prod.mk.injEq] at h
          obtain ⟨rfl, hn⟩ := h
          have hn := Nat.eq_of_beq_eq_true hn
          obtain ⟨e, hl⟩ := castL_of hl
          subst e
          subst hl
          simp only at hn
          subst hn
          simp only [D] at d
          rcases d with ⟨h0, _, a, rfl⟩ | ⟨hc, r, hr, rfl⟩
          · rw [len_nil h0]; exact Lies.nil
          · rcases row_all R hrow hr with h0 | ⟨us, T', q1, q2⟩
            · simp only at h0; rw [h0]; exact Lies.nil
            · exact Lies.of q1 q2 hc.2
        · cases h
      · cases h
    · cases h
  · rename_i k z o n cp
    split at h
    · rename_i t' l' hrow
      split at h
      · rename_i hz
        have hz := Nat.eq_of_beq_eq_true hz
        split at h
        · rename_i l2 hl
          simp only [Option.some.injEq, Prod.mk.injEq] at h
          obtain ⟨rfl, hn⟩ := h
          have hn := Nat.le_of_ble_eq_true hn
          obtain ⟨e, hl⟩ := castL_of hl
          subst e
          subst hl
          simp only at hn hz
          have hlen : ((l'.drop o).take n).length = n := by simp; omega
          simp only [D] at d
          rcases d with ⟨h0, _, a, rfl⟩ | ⟨r, hr, rfl, hc⟩
          · subst h0
            rw [show List.take 0 (List.drop o l') = [] by simp]; exact Lies.nil
          · rcases row_all R hrow hr with h0 | ⟨us, T', q1, q2⟩
            · simp only at h0
              subst h0
              have : n = 0 := by simp at hn; omega
              subst this
              rw [show List.take 0 (List.drop o ([] : List t'.den)) = [] by simp]; exact Lies.nil
            · have q3 := Elems_cut q2 o n
              rw [Nat.zero_add] at q3
              subst hz
              have := Lies.of (c := cp) q1 q3 (by simp only at hlen ⊢; omega)
              rwa [hlen] at this
        · cases h
      · cases h
    · cases h
  · rename_i k o n cp
    split at h
    · rename_i vs hk
      split at h
      · rename_i l2 hl
        simp only [Option.some.injEq, Prod.mk.injEq] at h
        obtain ⟨rfl, hn⟩ := h
        have hn := Nat.le_of_ble_eq_true hn
        simp only [D] at d
        obtain ⟨r, hr, rfl, hc⟩ := d
        obtain ⟨ob, h1, us, T', rfl, h2⟩ := R.get hk hr id
        obtain ⟨e1, e2, _⟩ := many_sound (Ds_drop h2 o) hl
        have e3 := Elems_cut e2 0 n
        simp only [List.drop_zero, Nat.zero_mul, Nat.add_zero] at e3
        have e4 : Elems ρ.M t (l2.take n) us.toList o := by
          intro i hi
          have := e3 i hi
          rw [Nat.zero_add, List.drop_drop] at this
          exact this
        have hlen : (l2.take n).length = n := by simp; omega
        have := Lies.of (c := cp) h1 e4 (by omega)
        rwa [hlen] at this
      · cases h
    · cases h
  · split at h
    · rename_i hn
      cases h
      rw [nil_of hn] at d
      simp only [D] at d
      subst d
      exact Lies.nil
    · cases h

theorem ice1_sound (R : Rel gs ρ hp w) {v v' : V} {hp' : List Blk} {u : Value} (d : D ρ v u) (h : ice1 hp v = some (v', hp', true)) :
    ∃ ρ', Rel gs ρ' hp' w ∧ Gr ρ w ρ' w ∧ ρ'.l = ρ.l ∧ hp'.length = hp.length ∧ D ρ' v' u := by
  -- a row that is written to no more
  have key : ∀ {k : Nat} {t : Ty} {l : List t.den} {T : TypeId} {c' : Nat} (hk : hp[k]? = some (.row t l T c') ∨ hp[k]? = some (.ice t l T c')) {hp2 : List Blk}, hp2 = (match hp[k]? with | some (.row t l T c') => hp.set k (.ice t l T c') | _ => hp) →
      ∃ ρ', Rel gs ρ' hp2 w ∧ Gr ρ w ρ' w ∧ ρ'.l = ρ.l ∧ hp2.length = hp.length ∧ ∀ r, ρ.l[k]? = some r → l = [] ∨ ∃ us, ρ'.M r = some (.cells us T (0, 0)) ∧ Elems ρ'.M t l us.toList 0 := by
    intro k t l T c' hk hp2 e
    rcases hk with hk | hk
    · rw [hk] at e
      simp only at e
      subst e
      obtain ⟨r, hr⟩ : ∃ r, ρ.l[k]? = some r := by
        have := (List.getElem?_eq_some_iff.mp hk).1
        exact ⟨ρ.l[k]'(by rw [R.len]; exact this), List.getElem?_eq_getElem _⟩
      obtain ⟨ρ', h1, h2, h3, h4⟩ := R.freeze hk hr
      refine ⟨ρ', h2, h3, h1, by simp, fun r' hr' => ?_⟩
      rw [hr] at hr'; cases hr'
      rcases h4 with hf | ⟨o, q1, _, _, us, rfl, _, q5⟩
      · exact .inl hf.1
      · exact .inr ⟨us, q1, q5⟩
    · rw [hk] at e
      simp only at e
      subst e
      refine ⟨ρ, R, Gr.refl _ _, rfl, rfl, fun r hr => ?_⟩
      rcases R.ic k r _ hk hr rfl with hf | ⟨o, q1⟩
      · exact .inl hf.1
      · rcases R.blk k _ r hk hr with hf | ⟨o', q2, _, _, us, rfl, _, q5⟩
        · exact .inl hf.1
        · have := (R.im r o q1).1
          rw [this] at q2
          cases q2
          exact .inr ⟨us, q1, q5⟩
  have full : ∀ {k z n c : Nat} {t : Ty} {l : List t.den} {T : TypeId} {c' : Nat} (hk : hp[k]? = some (.row t l T c') ∨ hp[k]? = some (.ice t l T c')), D ρ (.row k z n c) u → Nat.beq n l.length = true → ∀ {hp2 : List Blk}, hp2 = (match hp[k]? with | some (.row t l T c') => hp.set k (.ice t l T c') | _ => hp) →
      ∃ ρ', Rel gs ρ' hp2 w ∧ Gr ρ w ρ' w ∧ ρ'.l = ρ.l ∧ hp2.length = hp.length ∧ D ρ' (.sl t l none) u := by
    intro k z n c t l T c' hk d hn hp2 e
    have hn := Nat.eq_of_beq_eq_true hn
    subst hn
    obtain ⟨ρ', h1, h2, h3, h4, h5⟩ := key hk e
    refine ⟨ρ', h1, h2, h3, h4, ?_⟩
    simp only [D] at d ⊢
    rcases d with ⟨h0, h0', a, rfl⟩ | ⟨hc, r, hr, rfl⟩
    · exact ⟨a, 0, by rw [h0], by omega, fun n h => (by cases h), .inl (len_nil h0)⟩
    · refine ⟨_, c, rfl, hc.2, fun n h => (by cases h), ?_⟩
      rcases h5 r hr with q | ⟨us, q1, q2⟩
      · exact .inl q
      · exact .inr ⟨r, 0, us, T, (0, 0), rfl, q1, q2⟩
  have prt : ∀ {k o n c : Nat} {t : Ty} {l : List t.den} {T : TypeId} {c' : Nat} (hk : hp[k]? = some (.row t l T c') ∨ hp[k]? = some (.ice t l T c')), D ρ (.rs k t.size o n c) u → Nat.ble (o + n) l.length = true → ∀ {hp2 : List Blk}, hp2 = (match hp[k]? with | some (.row t l T c') => hp.set k (.ice t l T c') | _ => hp) →
      ∃ ρ', Rel gs ρ' hp2 w ∧ Gr ρ w ρ' w ∧ ρ'.l = ρ.l ∧ hp2.length = hp.length ∧ D ρ' (.sl t ((l.drop o).take n) none) u := by
    intro k o n c t l T c' hk d hn hp2 e
    have hn := Nat.le_of_ble_eq_true hn
    obtain ⟨ρ', h1, h2, h3, h4, h5⟩ := key hk e
    refine ⟨ρ', h1, h2, h3, h4, ?_⟩
    have hlen : ((l.drop o).take n).length = n := by simp; omega
    simp only [D] at d ⊢
    rw [hlen]
    rcases d with ⟨h0, _, a, rfl⟩ | ⟨r, hr, rfl, hc⟩
    · exact ⟨a, 0, by rw [h0], by omega, fun n h => (by cases h), .inl (len_nil (by omega))⟩
    · refine ⟨_, c, rfl, hc, fun n h => (by cases h), ?_⟩
      rcases h5 r hr with q | ⟨us, q1, q2⟩
      · subst q; exact .inl (by simp)
      · have q3 := Elems_cut q2 o n
        rw [Nat.zero_add] at q3
        exact .inr ⟨r, o * t.size, us, T, (0, 0), rfl, q1, q3⟩
  unfold ice1 at h
  split at h
  · rename_i k z n c
    split at h
    · rename_i t l T c' hk
      split at h
      · simp only [Option.some.injEq, Prod.mk.injEq] at h
        obtain ⟨rfl, rfl, hn⟩ := h
        exact full (.inl hk) d hn (by rw [hk])
      · cases h
    · rename_i t l T c' hk
      split at h
      · simp only [Option.some.injEq, Prod.mk.injEq] at h
        obtain ⟨rfl, rfl, hn⟩ := h
        exact full (.inr hk) d hn (by rw [hk])
      · cases h
    · cases h
  · rename_i k z o n c
    split at h
    · rename_i t l T c' hk
      split at h
      · rename_i hz
        have hz := Nat.eq_of_beq_eq_true hz
        subst hz
        simp only [Option.some.injEq, Prod.mk.injEq] at h
        obtain ⟨rfl, rfl, hn⟩ := h
        exact prt (.inl hk) d hn (by rw [hk])
      · cases h
    · rename_i t l T c' hk
      split at h
      · rename_i hz
        have hz := Nat.eq_of_beq_eq_true hz
        subst hz
        simp only [Option.some.injEq, Prod.mk.injEq] at h
        obtain ⟨rfl, rfl, hn⟩ := h
        exact prt (.inr hk) d hn (by rw [hk])
      · cases h
    · cases h
  · simp only [Option.some.injEq, Prod.mk.injEq] at h
    obtain ⟨rfl, rfl, _⟩ := h
    exact ⟨ρ, R, Gr.refl _ _, rfl, rfl, d⟩
end
mutual

theorem ice_sound {gs : List (Nat × CF)} {w : World} : ∀ {v v' : V} {hp hp' : List Blk} {ρ : Env} {u : Value}, Rel gs ρ hp w → D ρ v u → ice hp v = some (v', hp', true) →
    ∃ ρ', Rel gs ρ' hp' w ∧ Gr ρ w ρ' w ∧ ρ'.l = ρ.l ∧ hp'.length = hp.length ∧ D ρ' v' u
  | .agg cs, v', hp, hp', ρ, u, R, d, h => by
    unfold ice at h
    split at h
    · rename_i cs' hp2 b hcs
      cases h
      simp only [D] at d
      obtain ⟨us, rfl, d⟩ := d
      obtain ⟨ρ', h1, h2, h3, h4, h5⟩ := ices_sound R d hcs
      exact ⟨ρ', h1, h2, h3, h4, by simp only [D]; exact ⟨us, rfl, h5⟩⟩
    · cases h
  | .any, v', hp, hp', ρ, u, R, d, h => ice1_sound R d (by simpa only [ice] using h)
  | .bool _, v', hp, hp', ρ, u, R, d, h => ice1_sound R d (by simpa only [ice] using h)
  | .int _ _, v', hp, hp', ρ, u, R, d, h => ice1_sound R d (by simpa only [ice] using h)
  | .str _, v', hp, hp', ρ, u, R, d, h => ice1_sound R d (by simpa only [ice] using h)
  | .ptr _ _, v', hp, hp', ρ, u, R, d, h => ice1_sound R d (by simpa only [ice] using h)
  | .gp _ _, v', hp, hp', ρ, u, R, d, h => ice1_sound R d (by simpa only [ice] using h)
  | .slc _ _ _ _, v', hp, hp', ρ, u, R, d, h => ice1_sound R d (by simpa only [ice] using h)
  | .fn _ _ _, v', hp, hp', ρ, u, R, d, h => ice1_sound R d (by simpa only [ice] using h)
  | .yld _, v', hp, hp', ρ, u, R, d, h => ice1_sound R d (by simpa only [ice] using h)
  | .tup _, v', hp, hp', ρ, u, R, d, h => ice1_sound R d (by simpa only [ice] using h)
  | .old _, v', hp, hp', ρ, u, R, d, h => ice1_sound R d (by simpa only [ice] using h)
  | .row _ _ _ _, v', hp, hp', ρ, u, R, d, h => ice1_sound R d (by simpa only [ice] using h)
  | .rs _ _ _ _ _, v', hp, hp', ρ, u, R, d, h => ice1_sound R d (by simpa only [ice] using h)
  | .rp _ _ _ _, v', hp, hp', ρ, u, R, d, h => ice1_sound R d (by simpa only [ice] using h)
  | .sl _ _ _, v', hp, hp', ρ, u, R, d, h => ice1_sound R d (by simpa only [ice] using h)
  | .sp _ _ _, v', hp, hp', ρ, u, R, d, h => ice1_sound R d (by simpa only [ice] using h)
  | .nw _ _ _, v', hp, hp', ρ, u, R, d, h => ice1_sound R d (by simpa only [ice] using h)
  | .mp _, v', hp, hp', ρ, u, R, d, h => ice1_sound R d (by simpa only [ice] using h)

theorem ices_sound {gs : List (Nat × CF)} {w : World} : ∀ {vs vs' : List V} {hp hp' : List Blk} {ρ : Env} {us : List Value}, Rel gs ρ hp w → Ds ρ vs us → ices hp vs = some (vs', hp', true) →
    ∃ ρ', Rel gs ρ' hp' w ∧ Gr ρ w ρ' w ∧ ρ'.l = ρ.l ∧ hp'.length = hp.length ∧ Ds ρ' vs' us
  | [], vs', hp, hp', ρ, us, R, d, h => by
    unfold ices at h
    cases h
    exact ⟨ρ, R, Gr.refl _ _, rfl, rfl, d⟩
  | v :: vs, vs', hp, hp', ρ, us, R, d, h => by
    unfold ices at h
    split at h
    · rename_i v1 hp1 b1 h1
      split at h
      · rename_i vs1 hp2 b2 h2
        simp only [Option.some.injEq, Prod.mk.injEq, Bool.and_eq_true] at h
        obtain ⟨rfl, rfl, rfl, rfl⟩ := h
        rw [Ds_cons] at d
        obtain ⟨u, us', rfl, d1, d2⟩ := d
        obtain ⟨ρ1, R1, G1, e1, l1, k1⟩ := ice_sound R d1 h1
        obtain ⟨ρ2, R2, G2, e2, l2, k2⟩ := ices_sound R1 (Ds_mono G1.pre d2) h2
        exact ⟨ρ2, R2, G1.trans G2, e2.trans e1, l2.trans l1, Ds_cons.mpr ⟨u, us', rfl, D_mono G2.pre k1, k2⟩⟩
      · cases h
    · cases h
end

/-- what is appended -/
theorem srcOf_sound {P : Program} {gs : List (Nat × CF)} {ρ : Env} {hp hp' : List Blk} {w : World} (R : Rel gs ρ hp w) {v : V} {u : Value} (d : D ρ v u) {t : Ty} {l : List t.den} (h : srcOf hp t v = some (l, hp', true))
    {tx : TypeId} (hk : (∃ e', P.underlying tx = some (.slice e')) ∨ (∃ b, v = .str b) ∧ P.underlying tx = some .string) :
    ∃ ρ' news, Rel gs ρ' hp' w ∧ Gr ρ w ρ' w ∧ ρ'.l = ρ.l ∧ hp'.length = hp.length ∧ news.length = l.length * t.size ∧ Elems ρ'.M t l news 0 ∧ (∀ x ∈ news, x.oneCell' = true) ∧ Src P t.size tx u l.length news w := by
  unfold srcOf at h
  split at h
  · rename_i k o n c
    rcases hk with ⟨e', hk⟩ | ⟨⟨b, hb⟩, _⟩
    rotate_left
    · cases hb
    split at h
    · rename_i vs hvs
      split at h
      · rename_i vs' hp2 b hice
        split at h
        · rename_i l2 hl
          simp only [Option.some.injEq, Prod.mk.injEq, Bool.and_eq_true] at h
          obtain ⟨rfl, rfl, rfl, hn⟩ := h
          have hn := Nat.le_of_ble_eq_true hn
          simp only [D] at d
          obtain ⟨r, hr, rfl, hc⟩ := d
          obtain ⟨ob, h1, us, T', rfl, h2⟩ := R.get (cellsAt_spec hvs) hr id
          obtain ⟨ρ', R', G', e1, e2, d'⟩ := ices_sound R h2 hice
          obtain ⟨m1, m2, _⟩ := many_sound (Ds_drop d' o) hl
          have e3 := Elems_cut m2 0 n
          simp only [List.drop_zero, Nat.zero_mul, Nat.add_zero] at e3
          have e4 : Elems ρ'.M t (l2.take n) us.toList o := by
            intro i hi
            have := e3 i hi
            rw [Nat.zero_add, List.drop_drop] at this
            exact this
          have hlen : (l2.take n).length = n := by simp; omega
          have L := Lies.of (c := c) h1 e4 (by omega)
          rw [hlen] at L
          obtain ⟨news, n1, n2, n3, n4⟩ := L.src (P := P) hk
          exact ⟨ρ', news, R', G', e1, e2, n1, n2, n3, n4⟩
        · cases h
      · cases h
    · cases h
  · rename_i b
    split at h
    · rename_i l2 hl
      simp only [Option.some.injEq, Prod.mk.injEq] at h
      obtain ⟨rfl, rfl, _⟩ := h
      obtain ⟨e, hl⟩ := castL_of hl
      subst e
      subst hl
      simp only [D] at d
      subst d
      have hn : (byteCells b).length = (b.data.toList.map fun x => ((x.toNat : Nat) : Int)).length * (Ty.int .u8).size := by
        rw [byteCells_length]
        show _ = _ * 1
        rw [List.length_map, Array.length_toList, Nat.mul_one]
        rfl
      refine ⟨ρ, byteCells b, R, Gr.refl _ _, rfl, rfl, hn, ?_, ?_, ?_⟩
      · intro i hi
        have hi' : i < b.data.toList.length := by simpa using hi
        show _ = [Value.int .u8 _]
        rw [Nat.zero_add]
        show List.take 1 (List.drop (i * 1) (byteCells b)) = _
        rw [Nat.mul_one]
        unfold byteCells
        rw [← List.map_drop, ← List.map_take, List.drop_eq_getElem_cons hi']
        simp
      · intro x hx
        obtain ⟨_, _, rfl⟩ := List.mem_map.1 hx
        rfl
      · rcases hk with ⟨e', hk⟩ | ⟨_, hk⟩
        · refine ⟨.inl ⟨e', hk⟩, fun _ => ?_, ?_, ?_, hn, ?_⟩
          · show (Builtin.lenOf (.string b)).run P _ = _
            have : (b.data.toList.map fun x => ((x.toNat : Nat) : Int)).length = b.size := by rw [List.length_map, Array.length_toList]; rfl
            rw [this]; rfl
          · have : (b.data.toList.map fun x => ((x.toNat : Nat) : Int)).length = b.size := by rw [List.length_map, Array.length_toList]; rfl
            rw [this]; exact firstCells_string b w
          · have : (b.data.toList.map fun x => ((x.toNat : Nat) : Int)).length = b.size := by rw [List.length_map, Array.length_toList]; rfl
            rw [this]; exact firstCells_string b w.drew
          · intro x hx
            obtain ⟨_, _, rfl⟩ := List.mem_map.1 hx
            rfl
        · have := Src.ofString (P := P) w hk b
          have e : (b.data.toList.map fun x => ((x.toNat : Nat) : Int)).length = b.size := by rw [List.length_map, Array.length_toList]; rfl
          rw [e]; exact this
    · cases h
  · split at h
    · rename_i l2 b hl
      simp only [Option.some.injEq, Prod.mk.injEq] at h
      obtain ⟨rfl, rfl, rfl⟩ := h
      rcases hk with ⟨e', hk⟩ | ⟨⟨b, hb⟩, _⟩
      · obtain ⟨news, n1, n2, n3, n4⟩ := (con_lies R d hl).src (P := P) hk
        exact ⟨ρ, news, R, Gr.refl _ _, rfl, rfl, n1, n2, n3, n4⟩
      · subst hb
        simp_all
    · cases h

theorem strOf_spec {P : Program} {c : Cx} (hT : TyOk P c) {s : S} {o : Oper} {l : List Int} {b : Bool} (h : strOf c s o = some (l, b)) :
    ∃ t d x el, o.op = .convert t d x ∧ P.underlying t = some (.slice el) ∧ P.underlying el = some (.int .u8) ∧ P.underlying d = some .string ∧ con s.hp (.int .u8) (s.get x) = some (l, b) := by
  unfold strOf at h
  split at h
  · rename_i t d x ho
    split at h
    · rename_i e he
      split at h
      · rename_i el htd
        split at h
        · rename_i ee hee
          split at h
          · rename_i htd2
            split at h
            · rename_i de hde
              split at h
              · rename_i htd3
                obtain ⟨i1, d1, z1, p1, p2, p3, p4, _⟩ := tyMk_spec (hT _ _ he)
                obtain ⟨i2, d2, z2, q1, q2, q3, q4, _⟩ := tyMk_spec (hT _ _ hee)
                obtain ⟨i3, d3, z3, r1, r2, r3, r4, _⟩ := tyMk_spec (hT _ _ hde)
                refine ⟨t, d, x, el, ho, ?_, ?_, ?_, h⟩
                · rw [htd] at p4
                  cases d1 <;> simp [tdMk] at p4
                  subst p4; exact p2
                · rw [htd2] at q4
                  cases d2 <;> simp [tdMk] at q4
                  subst q4; exact q2
                · rw [htd3] at r4
                  cases d3 <;> simp [tdMk] at r4
                  exact r2
              · cases h
            · cases h
          · cases h
        · cases h
      · cases h
    · cases h
  · cases h

theorem appendOf_spec {o : Oper} {t tx : TypeId} {x y : Operand} (h : appendOf o = some (t, tx, x, y)) : ∃ cl, o.op = .call cl ∧ cl.callee = .builtin .append ∧ cl.args = #[x, y] ∧ cl.argTypes = #[t, tx] := by
  unfold appendOf at h
  split at h
  · rename_i cl ho
    split at h
    · rename_i b hb
      split at h
      · split at h
        · rename_i x' y' hxy
          split at h
          · rename_i t1 t2 ht
            cases h
            exact ⟨cl, ho, hb, by apply Array.ext'; simpa using hxy, by apply Array.ext'; simpa using ht⟩
          · cases h
        · cases h
      · cases h
    · cases h
  · cases h

theorem size_le_of_maxLen {n : Nat} (h : n ≤ maxLen) : n ≤ 9223372036854775807 := by unfold maxLen at h; exact h

/-- there is room -/
theorem run_append_room_row {P : Program} (w : World) (t tx ty e : TypeId) (i : TypeInfo) (ht : P.underlying t = some (.slice e)) (hi : P.info? e = some i) (g sLen sCap : Nat) (x : Value) (n : Nat) (news : List Value) (hs : Src P i.size tx x n news w)
    (hroom : sLen + n ≤ sCap) {cur : Array Value} {T : TypeId} (hg : w.heap[g]? = some (.cells cur T (0, 0))) (hfit : sLen * i.size + news.length ≤ cur.size) :
    (Builtin.append_ #[t, tx] ty #[.slice (some ⟨g, 0, none⟩) sLen sCap, x]).run P w = .ok (.slice (some ⟨g, 0, none⟩) (sLen + n) sCap) (w.setRow g (cur.toList.take (sLen * i.size) ++ news ++ cur.toList.drop (sLen * i.size + news.length)).toArray) := by
  have hst := run_storeCells_at P g (sLen * i.size) T news 0 cur w hg (by simpa using hfit) hs.one
  simp only [Nat.add_zero] at hst
  rcases hs.kind with ⟨e', hk⟩ | hk <;> simp [Builtin.append_, run_underlying ht, run_underlying hk, sizeOf, typeInfo, hi, hs.len, hroom, hs.cells, Addr.add_lit, hst]

/-- a block of cells that nobody writes to any more -/
theorem Rel.still {gs : List (Nat × CF)} {ρ : Env} {hp : List Blk} {w : World} (h : Rel gs ρ hp w) {k r : Nat} {vs : List V} (hk : hp[k]? = some (.cells vs)) (hr : ρ.l[k]? = some r) :
    ∃ ρ' o, ρ'.l = ρ.l ∧ Rel gs ρ' (hp.set k .dead) w ∧ Gr ρ w ρ' w ∧ ρ'.M r = some o ∧ OR ρ' o (.cells vs) := by
  obtain ⟨o, ho, hor⟩ := h.get hk hr id
  have hM := h.noM' hk hr id rfl
  have le : ρ.le ⟨ρ.l, fun x => if x = r then some o else ρ.M x⟩ := ⟨List.prefix_rfl, fun x o' hx => by
    show (if x = r then some o else ρ.M x) = _
    by_cases e : x = r
    · subst e; rw [hM] at hx; cases hx
    · rw [if_neg e]; exact hx⟩
  have hor' : OR ⟨ρ.l, fun x => if x = r then some o else ρ.M x⟩ o (.cells vs) := OR.mono (b := .cells vs) (ρ := ρ) hor le
  refine ⟨⟨ρ.l, fun x => if x = r then some o else ρ.M x⟩, o, rfl, ⟨by simp [h.len], fun i j s bi bj h1 h2 h3 h4 => ?_, fun j x s hx hs => ?_, fun g cf hg' => ?_, fun s o' hs => ?_, fun j s x hx hs hi => ?_⟩, ?_, by simp, hor'⟩
  · rcases set_get h1 with ⟨e1, rfl⟩ | ⟨e1, e1'⟩
    · exact .inr (.inl trivial)
    · rcases set_get h2 with ⟨e2, rfl⟩ | ⟨e2, e2'⟩
      · exact .inr (.inr trivial)
      · exact h.inj i j s bi bj e1' e2' h3 h4
  · rcases set_get hx with ⟨e, rfl⟩ | ⟨e, e'⟩
    · exact .inl trivial
    · rcases h.blk j x s e' hs with q | ⟨o', q1, q2⟩
      · exact .inl q
      · exact .inr ⟨o', q1, q2.mono le⟩
  · obtain ⟨h1, h2⟩ := h.gl g cf hg'
    refine ⟨fun i x hx hi => ?_, h2⟩
    rcases set_get hx with ⟨e, rfl⟩ | ⟨e, e'⟩
    · exact trivial
    · exact h1 i x e' hi
  · have hs : (if s = r then some o else ρ.M s) = some o' := hs
    by_cases e : s = r
    · subst e
      rw [if_pos rfl] at hs; cases hs
      refine ⟨ho, fun i x hx hi => ?_⟩
      rcases set_get hx with ⟨e, rfl⟩ | ⟨e, e'⟩
      · exact .inl trivial
      · rcases h.inj i k s x _ e' hk hi hr with q | q | q
        · exact absurd q e
        · exact .inl q
        · exact absurd q id
    · rw [if_neg e] at hs
      obtain ⟨h1, h2⟩ := h.im s o' hs
      refine ⟨h1, fun i x hx hi => ?_⟩
      rcases set_get hx with ⟨e, rfl⟩ | ⟨e, e'⟩
      · exact .inl trivial
      · exact h2 i x e' hi
  · rcases set_get hx with ⟨e, rfl⟩ | ⟨e, e'⟩
    · cases hi
    · rcases h.ic j s x e' hs hi with q | ⟨o', q⟩
      · exact .inl q
      · exact .inr ⟨o', le.2 _ _ q⟩
  · refine ⟨le, fun x h => .inl h, fun x o' hx => ?_, rfl, rfl, rfl, Nat.le_refl _, fun _ _ _ => rfl⟩
    have hx : (if x = r then some o else ρ.M x) = some o' := hx
    by_cases e : x = r
    · subst e; exact .inr (.inl (mem_of_get hr))
    · rw [if_neg e] at hx; exact .inl hx

/-- what nobody writes to is more -/
theorem Rel.gift {gs : List (Nat × CF)} {ρ : Env} {hp : List Blk} {w : World} (R : Rel gs ρ hp w) (o : Obj) :
    ∃ ρ' : Env, ρ'.l = ρ.l ∧ Rel gs ρ' hp (w.alloc o) ∧ Gr ρ w ρ' (w.alloc o) ∧ ρ'.M w.heap.size = some o := by
  have hM := R.noM (Nat.le_refl w.heap.size)
  have hold : ∀ r, r < w.heap.size → (w.alloc o).heap[r]? = w.heap[r]? := fun r hr => by
    show (w.heap.push o)[r]? = _
    rw [Array.getElem?_push, if_neg (by omega)]
  have hs : (w.alloc o).heap.size = w.heap.size + 1 := by show (w.heap.push o).size = _; simp
  have R1 := R.same hold
  have le : ρ.le ⟨ρ.l, fun x => if x = w.heap.size then some o else ρ.M x⟩ := ⟨List.prefix_rfl, fun x o' hx => by
    show (if x = w.heap.size then some o else ρ.M x) = _
    by_cases e : x = w.heap.size
    · subst e; rw [hM] at hx; cases hx
    · rw [if_neg e]; exact hx⟩
  refine ⟨⟨ρ.l, fun x => if x = w.heap.size then some o else ρ.M x⟩, rfl, ⟨R.len, R.inj, fun k b r hb hr => ?_, R1.gl, fun r o' hr => ?_, fun k r b hb hr hi => ?_⟩, ⟨le, fun r h => .inl h, fun r o' hr => ?_, rfl, rfl, rfl, by omega, fun b hb _ => hold b hb⟩, by simp⟩
  · rcases R1.blk k b r hb hr with q | ⟨o', q1, q2⟩
    · exact .inl q
    · exact .inr ⟨o', q1, q2.mono le⟩
  · have hr : (if r = w.heap.size then some o else ρ.M r) = some o' := hr
    by_cases e : r = w.heap.size
    · subst e
      rw [if_pos rfl] at hr; cases hr
      exact ⟨by show (w.heap.push o)[w.heap.size]? = _; simp, fun i b h1 h2 => .inl ((R.new (Nat.le_refl _)).1 i b h1 h2)⟩
    · rw [if_neg e] at hr
      exact R1.im r o' hr
  · rcases R.ic k r b hb hr hi with q | ⟨o', q⟩
    · exact .inl q
    · exact .inr ⟨o', le.2 _ _ q⟩
  · have hr : (if r = w.heap.size then some o else ρ.M r) = some o' := hr
    by_cases e : r = w.heap.size
    · exact .inr (.inr (by omega))
    · rw [if_neg e] at hr; exact .inl hr

section
variable {P : Program} {c : Cx} (hT : TyOk P c) (hE : EqOk P c)
include hT hE

set_option maxHeartbeats 2000000 in
theorem append_sound {s : S} {o : Oper} {t tx : TypeId} {x y : Operand} {X : Operand → V} (hap : appendOf o = some (t, tx, x, y)) {K : S → Prop} (h : appendK c s o.dst t (X x) (s.get y) K) {ρ : Env} {a : Act} {w : World} (hx : D ρ (X x) (a.eval x)) (R : Rel c.gs ρ s.hp w) (T : TR ρ s.ts a.tmps) (hd : ∀ x, o.dst = some x → x < a.tmps.size)
    (hk : (∃ e', P.underlying tx = some (.slice e')) ∨ (∃ b, s.get y = .str b) ∧ P.underlying tx = some .string) :
    ∃ s' u n w' ρ', (execOp a.eval o).run P w = .ok n w' ∧ (n = .value u ∨ n = .skip ∧ u = undef) ∧ K s' ∧ Rel c.gs ρ' s'.hp w' ∧ TR ρ' s'.ts (a.put o.dst u).tmps ∧ s'.marks = s.marks ∧ Gr ρ w ρ' w' := by
  obtain ⟨cl, ho, hcb, hca, hct⟩ := appendOf_spec hap
  have G := fun x => get_sound (s := s) (a := a) T x
  have hy := G y
  unfold appendK at h
  obtain ⟨e, he, h⟩ := tyOf_of h
  obtain ⟨i, d, z, q1, q2, q3, q4, q5, q6⟩ := tyMk_spec (hT _ _ he)
  split at h
  rotate_left
  · exact h.elim
  rename_i el htd
  have hd' : d = .slice el := by
    rw [htd] at q4
    cases d <;> simp [tdMk] at q4 ⊢
    exact q4.symm
  subst hd'
  obtain ⟨ee, hee, h⟩ := tyOf_of h
  obtain ⟨i', d', z', p1, p2, p3, p4, p5, p6⟩ := tyMk_spec (hT _ _ hee)
  have pb := tyMk_bytes (hT _ _ hee) p1
  split at h
  · exact h.elim
  rename_i ty _
  split at h
  · exact h.elim
  rename_i hb
  simp only [Bool.and_eq_true] at hb
  have hb1 := Nat.eq_of_beq_eq_true hb.1
  have hb3 := Nat.eq_of_beq_eq_true hb.2
  have hzs : z'.cells.size = ee.size := by rw [← hb3, p6]; simp
  have hpos := ty.size_pos
  split at h
  · exact h.elim
  rename_i ly hp b hsrc
  -- what the operation comes to
  have run : ∀ {w' : World} {v : Value}, (Builtin.append_ #[t, tx] o.type #[a.eval x, a.eval y]).run P w = .ok v w' → (execOp a.eval o).run P w = .ok (.value v) w' := fun {w' v} hr => by
    simp only [execOp, ho, resolve, hcb, invoke, builtin, hca, hct]
    simp [hr]
  -- the demand that all come to
  obtain ⟨lx, hlen, hb, hxx⟩ : ∃ lx : List ty.den, (lx ++ ly).length * (ee.bytes + 1) ≤ 140737488355328 ∧ b = true ∧
      ((∃ k z n c0 T c', (X x) = .row k z n c0 ∧ hp[k]? = some (.row ty lx T c') ∧ z = ty.size ∧ T = el ∧ n = lx.length ∧ c0 = c' ∧ ∀ cap : Nat, Nat.ble (lx ++ ly).length cap = true → K (S.put ⟨s.ts, hp.set k .dead ++ [Blk.row ty (lx ++ ly) el cap], s.marks⟩ o.dst (.row hp.length ty.size (lx ++ ly).length cap))) ∨
       (lx = [] ∧ (∃ ad, a.eval x = .slice ad 0 0) ∧ ∀ cap : Nat, Nat.ble ly.length cap = true → K (S.put ⟨s.ts, hp ++ [Blk.row ty ly el cap], s.marks⟩ o.dst (.row hp.length ty.size ly.length cap))) ∨
       ((X x) = .sl ty lx (some lx.length) ∧ K (S.put ⟨s.ts, hp, s.marks⟩ o.dst (.sl ty (lx ++ ly) none)))) := by
    split at h
    · rename_i k zz n c0 hxv
      split at h
      rotate_left
      · exact h.elim
      rename_i t' l T' c' hk'
      split at h
      · exact h.elim
      rename_i hb'
      simp only [Bool.and_eq_true] at hb'
      have hb4 := Nat.eq_of_beq_eq_true hb'.1
      have hb5 := Nat.eq_of_beq_eq_true hb'.2
      split at h
      · exact h.elim
      rename_i lx hlx
      obtain ⟨e, hlx⟩ := castL_of hlx
      subst e
      subst hlx
      obtain ⟨hq, h⟩ := req_of h
      simp only [Bool.and_eq_true] at hq
      obtain ⟨⟨⟨hq1, hq2⟩, hq3⟩, hq4⟩ := hq
      exact ⟨l, Nat.le_of_ble_eq_true hq4, hq1, .inl ⟨k, zz, n, c0, T', c', hxv, hk', hb4, hb5, Nat.eq_of_beq_eq_true hq2, Nat.eq_of_beq_eq_true hq3, h⟩⟩
    · rename_i t' l c0 hxv
      split at h
      · exact h.elim
      rename_i lx hlx
      obtain ⟨e, hlx⟩ := castL_of hlx
      subst e
      subst hlx
      rw [hxv] at hx
      simp only [D] at hx
      obtain ⟨ad, cp, hu, _, hcp, _⟩ := hx
      have hcp := hcp c0 rfl
      subst hcp
      split at h
      · obtain ⟨hq, h⟩ := req_of h
        simp only [Bool.and_eq_true] at hq
        obtain ⟨⟨hq1, hq2⟩, hq3⟩ := hq
        have hq2 := Nat.eq_of_beq_eq_true hq2
        have hq2 : l.length = 0 := hq2
        refine ⟨[], by simpa using Nat.le_of_ble_eq_true hq3, hq1, .inr (.inl ⟨rfl, ⟨ad, by rw [hu, hq2]⟩, h⟩)⟩
      · obtain ⟨hq, h⟩ := req_of h
        simp only [Bool.and_eq_true] at hq
        obtain ⟨⟨hq1, hq2⟩, hq3⟩ := hq
        have hq2 := Nat.eq_of_beq_eq_true hq2
        refine ⟨l, Nat.le_of_ble_eq_true hq3, hq1, .inr (.inr ⟨?_, h⟩)⟩
        rw [hxv, hq2]
    · rename_i hxv
      obtain ⟨hq, h⟩ := req_of h
      simp only [Bool.and_eq_true] at hq
      rw [hxv] at hx
      simp only [D] at hx
      exact ⟨[], by simpa using Nat.le_of_ble_eq_true hq.2, hq.1, .inr (.inl ⟨rfl, ⟨none, hx⟩, h⟩)⟩
    · exact h.elim
  subst hb
  obtain ⟨ρ1, news, R1, G1, e1, l1, n1, n2, n3, src⟩ := srcOf_sound (P := P) R hy hsrc hk
  have hx1 := D_mono G1.pre hx
  have T1 := T.mono G1.pre
  have i5 : i'.size = ty.size := by omega
  rw [List.length_append] at hlen
  have hmul : (lx.length + ly.length) * (ee.bytes + 1) = (lx.length + ly.length) * ee.bytes + (lx.length + ly.length) := Nat.mul_succ _ _
  have hby : (lx.length + ly.length) * ee.bytes ≤ 140737488355328 := by omega
  have hln : lx.length + ly.length ≤ 140737488355328 := by omega
  have src' : Src P i'.size tx (a.eval y) ly.length news w := by rw [i5]; exact src
  -- nothing is appended
  have nothing : ∀ {ad : Option Addr} {n cp : Nat}, ly = [] → a.eval x = .slice ad n cp → n ≤ cp → (execOp a.eval o).run P w = .ok (.value (.slice ad n cp)) w := fun {ad n cp} hly hu hle => by
    have hnews : news = [] := List.eq_nil_of_length_eq_zero (by rw [n1, hly]; simp)
    refine run ?_
    rw [hu]
    refine run_append_nothing w t tx o.type el i' q2 p1 ad n cp hle _ ?_
    rw [hly, hnews] at src'
    exact src'
  -- a row of its own
  have fresh : ∀ {ad : Option Addr} {n cp : Nat} {olds : List Value}, a.eval x = .slice ad n cp → n = lx.length → cp < n + ly.length → olds.length = lx.length * ty.size → Elems ρ1.M ty lx olds 0 → (Builtin.firstCells i'.size n (.slice ad n cp)).run P w.drew = .ok olds.toArray w.drew →
      ∃ cap o', (execOp a.eval o).run P w = .ok (.value (.slice (some ⟨w.heap.size, 0, none⟩) (lx ++ ly).length cap)) (w.drew.alloc o') ∧ (lx ++ ly).length ≤ cap ∧ cap ≤ 9223372036854775807 ∧ ∃ us : Array Value, o' = .cells us el (0, 0) ∧ cap * ty.size ≤ us.size ∧ Elems ρ1.M ty (lx ++ ly) us.toList 0 := by
    intro ad n cp olds hu hn hcp hol hoe hold
    subst hn
    have hr := run_append_grow_src (P := P) w t tx o.type el i' z' q2 p1 p3 ad lx.length cp olds hold _ _ _ src' hcp (by omega) (growslice_fits (by omega) (by rw [← pb]; exact hby))
    rw [← hu] at hr
    have hr := run hr
    have hc1 := grownCap_ge w (lx.length + ly.length) cp el
    have hc2 := size_le_of_maxLen (grownCap_le_maxLen w (lx.length + ly.length) cp el (by unfold maxLen; omega))
    refine ⟨_, _, (by rw [List.length_append]; exact hr), (by rw [List.length_append]; exact hc1), hc2, _, rfl, ?_, ?_⟩
    · simp only [Array.size_append, List.size_toArray, size_zeroCells, hzs, List.length_append, hol, n1]
      generalize grownCap w (lx.length + ly.length) cp el = q at hc1
      obtain ⟨m, rfl⟩ : ∃ m, q = lx.length + ly.length + m := ⟨q - (lx.length + ly.length), by omega⟩
      rw [Nat.add_sub_cancel_left, Nat.add_mul, Nat.add_mul, hb1]
      exact Nat.le_refl _
    · have e3 := Elems_append hoe hol n2
      intro j hj
      have e4 := e3 j hj
      simp only [Array.toList_append, List.toList_toArray]
      have hj' : j * ty.size + ty.size ≤ (olds ++ news).length := by
        rw [List.length_append, hol, n1, ← Nat.add_mul]
        have := Nat.mul_le_mul_right ty.size hj
        rw [Nat.succ_mul, List.length_append] at this
        exact this
      rw [Nat.zero_add] at e4 ⊢
      rw [List.drop_append_of_le_length (by omega), List.take_append_of_le_length (by simp at hj' ⊢; omega)]
      exact e4
  rcases hxx with ⟨k, zz, n, c0, T', c', hxv, hk', rfl, hT', rfl, rfl, h⟩ | ⟨rfl, ⟨ad, hu⟩, h⟩ | ⟨hxv, h⟩
  · -- onto a row of our own
    subst hT'
    rw [hxv] at hx1
    simp only [D] at hx1
    have hkl := (List.getElem?_eq_some_iff.mp hk').1
    -- it goes elsewhere
    have else' : ∀ {ad : Option Addr} {olds : List Value}, a.eval x = .slice ad lx.length c0 → c0 < lx.length + ly.length → olds.length = lx.length * ty.size → Elems ρ1.M ty lx olds 0 → (Builtin.firstCells i'.size lx.length (.slice ad lx.length c0)).run P w.drew = .ok olds.toArray w.drew →
        ∃ s' u n w' ρ', (execOp a.eval o).run P w = .ok n w' ∧ (n = .value u ∨ n = .skip ∧ u = undef) ∧ K s' ∧ Rel c.gs ρ' s'.hp w' ∧ TR ρ' s'.ts (a.put o.dst u).tmps ∧ s'.marks = s.marks ∧ Gr ρ w ρ' w' := by
      intro ad olds hu hcp hol hoe hold
      obtain ⟨cap, o', hr, f1, f2, us, rfl, f3, f4⟩ := fresh hu rfl hcp hol hoe hold
      obtain ⟨R2, G2⟩ := ((R1.drew _).kill k).alloc (.cells us T' (0, 0)) (.row ty (lx ++ ly) T' cap) rfl ⟨f1, f2, us, rfl, f3, f4⟩
      have hG := (G1.trans (Gr.drew _)).trans G2
      refine ⟨_, _, _, _, _, hr, .inl rfl, h cap (Nat.ble_eq.mpr f1), R2, (T.mono hG.pre).put hd ?_, rfl, hG⟩
      simp only [D]
      have hlt : 0 < (lx ++ ly).length := by rw [List.length_append]; omega
      refine .inr ⟨⟨by omega, f1⟩, w.heap.size, ?_, rfl⟩
      have hll := R1.len
      show (ρ1.snoc w.heap.size).l[hp.length]? = _
      rw [← hll]; exact snoc_get _ _
    rcases hx1 with ⟨h0, h0', ad, hu⟩ | ⟨hc0, r, hr, hu⟩
    · have hlx : lx = [] := len_nil h0
      subst hlx h0'
      rcases Nat.eq_zero_or_pos ly.length with hm | hm
      · have hly := len_nil hm
        subst hly
        have hrun := nothing rfl hu (Nat.le_refl _)
        have R2 := (R1.kill k).adopt (r := w.heap.size) (.row ty [] T' 0) rfl (.inl ⟨rfl, rfl⟩)
        have G2 := G1.adopt (r := w.heap.size) (.inr (Nat.le_refl _))
        refine ⟨_, _, _, _, _, hrun, .inl rfl, h 0 rfl, R2, (T.mono G2.pre).put hd ?_, rfl, G2⟩
        simp only [D]
        exact .inl ⟨rfl, trivial, ad, rfl⟩
      · refine else' (olds := []) hu (by simpa using hm) (by simp) Elems_nil ?_
        cases ad with
        | none => exact run_firstCells_none w.drew i'.size 0 0 0
        | some ad => exact run_firstCells_some (P := P) w.drew i'.size 0 ad 0 0 [] (by simp) (fun j v hj => (by simp at hj))
    · have hnf : ¬ free (.row ty lx T' c0) := fun hf => by have := hf.2; omega
      obtain ⟨ob, o1, hnc, hc2, us, rfl, husz, hcells⟩ := R1.get hk' hr hnf
      rcases Nat.eq_zero_or_pos ly.length with hm | hm
      · have hly := len_nil hm
        subst hly
        have hrun := nothing rfl hu hnc
        have R2 := R1.moved hk' hnf rfl hr
        have G2 := G1.adopt (r := r) (.inl (mem_of_get hr))
        have h := h c0
        rw [List.append_nil] at h
        have h := h (Nat.ble_eq.mpr hc0.2)
        refine ⟨_, _, _, _, _, hrun, .inl rfl, h, R2, (T.mono G2.pre).put hd ?_, rfl, G2⟩
        simp only [D]
        refine .inr ⟨hc0, r, ?_, rfl⟩
        rw [← R1.len]; exact snoc_get _ _
      · by_cases hroom : lx.length + ly.length ≤ c0
        · -- in place
          have hfit : lx.length * i'.size + news.length ≤ us.size := by
            rw [i5, n1, ← Nat.add_mul]
            exact Nat.le_trans (Nat.mul_le_mul_right _ hroom) husz
          have hrun := run_append_room_row (P := P) w t tx o.type T' i' q2 p1 r lx.length c0 _ _ _ src' hroom o1 hfit
          rw [setRow_eq o1, ← hu, i5] at hrun
          have hrun := run hrun
          rw [i5] at hfit
          obtain ⟨arr, harr⟩ : ∃ arr, (us.toList.take (lx.length * ty.size) ++ news ++ us.toList.drop (lx.length * ty.size + news.length)).toArray = arr := ⟨_, rfl⟩
          rw [harr] at hrun
          have htl : (us.toList.take (lx.length * ty.size)).length = lx.length * ty.size := by simp; omega
          have hox : Elems ρ1.M ty lx (us.toList.take (lx.length * ty.size)) 0 := by
            have := (seg hcells).2.1
            rwa [List.drop_zero] at this
          have hel : Elems ρ1.M ty (lx ++ ly) arr.toList 0 := by
            have e3 := Elems_append hox htl n2
            intro j hj
            have e4 := e3 j hj
            have hj' : j * ty.size + ty.size ≤ (us.toList.take (lx.length * ty.size) ++ news).length := by
              rw [List.length_append, htl, n1, ← Nat.add_mul]
              have := Nat.mul_le_mul_right ty.size hj
              rw [Nat.succ_mul, List.length_append] at this
              exact this
            rw [← harr, List.toList_toArray]
            rw [Nat.zero_add] at e4 ⊢
            rw [List.drop_append_of_le_length (by omega), List.take_append_of_le_length (by simp only [List.length_drop]; omega)]
            exact e4
          have hasz : c0 * ty.size ≤ arr.size := by
            rw [← harr]
            simp only [List.size_toArray, List.length_append, List.length_take, List.length_drop, Array.length_toList]
            omega
          obtain ⟨R2, G2⟩ := R1.put hk' hnf rfl hr (.cells arr T' (0, 0)) (.row ty (lx ++ ly) T' c0) rfl ⟨by rw [List.length_append]; exact hroom, hc2, arr, rfl, hasz, hel⟩
          have R3 := R2.moved (k := k) (b := .row ty (lx ++ ly) T' c0) (by simp [hkl]) (fun hf => by have := hf.2; omega) rfl hr
          rw [List.set_set] at R3
          have G3 := (G1.trans G2).adopt (r := r) (.inl (mem_of_get hr))
          refine ⟨_, _, _, _, _, hrun, .inl rfl, h c0 (Nat.ble_eq.mpr (by rw [List.length_append]; exact hroom)), R3, (T.mono G3.pre).put hd ?_, rfl, G3⟩
          simp only [D]
          refine .inr ⟨⟨by omega, by rw [List.length_append]; exact hroom⟩, r, ?_, by rw [List.length_append]⟩
          rw [← R1.len]; exact snoc_get _ _
        · have hsg := seg hcells
          refine else' (olds := us.toList.take (lx.length * ty.size)) hu (by omega) (by have := hsg.1; rwa [List.drop_zero] at this) (by have := hsg.2.1; rwa [List.drop_zero] at this) ?_
          refine run_firstCells_some (P := P) w.drew i'.size lx.length ⟨r, 0, none⟩ lx.length c0 _ (by rw [i5]; have := hsg.1; rwa [List.drop_zero] at this) (fun j v hj => ?_)
          rw [addr_add]
          rw [List.getElem?_take] at hj
          split at hj
          · have : w.drew.cell? ⟨r, 0 + j, none⟩ = w.cell? ⟨r, 0 + j, none⟩ := rfl
            rw [this, Nat.zero_add, cell_at o1]; simpa using hj
          · cases hj
  · -- onto nothing
    rcases Nat.eq_zero_or_pos ly.length with hm | hm
    · have hly := len_nil hm
      subst hly
      have hrun := nothing rfl hu (Nat.le_refl _)
      have R2 := R1.adopt (r := w.heap.size) (.row ty [] el 0) rfl (.inl ⟨rfl, rfl⟩)
      have G2 := G1.adopt (r := w.heap.size) (.inr (Nat.le_refl _))
      refine ⟨_, _, _, _, _, hrun, .inl rfl, h 0 rfl, R2, (T.mono G2.pre).put hd ?_, rfl, G2⟩
      simp only [D]
      exact .inl ⟨rfl, trivial, ad, rfl⟩
    · obtain ⟨cap, o', hr, f1, f2, us, rfl, f3, f4⟩ := fresh (olds := []) hu rfl (by simpa using hm) (by simp) Elems_nil (by
        cases ad with
        | none => exact run_firstCells_none w.drew i'.size 0 0 0
        | some ad => exact run_firstCells_some (P := P) w.drew i'.size 0 ad 0 0 [] (by simp) (fun j v hj => (by simp at hj)))
      rw [List.nil_append] at f1 f4 hr
      obtain ⟨R2, G2⟩ := (R1.drew _).alloc (.cells us el (0, 0)) (.row ty ly el cap) rfl ⟨f1, f2, us, rfl, f3, f4⟩
      have hG := (G1.trans (Gr.drew _)).trans G2
      refine ⟨_, _, _, _, _, hr, .inl rfl, h cap (Nat.ble_eq.mpr f1), R2, (T.mono hG.pre).put hd ?_, rfl, hG⟩
      simp only [D]
      refine .inr ⟨⟨by omega, f1⟩, w.heap.size, ?_, rfl⟩
      have hll := R1.len
      show (ρ1.snoc w.heap.size).l[hp.length]? = _
      rw [← hll]; exact snoc_get _ _
  · -- onto a row that nobody writes to
    rw [hxv] at hx1
    simp only [D] at hx1
    obtain ⟨ad, cp, hu, _, hcp, hbk⟩ := hx1
    have hcp := hcp _ rfl
    subst hcp
    rcases Nat.eq_zero_or_pos ly.length with hm | hm
    · have hly := len_nil hm
      subst hly
      have hrun := nothing rfl hu (Nat.le_refl _)
      rw [List.append_nil] at h
      refine ⟨_, _, _, _, _, hrun, .inl rfl, h, R1, T1.put hd ?_, rfl, G1⟩
      simp only [D]
      exact ⟨ad, _, rfl, Nat.le_refl _, fun n h => (by cases h), hbk⟩
    · obtain ⟨olds, g1, g2, g3⟩ : ∃ olds : List Value, olds.length = lx.length * ty.size ∧ Elems ρ1.M ty lx olds 0 ∧ (Builtin.firstCells i'.size lx.length (.slice ad lx.length lx.length)).run P w.drew = .ok olds.toArray w.drew := by
        rcases hbk with h0 | ⟨r, oo, cs, T', fr, rfl, b1, b2⟩
        · subst h0
          refine ⟨[], by simp, Elems_nil, ?_⟩
          cases ad with
          | none => exact run_firstCells_none w.drew i'.size 0 0 0
          | some ad => exact run_firstCells_some (P := P) w.drew i'.size 0 ad 0 0 [] (by simp) (fun j v hj => (by simp at hj))
        · have hsg := seg b2
          refine ⟨_, hsg.1, hsg.2.1, run_firstCells_some (P := P) w.drew i'.size lx.length ⟨r, oo, none⟩ lx.length lx.length _ (by rw [i5]; exact hsg.1) (fun j v hj => ?_)⟩
          rw [addr_add]
          rw [List.getElem?_take] at hj
          split at hj
          · rw [List.getElem?_drop] at hj
            have : w.drew.cell? ⟨r, oo + j, none⟩ = w.cell? ⟨r, oo + j, none⟩ := rfl
            rw [this, cell_at (R1.im _ _ b1).1]; simpa using hj
          · cases hj
      obtain ⟨cap, o', hr, f1, f2, us, rfl, f3, f4⟩ := fresh hu rfl (by omega) g1 g2 g3
      obtain ⟨ρ2, r1, R2, G2, r2⟩ := (R1.drew w.drew.drawn).gift (.cells us el (0, 0))
      have hG := (G1.trans (Gr.drew _)).trans G2
      refine ⟨_, _, _, _, ρ2, hr, .inl rfl, h, R2, (T.mono hG.pre).put hd ?_, rfl, hG⟩
      simp only [D]
      exact ⟨_, cap, rfl, f1, fun n h => (by cases h), .inr ⟨w.heap.size, 0, us, el, (0, 0), rfl, r2, Elems_mono G2.pre.2 f4⟩⟩

/-- how an operation ends -/
def Ends (P : Program) (c : Cx) (s : S) (o : Oper) (K : S → Prop) (ρ : Env) (a : Act) (w : World) : Prop :=
  ∃ s' u n w' ρ', (execOp a.eval o).run P w = .ok n w' ∧ (n = .value u ∨ n = .skip ∧ u = undef) ∧ K s' ∧ Rel c.gs ρ' s'.hp w' ∧ TR ρ' s'.ts (a.put o.dst u).tmps ∧ s'.marks = s.marks ∧ Gr ρ w ρ' w'

set_option maxHeartbeats 2000000 in
theorem appendR_sound {s : S} {o : Oper} {t tx : TypeId} {x y : Operand} {k zz oo n c0 : Nat} (hap : appendOf o = some (t, tx, x, y)) (hxv : s.get x = .rs k zz oo n c0) {K : S → Prop} (h : appendR c s o.dst t k zz oo n c0 (s.get y) K) {ρ : Env} {a : Act} {w : World} (R : Rel c.gs ρ s.hp w) (T : TR ρ s.ts a.tmps) (hd : ∀ x, o.dst = some x → x < a.tmps.size)
    (hk : (∃ e', P.underlying tx = some (.slice e')) ∨ (∃ b, s.get y = .str b) ∧ P.underlying tx = some .string) : Ends P c s o K ρ a w := by
  obtain ⟨cl, ho, hcb, hca, hct⟩ := appendOf_spec hap
  have G := fun x => get_sound (s := s) (a := a) T x
  have hy := G y
  have hx := G x
  rw [hxv] at hx
  unfold appendR at h
  have h2 := tyOf_of h
  clear h
  obtain ⟨e, he, h⟩ := h2
  obtain ⟨i, d, z, q1, q2, q3, q4, q5, q6⟩ := tyMk_spec (hT _ _ he)
  split at h
  rotate_left
  · exact h.elim
  rename_i el htd
  have hd' : d = .slice el := by
    rw [htd] at q4
    cases d <;> simp [tdMk] at q4 ⊢
    exact q4.symm
  subst hd'
  have h2 := tyOf_of h
  clear h
  obtain ⟨ee, hee, h⟩ := h2
  obtain ⟨i', d', z', p1, p2, p3, p4, p5, p6⟩ := tyMk_spec (hT _ _ hee)
  have pb := tyMk_bytes (hT _ _ hee) p1
  split at h
  · exact h.elim
  rename_i ty _
  split at h
  · exact h.elim
  rename_i hb
  simp only [Bool.and_eq_true] at hb
  have hb1 := Nat.eq_of_beq_eq_true hb.1
  have hb3 := Nat.eq_of_beq_eq_true hb.2
  have hzs : z'.cells.size = ee.size := by rw [← hb3, p6]; simp
  have hpos := ty.size_pos
  split at h
  · exact h.elim
  rename_i ly hp b hsrc
  split at h
  rotate_left
  · exact h.elim
  rename_i t' l T' c' hk'
  split at h
  · exact h.elim
  rename_i hb'
  simp only [Bool.and_eq_true] at hb'
  have hb4 := Nat.eq_of_beq_eq_true hb'.1.1
  have hb5 := Nat.eq_of_beq_eq_true hb'.1.2
  have hb6 := Nat.eq_of_beq_eq_true hb'.2
  split at h
  · exact h.elim
  rename_i lx hlx
  obtain ⟨e, hlx⟩ := castL_of hlx
  subst e
  subst hlx
  subst hb5
  subst hb6
  have run : ∀ {w' : World} {v : Value}, (Builtin.append_ #[t, tx] o.type #[a.eval x, a.eval y]).run P w = .ok v w' → (execOp a.eval o).run P w = .ok (.value v) w' := fun {w' v} hr => by
    simp only [execOp, ho, resolve, hcb, invoke, builtin, hca, hct]
    simp [hr]
  obtain ⟨hbt, hlen, hn, hcase⟩ : b = true ∧ (l.take n ++ ly).length * (ee.bytes + 1) ≤ 140737488355328 ∧ n ≤ l.length ∧
      ((n + ly.length ≤ l.length ∧ c0 = c' ∧ K (S.put ⟨s.ts, hp.set k .dead ++ [Blk.row t' (l.take n ++ ly) T' c'], s.marks⟩ o.dst (.row hp.length t'.size (l.take n ++ ly).length c'))) ∨
       (c0 = n ∧ ∀ cap : Nat, Nat.ble (l.take n ++ ly).length cap = true → K (S.put ⟨s.ts, hp.set k .dead ++ [Blk.row t' (l.take n ++ ly) T' cap], s.marks⟩ o.dst (.row hp.length t'.size (l.take n ++ ly).length cap))) ∨
       (c0 = n ∧ 0 < ly.length ∧ ∀ cap : Nat, Nat.ble (l.take n ++ ly).length cap = true → K (S.put ⟨s.ts, hp ++ [Blk.row t' (l.take n ++ ly) T' cap], s.marks⟩ o.dst (.row hp.length t'.size (l.take n ++ ly).length cap)))) := by
    split at h
    · obtain ⟨hq, h⟩ := req_of h
      simp only [Bool.and_eq_true, Nat.blt_eq] at hq
      obtain ⟨⟨⟨⟨hq1, hq2⟩, hq3⟩, hq5⟩, hq4⟩ := hq
      exact ⟨hq1, Nat.le_of_ble_eq_true hq4, Nat.le_of_ble_eq_true hq2, .inr (.inr ⟨Nat.eq_of_beq_eq_true hq3, hq5, h⟩)⟩
    split at h
    · obtain ⟨hq, h⟩ := req_of h
      simp only [Bool.and_eq_true] at hq
      obtain ⟨⟨⟨hq1, hq2⟩, hq3⟩, hq4⟩ := hq
      have hq2 := Nat.le_of_ble_eq_true hq2
      exact ⟨hq1, Nat.le_of_ble_eq_true hq4, by omega, .inl ⟨hq2, Nat.eq_of_beq_eq_true hq3, h⟩⟩
    · obtain ⟨hq, h⟩ := req_of h
      simp only [Bool.and_eq_true] at hq
      obtain ⟨⟨⟨hq1, hq2⟩, hq3⟩, hq4⟩ := hq
      exact ⟨hq1, Nat.le_of_ble_eq_true hq4, Nat.le_of_ble_eq_true hq2, .inr (.inl ⟨Nat.eq_of_beq_eq_true hq3, h⟩)⟩
  subst hbt
  obtain ⟨ρ1, news, R1, G1, e1, l1, n1, n2, n3, src⟩ := srcOf_sound (P := P) R hy hsrc hk
  have hx1 := D_mono G1.pre hx
  have i5 : i'.size = t'.size := by omega
  have hL : (l.take n).length = n := by rw [List.length_take]; omega
  rw [List.length_append, hL] at hlen
  have hmul : (n + ly.length) * (ee.bytes + 1) = (n + ly.length) * ee.bytes + (n + ly.length) := Nat.mul_succ _ _
  have hby : (n + ly.length) * ee.bytes ≤ 140737488355328 := by omega
  have hln : n + ly.length ≤ 140737488355328 := by omega
  have src' : Src P i'.size tx (a.eval y) ly.length news w := by rw [i5]; exact src
  have hkl := (List.getElem?_eq_some_iff.mp hk').1
  have nothing : ∀ {ad : Option Addr} {n cp : Nat}, ly = [] → a.eval x = .slice ad n cp → n ≤ cp → (execOp a.eval o).run P w = .ok (.value (.slice ad n cp)) w := fun {ad n cp} hly hu hle => by
    have hnews : news = [] := List.eq_nil_of_length_eq_zero (by rw [n1, hly]; simp)
    refine run ?_
    rw [hu]
    refine run_append_nothing w t tx o.type T' i' q2 p1 ad n cp hle _ ?_
    rw [hly, hnews] at src'
    exact src'
  -- elsewhere
  have else' : ∀ {hq : List Blk} (Rq : Rel c.gs ρ1 hq w) (hql : hq.length = hp.length) {ad : Option Addr} {cp : Nat} {olds : List Value}, a.eval x = .slice ad n cp → cp < n + ly.length → olds.length = n * t'.size → Elems ρ1.M t' (l.take n) olds 0 → (Builtin.firstCells i'.size n (.slice ad n cp)).run P w.drew = .ok olds.toArray w.drew →
      (∀ cap : Nat, Nat.ble (l.take n ++ ly).length cap = true → K (S.put ⟨s.ts, hq ++ [Blk.row t' (l.take n ++ ly) T' cap], s.marks⟩ o.dst (.row hp.length t'.size (l.take n ++ ly).length cap))) → Ends P c s o K ρ a w := by
    intro hq Rq hql ad cp olds hu hcp hol hoe hold hK
    have hr := run_append_grow_src (P := P) w t tx o.type T' i' z' q2 p1 p3 ad n cp olds hold _ _ _ src' hcp (by omega) (growslice_fits (by omega) (by rw [← pb]; exact hby))
    rw [← hu] at hr
    have hr := run hr
    have hc1 := grownCap_ge w (n + ly.length) cp T'
    have hc2 := size_le_of_maxLen (grownCap_le_maxLen w (n + ly.length) cp T' (by unfold maxLen; omega))
    have hLL : (l.take n ++ ly).length = n + ly.length := by rw [List.length_append, hL]
    obtain ⟨cap, o', hr, f1, f2, us, rfl, f3, f4⟩ : ∃ cap o', (execOp a.eval o).run P w = .ok (.value (.slice (some ⟨w.heap.size, 0, none⟩) (n + ly.length) cap)) (w.drew.alloc o') ∧ n + ly.length ≤ cap ∧ cap ≤ 9223372036854775807 ∧ ∃ us : Array Value, o' = .cells us T' (0, 0) ∧ cap * t'.size ≤ us.size ∧ Elems ρ1.M t' (l.take n ++ ly) us.toList 0 := by
      refine ⟨_, _, hr, hc1, hc2, _, rfl, ?_, ?_⟩
      · simp only [Array.size_append, List.size_toArray, size_zeroCells, hzs, List.length_append, hol, n1]
        generalize grownCap w (n + ly.length) cp T' = q at hc1
        obtain ⟨m, rfl⟩ : ∃ m, q = n + ly.length + m := ⟨q - (n + ly.length), by omega⟩
        rw [Nat.add_sub_cancel_left, Nat.add_mul, Nat.add_mul, hb1]
        exact Nat.le_refl _
      · have e3 := Elems_append hoe (by rw [hL]; exact hol) n2
        intro j hj
        have e4 := e3 j hj
        simp only [Array.toList_append, List.toList_toArray]
        have hj' : j * t'.size + t'.size ≤ (olds ++ news).length := by
          rw [List.length_append, hol, n1, ← Nat.add_mul]
          have := Nat.mul_le_mul_right t'.size hj
          rw [Nat.succ_mul, hLL] at this
          exact this
        rw [Nat.zero_add] at e4 ⊢
        rw [List.drop_append_of_le_length (by omega), List.take_append_of_le_length (by simp at hj' ⊢; omega)]
        exact e4
    obtain ⟨R2, G2⟩ := (Rq.drew w.drew.drawn).alloc (.cells us T' (0, 0)) (.row t' (l.take n ++ ly) T' cap) rfl ⟨by rw [hLL]; exact f1, f2, us, rfl, f3, f4⟩
    have hG := (G1.trans (Gr.drew _)).trans G2
    refine ⟨_, _, _, _, _, hr, .inl rfl, hK cap (Nat.ble_eq.mpr (by rw [hLL]; exact f1)), R2, (T.mono hG.pre).put hd ?_, rfl, hG⟩
    simp only [D]
    refine .inr ⟨⟨by omega, by rw [hLL]; exact f1⟩, w.heap.size, ?_, by rw [hLL]⟩
    have hll := Rq.len
    show (ρ1.snoc w.heap.size).l[hp.length]? = _
    rw [← hql, ← hll]; exact snoc_get _ _
  -- nothing is there, and nothing comes
  have empty : ∀ {ad : Option Addr}, n = 0 → ly = [] → a.eval x = .slice ad 0 0 → K (S.put ⟨s.ts, hp.set k .dead ++ [Blk.row t' (l.take n ++ ly) T' 0], s.marks⟩ o.dst (.row hp.length t'.size (l.take n ++ ly).length 0)) → Ends P c s o K ρ a w := by
    intro ad h0 hly hu hK
    have hnil : l.take n ++ ly = [] := by rw [h0, hly]; simp
    rw [hnil] at hK
    have hrun := nothing hly hu (Nat.le_refl _)
    have R2 := (R1.kill k).adopt (r := w.heap.size) (.row t' [] T' 0) rfl (.inl ⟨rfl, rfl⟩)
    have G2 := G1.adopt (r := w.heap.size) (.inr (Nat.le_refl _))
    refine ⟨_, _, _, _, _, hrun, .inl rfl, hK, R2, (T.mono G2.pre).put hd ?_, rfl, G2⟩
    simp only [D]
    exact .inl ⟨rfl, trivial, ad, rfl⟩
  obtain ⟨r0, hr0⟩ : ∃ r, ρ1.l[k]? = some r := ⟨_, List.getElem?_eq_getElem (by rw [R1.len]; exact hkl)⟩
  have hl0 : c' = 0 → l = [] := fun h0 => by
    rcases R1.blk k _ r0 hk' hr0 with q | ⟨ob, _, q, _⟩
    · exact q.1
    · exact len_nil (by omega)
  have zero : ∀ {ad : Option Addr}, n = 0 → c0 = 0 → a.eval x = .slice ad 0 0 → Ends P c s o K ρ a w := by
    intro ad h0 h0' hu
    rcases hcase with ⟨hin, hc, hK⟩ | ⟨hc, hK⟩ | ⟨hc, hm, hK⟩
    rotate_right
    · refine else' R1 rfl (olds := []) (cp := 0) (ad := ad) (by rw [hu, h0]) (by omega) (by rw [h0]; simp) (by rw [h0]; exact Elems_nil) ?_ hK
      rw [h0]
      cases ad with
      | none => exact run_firstCells_none w.drew i'.size 0 0 0
      | some ad => exact run_firstCells_some (P := P) w.drew i'.size 0 ad 0 0 [] (by simp) (fun j v hj => (by simp at hj))
    · have hl := hl0 (by omega)
      have hl' : l.length = 0 := by rw [hl]; rfl
      have hly : ly = [] := len_nil (by omega)
      have : c' = 0 := by omega
      subst this
      exact empty h0 hly hu hK
    · rcases Nat.eq_zero_or_pos ly.length with hm | hm
      · exact empty h0 (len_nil hm) hu (hK 0 (by rw [h0, len_nil hm]; rfl))
      · refine else' (R1.kill k) (by simp) (olds := []) (cp := 0) (ad := ad) (by rw [hu, h0]) (by omega) (by rw [h0]; simp) (by rw [h0]; exact Elems_nil) ?_ hK
        rw [h0]
        cases ad with
        | none => exact run_firstCells_none w.drew i'.size 0 0 0
        | some ad => exact run_firstCells_some (P := P) w.drew i'.size 0 ad 0 0 [] (by simp) (fun j v hj => (by simp at hj))
  simp only [D] at hx1
  rcases hx1 with ⟨h0, h0', ad, hu⟩ | ⟨r, hr, hu, hnc⟩
  · exact zero h0 h0' hu
  rw [Nat.zero_mul] at hu
  by_cases hc0 : c0 = 0
  · exact zero (by omega) hc0 (by rw [hu, hc0, show n = 0 by omega])
  -- the row's cells
  have hcp : 0 < c' := by
    rcases Nat.eq_zero_or_pos c' with h0 | h0
    · have := hl0 h0
      subst this
      rcases hcase with ⟨_, hc, _⟩ | ⟨hc, _⟩ | ⟨hc, _⟩
      · omega
      · simp at hn; omega
      · simp at hn; omega
    · exact h0
  have hnf : ¬ free (.row t' l T' c') := fun hf => by have := hf.2; omega
  obtain ⟨ob, o1, hlc, hc2, us, rfl, husz, hcells⟩ := R1.get hk' hr hnf
  have hcut : Elems ρ1.M t' (l.take n) us.toList 0 := by
    have := Elems_cut hcells 0 n
    simpa using this
  have hsg := seg hcut
  rw [hL, List.drop_zero] at hsg
  rcases hcase with ⟨hin, hc, hK⟩ | ⟨hc, hK⟩ | ⟨hc, hm, hK⟩
  rotate_right
  · subst hc
    refine else' R1 rfl (olds := us.toList.take (c0 * t'.size)) hu (by omega) hsg.1 hsg.2.1 ?_ hK
    refine run_firstCells_some (P := P) w.drew i'.size c0 ⟨r, 0, none⟩ c0 c0 _ (by rw [i5]; exact hsg.1) (fun j v hj => ?_)
    rw [addr_add]
    rw [List.getElem?_take] at hj
    split at hj
    · have : w.drew.cell? ⟨r, 0 + j, none⟩ = w.cell? ⟨r, 0 + j, none⟩ := rfl
      rw [this, Nat.zero_add, cell_at o1]; simpa using hj
    · cases hj
  · subst hc
    rcases Nat.eq_zero_or_pos ly.length with hm | hm
    · have hly := len_nil hm
      subst hly
      have hrun := nothing rfl hu hnc
      have R2 := R1.movedTo (b' := .row t' (l.take n ++ []) T' c0) hk' hnf rfl rfl hr (fun ob hob => by
        obtain ⟨g1, g2, us', g3, g4, g5⟩ := hob
        rw [List.append_nil]
        refine ⟨by rw [hL]; omega, g2, us', g3, g4, ?_⟩
        have := Elems_cut g5 0 n
        simpa using this)
      have G2 := G1.adopt (r := r) (.inl (mem_of_get hr))
      refine ⟨_, _, _, _, _, hrun, .inl rfl, hK, R2, (T.mono G2.pre).put hd ?_, rfl, G2⟩
      simp only [D]
      refine .inr ⟨⟨by omega, by rw [List.append_nil, hL]; exact hnc⟩, r, ?_, by rw [List.append_nil, hL]⟩
      rw [← R1.len]; exact snoc_get _ _
    · have hroom : n + ly.length ≤ c0 := by omega
      have hfit : n * i'.size + news.length ≤ us.size := by
        rw [i5, n1, ← Nat.add_mul]
        exact Nat.le_trans (Nat.mul_le_mul_right _ hroom) husz
      have hrun := run_append_room_row (P := P) w t tx o.type T' i' q2 p1 r n c0 _ _ _ src' hroom o1 hfit
      rw [setRow_eq o1, ← hu, i5] at hrun
      have hrun := run hrun
      rw [i5] at hfit
      obtain ⟨arr, harr⟩ : ∃ arr, (us.toList.take (n * t'.size) ++ news ++ us.toList.drop (n * t'.size + news.length)).toArray = arr := ⟨_, rfl⟩
      rw [harr] at hrun
      have htl : (us.toList.take (n * t'.size)).length = n * t'.size := hsg.1
      have hLL : (l.take n ++ ly).length = n + ly.length := by rw [List.length_append, hL]
      have hel : Elems ρ1.M t' (l.take n ++ ly) arr.toList 0 := by
        have e3 := Elems_append hsg.2.1 (by rw [hL]; exact htl) n2
        intro j hj
        have e4 := e3 j hj
        have hj' : j * t'.size + t'.size ≤ (us.toList.take (n * t'.size) ++ news).length := by
          rw [List.length_append, htl, n1, ← Nat.add_mul]
          have := Nat.mul_le_mul_right t'.size hj
          rw [Nat.succ_mul, hLL] at this
          exact this
        rw [← harr, List.toList_toArray]
        rw [Nat.zero_add] at e4 ⊢
        rw [List.drop_append_of_le_length (by omega), List.take_append_of_le_length (by simp only [List.length_drop]; omega)]
        exact e4
      have hasz : c0 * t'.size ≤ arr.size := by
        rw [← harr]
        simp only [List.size_toArray, List.length_append, List.length_take, List.length_drop, Array.length_toList]
        omega
      obtain ⟨R2, G2⟩ := R1.put hk' hnf rfl hr (.cells arr T' (0, 0)) (.row t' (l.take n ++ ly) T' c0) rfl ⟨by rw [hLL]; exact hroom, hc2, arr, rfl, hasz, hel⟩
      have R3 := R2.moved (k := k) (b := .row t' (l.take n ++ ly) T' c0) (by simp [hkl]) (fun hf => by have := hf.2; omega) rfl hr
      rw [List.set_set] at R3
      have G3 := (G1.trans G2).adopt (r := r) (.inl (mem_of_get hr))
      refine ⟨_, _, _, _, _, hrun, .inl rfl, hK, R3, (T.mono G3.pre).put hd ?_, rfl, G3⟩
      simp only [D]
      refine .inr ⟨⟨by omega, by rw [hLL]; exact hroom⟩, r, ?_, by rw [hLL]⟩
      rw [← R1.len]; exact snoc_get _ _
  · subst hc
    rcases Nat.eq_zero_or_pos ly.length with hm | hm
    · have hly := len_nil hm
      subst hly
      have hrun := nothing rfl hu hnc
      have R2 := R1.movedTo (b' := .row t' (l.take c0 ++ []) T' c0) hk' hnf rfl rfl hr (fun ob hob => by
        obtain ⟨g1, g2, us', g3, g4, g5⟩ := hob
        rw [List.append_nil]
        refine ⟨by rw [hL]; exact Nat.le_refl _, by omega, us', g3, Nat.le_trans (Nat.mul_le_mul_right _ (by omega)) g4, ?_⟩
        have := Elems_cut g5 0 c0
        simpa using this)
      have G2 := G1.adopt (r := r) (.inl (mem_of_get hr))
      refine ⟨_, _, _, _, _, hrun, .inl rfl, hK c0 (by rw [List.append_nil, hL]; exact Nat.ble_eq.mpr (Nat.le_refl _)), R2, (T.mono G2.pre).put hd ?_, rfl, G2⟩
      simp only [D]
      refine .inr ⟨⟨by omega, by rw [List.append_nil, hL]; exact Nat.le_refl _⟩, r, ?_, by rw [List.append_nil, hL]⟩
      rw [← R1.len]; exact snoc_get _ _
    · refine else' (R1.kill k) (by simp) (olds := us.toList.take (c0 * t'.size)) hu (by omega) hsg.1 hsg.2.1 ?_ hK
      refine run_firstCells_some (P := P) w.drew i'.size c0 ⟨r, 0, none⟩ c0 c0 _ (by rw [i5]; exact hsg.1) (fun j v hj => ?_)
      rw [addr_add]
      rw [List.getElem?_take] at hj
      split at hj
      · have : w.drew.cell? ⟨r, 0 + j, none⟩ = w.cell? ⟨r, 0 + j, none⟩ := rfl
        rw [this, Nat.zero_add, cell_at o1]; simpa using hj
      · cases hj

theorem appendX_sound {s : S} {o : Oper} {t tx : TypeId} {x y : Operand} (hap : appendOf o = some (t, tx, x, y)) {K : S → Prop} (h : appendX c s o.dst t (s.get x) (s.get y) K) {ρ : Env} {a : Act} {w : World} (R : Rel c.gs ρ s.hp w) (T : TR ρ s.ts a.tmps) (hd : ∀ x, o.dst = some x → x < a.tmps.size)
    (hk : (∃ e', P.underlying tx = some (.slice e')) ∨ (∃ b, s.get y = .str b) ∧ P.underlying tx = some .string) :
    ∃ s' u n w' ρ', (execOp a.eval o).run P w = .ok n w' ∧ (n = .value u ∨ n = .skip ∧ u = undef) ∧ K s' ∧ Rel c.gs ρ' s'.hp w' ∧ TR ρ' s'.ts (a.put o.dst u).tmps ∧ s'.marks = s.marks ∧ Gr ρ w ρ' w' := by
  have hx := get_sound (s := s) (a := a) T x
  unfold appendX at h
  split at h
  · rename_i k oo n cp hxv
    obtain ⟨e, he, h⟩ := tyOf_of h
    split at h
    rotate_left
    · exact h.elim
    rename_i el htd
    obtain ⟨ee, hee, h⟩ := tyOf_of h
    split at h
    rotate_left
    · exact h.elim
    rename_i ty _
    split at h
    rotate_left
    · exact h.elim
    rename_i vs hkv
    split at h
    rotate_left
    · exact h.elim
    rename_i l hl
    obtain ⟨hq, h⟩ := req_of h
    simp only [Bool.and_eq_true] at hq
    have hn := Nat.le_of_ble_eq_true hq.1
    have hcp := Nat.le_of_ble_eq_true hq.2
    rw [hxv] at hx
    simp only [D] at hx
    obtain ⟨r, hr, hu, hc⟩ := hx
    obtain ⟨ρ', ob, e1, R', G', hM, us, T', rfl, h2⟩ := R.still hkv hr
    obtain ⟨m1, m2, _⟩ := many_sound (Ds_drop h2 oo) hl
    have e3 := Elems_cut m2 0 n
    simp only [List.drop_zero, Nat.zero_mul, Nat.add_zero] at e3
    have e4 : Elems ρ'.M ty (l.take n) us.toList oo := by
      intro i hi
      have := e3 i hi
      rw [Nat.zero_add, List.drop_drop] at this
      exact this
    have hlen : (l.take n).length = n := by simp; omega
    have hxs : D ρ' (.sl ty (l.take n) (some cp)) (a.eval x) := by
      simp only [D]
      exact ⟨_, cp, by rw [hu, hlen], by omega, fun n h => (by cases h; rfl), .inr ⟨r, oo, us, T', (0, 0), rfl, hM, e4⟩⟩
    obtain ⟨s', u, n', w', ρ2, k1, k2, k3, k4, k5, k6, k7⟩ := append_sound hT hE (s := ⟨s.ts, s.hp.set k .dead, s.marks⟩) (X := fun _ => .sl ty (l.take n) (some cp)) hap h hxs R' (T.mono G'.pre) hd hk
    exact ⟨s', u, n', w', ρ2, k1, k2, k3, k4, k5, k6, G'.trans k7⟩
  · rename_i k zz oo n c0 hxv
    exact appendR_sound hT hE hap hxv h R T hd hk
  · exact append_sound hT hE (X := fun x => s.get x) hap h hx R T hd hk

end

theorem patch_same {α : Type} (A B : List α) (p f e z : Nat) (h1 : p + z ≤ A.length) (h2 : f + e ≤ z) (h3 : B.length = e) :
    ((A.take (p + f) ++ B ++ A.drop (p + f + e)).drop p).take z = ((A.drop p).take z).take f ++ B ++ ((A.drop p).take z).drop (f + e) := by
  have e1 : A.take (p + f) = A.take p ++ (A.drop p).take f := List.take_add
  have e2 : A.drop (p + f + e) = (A.drop p).drop (f + e) := by rw [List.drop_drop]; congr 1; omega
  have hp : (A.take p).length = p := by simp; omega
  have hx : z ≤ (A.drop p).length := by simp; omega
  rw [e1, e2, List.append_assoc, List.append_assoc, List.drop_append_of_le_length (by omega), List.drop_of_length_le (by omega), List.nil_append]
  generalize A.drop p = X at *
  rw [List.take_take, Nat.min_eq_left (by omega), List.drop_take]
  have hf : (X.take f).length = f := by simp; omega
  have l1 : ∀ Y : List α, (X.take f ++ Y).take z = X.take f ++ Y.take (z - f) := fun Y => by rw [List.take_append, hf, List.take_of_length_le (l := X.take f) (by omega)]
  have l2 : ∀ Y : List α, (B ++ Y).take (z - f) = B ++ Y.take (z - f - e) := fun Y => by rw [List.take_append, h3, List.take_of_length_le (l := B) (by omega)]
  rw [l1, l2, List.append_assoc, show z - f - e = z - (f + e) by omega]

theorem patch_other {α : Type} (A B : List α) (q P e z : Nat) (h1 : P + e ≤ A.length) (h3 : B.length = e) (h : q + z ≤ P ∨ P + e ≤ q) :
    ((A.take P ++ B ++ A.drop (P + e)).drop q).take z = (A.drop q).take z := by
  have hp : (A.take P).length = P := by simp; omega
  rcases h with h | h
  · rw [List.append_assoc, List.drop_append_of_le_length (by omega), List.take_append_of_le_length (by simp; omega), List.drop_take, List.take_take, Nat.min_eq_left (by omega)]
  · obtain ⟨m, rfl⟩ : ∃ m, q = P + e + m := ⟨q - (P + e), by omega⟩
    have hl : (A.take P ++ B).length = P + e := by rw [List.length_append, hp, h3]
    rw [← List.drop_drop, List.drop_left' hl, List.drop_drop]
section
variable {P : Program} {c : Cx} (hT : TyOk P c) (hE : EqOk P c)
include hT hE
omit hT hE in

theorem fan_get {j : Int} {K : V → Prop} : ∀ {i : Nat} {cs : List V}, fan j K i cs → ∃ m v, cs[m]? = some v ∧ j = ((i + m : Nat) : Int) ∧ K v
  | _, [], h => h.elim
  | i, v :: vs, h => by
    unfold fan br at h
    split at h
    · rename_i hj
      exact ⟨0, v, rfl, by simpa using hj, h⟩
    · obtain ⟨m, x, h1, h2, h3⟩ := fan_get h
      exact ⟨m + 1, x, by simpa using h1, by rw [h2]; congr 1; omega, h3⟩
omit hT hE in

theorem fan_sound {s : S} {o : Oper} {j : Int} {cs : List V} {K : V → Prop} (hf : fanOf c s o = some (j, cs)) (h : fan j K 0 cs) : ∃ v, look c s o = some (v, true) ∧ K v := by
  obtain ⟨m, v, h1, h2, h3⟩ := fan_get h
  refine ⟨v, ?_, h3⟩
  unfold fanOf at hf
  split at hf
  · rename_i t x ho
    split at hf
    · rename_i k jj hx
      split at hf
      · rename_i cs' hcs
        obtain ⟨ee, hee, hf⟩ := tyO_of hf
        split at hf
        · rename_i hb
          simp only [Option.some.injEq, Prod.mk.injEq] at hf
          obtain ⟨rfl, rfl⟩ := hf
          simp only [Bool.and_eq_true, Bool.not_eq_true'] at hb
          obtain ⟨⟨b1, b2⟩, b3⟩ := hb
          have hm : jj = m := by omega
          subst hm
          have hget : getV cs' jj = some (v, true) := by
            unfold getV
            split
            · cases b3
            · rw [h1]
          unfold look lk_load
          simp only [ho, hx, hcs]
          unfold tyO
          rw [hee]
          simp only
          unfold partO
          rw [b1]
          exact hget
        · cases hf
      · cases hf
    · cases hf
  · rename_i t x i ho
    split at hf
    · rename_i kk j' hi
      split at hf
      · rename_i cs' hx
        obtain ⟨e, he, hf⟩ := tyO_of hf
        split at hf
        · rename_i n el htd
          obtain ⟨ee, hee, hf⟩ := tyO_of hf
          split at hf
          · rename_i hb
            simp only [Option.some.injEq, Prod.mk.injEq] at hf
            obtain ⟨rfl, rfl⟩ := hf
            simp only [Bool.and_eq_true, Bool.not_eq_true'] at hb
            obtain ⟨⟨⟨⟨b1, b2⟩, b3⟩, b4⟩, b5⟩ := hb
            have b1 := Nat.eq_of_beq_eq_true b1
            have b3 := Nat.eq_of_beq_eq_true b3
            have hlt : m < cs'.length := (List.getElem?_eq_some_iff.mp h1).1
            have hget : getV cs' m = some (v, true) := by
              unfold getV
              split
              · cases b5
              · rw [h1]
            unfold look lk_index
            simp only [ho, hi, hx, tyO, he, htd, hee, partO, b2, b1, h2, Nat.zero_add, Nat.mul_one, Int.toNat_natCast, hget, andG]
            have d1 : decide ((0 : Int) ≤ (m : Int)) = true := by simp
            have d2 : decide ((m : Int) < (n : Int)) = true := by rw [b3]; simpa using hlt
            rw [d1, d2]; rfl
          · cases hf
        · cases hf
      · cases hf
    · cases hf
  · cases hf
omit hT hE in

theorem List.set_getElem?_self' {α : Type} : ∀ {l : List α} {k : Nat} {b : α}, l[k]? = some b → l.set k b = l
  | [], k, b, h => by simp at h
  | x :: l, 0, b, h => by simp at h; simp [h]
  | x :: l, k + 1, b, h => by simp at h; simp [List.set_getElem?_self' h]
omit hT hE in

theorem clearOf_spec {c : Cx} {s : S} {o : Oper} {b : Bool} (h : clearOf c s o = some b) : ∃ cl x t e el ee, o.op = .call cl ∧ cl.callee = .builtin .clear ∧ cl.args.toList = [x] ∧ cl.argTypes.toList = [t] ∧ assoc t c.ty = some e ∧ e.td = .slc el ∧ assoc el c.ty = some ee ∧
    ((s.get x = .old (.slice none 0 0) ∧ b = true) ∨ ∃ k z oo n cc t' l T c', s.get x = .rs k z oo n cc ∧ s.hp[k]? = some (.row t' l T c') ∧ z = t'.size ∧ ee.zero.length = z ∧ ee.zero.all one = true ∧ b = (Nat.ble l.length oo && Nat.ble (oo + n) c')) := by
  unfold clearOf at h
  split at h
  rotate_left
  · cases h
  rename_i cl ho
  split at h
  rotate_left
  · cases h
  rename_i bb hb
  split at h
  rotate_left
  · cases h
  split at h
  rotate_left
  · cases h
  rename_i x hx
  split at h
  rotate_left
  · cases h
  rename_i t ht
  obtain ⟨e, he, h⟩ := tyO_of h
  split at h
  rotate_left
  · cases h
  rename_i el hel
  obtain ⟨ee, hee, h⟩ := tyO_of h
  refine ⟨cl, x, t, e, el, ee, ho, hb, hx, ht, he, hel, hee, ?_⟩
  split at h
  · rename_i k z oo n cc hv
    split at h
    rotate_left
    · cases h
    rename_i t' l T c' hk
    split at h
    · rename_i hz
      simp only [Bool.and_eq_true] at hz
      cases h
      exact .inr ⟨k, z, oo, n, cc, t', l, T, c', hv, hk, Nat.eq_of_beq_eq_true hz.1.1, Nat.eq_of_beq_eq_true hz.1.2, hz.2, rfl⟩
    · cases h
  · rename_i hv
    cases h
    exact .inl ⟨hv, rfl⟩
  · cases h
omit hT hE in

theorem clear_sound {P : Program} {c : Cx} (hT : TyOk P c) {s : S} {o : Oper} (h : clearOf c s o = some true) {ρ : Env} {a : Act} {w : World} (R : Rel c.gs ρ s.hp w) (T : TR ρ s.ts a.tmps) :
    ∃ w', (execOp a.eval o).run P w = .ok (.value (.tuple #[])) w' ∧ Rel c.gs ρ s.hp w' ∧ Gr ρ w ρ w' := by
  obtain ⟨cl, x, t, e, el, ee, ho, hb, hxl, htl, he, hel, hee, hx⟩ := clearOf_spec h
  obtain ⟨i, d, z, q1, q2, q3, q4, q5, q6⟩ := tyMk_spec (hT _ _ he)
  have hd' : d = .slice el := by
    rw [hel] at q4
    cases d <;> simp [tdMk] at q4 ⊢
    exact q4.symm
  subst hd'
  have hca : cl.args.map a.eval = #[a.eval x] := by
    rw [← Array.toList_inj]; simp [hxl]
  have hct : cl.argTypes = #[t] := by
    rw [← Array.toList_inj]; simp [htl]
  have run : ∀ {w' : World} {v : Value}, (Builtin.clear_ #[t] o.type #[a.eval x]).run P w = .ok v w' → (execOp a.eval o).run P w = .ok (.value v) w' := fun {w' v} hr => by
    simp only [execOp, ho, resolve, hb, invoke, builtin, hca, hct]
    simp [hr]
  have G := get_sound (s := s) (a := a) T x
  have none' : ∀ {ad : Option Addr} {cc : Nat}, a.eval x = .slice ad 0 cc → ∃ w', (execOp a.eval o).run P w = .ok (.value (.tuple #[])) w' ∧ Rel c.gs ρ s.hp w' ∧ Gr ρ w ρ w' := fun {ad cc} hu => by
    refine ⟨w, run ?_, R, Gr.refl _ _⟩
    rw [hu]
    cases ad <;> simp [Builtin.clear_, run_underlying q2]
  rcases hx with ⟨hv, _⟩ | ⟨k, zz, oo, n, cc, t', l, T', c', hv, hk, hz1, hz2, hz3, hdem⟩
  · rw [hv] at G
    simp only [D] at G
    exact none' G
  · rw [hv] at G
    simp only [D] at G
    have hdem := hdem.symm
    simp only [Bool.and_eq_true] at hdem
    have d1 := Nat.le_of_ble_eq_true hdem.1
    have d2 := Nat.le_of_ble_eq_true hdem.2
    rcases G with ⟨rfl, _, ad, hu⟩ | ⟨r, hr, hu, hnc⟩
    · exact none' hu
    rcases Nat.eq_zero_or_pos n with h0 | h0
    · subst h0; exact none' hu
    obtain ⟨zv, hzv, hzc⟩ := run_zero (hT _ _ hee) w
    have hnf : ¬ free (.row t' l T' c') := fun hf => by have := hf.2; omega
    obtain ⟨ob, o1, hlc, hc2, us, rfl, husz, hcells⟩ := R.get hk hr hnf
    have hzs : zv.cells.size = t'.size := by
      have := congrArg List.length hzc
      simp at this
      omega
    have hone : ∀ v ∈ (Builtin.zeroCells zv.cells n).toList, v.oneCell' = true := fun v hv => by
      have hds := Ds_zero ρ zv.cells.toList
      rw [← hzc] at hds
      have hm : v ∈ zv.cells.toList := by
        simp only [Builtin.zeroCells, Array.toList_map, List.mem_map] at hv
        obtain ⟨j, _, rfl⟩ := hv
        have hp := t'.size_pos
        have hlt : j % zv.cells.size < zv.cells.size := Nat.mod_lt _ (by omega)
        rw [getElem!_pos zv.cells _ hlt]
        exact Array.mem_toList_iff.mpr (Array.getElem_mem hlt)
      obtain ⟨j, hj, hjv⟩ := List.getElem_of_mem hm
      have hlen := Ds_len hds
      have hj' : ee.zero[j]? = some (ee.zero[j]'(by omega)) := List.getElem?_eq_getElem (by omega)
      obtain ⟨u, hu1, hu2⟩ := Ds_get hds hj'
      rw [List.getElem?_eq_getElem hj] at hu1
      cases hu1
      rw [← hjv]
      exact D_one hu2 (List.all_eq_true.mp hz3 _ (List.getElem_mem _))
    have hnl : (Builtin.zeroCells zv.cells n).toList.length = n * t'.size := by rw [Array.length_toList, size_zeroCells, hzs]
    have hin : oo * t'.size + n * t'.size ≤ us.size := by
      rw [← Nat.add_mul]
      exact Nat.le_trans (Nat.mul_le_mul_right _ d2) husz
    have hrun := run_storeCells_at (P := P) r (oo * t'.size) T' (Builtin.zeroCells zv.cells n).toList 0 us w o1 (by rw [hnl]; omega) hone
    rw [setRow_eq o1, Nat.add_zero, hnl] at hrun
    obtain ⟨row, hrow⟩ : ∃ row, (us.toList.take (oo * t'.size) ++ (Builtin.zeroCells zv.cells n).toList ++ us.toList.drop (oo * t'.size + n * t'.size)).toArray = row := ⟨_, rfl⟩
    rw [hrow] at hrun
    have hel' : Elems ρ.M t' l row.toList 0 := by
      intro j hj
      have := hcells j hj
      have hle : (j + 1) * t'.size ≤ oo * t'.size := Nat.mul_le_mul_right _ (by omega)
      rw [Nat.succ_mul] at hle
      rw [Nat.zero_add] at this ⊢
      rw [← hrow, List.toList_toArray, List.append_assoc, List.drop_append_of_le_length (by simp; omega), List.take_append_of_le_length (by simp; omega), List.drop_take, List.take_take, Nat.min_eq_left (by omega)]
      exact this
    have hrsz : c' * t'.size ≤ row.size := by
      rw [← hrow]
      simp only [List.size_toArray, List.length_append, List.length_take, List.length_drop, Array.length_toList]
      rw [Array.length_toList] at hnl
      rw [hnl]
      omega
    obtain ⟨R2, G2⟩ := R.put hk hnf rfl hr (.cells row T' (0, 0)) (.row t' l T' c') rfl ⟨hlc, hc2, row, rfl, hrsz, hel'⟩
    rw [List.set_getElem?_self' hk] at R2
    refine ⟨_, run ?_, R2, G2⟩
    rw [hu, hz1]
    obtain ⟨m, rfl⟩ : ∃ m, n = m + 1 := ⟨n - 1, by omega⟩
    simp [Builtin.clear_, run_underlying q2, hzv, hrun]
omit hT hE in

theorem nil_cmp {P : Program} {t el : TypeId} (hu : P.underlying t = some (.slice el)) (ad : Option Addr) (n c : Nat) (ox oy : Operand) (w : World) :
    (do eqGuard .eql t ox oy (.slice ad n c) (.slice none 0 0); binOp .eql t (.slice ad n c) (.slice none 0 0) : Sem Value).run P w = .ok (.bool ad.isNone) w ∧
    (do eqGuard .neq t ox oy (.slice ad n c) (.slice none 0 0); binOp .neq t (.slice ad n c) (.slice none 0 0) : Sem Value).run P w = .ok (.bool (!ad.isNone)) w := by
  have heq' : ∀ d, (Op.equalIn (d + 1) t (.slice ad n c) (.slice none 0 0)).run P w = .ok ad.isNone w := fun d => by
    cases ad <;> simp [Op.equalIn, run_underlying hu]
  have heq : (Op.equal t (.slice ad n c) (.slice none 0 0)).run P w = .ok ad.isNone w := heq' 9999
  constructor <;> simp [eqGuard, binOp, heq]
omit hT hE in

theorem nil_sound {P : Program} {s : S} {o : Oper} {t : TypeId} {n : Nat} {b : Bool} (h : nilCmp s o = some (t, n, b)) {ρ : Env} {a : Act} (T : TR ρ s.ts a.tmps) {el : TypeId} (hu : P.underlying t = some (.slice el)) :
    ∃ u, (n = 0 ∧ u = .bool b ∨ u = .bool (!b)) ∧ ∀ w, (execOp a.eval o).run P w = .ok (.value u) w := by
  have G := fun x => get_sound (s := s) (a := a) T x
  have key : ∀ {x : Operand} {v : V} {m : Nat}, s.get x = v → ((∃ t l c, v = .sl t l c ∧ m = l.length) ∨ (∃ k z c, v = .row k z m c) ∨ ∃ k z o c, v = .rs k z o m c) → ∃ ad q c, a.eval x = .slice ad q c ∧ (m = 0 ∨ ad.isNone = false) := by
    intro x v m hv hk
    have hx := G x
    rw [hv] at hx
    rcases hk with ⟨t, l, c, rfl, rfl⟩ | ⟨k, z, c, rfl⟩ | ⟨k, z, o, c, rfl⟩ <;> simp only [D] at hx
    · obtain ⟨ad, cp, h1, _, _, h4⟩ := hx
      refine ⟨ad, _, cp, h1, ?_⟩
      rcases h4 with rfl | ⟨r, o, cs, T, fr, rfl, _⟩
      · exact .inl rfl
      · exact .inr rfl
    · rcases hx with ⟨h1, _, ad, h2⟩ | ⟨_, r, _, h2⟩
      · exact ⟨ad, 0, 0, h2, .inl h1⟩
      · exact ⟨_, _, _, h2, .inr rfl⟩
    · rcases hx with ⟨h1, _, ad, h2⟩ | ⟨r, _, h2, _⟩
      · exact ⟨ad, 0, 0, h2, .inl h1⟩
      · exact ⟨_, _, _, h2, .inr rfl⟩
  have fin : ∀ {x y : Operand} {m : Nat} {yt : TypeId}, a.eval y = .slice none 0 0 → (∃ ad q c, a.eval x = .slice ad q c ∧ (m = 0 ∨ ad.isNone = false)) →
      (o.op = .binOp .eql t x y yt → ∃ u, (m = 0 ∧ u = Value.bool true ∨ u = .bool (!true)) ∧ ∀ w, (execOp a.eval o).run P w = .ok (.value u) w) ∧
      (o.op = .binOp .neq t x y yt → ∃ u, (m = 0 ∧ u = Value.bool false ∨ u = .bool (!false)) ∧ ∀ w, (execOp a.eval o).run P w = .ok (.value u) w) := by
    rintro x y m yt hy ⟨ad, q, c, hx, hm⟩
    have E := fun w => nil_cmp (P := P) hu ad q c x y w
    constructor
    · intro ho
      refine ⟨.bool ad.isNone, ?_, fun w => ?_⟩
      · cases hn : ad.isNone
        · exact .inr rfl
        · rw [hn] at hm
          exact .inl ⟨hm.resolve_right (by simp), rfl⟩
      · simp only [execOp, ho, hx, hy]
        show ((do eqGuard .eql t x y (.slice ad q c) (.slice none 0 0); binOp .eql t (.slice ad q c) (.slice none 0 0) : Sem Value) >>= fun r => pure (Next.value r)).run P w = _
        rw [Sem.run_bind, (E w).1]
        rfl
    · intro ho
      refine ⟨.bool (!ad.isNone), ?_, fun w => ?_⟩
      · cases hn : ad.isNone
        · exact .inr rfl
        · rw [hn] at hm
          exact .inl ⟨hm.resolve_right (by simp), rfl⟩
      · simp only [execOp, ho, hx, hy]
        show ((do eqGuard .neq t x y (.slice ad q c) (.slice none 0 0); binOp .neq t (.slice ad q c) (.slice none 0 0) : Sem Value) >>= fun r => pure (Next.value r)).run P w = _
        rw [Sem.run_bind, (E w).2]
        rfl
  have hnil : ∀ {y : Operand}, s.get y = .old (.slice none 0 0) → a.eval y = .slice none 0 0 := fun {y} hy => by
    have := G y
    rw [hy] at this
    simpa [D] using this
  unfold nilCmp at h
  split at h
  · rename_i ho
    split at h
    · rename_i hy
      split at h <;> rename_i hx <;> first
        | (cases h; done)
        | (simp only [Option.some.injEq, Prod.mk.injEq] at h
           obtain ⟨rfl, rfl, rfl⟩ := h
           exact (fin (hnil hy) (key hx (by first | exact .inl ⟨_, _, _, rfl, rfl⟩ | exact .inr (.inl ⟨_, _, _, rfl⟩) | exact .inr (.inr ⟨_, _, _, _, rfl⟩)))).1 ho)
    · cases h
  · rename_i ho
    split at h
    · rename_i hy
      split at h <;> rename_i hx <;> first
        | (cases h; done)
        | (simp only [Option.some.injEq, Prod.mk.injEq] at h
           obtain ⟨rfl, rfl, rfl⟩ := h
           exact (fin (hnil hy) (key hx (by first | exact .inl ⟨_, _, _, rfl, rfl⟩ | exact .inr (.inl ⟨_, _, _, rfl⟩) | exact .inr (.inr ⟨_, _, _, _, rfl⟩)))).2 ho)
    · cases h
  · cases h
omit hT hE in

theorem nilV_sound {cc : Bool} {v : V} {b : Bool} (h : nilV cc v = some b) {ρ : Env} {u : Value} (d : D ρ v u) : ∃ ad n cp, u = .slice ad n cp ∧ ad.isNone = b := by
  unfold nilV at h
  split at h
  · cases h; simp only [D] at d; exact ⟨_, _, _, d, rfl⟩
  · cases h; simp only [D] at d; obtain ⟨r, _, rfl, _⟩ := d; exact ⟨_, _, _, rfl, rfl⟩
  · split at h
    · rename_i hb; cases h
      simp only [Bool.and_eq_true, Nat.blt_eq] at hb
      simp only [D] at d
      rcases d with ⟨h0, _⟩ | ⟨_, r, _, rfl⟩
      · omega
      · exact ⟨_, _, _, rfl, rfl⟩
    · cases h
  · split at h
    · rename_i hb; cases h
      simp only [Bool.and_eq_true, Nat.blt_eq] at hb
      simp only [D] at d
      rcases d with ⟨h0, _⟩ | ⟨r, _, rfl, _⟩
      · omega
      · exact ⟨_, _, _, rfl, rfl⟩
    · cases h
  · split at h
    · rename_i hb; cases h
      simp only [Bool.and_eq_true, Nat.blt_eq] at hb
      simp only [D] at d
      obtain ⟨a, cp, rfl, _, _, h4⟩ := d
      rcases h4 with h0 | ⟨r, o, cs, T, fr, rfl, _⟩
      · rw [h0] at hb; simp at hb
      · exact ⟨_, _, _, rfl, rfl⟩
    · cases h
  · cases h
omit hT hE in

theorem nilKnown_sound {P : Program} {c : Cx} {s : S} {o : Oper} {t el : TypeId} {b : Bool} (h : nilKnown c s o = some (t, b)) {ρ : Env} {a : Act} (T : TR ρ s.ts a.tmps) (hu : P.underlying t = some (.slice el)) (w : World) :
    (execOp a.eval o).run P w = .ok (.value (.bool b)) w := by
  unfold nilKnown at h
  split at h
  rotate_left
  · cases h
  rename_i op t' x y yt ho
  split at h
  rotate_left
  · cases h
  rename_i hy
  split at h
  rotate_left
  · cases h
  rename_i b' hb
  obtain ⟨ad, n, cp, hx, hn⟩ := nilV_sound hb (get_sound (s := s) (a := a) T x)
  have hy' : a.eval y = .slice none 0 0 := by
    have := get_sound (s := s) (a := a) T y
    rw [hy] at this
    simpa only [D] using this
  split at h
  · cases h
    have k := (nil_cmp (P := P) hu ad n cp x y w).1
    rw [hn] at k
    simp only [execOp, ho, hx, hy']
    have : ((do eqGuard .eql t x y (.slice ad n cp) (.slice none 0 0); binOp .eql t (.slice ad n cp) (.slice none 0 0) : Sem Value) >>= fun r => pure (Next.value r)).run P w = .ok (.value (.bool b)) w := by
      simp only [Sem.run_bind] at k ⊢
      simp [k]
    exact this
  · cases h
    have k := (nil_cmp (P := P) hu ad n cp x y w).2
    rw [hn] at k
    simp only [execOp, ho, hx, hy']
    have : ((do eqGuard .neq t x y (.slice ad n cp) (.slice none 0 0); binOp .neq t (.slice ad n cp) (.slice none 0 0) : Sem Value) >>= fun r => pure (Next.value r)).run P w = .ok (.value (.bool (!b'))) w := by
      simp only [Sem.run_bind] at k ⊢
      simp [k]
    exact this
  · cases h
omit hT hE in

theorem lookM_sound {ρ : Env} {kd : IntKind} {j : Int} {K : V → Prop} : ∀ (es : List (Int × V)) (ms : List MapEntry) (i : Nat), lookM j K es → ms.map (·.key) = es.map (fun e => Value.int kd e.1) → Ds ρ (es.map (·.2)) (ms.map (·.val)) →
    ∃ n v u, Instr.findNow (.int kd) (.int kd j) ms i = some (some (n, u)) ∧ D ρ v u ∧ K v
  | [], _, _, h, _, _ => h.elim
  | (i', v) :: es, [], _, _, hk, _ => by simp at hk
  | (i', v) :: es, m :: ms, i, h, hk, hv => by
    simp only [List.map_cons, List.cons.injEq] at hk
    simp only [List.map_cons] at hv
    obtain ⟨u, us, hu, d1, d2⟩ := Ds_cons.mp hv
    cases hu
    have h : br (j == i') (K v) (lookM j K es) := h
    have hs : Instr.sameNow (.int kd) (.int kd j) m.key = some (j == i') := by rw [hk.1]; simp [Instr.sameNow]
    cases hb : (j == i') with
    | true =>
      rw [hb] at h hs
      exact ⟨i, v, m.val, by simp [Instr.findNow, hs], d1, h⟩
    | false =>
      rw [hb] at h hs
      obtain ⟨n, v', u', e1, e2, e3⟩ := lookM_sound es ms (i + 1) h hk.2 d2
      exact ⟨n, v', u', by simp [Instr.findNow, hs, e1], e2, e3⟩
omit hT hE in

theorem freshKey {kd : IntKind} {j : Int} : ∀ (es : List (Int × V)) (ms : List MapEntry) (i : Nat), (es.all fun e => !(j == e.1)) = true → ms.map (·.key) = es.map (fun e => Value.int kd e.1) → Instr.findNow (.int kd) (.int kd j) ms i = some none
  | [], [], _, _, _ => rfl
  | [], _ :: _, _, _, hk => by simp at hk
  | _ :: _, [], _, _, hk => by simp at hk
  | e :: es, m :: ms, i, h, hk => by
    simp only [List.map_cons, List.cons.injEq] at hk
    simp only [List.all_cons, Bool.and_eq_true] at h
    have hs : Instr.sameNow (.int kd) (.int kd j) m.key = some (j == e.1) := by rw [hk.1]; simp [Instr.sameNow]
    have hb : (j == e.1) = false := by simpa using h.1
    rw [hb] at hs
    simp [Instr.findNow, hs, freshKey es ms (i + 1) h.2 hk.2]

theorem mapTy {t k : TypeId} {e ke : TyE} {kd : IntKind} {el : TypeId} (he : assoc t c.ty = some e) (htd : e.td = .mp k el) (hke : assoc k c.ty = some ke) (hkd : ke.td = .int kd) : (∃ el, P.underlying t = some (.map k el)) ∧ P.underlying k = some (.int kd) := by
  obtain ⟨i, d, z, q1, q2, q3, q4, q5, q6⟩ := tyMk_spec (hT _ _ he)
  obtain ⟨i', d', z', p1, p2, p3, p4, p5, p6⟩ := tyMk_spec (hT _ _ hke)
  rw [htd] at q4
  rw [hkd] at p4
  constructor
  · cases d <;> simp [tdMk] at q4
    obtain ⟨rfl, rfl⟩ := q4
    exact ⟨_, q2⟩
  · cases d' <;> simp [tdMk] at p4
    subst p4
    exact p2

theorem insert_sound {s : S} {o : Oper} {t : TypeId} {m key x : Operand} {K : S → Prop} (ho : o.op = .insert t m key x ∨ o.op = .mapUpdate t m key x) (h : ac_insert c s o t m key x K) {ρ : Env} {a : Act} {w : World} (R : Rel c.gs ρ s.hp w) (T : TR ρ s.ts a.tmps) (hd : ∀ x, o.dst = some x → x < a.tmps.size) : Ends P c s o K ρ a w := by
  have G := fun x => get_sound (s := s) (a := a) T x
  unfold ac_insert at h
  obtain ⟨e, he, h⟩ := tyOf_of h
  split at h
  rotate_left
  · exact h.elim
  rename_i k el htd
  obtain ⟨ke, hke, h⟩ := tyOf_of h
  split at h
  rotate_left
  · exact h.elim
  rename_i kd hkd
  obtain ⟨⟨el', hu1⟩, hu2⟩ := mapTy hT hE he htd hke hkd
  split at h
  rotate_left
  · exact h.elim
  rename_i b hm
  split at h
  rotate_left
  · exact h.elim
  rename_i kd' es hb
  split at h
  rotate_left
  · exact h.elim
  rename_i kd'' j hj
  split at h
  rotate_left
  · exact h.elim
  rename_i hq
  simp only [Bool.and_eq_true] at hq
  obtain rfl := kindEq_of hq.1
  obtain rfl := kindEq_of hq.2
  obtain ⟨hdem, h⟩ := req_of h
  have gm := G m
  rw [hm] at gm
  simp only [D] at gm
  obtain ⟨r, hr, hu⟩ := gm
  have gk := G key
  rw [hj] at gk
  simp only [D] at gk
  obtain ⟨ob, h1, ms, clock, rfl, hk, hv⟩ := R.get hb hr id
  have hf := freshKey es ms.toList 0 hdem hk
  have hfk := MapKept.run_findKey (P := P) (w := w) hu2 hf
  have hck := MapKept.run_checkKey (P := P) (w := w) (k := .int kd j) hu2 (by simp [MapKept.IsKey]) false 9999
  have hrun : (Instr.mapUpdate t (a.eval m) (a.eval key) (a.eval x)).run P w = .ok () { w with heap := w.heap.setIfInBounds r (.map (ms.push { key := .int kd j, val := a.eval x, born := clock }) (clock + 1)) } := by
    rw [hu, gk]
    simp [Instr.mapUpdate, run_underlying hu1, MapKept.run_getObj_map h1, hck, hfk, MapKept.run_setObj_map _ h1]
  obtain ⟨R', Gr'⟩ := R.put hb id rfl hr (.map (ms.push { key := .int kd j, val := a.eval x, born := clock }) (clock + 1)) (.map kd (es ++ [(j, s.get x)])) rfl ⟨_, _, rfl, by simp [hk], by
    simp only [Array.toList_push, List.map_append, List.map_cons, List.map_nil]
    exact Ds_append hv (Ds_cons.mpr ⟨_, _, rfl, G x, Ds_nil.mpr rfl⟩)⟩
  refine ⟨_, undef, .skip, _, _, ?_, .inr ⟨rfl, rfl⟩, h, R', T.put hd D_undef, rfl, Gr'⟩
  rcases ho with ho | ho <;> simp [execOp, ho, hrun]

theorem lookup_sound {s : S} {o : Oper} {t : TypeId} {m key : Operand} {ok : Bool} {K : S → Prop} (ho : o.op = .lookup t m key ok) (h : ac_lookup c s o t m key ok K) {ρ : Env} {a : Act} {w : World} (R : Rel c.gs ρ s.hp w) (T : TR ρ s.ts a.tmps) (hd : ∀ x, o.dst = some x → x < a.tmps.size) : Ends P c s o K ρ a w := by
  have G := fun x => get_sound (s := s) (a := a) T x
  unfold ac_lookup at h
  cases ok with
  | true => exact h.elim
  | false =>
    simp only at h
    obtain ⟨e, he, h⟩ := tyOf_of h
    split at h
    rotate_left
    · exact h.elim
    rename_i k el htd
    obtain ⟨ke, hke, h⟩ := tyOf_of h
    split at h
    rotate_left
    · exact h.elim
    rename_i kd hkd
    obtain ⟨⟨el', hu1⟩, hu2⟩ := mapTy hT hE he htd hke hkd
    split at h
    rotate_left
    · exact h.elim
    rename_i b hm
    split at h
    rotate_left
    · exact h.elim
    rename_i kd' es hb
    split at h
    rotate_left
    · exact h.elim
    rename_i kd'' j hj
    split at h
    rotate_left
    · exact h.elim
    rename_i hq
    simp only [Bool.and_eq_true] at hq
    obtain rfl := kindEq_of hq.1
    obtain rfl := kindEq_of hq.2
    have gm := G m
    rw [hm] at gm
    simp only [D] at gm
    obtain ⟨r, hr, hu⟩ := gm
    have gk := G key
    rw [hj] at gk
    simp only [D] at gk
    obtain ⟨ob, h1, ms, clock, rfl, hk, hv⟩ := R.get hb hr id
    obtain ⟨n, v, u, e1, e2, e3⟩ := lookM_sound es ms.toList 0 h hk hv
    have hfk := MapKept.run_findKey (P := P) (w := w) hu2 e1
    have hck := fun b => MapKept.run_checkKey (P := P) (w := w) (k := .int kd j) hu2 (by simp [MapKept.IsKey]) b 9999
    refine ⟨_, u, _, w, ρ, ?_, .inl rfl, e3, R, T.put hd e2, rfl, Gr.refl _ _⟩
    have hrun : (Instr.lookup t (a.eval m) (a.eval key) false).run P w = .ok u w := by
      rw [hu, gk]
      simp [Instr.lookup, run_underlying hu1, MapKept.run_getObj_map h1, hck, hfk]
    simp [execOp, ho, hrun]

set_option maxHeartbeats 1000000 in
theorem act_sound {s : S} {o : Oper} {K : S → Prop} (h : act c s o K) {ρ : Env} {a : Act} {w : World} (R : Rel c.gs ρ s.hp w) (T : TR ρ s.ts a.tmps) (hd : ∀ x, o.dst = some x → x < a.tmps.size) :
    ∃ s' u n w' ρ', (execOp a.eval o).run P w = .ok n w' ∧ (n = .value u ∨ n = .skip ∧ u = undef) ∧ K s' ∧ Rel c.gs ρ' s'.hp w' ∧ TR ρ' s'.ts (a.put o.dst u).tmps ∧ s'.marks = s.marks ∧ Gr ρ w ρ' w' := by
  have G := fun x => get_sound (s := s) (a := a) T x
  unfold act ac_box ac_alloc ac_buildSlice ac_makeSlice ac_store ac_range ac_next ac_rest at h
  simp only [forceVs_eq] at h
  split at h
  · -- box
    rename_i t x ho
    split at h
    · rename_i cs hcs
      have hds := cellsIf_sound (G x) hcs
      obtain ⟨R', Gr'⟩ := R.alloc (.cells (a.eval x).cells t) (.cells cs) rfl ⟨_, _, rfl, Ds_mono (Env.le_snoc _ _) hds⟩
      refine ⟨_, .pointer (some ⟨w.heap.size, 0, none⟩), _, _, _, ?_, .inl rfl, h, R', (T.mono Gr'.pre).put hd ?_, rfl, Gr'⟩
      · simp [execOp, ho, Instr.box, newVar, newRow]
      · simp only [D]; exact ⟨_, by rw [← R.len]; exact snoc_get _ _, rfl⟩
    · exact h.elim
  · -- alloc
    rename_i t ho
    obtain ⟨e, he, h⟩ := tyOf_of h
    obtain ⟨z, hz, hz2⟩ := run_zero (hT _ _ he) w
    obtain ⟨R', Gr'⟩ := R.alloc (.cells z.cells t) (.cells e.zero) rfl ⟨_, _, rfl, by rw [hz2]; exact Ds_zero _ _⟩
    refine ⟨_, .pointer (some ⟨w.heap.size, 0, none⟩), _, _, _, ?_, .inl rfl, h, R', (T.mono Gr'.pre).put hd ?_, rfl, Gr'⟩
    · simp [execOp, ho, Instr.alloc, hz, newVar, newRow]
    · simp only [D]; exact ⟨_, by rw [← R.len]; exact snoc_get _ _, rfl⟩
  · -- buildSlice
    rename_i t n parts ho
    obtain ⟨e, he, h⟩ := tyOf_of h
    obtain ⟨i, d, z, q1, q2, q3, q4, q5, q6⟩ := tyMk_spec (hT _ _ he)
    have hps : Ps ρ (parts.toList.map fun p => (p.1, s.get p.2)) (parts.map fun p => (p.1, a.eval p.2)).toList := by
      simpa using Ps_map s.get a.eval G parts.toList
    split at h
    · rename_i el htd
      have hd' : d = .slice el := by
        rw [htd] at q4
        cases d <;> simp [tdMk] at q4 ⊢
        exact q4.symm
      subst hd'
      obtain ⟨ee, hee, h⟩ := tyOf_of h
      obtain ⟨i', d', z', p1, p2, p3, p4, p5, p6⟩ := tyMk_spec (hT _ _ hee)
      split at h
      · rename_i hb0
        simp only [Bool.and_eq_true, List.isEmpty_iff] at hb0
        obtain ⟨hn0, hp0⟩ := hb0
        have hn0 : n = 0 := by have := Nat.eq_of_beq_eq_true hn0; omega
        have hp0 : parts = #[] := Array.toList_inj.mp hp0
        split at h
        · rename_i ty hty
          obtain ⟨R', Gr'⟩ := R.alloc (.cells #[] el) .dead rfl trivial
          refine ⟨_, .slice (some ⟨w.heap.size, 0, none⟩) 0 0, _, _, _, ?_, .inl rfl, h, R', (T.mono Gr'.pre).put hd ?_, rfl, Gr'⟩
          · have hsz := run_size (hT _ _ hee)
            have e0 : ∀ f : Nat → Value, Array.map f (Array.range 0) = #[] := fun f => by simp [Array.range]
            simp [execOp, ho, hn0, hp0, Instr.buildSlice, run_underlying q2, hsz w, Instr.fill, newRow, e0]
          · simp only [D]; exact ⟨_, 0, rfl, Nat.le_refl _, fun n hn => by cases hn; rfl, .inl rfl⟩
        · exact h.elim
      split at h
      · rename_i hb
        simp only [Bool.and_eq_true] at hb
        obtain ⟨⟨hb1, hb2⟩, hb3⟩ := hb
        have hb1 := Nat.le_of_ble_eq_true hb1
        have hb3 := Nat.eq_of_beq_eq_true hb3
        have hb2' : ¬ n * ee.size = 0 := by intro e0; rw [e0] at hb2; cases hb2
        have hzs : z'.cells.size = ee.size := by rw [← hb3, p6]; simp
        split at h
        · rename_i cs hcs
          obtain ⟨arr, h1, h2⟩ := fill_sound (ρ := ρ) _ _ _ _ ((Array.range (n * i'.size)).map (z'.cells[· % z'.cells.size]!)) cs hps (by
            rw [Array.toList_map, Array.toList_range, ← p5]
            refine Ds_map _ _ _ fun j hj => ?_
            rw [hzs, p6, List.getD_eq_getElem?_getD, List.getElem?_map]
            cases hc : z'.cells[j % ee.size]? with
            | none => simp [hc, D]
            | some u =>
              have h1 : z'.cells.toList[j % ee.size]? = some u := by simpa using hc
              rw [h1, getElem!_def, hc]
              exact D_lift u) hcs
          rw [← p5] at h1
          have hr := run_buildSlice (P := P) w t el n (parts.map fun p => (p.1, a.eval p.2)) arr i' z' q2 p1 p3 (by rw [← p5]; omega) (by rw [← p5]; omega) (by rw [← p5]; exact h1)
          split at h
          · obtain ⟨R', Gr'⟩ := R.alloc (.cells arr el) (.cells cs) rfl ⟨_, _, rfl, Ds_mono (Env.le_snoc _ _) h2⟩
            refine ⟨_, .slice (some ⟨w.heap.size, 0, none⟩) n n, _, _, _, ?_, .inl rfl, h, R', (T.mono Gr'.pre).put hd ?_, rfl, Gr'⟩
            · simp [execOp, ho, hr]
            · simp only [D]; exact ⟨_, by rw [← R.len]; exact snoc_get _ _, rfl, Nat.le_refl _⟩
          · split at h
            rotate_left
            · exact h.elim
            rename_i ty _
            split at h
            rotate_left
            · exact h.elim
            rename_i hsz
            have hsz := Nat.eq_of_beq_eq_true hsz
            split at h
            rotate_left
            · exact h.elim
            rename_i l hl
            obtain ⟨m1, m2, m3⟩ := many_sound h2 hl
            have hpos := ty.size_pos
            have hn : 0 < n := by
              rcases Nat.eq_zero_or_pos n with e0 | e0
              · exfalso; exact hb2' (by rw [e0, Nat.zero_mul])
              · exact e0
            have hn2 : n ≤ 1000 := by
              have := Nat.mul_le_mul_left n (show 1 ≤ ee.size by omega)
              omega
            obtain ⟨R', Gr'⟩ := R.alloc (.cells arr el) (.row ty l el n) rfl ⟨by omega, by omega, _, rfl, by simpa using m3, m2⟩
            refine ⟨_, .slice (some ⟨w.heap.size, 0, none⟩) n n, _, _, _, ?_, .inl rfl, h, R', (T.mono Gr'.pre).put hd ?_, rfl, Gr'⟩
            · simp [execOp, ho, hr]
            · simp only [D]
              exact .inr ⟨⟨hn, Nat.le_refl _⟩, w.heap.size, by rw [← R.len]; exact snoc_get _ _, rfl⟩
        · exact h.elim
      · exact h.elim
    · exact h.elim
  · -- makeSlice
    rename_i t l m ho
    obtain ⟨e, he, h⟩ := tyOf_of h
    obtain ⟨i, d, z, q1, q2, q3, q4, q5, q6⟩ := tyMk_spec (hT _ _ he)
    split at h
    rotate_left
    · exact h.elim
    rename_i el htd
    have hd' : d = .slice el := by
      rw [htd] at q4
      cases d <;> simp [tdMk] at q4 ⊢
      exact q4.symm
    subst hd'
    obtain ⟨ee, hee, h⟩ := tyOf_of h
    obtain ⟨i', d', z', p1, p2, p3, p4, p5, p6⟩ := tyMk_spec (hT _ _ hee)
    have pb := tyMk_bytes (hT _ _ hee) p1
    have hl := G l
    have hm := G m
    split at h
    rotate_left
    · exact h.elim
    rename_i kl n km cp hlv hmv
    rw [hlv] at hl
    rw [hmv] at hm
    simp only [D] at hl hm
    split at h
    rotate_left
    · exact h.elim
    rename_i ty _
    split at h
    rotate_left
    · exact h.elim
    rename_i hb
    simp only [Bool.and_eq_true] at hb
    have hb1 := Nat.eq_of_beq_eq_true hb.1
    have hb3 := Nat.eq_of_beq_eq_true hb.2
    have hzs : z'.cells.size = ee.size := by rw [← hb3, p6]; simp
    split at h
    rotate_left
    · exact h.elim
    rename_i zz hzz
    replace h := req_of h
    obtain ⟨hq, h⟩ := h
    simp only [Bool.and_eq_true, decide_eq_true_eq] at hq
    obtain ⟨⟨⟨hq1, hq2⟩, hq3⟩, hq4⟩ := hq
    have hq3 := Nat.le_of_ble_eq_true hq3
    have hq4 := Nat.le_of_ble_eq_true hq4
    have hcp : (cp.toNat : Int) = cp := Int.toNat_of_nonneg (by omega)
    have hrun := run_make (P := P) w t el i' z' q2 p1 p3 kl km n cp hq1 hq2 (by
      have h3 : ((ee.bytes * cp.toNat : Nat) : Int) ≤ 281474976710656 := by omega
      rw [Int.natCast_mul, hcp] at h3
      rw [← pb]; exact h3) (by omega)
    have hdz : Deep ρ.M ty zz z'.cells.toList := whole_sound (by rw [p6]; exact Ds_zero _ _) hzz
    have hpos := ty.size_pos
    have hel : Elems ρ.M ty (List.replicate n.toNat zz) (madeCells z'.cells (cp.toNat * i'.size)).toList 0 := by
      intro j hj
      have hj' : j < n.toNat := by simpa using hj
      rw [List.getElem_replicate]
      have e : ((madeCells z'.cells (cp.toNat * i'.size)).toList.drop (0 + j * ty.size)).take ty.size = z'.cells.toList := by
        have hle : j * ty.size + ty.size ≤ cp.toNat * i'.size := by
          rw [← p5, ← hb1]
          have := Nat.mul_le_mul_right ty.size (show j + 1 ≤ cp.toNat by omega)
          rwa [Nat.succ_mul] at this
        apply List.ext_getElem?
        intro m
        rw [List.getElem?_take, Nat.zero_add, List.getElem?_drop]
        by_cases hm' : m < ty.size
        · rw [if_pos hm']
          unfold madeCells
          rw [Array.toList_map, Array.toList_range, List.getElem?_map, List.getElem?_range (by omega)]
          simp only [Option.map_some]
          have em : (j * ty.size + m) % z'.cells.size = m := by
            rw [hzs, ← hb1, Nat.add_comm, Nat.add_mul_mod_self_right, Nat.mod_eq_of_lt hm']
          rw [em]
          rw [Array.getElem?_toList, getElem!_def]
          cases hc : z'.cells[m]? with
          | none =>
            exfalso
            rw [Array.getElem?_eq_none_iff] at hc
            omega
          | some u => rfl
        · rw [if_neg hm', List.getElem?_eq_none (by simp; omega)]
      rw [e]; exact hdz
    obtain ⟨R', Gr'⟩ := R.alloc (.cells (madeCells z'.cells (cp.toNat * i'.size)) el) (.row ty (List.replicate n.toNat zz) el cp.toNat) rfl
      ⟨by simp; omega, hq4, _, rfl, by rw [size_madeCells, ← p5, hb1]; exact Nat.le_refl _, hel⟩
    refine ⟨_, .slice (some ⟨w.heap.size, 0, none⟩) n.toNat cp.toNat, _, _, _, ?_, .inl rfl, h, R', (T.mono Gr'.pre).put hd ?_, rfl, Gr'⟩
    · simp [execOp, ho, hl, hm, hrun]
    · simp only [D]
      rcases Nat.eq_zero_or_pos cp.toNat with e0 | e0
      · exact .inl ⟨by omega, e0, _, by rw [e0, show n.toNat = 0 by omega]⟩
      · exact .inr ⟨⟨e0, by omega⟩, w.heap.size, by rw [← R.len]; exact snoc_get _ _, rfl⟩
  · -- store
    rename_i t x y ho
    obtain ⟨e, he, h⟩ := tyOf_of h
    have hsz := run_size (hT _ _ he) w
    have hx := G x
    split at h
    · rename_i k off hk
      rw [hk] at hx
      simp only [D] at hx
      obtain ⟨r, hr, hu⟩ := hx
      split at h
      · rename_i vs us hvs hus
        have h : (Nat.beq us.length e.size && Nat.ble (off + e.size) vs.length && us.all one) = true ∧ K (S.put ⟨s.ts, s.hp.set k (.cells (setAt vs off us)), s.marks⟩ o.dst (.tup [])) := by
          split at h
          · rename_i k' y' hI
            split at h
            · rename_i h1
              obtain ⟨h2, h3⟩ := req_of h
              have h1 := Nat.eq_of_beq_eq_true h1
              have h2 := Nat.le_of_ble_eq_true h2
              obtain ⟨q1, q2⟩ := openI_spec hI off
              rw [q2] at h3
              subst q1
              refine ⟨?_, h3⟩
              rw [h1]
              simp only [Bool.and_eq_true]
              exact ⟨⟨rfl, Nat.ble_eq_true_of_le h2⟩, rfl⟩
            · exact h.elim
          · split at h
            · rename_i hb; exact ⟨hb, h⟩
            · exact h.elim
        obtain ⟨hb, h⟩ := h
        · simp only [Bool.and_eq_true] at hb
          obtain ⟨⟨hb1, hb2⟩, hb3⟩ := hb
          have hb1 := Nat.eq_of_beq_eq_true hb1
          have hb2 := Nat.le_of_ble_eq_true hb2
          obtain ⟨ob, h1, cur, T', rfl, h2⟩ := R.get (cellsAt_spec hvs) hr id
          have hy := cellsIf_sound (G y) hus
          have hl1 := Ds_len hy
          have hl2 := Ds_len h2
          have hone : ∀ v ∈ (a.eval y).cells.toList, v.oneCell' = true := fun v hv => by
            obtain ⟨j, hj, hjv⟩ := List.getElem_of_mem hv
            have hj' : us[j]? = some (us[j]'(by omega)) := List.getElem?_eq_getElem (by omega)
            obtain ⟨u, hu1, hu2⟩ := Ds_get hy hj'
            rw [List.getElem?_eq_getElem hj] at hu1
            cases hu1
            rw [← hjv]
            exact D_one hu2 (List.all_eq_true.mp hb3 _ (List.getElem_mem _))
          have hlen : (a.eval y).cells.toList.length = e.size := by omega
          have hlen' : (a.eval y).cells.size = e.size := by simpa using hlen
          have hrun := run_storeCells_at (P := P) r off T' (a.eval y).cells.toList 0 cur w h1 (by simp at hl1 hl2 ⊢; omega) hone
          rw [setRow_eq h1, Nat.add_zero, hlen] at hrun
          have hds : Ds ρ (setAt vs off us) (cur.toList.take off ++ (a.eval y).cells.toList ++ cur.toList.drop (off + e.size)) := by
            rw [setAt_eq us vs off (by omega), hb1]
            exact Ds_append (Ds_append (Ds_take h2 _) hy) (Ds_drop h2 _)
          obtain ⟨row, hrow⟩ : ∃ row, (cur.toList.take off ++ (a.eval y).cells.toList ++ cur.toList.drop (off + e.size)).toArray = row := ⟨_, rfl⟩
          rw [hrow] at hrun
          obtain ⟨R', Gr'⟩ := R.put (cellsAt_spec hvs) id rfl hr (.cells row T' (0, 0)) (.cells (setAt vs off us)) rfl ⟨_, T', rfl, by rw [← hrow]; simpa using hds⟩
          refine ⟨_, undef, .skip, _, _, ?_, .inr ⟨rfl, rfl⟩, h, R', T.put hd D_undef, rfl, Gr'⟩
          have hsv : (storeVar t ⟨r, off, none⟩ (a.eval y)).run P w = .ok () { w with heap := w.heap.setIfInBounds r (.cells row T' (0, 0)) } := by
            simp only [storeVar]
            simp [hsz, hlen', hrun]
          simp only [execOp, ho, hu, Instr.storeAt, Instr.sureAddr]
          simp [hsv]
      · exact h.elim
    · rename_i k zz j f hk
      rw [hk] at hx
      simp only [D] at hx
      obtain ⟨r, hr, hu⟩ := hx
      split at h
      rotate_left
      · exact h.elim
      rename_i us hus
      split at h
      rotate_left
      · exact h.elim
      rename_i us' hp b hice
      split at h
      rotate_left
      · exact h.elim
      rename_i t' l T' cp hk'
      split at h
      rotate_left
      · exact h.elim
      rename_i hb
      simp only [Bool.and_eq_true] at hb
      obtain ⟨⟨⟨hb1, hb2⟩, hb3⟩, hb4⟩ := hb
      have hb1 := Nat.eq_of_beq_eq_true hb1
      have hb2 := Nat.eq_of_beq_eq_true hb2
      have hb3 := Nat.le_of_ble_eq_true hb3
      subst hb1
      split at h
      rotate_left
      · exact h.elim
      rename_i yy hyy
      replace h := req_of h
      obtain ⟨hq, h⟩ := h
      simp only [Bool.and_eq_true, Nat.blt_eq] at hq
      obtain ⟨rfl, hjl⟩ := hq
      have hy := cellsIf_sound (G y) hus
      obtain ⟨ρ1, R1, G1, e1, l1, hy1⟩ := ices_sound R hy hice
      have hr1 : ρ1.l[k]? = some r := by rw [e1]; exact hr
      have hnf : ¬ free (.row t' l T' cp) := fun hf => by rw [hf.1] at hjl; cases hjl
      obtain ⟨ob, o1, hnc, hc2, cur, rfl, husz, hcells⟩ := R1.get hk' hr1 hnf
      have hlen1 := Ds_len hy1
      have hlen : (a.eval y).cells.toList.length = e.size := by omega
      have hlen' : (a.eval y).cells.size = e.size := by simpa using hlen
      have hone : ∀ v ∈ (a.eval y).cells.toList, v.oneCell' = true := fun v hv => by
        obtain ⟨q, hq, hqv⟩ := List.getElem_of_mem hv
        have hq' : us'[q]? = some (us'[q]'(by omega)) := List.getElem?_eq_getElem (by omega)
        obtain ⟨u, hu1, hu2⟩ := Ds_get hy1 hq'
        rw [List.getElem?_eq_getElem hq] at hu1
        cases hu1
        rw [← hqv]
        exact D_one hu2 (List.all_eq_true.mp hb4 _ (List.getElem_mem _))
      -- the element's cells
      have hseg := Elems_getD hcells hjl
      rw [Nat.zero_add] at hseg
      have hsl := Deep_len hseg
      have hin : j * t'.size + t'.size ≤ cur.size := by
        have : (j + 1) * t'.size ≤ cp * t'.size := Nat.mul_le_mul_right _ (by omega)
        rw [Nat.succ_mul] at this
        omega
      have hrun := run_storeCells_at (P := P) r (j * t'.size + f) T' (a.eval y).cells.toList 0 cur w o1 (by rw [hlen]; omega) hone
      rw [setRow_eq o1, Nat.add_zero, hlen] at hrun
      obtain ⟨row, hrow⟩ : ∃ row, (cur.toList.take (j * t'.size + f) ++ (a.eval y).cells.toList ++ cur.toList.drop (j * t'.size + f + e.size)).toArray = row := ⟨_, rfl⟩
      rw [hrow] at hrun
      have hrl : row.toList = cur.toList.take (j * t'.size + f) ++ (a.eval y).cells.toList ++ cur.toList.drop (j * t'.size + f + e.size) := by rw [← hrow]
      have hcl : (t'.cells (l.getD j t'.dflt)).length = t'.size := by rw [← hsl]; exact (Ds_len (Deep_cells hseg)).symm
      have hds := Deep_cells hseg
      have hds2 : Ds ρ1 (setAt (t'.cells (l.getD j t'.dflt)) f us') (((cur.toList.drop (j * t'.size)).take t'.size).take f ++ (a.eval y).cells.toList ++ ((cur.toList.drop (j * t'.size)).take t'.size).drop (f + e.size)) := by
        rw [setAt_eq us' _ f (by rw [hcl]; omega), hb2]
        exact Ds_append (Ds_append (Ds_take hds _) hy1) (Ds_drop hds _)
      have hdeep := whole_sound hds2 hyy
      have hel : Elems ρ1.M t' (l.set j yy) row.toList 0 := by
        intro q hq
        have hq' : q < l.length := by simpa using hq
        rw [Nat.zero_add, List.getElem_set]
        by_cases hqj : j = q
        · subst hqj
          rw [if_pos rfl]
          have e3 : (row.toList.drop (j * t'.size)).take t'.size = ((cur.toList.drop (j * t'.size)).take t'.size).take f ++ (a.eval y).cells.toList ++ ((cur.toList.drop (j * t'.size)).take t'.size).drop (f + e.size) := by
            rw [hrl]
            exact patch_same _ _ _ _ _ _ (by simpa using hin) hb3 hlen
          rw [e3]; exact hdeep
        · rw [if_neg hqj]
          have := hcells q hq'
          rw [Nat.zero_add] at this
          have e3 : (row.toList.drop (q * t'.size)).take t'.size = (cur.toList.drop (q * t'.size)).take t'.size := by
            rw [hrl]
            refine patch_other _ _ _ _ _ _ (by simp; omega) hlen ?_
            rcases Nat.lt_or_gt_of_ne hqj with hlt | hgt
            · have : (j + 1) * t'.size ≤ q * t'.size := Nat.mul_le_mul_right _ hlt
              rw [Nat.succ_mul] at this
              exact .inr (by omega)
            · have : (q + 1) * t'.size ≤ j * t'.size := Nat.mul_le_mul_right _ hgt
              rw [Nat.succ_mul] at this
              exact .inl (by omega)
          rw [e3]; exact this
      have hrsz : cp * t'.size ≤ row.size := by
        rw [← hrow]
        simp only [List.size_toArray, List.length_append, List.length_take, List.length_drop, Array.length_toList, hlen]
        omega
      obtain ⟨R2, G2⟩ := R1.put hk' hnf rfl hr1 (.cells row T' (0, 0)) (.row t' (l.set j yy) T' cp) rfl ⟨by simpa using hnc, hc2, row, rfl, hrsz, hel⟩
      refine ⟨_, undef, .skip, _, _, ?_, .inr ⟨rfl, rfl⟩, h, R2, (T.mono G1.pre).put hd D_undef, rfl, G1.trans G2⟩
      have hsv : (storeVar t ⟨r, j * t'.size + f, none⟩ (a.eval y)).run P w = .ok () { w with heap := w.heap.setIfInBounds r (.cells row T' (0, 0)) } := by
        simp only [storeVar]
        simp [hsz, hlen', hrun]
      simp only [execOp, ho, hu, Instr.storeAt, Instr.sureAddr]
      simp [hsv]
    · exact h.elim
  · -- range
    rename_i t x ho
    obtain ⟨e, he, h⟩ := tyOf_of h
    obtain ⟨i, d, z, q1, q2, q3, q4, q5, q6⟩ := tyMk_spec (hT _ _ he)
    split at h
    rotate_left
    · exact h.elim
    rename_i htd
    have hd' : d = .string := by
      rw [htd] at q4
      cases d <;> simp [tdMk] at q4 ⊢
    subst hd'
    split at h
    rotate_left
    · exact h.elim
    rename_i b hx
    have hgx := G x
    rw [hx] at hgx
    simp only [D] at hgx
    obtain ⟨R', Gr'⟩ := R.alloc (.stringIter b 0) (.iter b 0) rfl rfl
    refine ⟨_, .pointer (some ⟨w.heap.size, 0, none⟩), _, _, _, ?_, .inl rfl, h, R', (T.mono Gr'.pre).put hd ?_, rfl, Gr'⟩
    · simp only [execOp, ho, hgx, Sem.run_bind, run_range_string w t b q2]
      rfl
    · simp only [D]; exact ⟨_, by rw [← R.len]; exact snoc_get _ _, rfl⟩
  · -- next
    rename_i x st ho
    cases st with
    | false => exact h.elim
    | true =>
      simp only at h
      split at h
      rotate_left
      · exact h.elim
      rename_i k hx
      split at h
      rotate_left
      · exact h.elim
      rename_i b pos hk
      have hgx := G x
      rw [hx] at hgx
      simp only [D] at hgx
      obtain ⟨r, hr, hu⟩ := hgx
      obtain ⟨ob, h1, h2⟩ := R.get hk hr id
      have h2 : ob = .stringIter b pos := h2
      subst h2
      by_cases hlt : pos < b.size
      · rw [decide_eq_true hlt] at h
        have hrun := Lib.run_next_any_at (P := P) w r b pos o.type h1 hlt
        obtain ⟨R', Gr'⟩ := R.put hk id rfl hr (.stringIter b (pos + (Utf8.decode b pos).2)) (.iter b (pos + (Utf8.decode b pos).2)) rfl rfl
        refine ⟨_, .tuple #[.bool true, .int .i64 pos, .int .i32 (Utf8.decode b pos).1], _, _, ρ, ?_, .inl rfl, h, R', T.put hd (by simp [D, Ds]), rfl, Gr'⟩
        simp [execOp, ho, hu, hrun, World.iterAt]
      · rw [decide_eq_false hlt] at h
        have hrun := Lib.run_next_end_at (P := P) w r b pos o.type h1 hlt
        refine ⟨_, .tuple #[.bool false], _, w, ρ, ?_, .inl rfl, h, R, T.put hd (by simp [D, Ds]), rfl, Gr.refl _ _⟩
        simp [execOp, ho, hu, hrun]
  · -- makeMap
    rename_i t r ho
    unfold ac_makeMap at h
    split at h
    · exact h.elim
    obtain ⟨e, he, h⟩ := tyOf_of h
    split at h
    rotate_left
    · exact h.elim
    obtain ⟨ke, hke, h⟩ := tyOf_of h
    split at h
    rotate_left
    · exact h.elim
    rename_i kd hkd
    obtain ⟨R', Gr'⟩ := R.alloc (.map #[] 0) (.map kd []) rfl ⟨#[], 0, rfl, rfl, by simp [Ds]⟩
    refine ⟨_, .map (some w.heap.size), _, _, _, ?_, .inl rfl, h, R', (T.mono Gr'.pre).put hd ?_, rfl, Gr'⟩
    · simp [execOp, ho, RowKit.run_makeMap]
    · simp only [D]; exact ⟨_, by rw [← R.len]; exact snoc_get _ _, rfl⟩
  · rename_i ho
    exact insert_sound hT hE (.inl ho) h R T hd
  · rename_i ho
    exact insert_sound hT hE (.inr ho) h R T hd
  · rename_i ho
    exact lookup_sound hT hE ho h R T hd
  · split at h
    · unfold ac_look at h
      split at h
      · rename_i v b hv
        obtain ⟨rfl, h1⟩ := req_of h
        obtain ⟨u, h2, h3⟩ := look_sound hT hE hv R T
        exact ⟨_, u, _, w, ρ, h3 w (fun _ => fun _ _ => rfl), .inl rfl, h1, R, T.put hd h2, rfl, Gr.refl _ _⟩
      · exact h.elim
    split at h
    · rename_i t b hn
      obtain ⟨e, he, h⟩ := tyOf_of h
      obtain ⟨ix, d, z, q1, q2, q3, q4, q5, q6⟩ := tyMk_spec (hT _ _ he)
      split at h
      · rename_i el htd
        obtain ⟨el', hd'⟩ : ∃ el', d = .slice el' := by
          rw [htd] at q4
          cases d <;> simp [tdMk] at q4
          exact ⟨_, rfl⟩
        subst hd'
        exact ⟨_, _, _, w, ρ, nilKnown_sound hn T q2 w, .inl rfl, h, R, T.put hd (by simp [D]), rfl, Gr.refl _ _⟩
      · exact h.elim
    split at h
    · rename_i t n b hn
      obtain ⟨e, he, h⟩ := tyOf_of h
      obtain ⟨ix, d, z, q1, q2, q3, q4, q5, q6⟩ := tyMk_spec (hT _ _ he)
      split at h
      · rename_i el htd
        obtain ⟨el', hd'⟩ : ∃ el', d = .slice el' := by
          rw [htd] at q4
          cases d <;> simp [tdMk] at q4
          exact ⟨_, rfl⟩
        subst hd'
        obtain ⟨u, h2, h3⟩ := nil_sound (s := s) (a := a) hn T q2
        rcases h2 with ⟨e1, rfl⟩ | rfl
        · exact ⟨_, _, _, w, ρ, h3 w, .inl rfl, h.1 (by rw [e1]; rfl), R, T.put hd (by simp [D]), rfl, Gr.refl _ _⟩
        · exact ⟨_, _, _, w, ρ, h3 w, .inl rfl, h.2, R, T.put hd (by simp [D]), rfl, Gr.refl _ _⟩
      · exact h.elim
    · split at h
      · rename_i t tx x y hap
        obtain ⟨ex, hex, h⟩ := tyOf_of h
        split at h
        · rename_i hkd
          refine appendX_sound hT hE hap h R T hd ?_
          obtain ⟨ix, dx, zx, x1, x2, x3, x4, x5, x6⟩ := tyMk_spec (hT _ _ hex)
          unfold srcKind at hkd
          split at hkd
          · rename_i e' htd
            rw [htd] at x4
            cases dx <;> simp [tdMk] at x4
            exact .inl ⟨_, x2⟩
          · rename_i b htd hyv
            rw [htd] at x4
            cases dx <;> simp [tdMk] at x4
            exact .inr ⟨⟨_, hyv⟩, x2⟩
          · cases hkd
        · exact h.elim
      · split at h
        · rename_i j cs hf
          obtain ⟨v, hv, h1⟩ := fan_sound hf h
          obtain ⟨u, h2, h3⟩ := look_sound hT hE hv R T
          exact ⟨_, u, _, w, ρ, h3 w (fun _ => fun _ _ => rfl), .inl rfl, h1, R, T.put hd h2, rfl, Gr.refl _ _⟩
        · split at h
          · rename_i l b hv
            obtain ⟨rfl, h1⟩ := req_of h
            obtain ⟨t, d, x, el, ho, q1, q2, q3, q4⟩ := strOf_spec hT hv
            have hx := get_sound (s := s) (a := a) T x
            have hrun := (con_lies R hx q4).text (P := P) q1 q2 q3
            refine ⟨_, .string (bytesOf l), _, w, ρ, ?_, .inl rfl, h1, R, T.put hd (by simp [D]), rfl, Gr.refl _ _⟩
            simp [execOp, ho, hrun]
          · split at h
            · rename_i b hv
              obtain ⟨rfl, h1⟩ := req_of h
              obtain ⟨w2, h2, R2, G2⟩ := clear_sound hT hv R T
              exact ⟨_, .tuple #[], _, w2, ρ, h2, .inl rfl, h1, R2, T.put hd (by simp [D, Ds]), rfl, G2⟩
            · split at h
              · rename_i v b hv
                obtain ⟨rfl, h1⟩ := req_of h
                obtain ⟨u, h2, h3⟩ := look_sound hT hE hv R T
                exact ⟨_, u, _, w, ρ, h3 w (fun _ => fun _ _ => rfl), .inl rfl, h1, R, T.put hd h2, rfl, Gr.refl _ _⟩
              · exact h.elim
end
end Go.B
