/- The reading in use: contracts out of what it comes to. -/
import Derived.Test.YtbammhmbapeboaaGreatDoorBi
import Derived.Laws.StructEq
namespace Go.B
open Go Go.RowKit
set_option linter.unusedVariables false
set_option linter.unusedSimpArgs false
set_option linter.unusedSectionVars false

def UsedOk (ρ : Env) (hp : List Blk) (rs used : List Nat) : Prop := ∀ r ∈ rs, ∃ k ∈ used, ρ.l[k]? = some r ∧ ∃ b, hp[k]? = some b ∧ ¬ free b

theorem popNw_of {hp : List Blk} {t : Ty} {T : TypeId} {us us' : List Nat} {vs r : List V} {l : List t.den} (h : popNw hp t T us vs = some (l, r, us', true)) :
    (∃ k n c, vs = .row k t.size n c :: r ∧ hp[k]? = some (.row t l T c) ∧ k ∉ us ∧ us' = k :: us ∧ n = l.length) ∨ (vs = .old (.slice none 0 0) :: r ∧ l = [] ∧ us' = us) := by
  unfold popNw at h
  split at h
  · rename_i v q
    split at h
    · rename_i k z n c
      split at h
      · rename_i t' l' T' c' hk
        split at h
        · rename_i hb
          simp only [Bool.and_eq_true, Bool.not_eq_true'] at hb
          obtain ⟨⟨hb1, hb2⟩, hb3⟩ := hb
          have hb1 := Nat.eq_of_beq_eq_true hb1
          have hb2 := Nat.eq_of_beq_eq_true hb2
          split at h
          · rename_i l2 hl
            simp only [Option.some.injEq, Prod.mk.injEq, Bool.and_eq_true] at h
            obtain ⟨rfl, rfl, rfl, hn, hc⟩ := h
            have hn := Nat.eq_of_beq_eq_true hn
            have hc := Nat.eq_of_beq_eq_true hc
            obtain ⟨e, hl⟩ := castL_of hl
            subst e hl hb1 hb2 hc
            refine .inl ⟨k, n, c, rfl, hk, fun hm => ?_, rfl, hn⟩
            have : us.any (Nat.beq k) = true := List.any_eq_true.mpr ⟨k, hm, Nat.beq_refl k⟩
            rw [this] at hb3; cases hb3
          · cases h
        · cases h
      · cases h
    · split at h
      · rename_i hn
        simp only [Option.some.injEq, Prod.mk.injEq] at h
        obtain ⟨rfl, rfl, rfl, _⟩ := h
        rw [nil_of hn]
        exact .inr ⟨rfl, rfl, rfl⟩
      · cases h
  · cases h

theorem out_sound {gs : List (Nat × CF)} {ρ : Env} {hp : List Blk} {w : World} {N : Nat} (R : Rel gs ρ hp w) (hN : ∀ r ∈ ρ.l, N ≤ r) {B : RT} : ∀ {vs : List V} {us : List Value} {y : B.den} {r : List V} {used used' : List Nat} {rs : List Nat},
    Ds ρ vs us → B.out hp vs used = some (y, r, used', true) → UsedOk ρ hp rs used → ∃ u v rs', us = u ++ v ∧ Outs ρ.M N w (B.shape y) u rs rs' ∧ Ds ρ r v ∧ UsedOk ρ hp rs' used' := by
  induction B with
  | int k =>
    intro vs us y r used used' rs d h U
    simp only [RT.out] at h
    split at h
    · rename_i n q hq
      cases h
      rw [popInt_of hq, Ds_cons] at d
      obtain ⟨u, us', rfl, d1, d2⟩ := d
      simp only [D] at d1
      exact ⟨[u], us', rs, rfl, Outs_single.mpr (by simp only [Out, D]; exact ⟨d1, trivial⟩), d2, U⟩
    · cases h
  | bool =>
    intro vs us y r used used' rs d h U
    simp only [RT.out] at h
    split at h
    · rename_i n q hq
      cases h
      rw [popBool_of hq, Ds_cons] at d
      obtain ⟨u, us', rfl, d1, d2⟩ := d
      simp only [D] at d1
      exact ⟨[u], us', rs, rfl, Outs_single.mpr (by simp only [Out, D]; exact ⟨d1, trivial⟩), d2, U⟩
    · cases h
  | str =>
    intro vs us y r used used' rs d h U
    simp only [RT.out] at h
    split at h
    · rename_i n q hq
      cases h
      rw [popStr_of hq, Ds_cons] at d
      obtain ⟨u, us', rfl, d1, d2⟩ := d
      simp only [D] at d1
      exact ⟨[u], us', rs, rfl, Outs_single.mpr (by simp only [Out, D]; exact ⟨d1, trivial⟩), d2, U⟩
    · cases h
  | sl t =>
    intro vs us y r used used' rs d h U
    simp only [RT.out] at h
    split at h
    · rename_i n q hq
      cases h
      rcases popSl_of hq with ⟨c, e⟩ | ⟨e, e2⟩
      · rw [e, Ds_cons] at d
        obtain ⟨u, us', rfl, d1, d2⟩ := d
        refine ⟨[u], us', rs, rfl, Outs_single.mpr ?_, d2, U⟩
        simp only [Out, D] at d1 ⊢
        obtain ⟨a, cp, k1, k2, _, k4⟩ := d1
        exact ⟨⟨a, cp, k1, k2, fun n h => (by cases h), k4⟩, trivial⟩
      · subst e2
        rw [e, Ds_cons] at d
        obtain ⟨u, us', rfl, d1, d2⟩ := d
        refine ⟨[u], us', rs, rfl, Outs_single.mpr ?_, d2, U⟩
        simp only [Out, D] at d1 ⊢
        exact ⟨⟨none, 0, d1, Nat.le_refl _, fun n h => (by cases h), .inl rfl⟩, trivial⟩
    · cases h
  | nw t T =>
    intro vs us y r used used' rs d h U
    simp only [RT.out] at h
    rcases popNw_of h with ⟨k, n, c, e, hk, hnk, rfl, hn⟩ | ⟨e, e2, rfl⟩
    · rw [e, Ds_cons] at d
      obtain ⟨u, us', rfl, d1, d2⟩ := d
      subst hn
      simp only [D] at d1
      rcases d1 with ⟨h0, h0', a, rfl⟩ | ⟨hc, q, hq, rfl⟩
      · refine ⟨[_], us', rs, rfl, Outs_single.mpr ?_, d2, fun x hx => ?_⟩
        · simp only [Out]
          exact .inl ⟨len_nil h0, ⟨a, rfl⟩, rfl⟩
        · obtain ⟨k', h1, h2⟩ := U x hx
          exact ⟨k', List.mem_cons_of_mem _ h1, h2⟩
      · have hnf : ¬ free (.row t y T c) := fun hf => by have := hf.2; omega
        obtain ⟨o, o1, o2, o3, ua, rfl, o4, o5⟩ := R.get hk hq hnf
        refine ⟨[_], us', q :: rs, rfl, Outs_single.mpr ?_, d2, fun x hx => ?_⟩
        · simp only [Out]
          refine .inr ⟨q, c, ua, hc, o3, rfl, hN q (mem_of_get hq), fun hm => ?_, R.noM' hk hq hnf rfl, o1, o4, o5, rfl⟩
          obtain ⟨k', h1, h2, b, h3, h4⟩ := U q hm
          rcases R.inj k k' q _ b hk h3 hq h2 with e | e | e
          · subst e; exact hnk h1
          · exact hnf e
          · exact h4 e
        · rcases List.mem_cons.mp hx with rfl | hx
          · exact ⟨k, List.mem_cons_self, hq, _, hk, hnf⟩
          · obtain ⟨k', h1, h2⟩ := U x hx
            exact ⟨k', List.mem_cons_of_mem _ h1, h2⟩
    · rw [e, Ds_cons] at d
      obtain ⟨u, us', rfl, d1, d2⟩ := d
      simp only [D] at d1
      exact ⟨[u], us', rs, rfl, Outs_single.mpr (by simp only [Out]; exact .inl ⟨e2, ⟨none, d1⟩, rfl⟩), d2, U⟩
  | unit =>
    intro vs us y r used used' rs d h U
    simp only [RT.out] at h
    split at h
    · rename_i q hq
      cases h
      rw [popTup_of hq, Ds_cons] at d
      obtain ⟨u, us', rfl, d1, d2⟩ := d
      simp only [D, Ds_nil] at d1
      obtain ⟨uu, rfl, d1⟩ := d1
      exact ⟨[_], us', rs, rfl, Outs_single.mpr (by simp only [Out, Outs_nil]; exact ⟨uu, rfl, d1, trivial⟩), d2, U⟩
    · cases h
  | none =>
    intro vs us y r used used' rs d h U
    simp only [RT.out] at h
    cases h
    exact ⟨[], us, rs, rfl, Outs_nil.mpr ⟨rfl, rfl⟩, d, U⟩
  | one a ih =>
    intro vs us y r used used' rs d h U
    simp only [RT.out] at h
    exact ih d h U
  | cons a q iha ihq =>
    intro vs us y r used used' rs d h U
    simp only [RT.out] at h
    split at h
    · rename_i x1 r1 us1 b1 h1
      split at h
      · rename_i x2 r2 us2 b2 h2
        simp only [Option.some.injEq, Prod.mk.injEq, Bool.and_eq_true] at h
        obtain ⟨rfl, rfl, rfl, rfl, rfl⟩ := h
        obtain ⟨u1, v1, rs1, rfl, k1, k2, k3⟩ := iha d h1 U
        obtain ⟨u2, v2, rs2, rfl, k4, k5, k6⟩ := ihq k2 h2 k3
        exact ⟨u1 ++ u2, v2, rs2, by simp, by rw [RT.shape, Outs_append]; exact ⟨u1, u2, rs1, rfl, k1, k4⟩, k5, k6⟩
      · cases h
    · cases h
  | agg l ih =>
    intro vs us y r used used' rs d h U
    simp only [RT.out] at h
    split at h
    · rename_i cs q hq
      split at h
      · rename_i x1 us1 b1 h1
        simp only [Option.some.injEq, Prod.mk.injEq] at h
        obtain ⟨rfl, rfl, rfl, rfl⟩ := h
        rw [popAgg_of hq, Ds_cons] at d
        obtain ⟨u, us', rfl, d1, d2⟩ := d
        simp only [D] at d1
        obtain ⟨ua, rfl, d1⟩ := d1
        obtain ⟨u1, v1, rs1, e, k1, k2, k3⟩ := ih d1 h1 U
        rw [Ds_nil] at k2
        subst k2
        rw [List.append_nil] at e
        exact ⟨[_], us', rs1, rfl, Outs_single.mpr (by simp only [Out]; exact ⟨ua, rfl, by rw [e]; exact k1⟩), d2, k3⟩
      · cases h
    · cases h
  | tup l ih =>
    intro vs us y r used used' rs d h U
    simp only [RT.out] at h
    split at h
    · rename_i cs q hq
      split at h
      · rename_i x1 us1 b1 h1
        simp only [Option.some.injEq, Prod.mk.injEq] at h
        obtain ⟨rfl, rfl, rfl, rfl⟩ := h
        rw [popTup_of hq, Ds_cons] at d
        obtain ⟨u, us', rfl, d1, d2⟩ := d
        simp only [D] at d1
        obtain ⟨ua, rfl, d1⟩ := d1
        obtain ⟨u1, v1, rs1, e, k1, k2, k3⟩ := ih d1 h1 U
        rw [Ds_nil] at k2
        subst k2
        rw [List.append_nil] at e
        exact ⟨[_], us', rs1, rfl, Outs_single.mpr (by simp only [Out]; exact ⟨ua, rfl, by rw [e]; exact k1⟩), d2, k3⟩
      · cases h
    · cases h

/-- a part of a block of cells, or a row of our own, becomes a row that is only read -/
def frzS (t : Ty) (v : V) (hp : List Blk) : V × List Blk × Bool := match v with
  | .slc k o n c => match hp[k]? with
    | some (.cells vs) => match t.many ((vs.length - o) / t.size) (vs.drop o) with
      | some l => (.sl t (l.take n) none, hp.set k .dead, Nat.ble n l.length)
      | none => (v, hp, true)
    | _ => (v, hp, true)
  | v => match ice1 hp v with
    | some (v', hp', b) => (v', hp', b)
    | none => (v, hp, true)

def RT.frz : RT → List V → List Blk → List V × List Blk × Bool
  | .sl t, [v], hp => match frzS t v hp with | (v', hp', b) => ([v'], hp', b)
  | .one a, vs, hp => a.frz vs hp
  | .cons a q, v :: vs, hp => match a.frz [v] hp with
    | (vs1, hp1, b1) => match q.frz vs hp1 with
      | (vs2, hp2, b2) => (vs1 ++ vs2, hp2, b1 && b2)
  | .agg l, [.agg cs], hp => match l.frz cs hp with | (cs', hp', b) => ([.agg cs'], hp', b)
  | .tup l, [.tup cs], hp => match l.frz cs hp with | (cs', hp', b) => ([.tup cs'], hp', b)
  | _, vs, hp => (vs, hp, true)

theorem frzS_sound {gs : List (Nat × CF)} {w : World} {t : Ty} {v v' : V} {hp hp' : List Blk} {ρ : Env} {u : Value} (R : Rel gs ρ hp w) (d : D ρ v u) (h : frzS t v hp = (v', hp', true)) :
    ∃ ρ', Rel gs ρ' hp' w ∧ Gr ρ w ρ' w ∧ ρ'.l = ρ.l ∧ D ρ' v' u := by
  have same : (v, hp, true) = (v', hp', true) → ∃ ρ', Rel gs ρ' hp' w ∧ Gr ρ w ρ' w ∧ ρ'.l = ρ.l ∧ D ρ' v' u := fun h => by
    cases h; exact ⟨ρ, R, Gr.refl _ _, rfl, d⟩
  unfold frzS at h
  split at h
  · rename_i k o n c
    split at h
    · rename_i vs hk
      split at h
      · rename_i l hl
        simp only [Prod.mk.injEq] at h
        obtain ⟨rfl, rfl, hn⟩ := h
        have hn := Nat.le_of_ble_eq_true hn
        have d0 := d
        simp only [D] at d0
        obtain ⟨r, hr, rfl, hc⟩ := d0
        obtain ⟨ρ', ob, e1, R', G', hM, us, T', rfl, h2⟩ := R.still hk hr
        refine ⟨ρ', R', G', e1, ?_⟩
        obtain ⟨m1, m2, _⟩ := many_sound (Ds_drop h2 o) hl
        have e3 := Elems_cut m2 0 n
        simp only [List.drop_zero, Nat.zero_mul, Nat.add_zero] at e3
        have e4 : Elems ρ'.M t (l.take n) us.toList o := by
          intro i hi
          have := e3 i hi
          rw [Nat.zero_add, List.drop_drop] at this
          exact this
        have hlen : (l.take n).length = n := by simp; omega
        simp only [D]
        exact ⟨_, c, by rw [hlen], by omega, fun n h => (by cases h), .inr ⟨r, o, us, T', (0, 0), rfl, hM, e4⟩⟩
      · exact same h
    · exact same h
  · split at h
    · rename_i v2 hp2 b hi
      simp only [Prod.mk.injEq] at h
      obtain ⟨rfl, rfl, rfl⟩ := h
      obtain ⟨ρ', h1, h2, h3, _, h5⟩ := ice1_sound R d hi
      exact ⟨ρ', h1, h2, h3, h5⟩
    · exact same h

theorem frz_sound {gs : List (Nat × CF)} {w : World} {B : RT} : ∀ {vs vs' : List V} {hp hp' : List Blk} {ρ : Env} {us : List Value}, Rel gs ρ hp w → Ds ρ vs us → B.frz vs hp = (vs', hp', true) →
    ∃ ρ', Rel gs ρ' hp' w ∧ Gr ρ w ρ' w ∧ ρ'.l = ρ.l ∧ Ds ρ' vs' us := by
  have same : ∀ {vs vs' : List V} {hp hp' : List Blk} {ρ : Env} {us : List Value}, Rel gs ρ hp w → Ds ρ vs us → (vs, hp, true) = (vs', hp', true) → ∃ ρ', Rel gs ρ' hp' w ∧ Gr ρ w ρ' w ∧ ρ'.l = ρ.l ∧ Ds ρ' vs' us := fun R d h => by
    cases h; exact ⟨_, R, Gr.refl _ _, rfl, d⟩
  induction B with
  | sl t =>
    intro vs vs' hp hp' ρ us R d h
    unfold RT.frz at h
    split at h
    all_goals first | (rename_i heq; cases heq; done) | skip
    · rename_i t' v _ heq
      cases heq
      simp only [Prod.mk.injEq] at h
      obtain ⟨rfl, rfl, h3⟩ := h
      rw [Ds_cons] at d
      obtain ⟨u, us', rfl, d1, d2⟩ := d
      rw [Ds_nil] at d2
      subst d2
      obtain ⟨ρ', h1, h2, h3, h4⟩ := frzS_sound R d1 (Prod.ext rfl (Prod.ext rfl h3))
      exact ⟨ρ', h1, h2, h3, Ds_cons.mpr ⟨u, [], rfl, h4, Ds_nil.mpr rfl⟩⟩
    · exact same R d h
  | one a ih =>
    intro vs vs' hp hp' ρ us R d h
    exact ih R d (by simpa only [RT.frz] using h)
  | cons a q iha ihq =>
    intro vs vs' hp hp' ρ us R d h
    cases vs with
    | nil => exact same R d (by simpa only [RT.frz] using h)
    | cons v vs =>
      simp only [RT.frz] at h
      generalize hg1 : a.frz [v] hp = x1 at h
      obtain ⟨vs1, hp1, b1⟩ := x1
      simp only at h
      generalize hg2 : q.frz vs hp1 = x2 at h
      obtain ⟨vs2, hp2, b2⟩ := x2
      simp only [Prod.mk.injEq, Bool.and_eq_true] at h
      obtain ⟨rfl, rfl, rfl, rfl⟩ := h
      rw [Ds_cons] at d
      obtain ⟨u, us', rfl, d1, d2⟩ := d
      obtain ⟨ρ1, R1, G1, l1, k1⟩ := iha R (Ds_cons.mpr ⟨u, [], rfl, d1, Ds_nil.mpr rfl⟩) hg1
      obtain ⟨ρ2, R2, G2, l2, k2⟩ := ihq R1 (Ds_mono G1.pre d2) hg2
      exact ⟨ρ2, R2, G1.trans G2, l2.trans l1, Ds_append (Ds_mono G2.pre k1) k2⟩
  | agg l ih =>
    intro vs vs' hp hp' ρ us R d h
    unfold RT.frz at h
    split at h
    all_goals first | (rename_i heq; cases heq; done) | skip
    · rename_i l' cs _ heq
      cases heq
      simp only [Prod.mk.injEq] at h
      obtain ⟨rfl, rfl, h3⟩ := h
      rw [Ds_cons] at d
      obtain ⟨u, us', rfl, d1, d2⟩ := d
      rw [Ds_nil] at d2
      subst d2
      simp only [D] at d1
      obtain ⟨ua, rfl, d1⟩ := d1
      obtain ⟨ρ', h1, h2, h3, h4⟩ := ih R d1 (Prod.ext rfl (Prod.ext rfl h3))
      exact ⟨ρ', h1, h2, h3, Ds_cons.mpr ⟨_, [], rfl, by simp only [D]; exact ⟨ua, rfl, h4⟩, Ds_nil.mpr rfl⟩⟩
    · exact same R d h
  | tup l ih =>
    intro vs vs' hp hp' ρ us R d h
    unfold RT.frz at h
    split at h
    all_goals first | (rename_i heq; cases heq; done) | skip
    · rename_i l' cs _ heq
      cases heq
      simp only [Prod.mk.injEq] at h
      obtain ⟨rfl, rfl, h3⟩ := h
      rw [Ds_cons] at d
      obtain ⟨u, us', rfl, d1, d2⟩ := d
      rw [Ds_nil] at d2
      subst d2
      simp only [D] at d1
      obtain ⟨ua, rfl, d1⟩ := d1
      obtain ⟨ρ', h1, h2, h3, h4⟩ := ih R d1 (Prod.ext rfl (Prod.ext rfl h3))
      exact ⟨ρ', h1, h2, h3, Ds_cons.mpr ⟨_, [], rfl, by simp only [D]; exact ⟨ua, rfl, h4⟩, Ds_nil.mpr rfl⟩⟩
    · exact same R d h
  | int k => exact fun R d h => same R d (by simpa only [RT.frz] using h)
  | bool => exact fun R d h => same R d (by simpa only [RT.frz] using h)
  | str => exact fun R d h => same R d (by simpa only [RT.frz] using h)
  | nw t T => exact fun R d h => same R d (by simpa only [RT.frz] using h)
  | unit => exact fun R d h => same R d (by simpa only [RT.frz] using h)
  | none => exact fun R d h => same R d (by simpa only [RT.frz] using h)

/-- what is to be left at a function's end -/
def leafK (B : RT) (y : B.den) (v : V) (hp : List Blk) : Prop := match B.frz [v] hp with
  | (vs, hp, b0) => match B.out hp vs [] with
    | some (x, [], _, b) => req0 (b0 && b) (x = y)
    | _ => False

theorem enters {P : Program} {f : FuncId} {fn : Func} {cd : Code} (hf : P.funcs[f]? = some fn) (hname : (fn.name == "runtime.NumGoroutine") = false) (hb : fn.body = some cd) : EntersF P f := by
  intro args w
  have h1 : fn.name ≠ "runtime.NumGoroutine" := by simpa using hname
  simp [callFunc, hf, h1, hb, mark]

theorem body_ent {P : Program} {c : Cx} {f : FuncId} {fn : Func} (hf : P.funcs[f]? = some fn) (hname : (fn.name == "runtime.NumGoroutine") = false) (hok : (match fn.body with | some cd => okC fn.ntmps cd | none => true) = true) : EntOk P c f (.body fn) :=
  ⟨hf, hname, fun cd hb => by rw [hb] at hok; exact hok⟩

def Fns (P : Program) (c : Cx) : List (Nat × Ent) → Prop
  | [] => True
  | (f, e) :: l => EntOk P c f e ∧ Fns P c l

theorem Fns_assoc {P : Program} {c : Cx} : ∀ {l : List (Nat × Ent)}, Fns P c l → ∀ f e, assoc f l = some e → EntOk P c f e
  | [], _, f, e, h => by cases h
  | (g, x) :: l, k, f, e, h => by
    unfold assoc at h
    cases hb : Nat.beq g f with
    | true =>
      rw [hb] at h
      cases h
      rw [← Nat.eq_of_beq_eq_true hb]
      exact k.1
    | false => rw [hb] at h; exact Fns_assoc k.2 f e h

theorem TyOk_of {P : Program} {c : Cx} (h : c.ty.map (fun p => tyMk P p.1) = c.ty.map (fun p => some p.2)) : TyOk P c := by
  have key : ∀ (l : List (Nat × TyE)), l.map (fun p => tyMk P p.1) = l.map (fun p => some p.2) → ∀ t e, assoc t l = some e → tyMk P t = some e := by
    intro l
    induction l with
    | nil => intro _ t e h; cases h
    | cons p l ih =>
      obtain ⟨g, x⟩ := p
      intro hm t e h
      simp only [List.map_cons, List.cons.injEq] at hm
      unfold assoc at h
      cases hb : Nat.beq g t with
      | true =>
        rw [hb] at h
        cases h
        rw [← Nat.eq_of_beq_eq_true hb]
        exact hm.1
      | false => rw [hb] at h; exact ih hm.2 t e h
  exact key c.ty h
section
variable {P : Program} {c : Cx} (hT : TyOk P c) (hE : EqOk P c) (hF : FnsOk P c) (hm : P.follows .mixedOrders = true)
include hT hE hF hm

theorem fx_of {f : FuncId} {A B : RT} {R : A.den → B.den → Prop} {ok : FuncId → Nat → Nat → Bool} {lp : Nat → FuncId → Nat → Nat → Lp} (hL : LpOk c ok lp) {n : Nat} (hen : EntersF P f) (hsh : ∀ y, ∃ v, B.shape y = [v])
    (h : ∀ x y, R x y → acall c ok lp n (.fn f [] []) (A.shape x) [] (leafK B y)) : FxOk P c.gs f A B R := by
  refine ⟨hen, hsh, fun x y hR M us w hds hM hG => ?_⟩
  rcases acall_sound hT hE hF hm ok lp hL n _ _ _ _ (h x y hR) ⟨[], M⟩ w (.func (.func f) #[] #[]) us (Rel.nil hG hM) (by simp [D, Ds]) hds with ⟨f', as, bs, e, _, hc⟩ | ⟨r, RL, e, _⟩
  · cases e
    have hc' : CallsIn Fence.wide 0 P f us.toArray w (CP c.gs (leafK B y) ⟨[], M⟩ w) := by simpa using hc
    refine (callsIn_wide.1 hc').mono ?_
    rintro e w' ⟨v, u, hp0, ρ0, rfl, hk, h2, h3, h4⟩
    unfold leafK at hk
    generalize hg : B.frz [v] hp0 = x0 at hk
    obtain ⟨vs0, hp', b0⟩ := x0
    simp only at hk
    split at hk
    · rename_i x' used b ho
      obtain ⟨hb, rfl⟩ := req0_of' hk
      simp only [Bool.and_eq_true] at hb
      obtain ⟨rfl, rfl⟩ := hb
      obtain ⟨ρ', R', G', l', d'⟩ := frz_sound h3 (Ds_cons.mpr ⟨u, [], rfl, h2, Ds_nil.mpr rfl⟩) hg
      have h4 := h4.trans G'
      obtain ⟨p, q, rs', e, k1, k2, _⟩ := out_sound (N := w.heap.size) R' (fun r hr => by
        rcases h4.new r hr with h | h
        · cases h
        · exact h) d' ho (rs := []) (fun r h => by cases h)
      rw [Ds_nil] at k2
      subst k2
      rw [List.append_nil] at e
      subst e
      obtain ⟨v', hv'⟩ := hsh x'
      rw [hv'] at k1
      refine ⟨u, ρ'.M, rs', rfl, by rw [hv']; exact Outs_single.mp k1, ⟨h4.os, h4.tape, h4.output, h4.size, fun k hk => h4.old k hk (by simp)⟩, h4.pre.2, fun r o hr => ⟨(R'.im r o hr).1, ?_⟩⟩
      rcases h4.newM r o hr with h | h | h
      · exact .inl h
      · cases h
      · exact .inr h
    · exact hk.elim
  · cases e
end

/-- a contract, told otherwise -/
theorem FxOk.to {P : Program} {gs : List (Nat × CF)} {f : FuncId} {A B : RT} {R R' : A.den → B.den → Prop} (h : FxOk P gs f A B R) (k : ∀ x y, R' x y → R x y) : FxOk P gs f A B R' :=
  ⟨h.1, h.2.1, fun x y hR => h.2.2 x y (k x y hR)⟩

/-- a contract as a plain function's -/
theorem FxOk.fn {P : Program} {gs : List (Nat × CF)} {f : FuncId} {A B : RT} {R : A.den → B.den → Prop} (h : FxOk P gs f A B R) (g : A.den → B.den) (pre : A.den → Bool) (k : ∀ x, pre x = true → R x (g x)) : FxOk P gs f A B fun x y => pre x = true ∧ y = g x :=
  h.to fun x y ⟨h1, h2⟩ => h2 ▸ k x h1

/- loops -/

theorem br_both {b : Bool} {X Y X' Y' : Prop} (h : br b X' Y') (h1 : b = true → X' → X) (h2 : b = false → Y' → Y) : br b X Y := by
  cases b
  · exact h2 rfl h
  · exact h1 rfl h

theorem req_both {b : Bool} {X X' : Prop} (h : req b X') (h1 : b = true → X' → X) : req b X := ⟨h.h, h1 h.h h.x⟩

theorem wk_of {N : Nat} {s s' : S} (h : weak N s s') : wk N s s' := ⟨s, s, ⟨[], rfl, rfl⟩, .inl rfl, h⟩

theorem wk_refl (N : Nat) (s : S) : wk N s s := wk_of (.inl rfl)

/-- a part of a code, by the way to it -/
def subC : List Nat → Code → Code
  | [], c => c
  | n :: l, c => match c with
    | .seq a b => match n with | 0 => subC l a | _ => subC l b
    | .cond _ a b => match n with | 0 => subC l a | _ => subC l b
    | .block _ a => subC l a
    | .scope a => subC l a
    | .loop a => subC l a
    | .rangeFunc _ _ a b => match n with | 0 => subC l a | _ => subC l b
    | c => c

def bodyOf (f : Func) : Code := f.body.getD .skip

/-- loops by function, first region, blocks that are there, calls that are left -/
def lpFind (f id m n : Nat) : List (Nat × Nat × Nat × Nat × Lp) → Option Lp
  | [] => none
  | (f', id', m', F, g) :: l => match Nat.beq f' f && Nat.beq id' id && Nat.beq m' m && Nat.ble F n with
    | true => some g
    | false => lpFind f id m n l

/-- what is owed of loops -/
def lpTab (l : List (Nat × Nat × Nat × Nat × Lp)) : Nat → FuncId → Nat → Nat → Lp := fun n f id m => match lpFind f id m n l with
  | some g => g
  | none => .unroll 70

def Owed (c : Cx) (ok : FuncId → Nat → Nat → Bool) (fid : FuncId) (lp : Nat → FuncId → Nat → Nat → Lp) (n : Nat) (x : Lp) : Prop := match x with
  | .auto rd a g => ∀ K s, g s K → ∃ (J : Nat → S → Prop) (X : Ret → S → Prop) (k : Nat), J k s ∧ (∀ s1, ¬ J 0 s1) ∧ (∀ q s1, X q s1 → wkK s.hp.length K q s1) ∧ ∀ k s1, J (k + 1) s1 → ∃ s2, wk s.hp.length s1 s2 ∧ acode c fid (acall c ok lp n) (ok fid) (lp n fid) rd a (iterK X (J k)) s2
  | _ => True

def AllOwed (c : Cx) (ok : FuncId → Nat → Nat → Bool) (lp : Nat → FuncId → Nat → Nat → Lp) : List (Nat × Nat × Nat × Nat × Lp) → Prop
  | [] => True
  | (f, _, _, F, g) :: l => (∀ n, Owed c ok f lp (n + F) g) ∧ AllOwed c ok lp l

theorem owed_of {c : Cx} {ok : FuncId → Nat → Nat → Bool} {lp : Nat → FuncId → Nat → Nat → Lp} {f id m n : Nat} {g : Lp} : ∀ {l : List (Nat × Nat × Nat × Nat × Lp)}, AllOwed c ok lp l → lpFind f id m n l = some g → Owed c ok f lp n g
  | [], _, h => by cases h
  | (f', id', m', F, g') :: l, hA, h => by
    unfold lpFind at h
    split at h
    · rename_i hb
      simp only [Bool.and_eq_true] at hb
      have e1 := Nat.eq_of_beq_eq_true hb.1.1.1
      have e2 := Nat.le_of_ble_eq_true hb.2
      subst e1
      cases h
      obtain ⟨k, rfl⟩ : ∃ k, n = k + F := ⟨n - F, by omega⟩
      exact hA.1 k
    · exact owed_of hA.2 h

theorem LpOk_tab {c : Cx} {ok : FuncId → Nat → Nat → Bool} {l : List (Nat × Nat × Nat × Nat × Lp)} (h : AllOwed c ok (lpTab l) l) : LpOk c ok (lpTab l) := by
  intro n f id m rd a g hg K s hgs
  unfold lpTab at hg
  split at hg
  · rename_i g' hf
    subst hg
    exact owed_of h hf K s hgs
  · cases hg

/-- temporaries that are read later, by function and region -/
def okTab (l : List (Nat × List (Nat × List Nat))) : FuncId → Nat → Nat → Bool := fun f => match assoc f l with
  | some l => fun id => match assoc id l with
    | some l => fun t => l.any (Nat.beq t)
    | none => kept
  | none => fun _ => kept

theorem ex_both {α : Type} {R P Q : α → Prop} (h : ∃ y, R y ∧ P y) (k : ∀ y, P y → Q y) : ∃ y, R y ∧ Q y := by
  obtain ⟨y, h1, h2⟩ := h
  exact ⟨y, h1, k y h2⟩

def sume {α β : Type} (f : α → Prop) (g : β → Prop) : α ⊕ β → Prop
  | .inl a => f a
  | .inr b => g b

theorem sume_both {α β : Type} {f f' : α → Prop} {g g' : β → Prop} {y : α ⊕ β} (h : sume f' g' y) (h1 : ∀ a, f' a → f a) (h2 : ∀ b, g' b → g b) : sume f g y := by
  cases y
  · exact h1 _ h
  · exact h2 _ h

theorem req_intro {b : Bool} {X : Prop} (h1 : b = true) (h2 : X) : req b X := ⟨h1, h2⟩

theorem band {a b : Bool} (h : a = true) (k : b = true) : (a && b) = true := by rw [h, k]; rfl

theorem band_l {a b : Bool} (h : (a && b) = true) : a = true := (Bool.and_eq_true _ _ ▸ h : a = true ∧ b = true).1

theorem band_r {a b : Bool} (h : (a && b) = true) : b = true := (Bool.and_eq_true _ _ ▸ h : a = true ∧ b = true).2

theorem ble_tr {a b c : Nat} (h : Nat.ble a b = true) (k : Nat.ble b c = true) : Nat.ble a c = true := Nat.ble_eq.mpr (Nat.le_trans (Nat.le_of_ble_eq_true h) (Nat.le_of_ble_eq_true k))

def rz : List (Nat × V) → List V
  | [] => []
  | (n, v) :: l => List.replicate n v ++ rz l

theorem ble_same (n : Nat) : Nat.ble n n = true := Nat.ble_eq.mpr (Nat.le_refl n)

theorem br_iff {b : Bool} {X Y : Prop} : br b X Y ↔ (b = true → X) ∧ (b = false → Y) := by cases b <;> simp [br]

theorem br_intro {b : Bool} {X Y : Prop} (h1 : b = true → X) (h2 : b = false → Y) : br b X Y := br_iff.mpr ⟨h1, h2⟩

theorem br_true {X Y : Prop} : br true X Y = X := rfl

theorem br_false {X Y : Prop} : br false X Y = Y := rfl

theorem req_iff {b : Bool} {X : Prop} : req b X ↔ b = true ∧ X := ⟨fun h => ⟨h.h, h.x⟩, fun h => ⟨h.1, h.2⟩⟩

theorem sume_inl {α β : Type} {f : α → Prop} {g : β → Prop} {a : α} : sume f g (.inl a) = f a := rfl

theorem sume_inr {α β : Type} {f : α → Prop} {g : β → Prop} {b : β} : sume f g (.inr b) = g b := rfl

/-- == by the type: structs out of the list ss -/
def aeq (ty : List (Nat × TyE)) (ss : List Nat) : Nat → TypeId → V → V → Option Bool
  | 0, _, _, _ => none
  | d + 1, t, x, y => match assoc t ty with
    | none => none
    | some e => match e.td with
      | .int k0 => match x, y with
        | .int k a, .int k' b => match kindEq k k' with | true => some (a == b) | false => none
        | _, _ => none
      | .bool => match x, y with
        | .bool a, .bool b => some (a == b)
        | _, _ => none
      | .str => match x, y with
        | .str a, .str b => some (a.toList == b.toList)
        | _, _ => none
      | .st fs => match x, y with
        | .agg xs, .agg ys => match ss.any (Nat.beq t) with
          | true => fs.foldr (fun f acc => match assoc f.1 ty with
            | none => none
            | some fe => match part fe xs f.2, part fe ys f.2 with
              | some a, some b => match aeq ty ss d f.1 a b, acc with
                | some r, some s => some (r && s)
                | _, _ => none
              | _, _ => none) (some true)
          | false => none
        | _, _ => none
      | _ => none

/-- structs without blank fields, that stand nobody in -/
def plainS (P : Program) (ss : List Nat) : Bool := ss.all fun t => !(P.stoodInHeld t) && !(P.eqGuardType P.depth t) && (P.fieldsOf t).toList.all fun f => !(f.name == "_")

theorem plainS_of {P : Program} {ss : List Nat} (h : plainS P ss = true) {t : Nat} (ht : ss.any (Nat.beq t) = true) : P.stoodInHeld t = false ∧ P.eqGuardType P.depth t = false ∧ ∀ f ∈ (P.fieldsOf t).toList, f.name ≠ "_" := by
  rw [List.any_eq_true] at ht
  obtain ⟨s, hs, he⟩ := ht
  have e := Nat.eq_of_beq_eq_true he
  subst e
  have k := List.all_eq_true.mp h t hs
  simp only [Bool.and_eq_true, Bool.not_eq_true'] at k
  refine ⟨k.1.1, k.1.2, fun f hf => ?_⟩
  have := List.all_eq_true.mp k.2 f hf
  simpa using this

section
variable {P : Program} {ty : List (Nat × TyE)} {ss : List Nat} (hT : ∀ t e, assoc t ty = some e → tyMk P t = some e) (hS : plainS P ss = true)
include hT hS

theorem aeq_sound : ∀ (d : Nat) (t : TypeId) (x y : V) (r : Bool), aeq ty ss d t x y = some r → ∀ (ρ : Env) (u1 u2 : Value) (w : World) (d' : Nat), D ρ x u1 → D ρ y u2 → d ≤ d' → (Op.equalIn d' t u1 u2).run P w = .ok r w
  | 0, t, x, y, r, h => by simp [aeq] at h
  | d + 1, t, x, y, r, h => by
    intro ρ u1 u2 w d' h1 h2 hd
    obtain ⟨d', rfl⟩ : ∃ e, d' = e + 1 := ⟨d' - 1, by omega⟩
    unfold aeq at h
    split at h
    · cases h
    · rename_i e he
      obtain ⟨i, de, z, _, hu, _, htd, _, _⟩ := tyMk_spec (hT _ _ he)
      split at h
      · rename_i k0 hk
        split at h
        · rename_i k a k' b
          split at h
          · rename_i hkk
            have := kindEq_of hkk
            subst this
            simp only [D] at h1 h2
            subst h1 h2
            cases h
            cases de <;> simp only [tdMk] at htd <;> rw [hk] at htd <;> first | (cases htd; done) | exact run_equalIn_int w d' t _ _ a b hu
          · cases h
        · cases h
      · rename_i hk
        split at h
        · rename_i a b
          simp only [D] at h1 h2
          subst h1 h2
          cases h
          cases de <;> simp only [tdMk] at htd <;> rw [hk] at htd <;> first | (cases htd; done) | exact run_equalIn_bool' w d' t a b hu
        · cases h
      · rename_i hk
        split at h
        · rename_i a b
          simp only [D] at h1 h2
          subst h1 h2
          cases h
          cases de <;> simp only [tdMk] at htd <;> rw [hk] at htd <;> first | (cases htd; done) | exact run_equalIn_string w d' t a b hu
        · cases h
      · rename_i fs hk
        split at h
        · rename_i xs ys
          simp only [D] at h1 h2
          obtain ⟨us, rfl, d1⟩ := h1
          obtain ⟨vs, rfl, d2⟩ := h2
          split at h
          · rename_i hs
            obtain ⟨s1, s2, s3⟩ := plainS_of hS hs
            have hu' : P.underlying t = some (.struct (P.fieldsOf t)) ∧ fs = (P.fieldsOf t).toList.map fun f => (f.type, f.offset) := by
              cases de <;> simp only [tdMk] at htd <;> rw [hk] at htd <;> first | (cases htd; done) | skip
              rename_i fs'
              have e1 : P.fieldsOf t = fs' := by simp [Program.fieldsOf, hu]
              rw [e1]
              injection htd with htd
              exact ⟨hu, htd⟩
            obtain ⟨hu1, rfl⟩ := hu'
            rw [run_equalIn_struct w d' t us vs hu1 s1]
            clear hs hu1 hk htd hu
            generalize (P.fieldsOf t).toList = l at *
            clear he
            induction l generalizing r with
            | nil => simp only [List.map_nil, List.foldr_nil] at h; cases h; simp [Op.eqFields]
            | cons f l ih =>
              simp only [List.map_cons, List.foldr_cons] at h
              split at h
              · cases h
              · rename_i fe hfe
                split at h
                · rename_i a b ha hb
                  split at h
                  · rename_i r1 s hr hs'
                    cases h
                    obtain ⟨ua, a1, a2⟩ := part_sound (P := P) (hT _ _ hfe) d1 ha
                    obtain ⟨ub, b1, b2⟩ := part_sound (P := P) (hT _ _ hfe) d2 hb
                    have k := aeq_sound d f.type a b r1 hr ρ ua ub w d' a1 b1 (by omega)
                    have ih := ih s (fun g hg => s3 g (List.mem_cons_of_mem _ hg)) hs'
                    unfold Op.eqFields
                    rw [if_pos (s3 f List.mem_cons_self)]
                    simp only [Sem.run_bind, a2 w, b2 w, k, Result.andThen_ok, Sem.run_ite]
                    cases r1
                    · simp
                    · simpa using ih
                  · cases h
                · cases h
          · cases h
        · cases h
      · cases h

/-- the table of ==s -/
def eqsOf (ty : List (Nat × TyE)) (ss : List Nat) : List (Nat × (List V → List V → Option Bool)) := ss.map fun t => (t, fun xs ys => aeq ty ss 20 t (.agg xs) (.agg ys))
omit hT hS in

theorem eqsOf_get : ∀ {l : List Nat} {t : Nat} {g : List V → List V → Option Bool}, assoc t (l.map fun t => (t, fun xs ys => aeq ty ss 20 t (.agg xs) (.agg ys))) = some g → l.any (Nat.beq t) = true ∧ g = fun xs ys => aeq ty ss 20 t (.agg xs) (.agg ys)
  | [], t, g, h => by cases h
  | s :: l, t, g, h => by
    simp only [List.map_cons] at h
    unfold assoc at h
    cases hb : Nat.beq s t with
    | true =>
      rw [hb] at h
      cases h
      have := Nat.eq_of_beq_eq_true hb
      subst this
      refine ⟨?_, rfl⟩
      simp
    | false =>
      rw [hb] at h
      obtain ⟨h1, h2⟩ := eqsOf_get (l := l) h
      exact ⟨by simp only [List.any_cons, h1, Bool.or_true], h2⟩

theorem eqsOf_ok {c : Cx} (h : c.eqs = eqsOf ty ss) : EqOk P c := by
  intro t g xs ys r hg hr ρ us vs d1 d2
  rw [h] at hg
  obtain ⟨h1, rfl⟩ := eqsOf_get hg
  obtain ⟨s1, s2, s3⟩ := plainS_of hS h1
  refine ⟨fun w => ?_, s2⟩
  exact aeq_sound hT hS 20 t _ _ r hr ρ _ _ w Op.maxDepth (by simp only [D]; exact ⟨us, rfl, d1⟩) (by simp only [D]; exact ⟨vs, rfl, d2⟩) (by unfold Op.maxDepth; omega)
end

end Go.B
