/- Soundness of Ba: what goes into functions and comes out. -/
import Derived.Test.YtbammhmbapeboaaGreatDoorBe
namespace Go.B
open Go Go.RowKit
set_option linter.unusedVariables false
set_option linter.unusedSimpArgs false
set_option linter.unusedSectionVars false

/-- where no row of our own goes in -/
theorem con_closed {ρ : Env} {t : Ty} {v : V} {l : List t.den} {u : Value} (h : con [] t v = some (l, true)) (d : D ρ v u) : D ⟨[], ρ.M⟩ (.sl t l none) u := by
  unfold con at h
  split at h
  · split at h
    · rename_i l2 hl
      cases h
      obtain ⟨e, hl⟩ := castL_of hl
      subst e
      subst hl
      simp only [D] at d ⊢
      obtain ⟨a, cp', rfl, h2, _, h4⟩ := d
      exact ⟨a, cp', rfl, h2, fun n h => (by cases h), h4⟩
    · cases h
  · simp [rowAt] at h
  · simp [rowAt] at h
  · simp at h
  · split at h
    · rename_i hn
      cases h
      rw [nil_of hn] at d
      simp only [D] at d ⊢
      exact ⟨none, 0, d, Nat.le_refl _, fun n h => (by cases h), .inl rfl⟩
    · cases h

theorem ext_closed {ρ : Env} {A : RT} : ∀ {vs : List V} {us : List Value} {x : A.den} {r : List V}, Ds ρ vs us → A.ext [] vs = some (x, r, true) → ∃ u v, us = u ++ v ∧ Ds ⟨[], ρ.M⟩ (A.shape x) u ∧ Ds ρ r v := by
  induction A with
  | int k =>
    intro vs us x r d h
    simp only [RT.ext] at h
    split at h
    · rename_i n q hq
      cases h
      rw [popInt_of hq, Ds_cons] at d
      obtain ⟨u, us', rfl, d1, d2⟩ := d
      simp only [D] at d1
      subst d1
      exact ⟨[_], us', rfl, by simp [RT.shape, Ds, D], d2⟩
    · cases h
  | bool =>
    intro vs us x r d h
    simp only [RT.ext] at h
    split at h
    · rename_i n q hq
      cases h
      rw [popBool_of hq, Ds_cons] at d
      obtain ⟨u, us', rfl, d1, d2⟩ := d
      simp only [D] at d1
      subst d1
      exact ⟨[_], us', rfl, by simp [RT.shape, Ds, D], d2⟩
    · cases h
  | str =>
    intro vs us x r d h
    simp only [RT.ext] at h
    split at h
    · rename_i n q hq
      cases h
      rw [popStr_of hq, Ds_cons] at d
      obtain ⟨u, us', rfl, d1, d2⟩ := d
      simp only [D] at d1
      subst d1
      exact ⟨[_], us', rfl, by simp [RT.shape, Ds, D], d2⟩
    · cases h
  | sl t =>
    intro vs us x r d h
    simp only [RT.ext] at h
    split at h
    · rename_i v q
      split at h
      · rename_i l b hc
        simp only [Option.some.injEq, Prod.mk.injEq] at h
        obtain ⟨rfl, rfl, rfl⟩ := h
        rw [Ds_cons] at d
        obtain ⟨u, us', rfl, d1, d2⟩ := d
        exact ⟨[u], us', rfl, by rw [RT.shape, Ds_cons]; exact ⟨u, [], rfl, con_closed hc d1, Ds_nil.mpr rfl⟩, d2⟩
      · cases h
    · cases h
  | nw t T => intro vs us x r d h; simp [RT.ext] at h
  | unit =>
    intro vs us x r d h
    simp only [RT.ext] at h
    split at h
    · rename_i q hq
      cases h
      rw [popTup_of hq, Ds_cons] at d
      obtain ⟨u, us', rfl, d1, d2⟩ := d
      simp only [D, Ds_nil] at d1
      obtain ⟨uu, rfl, d1⟩ := d1
      exact ⟨[_], us', rfl, by rw [RT.shape, Ds_cons]; exact ⟨_, [], rfl, by simp only [D, Ds_nil]; exact ⟨uu, rfl, d1⟩, Ds_nil.mpr rfl⟩, d2⟩
    · cases h
  | none =>
    intro vs us x r d h
    simp only [RT.ext] at h
    cases h
    exact ⟨[], us, rfl, Ds_nil.mpr rfl, d⟩
  | one a ih =>
    intro vs us x r d h
    simp only [RT.ext] at h
    exact ih d h
  | cons a q iha ihq =>
    intro vs us x r d h
    simp only [RT.ext] at h
    split at h
    · rename_i x1 r1 b1 h1
      split at h
      · rename_i x2 r2 b2 h2
        simp only [Option.some.injEq, Prod.mk.injEq, Bool.and_eq_true] at h
        obtain ⟨rfl, rfl, rfl, rfl⟩ := h
        obtain ⟨u1, v1, rfl, k1, k2⟩ := iha d h1
        obtain ⟨u2, v2, rfl, k3, k4⟩ := ihq k2 h2
        exact ⟨u1 ++ u2, v2, by simp, by rw [RT.shape]; exact Ds_append k1 k3, k4⟩
      · cases h
    · cases h
  | agg l ih =>
    intro vs us x r d h
    simp only [RT.ext] at h
    split at h
    · rename_i cs q hq
      split at h
      · rename_i x1 b1 h1
        simp only [Option.some.injEq, Prod.mk.injEq] at h
        obtain ⟨rfl, rfl, rfl⟩ := h
        rw [popAgg_of hq, Ds_cons] at d
        obtain ⟨u, us', rfl, d1, d2⟩ := d
        simp only [D] at d1
        obtain ⟨ua, rfl, d1⟩ := d1
        obtain ⟨u1, v1, e, k1, k2⟩ := ih d1 h1
        rw [Ds_nil] at k2
        subst k2
        rw [List.append_nil] at e
        exact ⟨[_], us', rfl, by rw [RT.shape, Ds_cons]; exact ⟨_, [], rfl, by simp only [D]; exact ⟨ua, rfl, by rw [e]; exact k1⟩, Ds_nil.mpr rfl⟩, d2⟩
      · cases h
    · cases h
  | tup l ih =>
    intro vs us x r d h
    simp only [RT.ext] at h
    split at h
    · rename_i cs q hq
      split at h
      · rename_i x1 b1 h1
        simp only [Option.some.injEq, Prod.mk.injEq] at h
        obtain ⟨rfl, rfl, rfl⟩ := h
        rw [popTup_of hq, Ds_cons] at d
        obtain ⟨u, us', rfl, d1, d2⟩ := d
        simp only [D] at d1
        obtain ⟨ua, rfl, d1⟩ := d1
        obtain ⟨u1, v1, e, k1, k2⟩ := ih d1 h1
        rw [Ds_nil] at k2
        subst k2
        rw [List.append_nil] at e
        exact ⟨[_], us', rfl, by rw [RT.shape, Ds_cons]; exact ⟨_, [], rfl, by simp only [D]; exact ⟨ua, rfl, by rw [e]; exact k1⟩, Ds_nil.mpr rfl⟩, d2⟩
      · cases h
    · cases h

/- shapes without rows do not lean on memory -/

theorem Deep_flat {M M' : Nat → Option Obj} : ∀ {t : Ty} {x : t.den} {us : List Value}, t.flat = true → Deep M t x us → Deep M' t x us
  | .int _, _, _, _, d => d
  | .bool, _, _, _, d => d
  | .str, _, _, _, d => d
  | .sl _, _, _, h, _ => by simp [Ty.flat] at h
  | .pr a b, _, _, h, d => by
    simp only [Ty.flat, Bool.and_eq_true] at h
    obtain ⟨u, v, h1, h2, h3⟩ := d
    exact ⟨u, v, h1, Deep_flat h.1 h2, Deep_flat h.2 h3⟩

theorem Fresh_flat {M M' : Nat → Option Obj} {N : Nat} {w : World} {t : Ty} {l : List t.den} {T : TypeId} {u : Value} {rs rs' : List Nat} (ht : t.flat = true) (hM : ∀ r, N ≤ r → M' r = none) (h : Fresh M N w t l T u rs rs') : Fresh M' N w t l T u rs rs' := by
  rcases h with h | ⟨r, cap, us, h1, h2, h3, h4, h5, h6, h7, h8, h9, h10⟩
  · exact .inl h
  · exact .inr ⟨r, cap, us, h1, h2, h3, h4, h5, hM r h4, h7, h8, fun i hi => Deep_flat ht (h9 i hi), h10⟩

theorem Outs_cons {M : Nat → Option Obj} {N : Nat} {w : World} {v : V} {vs : List V} {us : List Value} {rs rs' : List Nat} : Outs M N w (v :: vs) us rs rs' ↔ ∃ u us' rs1, us = u :: us' ∧ Out M N w v u rs rs1 ∧ Outs M N w vs us' rs1 rs' := by
  conv => lhs; unfold Outs

theorem Outs_nil {M : Nat → Option Obj} {N : Nat} {w : World} {us : List Value} {rs rs' : List Nat} : Outs M N w [] us rs rs' ↔ us = [] ∧ rs' = rs := by
  conv => lhs; unfold Outs

theorem Outs_append {M : Nat → Option Obj} {N : Nat} {w : World} : ∀ {a b : List V} {us : List Value} {rs rs' : List Nat}, Outs M N w (a ++ b) us rs rs' ↔ ∃ u v rs1, us = u ++ v ∧ Outs M N w a u rs rs1 ∧ Outs M N w b v rs1 rs'
  | [], b, us, rs, rs' => by
    constructor
    · intro h; exact ⟨[], us, rs, rfl, Outs_nil.mpr ⟨rfl, rfl⟩, h⟩
    · rintro ⟨u, v, rs1, rfl, h1, h2⟩
      obtain ⟨rfl, rfl⟩ := Outs_nil.mp h1
      exact h2
  | x :: a, b, us, rs, rs' => by
    rw [List.cons_append, Outs_cons]
    constructor
    · rintro ⟨u, us', rs1, rfl, h1, h2⟩
      obtain ⟨p, q, rs2, rfl, h3, h4⟩ := Outs_append.mp h2
      exact ⟨u :: p, q, rs2, rfl, Outs_cons.mpr ⟨u, p, rs1, rfl, h1, h3⟩, h4⟩
    · rintro ⟨u, v, rs1, rfl, h1, h2⟩
      obtain ⟨u0, p, rs2, rfl, h3, h4⟩ := Outs_cons.mp h1
      exact ⟨u0, p ++ v, rs2, rfl, h3, Outs_append.mpr ⟨p, v, rs1, rfl, h4, h2⟩⟩

/-- a shape without rows: whatever memory -/
theorem Outs_flat {M M' : Nat → Option Obj} {N : Nat} {w : World} (hM : ∀ r, N ≤ r → M' r = none) {B : RT} : ∀ {y : B.den} {us : List Value} {rs rs' : List Nat}, B.flat = true → Outs M N w (B.shape y) us rs rs' → Outs M' N w (B.shape y) us rs rs' := by
  induction B with
  | int k =>
    intro y us rs rs' _ h
    simp only [RT.shape, Outs_cons, Outs_nil, Out, D] at h ⊢
    exact h
  | bool =>
    intro y us rs rs' _ h
    simp only [RT.shape, Outs_cons, Outs_nil, Out, D] at h ⊢
    exact h
  | str =>
    intro y us rs rs' _ h
    simp only [RT.shape, Outs_cons, Outs_nil, Out, D] at h ⊢
    exact h
  | sl t => intro y us rs rs' hf; simp [RT.flat] at hf
  | nw t T =>
    intro y us rs rs' hf h
    simp only [RT.flat] at hf
    simp only [RT.shape, Outs_cons, Outs_nil, Out] at h ⊢
    obtain ⟨u, us', rs1, rfl, h1, h2⟩ := h
    exact ⟨u, us', rs1, rfl, Fresh_flat hf hM h1, h2⟩
  | unit =>
    intro y us rs rs' _ h
    simp only [RT.shape, Outs_cons, Outs_nil, Out] at h ⊢
    exact h
  | none => intro y us rs rs' _ h; exact h
  | one a ih =>
    intro y us rs rs' hf h
    exact ih (by simpa [RT.flat] using hf) h
  | cons a q iha ihq =>
    intro y us rs rs' hf h
    simp only [RT.flat, Bool.and_eq_true] at hf
    rw [RT.shape, Outs_append] at h ⊢
    obtain ⟨u, v, rs1, rfl, h1, h2⟩ := h
    exact ⟨u, v, rs1, rfl, iha hf.1 h1, ihq hf.2 h2⟩
  | agg l ih =>
    intro y us rs rs' hf h
    simp only [RT.shape, Outs_cons, Outs_nil, Out] at h ⊢
    obtain ⟨u, us', rs1, rfl, ⟨ua, rfl, h1⟩, h2⟩ := h
    exact ⟨_, us', rs1, rfl, ⟨ua, rfl, ih (by simpa [RT.flat] using hf) h1⟩, h2⟩
  | tup l ih =>
    intro y us rs rs' hf h
    simp only [RT.shape, Outs_cons, Outs_nil, Out] at h ⊢
    obtain ⟨u, us', rs1, rfl, ⟨ua, rfl, h1⟩, h2⟩ := h
    exact ⟨_, us', rs1, rfl, ⟨ua, rfl, ih (by simpa [RT.flat] using hf) h1⟩, h2⟩

theorem Outs_single {M : Nat → Option Obj} {N : Nat} {w : World} {v : V} {u : Value} {rs rs' : List Nat} : Outs M N w [v] [u] rs rs' ↔ Out M N w v u rs rs' := by
  rw [Outs_cons]
  constructor
  · rintro ⟨u', us', rs1, h, h1, h2⟩
    cases h
    obtain ⟨_, rfl⟩ := Outs_nil.mp h2
    exact h1
  · intro h
    exact ⟨u, [], rs', rfl, h, Outs_nil.mpr ⟨rfl, rfl⟩⟩

/-- the blocks that are new lie apart -/
structure Apart (gs : List (Nat × CF)) (ρ : Env) (hp : List Blk) (N : Nat) (rs : List Nat) : Prop where
  own : ∀ r, N ≤ r → r ∉ rs → ∀ (i : Nat) (x : Blk), hp[i]? = some x → ρ.l[i]? = some r → free x
  gl : ∀ g p, assoc g gs = some p → g < N
  lt : ∀ r ∈ rs, N ≤ r

theorem both_grow {gs : List (Nat × CF)} {ρ : Env} {hp : List Blk} {w : World} (R : Rel gs ρ hp w) {b : Blk} {r : Nat} {k : Nat} {x : Blk} {s : Nat} (h1 : (hp ++ [b])[k]? = some x) (h2 : (ρ.snoc r).l[k]? = some s) : (hp[k]? = some x ∧ ρ.l[k]? = some s) ∨ (k = hp.length ∧ x = b ∧ s = r) := by
  rcases get_snoc_blk _ _ h1 with a1 | ⟨a1, a1'⟩
  · rcases get_snoc _ _ h2 with a2 | ⟨a2, _⟩
    · exact .inl ⟨a1, a2⟩
    · have := (List.getElem?_eq_some_iff.mp a1).1
      rw [a2, R.len] at this; omega
  · rcases get_snoc _ _ h2 with a2 | ⟨_, a2⟩
    · have := (List.getElem?_eq_some_iff.mp a2).1
      rw [a1, R.len] at this; omega
    · exact .inr ⟨a1, a1', a2⟩

theorem inst_plain {gs : List (Nat × CF)} {w : World} {N : Nat} {v : V} {hp : List Blk} {K : V → List Blk → Prop} {ρ : Env} {u : Value} {rs rs' : List Nat} (h : K v hp) (o : D ⟨[], ρ.M⟩ v u ∧ rs' = rs) (R : Rel gs ρ hp w) (A : Apart gs ρ hp N rs) :
    ∃ ρ' v' hp', K v' hp' ∧ D ρ' v' u ∧ Rel gs ρ' hp' w ∧ ρ.l <+: ρ'.l ∧ ρ'.M = ρ.M ∧ (∀ r ∈ ρ'.l, r ∈ ρ.l ∨ N ≤ r) ∧ Apart gs ρ' hp' N rs' := by
  obtain ⟨o1, rfl⟩ := o
  exact ⟨ρ, v, hp, h, D_mono (ρ := ⟨[], ρ.M⟩) (ρ' := ρ) ⟨List.nil_prefix, fun _ _ h => h⟩ o1, R, List.prefix_rfl, rfl, fun r hr => .inl hr, A⟩
mutual

theorem inst_sound {gs : List (Nat × CF)} {w : World} {N : Nat} (hN : N ≤ w.heap.size) : ∀ {v : V} {hp : List Blk} {K : V → List Blk → Prop} {ρ : Env} {u : Value} {rs rs' : List Nat}, inst v hp K → Out ρ.M N w v u rs rs' → Rel gs ρ hp w → Apart gs ρ hp N rs →
    ∃ ρ' v' hp', K v' hp' ∧ D ρ' v' u ∧ Rel gs ρ' hp' w ∧ ρ.l <+: ρ'.l ∧ ρ'.M = ρ.M ∧ (∀ r ∈ ρ'.l, r ∈ ρ.l ∨ N ≤ r) ∧ Apart gs ρ' hp' N rs'
  | .nw t l T, hp, K, ρ, u, rs, rs', h, o, R, A => by
    simp only [inst] at h
    simp only [Out] at o
    have mem : ∀ {x r : Nat}, r ∈ (ρ.snoc x).l → N ≤ x → r ∈ ρ.l ∨ N ≤ r := fun {x r} hr hx => by
      rcases List.mem_append.mp hr with hr | hr
      · exact .inl hr
      · simp at hr; subst hr; exact .inr hx
    rcases o with ⟨rfl, ⟨a, rfl⟩, rfl⟩ | ⟨r, cap, us, h1, h2, rfl, h4, h5, h6, h7, h8, h9, rfl⟩
    · refine ⟨ρ.snoc w.heap.size, _, _, h 0 rfl, ?_, R.adopt (.row t [] T 0) rfl (.inl ⟨rfl, rfl⟩), List.prefix_append _ _, rfl, fun r hr => mem hr hN, fun r hr hn i x hx hi => ?_, A.gl, A.lt⟩
      · simp only [D]; exact .inl ⟨rfl, trivial, a, rfl⟩
      · rcases both_grow R hx hi with ⟨a1, a2⟩ | ⟨_, a2, _⟩
        · exact A.own r hr hn i x a1 a2
        · rw [a2]; exact ⟨rfl, rfl⟩
    · refine ⟨ρ.snoc r, _, _, h cap (Nat.ble_eq.mpr h1.2), ?_, R.adopt (.row t l T cap) rfl (.inr ⟨A.own r h4 h5, fun g p hg e => ?_, h6, _, h7, h1.2, h2, us, rfl, h8, h9⟩), List.prefix_append _ _, rfl, fun x hr => mem hr h4, fun x hr hn i y hx hi => ?_, A.gl, fun x hx => ?_⟩
      · simp only [D]
        refine .inr ⟨h1, r, ?_, rfl⟩
        rw [← R.len]; exact snoc_get _ _
      · have := A.gl g p hg; omega
      · rcases both_grow R hx hi with ⟨a1, a2⟩ | ⟨_, _, a3⟩
        · exact A.own x hr (fun h => hn (List.mem_cons_of_mem _ h)) i y a1 a2
        · subst a3; exact absurd (List.mem_cons_self) hn
      · rcases List.mem_cons.mp hx with rfl | hx
        · exact h4
        · exact A.lt x hx
  | .agg cs, hp, K, ρ, u, rs, rs', h, o, R, A => by
    simp only [inst] at h
    simp only [Out] at o
    obtain ⟨us, rfl, o⟩ := o
    obtain ⟨ρ', vs', hp', h1, h2, h3, h4, h5, h6, h7⟩ := insts_sound hN h o R A
    exact ⟨ρ', _, hp', h1, by simp only [D]; exact ⟨us, rfl, h2⟩, h3, h4, h5, h6, h7⟩
  | .tup cs, hp, K, ρ, u, rs, rs', h, o, R, A => by
    simp only [inst] at h
    simp only [Out] at o
    obtain ⟨us, rfl, o⟩ := o
    obtain ⟨ρ', vs', hp', h1, h2, h3, h4, h5, h6, h7⟩ := insts_sound hN h o R A
    exact ⟨ρ', _, hp', h1, by simp only [D]; exact ⟨us, rfl, h2⟩, h3, h4, h5, h6, h7⟩
  | .any, hp, K, ρ, u, rs, rs', h, o, R, A => inst_plain (by simpa only [inst] using h) (by simpa only [Out] using o) R A
  | .bool _, hp, K, ρ, u, rs, rs', h, o, R, A => inst_plain (by simpa only [inst] using h) (by simpa only [Out] using o) R A
  | .int _ _, hp, K, ρ, u, rs, rs', h, o, R, A => inst_plain (by simpa only [inst] using h) (by simpa only [Out] using o) R A
  | .str _, hp, K, ρ, u, rs, rs', h, o, R, A => inst_plain (by simpa only [inst] using h) (by simpa only [Out] using o) R A
  | .ptr _ _, hp, K, ρ, u, rs, rs', h, o, R, A => inst_plain (by simpa only [inst] using h) (by simpa only [Out] using o) R A
  | .gp _ _, hp, K, ρ, u, rs, rs', h, o, R, A => inst_plain (by simpa only [inst] using h) (by simpa only [Out] using o) R A
  | .slc _ _ _ _, hp, K, ρ, u, rs, rs', h, o, R, A => inst_plain (by simpa only [inst] using h) (by simpa only [Out] using o) R A
  | .fn _ _ _, hp, K, ρ, u, rs, rs', h, o, R, A => inst_plain (by simpa only [inst] using h) (by simpa only [Out] using o) R A
  | .yld _, hp, K, ρ, u, rs, rs', h, o, R, A => inst_plain (by simpa only [inst] using h) (by simpa only [Out] using o) R A
  | .old _, hp, K, ρ, u, rs, rs', h, o, R, A => inst_plain (by simpa only [inst] using h) (by simpa only [Out] using o) R A
  | .row _ _ _ _, hp, K, ρ, u, rs, rs', h, o, R, A => inst_plain (by simpa only [inst] using h) (by simpa only [Out] using o) R A
  | .rs _ _ _ _ _, hp, K, ρ, u, rs, rs', h, o, R, A => inst_plain (by simpa only [inst] using h) (by simpa only [Out] using o) R A
  | .rp _ _ _ _, hp, K, ρ, u, rs, rs', h, o, R, A => inst_plain (by simpa only [inst] using h) (by simpa only [Out] using o) R A
  | .sl _ _ _, hp, K, ρ, u, rs, rs', h, o, R, A => inst_plain (by simpa only [inst] using h) (by simpa only [Out] using o) R A
  | .sp _ _ _, hp, K, ρ, u, rs, rs', h, o, R, A => inst_plain (by simpa only [inst] using h) (by simpa only [Out] using o) R A
  | .mp _, hp, K, ρ, u, rs, rs', h, o, R, A => inst_plain (by simpa only [inst] using h) (by simpa only [Out] using o) R A

theorem insts_sound {gs : List (Nat × CF)} {w : World} {N : Nat} (hN : N ≤ w.heap.size) : ∀ {vs : List V} {hp : List Blk} {K : List V → List Blk → Prop} {ρ : Env} {us : List Value} {rs rs' : List Nat}, insts vs hp K → Outs ρ.M N w vs us rs rs' → Rel gs ρ hp w → Apart gs ρ hp N rs →
    ∃ ρ' vs' hp', K vs' hp' ∧ Ds ρ' vs' us ∧ Rel gs ρ' hp' w ∧ ρ.l <+: ρ'.l ∧ ρ'.M = ρ.M ∧ (∀ r ∈ ρ'.l, r ∈ ρ.l ∨ N ≤ r) ∧ Apart gs ρ' hp' N rs'
  | [], hp, K, ρ, us, rs, rs', h, o, R, A => by
    simp only [insts] at h
    obtain ⟨rfl, rfl⟩ := Outs_nil.mp o
    exact ⟨ρ, [], hp, h, Ds_nil.mpr rfl, R, List.prefix_rfl, rfl, fun r hr => .inl hr, A⟩
  | v :: vs, hp, K, ρ, us, rs, rs', h, o, R, A => by
    simp only [insts] at h
    obtain ⟨u, us', rs1, rfl, o1, o2⟩ := Outs_cons.mp o
    obtain ⟨ρ1, v1, hp1, k, d1, R1, p1, m1, l1, A1⟩ := inst_sound hN h o1 R A
    obtain ⟨ρ2, vs2, hp2, k2, d2, R2, p2, m2, l2, A2⟩ := insts_sound hN k (by rw [m1]; exact o2) R1 A1
    refine ⟨ρ2, v1 :: vs2, hp2, k2, Ds_cons.mpr ⟨u, us', rfl, D_mono ⟨p2, fun r o h => by rw [m2]; exact h⟩ d1, d2⟩, R2, p1.trans p2, m2.trans m1, fun r hr => ?_, A2⟩
    rcases l2 r hr with h | h
    · exact l1 r h
    · exact .inr h
end

/-- more that nobody writes to -/
theorem Rel.grow {gs : List (Nat × CF)} {ρ : Env} {hp : List Blk} {w w' : World} (R : Rel gs ρ hp w) (B : Below w.heap.size w w') {M' : Nat → Option Obj} (h1 : ∀ r o, ρ.M r = some o → M' r = some o) (h2 : ∀ r o, M' r = some o → w'.heap[r]? = some o ∧ (ρ.M r = some o ∨ w.heap.size ≤ r)) :
    Rel gs ⟨ρ.l, M'⟩ hp w' ∧ Gr ρ w ⟨ρ.l, M'⟩ w' := by
  obtain ⟨R', G'⟩ := R.below B
  have le : ρ.le ⟨ρ.l, M'⟩ := ⟨List.prefix_rfl, h1⟩
  refine ⟨⟨R'.len, R'.inj, fun k b r hb hr => ?_, R'.gl, fun r o hr => ?_, fun k r b hb hr hi => ?_⟩, le, fun r h => .inl h, fun r o hr => ?_, B.os, B.tape, B.output, B.size, G'.old⟩
  · rcases R'.blk k b r hb hr with q | ⟨o, q1, q2⟩
    · exact .inl q
    · exact .inr ⟨o, q1, q2.mono le⟩
  · obtain ⟨q1, q2⟩ := h2 r o hr
    refine ⟨q1, fun i b hb hi => ?_⟩
    rcases q2 with q2 | q2
    · exact (R.im r o q2).2 i b hb hi
    · exact .inl ((R.new q2).1 i b hb hi)
  · rcases R.ic k r b hb hr hi with q | ⟨o, q⟩
    · exact .inl q
    · exact .inr ⟨o, h1 _ _ q⟩
  · rcases (h2 r o hr).2 with q | q
    · exact .inl q
    · exact .inr (.inr q)

/-- what a contract gives the caller, and old memory is as it was -/
def CS (gs : List (Nat × CF)) (K : V → List Blk → Prop) (ρ : Env) (w : World) (e : Ending) (w' : World) : Prop := CP gs K ρ w e w' ∧ Same w w' ∧ w.heap.size ≤ w'.heap.size

theorem fx_sound2 {P : Program} {gs : List (Nat × CF)} {f : FuncId} {A B : RT} {ρ : Env} {hp : List Blk} {w : World} {M : Nat → Option Obj} {y : B.den} {us : List Value} {K : V → List Blk → Prop} (R : Rel gs ρ hp w)
    (hc : Calls P f us.toArray w (Result' A B M w y)) (hK : inst (single (B.shape y)) hp K) (hsh : ∃ v, B.shape y = [v])
    (hM : (B.flat = true ∧ ∀ r, w.heap.size ≤ r → ρ.M r = none) ∨ M = ρ.M) :
    CallsIn Fence.wide 0 P f us.toArray w (CS gs K ρ w) := by
  refine callsIn_wide.2 (hc.mono ?_)
  rintro e w' ⟨u, M', rs, rfl, h1, h2, h3, h4⟩
  obtain ⟨v, hv⟩ := hsh
  have hN : w.heap.size ≤ w'.heap.size := h2.size
  have glt : ∀ g p, assoc g gs = some p → g < w.heap.size := fun g p hg => (R.gl g p hg).2.1.1
  rw [hv] at hK h1
  change inst v hp K at hK
  change Out M' _ _ v u _ _ at h1
  rcases hM with ⟨hf, hn⟩ | rfl
  · obtain ⟨R', G'⟩ := R.below h2
    have h1' : Out ρ.M w.heap.size w' v u [] rs := by
      have := Outs_flat (B := B) (y := y) hn hf (by rw [hv]; exact Outs_single.mpr h1)
      rw [hv] at this
      exact Outs_single.mp this
    obtain ⟨ρ', v', hp', k1, k2, k3, k4, k5, k6, _⟩ := inst_sound hN hK h1' R' ⟨fun r hr _ => (R.new hr).1, glt, fun r h => (by cases h)⟩
    refine ⟨⟨v', u, hp', ρ', rfl, k1, k2, k3, ⟨k4, fun r o h => by rw [k5]; exact h⟩, k6, fun r o hr => ?_, G'.os, G'.tape, G'.output, G'.size, G'.old⟩, h2.block, hN⟩
    rw [k5] at hr; exact .inl hr
  · obtain ⟨R', G'⟩ := R.grow h2 h3 h4
    obtain ⟨ρ', v', hp', k1, k2, k3, k4, k5, k6, _⟩ := inst_sound (ρ := ⟨ρ.l, M'⟩) hN hK h1 R' ⟨fun r hr _ => (R.new hr).1, glt, fun r h => (by cases h)⟩
    refine ⟨⟨v', u, hp', ρ', rfl, k1, k2, k3, ⟨k4, fun r o h => by rw [k5]; exact h3 r o h⟩, k6, fun r o hr => ?_, G'.os, G'.tape, G'.output, G'.size, G'.old⟩, h2.block, hN⟩
    rw [k5] at hr
    exact G'.newM r o hr

theorem fx_sound {P : Program} {gs : List (Nat × CF)} {f : FuncId} {A B : RT} {ρ : Env} {hp : List Blk} {w : World} {M : Nat → Option Obj} {y : B.den} {us : List Value} {K : V → List Blk → Prop} (R : Rel gs ρ hp w)
    (hc : Calls P f us.toArray w (Result' A B M w y)) (hK : inst (single (B.shape y)) hp K) (hsh : ∃ v, B.shape y = [v])
    (hM : (B.flat = true ∧ ∀ r, w.heap.size ≤ r → ρ.M r = none) ∨ M = ρ.M) :
    CallsIn Fence.wide 0 P f us.toArray w (CP gs K ρ w) := callsIn_wide.2 ((callsIn_wide.1 (fx_sound2 R hc hK hsh hM)).mono fun e w' h => h.1)
end Go.B
