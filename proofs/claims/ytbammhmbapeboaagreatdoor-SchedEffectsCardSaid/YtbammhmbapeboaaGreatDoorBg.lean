/- Soundness of Ba: regions whose order is drawn. -/
import Derived.Test.YtbammhmbapeboaaGreatDoorBf
namespace Go.B
open Go Go.RowKit
set_option linter.unusedVariables false
set_option linter.unusedSectionVars false
set_option linter.unusedSimpArgs false

section
variable {P : Program} {ops : Array Oper} {md : Region.Mode} {C : World → Prop}

/-- whatever order is picked of the head's operations, each quiet in the class -/
def wpHeadQ (P : Program) (md : Region.Mode) (ops : Array Oper) (C : World → Prop) (n : Nat) (L : Array Bool → Act → Prop) : Nat → Array Bool → Act → Prop
  | 0, listed, a => L listed a
  | f + 1, listed, a =>
    Region.ready md ops listed ≠ [] ∧ ∀ i ∈ Region.ready md ops listed, i < n ∧ qOp P ops C i (wpHeadQ P md ops C n L f (listed.setIfInBounds i true)) a

theorem wpAny_of_headQ {n g : Nat} {L : Array Bool → Act → Prop} {Q' : Exit → Act → World → Prop} (hL : ∀ listed a w, C w → L listed a → wpAny P md ops Q' g listed a w) :
    ∀ (f : Nat) (listed : Array Bool) (a : Act) (w : World), C w → wpHeadQ P md ops C n L f listed a → wpAny P md ops Q' (f + g) listed a w
  | 0, listed, a, w, hw, h => by rw [Nat.zero_add]; exact hL _ _ _ hw h
  | f + 1, listed, a, w, hw, h => by
    rw [show f + 1 + g = (f + g) + 1 by omega]
    exact ⟨fun h0 => absurd h0 h.1, fun i hi => wpOp_of_qOp hw (fun a' w' hw' h' => wpAny_of_headQ hL f _ a' w' hw' h') (h.2 i hi).2⟩

theorem wpHeadQ_first {n i : Nat} {oi : Oper} {v : Value} {L : Array Bool → Act → Prop} (hi : ops[i]? = some oi) (hsel : ∀ (j : Nat) (o : Oper) cs b, ops[j]? = some o → o.op ≠ .select cs b)
    (hs : Region.sinkB md ops n = true) (hc : Region.chainB md ops n = true) (hn : n < ops.size) (hin : i < n)
    (hdone : ∀ listed a, L listed a → ∀ j ∈ Region.ready md ops listed, n ≤ j) :
    ∀ (f : Nat) (listed : Array Bool) (a : Act), HeadInv md ops n listed →
      (∀ j oj, ops[j]? = some oj → j ≠ i → listed.getD j true = false → (∀ e ∈ oj.after, Region.binds md e = true → e.on ≠ i) → oi.apart ops oj = true) →
      i ∈ Region.ready md ops listed → YieldsIn P ops C oi v a →
      wpHeadQ P md ops C n L f (listed.setIfInBounds i true) (a.put oi.dst v) → wpHeadQ P md ops C n L (f + 1) listed a := by
  intro f
  induction f with
  | zero =>
    intro listed a inv _ hr hy H
    have hun := (mem_ready.1 hr).1
    refine ⟨fun h => (by rw [h] at hr; cases hr), fun j hj => ?_⟩
    have hjn : j < n := by
      rcases Nat.lt_or_ge j n with h | h
      · exact h
      · exact absurd hj (tail_waits hs hc hn inv _ i rfl hin hun j h)
    refine ⟨hjn, ?_⟩
    by_cases hji : j = i
    · subst hji; exact hy.qOp hi H
    · have := hdone _ _ H j (ready_mono hj hji)
      omega
  | succ f ih =>
    intro listed a inv hfree hr hy H
    have hun := (mem_ready.1 hr).1
    refine ⟨fun h => (by rw [h] at hr; cases hr), fun j hj => ?_⟩
    have hjn : j < n := by
      rcases Nat.lt_or_ge j n with h | h
      · exact h
      · exact absurd hj (tail_waits hs hc hn inv _ i rfl hin hun j h)
    refine ⟨hjn, ?_⟩
    by_cases hji : j = i
    · subst hji; exact hy.qOp hi H
    · have h1 := (H.2 j (ready_mono hj hji)).2
      obtain ⟨hjun, oj, hoj, hall⟩ := mem_ready.1 hj
      have hnot : ∀ e ∈ oj.after, Region.binds md e = true → e.on ≠ i := fun e he hb heq => by
        have h1 := hall e he hb
        rw [heq, getD_both hun] at h1
        cases h1
      have h2 := qOp_put hoj (hfree j oj hoj hji hjun hnot) (fun cs b => hsel i oi cs b hi) (fun cs b => hsel j oj cs b hoj) hy h1
      have hfree' : ∀ k ok, ops[k]? = some ok → k ≠ i → (listed.setIfInBounds j true).getD k true = false →
          (∀ e ∈ ok.after, Region.binds md e = true → e.on ≠ i) → oi.apart ops ok = true := fun k ok hk hki hun hno => by
        refine hfree k ok hk hki ?_ hno
        by_cases hjk : j = k
        · subst hjk; exact hjun
        · rw [getD_set_ne true hjk] at hun; exact hun
      refine qOp_mono (fun a' h3 => ih (listed.setIfInBounds j true) a' (inv.set hj hjn) hfree' (ready_mono hr (Ne.symm hji)) h3.1 ?_) h2
      rw [Array.setIfInBounds_comm _ _ hji]
      exact h3.2

theorem wpHeadQ_lex {n g : Nat} {Lq : Act → Prop} (hsel : Region.noSelect ops = true) (hs : Region.sinkB md ops n = true) (hc : Region.chainB md ops n = true) (hn : n < ops.size) :
    ∀ (l : List Oper) (k : Nat) (listed : Array Bool) (a : Act), (∀ j, j < l.length → l[j]? = ops[k + j]?) → k + l.length = n → HeadInv md ops n listed →
    Region.lexHead md ops g l.length k listed = true → wpQuiet P ops C Lq l a →
    wpHeadQ P md ops C n (fun listed' a' => Region.seqB md ops g n listed' = true ∧ Lq a') l.length listed a
  | [], k, listed, a, _, hk, _, hB, h => by
    have : k = n := by simpa using hk
    subst this
    exact ⟨by simpa [Region.lexHead] using hB, h⟩
  | o :: l, k, listed, a, hl, hk, inv, hB, h => by
    have h0 : ops[k]? = some o := by simpa using (hl 0 (by simp)).symm
    simp only [List.length_cons, Region.lexHead, Bool.and_eq_true] at hB
    obtain ⟨⟨hr, hf⟩, hB'⟩ := hB
    have hkn : k < n := by simp only [List.length_cons] at hk; omega
    have hr' : k ∈ Region.ready md ops listed := by simpa using hr
    have hst : qOp P ops C k (wpQuiet P ops C Lq l) a := by unfold qOp; simp only [h0]; exact h
    obtain ⟨v, hy, hK⟩ := yieldsIn_of_qOp h0 hst
    exact wpHeadQ_first h0 (Region.noSelect_spec hsel) hs hc hn hkn (fun listed' a' hL => seqB_ready hL.1) l.length listed a inv (Region.free_spec h0 hf) hr' hy
      (wpHeadQ_lex hsel hs hc hn l (k + 1) _ _ (fun j hj => by have := hl (j + 1) (by simp; omega); simpa [Nat.add_assoc, Nat.add_comm 1 j] using this) (by simp only [List.length_cons] at hk; omega) (inv.set hr' hkn) hB' hK)

/-- a region that draws its order: a head of quiet operations (of the class), then a tail in one forced order -/
theorem wp_region_quiet_tail {id : Nat} {Q : Exit → Act → World → Prop} {a : Act} {w : World} {l : List Oper} (n : Nat) (hm : P.follows .mixedOrders = true) (hB : Region.lexTailB .any l.toArray n = true)
    (hC : C { w with drawn := w.drawn + 1 })
    (h : wpQuiet P l.toArray C (fun a' => ∀ w', C w' → wpList P l.toArray Q (l.drop n) a' w') (l.take n) a) : (Code.region id l.toArray true).wp P Q a w := by
  simp only [Region.lexTailB, Bool.and_eq_true, decide_eq_true_eq] at hB
  obtain ⟨⟨⟨⟨hsel, hn⟩, hs⟩, hc⟩, hlex⟩ := hB
  have hn' : n < l.length := by simpa using hn
  have htl : (l.take n).length = n := by simp; omega
  have hdl : (l.drop n).length = l.toArray.size - n := by simp
  have inv0 : HeadInv .any l.toArray n (Array.replicate l.toArray.size false) :=
    ⟨by simp, fun j oj _ hl => (by rw [getD_replicate_false] at hl; cases hl), fun t _ ht => getD_in (by simpa using ht) (getD_replicate_false _ _)⟩
  have H := wpHeadQ_lex (md := .any) (g := l.toArray.size - n) hsel hs hc hn (l.take n) 0 _ a (fun j hj => by
    have hj' : j < n := by rw [htl] at hj; exact hj
    simp [hj']) (by simpa using htl) inv0 (by rw [htl]; exact hlex) h
  refine wp_region_any hm ?_
  have := wpAny_of_headQ (Q' := Q) (g := l.toArray.size - n) (fun listed a' w' hw' hL => by
    have := wpAny_of_seq (md := .any) (Q' := Q) (l.drop n) n listed a' w' (fun j => by simp [List.getElem?_drop]) (by rw [hdl]; exact hL.1) (hL.2 w' hw')
    rwa [hdl] at this) _ _ _ _ hC H
  rw [htl, show n + (l.toArray.size - n) = l.toArray.size by omega] at this
  exact this
end

mutual

theorem D_one_value {ρ : Env} : ∀ {v : V} {u u' : Value}, solid v = true → D ρ v u → D ρ v u' → u = u'
  | .any, _, _, h, _, _ => by simp [solid] at h
  | .bool _, _, _, _, a, b => by simp only [D] at a b; rw [a, b]
  | .int _ _, _, _, _, a, b => by simp only [D] at a b; rw [a, b]
  | .str _, _, _, _, a, b => by simp only [D] at a b; rw [a, b]
  | .ptr _ _, _, _, _, a, b => by
    simp only [D] at a b
    obtain ⟨r, h1, rfl⟩ := a
    obtain ⟨r', h2, rfl⟩ := b
    rw [h1] at h2; cases h2; rfl
  | .gp _ _, _, _, _, a, b => by simp only [D] at a b; rw [a, b]
  | .slc _ _ _ _, _, _, _, a, b => by
    simp only [D] at a b
    obtain ⟨r, h1, rfl, _⟩ := a
    obtain ⟨r', h2, rfl, _⟩ := b
    rw [h1] at h2; cases h2; rfl
  | .fn _ _ _, _, _, h, a, b => by
    simp only [D] at a b
    simp only [solid, Bool.and_eq_true] at h
    obtain ⟨as, bs, rfl, h1, h2⟩ := a
    obtain ⟨as', bs', rfl, h3, h4⟩ := b
    have e1 := Ds_one_value h.1 h1 h3
    have e2 := Ds_one_value h.2 h2 h4
    rw [Array.toList_inj.mp e1, Array.toList_inj.mp e2]
  | .yld _, _, _, _, a, b => by
    simp only [D] at a b
    obtain ⟨r, h1, rfl⟩ := a
    obtain ⟨r', h2, rfl⟩ := b
    rw [h1] at h2; cases h2; rfl
  | .agg _, _, _, h, a, b => by
    simp only [D] at a b
    obtain ⟨us, rfl, h1⟩ := a
    obtain ⟨us', rfl, h2⟩ := b
    rw [Array.toList_inj.mp (Ds_one_value (by simpa [solid] using h) h1 h2)]
  | .tup _, _, _, h, a, b => by
    simp only [D] at a b
    obtain ⟨us, rfl, h1⟩ := a
    obtain ⟨us', rfl, h2⟩ := b
    rw [Array.toList_inj.mp (Ds_one_value (by simpa [solid] using h) h1 h2)]
  | .old _, _, _, _, a, b => by simp only [D] at a b; rw [a, b]
  | .row _ _ _ _, _, _, h, _, _ => by simp [solid] at h
  | .rs _ _ _ _ _, _, _, h, _, _ => by simp [solid] at h
  | .sl _ _ _, _, _, h, _, _ => by simp [solid] at h
  | .sp _ _ _, _, _, h, _, _ => by simp [solid] at h
  | .nw _ _ _, _, _, h, _, _ => by simp [solid] at h
  | .mp _, _, _, _, a, b => by
    simp only [D] at a b
    obtain ⟨r, h1, rfl⟩ := a
    obtain ⟨r', h2, rfl⟩ := b
    rw [h1] at h2; cases h2; rfl
  | .rp _ _ _ _, _, _, _, a, b => by
    simp only [D] at a b
    obtain ⟨r, h1, rfl⟩ := a
    obtain ⟨r', h2, rfl⟩ := b
    rw [h1] at h2; cases h2; rfl

theorem Ds_one_value {ρ : Env} : ∀ {vs : List V} {us us' : List Value}, solids vs = true → Ds ρ vs us → Ds ρ vs us' → us = us'
  | [], _, _, _, a, b => by rw [Ds_nil] at a b; rw [a, b]
  | v :: vs, _, _, h, a, b => by
    rw [Ds_cons] at a b
    simp only [solids, Bool.and_eq_true] at h
    obtain ⟨u, us, rfl, h1, h2⟩ := a
    obtain ⟨u', us', rfl, h3, h4⟩ := b
    rw [D_one_value h.1 h1 h3, Ds_one_value h.2 h2 h4]
end

/-- the values of a plain shape -/
def RT.vals : (a : RT) → a.den → List Value
  | .int k, n => [.int k n]
  | .bool, b => [.bool b]
  | .str, s => [.string s]
  | .sl _, _ => []
  | .nw _ _, _ => []
  | .unit, _ => [.tuple #[]]
  | .none, _ => []
  | .one a, x => a.vals x
  | .cons a r, x => a.vals x.1 ++ r.vals x.2
  | .agg l, x => [.agg (l.vals x).toArray]
  | .tup l, x => [.tuple (l.vals x).toArray]

theorem vals_Ds {ρ : Env} {B : RT} : ∀ {y : B.den}, B.plain = true → Ds ρ (B.shape y) (B.vals y) := by
  induction B with
  | int k => intro y _; simp [RT.shape, RT.vals, Ds, D]
  | bool => intro y _; simp [RT.shape, RT.vals, Ds, D]
  | str => intro y _; simp [RT.shape, RT.vals, Ds, D]
  | sl t => intro y h; simp [RT.plain] at h
  | nw t T => intro y h; simp [RT.plain] at h
  | unit => intro y _; simp [RT.shape, RT.vals, Ds, D]
  | none => intro y _; exact Ds_nil.mpr rfl
  | one a ih => intro y h; exact ih (by simpa [RT.plain] using h)
  | cons a q iha ihq =>
    intro y h
    simp only [RT.plain, Bool.and_eq_true] at h
    simp only [RT.shape, RT.vals]
    exact Ds_append (iha h.1) (ihq h.2)
  | agg l ih =>
    intro y h
    simp only [RT.shape, RT.vals, Ds_cons, D]
    exact ⟨_, [], rfl, ⟨_, rfl, by rw [List.toList_toArray]; exact ih (by simpa [RT.plain] using h)⟩, Ds_nil.mpr rfl⟩
  | tup l ih =>
    intro y h
    simp only [RT.shape, RT.vals, Ds_cons, D]
    exact ⟨_, [], rfl, ⟨_, rfl, by rw [List.toList_toArray]; exact ih (by simpa [RT.plain] using h)⟩, Ds_nil.mpr rfl⟩

theorem vals_Outs {M : Nat → Option Obj} {N : Nat} {w : World} {B : RT} : ∀ {y : B.den} {us : List Value} {rs rs' : List Nat}, B.plain = true → Outs M N w (B.shape y) us rs rs' → us = B.vals y := by
  induction B with
  | int k => intro y us rs rs' _ h; simp only [RT.shape, Outs_cons, Outs_nil, Out, D] at h; obtain ⟨u, us', rs1, rfl, ⟨rfl, _⟩, rfl, _⟩ := h; rfl
  | bool => intro y us rs rs' _ h; simp only [RT.shape, Outs_cons, Outs_nil, Out, D] at h; obtain ⟨u, us', rs1, rfl, ⟨rfl, _⟩, rfl, _⟩ := h; rfl
  | str => intro y us rs rs' _ h; simp only [RT.shape, Outs_cons, Outs_nil, Out, D] at h; obtain ⟨u, us', rs1, rfl, ⟨rfl, _⟩, rfl, _⟩ := h; rfl
  | sl t => intro y us rs rs' h; simp [RT.plain] at h
  | nw t T => intro y us rs rs' h; simp [RT.plain] at h
  | unit =>
    intro y us rs rs' _ h
    simp only [RT.shape, Outs_cons, Outs_nil, Out] at h
    obtain ⟨u, us', rs1, rfl, ⟨ua, rfl, h1, _⟩, rfl, _⟩ := h
    rw [RT.vals, Array.toList_inj.mp (show ua.toList = (#[] : Array Value).toList by simpa using h1)]
  | none => intro y us rs rs' _ h; exact (Outs_nil.mp h).1
  | one a ih => intro y us rs rs' h k; exact ih (by simpa [RT.plain] using h) k
  | cons a q iha ihq =>
    intro y us rs rs' h k
    simp only [RT.plain, Bool.and_eq_true] at h
    rw [RT.shape, Outs_append] at k
    obtain ⟨u, v, rs1, rfl, k1, k2⟩ := k
    rw [iha h.1 k1, ihq h.2 k2]; rfl
  | agg l ih =>
    intro y us rs rs' h k
    simp only [RT.shape, Outs_cons, Outs_nil, Out] at k
    obtain ⟨u, us', rs1, rfl, ⟨ua, rfl, k1⟩, rfl, _⟩ := k
    rw [RT.vals, ← ih (by simpa [RT.plain] using h) k1]
  | tup l ih =>
    intro y us rs rs' h k
    simp only [RT.shape, Outs_cons, Outs_nil, Out] at k
    obtain ⟨u, us', rs1, rfl, ⟨ua, rfl, k1⟩, rfl, _⟩ := k
    rw [RT.vals, ← ih (by simpa [RT.plain] using h) k1]

section
variable {P : Program} {c : Cx} (hT : TyOk P c) (hE : EqOk P c) (hF : FnsOk P c)
include hT hE hF

theorem qcall_sound {s : S} {o : Oper} {f : Operand} {args : Array Operand} (hc : callOf o = some (f, args)) {K : V → Prop} {ρ : Env} {hp : List Blk} {a : Act} {w0 : World} {C : World → Prop} (h : qcall c hp (s.get f) (args.toList.map s.get) K) (hC : ∀ w, C w → Rel c.gs ρ hp w)
    (hB : ∀ w w', C w → Below w.heap.size w w' → C w') (T : TR ρ s.ts a.tmps) (hw0 : C w0) (hS : ∀ w, C w → Same w0 w) : ∃ v u, K v ∧ D ρ v u ∧ ∀ w, C w → o.quietAt P a C w u := by
  obtain ⟨cl, ho, hcf, hca⟩ := callOf_spec hc
  have hf := get_sound (s := s) (a := a) T f
  unfold qcall at h
  split at h
  rotate_left
  · exact h.elim
  rename_i g fa fb hg
  rw [hg] at hf
  simp only [D] at hf
  obtain ⟨as, bs, hu, h1, h2⟩ := hf
  have hall : Ds ρ (fa ++ args.toList.map s.get ++ fb) (as.toList ++ args.toList.map a.eval ++ bs.toList) := Ds_append (Ds_append h1 (gets_sound T _)) h2
  -- a call of what is known of it
  have go : ∀ {A B : RT} {R : A.den → B.den → Prop} {x : A.den} {y : B.den}, FxOk P c.gs g A B R → A.ext hp (fa ++ args.toList.map s.get ++ fb) = some (x, [], true) → B.plain = true → R x y → K (single (B.shape y)) → ∃ v u, K v ∧ D ρ v u ∧ ∀ w, C w → o.quietAt P a C w u := by
    intro A B R x y hfx hx hpl hR hK
    obtain ⟨hen, hsh, hfx⟩ := hfx
    obtain ⟨v, hv⟩ := hsh y
    have hvals : ∃ u, B.vals y = [u] := by
      have := congrArg List.length hv
      have hl := Ds_len (vals_Ds (ρ := ρ) hpl (y := y))
      rw [hv] at hl
      match hm : B.vals y, hl with
      | [u], _ => exact ⟨u, rfl⟩
    obtain ⟨u, hu0⟩ := hvals
    refine ⟨_, u, hK, ?_, fun w hw => ?_⟩
    · have := vals_Ds (ρ := ρ) hpl (y := y)
      rw [hv, hu0, Ds_cons] at this
      obtain ⟨u1, us1, e, d, _⟩ := this
      cases e
      rw [hv]; exact d
    have hrun : (execOp a.eval o).run P w = .ok (.enter g (as.toList ++ args.toList.map a.eval ++ bs.toList).toArray) w := by
      have harr : (as.toList ++ args.toList.map a.eval ++ bs.toList).toArray = as ++ args.map a.eval ++ bs := by
        rw [← Array.toList_map, ← Array.toList_append, ← Array.toList_append, Array.toArray_toList]
      rw [harr]
      simp only [execOp, ho, resolve, hcf, hu, Deferred.ofValue, hca]
      simp only [Sem.run_bind, Sem.run_pure, Result.andThen_ok, invoke]
      exact hen _ w
    unfold Oper.quietAt
    rw [hrun]
    refine ⟨rfl, ?_⟩
    obtain ⟨p, q, e, d1, d2⟩ := ext_sound (hC w hw) hall hx
    rw [Ds_nil] at d2
    subst d2
    rw [List.append_nil] at e
    rw [e]
    refine (hfx x y hR (allM w) p w d1 (fun r o h => h) (hC w hw).toGl).mono ?_
    rintro e w' ⟨u', M', rs, rfl, k1, k2, _⟩
    refine ⟨?_, hB w w' hw k2⟩
    have := vals_Outs hpl (y := y) (us := [u']) (by rw [hv] at k1 ⊢; exact Outs_single.mpr k1)
    rw [hu0] at this
    cases this
    rfl
  split at h
  · rename_i A B R hfn
    split at h
    · rename_i x d hx
      obtain ⟨hd, y, hR, hK⟩ := req_of h
      simp only [Bool.and_eq_true] at hd
      obtain ⟨rfl, hpl⟩ := hd
      exact go (hF _ _ hfn) hx hpl hR hK
    · exact h.elim
  · rename_i A B g' pre hfn
    split at h
    · rename_i x d hx
      obtain ⟨hd, hK⟩ := req_of h
      simp only [Bool.and_eq_true] at hd
      obtain ⟨⟨rfl, hpl⟩, hpre⟩ := hd
      exact go (hF _ _ hfn) hx hpl ⟨hpre, rfl⟩ hK
    · exact h.elim
  · exact h.elim

theorem ahead_sound {ops : Array Oper} {K : S → Prop} {ρ : Env} {hp : List Blk} {w0 : World} {C : World → Prop} (hC : ∀ w, C w → Rel c.gs ρ hp w) (hB : ∀ w w', C w → Below w.heap.size w w' → C w') (hw0 : C w0) (hS : ∀ w, C w → Same w0 w) {QQ : Act → Prop} :
    ∀ (l : List Oper) (s : S) (a : Act), ahead c ops K l s → TR ρ s.ts a.tmps → s.hp = hp → okOps a.tmps.size l = true →
      (∀ s' a', K s' → TR ρ s'.ts a'.tmps → s'.hp = hp → s'.marks = s.marks → a'.defers = a.defers → a'.tmps.size = a.tmps.size → QQ a') → wpQuiet P ops C QQ l a
  | [], s, a, h, T, he, _, hQ => hQ s a h T he rfl rfl rfl
  | o :: l, s, a, h, T, he, hok, hQ => by
    have hok' : (∀ x, o.dst = some x → x < a.tmps.size) ∧ okOps a.tmps.size l = true := by
      unfold okOps at hok ⊢
      rw [List.all_cons, Bool.and_eq_true] at hok
      refine ⟨fun x hx => ?_, hok.2⟩
      have := hok.1
      rw [hx] at this
      simpa [Nat.blt_eq] using this
    obtain ⟨hd, hokl⟩ := hok'
    simp only [ahead] at h
    obtain ⟨go, s1, h1, hw, T1, hp1, hm1⟩ := guard_sound h T
    have rest : ∀ {v : V} {u : Value}, ahead c ops K l (s1.put o.dst v) → D ρ v u → wpQuiet P ops C QQ l (a.put o.dst u) := fun {v u} h2 hu =>
      ahead_sound hC hB hw0 hS l _ _ h2 (T1.put hd hu) (hp1.trans he) (by rw [put_size]; exact hokl)
        (fun s' a' k1 k2 k3 k4 k5 k6 => hQ s' a' k1 k2 k3 (k4.trans hm1) (k5.trans (put_defers _ _ _)) (k6.trans (put_size _ _ _)))
    cases go with
    | false =>
      refine wpQuiet_step fun K' hK => ?_
      rw [if_neg (by rw [hw]; exact Bool.false_ne_true)]
      exact hK _ (rest h1 D_undef)
    | true =>
      change (match callOf o with
        | some (f, args) => qcall c s1.hp (s1.get f) (args.toList.map s1.get) fun v => ahead c ops K l (s1.put o.dst v)
        | none => match look c s1 o with
          | some (v, b) => reqc c.m b (ahead c ops K l (s1.put o.dst v))
          | none => False) at h1
      split at h1
      · rename_i f args hc
        rw [hp1, he] at h1
        obtain ⟨v, u, k1, k2, k3⟩ := qcall_sound hT hE hF hc h1 hC hB T1 hw0 hS
        refine wpQuiet_step fun K' hK => ?_
        rw [if_pos hw]
        exact ⟨u, k3, hK _ (rest k1 k2)⟩
      · split at h1
        · rename_i v b hv
          obtain ⟨rfl, h2⟩ := req_of h1
          obtain ⟨u, hu, hq⟩ := look_sound hT hE hv (by rw [hp1, he]; exact hC w0 hw0) T1
          refine wpQuiet_step fun K' hK => ?_
          rw [if_pos hw]
          refine ⟨u, fun w hww => ?_, hK _ (rest h2 hu)⟩
          unfold Oper.quietAt
          rw [hq w (fun _ => hS w hww)]
          exact ⟨rfl, rfl⟩
        · exact h1.elim

omit hF in

theorem aopsL_sound {cv : CV} (hcv : CvOk P c.gs cv) {ops : Array Oper} : ∀ (l : List Oper) (s : S) (a : Act) (w : World) (ρ : Env) (K : S → Prop) (Q : Exit → Act → World → Prop),
    okOps a.tmps.size l = true → aops c (cvF cv) ops K l s → Rel c.gs ρ s.hp w → TR ρ s.ts a.tmps →
    (∀ s' ρ' a' w', K s' → Rel c.gs ρ' s'.hp w' → TR ρ' s'.ts a'.tmps → s'.marks = s.marks → a'.defers = a.defers → a'.tmps.size = a.tmps.size → Gr ρ w ρ' w' → Q .normal a' w') →
    wpList P ops Q l a w
  | [], s, a, w, ρ, K, Q, _, h, R, T, hQ => hQ s ρ a w h R T rfl rfl rfl (Gr.refl _ _)
  | o :: l, s, a, w, ρ, K, Q, hok, h, R, T, hQ => by
    have hok' : (∀ x, o.dst = some x → x < a.tmps.size) ∧ okOps a.tmps.size l = true := by
      unfold okOps at hok ⊢
      rw [List.all_cons, Bool.and_eq_true] at hok
      refine ⟨fun x hx => ?_, hok.2⟩
      have := hok.1
      rw [hx] at this
      simpa [Nat.blt_eq] using this
    obtain ⟨hd, hokl⟩ := hok'
    simp only [aops] at h
    obtain ⟨go, s1, h1, hw, T1, hp1, hm1⟩ := guard_sound h T
    simp only [wpList, hw]
    have R1 : Rel c.gs ρ s1.hp w := hp1 ▸ R
    have rest : ∀ (s2 : S) (u : Value) (w2 : World) (ρ2 : Env), aops c (cvF cv) ops K l s2 → Rel c.gs ρ2 s2.hp w2 → TR ρ2 s2.ts (a.put o.dst u).tmps → s2.marks = s.marks → Gr ρ w ρ2 w2 →
        wpList P ops Q l (a.put o.dst u) w2 := fun s2 u w2 ρ2 k R2 T2 m2 G2 =>
      aopsL_sound hcv l s2 (a.put o.dst u) w2 ρ2 K Q (by rw [put_size]; exact hokl) k R2 T2
        (fun s' ρ' a' w' k1 k2 k3 k4 k5 k6 k7 => hQ s' ρ' a' w' k1 k2 k3 (k4.trans m2) (k5.trans (put_defers _ _ _)) (k6.trans (put_size _ _ _)) (G2.trans k7))
    cases go with
    | false =>
      simp only [Bool.false_eq_true, if_false]
      exact rest _ undef w ρ h1 R1 (T1.put hd D_undef) hm1 (Gr.refl _ _)
    | true =>
      simp only [if_true]
      change astep c (cvF cv) o s1 _ at h1
      unfold astep at h1
      refine .inl ?_
      unfold Oper.wp
      split at h1
      · rename_i f args hc
        obtain ⟨cl, ho, hcf, hca⟩ := callOf_spec hc
        have hf := get_sound (s := s1) (a := a) T1 f
        have hargs : Ds ρ (args.toList.map s1.get) (args.toList.map a.eval) := gets_sound T1 _
        have harr : (args.toList.map a.eval).toArray = args.map a.eval := by rw [← Array.toList_map, Array.toArray_toList]
        unfold cvF at h1
        split at h1
        · rename_i hfn
          rcases hcv _ _ _ _ h1 ρ w (a.eval f) _ R1 hf hargs with ⟨g, as, bs, hu, hen, hcall⟩ | ⟨rr, RL, hu, _⟩
          · have hrun : (execOp a.eval o).run P w = .ok (.enter g (as ++ (args.toList.map a.eval).toArray ++ bs)) w := by
              rw [harr]
              simp only [execOp, ho, resolve, hcf, hu, Deferred.ofValue, hca]
              simp only [Sem.run_bind, Sem.run_pure, Result.andThen_ok, invoke]
              exact hen _ w
            rw [hrun]
            show Calls P g _ w _
            refine (callsIn_wide.1 hcall).mono ?_
            rintro e w' ⟨v, u, hp', ρ', rfl, k1, k2, k3, k4⟩
            exact rest _ u w' ρ' k1 k3 ((T1.mono k4.pre).put hd k2) hm1 k4
          · exfalso
            cases hsf : s1.get f <;> rw [hsf] at hfn hf <;> first | (cases hfn; done) | skip
            simp only [D] at hf
            obtain ⟨p, q, hu', _⟩ := hf
            rw [hu'] at hu
            cases hu
        · exact h1.elim
      · obtain ⟨s2, u, n, w2, ρ2, k1, k2, k3, k4, k5, k6, k7⟩ := act_sound hT hE h1 R1 T1 hd
        rw [k1]
        rcases k2 with rfl | ⟨rfl, rfl⟩
        · exact rest s2 u w2 ρ2 k3 k4 k5 (k6.trans hm1) k7
        · exact rest s2 undef w2 ρ2 k3 k4 k5 (k6.trans hm1) k7

omit hT hE hF in

theorem okOps_part {n k : Nat} {l : List Oper} (h : okOps n l = true) : okOps n (l.take k) = true ∧ okOps n (l.drop k) = true := by
  unfold okOps at *
  rw [List.all_eq_true] at h
  exact ⟨List.all_eq_true.mpr fun o ho => h o (List.mem_of_mem_take ho), List.all_eq_true.mpr fun o ho => h o (List.mem_of_mem_drop ho)⟩

theorem adraw_sound (hm : P.follows .mixedOrders = true) {cv : CV} (hcv : CvOk P c.gs cv) {id : Nat} {ops : Array Oper} {K : S → Prop} {s : S} (h : adraw c cv ops K s) {a : Act} {w : World} {ρ : Env} {Q : Exit → Act → World → Prop}
    (hok : okOps a.tmps.size ops.toList = true) (R : Rel c.gs ρ s.hp w) (T : TR ρ s.ts a.tmps)
    (hQ : ∀ s' ρ' a' w', K s' → Rel c.gs ρ' s'.hp w' → TR ρ' s'.ts a'.tmps → s'.marks = s.marks → a'.defers = a.defers → a'.tmps.size = a.tmps.size → Gr ρ w ρ' w' → Q .normal a' w') :
    (Code.region id ops true).wp P Q a w := by
  have hC : ∀ w', (Rel c.gs ρ s.hp w' ∧ Gr ρ w ρ w' ∧ Same w w') → Rel c.gs ρ s.hp w' := fun _ h => h.1
  have hB : ∀ w1 w2, (Rel c.gs ρ s.hp w1 ∧ Gr ρ w ρ w1 ∧ Same w w1) → Below w1.heap.size w1 w2 → (Rel c.gs ρ s.hp w2 ∧ Gr ρ w ρ w2 ∧ Same w w2) := fun w1 w2 ⟨h1, h2, h3⟩ B => by
    obtain ⟨R', G'⟩ := h1.below B
    exact ⟨R', h2.trans G', fun r hr => by rw [B.block r (Nat.lt_of_lt_of_le hr h2.size)]; exact h3 r hr⟩
  have h0 : Rel c.gs ρ s.hp { w with drawn := w.drawn + 1 } ∧ Gr ρ w ρ { w with drawn := w.drawn + 1 } ∧ Same w { w with drawn := w.drawn + 1 } := ⟨R.drew _, Gr.drew _, fun _ _ => rfl⟩
  have hS : ∀ w', (Rel c.gs ρ s.hp w' ∧ Gr ρ w ρ w' ∧ Same w w') → Same { w with drawn := w.drawn + 1 } w' := fun w' h => h.2.2
  unfold adraw at h
  split at h
  · obtain ⟨hb, h⟩ := req_of h
    refine wp_region_quiet (C := fun w' => Rel c.gs ρ s.hp w' ∧ Gr ρ w ρ w' ∧ Same w w') hm hb h0 ?_
    exact ahead_sound hT hE hF hC hB h0 hS ops.toList s a h T rfl hok (fun s' a' k1 k2 k3 k4 k5 k6 w' hw' => hQ s' ρ a' w' k1 (by rw [k3]; exact hw'.1) k2 k4 k5 k6 hw'.2.1)
  · obtain ⟨hb, h⟩ := req_of h
    obtain ⟨ok1, ok2⟩ := okOps_part (k := headN c ops.toList) hok
    generalize headN c ops.toList = n at *
    have e : ops = ops.toList.toArray := by simp
    rw [e]
    rw [e] at hb h
    refine wp_region_quiet_tail (C := fun w' => Rel c.gs ρ s.hp w' ∧ Gr ρ w ρ w' ∧ Same w w') n hm hb h0 ?_
    refine ahead_sound hT hE hF hC hB h0 hS _ s a (by simpa using h) T rfl ok1 (fun s' a' k1 k2 k3 k4 k5 k6 w' hw' => ?_)
    exact aopsL_sound hT hE hcv _ s' a' w' ρ K Q (by rw [k6]; exact ok2) (by simpa using k1) (by rw [k3]; exact hw'.1) k2
      (fun s2 ρ2 a2 w2 j1 j2 j3 j4 j5 j6 j7 => hQ s2 ρ2 a2 w2 j1 j2 j3 (j4.trans k4) (j5.trans k5) (j6.trans k6) (hw'.2.1.trans j7))
omit hT hE hF

theorem fx_call2 (hF : FnsOk P c) {f : FuncId} {A B : RT} {R : A.den → B.den → Prop} (hfx : FxOk P c.gs f A B R) {args : List V} {hp : List Blk} {K : V → List Blk → Prop} {ρ : Env} {w : World} {us : List Value} (Rl : Rel c.gs ρ hp w) (hds : Ds ρ args us)
    (h : (B.flat = true ∧ ∃ x y, A.ext hp args = some (x, [], true) ∧ R x y ∧ inst (single (B.shape y)) hp K) ∨ ∃ vs hp' x y, ices hp args = some (vs, hp', true) ∧ A.ext [] vs = some (x, [], true) ∧ R x y ∧ inst (single (B.shape y)) hp' K) :
    EntersF P f ∧ CallsIn Fence.wide 0 P f us.toArray w (CS c.gs K ρ w) := by
  obtain ⟨hen, hsh, hfx⟩ := hfx
  refine ⟨hen, ?_⟩
  rcases h with ⟨hf, x, y, hx, hR, hK⟩ | ⟨vs, hp', x, y, hi, hx, hR, hK⟩
  · obtain ⟨p, q, e, d1, d2⟩ := ext_sound Rl hds hx
    rw [Ds_nil] at d2
    subst d2
    rw [List.append_nil] at e
    subst e
    exact fx_sound2 Rl (hfx x y hR (allM w) us w d1 (fun r o h => h) Rl.toGl) hK (hsh y) (.inl ⟨hf, fun r hr => Rl.noM hr⟩)
  · obtain ⟨ρ1, R1, G1, _, _, d1⟩ := ices_sound Rl hds hi
    obtain ⟨p, q, e, d2, d3⟩ := ext_closed d1 hx
    rw [Ds_nil] at d3
    subst d3
    rw [List.append_nil] at e
    subst e
    have := fx_sound2 R1 (hfx x y hR ρ1.M us w d2 (fun r o h => (R1.im r o h).1) R1.toGl) hK (hsh y) (.inr rfl)
    refine callsIn_wide.2 ((callsIn_wide.1 this).mono ?_)
    rintro e w' ⟨⟨v, u, hp2, ρ2, rfl, k1, k2, k3, k4⟩, k5⟩
    exact ⟨⟨v, u, hp2, ρ2, rfl, k1, k2, k3, G1.trans k4⟩, k5⟩

theorem fx_call (hF : FnsOk P c) {f : FuncId} {A B : RT} {R : A.den → B.den → Prop} (hfx : FxOk P c.gs f A B R) {args : List V} {hp : List Blk} {K : V → List Blk → Prop} {ρ : Env} {w : World} {us : List Value} (Rl : Rel c.gs ρ hp w) (hds : Ds ρ args us)
    (h : (B.flat = true ∧ ∃ x y, A.ext hp args = some (x, [], true) ∧ R x y ∧ inst (single (B.shape y)) hp K) ∨ ∃ vs hp' x y, ices hp args = some (vs, hp', true) ∧ A.ext [] vs = some (x, [], true) ∧ R x y ∧ inst (single (B.shape y)) hp' K) :
    EntersF P f ∧ CallsIn Fence.wide 0 P f us.toArray w (CP c.gs K ρ w) :=
  ⟨(fx_call2 hF hfx Rl hds h).1, callsIn_wide.2 ((callsIn_wide.1 (fx_call2 hF hfx Rl hds h).2).mono fun e w' h => h.1)⟩

theorem ecall_sound (hF : FnsOk P c) {v : V} {args : List V} {hp : List Blk} {K : V → List Blk → Prop} (h : ecall c v args hp K) {ρ : Env} {w : World} {u : Value} {us : List Value} (Rl : Rel c.gs ρ hp w) (hd : D ρ v u) (hds : Ds ρ args us) :
    ∃ f as bs, u = .func (.func f) as bs ∧ EntersF P f ∧ CallsIn Fence.wide 0 P f (as ++ us.toArray ++ bs) w (CS c.gs K ρ w) := by
  unfold ecall at h
  split at h
  rotate_left
  · exact h.elim
  rename_i f a b
  simp only [D] at hd
  obtain ⟨as, bs, rfl, h1, h2⟩ := hd
  refine ⟨f, as, bs, rfl, ?_⟩
  have hall : Ds ρ (a ++ args ++ b) (as.toList ++ us ++ bs.toList) := Ds_append (Ds_append h1 hds) h2
  have harr : as ++ us.toArray ++ bs = (as.toList ++ us ++ bs.toList).toArray := by simp
  rw [harr]
  generalize as.toList ++ us ++ bs.toList = us' at *
  generalize a ++ args ++ b = args' at *
  split at h
  · rename_i A B RR hg
    refine fx_call2 hF (hF _ _ hg) Rl hall ?_
    split at h
    · rename_i hf
      split at h
      · rename_i x d hx
        obtain ⟨rfl, y, h3, h4⟩ := req_of h
        exact .inl ⟨hf, x, y, hx, h3, h4⟩
      · exact h.elim
    · split at h
      · rename_i vs hp' d' hi
        split at h
        · rename_i x d hx
          obtain ⟨hq, y, h3, h4⟩ := req_of h
          rw [Bool.and_eq_true] at hq
          obtain ⟨rfl, rfl⟩ := hq
          exact .inr ⟨vs, hp', x, y, hi, hx, h3, h4⟩
        · exact h.elim
      · exact h.elim
  · rename_i A B g pre hg
    refine fx_call2 hF (hF _ _ hg) Rl hall ?_
    split at h
    · rename_i hf
      split at h
      · rename_i x d hx
        obtain ⟨hq, h4⟩ := req_of h
        rw [Bool.and_eq_true] at hq
        obtain ⟨rfl, hp⟩ := hq
        exact .inl ⟨hf, x, _, hx, ⟨hp, rfl⟩, h4⟩
      · exact h.elim
    · split at h
      · rename_i vs hp' d' hi
        split at h
        · rename_i x d hx
          obtain ⟨hq, h4⟩ := req_of h
          simp only [Bool.and_eq_true] at hq
          obtain ⟨⟨rfl, rfl⟩, hp⟩ := hq
          exact .inr ⟨vs, hp', x, _, hi, hx, ⟨hp, rfl⟩, h4⟩
        · exact h.elim
      · exact h.elim
  · exact h.elim

/-- as wpAny; what is still leaves old memory as it is -/
def wpAnyK (P : Program) (ops : Array Oper) (st : Nat → Bool) (Q : Exit → Act → World → Prop) : Nat → Array Bool → Act → World → Prop
  | 0, listed, a, w => Region.ready .any ops listed = [] ∧ Q .normal a w
  | f + 1, listed, a, w => (Region.ready .any ops listed = [] → Q .normal a w) ∧
      ∀ i ∈ Region.ready .any ops listed, wpOp P ops Q i (fun a' w' => (st i = true → Same w w' ∧ w.heap.size ≤ w'.heap.size) ∧ wpAnyK P ops st Q f (listed.setIfInBounds i true) a' w') a w

theorem wpAnyK_any {ops : Array Oper} {st : Nat → Bool} {Q : Exit → Act → World → Prop} : ∀ (f : Nat) (listed : Array Bool) (a : Act) (w : World), wpAnyK P ops st Q f listed a w → wpAny P .any ops Q f listed a w
  | 0, _, _, _, h => h
  | f + 1, _, _, _, h => ⟨h.1, fun i hi => wpOp_mono (fun a' w' h' => wpAnyK_any f _ a' w' h'.2) (h.2 i hi)⟩

/-- in each world of the class the operation comes to this value -/
def YC (P : Program) (ops : Array Oper) (C : World → Prop) (o : Oper) (v : Value) (a : Act) : Prop :=
  (Region.wanted o (yielded ops a.tmps) = true ∧ ∀ w, C w → (execOp a.eval o).run P w = .ok (.value v) w) ∨ (Region.wanted o (yielded ops a.tmps) = false ∧ v = undef)

theorem YC.wpOp {ops : Array Oper} {C : World → Prop} {i : Nat} {o : Oper} {v : Value} {a : Act} {Q : Exit → Act → World → Prop} (hi : ops[i]? = some o) (hy : YC P ops C o v a) {K : Act → World → Prop} {w : World} (hw : C w) (h : K (a.put o.dst v) w) : Go.wpOp P ops Q i K a w := by
  unfold Go.wpOp
  rcases hy with hy | ⟨h1, rfl⟩
  · simp only [hi, hy.1, if_true]
    refine .inl ?_
    unfold Oper.wp
    rw [hy.2 w hw]; exact h
  · simp only [hi, h1, Bool.false_eq_true, if_false]
    exact h

/-- it may wait for another one -/
theorem YC.wait {ops : Array Oper} {C : World → Prop} {j : Nat} {oi oj : Oper} {v : Value} {Q : Exit → Act → World → Prop} (hj : ops[j]? = some oj) (hap : oi.apart ops oj = true) (hsi : ∀ cs b, oi.op ≠ .select cs b) (hsj : ∀ cs b, oj.op ≠ .select cs b)
    (hQ : ∀ c a w, ¬ Q (.panic c) a w) (hL : ¬ LetsOut Q ∨ True) {K : Act → World → Prop} {a : Act} {w : World} (hy : YC P ops C oi v a) (h : Go.wpOp P ops Q j K (a.put oi.dst v) w) :
    Go.wpOp P ops Q j (fun a' w' => YC P ops C oi v a' ∧ K (a'.put oi.dst v) w') a w := by
  obtain ⟨h1, h2, h3⟩ := Oper.apart_spec hap
  have same : ∀ {a a' : Act}, YC P ops C oi v a → execOp a'.eval oi = execOp a.eval oi → Region.wanted oi (yielded ops a'.tmps) = Region.wanted oi (yielded ops a.tmps) → YC P ops C oi v a' := fun hy e1 e2 => by
    unfold YC; rw [e1, e2]; exact hy
  have kp : ∀ u, YC P ops C oi v (a.put oj.dst u) := fun u => same hy (execOp_put oi hsi a oj.dst u h3) (wanted_put oi a oj.dst u h3)
  have cm : ∀ u, (a.put oi.dst v).put oj.dst u = (a.put oj.dst u).put oi.dst v := fun u => Act.put_comm a v u h2
  unfold Go.wpOp at *
  simp only [hj, wanted_put oj a oi.dst v h1] at *
  by_cases hw : Region.wanted oj (yielded ops a.tmps) = true
  · rw [if_pos hw] at h ⊢
    rcases h with h | ⟨k1, k2⟩
    · refine .inl ?_
      unfold Oper.wp at *
      rw [execOp_put oj hsj a oi.dst v h1] at h
      cases hr : (execOp a.eval oj).run P w with
      | halt x w' =>
        rw [hr] at h
        cases x <;> simp only [Oper.upon] at h ⊢
        exact absurd h (hQ _ _ _)
      | ok n w' =>
        rw [hr] at h
        cases n <;> simp only [Oper.upon] at h ⊢
        case value u => exact ⟨kp u, cm u ▸ h⟩
        case skip => exact ⟨kp _, cm undef ▸ h⟩
        case defer d =>
          refine ⟨same (kp undef) (by cases oj.dst <;> rfl) (by cases oj.dst <;> rfl), ?_⟩
          have e := cm undef
          simp only [Act.put] at e h ⊢
          cases hd : oi.dst <;> cases hd' : oj.dst <;> simp only [hd, hd'] at e h ⊢ <;> first | exact h | (injection e with e1; rw [← e1]; exact h)
        case enter f args =>
          refine Calls.mono h fun e w'' he => ?_
          cases e with
          | returned u => exact ⟨kp u, cm u ▸ he⟩
          | panicked c => exact absurd he (hQ _ _ _)
          | outgrown => exact he
        case row row args => exact Rows.mono h fun u w'' he => ⟨kp u, cm u ▸ he⟩
    · exact .inr ⟨by unfold Oper.asks at *; rw [execOp_put oj hsj a oi.dst v h1] at k1; exact k1, k2⟩
  · rw [if_neg hw] at h ⊢
    exact ⟨kp undef, cm undef ▸ h⟩

def ClosedL (ops : Array Oper) (listed : Array Bool) : Prop := ∀ j oj, ops[j]? = some oj → listed.getD j false = true → ∀ e ∈ oj.after, Region.binds .any e = true → listed.getD e.on false = true

theorem ClosedL.set {ops : Array Oper} {listed : Array Bool} {i : Nat} (h : ClosedL ops listed) (hi : i ∈ Region.ready .any ops listed) : ClosedL ops (listed.setIfInBounds i true) := by
  obtain ⟨_, oi, hoi, hall⟩ := mem_ready.1 hi
  intro j oj hj hl e he hb
  by_cases hij : i = j
  · subst hij
    rw [hoi] at hj; cases hj
    exact getD_set_true (hall e he hb)
  · rw [getD_set_ne false hij] at hl
    exact getD_set_true (h j oj hj hl e he hb)

theorem closed_start (ops : Array Oper) : ClosedL ops (Array.replicate ops.size false) := fun j oj _ hl => by rw [getD_replicate_false] at hl; cases hl

theorem reach_waits {ops : Array Oper} {listed : Array Bool} {i : Nat} (hc : ClosedL ops listed) (hu : listed.getD i false = false) : ∀ (l : List Oper) (acc : List Bool), acc.length + l.length = ops.size → (∀ j, j < l.length → l[j]? = ops[acc.length + j]?) →
    (∀ j, acc.getD j false = true → listed.getD j false = false) → ∀ j, (reachL i l acc).getD j false = true → listed.getD j false = false
  | [], acc, _, _, h, j, hj => h j hj
  | o :: l, acc, hn, hl, h, j, hj => by
    have h0 : ops[acc.length]? = some o := by simpa using (hl 0 (by simp)).symm
    refine reach_waits hc hu l _ (by simp at hn ⊢; omega) (fun k hk => ?_) (fun k hk => ?_) j hj
    · have := hl (k + 1) (by simp; omega)
      simpa [Nat.add_assoc, Nat.add_comm 1 k] using this
    · rcases Nat.lt_trichotomy k acc.length with q | q | q
      · refine h k ?_
        rw [List.getD_eq_getElem?_getD, List.getElem?_append_left q] at hk
        rw [List.getD_eq_getElem?_getD]; exact hk
      · subst q
        simp only [List.getD_eq_getElem?_getD, List.getElem?_append_right (Nat.le_refl _), Nat.sub_self, List.getElem?_cons_zero, Option.getD_some, Bool.or_eq_true] at hk
        rcases hk with hk | hk
        · have := Nat.eq_of_beq_eq_true hk
          rw [this]; exact hu
        · obtain ⟨e, he, hb⟩ := List.any_eq_true.mp hk
          simp only [Bool.and_eq_true] at hb
          have hx := h e.on (by rw [List.getD_eq_getElem?_getD]; exact hb.2)
          cases hd : listed.getD acc.length false with
          | false => rfl
          | true => rw [hc _ o h0 hd e (by simpa using he) hb.1] at hx; cases hx
      · rw [List.getD_eq_getElem?_getD, List.getElem?_eq_none (by simp; omega)] at hk
        cases hk

/-- what is ready, while the i-th one waits, is still -/
theorem reach_ready {ops : Array Oper} {listed : Array Bool} {i : Nat} (hc : ClosedL ops listed) (hu : listed.getD i false = false) {j : Nat} (hji : j ≠ i) (hj : j ∈ Region.ready .any ops listed) : (reachL i ops.toList []).getD j false = false := by
  cases hr : (reachL i ops.toList []).getD j false with
  | false => rfl
  | true =>
    exfalso
    obtain ⟨_, oj, hoj, hall⟩ := mem_ready.1 hj
    -- j listed as well: it still would have to wait
    have hc' := hc.set hj
    have hu' : (listed.setIfInBounds j true).getD i false = false := by rw [getD_set_ne false hji]; exact hu
    have := reach_waits hc' hu' ops.toList [] (by simp) (fun k hk => by simp) (fun k hk => by simp at hk) j hr
    have hlt : j < listed.size := by
      obtain ⟨h0, _⟩ := mem_ready.1 hj
      rcases Nat.lt_or_ge j listed.size with h' | h'
      · exact h'
      · simp [Array.getElem?_eq_none h'] at h0
    simp [hlt] at this

theorem wpAnyK_first {ops : Array Oper} {st : Nat → Bool} {Q : Exit → Act → World → Prop} {C : World → Prop} {i : Nat} {oi : Oper} {v : Value} (hi : ops[i]? = some oi) (hsel : ∀ (j : Nat) (o : Oper) cs b, ops[j]? = some o → o.op ≠ .select cs b) (hQ : ∀ c a w, ¬ Q (.panic c) a w) :
    ∀ (f : Nat) (listed : Array Bool) (a : Act) (w : World), ClosedL ops listed →
      (∀ j oj, ops[j]? = some oj → j ≠ i → listed.getD j true = false → (∀ e ∈ oj.after, Region.binds .any e = true → e.on ≠ i) → oi.apart ops oj = true) →
      (∀ j, j ≠ i → listed.getD j true = false → (reachL i ops.toList []).getD j false = false → ∀ w w', C w → (st j = true → Same w w' ∧ w.heap.size ≤ w'.heap.size) → C w') →
      i ∈ Region.ready .any ops listed → C w → YC P ops C oi v a →
      wpAnyK P ops st Q f (listed.setIfInBounds i true) (a.put oi.dst v) w → wpAnyK P ops st Q (f + 1) listed a w := by
  intro f
  induction f with
  | zero =>
    intro listed a w _ _ _ hr hw hy H
    refine ⟨fun h => (by rw [h] at hr; cases hr), fun j hj => ?_⟩
    by_cases hji : j = i
    · subst hji; exact hy.wpOp hi hw ⟨fun _ => ⟨fun _ _ => rfl, Nat.le_refl _⟩, H⟩
    · have := ready_mono hj hji
      rw [H.1] at this
      cases this
  | succ f ih =>
    intro listed a w hc hfree hst hr hw hy H
    refine ⟨fun h => (by rw [h] at hr; cases hr), fun j hj => ?_⟩
    by_cases hji : j = i
    · subst hji; exact hy.wpOp hi hw ⟨fun _ => ⟨fun _ _ => rfl, Nat.le_refl _⟩, H⟩
    · have h1 := H.2 j (ready_mono hj hji)
      obtain ⟨hjun, oj, hoj, hall⟩ := mem_ready.1 hj
      have hiu : listed.getD i false = false := getD_both (mem_ready.1 hr).1
      have hnot : ∀ e ∈ oj.after, Region.binds .any e = true → e.on ≠ i := fun e he hb heq => by
        have h1 := hall e he hb
        rw [heq, hiu] at h1; cases h1
      have h2 := hy.wait hoj (hfree j oj hoj hji hjun hnot) (fun cs b => hsel i oi cs b hi) (fun cs b => hsel j oj cs b hoj) hQ (.inr trivial) h1
      have hrj := reach_ready hc hiu hji hj
      have un : ∀ k, (listed.setIfInBounds j true).getD k true = false → listed.getD k true = false := fun k hun => by
        by_cases hjk : j = k
        · subst hjk; exact hjun
        · rw [getD_set_ne true hjk] at hun; exact hun
      refine wpOp_mono (fun a' w' h3 => ⟨h3.2.1, ?_⟩) h2
      refine ih (listed.setIfInBounds j true) a' w' (hc.set hj) (fun k ok hk hki hun hno => hfree k ok hk hki (un k hun) hno) (fun k hki hun hkr => hst k hki (un k hun) hkr) (ready_mono hr (Ne.symm hji)) (hst j hji hjun hrj w w' hw h3.2.1) h3.1 ?_
      rw [Array.setIfInBounds_comm _ _ hji]
      exact h3.2.2

/-- a term of the model that writes nothing -/
def Mild {α : Type} : Sem α → Prop
  | .pure _ => True
  | .load _ _ k => ∀ v, Mild (k v)
  | .new _ k => ∀ r, Mild (k r)
  | .shape _ k => ∀ x, Mild (k x)
  | .frozen _ k => ∀ b, Mild (k b)
  | .getObj _ k => ∀ o, Mild (k o)
  | .program k => ∀ p, Mild (k p)
  | .mark _ k => Mild k
  | .halt _ => True
  | _ => False

theorem Same.refl (w : World) : Same w w := fun _ _ => rfl

theorem Same.trans' {w0 w1 w2 : World} (h : Same w0 w1) (k : Same w1 w2) (hs : w0.heap.size ≤ w1.heap.size) : Same w0 w2 := fun r hr => by rw [k r (Nat.lt_of_lt_of_le hr hs), h r hr]

theorem Mild.run {α : Type} : ∀ {m : Sem α}, Mild m → ∀ {w w' : World} {x : α}, m.run P w = .ok x w' → Same w w' ∧ w.heap.size ≤ w'.heap.size := by
  intro m
  induction m with
  | pure a => intro _ w w' x h; simp only [Sem.run] at h; cases h; exact ⟨fun _ _ => rfl, Nat.le_refl _⟩
  | load m a k ih =>
    intro hm w w' x h
    simp only [Sem.run] at h
    split at h
    · exact ih _ (hm _) h
    · split at h
      · exact ih _ (hm _) h
      · cases h
  | new o k ih =>
    intro hm w w' x h
    simp only [Sem.run] at h
    obtain ⟨h1, h2⟩ := ih _ (hm _) h
    have hsz : w.heap.size ≤ (w.heap.push o).size := by simp
    refine ⟨fun r hr => ?_, Nat.le_trans hsz h2⟩
    rw [h1 r (Nat.lt_of_lt_of_le hr hsz)]
    show (w.heap.push o)[r]? = _
    rw [Array.getElem?_push_lt hr, Array.getElem?_eq_getElem hr]
  | shape r k ih => intro hm w w' x h; simp only [Sem.run] at h; exact ih _ (hm _) h
  | frozen a k ih => intro hm w w' x h; simp only [Sem.run] at h; exact ih _ (hm _) h
  | getObj r k ih =>
    intro hm w w' x h
    simp only [Sem.run] at h
    split at h
    · cases h
    · exact ih _ (hm _) h
    · cases h
  | program k ih => intro hm w w' x h; simp only [Sem.run] at h; exact ih _ (hm _) h
  | mark m k ih => intro hm w w' x h; simp only [Sem.run] at h; exact ih hm h
  | halt h0 => intro _ w w' x h; simp only [Sem.run] at h; cases h
  | _ => intro hm; exact hm.elim

theorem Mild.bind {α β : Type} : ∀ {m : Sem α} {f : α → Sem β}, Mild m → (∀ a, Mild (f a)) → Mild (m >>= f) := by
  intro m f
  induction m with
  | pure a => intro _ hf; exact hf a
  | load m a k ih => intro hm hf v; exact ih v (hm v) hf
  | new o k ih => intro hm hf v; exact ih v (hm v) hf
  | shape r k ih => intro hm hf v; exact ih v (hm v) hf
  | frozen a k ih => intro hm hf v; exact ih v (hm v) hf
  | getObj r k ih => intro hm hf v; exact ih v (hm v) hf
  | program k ih => intro hm hf v; exact ih v (hm v) hf
  | mark m k ih => intro hm hf; exact ih hm hf
  | halt h0 => intro _ _; trivial
  | _ => intro hm; exact hm.elim
include hT hE

theorem mild_op {o : Oper} {ev : Operand → Value} (h : stillB c o = true) (hh : headable c o = false) (hcb : contrB c o = false) : Mild (execOp ev o) := by
  unfold stillB at h
  rw [hh, hcb] at h
  simp only at h
  have und : ∀ t, Mild (underlying t) := fun t => by
    unfold underlying
    intro p
    show Mild (match p.underlying t with | some d => pure d | none => stuck "no such type")
    cases p.underlying t <;> trivial
  have nr : ∀ t cs, Mild (newRow t cs) := fun t cs => by
    unfold newRow
    exact Mild.bind (fun _ => trivial) (fun _ => trivial)
  have ti : ∀ t, Mild (typeInfo t) := fun t => by
    unfold typeInfo
    intro p
    show Mild (match p.info? t with | some i => pure i | none => stuck "no such type")
    cases p.info? t <;> trivial
  have zv : ∀ t, Mild (zeroValue t) := fun t => by
    unfold zeroValue
    refine Mild.bind (ti t) fun x => ?_
    split <;> trivial
  have so : ∀ t, Mild (sizeOf t) := fun t => Mild.bind (ti t) fun x => trivial
  split at h
  · rename_i t x ho
    simp only [execOp, ho, Instr.box, newVar]
    exact Mild.bind (Mild.bind (nr _ _) fun _ => trivial) fun _ => trivial
  · rename_i t ho
    simp only [execOp, ho, Instr.alloc]
    exact Mild.bind (Mild.bind (zv _) fun z => Mild.bind (nr _ _) fun _ => trivial) fun _ => trivial
  · rename_i t n ps ho
    simp only [execOp, ho, Instr.buildSlice]
    refine Mild.bind (Mild.bind (und _) fun d => ?_) fun _ => trivial
    split
    · refine Mild.bind (so _) fun sz => ?_
      have tl : ∀ (el : TypeId) (z : Array Value), Mild (do
          let some cells := Instr.fill (fun i => some (i * sz, sz)) ((Array.range (n * sz)).map (z[· % z.size]!)) (ps.map fun p => (p.1, ev p.2)).toList
            | stuck "buildSlice: a part of the wrong size"
          pure (Value.slice (some (← newRow el cells)) n n)) := fun el z => by
        split
        · exact Mild.bind (nr _ _) fun _ => trivial
        · trivial
      split
      · trivial
      · split
        · exact tl _ _
        · exact Mild.bind (zv _) fun z => tl _ _
    · trivial
  · cases h
omit hE hT in

theorem takeOf2_spec {s : S} {ops : Array Oper} {listed : Array Bool} {i : Nat} {o : Oper} {v : V} {b : Bool} : ∀ {l : List Nat}, takeOf2 c s ops listed l = some (i, o, v, b) →
    i ∈ l ∧ ops[i]? = some o ∧ Region.free .any ops listed i = true ∧ ((goOf ops s o = some true ∧ (calmLook c s o = some (v, b) ∨ (lateB c ops listed i = true ∧ look c s o = some (v, b)))) ∨ (goOf ops s o = some false ∧ v = .tup [] ∧ b = true))
  | [], h => by cases h
  | j :: l, h => by
    have go : takeOf2 c s ops listed l = some (i, o, v, b) → i ∈ j :: l ∧ ops[i]? = some o ∧ Region.free .any ops listed i = true ∧ ((goOf ops s o = some true ∧ (calmLook c s o = some (v, b) ∨ (lateB c ops listed i = true ∧ look c s o = some (v, b)))) ∨ (goOf ops s o = some false ∧ v = .tup [] ∧ b = true)) := fun h => by
      obtain ⟨h1, h2⟩ := takeOf2_spec h
      exact ⟨List.mem_cons_of_mem _ h1, h2⟩
    unfold takeOf2 at h
    split at h
    · rename_i o' ho
      split at h
      · rename_i hb
        split at h
        · exact go h
        · rename_i hg
          cases h
          exact ⟨List.mem_cons_self, ho, hb, .inr ⟨hg, rfl, rfl⟩⟩
        · rename_i hg
          split at h
          · split at h
            · rename_i hl
              split at h
              · rename_i v' b' hv
                cases h
                exact ⟨List.mem_cons_self, ho, hb, .inl ⟨hg, .inr ⟨hl, hv⟩⟩⟩
              · exact go h
            · exact go h
          · split at h
            · rename_i v' b' hv
              cases h
              exact ⟨List.mem_cons_self, ho, hb, .inl ⟨hg, .inl hv⟩⟩
            · exact go h
      · exact go h
    · exact go h
omit hE hT in

theorem goOf_wanted {ops : Array Oper} {s : S} {o : Oper} {g : Bool} (h : goOf ops s o = some g) {ρ : Env} {a : Act} (T : TR ρ s.ts a.tmps) : Region.wanted o (yielded ops a.tmps) = g := by
  have h1 : guardOf ops s o fun go _ => go = g := by
    unfold goOf at h
    unfold guardOf
    cases hg : o.guard with
    | none => rw [hg] at h; cases h; rfl
    | some p =>
      obtain ⟨j, want⟩ := p
      rw [hg] at h
      simp only at h ⊢
      cases ht : (ops[j]?).bind (·.dst) with
      | none => rw [ht] at h; cases h
      | some t =>
        rw [ht] at h
        simp only at h ⊢
        cases hb : find t s.ts <;> rw [hb] at h <;> simp only at h ⊢ <;> first
          | (cases h; done)
          | (cases h; rfl)
          | (rename_i b; cases b <;> (cases h; rfl))
  obtain ⟨go, s', k1, k2, _⟩ := guard_sound h1 T
  rw [k2, k1]
omit hE hT in

theorem find_setT (n i : Nat) (v : V) : ∀ ts : List (Nat × V), find i (setT n v ts) = find i ts ∨ (i = n ∧ find i (setT n v ts) = v)
  | [] => .inl rfl
  | (m, u) :: l => by
    unfold setT
    cases hm : Nat.beq m n with
    | true =>
      have e := Nat.eq_of_beq_eq_true hm
      subst e
      simp only [find]
      cases hi : Nat.beq m i with
      | true => exact .inr ⟨(Nat.eq_of_beq_eq_true hi).symm, rfl⟩
      | false => exact .inl rfl
    | false =>
      simp only [find]
      cases hi : Nat.beq m i with
      | true => exact .inl rfl
      | false => exact find_setT n i v l
omit hE hT in

theorem splits_sound {ops : Array Oper} {K : S → Prop} {ρ : Env} {a : Act} : ∀ (l : List Nat) (s : S), splits ops K l s → TR ρ s.ts a.tmps → ∃ s', K s' ∧ TR ρ s'.ts a.tmps ∧ s'.hp = s.hp ∧ s'.marks = s.marks
  | [], s, h, T => ⟨s, h, T, rfl, rfl⟩
  | i :: l, s, h, T => by
    unfold splits at h
    split at h
    · exact splits_sound l s h T
    · split at h
      · exact splits_sound l s h T
      · rename_i t _
        split at h
        · rename_i b hb
          have hx := T t
          rw [hb] at hx
          have key : TR ρ (setT t (.bool b) s.ts) a.tmps := fun x => by
            rcases find_setT t x (.bool b) s.ts with e | ⟨e, e'⟩
            · rw [e]; exact T x
            · rw [e', e]; exact hx
          cases b
          · exact splits_sound l ⟨setT t (.bool false) s.ts, s.hp, s.marks⟩ h key
          · exact splits_sound l ⟨setT t (.bool true) s.ts, s.hp, s.marks⟩ h key
        · exact splits_sound l s h T
include hF

theorem aany2_sound {cv : CV} (hcv : CvOk P c.gs cv) {ops : Array Oper} {K : S → Prop} {Q : Exit → Act → World → Prop} (hP : ∀ ch a w, ¬ Q (.panic ch) a w) (sz : Nat) (hok : okOps sz ops.toList = true) : ∀ (f : Nat) (listed : Array Bool) (s : S) (a : Act) (w : World) (ρ : Env),
    aany2 c cv ops K f listed s → ClosedL ops listed → a.tmps.size = sz → Rel c.gs ρ s.hp w → TR ρ s.ts a.tmps →
    (∀ s' ρ' a' w', K s' → Rel c.gs ρ' s'.hp w' → TR ρ' s'.ts a'.tmps → s'.marks = s.marks → a'.defers = a.defers → a'.tmps.size = sz → Gr ρ w ρ' w' → Q .normal a' w') →
    wpAnyK P ops (stillAt c ops) Q f listed a w
  | 0, listed, s, a, w, ρ, h, hc, hs, R, T, hQ => by
    unfold aany2 at h
    split at h
    · rename_i hr
      exact ⟨hr, hQ s ρ a w h R T rfl rfl hs (Gr.refl _ _)⟩
    · exact h.elim
  | f + 1, listed, s, a, w, ρ, h, hc, hs, R, T, hQ => by
    unfold aany2 at h
    simp only [forceL_eq] at h
    split at h
    · rename_i hr
      refine ⟨fun _ => hQ s ρ a w h R T rfl rfl hs (Gr.refl _ _), fun i hi => ?_⟩
      rw [hr] at hi; cases hi
    · rename_i i0 l hr
      have bound : ∀ o : Oper, o ∈ ops.toList → ∀ x, o.dst = some x → x < a.tmps.size := fun o hm x hx => by
        have := List.all_eq_true.mp hok o hm
        rw [hx] at this
        rw [hs]
        simpa [Nat.blt_eq] using this
      have memo : ∀ {i : Nat} {o : Oper}, ops[i]? = some o → o ∈ ops.toList := fun {i o} ho => by
        rw [← Array.getElem?_toList] at ho
        exact List.mem_of_getElem? ho
      have h2 := splits_sound _ _ h T
      clear h T
      obtain ⟨s0, h, T, hp0, hm0⟩ := h2
      replace R : Rel c.gs ρ s0.hp w := hp0 ▸ R
      replace hQ : ∀ s' ρ' a' w', K s' → Rel c.gs ρ' s'.hp w' → TR ρ' s'.ts a'.tmps → s'.marks = s0.marks → a'.defers = a.defers → a'.tmps.size = sz → Gr ρ w ρ' w' → Q .normal a' w' := fun s' ρ' a' w' k1 k2 k3 k4 => hQ s' ρ' a' w' k1 k2 k3 (k4.trans hm0)
      clear hp0 hm0
      clear s
      revert h T R hQ
      generalize s0 = s
      intro h T R hQ
      split at h
      · rename_i i o v b ht
        obtain ⟨hbt, hnext⟩ := req_of h
        subst hbt
        unfold takeT2 at ht
        split at ht
        rotate_left
        · cases ht
        rename_i hb
        obtain ⟨h1, h2, h4, h5⟩ := takeOf2_spec ht
        have hd := bound o (memo h2)
        have hir : i ∈ Region.ready .any ops listed := by rw [hr]; exact h1
        have next : ∀ {u : Value}, D ρ v u → wpAnyK P ops (stillAt c ops) Q f (listed.setIfInBounds i true) (a.put o.dst u) w := fun {u} d1 =>
          aany2_sound hcv hP sz hok f _ (s.put o.dst v) (a.put o.dst u) w ρ hnext (hc.set hir) (by rw [← hs]; exact put_size _ _ _) R (T.put hd d1) (fun s2 ρ2 a2 w2 j1 j2 j3 j4 j5 j6 j7 => hQ s2 ρ2 a2 w2 j1 j2 j3 j4 (j5.trans (put_defers _ _ _)) j6 j7)
        rcases h5 with ⟨h3, h5 | ⟨h5, h6⟩⟩ | ⟨h3, rfl, _⟩
        rotate_right
        · exact wpAnyK_first (C := fun _ => True) h2 (Region.noSelect_spec hb) hP f listed a w hc (Region.free_spec h2 h4) (fun _ _ _ _ _ _ _ _ => trivial) hir trivial (.inr ⟨goOf_wanted h3 T, rfl⟩) (next D_undef)
        · obtain ⟨u, d1, d2, d3⟩ := calm_sound (P := P) hT hE h5 R T
          exact wpAnyK_first (C := fun _ => True) h2 (Region.noSelect_spec hb) hP f listed a w hc (Region.free_spec h2 h4) (fun _ _ _ _ _ _ _ _ => trivial) hir trivial (.inl ⟨goOf_wanted h3 T, fun w _ => d2 w⟩) (next d1)
        · obtain ⟨u, d1, d2⟩ := look_sound (P := P) hT hE h6 R T
          refine wpAnyK_first (C := fun w' => Same w w' ∧ w.heap.size ≤ w'.heap.size) h2 (Region.noSelect_spec hb) hP f listed a w hc (Region.free_spec h2 h4) (fun j hji hju hjr w1 w2 hw1 hst => ?_) hir ⟨fun _ _ => rfl, Nat.le_refl _⟩ (.inl ⟨goOf_wanted h3 T, fun w' hw' => d2 w' fun _ => hw'.1⟩) (next d1)
          have hsj : stillAt c ops j = true := by
            rcases Nat.lt_or_ge j ops.size with hlt | hge
            · have hj := List.all_eq_true.mp h5 j (List.mem_range.mpr hlt)
              rw [hju, hjr] at hj
              simpa using hj
            · unfold stillAt
              rw [Array.getElem?_eq_none hge]
          obtain ⟨e1, e2⟩ := hst hsj
          exact ⟨hw1.1.trans' e1 hw1.2, Nat.le_trans hw1.2 e2⟩
      · refine ⟨fun e => (by rw [hr] at e; cases e), fun i hi => ?_⟩
        rw [hr] at hi
        have h1 := allR_mem h i hi
        split at h1
        rotate_left
        · exact h1.elim
        rename_i o ho
        obtain ⟨go, s1, h1, hw, T1, hp1, hm1⟩ := guard_sound h1 T
        have hir : i ∈ Region.ready .any ops listed := by rw [hr]; exact hi
        have hd := bound o (memo ho)
        have R1 : Rel c.gs ρ s1.hp w := hp1 ▸ R
        have rest : ∀ (s2 : S) (u : Value) (w2 : World) (ρ2 : Env), aany2 c cv ops K f (listed.setIfInBounds i true) s2 → Rel c.gs ρ2 s2.hp w2 → TR ρ2 s2.ts (a.put o.dst u).tmps → s2.marks = s.marks → Gr ρ w ρ2 w2 →
            wpAnyK P ops (stillAt c ops) Q f (listed.setIfInBounds i true) (a.put o.dst u) w2 := fun s2 u w2 ρ2 k R2 T2 m2 G2 =>
          aany2_sound hcv hP sz hok f _ s2 (a.put o.dst u) w2 ρ2 k (hc.set hir) ((put_size _ _ _).trans hs) R2 T2
            (fun s' ρ' a' w' k1 k2 k3 k4 k5 k6 k7 => hQ s' ρ' a' w' k1 k2 k3 (k4.trans m2) (k5.trans (put_defers _ _ _)) k6 (G2.trans k7))
        cases go with
        | false =>
          simp only [wpOp, ho, hw, Bool.false_eq_true, if_false]
          exact ⟨fun _ => ⟨fun _ _ => rfl, Nat.le_refl _⟩, rest _ undef w ρ h1 R1 (T1.put hd D_undef) hm1 (Gr.refl _ _)⟩
        | true =>
          simp only at h1
          cases hh : headable c o with
          | false =>
            rw [hh] at h1
            simp only [wpOp, ho, hw, if_true]
            refine .inl ?_
            cases hcb : contrB c o with
            | true =>
              rw [hcb] at h1
              simp only at h1
              split at h1
              rotate_left
              · exact h1.elim
              rename_i f args hcl
              obtain ⟨cl, ho', hcf, hca⟩ := callOf_spec hcl
              have hf := get_sound (s := s1) (a := a) T1 f
              have hargs : Ds ρ (args.toList.map s1.get) (args.toList.map a.eval) := gets_sound T1 _
              have harr : (args.toList.map a.eval).toArray = args.map a.eval := by rw [← Array.toList_map, Array.toArray_toList]
              obtain ⟨g, as, bs, hu, hen, hcall⟩ := ecall_sound hF h1 R1 hf hargs
              have hrun : (execOp a.eval o).run P w = .ok (.enter g (as ++ (args.toList.map a.eval).toArray ++ bs)) w := by
                rw [harr]
                simp only [execOp, ho', resolve, hcf, hu, Deferred.ofValue, hca]
                simp only [Sem.run_bind, Sem.run_pure, Result.andThen_ok, invoke]
                exact hen _ w
              unfold Oper.wp
              rw [hrun]
              show Calls P g _ w _
              refine (callsIn_wide.1 hcall).mono ?_
              rintro e w' ⟨⟨v, u, hp', ρ', rfl, k1, k2, k3, k4⟩, k5⟩
              exact ⟨fun _ => k5, rest _ u w' ρ' k1 k3 ((T1.mono k4.pre).put hd k2) hm1 k4⟩
            | false =>
            rw [hcb] at h1
            change astep c (cvF cv) o s1 _ at h1
            unfold astep at h1
            split at h1
            · rename_i f args hcl
              obtain ⟨cl, ho', hcf, hca⟩ := callOf_spec hcl
              have hno : ¬ stillAt c ops i = true := fun hst => by
                unfold stillAt at hst
                rw [ho] at hst
                simp only [stillB, hh, ho', hcb] at hst
                cases hst
              have hf := get_sound (s := s1) (a := a) T1 f
              have hargs : Ds ρ (args.toList.map s1.get) (args.toList.map a.eval) := gets_sound T1 _
              have harr : (args.toList.map a.eval).toArray = args.map a.eval := by rw [← Array.toList_map, Array.toArray_toList]
              unfold cvF at h1
              split at h1
              · rename_i hfn
                rcases hcv _ _ _ _ h1 ρ w (a.eval f) _ R1 hf hargs with ⟨g, as, bs, hu, hen, hcall⟩ | ⟨rr, RL, hu, _⟩
                · have hrun : (execOp a.eval o).run P w = .ok (.enter g (as ++ (args.toList.map a.eval).toArray ++ bs)) w := by
                    rw [harr]
                    simp only [execOp, ho', resolve, hcf, hu, Deferred.ofValue, hca]
                    simp only [Sem.run_bind, Sem.run_pure, Result.andThen_ok, invoke]
                    exact hen _ w
                  unfold Oper.wp
                  rw [hrun]
                  show Calls P g _ w _
                  refine (callsIn_wide.1 hcall).mono ?_
                  rintro e w' ⟨v, u, hp', ρ', rfl, k1, k2, k3, k4⟩
                  exact ⟨fun hst => absurd hst hno, rest _ u w' ρ' k1 k3 ((T1.mono k4.pre).put hd k2) hm1 k4⟩
                · exfalso
                  cases hsf : s1.get f <;> rw [hsf] at hfn hf <;> first | (cases hfn; done) | skip
                  simp only [D] at hf
                  obtain ⟨p, q, hu', _⟩ := hf
                  rw [hu'] at hu
                  cases hu
              · exact h1.elim
            obtain ⟨s2, u, n, w2, ρ2, k1, k2, k3, k4, k5, k6, k7⟩ := act_sound hT hE h1 R1 T1 hd
            have hst : stillAt c ops i = true → Same w w2 ∧ w.heap.size ≤ w2.heap.size := fun hst => (mild_op hT hE (by unfold stillAt at hst; rw [ho] at hst; exact hst) hh hcb).run k1
            unfold Oper.wp
            rw [k1]
            rcases k2 with rfl | ⟨rfl, rfl⟩
            · exact ⟨hst, rest s2 u w2 ρ2 k3 k4 k5 (k6.trans hm1) k7⟩
            · exact ⟨hst, rest s2 undef w2 ρ2 k3 k4 k5 (k6.trans hm1) k7⟩
          | true =>
            rw [hh] at h1
            simp only at h1
            split at h1
            · rename_i f' args hcl
              have hC : ∀ w', (Rel c.gs ρ s1.hp w' ∧ Gr ρ w ρ w' ∧ Same w w' ∧ w.heap.size ≤ w'.heap.size) → Rel c.gs ρ s1.hp w' := fun _ h => h.1
              have hB : ∀ w1 w2, (Rel c.gs ρ s1.hp w1 ∧ Gr ρ w ρ w1 ∧ Same w w1 ∧ w.heap.size ≤ w1.heap.size) → Below w1.heap.size w1 w2 → (Rel c.gs ρ s1.hp w2 ∧ Gr ρ w ρ w2 ∧ Same w w2 ∧ w.heap.size ≤ w2.heap.size) := fun w1 w2 ⟨h1, h2, h3, h4⟩ B => by
                obtain ⟨R', G'⟩ := h1.below B
                exact ⟨R', h2.trans G', fun r hr => by rw [B.block r (Nat.lt_of_lt_of_le hr h2.size)]; exact h3 r hr, Nat.le_trans h4 G'.size⟩
              have h0 : Rel c.gs ρ s1.hp w ∧ Gr ρ w ρ w ∧ Same w w ∧ w.heap.size ≤ w.heap.size := ⟨R1, Gr.refl _ _, fun _ _ => rfl, Nat.le_refl _⟩
              obtain ⟨v, u, k1, k2, k3⟩ := qcall_sound hT hE hF hcl h1 hC hB T1 h0 (fun w' hw' => hw'.2.2.1)
              have q : qOp P ops (fun w' => Rel c.gs ρ s1.hp w' ∧ Gr ρ w ρ w' ∧ Same w w' ∧ w.heap.size ≤ w'.heap.size) i (fun a' => a' = a.put o.dst u) a := YieldsIn.qOp ho (.inl ⟨hw, k3⟩) rfl
              refine wpOp_of_qOp h0 (fun a' w' hw' e => ?_) q
              subst e
              exact ⟨fun _ => hw'.2.2, rest _ u w' ρ k1 hw'.1 (T1.put hd k2) hm1 hw'.2.1⟩
            · split at h1
              · rename_i v b hv
                obtain ⟨rfl, h2⟩ := req_of h1
                obtain ⟨u, d1, d2⟩ := look_sound (P := P) hT hE hv R1 T1
                simp only [wpOp, ho, hw, if_true]
                refine .inl ?_
                unfold Oper.wp
                rw [d2 w fun _ => fun _ _ => rfl]
                exact ⟨fun _ => ⟨fun _ _ => rfl, Nat.le_refl _⟩, rest _ u w ρ h2 R1 (T1.put hd d1) hm1 (Gr.refl _ _)⟩
              · exact h1.elim

theorem aany2_region (hm : P.follows .mixedOrders = true) {cv : CV} (hcv : CvOk P c.gs cv) {id : Nat} {ops : Array Oper} {K : S → Prop} {s : S} (h : aany2 c cv ops K ops.size (Array.replicate ops.size false) s) {a : Act} {w : World} {ρ : Env} {Q : Exit → Act → World → Prop}
    (hok : okOps a.tmps.size ops.toList = true) (R : Rel c.gs ρ s.hp w) (T : TR ρ s.ts a.tmps)
    (hP : ∀ ch a w, ¬ Q (.panic ch) a w)
    (hQ : ∀ s' ρ' a' w', K s' → Rel c.gs ρ' s'.hp w' → TR ρ' s'.ts a'.tmps → s'.marks = s.marks → a'.defers = a.defers → a'.tmps.size = a.tmps.size → Gr ρ w ρ' w' → Q .normal a' w') :
    (Code.region id ops true).wp P Q a w :=
  wp_region_any hm (wpAnyK_any _ _ _ _ (aany2_sound hT hE hF hcv hP a.tmps.size hok _ _ s a _ ρ h (closed_start ops) rfl (R.drew _) T fun s' ρ' a' w' k1 k2 k3 k4 k5 k6 k7 => hQ s' ρ' a' w' k1 k2 k3 k4 k5 k6 ((Gr.drew _).trans k7)))
end
end Go.B
