/- Small words of our own for walks: a world that only grew, and regions that draw their order whose callees only make memory. -/
import Derived.Test.YtbammhmbapeboaaGreatDoorProg
import Derived.WalkKit
import Derived.RowKit3
import Derived.Below
import Derived.BigQuiet
import Derived.Deep.QuietTactic
import Derived.WalkSpells
import Derived.WalkLawsBesides
import Derived.StillTail
namespace Go.Proofs.YtbammhmbapeboaaGreatDoor
open Go Go.RowKit

/-- what was there is as it was; more may be there -/
def Ext (w w' : World) : Prop :=
  Below w.heap.size w w' ∧ (∀ a : Addr, a.block < w.heap.size → w'.cell? a = w.cell? a) ∧ (∀ a : Addr, a.block < w.heap.size → w'.frozen? a = w.frozen? a)

theorem Ext.mk {w w' : World} (h : Below w.heap.size w w') : Ext w w' := ⟨h, fun _ ha => h.cell ha, fun _ ha => h.frozen ha⟩

theorem Ext.below {w w' : World} (h : Ext w w') : Below w.heap.size w w' := h.1

theorem Ext.size {w w' : World} (h : Ext w w') : w.heap.size ≤ w'.heap.size := h.1.size

theorem Ext.sizes {w w' : World} (h : Ext w w') : ∀ b, b < w.heap.size → b < w'.heap.size := fun _ hb => Nat.lt_of_lt_of_le hb h.1.size

theorem Ext.cell {w w' : World} (h : Ext w w') {a : Addr} (ha : a.block < w.heap.size) : w'.cell? a = w.cell? a := h.2.1 a ha

theorem Ext.frozen {w w' : World} (h : Ext w w') {a : Addr} (ha : a.block < w.heap.size) : w'.frozen? a = w.frozen? a := h.2.2 a ha

theorem Ext.refl (w : World) : Ext w w := .mk (Below.refl _ _)

theorem Ext.trans {a b c : World} (h : Ext a b) (k : Ext b c) : Ext a c := .mk (h.1.trans (k.1.mono h.size))

theorem Ext.alloc {a w : World} (h : Ext a w) (o : Obj) : Ext a (w.alloc o) := .mk (h.1.alloc h.size o)

theorem Ext.new (w : World) (o : Obj) : Ext w (w.alloc o) := (Ext.refl w).alloc o

theorem Ext.drew {a w : World} (h : Ext a w) : Ext a w.drew := .mk h.1.drew

theorem Ext.drewN {a w : World} (h : Ext a w) (n : Nat) : Ext a (w.drewN n) := .mk ⟨h.1.os, h.1.tape, h.1.output, h.1.size, h.1.block⟩

theorem Ext.setCell {a w : World} (h : Ext a w) {p : Addr} (hp : a.heap.size ≤ p.block) (u : Value) : Ext a (w.setCell p u) := .mk (h.1.setCell hp u)

/-- a callee that began later, in a world that had grown -/
theorem Ext.then {a b c : World} (h : Ext a b) (k : Ext b c) : Ext a c := h.trans k

theorem ret_int {k : IntKind} {a b : Int} (h : a = b) : Ending.returned (.int k a) = .returned (.int k b) := by rw [h]

theorem ret_bool {a b : Bool} (h : a = b) : Ending.returned (.bool a) = .returned (.bool b) := by rw [h]

/-- the worlds that w may grow into -/
structure EW (w : World) where
  val : World
  ext : Ext w val

instance EW.nonempty (w : World) : Nonempty (EW w) := ⟨⟨w, Ext.refl w⟩⟩

@[go_sem] theorem EW.cell?_val {w : World} (g : EW w) (a : Addr) (h : a.block < w.heap.size) : g.val.cell? a = w.cell? a := g.ext.cell h
@[go_sem] theorem EW.frozen?_val {w : World} (g : EW w) (a : Addr) (h : a.block < w.heap.size) : g.val.frozen? a = w.frozen? a := g.ext.frozen h

section
variable {P : Program} {ops : Array Oper} {md : Region.Mode} {C : World → Prop}

/-- whatever order is picked of the head's operations, each quiet in the class -/
def wpHeadQ (P : Program) (md : Region.Mode) (ops : Array Oper) (C : World → Prop) (n : Nat) (L : Array Bool → Act → Prop) : Nat → Array Bool → Act → Prop
  | 0, listed, a => L listed a
  | f + 1, listed, a =>
    Region.ready md ops listed ≠ [] ∧ ∀ i ∈ Region.ready md ops listed, i < n ∧ qOp P ops C i (wpHeadQ P md ops C n L f (listed.setIfInBounds i true)) a

theorem wpAny_of_headQ {n g : Nat} {L : Array Bool → Act → Prop} {Q' : Exit → Act → World → Prop} (hL : ∀ listed a w, C w → L listed a → wpAny P md ops Q' g listed a w) :
    ∀ (f : Nat) (listed : Array Bool) (a : Act) (w : World), C w → wpHeadQ P md ops C n L f listed a → wpAny P md ops Q' (f + g) listed a w
  | 0, listed, a, w, hw, h => by rw [Nat.zero_add]; exact hL _ _ _ hw h
  | f + 1, listed, a, w, hw, h => by
    rw [show f + 1 + g = (f + g) + 1 by omega]
    exact ⟨fun h0 => absurd h0 h.1, fun i hi => wpOp_of_qOp hw (fun a' w' hw' h' => wpAny_of_headQ hL f _ a' w' hw' h') (h.2 i hi).2⟩

theorem wpHeadQ_first {n i : Nat} {oi : Oper} {v : Value} {L : Array Bool → Act → Prop} (hi : ops[i]? = some oi) (hsel : ∀ (j : Nat) (o : Oper) cs b, ops[j]? = some o → o.op ≠ .select cs b)
    (hs : Region.sinkB md ops n = true) (hc : Region.chainB md ops n = true) (hn : n < ops.size) (hin : i < n)
    (hdone : ∀ listed a, L listed a → ∀ j ∈ Region.ready md ops listed, n ≤ j) :
    ∀ (f : Nat) (listed : Array Bool) (a : Act), HeadInv md ops n listed →
      (∀ j oj, ops[j]? = some oj → j ≠ i → listed.getD j true = false → (∀ e ∈ oj.after, Region.binds md e = true → e.on ≠ i) → oi.apart ops oj = true) →
      i ∈ Region.ready md ops listed → YieldsIn P ops C oi v a →
      wpHeadQ P md ops C n L f (listed.setIfInBounds i true) (a.put oi.dst v) → wpHeadQ P md ops C n L (f + 1) listed a := by
  intro f
  induction f with
  | zero =>
    intro listed a inv _ hr hy H
    have hun := (mem_ready.1 hr).1
    refine ⟨fun h => (by rw [h] at hr; cases hr), fun j hj => ?_⟩
    have hjn : j < n := by
      rcases Nat.lt_or_ge j n with h | h
      · exact h
      · exact absurd hj (tail_waits hs hc hn inv _ i rfl hin hun j h)
    refine ⟨hjn, ?_⟩
    by_cases hji : j = i
    · subst hji; exact hy.qOp hi H
    · have := hdone _ _ H j (ready_mono hj hji)
      omega
  | succ f ih =>
    intro listed a inv hfree hr hy H
    have hun := (mem_ready.1 hr).1
    refine ⟨fun h => (by rw [h] at hr; cases hr), fun j hj => ?_⟩
    have hjn : j < n := by
      rcases Nat.lt_or_ge j n with h | h
      · exact h
      · exact absurd hj (tail_waits hs hc hn inv _ i rfl hin hun j h)
    refine ⟨hjn, ?_⟩
    by_cases hji : j = i
    · subst hji; exact hy.qOp hi H
    · have h1 := (H.2 j (ready_mono hj hji)).2
      obtain ⟨hjun, oj, hoj, hall⟩ := mem_ready.1 hj
      have hnot : ∀ e ∈ oj.after, Region.binds md e = true → e.on ≠ i := fun e he hb heq => by
        have h1 := hall e he hb
        rw [heq, getD_both hun] at h1
        cases h1
      have h2 := qOp_put hoj (hfree j oj hoj hji hjun hnot) (fun cs b => hsel i oi cs b hi) (fun cs b => hsel j oj cs b hoj) hy h1
      have hfree' : ∀ k ok, ops[k]? = some ok → k ≠ i → (listed.setIfInBounds j true).getD k true = false →
          (∀ e ∈ ok.after, Region.binds md e = true → e.on ≠ i) → oi.apart ops ok = true := fun k ok hk hki hun hno => by
        refine hfree k ok hk hki ?_ hno
        by_cases hjk : j = k
        · subst hjk; exact hjun
        · rw [getD_set_ne true hjk] at hun; exact hun
      refine qOp_mono (fun a' h3 => ih (listed.setIfInBounds j true) a' (inv.set hj hjn) hfree' (ready_mono hr (Ne.symm hji)) h3.1 ?_) h2
      rw [Array.setIfInBounds_comm _ _ hji]
      exact h3.2

theorem wpHeadQ_lex {n g : Nat} {Lq : Act → Prop} (hsel : Region.noSelect ops = true) (hs : Region.sinkB md ops n = true) (hc : Region.chainB md ops n = true) (hn : n < ops.size) :
    ∀ (l : List Oper) (k : Nat) (listed : Array Bool) (a : Act), (∀ j, j < l.length → l[j]? = ops[k + j]?) → k + l.length = n → HeadInv md ops n listed →
    Region.lexHead md ops g l.length k listed = true → wpQuiet P ops C Lq l a →
    wpHeadQ P md ops C n (fun listed' a' => Region.seqB md ops g n listed' = true ∧ Lq a') l.length listed a
  | [], k, listed, a, _, hk, _, hB, h => by
    have : k = n := by simpa using hk
    subst this
    exact ⟨by simpa [Region.lexHead] using hB, h⟩
  | o :: l, k, listed, a, hl, hk, inv, hB, h => by
    have h0 : ops[k]? = some o := by simpa using (hl 0 (by simp)).symm
    simp only [List.length_cons, Region.lexHead, Bool.and_eq_true] at hB
    obtain ⟨⟨hr, hf⟩, hB'⟩ := hB
    have hkn : k < n := by simp only [List.length_cons] at hk; omega
    have hr' : k ∈ Region.ready md ops listed := by simpa using hr
    have hst : qOp P ops C k (wpQuiet P ops C Lq l) a := by unfold qOp; simp only [h0]; exact h
    obtain ⟨v, hy, hK⟩ := yieldsIn_of_qOp h0 hst
    exact wpHeadQ_first h0 (Region.noSelect_spec hsel) hs hc hn hkn (fun listed' a' hL => seqB_ready hL.1) l.length listed a inv (Region.free_spec h0 hf) hr' hy
      (wpHeadQ_lex hsel hs hc hn l (k + 1) _ _ (fun j hj => by have := hl (j + 1) (by simp; omega); simpa [Nat.add_assoc, Nat.add_comm 1 j] using this) (by simp only [List.length_cons] at hk; omega) (inv.set hr' hkn) hB' hK)

/-- a region that draws its order: a head of quiet operations (of the class), then a tail in one forced order -/
theorem wp_region_quiet_tail {id : Nat} {Q : Exit → Act → World → Prop} {a : Act} {w : World} {l : List Oper} (n : Nat) (hm : P.follows .mixedOrders = true) (hB : Region.lexTailB .any l.toArray n = true)
    (hC : C { w with drawn := w.drawn + 1 })
    (h : wpQuiet P l.toArray C (fun a' => ∀ w', C w' → wpList P l.toArray Q (l.drop n) a' w') (l.take n) a) : (Code.region id l.toArray true).wp P Q a w := by
  simp only [Region.lexTailB, Bool.and_eq_true, decide_eq_true_eq] at hB
  obtain ⟨⟨⟨⟨hsel, hn⟩, hs⟩, hc⟩, hlex⟩ := hB
  have hn' : n < l.length := by simpa using hn
  have htl : (l.take n).length = n := by simp; omega
  have hdl : (l.drop n).length = l.toArray.size - n := by simp
  have inv0 : HeadInv .any l.toArray n (Array.replicate l.toArray.size false) :=
    ⟨by simp, fun j oj _ hl => (by rw [getD_replicate_false] at hl; cases hl), fun t _ ht => getD_in (by simpa using ht) (getD_replicate_false _ _)⟩
  have H := wpHeadQ_lex (md := .any) (g := l.toArray.size - n) hsel hs hc hn (l.take n) 0 _ a (fun j hj => by
    have hj' : j < n := by rw [htl] at hj; exact hj
    simp [hj']) (by simpa using htl) inv0 (by rw [htl]; exact hlex) h
  refine wp_region_any hm ?_
  have := wpAny_of_headQ (Q' := Q) (g := l.toArray.size - n) (fun listed a' w' hw' hL => by
    have := wpAny_of_seq (md := .any) (Q' := Q) (l.drop n) n listed a' w' (fun j => by simp [List.getElem?_drop]) (by rw [hdl]; exact hL.1) (hL.2 w' hw')
    rwa [hdl] at this) _ _ _ _ hC H
  rw [htl, show n + (l.toArray.size - n) = l.toArray.size by omega] at this
  exact this
end

/-- the same, at the class of the worlds that have only grown from b on -/
theorem wp_region_from_tail {P : Program} {id : Nat} {Q : Exit → Act → World → Prop} {a : Act} {w : World} {l : List Oper} (b : World) (h0 : Ext b w) (n : Nat) (hm : P.follows .mixedOrders = true) (hB : Region.lexTailB .any l.toArray n = true)
    (h : wpQuiet P l.toArray (fun w' => ∃ g : EW b, w' = g.val) (fun a' => ∀ w', Ext b w' → wpList P l.toArray Q (l.drop n) a' w') (l.take n) a) : (Code.region id l.toArray true).wp P Q a w := by
  refine wp_region_quiet_tail (C := fun w' => ∃ g : EW b, w' = g.val) n hm hB ⟨⟨w.drew, h0.drew⟩, rfl⟩ ?_
  have e2 : (fun a' => ∀ w', (∃ g : EW b, w' = g.val) → wpList P l.toArray Q (l.drop n) a' w') = (fun a' => ∀ w', Ext b w' → wpList P l.toArray Q (l.drop n) a' w') := by
    funext a'
    refine propext ⟨fun k w' hw => k w' ⟨⟨w', hw⟩, rfl⟩, ?_⟩
    rintro k w' ⟨g, rfl⟩
    exact k _ g.ext
  rw [e2]; exact h

/-- a region that draws its order, whose operations only read, and whose callees only read and make memory; b: a world from which on we count -/
theorem wp_region_from {P : Program} {id : Nat} {Q : Exit → Act → World → Prop} {a : Act} {w : World} {l : List Oper} (b : World) (h0 : Ext b w) (hm : P.follows .mixedOrders = true) (hB : Region.lexB .any l.toArray = true)
    (h : wpQuiet P l.toArray (fun w' => ∃ g : EW b, w' = g.val) (fun a' => ∀ w', Ext b w' → Q .normal a' w') l a) : (Code.region id l.toArray true).wp P Q a w := by
  refine wp_region_quiet (C := fun w' => ∃ g : EW b, w' = g.val) hm hB ⟨⟨w.drew, h0.drew⟩, rfl⟩ ?_
  have e : l.toArray.toList = l := by simp
  have e2 : (fun a' => ∀ w', (∃ g : EW b, w' = g.val) → Q .normal a' w') = (fun a' => ∀ w', Ext b w' → Q .normal a' w') := by
    funext a'
    refine propext ⟨fun k w' hw => k w' ⟨⟨w', hw⟩, rfl⟩, ?_⟩
    rintro k w' ⟨g, rfl⟩
    exact k _ g.ext
  rw [e, e2]; exact h

theorem wp_region_ext {P : Program} {id : Nat} {Q : Exit → Act → World → Prop} {a : Act} {w : World} {l : List Oper} (hm : P.follows .mixedOrders = true) (hB : Region.lexB .any l.toArray = true)
    (h : wpQuiet P l.toArray (fun w' => ∃ g : EW w, w' = g.val) (fun a' => ∀ w', Ext w w' → Q .normal a' w') l a) : (Code.region id l.toArray true).wp P Q a w :=
  wp_region_from w (Ext.refl w) hm hB h

theorem Calls.ext_of {P : Program} {f : FuncId} {args : Array Value} {w : World} {g : EW w} {v : Value}
    (h : Calls P f args g.val fun e w' => e = .returned v ∧ Ext g.val w') : Calls P f args g.val fun e w'' => e = .returned v ∧ ∃ g' : EW w, w'' = g'.val :=
  h.mono fun _ w' ⟨he, hm⟩ => ⟨he, ⟨w', g.ext.trans hm⟩, rfl⟩

/-- a loop that is gone through at most n times: unrolled -/
def Unr (P : Program) (c : Code) (Q : Exit → Act → World → Prop) : Nat → Act → World → Prop
  | 0, _, _ => False
  | n + 1, a, w => c.wp P (Exit.then (Unr P c Q n) Q) a w

theorem Unr.step {P : Program} {c : Code} {Q : Exit → Act → World → Prop} {n : Nat} {a : Act} {w : World} (h : c.wp P (Exit.then (Unr P c Q n) Q) a w) : Unr P c Q (n + 1) a w := h

theorem least_of {p : Nat → Prop} (h : ∃ n, p n) : ∃ n, p n ∧ ∀ k, p k → n ≤ k := by
  obtain ⟨n, hn⟩ := h
  induction n using Nat.strongRecOn with
  | _ n ih =>
    by_cases hk : ∃ k, k < n ∧ p k
    · obtain ⟨k, h1, h2⟩ := hk
      exact ih k h1 h2
    · refine ⟨n, hn, fun k hp => ?_⟩
      rcases Nat.lt_or_ge k n with h | h
      · exact absurd ⟨k, h, hp⟩ hk
      · exact h

theorem wp_loop_unroll {P : Program} {c : Code} {Q : Exit → Act → World → Prop} {a : Act} {w : World} (n : Nat) (h : Unr P c Q n a w) : (Code.loop c).wp P Q a w := by
  classical
  refine wp_loop (fun a w => ∃ n, Unr P c Q n a w) (fun a w => if h : ∃ n, Unr P c Q n a w then (least_of h).choose else 0) ⟨n, h⟩ ?_
  intro a w hI
  have hn := (least_of hI).choose_spec.1
  rw [dif_pos hI]
  generalize (least_of hI).choose = m at hn
  cases m with
  | zero => exact hn.elim
  | succ m =>
    refine Code.wp_mono ?_ hn
    intro e a' w' h'
    cases e with
    | normal =>
      have hI' : ∃ n, Unr P c Q n a' w' := ⟨m, h'⟩
      refine ⟨hI', ?_⟩
      rw [dif_pos hI']
      exact Nat.lt_succ_of_le ((least_of hI').choose_spec.2 m h')
    | _ => exact h'

/- min and max of two numbers, without parting -/

theorem max2_int (k k' : IntKind) (x y : Int) : Builtin.max2 (.int k x) (.int k' y) = pure (.int k (max x y)) := by
  simp only [Builtin.max2, gt_iff_lt]
  congr 2
  by_cases h : x < y
  · rw [if_pos h]; omega
  · rw [if_neg h]; omega

theorem min2_int (k k' : IntKind) (x y : Int) : Builtin.min2 (.int k x) (.int k' y) = pure (.int k (min x y)) := by
  simp only [Builtin.min2]
  congr 2
  by_cases h : y < x
  · rw [if_pos h]; omega
  · rw [if_neg h]; omega

theorem max_two (ats : Array TypeId) (ty : TypeId) (a b : Value) : Builtin.max_ ats ty #[a, b] = (Builtin.max2 a b >>= fun s => pure s) := by simp only [Builtin.max_, List.foldlM_cons, List.foldlM_nil]

theorem min_two (ats : Array TypeId) (ty : TypeId) (a b : Value) : Builtin.min_ ats ty #[a, b] = (Builtin.min2 a b >>= fun s => pure s) := by simp only [Builtin.min_, List.foldlM_cons, List.foldlM_nil]

/-- what is not wanted of a world is forgotten -/
theorem wp_forget {P : Program} {c : Code} {Q : Exit → Act → World → Prop} {a : Act} {w : World} (S : World → Prop) (h : S w) (k : ∀ w', S w' → c.wp P Q a w') : c.wp P Q a w := k w h

/-- three cells of one block, that may be written -/
def Has3 (x : World) (b : Nat) (u0 u1 u2 : Value) : Prop :=
  (x.cell? ⟨b, 0, none⟩ = some u0 ∧ x.cell? ⟨b, 1, none⟩ = some u1 ∧ x.cell? ⟨b, 2, none⟩ = some u2) ∧
  x.frozen? ⟨b, 0, none⟩ = false ∧ x.frozen? ⟨b, 1, none⟩ = false ∧ x.frozen? ⟨b, 2, none⟩ = false

theorem Calls.ext_of_keep {P : Program} {f : FuncId} {args : Array Value} {w : World} {g : EW w} {v : Value}
    (h : Calls P f args g.val fun e w' => e = .returned v ∧ g.val = w') : Calls P f args g.val fun e w'' => e = .returned v ∧ ∃ g' : EW w, w'' = g'.val :=
  h.mono fun _ _ ⟨he, hm⟩ => ⟨he, g, hm.symm⟩

theorem new_block (w : World) (o : Obj) : (w.alloc o).heap[w.heap.size]? = some o := by
  show (w.heap.push o)[w.heap.size]? = some o
  simp

theorem cell_of_block {w : World} {b : Nat} {cs : Array Value} {T : TypeId} {fr : Nat × Nat} (h : w.heap[b]? = some (.cells cs T fr)) (i : Nat) : w.cell? ⟨b, i, none⟩ = cs[i]? := by
  simp [World.cell?, h]

/-- whether a cell is there, a store does not change -/
@[go_sem ↓] theorem isSome_setCell (w : World) (a b : Addr) (v : Value) : ((w.setCell a v).cell? b).isSome = (w.cell? b).isSome := by
  simp only [World.setCell, World.cell?, Array.getElem?_modify]
  by_cases h : a.block = b.block
  · rw [if_pos h]
    cases e : w.heap[b.block]? with
    | none => rfl
    | some o =>
      cases o <;> try rfl
      simp only [Option.map_some]
      split
      · rfl
      · cases hs : a.spot.isSome
        · simp only [Bool.false_eq_true, if_false]
          rw [Bool.eq_iff_iff]
          simp only [Option.isSome_iff_exists, Array.getElem?_eq_some_iff, Array.size_setIfInBounds]
          constructor
          · rintro ⟨_, hx, _⟩; exact ⟨_, hx, rfl⟩
          · rintro ⟨_, hx, _⟩; exact ⟨_, hx, rfl⟩
        · simp
  · rw [if_neg h]

end Go.Proofs.YtbammhmbapeboaaGreatDoor
