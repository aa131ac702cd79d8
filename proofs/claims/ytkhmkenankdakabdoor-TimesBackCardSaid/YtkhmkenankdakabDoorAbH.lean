/- Soundness of AbD, fourth part: code, calls, rounds. -/
import Derived.Test.YtkhmkenankdakabDoorAbG
import Derived.Below
namespace Go.Ab
open Go Go.RowKit
set_option linter.unusedVariables false
set_option linter.unusedSimpArgs false

def FR (r : Option Nat) : Fence := { Fence.wide with round := r }

def RR (ρ : List Nat) : Option Nat → Option Nat → Prop
  | none, none => True
  | some k, some r => ρ[k]? = some r
  | _, _ => False

theorem RR.mono {ρ ρ' : List Nat} {x y : Option Nat} (h : RR ρ x y) (k : ρ <+: ρ') : RR ρ' x y := by
  cases x <;> cases y <;> first | exact h | exact pre_get k h

def CP (gs : List (Nat × (IntKind × List Int))) (K : V → List Blk → Prop) (ρ : List Nat) (w : World) (e : Ending) (w' : World) : Prop :=
  ∃ v u hp' ρ', e = .returned u ∧ K v hp' ∧ D ρ' v u ∧ Rel gs ρ' hp' w' ∧ Gr ρ w ρ' w'

def EntersF (P : Program) (f : FuncId) : Prop := ∀ args w, (callFunc f args).run P w = .ok (.enter f args) w

def CvOk (P : Program) (gs : List (Nat × (IntKind × List Int))) (cv : CV) : Prop := ∀ v args hp K, cv v args hp K → ∀ ρ w u us, Rel gs ρ hp w → D ρ v u → Ds ρ args us →
  (∃ f as bs, u = .func (.func f) as bs ∧ EntersF P f ∧ CallsIn Fence.wide 0 P f (as ++ us.toArray ++ bs) w (CP gs K ρ w)) ∨
  (∃ r R, u = .func (.yield r) #[] #[] ∧ w.heap[r]? = some (.loop R) ∧ us.length = R.params.size ∧
    RoundIn Fence.wide 0 P r R.fn ((R.params.zip us.toArray).foldl (fun tmps (t, a) => tmps.setIfInBounds t a) R.tmps) R.assign R.body w (CP gs K ρ w))

def Ex : Ret → Exit
  | .normal => .normal
  | .ret => .ret
  | .exit i => .exit i

def Post (gs : List (Nat × (IntKind × List Int))) (K : Ret → S → Prop) (ρ : List Nat) (w : World) (sz : Nat) (e : Exit) (a' : Act) (w' : World) : Prop :=
  ∃ q s' ρ', Ex q = e ∧ K q s' ∧ Rel gs ρ' s'.hp w' ∧ TR ρ' s'.ts a'.tmps ∧ MR ρ' s'.marks a'.defers ∧ a'.tmps.size = sz ∧ Gr ρ w ρ' w'

theorem guard_sound {ops : Array Oper} {s : S} {o : Oper} {K : Bool → S → Prop} (h : guardOf ops s o K) {ρ : List Nat} {a : Act} (T : TR ρ s.ts a.tmps) :
    ∃ go s', K go s' ∧ Region.wanted o (yielded ops a.tmps) = go ∧ TR ρ s'.ts a.tmps ∧ s'.hp = s.hp ∧ s'.marks = s.marks := by
  unfold guardOf at h
  split at h
  · rename_i hg
    exact ⟨true, s, h, by simp [Region.wanted, hg], T, rfl, rfl⟩
  · rename_i j want hg
    split at h
    · exact h.elim
    · rename_i t ht
      split at h
      · rename_i b hb
        have hx := T t
        rw [hb] at hx
        simp only [D] at hx
        have hlt : t < a.tmps.size := by
          rcases Nat.lt_or_ge t a.tmps.size with h1 | h1
          · exact h1
          · rw [Array.getD_eq_getD_getElem?, Array.getElem?_eq_none h1] at hx; simp [undef] at hx
        have hy : yielded ops a.tmps j = some b := by
          unfold yielded
          rw [ht]
          simp only [Option.bind_some]
          rw [Array.getD_eq_getD_getElem?, Array.getElem?_eq_getElem hlt] at hx
          simp only [Option.getD_some] at hx
          rw [Array.getElem?_eq_getElem hlt, hx]
        cases b
        · refine ⟨!want, _, h, ?_, T.know (by rw [hx]; simp [D]), rfl, rfl⟩
          simp only [Region.wanted, hg, hy]
          cases want <;> rfl
        · refine ⟨want, _, h, ?_, T.know (by rw [hx]; simp [D]), rfl, rfl⟩
          simp only [Region.wanted, hg, hy]
          cases want <;> rfl
      · exact h.elim

theorem act_defer {c : Cx} {s : S} {o : Oper} {K : S → Prop} (h : act c s o K) (cl : Call) : o.op ≠ .defer cl := by
  intro e
  unfold act at h
  simp only [e] at h
  unfold look at h
  simp only [e] at h

theorem callOf_spec {o : Oper} {f : Operand} {args : Array Operand} (h : callOf o = some (f, args)) : ∃ cl, o.op = .call cl ∧ cl.callee = .value f ∧ cl.args = args := by
  unfold callOf at h
  split at h
  · rename_i cl ho
    split at h
    · rename_i f' hc
      cases h
      exact ⟨cl, ho, hc, rfl⟩
    · cases h
  · cases h

section
variable {P : Program} {c : Cx} (hT : TyOk P c) (hE : EqOk P c)
include hT hE

theorem aops_sound {cv : CV} (hcv : CvOk P c.gs cv) {ops : Array Oper} (r : Option Nat) : ∀ (l : List Oper) (i : Nat) (s : S) (a : Act) (w : World) (ρ : List Nat) (K : S → Prop) (Q : Exit → Act → World → Prop),
    (∀ j, j < l.length → ops[i + j]? = l[j]?) → okOps a.tmps.size l = true → aops c cv ops K l s → Rel c.gs ρ s.hp w → TR ρ s.ts a.tmps →
    (∀ s' ρ' a' w', K s' → Rel c.gs ρ' s'.hp w' → TR ρ' s'.ts a'.tmps → s'.marks = s.marks → a'.defers = a.defers → a'.tmps.size = a.tmps.size → Gr ρ w ρ' w' → Q .normal a' w') →
    wpOpsIn (FR r) 0 P ops Q (List.range' i l.length) a w
  | [], i, s, a, w, ρ, K, Q, _, _, h, R, T, hQ => hQ s ρ a w h R T rfl rfl rfl (Gr.refl _ _)
  | o :: l, i, s, a, w, ρ, K, Q, hl, hok, h, R, T, hQ => by
    have h0 : ops[i]? = some o := by have := hl 0 (by simp); simpa using this
    have hl' : ∀ j, j < l.length → ops[i + 1 + j]? = l[j]? := fun j hj => by
      have := hl (j + 1) (by simp; omega)
      rw [show i + 1 + j = i + (j + 1) by omega]; simpa using this
    have hok' : (∀ x, o.dst = some x → x < a.tmps.size) ∧ okOps a.tmps.size l = true := by
      unfold okOps at hok ⊢
      rw [List.all_cons, Bool.and_eq_true] at hok
      refine ⟨fun x hx => ?_, hok.2⟩
      have := hok.1
      rw [hx] at this
      simpa [Nat.blt_eq] using this
    obtain ⟨hd, hokl⟩ := hok'
    simp only [aops] at h
    obtain ⟨go, s1, h1, hw, T1, hp1, hm1⟩ := guard_sound h T
    rw [List.length_cons, List.range'_succ]
    simp only [wpOpsIn, h0, hw]
    have R1 : Rel c.gs ρ s1.hp w := hp1 ▸ R
    -- what is left, behind this operation
    have rest : ∀ (s2 : S) (u : Value) (w2 : World) (ρ2 : List Nat), aops c cv ops K l s2 → Rel c.gs ρ2 s2.hp w2 → TR ρ2 s2.ts (a.put o.dst u).tmps → s2.marks = s.marks → Gr ρ w ρ2 w2 →
        wpOpsIn (FR r) 0 P ops Q (List.range' (i + 1) l.length) (a.put o.dst u) w2 := fun s2 u w2 ρ2 k R2 T2 m2 G2 =>
      aops_sound hcv r l (i + 1) s2 (a.put o.dst u) w2 ρ2 K Q hl' (by rw [put_size]; exact hokl) k R2 T2
        (fun s' ρ' a' w' k1 k2 k3 k4 k5 k6 k7 => hQ s' ρ' a' w' k1 k2 k3 (k4.trans m2) (k5.trans (put_defers _ _ _)) (k6.trans (put_size _ _ _)) (G2.trans k7))
    cases go with
    | false =>
      simp only [Bool.false_eq_true, if_false]
      exact ⟨fun _ _ => trivial, rest _ undef w ρ h1 R1 (T1.put hd D_undef) hm1 (Gr.refl _ _)⟩
    | true =>
      simp only [if_true]
      change astep c cv o s1 _ at h1
      unfold astep at h1
      split at h1
      · rename_i f args hc
        obtain ⟨cl, ho, hcf, hca⟩ := callOf_spec hc
        refine ⟨fun _ _ => trivial, ?_⟩
        have hsem : Oper.semAt (FR r).round a.eval o = execOp a.eval o := Oper.semAt_eq _ _ _ (fun c e => by rw [ho] at e; cases e)
        rw [hsem]
        have hargs : Ds ρ (args.toList.map s1.get) (args.toList.map a.eval) := gets_sound T1 _
        have harr : (args.toList.map a.eval).toArray = args.map a.eval := by rw [← Array.toList_map, Array.toArray_toList]
        rcases hcv _ _ _ _ h1 ρ w (a.eval f) _ R1 (get_sound T1 f) hargs with ⟨g, as, bs, hu, hen, hcall⟩ | ⟨rr, RL, hu, hrl, hlen, hround⟩
        · have hrun : (execOp a.eval o).run P w = .ok (.enter g (as ++ (args.toList.map a.eval).toArray ++ bs)) w := by
            rw [harr]
            simp only [execOp, ho, resolve, hcf, hu, Deferred.ofValue, hca]
            simp only [Sem.run_bind, Sem.run_pure, Result.andThen_ok, invoke]
            exact hen _ w
          rw [hrun]
          refine ⟨fun h => (by cases h), ?_⟩
          show CallsIn Fence.wide 0 P g _ w _
          refine hcall.mono ?_
          rintro e w' ⟨v, u, hp', ρ', rfl, k1, k2, k3, k4⟩
          exact rest _ u w' ρ' k1 k3 ((T1.mono k4.pre).put hd k2) hm1 k4
        · have hrun : (execOp a.eval o).run P w = .ok (.round rr RL.fn ((RL.params.zip (args.toList.map a.eval).toArray).foldl (fun tmps (t, a) => tmps.setIfInBounds t a) RL.tmps) RL.assign RL.body) w := by
            rw [harr]
            simp only [execOp, ho, resolve, hcf, hu, Deferred.ofValue, hca]
            simp only [Sem.run_bind, Sem.run_pure, Result.andThen_ok, invoke]
            rw [show (#[] ++ Array.map a.eval args : Array Value) = Array.map a.eval args by simp]
            exact run_yield hrl (by simpa using hlen)
          rw [hrun]
          refine ⟨fun h => (by cases h), ?_⟩
          show RoundIn Fence.wide 0 P rr _ _ _ _ w _
          refine hround.mono ?_
          rintro e w' ⟨v, u, hp', ρ', rfl, k1, k2, k3, k4⟩
          exact rest _ u w' ρ' k1 k3 ((T1.mono k4.pre).put hd k2) hm1 k4
      · refine ⟨fun _ _ => trivial, ?_⟩
        have hsem : Oper.semAt (FR r).round a.eval o = execOp a.eval o := Oper.semAt_eq _ _ _ (act_defer h1)
        rw [hsem]
        obtain ⟨s2, u, n, w2, ρ2, k1, k2, k3, k4, k5, k6, k7⟩ := act_sound hT hE h1 R1 T1 hd
        rw [k1]
        rcases k2 with rfl | ⟨rfl, rfl⟩
        · exact rest s2 u w2 ρ2 k3 k4 k5 (k6.trans hm1) k7
        · exact rest s2 undef w2 ρ2 k3 k4 k5 (k6.trans hm1) k7
end

/- a scope that nobody jumps into -/

theorem stepR_scope {P : Program} {b : Frame} {a : Act} {k : List Item} {cs : List Frame} {w : World} {c : Code} :
    step P (lone (b.atR a (.code (.scope c) :: k)) cs w) = .next (lone (b.atR a (.code c :: .inScope c :: k)) cs w) :=
  step_lone_go (by simp [stepG, stepG.exec, Frame.atR])

theorem stepR_inScope {P : Program} {b : Frame} {a : Act} {k : List Item} {cs : List Frame} {w : World} {c : Code} :
    step P (lone (b.atR a (.inScope c :: k)) cs w) = .next (lone (b.atR a k) cs w) :=
  step_lone_go (by simp [stepG, stepG.exec, Frame.atR])

theorem wpIn_scope {F : Fence} {n : Nat} {P : Program} {Q : Exit → Act → World → Prop} {a : Act} {w : World} {c : Code} (hQ : ∀ l a w, ¬ Q (.goto l) a w) (h : c.wpIn F n P Q a w) : (Code.scope c).wpIn F n P Q a w := by
  intro b k cs hro hb hr
  have h0 : (lone (b.atR a (.code (.scope c) :: k)) cs w).fenced P F := fenced_calm hb hr rfl
  obtain ⟨e, a₁, w₁, hq, harr⟩ := h b (.inScope c :: k) cs hro hb hr
  cases e with
  | normal => exact ⟨.normal, a₁, w₁, hq, .head h0 stepR_scope (StepsIn.trans harr (.one (fenced_calm hb hr rfl) stepR_inScope))⟩
  | exit id =>
    have hx : exitTo id (.inScope c :: k) = exitTo id k := by simp [exitTo]
    exact ⟨.exit id, a₁, w₁, hq, fun k' hk => .head h0 stepR_scope (harr.1 k' (by rw [hx]; exact hk)),
      fun hr' hk => let ⟨k₁, h1, h2⟩ := harr.2 hr' (by rw [hx]; exact hk); ⟨k₁, h1, .head h0 stepR_scope h2⟩⟩
  | goto l => exact absurd hq (hQ _ _ _)
  | ret => exact ⟨_, a₁, w₁, hq, .of_steps (.one h0 stepR_scope) harr⟩
  | panic ch => exact ⟨_, a₁, w₁, hq, .of_steps (.one h0 stepR_scope) harr⟩
  | outgrown => exact ⟨_, a₁, w₁, hq, .of_steps (.one h0 stepR_scope) harr⟩

theorem least_of {p : Nat → Prop} (h : ∃ n, p n) : ∃ n, p n ∧ ∀ k, p k → n ≤ k := by
  obtain ⟨n, hn⟩ := h
  induction n using Nat.strongRecOn with
  | _ n ih =>
    by_cases hk : ∃ k, k < n ∧ p k
    · obtain ⟨k, h1, h2⟩ := hk
      exact ih k h1 h2
    · refine ⟨n, hn, fun k hp => ?_⟩
      rcases Nat.lt_or_ge k n with h | h
      · exact absurd ⟨k, h, hp⟩ hk
      · exact h

/-- a loop, by a relation that counts -/
theorem wpIn_loop_count {F : Fence} {n : Nat} {P : Program} {Q : Exit → Act → World → Prop} {a : Act} {w : World} {c : Code} (J : Nat → Act → World → Prop) (h₀ : ∃ k, J k a w)
    (round : ∀ k a w, J k a w → c.wpIn F n P (Exit.then (fun a' w' => ∃ k', k' < k ∧ J k' a' w') Q) a w) : (Code.loop c).wpIn F n P Q a w := by
  classical
  refine wpIn_loop (fun a w => ∃ k, J k a w) (fun a w => if h : ∃ k, J k a w then (least_of h).choose else 0) h₀ ?_
  intro a w hI
  have hn := (least_of hI).choose_spec.1
  rw [dif_pos hI]
  generalize (least_of hI).choose = m at hn
  refine wpIn_mono (round m a w hn) ?_
  intro e a' w' h'
  cases e with
  | normal =>
    obtain ⟨k', hk, hJ⟩ := h'
    refine ⟨⟨k', hJ⟩, ?_⟩
    rw [dif_pos ⟨k', hJ⟩]
    exact Nat.lt_of_le_of_lt ((least_of ⟨k', hJ⟩).choose_spec.2 k' hJ) hk
  | _ => exact h'

theorem pre_take {ρ ρ' : List Nat} (h : ρ <+: ρ') {n : Nat} (hn : ρ.length ≤ n) : ρ <+: ρ'.take n := by
  obtain ⟨t, rfl⟩ := h
  rw [List.take_append]
  rw [List.take_of_length_le hn]
  exact List.prefix_append _ _

theorem Gr.cut {ρ ρ' : List Nat} {w w' : World} (h : Gr ρ w ρ' w') {n : Nat} (hn : ρ.length ≤ n) : Gr ρ w (ρ'.take n) w' :=
  ⟨pre_take h.pre hn, fun r hr => h.new r (List.mem_of_mem_take hr), h.os, h.tape, h.output, h.size, h.old⟩

theorem weak_sound {gs : List (Nat × (IntKind × List Int))} {N : Nat} {s s' : S} (h : weak N s s') {ρ0 ρ : List Nat} {w0 w : World} {a : Act} (R : Rel gs ρ s.hp w) (T : TR ρ s.ts a.tmps) (M : MR ρ s.marks a.defers)
    (hN : ρ0.length = N) (G : Gr ρ0 w0 ρ w) : ∃ ρ', Rel gs ρ' s'.hp w ∧ TR ρ' s'.ts a.tmps ∧ MR ρ' s'.marks a.defers ∧ Gr ρ0 w0 ρ' w := by
  rcases h with rfl | ⟨h1, h2, h3, h4, h5⟩
  · exact ⟨ρ, R, T, M, G⟩
  rw [Bool.or_eq_true] at h5
  rcases h5 with h5 | h5
  · have e := Nat.eq_of_beq_eq_true h5
    have e2 : s'.hp = s.hp := by
      rw [h2, e, List.take_length]
    exact ⟨ρ, e2 ▸ R, T.weak h1, h3 ▸ M, G⟩
  · simp only [Bool.and_eq_true] at h5
    obtain ⟨⟨h6, h7⟩, h8⟩ := h5
    have hle := Nat.le_of_ble_eq_true h4
    refine ⟨ρ.take s'.hp.length, ?_, (T.weak h1).take h6, MR.take h8 (h3 ▸ M), G.cut (by omega)⟩
    have := R.take s'.hp.length (by rw [← h2]; exact h7)
    rw [← h2] at this
    exact this

def Gl (gs : List (Nat × (IntKind × List Int))) (w : World) : Prop := ∀ (g : Nat) (k : IntKind) (ns : List Int), assoc g gs = some (k, ns) → GlAt w g k ns

def EntOk (P : Program) (c : Cx) (f : FuncId) : Ent → Prop
  | .pure g => EntersF P f ∧ ∀ args v, g args = some (v, true) → ∀ ρ us w, Ds ρ args us → Gl c.gs w → ∃ u, D [] v u ∧ Calls P f us.toArray w fun e w' => e = .returned u ∧ Below w.heap.size w w'
  | .full g => EntersF P f ∧ ∀ args hp K, g args hp K → ∀ ρ w us, Rel c.gs ρ hp w → Ds ρ args us → CallsIn Fence.wide 0 P f us.toArray w (CP c.gs K ρ w)
  | .body fn => P.funcs[f]? = some fn ∧ (fn.name == "runtime.NumGoroutine") = false ∧ ∀ cd, fn.body = some cd → okC fn.ntmps cd = true

def FnsOk (P : Program) (c : Cx) : Prop := ∀ f e, assoc f c.fns = some e → EntOk P c f e

theorem Rel.below {gs ρ hp} {w w' : World} (R : Rel gs ρ hp w) (B : Below w.heap.size w w') : Rel gs ρ hp w' ∧ Gr ρ w ρ w' := by
  refine ⟨⟨R.len, R.inj, fun r hr => Nat.lt_of_lt_of_le (R.lt r hr) B.size, fun k b r hb hr => ?_, fun g k ns hg => ?_⟩, List.prefix_rfl, fun r h => .inl h, B.os, B.tape, B.output, B.size, fun b hb _ => B.block b hb⟩
  · obtain ⟨o, h1, h2⟩ := R.blk k b r hb hr
    exact ⟨o, by rw [B.block r (R.lt r (mem_of_get hr))]; exact h1, h2⟩
  · obtain ⟨h1, h2⟩ := R.gl g k ns hg
    exact ⟨h1, h2.same (B.block g h2.1)⟩

theorem Rel.toGl {gs ρ hp} {w : World} (R : Rel gs ρ hp w) : Gl gs w := fun g k ns h => (R.gl g k ns h).2

end Go.Ab
