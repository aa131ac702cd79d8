/- Soundness of Ba, fourth part: code, calls, rounds. -/
import Derived.Test.YtbammhmbapeboaaGreatDoorBd
import Derived.Below
import Derived.OrdersIn
namespace Go.B
open Go Go.RowKit
set_option linter.unusedVariables false
set_option linter.unusedSectionVars false
set_option linter.unusedSimpArgs false

def FR (r : Option Nat) : Fence := { Fence.wide with round := r }

def RR (ρ : Env) : Option Nat → Option Nat → Prop
  | none, none => True
  | some k, some r => ρ.l[k]? = some r
  | _, _ => False

theorem RR.mono {ρ ρ' : Env} {x y : Option Nat} (h : RR ρ x y) (k : ρ.le ρ') : RR ρ' x y := by
  cases x <;> cases y <;> first | exact h | exact pre_get k h

def CP (gs : List (Nat × CF)) (K : V → List Blk → Prop) (ρ : Env) (w : World) (e : Ending) (w' : World) : Prop :=
  ∃ v u hp' ρ', e = .returned u ∧ K v hp' ∧ D ρ' v u ∧ Rel gs ρ' hp' w' ∧ Gr ρ w ρ' w'

def EntersF (P : Program) (f : FuncId) : Prop := ∀ args w, (callFunc f args).run P w = .ok (.enter f args) w

def CvOk (P : Program) (gs : List (Nat × CF)) (cv : CV) : Prop := ∀ v args hp K, cv v args hp K → ∀ ρ w u us, Rel gs ρ hp w → D ρ v u → Ds ρ args us →
  (∃ f as bs, u = .func (.func f) as bs ∧ EntersF P f ∧ CallsIn Fence.wide 0 P f (as ++ us.toArray ++ bs) w (CP gs K ρ w)) ∨
  (∃ r R, u = .func (.yield r) #[] #[] ∧ w.heap[r]? = some (.loop R) ∧ us.length = R.params.size ∧
    RoundIn Fence.wide 0 P r R.fn ((R.params.zip us.toArray).foldl (fun tmps (t, a) => tmps.setIfInBounds t a) R.tmps) R.assign R.body w (CP gs K ρ w))

def Ex : Ret → Exit
  | .normal => .normal
  | .ret => .ret
  | .exit i => .exit i

def Post (W : Nat) (gs : List (Nat × CF)) (K : Ret → S → Prop) (ρ : Env) (w : World) (sz : Nat) (e : Exit) (a' : Act) (w' : World) : Prop :=
  ∃ q s' ρ', Ex q = e ∧ K q s' ∧ Rel gs ρ' s'.hp w' ∧ TR ρ' s'.ts a'.tmps ∧ MR W w'.heap.size ρ' s'.marks a'.defers ∧ a'.tmps.size = sz ∧ Gr ρ w ρ' w'

theorem guard_sound {ops : Array Oper} {s : S} {o : Oper} {K : Bool → S → Prop} (h : guardOf ops s o K) {ρ : Env} {a : Act} (T : TR ρ s.ts a.tmps) :
    ∃ go s', K go s' ∧ Region.wanted o (yielded ops a.tmps) = go ∧ TR ρ s'.ts a.tmps ∧ s'.hp = s.hp ∧ s'.marks = s.marks := by
  unfold guardOf at h
  split at h
  · rename_i hg
    exact ⟨true, s, h, by simp [Region.wanted, hg], T, rfl, rfl⟩
  · rename_i j want hg
    split at h
    · exact h.elim
    · rename_i t ht
      split at h
      · rename_i b hb
        have hx := T t
        rw [hb] at hx
        simp only [D] at hx
        have hlt : t < a.tmps.size := by
          rcases Nat.lt_or_ge t a.tmps.size with h1 | h1
          · exact h1
          · rw [Array.getD_eq_getD_getElem?, Array.getElem?_eq_none h1] at hx; simp [undef] at hx
        have hy : yielded ops a.tmps j = some b := by
          unfold yielded
          rw [ht]
          simp only [Option.bind_some]
          rw [Array.getD_eq_getD_getElem?, Array.getElem?_eq_getElem hlt] at hx
          simp only [Option.getD_some] at hx
          rw [Array.getElem?_eq_getElem hlt, hx]
        cases b
        · refine ⟨!want, _, h, ?_, T.know (by rw [hx]; simp [D]), rfl, rfl⟩
          simp only [Region.wanted, hg, hy]
          cases want <;> rfl
        · refine ⟨want, _, h, ?_, T.know (by rw [hx]; simp [D]), rfl, rfl⟩
          simp only [Region.wanted, hg, hy]
          cases want <;> rfl
      · rename_i vs hb
        have hx := T t
        rw [hb] at hx
        simp only [D] at hx
        obtain ⟨us, hx, -⟩ := hx
        have hy : yielded ops a.tmps j = none := by
          unfold yielded
          rw [ht]
          simp only [Option.bind_some]
          rcases Nat.lt_or_ge t a.tmps.size with hlt | h1
          · rw [Array.getD_eq_getD_getElem?, Array.getElem?_eq_getElem hlt] at hx
            simp only [Option.getD_some] at hx
            rw [Array.getElem?_eq_getElem hlt, hx]
          · rw [Array.getElem?_eq_none h1]
        refine ⟨false, s, h, ?_, T, rfl, rfl⟩
        simp only [Region.wanted, hg, hy]
        cases want <;> rfl
      · exact h.elim

theorem act_defer {c : Cx} {s : S} {o : Oper} {K : S → Prop} (h : act c s o K) (cl : Call) : o.op ≠ .defer cl := by
  intro e
  unfold act at h
  simp only [e] at h
  unfold plainOp ac_rest look appendOf nilCmp fanOf strOf clearOf nilKnown at h
  simp only [e] at h

theorem callOf_spec {o : Oper} {f : Operand} {args : Array Operand} (h : callOf o = some (f, args)) : ∃ cl, o.op = .call cl ∧ cl.callee = .value f ∧ cl.args = args := by
  unfold callOf at h
  split at h
  · rename_i cl ho
    split at h
    · rename_i f' hc
      cases h
      exact ⟨cl, ho, hc, rfl⟩
    · cases h
  · cases h

section
variable {P : Program} {c : Cx} (hT : TyOk P c) (hE : EqOk P c)
include hT hE

theorem aops_sound {cv : CV} (hcv : CvOk P c.gs cv) {ops : Array Oper} (r : Option Nat) : ∀ (l : List Oper) (i : Nat) (s : S) (a : Act) (w : World) (ρ : Env) (K : S → Prop) (Q : Exit → Act → World → Prop),
    (∀ j, j < l.length → ops[i + j]? = l[j]?) → okOps a.tmps.size l = true → aops c cv ops K l s → Rel c.gs ρ s.hp w → TR ρ s.ts a.tmps →
    (∀ s' ρ' a' w', K s' → Rel c.gs ρ' s'.hp w' → TR ρ' s'.ts a'.tmps → s'.marks = s.marks → a'.defers = a.defers → a'.tmps.size = a.tmps.size → Gr ρ w ρ' w' → Q .normal a' w') →
    wpOpsIn (FR r) 0 P ops Q (List.range' i l.length) a w
  | [], i, s, a, w, ρ, K, Q, _, _, h, R, T, hQ => hQ s ρ a w h R T rfl rfl rfl (Gr.refl _ _)
  | o :: l, i, s, a, w, ρ, K, Q, hl, hok, h, R, T, hQ => by
    have h0 : ops[i]? = some o := by have := hl 0 (by simp); simpa using this
    have hl' : ∀ j, j < l.length → ops[i + 1 + j]? = l[j]? := fun j hj => by
      have := hl (j + 1) (by simp; omega)
      rw [show i + 1 + j = i + (j + 1) by omega]; simpa using this
    have hok' : (∀ x, o.dst = some x → x < a.tmps.size) ∧ okOps a.tmps.size l = true := by
      unfold okOps at hok ⊢
      rw [List.all_cons, Bool.and_eq_true] at hok
      refine ⟨fun x hx => ?_, hok.2⟩
      have := hok.1
      rw [hx] at this
      simpa [Nat.blt_eq] using this
    obtain ⟨hd, hokl⟩ := hok'
    simp only [aops] at h
    obtain ⟨go, s1, h1, hw, T1, hp1, hm1⟩ := guard_sound h T
    rw [List.length_cons, List.range'_succ]
    simp only [wpOpsIn, h0, hw]
    have R1 : Rel c.gs ρ s1.hp w := hp1 ▸ R
    -- what is left, behind this operation
    have rest : ∀ (s2 : S) (u : Value) (w2 : World) (ρ2 : Env), aops c cv ops K l s2 → Rel c.gs ρ2 s2.hp w2 → TR ρ2 s2.ts (a.put o.dst u).tmps → s2.marks = s.marks → Gr ρ w ρ2 w2 →
        wpOpsIn (FR r) 0 P ops Q (List.range' (i + 1) l.length) (a.put o.dst u) w2 := fun s2 u w2 ρ2 k R2 T2 m2 G2 =>
      aops_sound hcv r l (i + 1) s2 (a.put o.dst u) w2 ρ2 K Q hl' (by rw [put_size]; exact hokl) k R2 T2
        (fun s' ρ' a' w' k1 k2 k3 k4 k5 k6 k7 => hQ s' ρ' a' w' k1 k2 k3 (k4.trans m2) (k5.trans (put_defers _ _ _)) (k6.trans (put_size _ _ _)) (G2.trans k7))
    cases go with
    | false =>
      simp only [Bool.false_eq_true, if_false]
      exact ⟨fun _ _ => trivial, rest _ undef w ρ h1 R1 (T1.put hd D_undef) hm1 (Gr.refl _ _)⟩
    | true =>
      simp only [if_true]
      change astep c cv o s1 _ at h1
      unfold astep at h1
      split at h1
      · rename_i f args hc
        obtain ⟨cl, ho, hcf, hca⟩ := callOf_spec hc
        refine ⟨fun _ _ => trivial, ?_⟩
        have hsem : Oper.semAt (FR r).round a.eval o = execOp a.eval o := Oper.semAt_eq _ _ _ (fun c e => by rw [ho] at e; cases e)
        rw [hsem]
        have hargs : Ds ρ (args.toList.map s1.get) (args.toList.map a.eval) := gets_sound T1 _
        have harr : (args.toList.map a.eval).toArray = args.map a.eval := by rw [← Array.toList_map, Array.toArray_toList]
        rcases hcv _ _ _ _ h1 ρ w (a.eval f) _ R1 (get_sound T1 f) hargs with ⟨g, as, bs, hu, hen, hcall⟩ | ⟨rr, RL, hu, hrl, hlen, hround⟩
        · have hrun : (execOp a.eval o).run P w = .ok (.enter g (as ++ (args.toList.map a.eval).toArray ++ bs)) w := by
            rw [harr]
            simp only [execOp, ho, resolve, hcf, hu, Deferred.ofValue, hca]
            simp only [Sem.run_bind, Sem.run_pure, Result.andThen_ok, invoke]
            exact hen _ w
          rw [hrun]
          refine ⟨fun h => (by cases h), ?_⟩
          show CallsIn Fence.wide 0 P g _ w _
          refine hcall.mono ?_
          rintro e w' ⟨v, u, hp', ρ', rfl, k1, k2, k3, k4⟩
          exact rest _ u w' ρ' k1 k3 ((T1.mono k4.pre).put hd k2) hm1 k4
        · have hrun : (execOp a.eval o).run P w = .ok (.round rr RL.fn ((RL.params.zip (args.toList.map a.eval).toArray).foldl (fun tmps (t, a) => tmps.setIfInBounds t a) RL.tmps) RL.assign RL.body) w := by
            rw [harr]
            simp only [execOp, ho, resolve, hcf, hu, Deferred.ofValue, hca]
            simp only [Sem.run_bind, Sem.run_pure, Result.andThen_ok, invoke]
            rw [show (#[] ++ Array.map a.eval args : Array Value) = Array.map a.eval args by simp]
            exact run_yield hrl (by simpa using hlen)
          rw [hrun]
          refine ⟨fun h => (by cases h), ?_⟩
          show RoundIn Fence.wide 0 P rr _ _ _ _ w _
          refine hround.mono ?_
          rintro e w' ⟨v, u, hp', ρ', rfl, k1, k2, k3, k4⟩
          exact rest _ u w' ρ' k1 k3 ((T1.mono k4.pre).put hd k2) hm1 k4
      · refine ⟨fun _ _ => trivial, ?_⟩
        have hsem : Oper.semAt (FR r).round a.eval o = execOp a.eval o := Oper.semAt_eq _ _ _ (act_defer h1)
        rw [hsem]
        obtain ⟨s2, u, n, w2, ρ2, k1, k2, k3, k4, k5, k6, k7⟩ := act_sound hT hE h1 R1 T1 hd
        rw [k1]
        rcases k2 with rfl | ⟨rfl, rfl⟩
        · exact rest s2 u w2 ρ2 k3 k4 k5 (k6.trans hm1) k7
        · exact rest s2 undef w2 ρ2 k3 k4 k5 (k6.trans hm1) k7

theorem aop1_sound {cv : CV} (hcv : CvOk P c.gs cv) {ops : Array Oper} (r : Option Nat) {o : Oper} {i : Nat} {s : S} {a : Act} {w : World} {ρ : Env} {K : S → Prop} {Q : Exit → Act → World → Prop} {C : Act → World → Prop}
    (h0 : ops[i]? = some o) (hd : ∀ x, o.dst = some x → x < a.tmps.size) (h : guardOf ops s o fun go s => match go with
        | false => K (s.put o.dst (.tup []))
        | true => astep c cv o s K) (R : Rel c.gs ρ s.hp w) (T : TR ρ s.ts a.tmps)
    (hC : ∀ s' ρ' a' w', K s' → Rel c.gs ρ' s'.hp w' → TR ρ' s'.ts a'.tmps → s'.marks = s.marks → a'.defers = a.defers → a'.tmps.size = a.tmps.size → Gr ρ w ρ' w' → C a' w') :
    wpOpIn (FR r) 0 P ops Q i C a w := by
  obtain ⟨go, s1, h1, hw, T1, hp1, hm1⟩ := guard_sound h T
  simp only [wpOpIn, h0, hw]
  have R1 : Rel c.gs ρ s1.hp w := hp1 ▸ R
  have rest : ∀ (s2 : S) (u : Value) (w2 : World) (ρ2 : Env), K s2 → Rel c.gs ρ2 s2.hp w2 → TR ρ2 s2.ts (a.put o.dst u).tmps → s2.marks = s.marks → Gr ρ w ρ2 w2 → C (a.put o.dst u) w2 := fun s2 u w2 ρ2 k R2 T2 m2 G2 =>
    hC s2 ρ2 _ w2 k R2 T2 m2 (put_defers _ _ _) (put_size _ _ _) G2
  cases go with
  | false =>
    simp only [Bool.false_eq_true, if_false]
    exact ⟨fun _ _ => trivial, rest _ undef w ρ h1 R1 (T1.put hd D_undef) hm1 (Gr.refl _ _)⟩
  | true =>
    simp only [if_true]
    change astep c cv o s1 _ at h1
    unfold astep at h1
    split at h1
    · rename_i f args hc
      obtain ⟨cl, ho, hcf, hca⟩ := callOf_spec hc
      refine ⟨fun _ _ => trivial, ?_⟩
      have hsem : Oper.semAt (FR r).round a.eval o = execOp a.eval o := Oper.semAt_eq _ _ _ (fun c e => by rw [ho] at e; cases e)
      rw [hsem]
      have hargs : Ds ρ (args.toList.map s1.get) (args.toList.map a.eval) := gets_sound T1 _
      have harr : (args.toList.map a.eval).toArray = args.map a.eval := by rw [← Array.toList_map, Array.toArray_toList]
      rcases hcv _ _ _ _ h1 ρ w (a.eval f) _ R1 (get_sound T1 f) hargs with ⟨g, as, bs, hu, hen, hcall⟩ | ⟨rr, RL, hu, hrl, hlen, hround⟩
      · have hrun : (execOp a.eval o).run P w = .ok (.enter g (as ++ (args.toList.map a.eval).toArray ++ bs)) w := by
          rw [harr]
          simp only [execOp, ho, resolve, hcf, hu, Deferred.ofValue, hca]
          simp only [Sem.run_bind, Sem.run_pure, Result.andThen_ok, invoke]
          exact hen _ w
        rw [hrun]
        refine ⟨fun h => (by cases h), ?_⟩
        show CallsIn Fence.wide 0 P g _ w _
        refine hcall.mono ?_
        rintro e w' ⟨v, u, hp', ρ', rfl, k1, k2, k3, k4⟩
        exact rest _ u w' ρ' k1 k3 ((T1.mono k4.pre).put hd k2) hm1 k4
      · have hrun : (execOp a.eval o).run P w = .ok (.round rr RL.fn ((RL.params.zip (args.toList.map a.eval).toArray).foldl (fun tmps (t, a) => tmps.setIfInBounds t a) RL.tmps) RL.assign RL.body) w := by
          rw [harr]
          simp only [execOp, ho, resolve, hcf, hu, Deferred.ofValue, hca]
          simp only [Sem.run_bind, Sem.run_pure, Result.andThen_ok, invoke]
          rw [show (#[] ++ Array.map a.eval args : Array Value) = Array.map a.eval args by simp]
          exact run_yield hrl (by simpa using hlen)
        rw [hrun]
        refine ⟨fun h => (by cases h), ?_⟩
        show RoundIn Fence.wide 0 P rr _ _ _ _ w _
        refine hround.mono ?_
        rintro e w' ⟨v, u, hp', ρ', rfl, k1, k2, k3, k4⟩
        exact rest _ u w' ρ' k1 k3 ((T1.mono k4.pre).put hd k2) hm1 k4
    · refine ⟨fun _ _ => trivial, ?_⟩
      have hsem : Oper.semAt (FR r).round a.eval o = execOp a.eval o := Oper.semAt_eq _ _ _ (act_defer h1)
      rw [hsem]
      obtain ⟨s2, u, n, w2, ρ2, k1, k2, k3, k4, k5, k6, k7⟩ := act_sound hT hE h1 R1 T1 hd
      rw [k1]
      rcases k2 with rfl | ⟨rfl, rfl⟩
      · exact rest s2 u w2 ρ2 k3 k4 k5 (k6.trans hm1) k7
      · exact rest s2 undef w2 ρ2 k3 k4 k5 (k6.trans hm1) k7

omit hT hE in

theorem allR_mem {p : Nat → Prop} : ∀ {l : List Nat}, allR p l → ∀ i ∈ l, p i
  | [], _, i, hi => by cases hi
  | [j], h, i, hi => by
    rw [List.mem_singleton.mp hi]; exact h
  | j :: k :: l, h, i, hi => by
    rcases List.mem_cons.mp hi with e | e
    · rw [e]; exact h.1
    · exact allR_mem h.2 i e

theorem calm_sound {s : S} {o : Oper} {v : V} (h : calmLook c s o = some (v, true)) {ρ : Env} {a : Act} {w0 : World} (R : Rel c.gs ρ s.hp w0) (T : TR ρ s.ts a.tmps) :
    ∃ u, D ρ v u ∧ (∀ w, (execOp a.eval o).run P w = .ok (.value u) w) ∧ ∀ w, o.about P w a.eval = none := by
  have key : look c s o = some (v, true) ∧ isLoad o = false ∧ ∀ w, o.about P w a.eval = none := by
    unfold calmLook at h
    split at h
    · cases h
    · cases h
    · rename_i h1 h2
      refine ⟨h, ?_, fun w => ?_⟩
      · unfold isLoad
        split
        · rename_i t x ho; exact absurd ho (h1 t x)
        · rfl
      · unfold Oper.about
        split
        · rename_i cl ho; exact absurd ho (h2 cl)
        · rfl
  obtain ⟨u, d1, d2⟩ := look_sound (P := P) hT hE key.1 R T
  exact ⟨u, d1, fun w => d2 w (fun e => by rw [key.2.1] at e; cases e), key.2.2⟩
omit hE hT in

theorem takeOf_spec {s : S} {ops : Array Oper} {listed : Array Bool} {i : Nat} {o : Oper} {v : V} {b : Bool} : ∀ {l : List Nat}, takeOf c s ops listed l = some (i, o, v, b) →
    i ∈ l ∧ ops[i]? = some o ∧ noGuard o = true ∧ Region.free .any ops listed i = true ∧ calmLook c s o = some (v, b)
  | [], h => by cases h
  | j :: l, h => by
    have go : takeOf c s ops listed l = some (i, o, v, b) → i ∈ j :: l ∧ ops[i]? = some o ∧ noGuard o = true ∧ Region.free .any ops listed i = true ∧ calmLook c s o = some (v, b) := fun h => by
      obtain ⟨h1, h2⟩ := takeOf_spec h
      exact ⟨List.mem_cons_of_mem _ h1, h2⟩
    unfold takeOf at h
    split at h
    · rename_i o' ho
      split at h
      · rename_i hb
        simp only [Bool.and_eq_true] at hb
        split at h
        · rename_i v' b' hv
          cases h
          exact ⟨List.mem_cons_self, ho, hb.1, hb.2, hv⟩
        · exact go h
      · exact go h
    · exact go h
omit hE hT in

theorem wanted_noGuard {o : Oper} (h : noGuard o = true) (f : Nat → Option Bool) : Region.wanted o f = true := by
  unfold noGuard at h
  split at h
  · rename_i hg; simp [Region.wanted, hg]
  · cases h

theorem aany_sound {cv : CV} (hcv : CvOk P c.gs cv) {ops : Array Oper} (r : Option Nat) (tk : Bool) (htk : tk = true → r = none) {K : S → Prop} {Q : Exit → Act → World → Prop} (hP : ∀ ch a w, ¬ Q (.panic ch) a w) (sz : Nat) (hok : okOps sz ops.toList = true) : ∀ (f : Nat) (listed : Array Bool) (s : S) (a : Act) (w : World) (ρ : Env),
    aany c cv ops K tk f listed s → a.tmps.size = sz → Rel c.gs ρ s.hp w → TR ρ s.ts a.tmps →
    (∀ s' ρ' a' w', K s' → Rel c.gs ρ' s'.hp w' → TR ρ' s'.ts a'.tmps → s'.marks = s.marks → a'.defers = a.defers → a'.tmps.size = sz → Gr ρ w ρ' w' → Q .normal a' w') →
    wpAnyIn (FR r) 0 P .any ops Q f listed a w
  | 0, listed, s, a, w, ρ, h, hs, R, T, hQ => by
    unfold aany at h
    split at h
    · rename_i hr
      exact ⟨hr, hQ s ρ a w h R T rfl rfl hs (Gr.refl _ _)⟩
    · exact h.elim
  | f + 1, listed, s, a, w, ρ, h, hs, R, T, hQ => by
    unfold aany at h
    split at h
    · rename_i hr
      refine ⟨fun _ => hQ s ρ a w h R T rfl rfl hs (Gr.refl _ _), fun i hi => ?_⟩
      rw [hr] at hi; cases hi
    · rename_i i0 l hr
      have bound : ∀ o : Oper, o ∈ ops.toList → ∀ x, o.dst = some x → x < a.tmps.size := fun o hm x hx => by
        have := List.all_eq_true.mp hok o hm
        rw [hx] at this
        rw [hs]
        simpa [Nat.blt_eq] using this
      have memo : ∀ {i : Nat} {o : Oper}, ops[i]? = some o → o ∈ ops.toList := fun {i o} ho => by
        rw [← Array.getElem?_toList] at ho
        exact List.mem_of_getElem? ho
      split at h
      · rename_i i o v b ht
        obtain ⟨hbt, hnext⟩ := req_of h
        subst hbt
        unfold takeT at ht
        split at ht
        · rename_i hb
          simp only [Bool.and_eq_true] at hb
          obtain ⟨h1, h2, h3, h4, h5⟩ := takeOf_spec ht
          obtain ⟨u, d1, d2, d3⟩ := calm_sound (P := P) hT hE h5 R T
          have hd := bound o (memo h2)
          refine wpAnyIn_take (i := i) (oi := o) (v := u) (by rw [htk hb.1]; rfl) h2 hb.2 h4 (by rw [hr]; simpa using h1) (fun ch a w q => absurd q (hP _ _ _)) ⟨.inl ⟨wanted_noGuard h3 _, d2⟩, d3⟩ ?_
          refine aany_sound hcv r tk htk hP sz hok f _ (s.put o.dst v) (a.put o.dst u) w ρ hnext ?_ R (T.put hd d1) (fun s2 ρ2 a2 w2 j1 j2 j3 j4 j5 j6 j7 => hQ s2 ρ2 a2 w2 j1 j2 j3 j4 (j5.trans ?_) j6 j7)
          · rw [← hs]; unfold Act.put; cases o.dst <;> simp
          · unfold Act.put; cases o.dst <;> rfl
        · cases ht
      · refine ⟨fun e => (by rw [hr] at e; cases e), fun i hi => ?_⟩
        rw [hr] at hi
        have h1 := allR_mem h i hi
        split at h1
        · rename_i o ho
          refine aop1_sound hT hE hcv r ho (bound o (memo ho)) h1 R T ?_
          intro s' ρ' a' w' k1 k2 k3 k4 k5 k6 k7
          exact aany_sound hcv r tk htk hP sz hok f _ s' a' w' ρ' k1 (k6.trans hs) k2 k3
            (fun s2 ρ2 a2 w2 j1 j2 j3 j4 j5 j6 j7 => hQ s2 ρ2 a2 w2 j1 j2 j3 (j4.trans k4) (j5.trans k5) j6 (k7.trans j7))
        · exact h1.elim
end

/- a scope that nobody jumps into -/

theorem stepR_scope {P : Program} {b : Frame} {a : Act} {k : List Item} {cs : List Frame} {w : World} {c : Code} :
    step P (lone (b.atR a (.code (.scope c) :: k)) cs w) = .next (lone (b.atR a (.code c :: .inScope c :: k)) cs w) :=
  step_lone_go (by simp [stepG, stepG.exec, Frame.atR])

theorem stepR_inScope {P : Program} {b : Frame} {a : Act} {k : List Item} {cs : List Frame} {w : World} {c : Code} :
    step P (lone (b.atR a (.inScope c :: k)) cs w) = .next (lone (b.atR a k) cs w) :=
  step_lone_go (by simp [stepG, stepG.exec, Frame.atR])

theorem wpIn_scope {F : Fence} {n : Nat} {P : Program} {Q : Exit → Act → World → Prop} {a : Act} {w : World} {c : Code} (hQ : ∀ l a w, ¬ Q (.goto l) a w) (h : c.wpIn F n P Q a w) : (Code.scope c).wpIn F n P Q a w := by
  intro b k cs hro hb hr
  have h0 : (lone (b.atR a (.code (.scope c) :: k)) cs w).fenced P F := fenced_calm hb hr rfl
  obtain ⟨e, a₁, w₁, hq, harr⟩ := h b (.inScope c :: k) cs hro hb hr
  cases e with
  | normal => exact ⟨.normal, a₁, w₁, hq, .head h0 stepR_scope (StepsIn.trans harr (.one (fenced_calm hb hr rfl) stepR_inScope))⟩
  | exit id =>
    have hx : exitTo id (.inScope c :: k) = exitTo id k := by simp [exitTo]
    exact ⟨.exit id, a₁, w₁, hq, fun k' hk => .head h0 stepR_scope (harr.1 k' (by rw [hx]; exact hk)),
      fun hr' hk => let ⟨k₁, h1, h2⟩ := harr.2 hr' (by rw [hx]; exact hk); ⟨k₁, h1, .head h0 stepR_scope h2⟩⟩
  | goto l => exact absurd hq (hQ _ _ _)
  | ret => exact ⟨_, a₁, w₁, hq, .of_steps (.one h0 stepR_scope) harr⟩
  | panic ch => exact ⟨_, a₁, w₁, hq, .of_steps (.one h0 stepR_scope) harr⟩
  | outgrown => exact ⟨_, a₁, w₁, hq, .of_steps (.one h0 stepR_scope) harr⟩

theorem least_of {p : Nat → Prop} (h : ∃ n, p n) : ∃ n, p n ∧ ∀ k, p k → n ≤ k := by
  obtain ⟨n, hn⟩ := h
  induction n using Nat.strongRecOn with
  | _ n ih =>
    by_cases hk : ∃ k, k < n ∧ p k
    · obtain ⟨k, h1, h2⟩ := hk
      exact ih k h1 h2
    · refine ⟨n, hn, fun k hp => ?_⟩
      rcases Nat.lt_or_ge k n with h | h
      · exact absurd ⟨k, h, hp⟩ hk
      · exact h

/-- a loop, by a relation that counts -/
theorem wpIn_loop_count {F : Fence} {n : Nat} {P : Program} {Q : Exit → Act → World → Prop} {a : Act} {w : World} {c : Code} (J : Nat → Act → World → Prop) (h₀ : ∃ k, J k a w)
    (round : ∀ k a w, J k a w → c.wpIn F n P (Exit.then (fun a' w' => ∃ k', k' < k ∧ J k' a' w') Q) a w) : (Code.loop c).wpIn F n P Q a w := by
  classical
  refine wpIn_loop (fun a w => ∃ k, J k a w) (fun a w => if h : ∃ k, J k a w then (least_of h).choose else 0) h₀ ?_
  intro a w hI
  have hn := (least_of hI).choose_spec.1
  rw [dif_pos hI]
  generalize (least_of hI).choose = m at hn
  refine wpIn_mono (round m a w hn) ?_
  intro e a' w' h'
  cases e with
  | normal =>
    obtain ⟨k', hk, hJ⟩ := h'
    refine ⟨⟨k', hJ⟩, ?_⟩
    rw [dif_pos ⟨k', hJ⟩]
    exact Nat.lt_of_le_of_lt ((least_of ⟨k', hJ⟩).choose_spec.2 k' hJ) hk
  | _ => exact h'

theorem pre_take {ρ ρ' : Env} (h : ρ.le ρ') {n : Nat} (hn : ρ.l.length ≤ n) : ρ.le (ρ'.take n) := by
  obtain ⟨⟨t, ht⟩, h2⟩ := h
  refine ⟨?_, h2⟩
  show ρ.l <+: ρ'.l.take n
  rw [← ht, List.take_append, List.take_of_length_le hn]
  exact List.prefix_append _ _

theorem Gr.cut {ρ ρ' : Env} {w w' : World} (h : Gr ρ w ρ' w') {n : Nat} (hn : ρ.l.length ≤ n) : Gr ρ w (ρ'.take n) w' :=
  ⟨pre_take h.pre hn, fun r hr => h.new r (List.mem_of_mem_take hr), h.newM, h.os, h.tape, h.output, h.size, h.old⟩

theorem weakB_refl (b : Blk) : weakB b b := .inl rfl

theorem weakH_refl : ∀ l : List Blk, weakH l l
  | [] => trivial
  | b :: l => ⟨weakB_refl b, weakH_refl l⟩

theorem weakH_short : ∀ {l l' : List Blk}, weakH l l' → l'.length ≤ l.length → weakH l (l' ++ l.drop l'.length)
  | l, [], _, _ => by simpa using weakH_refl l
  | [], _ :: _, _, h => by simp at h
  | b :: l, b' :: l', h, k => by
    simp only [List.cons_append, List.length_cons, List.drop_succ_cons]
    exact ⟨h.1, weakH_short h.2 (by simpa using k)⟩

def ghost (b : Blk) : Prop := ∃ t T, b = .row t [] T 0

theorem weakH_long : ∀ {l l' : List Blk}, weakH l l' → l.length ≤ l'.length → weakH l (l'.take l.length) ∧ ∀ b ∈ l'.drop l.length, ghost b
  | [], [], _, _ => ⟨trivial, by simp⟩
  | [], b :: l', h, k => by
    obtain ⟨h1, h2⟩ := weakH_long (l := []) h.2 (by simp)
    refine ⟨by simp [weakH], fun x hx => ?_⟩
    simp at hx
    rcases hx with rfl | hx
    · exact h.1
    · exact h2 x (by simpa using hx)
  | b :: l, [], _, k => by simp at k
  | b :: l, b' :: l', h, k => by
    obtain ⟨h1, h2⟩ := weakH_long h.2 (by simpa using k)
    exact ⟨by simpa [weakH] using ⟨h.1, h1⟩, by simpa using h2⟩

theorem ghosts_sound {gs : List (Nat × CF)} {ρ0 : Env} {w0 w : World} : ∀ (l : List Blk) (hp : List Blk) (ρ : Env), (∀ b ∈ l, ghost b) → Rel gs ρ hp w → Gr ρ0 w0 ρ w → ∃ ρ', Rel gs ρ' (hp ++ l) w ∧ ρ.le ρ' ∧ Gr ρ0 w0 ρ' w
  | [], hp, ρ, _, R, G => ⟨ρ, by simpa using R, Env.le_refl _, G⟩
  | b :: l, hp, ρ, h, R, G => by
    obtain ⟨t, T, rfl⟩ := h b (by simp)
    have R1 := R.adopt (r := w.heap.size) (.row t [] T 0) rfl (.inl ⟨rfl, rfl⟩)
    have G1 := G.adopt (r := w.heap.size) (.inr G.size)
    obtain ⟨ρ', h1, h2, h3⟩ := ghosts_sound l _ _ (fun b hb => h b (by simp [hb])) R1 G1
    exact ⟨ρ', by simpa using h1, Env.le_trans (Env.le_snoc _ _) h2, h3⟩

theorem weak_sound {gs : List (Nat × CF)} {N W H : Nat} {s s' : S} (h : weak N s s') {ρ0 ρ : Env} {w0 w : World} {a : Act} (R : Rel gs ρ s.hp w) (T : TR ρ s.ts a.tmps) (M : MR W H ρ s.marks a.defers)
    (hN : ρ0.l.length = N) (G : Gr ρ0 w0 ρ w) : ∃ ρ', Rel gs ρ' s'.hp w ∧ TR ρ' s'.ts a.tmps ∧ MR W H ρ' s'.marks a.defers ∧ Gr ρ0 w0 ρ' w := by
  rcases h with rfl | ⟨h1, h2, h3, h4, h5⟩
  · exact ⟨ρ, R, T, M, G⟩
  rw [Bool.or_eq_true] at h5
  rcases Nat.lt_or_ge s'.hp.length s.hp.length with hlt | hge
  · rcases h5 with h5 | h5
    · have := Nat.le_of_ble_eq_true h5; omega
    simp only [Bool.and_eq_true] at h5
    obtain ⟨⟨h6, h7⟩, h8⟩ := h5
    have hle := Nat.le_of_ble_eq_true h4
    have R1 := weakH_sound R (weakH_short h2 (by omega)) (by simp; omega)
    have e : (s'.hp ++ s.hp.drop s'.hp.length).take s'.hp.length = s'.hp := by simp
    refine ⟨ρ.take s'.hp.length, ?_, (T.weak h1).take h6, MR.take h8 (h3 ▸ M), G.cut (by omega)⟩
    have := R1.take s'.hp.length (by rw [e]; exact h7)
    rwa [e] at this
  · obtain ⟨k1, k2⟩ := weakH_long h2 hge
    have R1 := weakH_sound R k1 (by simp; omega)
    obtain ⟨ρ', q1, q2, q3⟩ := ghosts_sound _ _ _ k2 R1 G
    rw [List.take_append_drop] at q1
    exact ⟨ρ', q1, (T.weak h1).mono q2, (h3 ▸ M : MR W H ρ s'.marks a.defers).mono q2 (Nat.le_refl _), q3⟩
/- blocks of other numbers -/

def renR (σ : List Nat) (ρ : Env) : Env := ⟨σ.map fun k => ρ.l.getD k 0, ρ.M⟩

theorem renR_get {σ : List Nat} {ρ : Env} {j r : Nat} (hj : j < σ.length) (h : ρ.l[σ.getD j 0]? = some r) : (renR σ ρ).l[j]? = some r := by
  show (σ.map fun k => ρ.l.getD k 0)[j]? = _
  rw [List.getElem?_map, List.getElem?_eq_getElem hj]
  rw [List.getD_eq_getElem?_getD, List.getElem?_eq_getElem hj] at h
  simp only [Option.getD_some] at h
  simp only [Option.map_some, List.getD_eq_getElem?_getD, h, Option.getD_some]

theorem renR_back {σ : List Nat} {ρ : Env} {j r : Nat} (hall : ∀ k ∈ σ, k < ρ.l.length) (h : (renR σ ρ).l[j]? = some r) : ∃ k, σ[j]? = some k ∧ ρ.l[k]? = some r := by
  change (σ.map fun k => ρ.l.getD k 0)[j]? = _ at h
  rw [List.getElem?_map] at h
  obtain ⟨k, h1, h2⟩ := Option.map_eq_some_iff.mp h
  refine ⟨k, h1, ?_⟩
  have := hall k (List.mem_of_getElem? h1)
  rw [List.getD_eq_getElem?_getD, List.getElem?_eq_getElem this] at h2
  rw [List.getElem?_eq_getElem this]
  simpa using h2
mutual

theorem D_ren {σ : List Nat} {ρ : Env} : ∀ {v : V} {u : Value}, inN σ.length v = true → D ρ (renV σ v) u → D (renR σ ρ) v u
  | .any, u, _, _ => D_any
  | .bool _, u, _, k => by simpa [D, renV] using k
  | .int _ _, u, _, k => by simpa [D, renV] using k
  | .str _, u, _, k => by simpa [D, renV] using k
  | .gp _ _, u, _, k => by simpa [D, renV] using k
  | .old _, u, _, k => by simpa [D, renV] using k
  | .ptr k o, u, i, q => by
    simp only [D, renV] at q ⊢
    obtain ⟨r, h1, h2⟩ := q
    exact ⟨r, renR_get (by simpa [inN, Nat.blt_eq] using i) h1, h2⟩
  | .slc k o n c, u, i, q => by
    simp only [D, renV] at q ⊢
    obtain ⟨r, h1, h2⟩ := q
    exact ⟨r, renR_get (by simpa [inN, Nat.blt_eq] using i) h1, h2⟩
  | .yld k, u, i, q => by
    simp only [D, renV] at q ⊢
    obtain ⟨r, h1, h2⟩ := q
    exact ⟨r, renR_get (by simpa [inN, Nat.blt_eq] using i) h1, h2⟩
  | .rp k _ _ _, u, i, q => by
    simp only [D, renV] at q ⊢
    obtain ⟨r, h1, h2⟩ := q
    exact ⟨r, renR_get (by simpa [inN, Nat.blt_eq] using i) h1, h2⟩
  | .row _ _ _ _, u, i, q => by
    simp only [D, renV] at q ⊢
    rcases q with q | ⟨h0, r, h1, h2⟩
    · exact .inl q
    · exact .inr ⟨h0, r, renR_get (by simpa [inN, Nat.blt_eq] using i) h1, h2⟩
  | .rs _ _ _ _ _, u, i, q => by
    simp only [D, renV] at q ⊢
    rcases q with q | ⟨r, h1, h2⟩
    · exact .inl q
    · exact .inr ⟨r, renR_get (by simpa [inN, Nat.blt_eq] using i) h1, h2⟩
  | .mp _, u, i, q => by
    simp only [D, renV] at q ⊢
    obtain ⟨r, h1, h2⟩ := q
    exact ⟨r, renR_get (by simpa [inN, Nat.blt_eq] using i) h1, h2⟩
  | .fn f a b, u, i, q => by
    simp only [D, renV] at q ⊢
    simp only [inN, Bool.and_eq_true] at i
    obtain ⟨as, bs, h1, h2, h3⟩ := q
    exact ⟨as, bs, h1, Ds_ren i.1 h2, Ds_ren i.2 h3⟩
  | .sl _ _ _, u, i, q => by simpa [D, renV, renR] using q
  | .sp _ _ _, u, i, q => by simpa [D, renV, renR] using q
  | .nw _ _ _, u, i, q => by simp only [D, renV] at q
  | .agg cs, u, i, q => by
    simp only [D, renV] at q ⊢
    obtain ⟨us, h1, h2⟩ := q
    exact ⟨us, h1, Ds_ren (by simpa [inN] using i) h2⟩
  | .tup cs, u, i, q => by
    simp only [D, renV] at q ⊢
    obtain ⟨us, h1, h2⟩ := q
    exact ⟨us, h1, Ds_ren (by simpa [inN] using i) h2⟩

theorem Ds_ren {σ : List Nat} {ρ : Env} : ∀ {vs : List V} {us : List Value}, inNs σ.length vs = true → Ds ρ (renVs σ vs) us → Ds (renR σ ρ) vs us
  | [], us, _, k => by simpa [Ds, renVs] using k
  | v :: vs, us, i, k => by
    simp only [renVs] at k
    rw [Ds_cons] at k ⊢
    simp only [inNs, Bool.and_eq_true] at i
    obtain ⟨u, us', h1, h2, h3⟩ := k
    exact ⟨u, us', h1, D_ren i.1 h2, Ds_ren i.2 h3⟩
end

theorem find_renT {σ : List Nat} (i : Nat) : ∀ ts : List (Nat × V), find i (renT σ ts) = renV σ (find i ts)
  | [] => rfl
  | (m, v) :: l => by
    simp only [renT, find]
    cases Nat.beq m i
    · exact find_renT i l
    · rfl

theorem find_renEq {σ : List Nat} {ts : List (Nat × V)} (i : Nat) : ∀ {l : List (Nat × V)}, renEq σ ts l → find i l = .any ∨ find i ts = renV σ (find i l)
  | [], _ => .inl rfl
  | (n, v) :: l, h => by
    simp only [find]
    cases e : Nat.beq n i
    · exact find_renEq i h.2
    · have : n = i := Nat.eq_of_beq_eq_true e
      subst this
      exact .inr h.1

theorem OR_ren {σ : List Nat} {ρ : Env} {o : Obj} {b : Blk} (hi : inNB σ.length b = true) (h : OR ρ o (renB σ b)) : OR (renR σ ρ) o b := by
  cases b with
  | cells vs => obtain ⟨us, T, h1, h2⟩ := h; exact ⟨us, T, h1, Ds_ren (by simpa [inNB] using hi) h2⟩
  | loop st pend L =>
    simp only [inNB, Bool.and_eq_true] at hi
    obtain ⟨R, h1, h2, h3, h4, h5, h6, h7, h8, h9⟩ := h
    refine ⟨R, h1, h2, h3, h4, h5, h6, fun i => D_ren (find_inNT i hi.1) ?_, renR_get (by simpa [Nat.blt_eq] using hi.2) h8, h9⟩
    have := h7 i
    rwa [find_renT] at this
  | dfr => exact h
  | iter _ _ => exact h
  | map kd es =>
    obtain ⟨ms, clock, h1, h2, h3⟩ := h
    have e : ∀ l : List (Int × V), (l.map fun e => (e.1, renV σ e.2)).map (·.2) = renVs σ (l.map (·.2)) := fun l => by
      induction l with
      | nil => rfl
      | cons x l ih => simp only [List.map_cons, renVs]; rw [← ih]
    rw [e] at h3
    exact ⟨ms, clock, h1, by rw [h2, List.map_map]; rfl, Ds_ren (by simpa only [inNB] using hi) h3⟩
  | dead => trivial
  | row _ _ _ _ => exact h
  | ice _ _ _ _ => exact h

theorem free_ren {σ : List Nat} {b : Blk} : free (renB σ b) ↔ free b := by cases b <;> exact Iff.rfl

theorem ice_ren {σ : List Nat} {b : Blk} : isIce (renB σ b) = isIce b := by cases b <;> rfl

theorem dead_of {b : Blk} (h : isDead b = true) : b = .dead := by cases b <;> first | rfl | cases h

theorem anyA_of : ∀ {l : List Nat} {hp : List Blk} {j k : Nat} {b : Blk}, l[j]? = some k → hp[j]? = some b → isDead b = false → anyA k l hp = true
  | [], _, j, k, b, h, _, _ => by simp at h
  | _ :: _, [], j, k, b, _, h, _ => by simp at h
  | x :: l, y :: hp, 0, k, b, h1, h2, h3 => by
    simp at h1 h2
    subst h1 h2
    simp [anyA, h3]
  | x :: l, y :: hp, j + 1, k, b, h1, h2, h3 => by
    simp only [anyA, anyA_of (l := l) (hp := hp) (by simpa using h1) (by simpa using h2) h3, Bool.or_true]

theorem nodupA_inj : ∀ {l : List Nat} {hp : List Blk}, nodupA l hp = true → ∀ {i j k : Nat} {bi bj : Blk}, l[i]? = some k → l[j]? = some k → hp[i]? = some bi → hp[j]? = some bj → isDead bi = false → isDead bj = false → i = j
  | [], _, _, i, j, k, _, _, h, _, _, _, _, _ => by simp at h
  | _ :: _, [], _, i, j, k, _, _, _, _, h, _, _, _ => by simp at h
  | x :: l, y :: hp, h, i, j, k, bi, bj, h1, h2, h3, h4, h5, h6 => by
    simp only [nodupA, Bool.and_eq_true, Bool.or_eq_true, Bool.not_eq_true'] at h
    cases i with
    | zero =>
      cases j with
      | zero => rfl
      | succ j =>
        simp at h1 h2 h3 h4
        subst h1 h3
        have := anyA_of h2 h4 h6
        rcases h.1 with e | e
        · rw [e] at h5; cases h5
        · rw [e] at this; cases this
    | succ i =>
      cases j with
      | zero =>
        simp at h1 h2 h3 h4
        subst h2 h4
        have := anyA_of h1 h3 h5
        rcases h.1 with e | e
        · rw [e] at h6; cases h6
        · rw [e] at this; cases this
      | succ j =>
        simp at h1 h2 h3 h4
        rw [nodupA_inj h.2 h1 h2 h3 h4 h5 h6]

theorem blkEq_get {σ : List Nat} {hp : List Blk} : ∀ {l : List Nat} {bs : List Blk}, blkEq σ hp l bs → ∀ {j k : Nat} {b : Blk}, l[j]? = some k → bs[j]? = some b → b = .dead ∨ hp[k]? = some (renB σ b)
  | [], _, _, j, k, b, h, _ => by simp at h
  | _ :: _, [], _, j, k, b, _, h => by simp at h
  | x :: l, y :: bs, h, j, k, b, h1, h2 => by
    cases j with
    | zero => simp at h1 h2; subst h1 h2; exact h.1
    | succ j => exact blkEq_get h.2 (by simpa using h1) (by simpa using h2)

theorem MR_ren {W H : Nat} {σ : List Nat} {ρ : Env} : ∀ {ms : List Nat} {ds : List Deferred}, inNM σ.length ms = true → MR W H ρ (ms.map (σ.getD · 0)) ds → MR W H (renR σ ρ) ms ds
  | ms, [], _, h => by
    have : ms.map (σ.getD · 0) = [] := h
    show ms = []
    simpa using this
  | ms, d :: ds, i, h => by
    obtain ⟨r, h1, h2, h3, h4, h5⟩ := h
    refine ⟨r, h1, h2, h3, h4, ?_⟩
    rcases h5 with ⟨m, ms', e, h6, h7⟩ | ⟨h6, h7⟩
    · cases ms with
      | nil => cases e
      | cons m0 ms0 =>
        simp only [List.map_cons, List.cons.injEq] at e
        obtain ⟨rfl, rfl⟩ := e
        simp only [inNM, Bool.and_eq_true] at i
        exact .inl ⟨m0, ms0, rfl, renR_get (by simpa [Nat.blt_eq] using i.1) h6, MR_ren i.2 h7⟩
    · exact .inr ⟨h6, MR_ren i h7⟩

theorem isDfr_of {b : Option Blk} (h : isDfr b = true) : b = some .dfr := by
  unfold isDfr at h
  split at h
  · rfl
  · cases h

theorem forgot_ts : ∀ (ks : List Nat) (s : S), (forgot ks s).ts = s.ts
  | [], s => rfl
  | k :: ks, s => forgot_ts ks _

theorem forget_sound {gs : List (Nat × CF)} {W H : Nat} {ρ0 : Env} {w0 w : World} {ds : List Deferred} : ∀ (ks : List Nat) (s : S) (ρ : Env), forgetOk ks s.hp = true → Rel gs ρ s.hp w → MR W H ρ s.marks ds → Gr ρ0 w0 ρ w →
    ∃ ρ', Rel gs ρ' (forgot ks s).hp w ∧ ρ.le ρ' ∧ MR W H ρ' (forgot ks s).marks ds ∧ Gr ρ0 w0 ρ' w ∧ ρ'.l = ρ.l
  | [], s, ρ, _, R, M, G => ⟨ρ, R, Env.le_refl _, M, G, rfl⟩
  | k :: ks, s, ρ, h, R, M, G => by
    simp only [forgetOk, Bool.and_eq_true] at h
    have hk := isDfr_of h.1
    obtain ⟨r, hr⟩ : ∃ r, ρ.l[k]? = some r := by
      have := (List.getElem?_eq_some_iff.mp hk).1
      exact ⟨_, List.getElem?_eq_getElem (by rw [R.len]; exact this)⟩
    obtain ⟨ρ1, q1, q2, q3, q4, q5⟩ := R.forget hk hr
    have G1 : Gr ρ0 w0 ρ1 w := ⟨Env.le_trans G.pre q3, fun x hx => G.new x (q1 ▸ hx), fun x o hx => by
      rcases q5 x o hx with e | e
      · exact G.newM x o e
      · subst e; exact .inr (G.new _ (mem_of_get hr)), G.os, G.tape, G.output, G.size, G.old⟩
    obtain ⟨ρ2, p1, p2, p3, p4, p5⟩ := forget_sound ks ⟨s.ts, s.hp.set k .dead, s.marks.filter fun m => !Nat.beq m k⟩ ρ1 h.2 q2 (M.forget q3 hr q4) G1
    exact ⟨ρ2, p1, Env.le_trans q3 p2, p3, p4, p5.trans q1⟩

theorem reno_sound {gs : List (Nat × CF)} {N W H : Nat} {s s' : S} (h : reno N s s') {ρ0 ρ : Env} {w0 w : World} {a : Act} (R : Rel gs ρ s.hp w) (T : TR ρ s.ts a.tmps) (M : MR W H ρ s.marks a.defers)
    (hN : ρ0.l.length = N) (G : Gr ρ0 w0 ρ w) : ∃ ρ', Rel gs ρ' s'.hp w ∧ TR ρ' s'.ts a.tmps ∧ MR W H ρ' s'.marks a.defers ∧ Gr ρ0 w0 ρ' w := by
  rcases h with rfl | ⟨σ, h1, h2, h3, h4, h5, h6, h7, h8, h9⟩
  · exact ⟨ρ, R, T, M, G⟩
  simp only [Bool.and_eq_true] at h9
  obtain ⟨⟨i1, i2⟩, i3⟩ := h9
  rw [← h1] at i1 i2 i3
  have hall : ∀ k ∈ σ, k < ρ.l.length := fun k hk => by
    have := List.all_eq_true.mp h4 k hk
    rw [R.len]; simpa [Nat.blt_eq] using this
  -- what stands at a number
  have at' : ∀ {j : Nat} {b : Blk} {r : Nat}, s'.hp[j]? = some b → (renR σ ρ).l[j]? = some r → ∃ k, σ[j]? = some k ∧ (isDead b = true ∨ isDead b = false ∧ s.hp[k]? = some (renB σ b)) ∧ ρ.l[k]? = some r := by
    intro j b r hb hr
    obtain ⟨k, q1, q2⟩ := renR_back hall hr
    refine ⟨k, q1, ?_, q2⟩
    cases hd : isDead b
    · rcases blkEq_get h7 q1 hb with e | e
      · subst e; cases hd
      · exact .inr ⟨rfl, e⟩
    · exact .inl rfl
  have fr : ∀ {b : Blk}, isDead b = true → free b := fun {b} h => by rw [dead_of h]; trivial
  refine ⟨renR σ ρ, ⟨by simp [renR, h1], fun i j r bi bj b1 b2 r1 r2 => ?_, fun k b r hb hr => ?_, fun g cf hg => ?_, fun r o hr => ?_, fun k r b hb hr hi => ?_⟩, fun i => ?_, ?_, ?_, ?_, ?_, G.os, G.tape, G.output, G.size, G.old⟩
  · obtain ⟨k1, p1, p2, p3⟩ := at' b1 r1
    obtain ⟨k2, q1, q2, q3⟩ := at' b2 r2
    rcases p2 with p2 | ⟨d1, p2⟩
    · exact .inr (.inl (fr p2))
    rcases q2 with q2 | ⟨d2, q2⟩
    · exact .inr (.inr (fr q2))
    rcases R.inj k1 k2 r _ _ p2 q2 p3 q3 with e | e | e
    · subst e; exact .inl (nodupA_inj h5 p1 q1 b1 b2 d1 d2)
    · exact .inr (.inl (free_ren.mp e))
    · exact .inr (.inr (free_ren.mp e))
  · obtain ⟨k1, p1, p2, p3⟩ := at' hb hr
    rcases p2 with p2 | ⟨_, p2⟩
    · exact .inl (fr p2)
    rcases R.blk k1 _ r p2 p3 with e | ⟨o, e1, e2⟩
    · exact .inl (free_ren.mp e)
    · exact .inr ⟨o, e1, OR_ren (inNH_get i2 hb) e2⟩
  · obtain ⟨g1, g2⟩ := R.gl g cf hg
    refine ⟨fun i b hb hi => ?_, g2⟩
    obtain ⟨k1, p1, p2, p3⟩ := at' hb hi
    rcases p2 with p2 | ⟨_, p2⟩
    · exact fr p2
    · exact free_ren.mp (g1 k1 _ p2 p3)
  · obtain ⟨g1, g2⟩ := R.im r o hr
    refine ⟨g1, fun i b hb hi => ?_⟩
    obtain ⟨k1, p1, p2, p3⟩ := at' hb hi
    rcases p2 with p2 | ⟨_, p2⟩
    · exact .inl (fr p2)
    · rcases g2 k1 _ p2 p3 with e | e
      · exact .inl (free_ren.mp e)
      · rw [ice_ren] at e; exact .inr e
  · obtain ⟨k1, p1, p2, p3⟩ := at' hb hr
    rcases p2 with p2 | ⟨_, p2⟩
    · exact .inl (fr p2)
    · rcases R.ic k1 r _ p2 p3 (by rw [ice_ren]; exact hi) with e | e
      · exact .inl (free_ren.mp e)
      · exact .inr e
  · rcases find_renEq i h6 with e | e
    · rw [e]; exact D_any
    · have := T i
      rw [e] at this
      exact D_ren (find_inNT i i1) this
  · rw [h8] at M
    exact MR_ren i3 M
  · have hle := Nat.le_of_ble_eq_true h2
    obtain ⟨⟨t, ht⟩, hM⟩ := G.pre
    refine ⟨⟨(renR σ ρ).l.drop N, ?_⟩, hM⟩
    have e : (renR σ ρ).l.take N = ρ0.l := by
      show (σ.map fun k => ρ.l.getD k 0).take N = _
      rw [← List.map_take, h3]
      apply List.ext_getElem
      · simp [hN]
      · intro i a1 a2
        simp only [List.getElem_map, List.getElem_range]
        rw [← ht, List.getD_eq_getElem?_getD, List.getElem?_append_left a2, List.getElem?_eq_getElem a2]
        rfl
    have e2 := List.take_append_drop N (renR σ ρ).l
    rw [e] at e2
    exact e2
  · intro r hr
    obtain ⟨j, hj⟩ := List.getElem?_of_mem hr
    obtain ⟨k, q1, q2⟩ := renR_back hall hj
    exact G.new r (mem_of_get q2)
  · exact G.newM

theorem wk_sound {gs : List (Nat × CF)} {N W H : Nat} {s s' : S} (h : wk N s s') {ρ0 ρ : Env} {w0 w : World} {a : Act} (R : Rel gs ρ s.hp w) (T : TR ρ s.ts a.tmps) (M : MR W H ρ s.marks a.defers)
    (hN : ρ0.l.length = N) (G : Gr ρ0 w0 ρ w) : ∃ ρ', Rel gs ρ' s'.hp w ∧ TR ρ' s'.ts a.tmps ∧ MR W H ρ' s'.marks a.defers ∧ Gr ρ0 w0 ρ' w := by
  obtain ⟨s0, s1, ⟨ks, h0, rfl⟩, h1, h2⟩ := h
  obtain ⟨ρ0', R0, L0, M0, G0, _⟩ := forget_sound ks s ρ h0 R M G
  obtain ⟨ρ1, R1, T1, M1, G1⟩ := reno_sound h1 R0 (by rw [forgot_ts]; exact T.mono L0) M0 hN G0
  exact weak_sound h2 R1 T1 M1 hN G1

def Gl (gs : List (Nat × CF)) (w : World) : Prop := ∀ (g : Nat) (cf : CF), assoc g gs = some cf → GlAt w g cf

theorem Rel.below {gs ρ hp} {w w' : World} (R : Rel gs ρ hp w) (B : Below w.heap.size w w') : Rel gs ρ hp w' ∧ Gr ρ w ρ w' :=
  ⟨R.same fun r hr => B.block r hr, Gr.of B.os B.tape B.output B.size fun b hb _ => B.block b hb⟩

theorem Rel.toGl {gs ρ hp} {w : World} (R : Rel gs ρ hp w) : Gl gs w := fun g cf h => (R.gl g cf h).2

/- what comes out of a function: fresh rows lie in memory of their own -/

def Fresh (M : Nat → Option Obj) (N : Nat) (w : World) (t : Ty) (l : List t.den) (T : TypeId) (u : Value) (rs rs' : List Nat) : Prop :=
  (l = [] ∧ (∃ a, u = .slice a 0 0) ∧ rs' = rs) ∨ ∃ r cap us, (0 < cap ∧ l.length ≤ cap) ∧ cap ≤ 9223372036854775807 ∧ u = .slice (some ⟨r, 0, none⟩) l.length cap ∧ N ≤ r ∧ r ∉ rs ∧ M r = none ∧ w.heap[r]? = some (.cells us T (0, 0)) ∧ cap * t.size ≤ us.size ∧ Elems M t l us.toList 0 ∧ rs' = r :: rs
mutual

def Out (M : Nat → Option Obj) (N : Nat) (w : World) : V → Value → List Nat → List Nat → Prop
  | .nw t l T, u, rs, rs' => Fresh M N w t l T u rs rs'
  | .agg cs, u, rs, rs' => ∃ us : Array Value, u = .agg us ∧ Outs M N w cs us.toList rs rs'
  | .tup cs, u, rs, rs' => ∃ us : Array Value, u = .tuple us ∧ Outs M N w cs us.toList rs rs'
  | v, u, rs, rs' => D ⟨[], M⟩ v u ∧ rs' = rs

def Outs (M : Nat → Option Obj) (N : Nat) (w : World) : List V → List Value → List Nat → List Nat → Prop
  | [], us, rs, rs' => us = [] ∧ rs' = rs
  | v :: vs, us, rs, rs' => ∃ u us' rs1, us = u :: us' ∧ Out M N w v u rs rs1 ∧ Outs M N w vs us' rs1 rs'
end

/-- what a function is known to hand back -/
def Result' (A B : RT) (M : Nat → Option Obj) (w : World) (y : B.den) (e : Ending) (w' : World) : Prop :=
  ∃ (u : Value) (M' : Nat → Option Obj) (rs : List Nat), e = .returned u ∧ Out M' w.heap.size w' (single (B.shape y)) u [] rs ∧ Below w.heap.size w w' ∧ (∀ r o, M r = some o → M' r = some o) ∧ (∀ r o, M' r = some o → w'.heap[r]? = some o ∧ (M r = some o ∨ w.heap.size ≤ r))

def FxOk (P : Program) (gs : List (Nat × CF)) (f : FuncId) (A B : RT) (R : A.den → B.den → Prop) : Prop :=
  EntersF P f ∧ (∀ y, ∃ v, B.shape y = [v]) ∧ ∀ x y, R x y → ∀ (M : Nat → Option Obj) (us : List Value) (w : World), Ds ⟨[], M⟩ (A.shape x) us → (∀ r o, M r = some o → w.heap[r]? = some o) → Gl gs w → Calls P f us.toArray w (Result' A B M w y)

def EntOk (P : Program) (c : Cx) (f : FuncId) : Ent → Prop
  | .fx A B R => FxOk P c.gs f A B R
  | .fn A B g pre => FxOk P c.gs f A B fun x y => pre x = true ∧ y = g x
  | .full g => EntersF P f ∧ ∀ args hp K, g args hp K → ∀ ρ w us, Rel c.gs ρ hp w → Ds ρ args us → CallsIn Fence.wide 0 P f us.toArray w (CP c.gs K ρ w)
  | .body fn => P.funcs[f]? = some fn ∧ (fn.name == "runtime.NumGoroutine") = false ∧ ∀ cd, fn.body = some cd → okC fn.ntmps cd = true

def FnsOk (P : Program) (c : Cx) : Prop := ∀ f e, assoc f c.fns = some e → EntOk P c f e

/-- all of memory -/
def allM (w : World) : Nat → Option Obj := fun r => w.heap[r]?

theorem D_shape_int {ρ : Env} {k : IntKind} {n : Int} {u : Value} (h : D ρ (.int k n) u) : u = .int k n := by simpa only [D] using h

theorem ext_sound {gs : List (Nat × CF)} {ρ : Env} {hp : List Blk} {w : World} (R : Rel gs ρ hp w) {A : RT} : ∀ {vs : List V} {us : List Value} {x : A.den} {r : List V}, Ds ρ vs us → A.ext hp vs = some (x, r, true) →
    ∃ u v, us = u ++ v ∧ Ds ⟨[], allM w⟩ (A.shape x) u ∧ Ds ρ r v := by
  have hM : ∀ r o, ρ.M r = some o → allM w r = some o := fun r o h => (R.im r o h).1
  have slc : ∀ {t : Ty} {l : List t.den} {u : Value}, Lies ρ.M t l w u → D ⟨[], allM w⟩ (.sl t l none) u := by
    intro t l u h
    obtain ⟨a, c, rfl, h1, h2⟩ := h
    simp only [D]
    refine ⟨a, c, rfl, h1, fun n h => (by cases h), ?_⟩
    rcases h2 with h2 | ⟨r, o, cs, T, fr, rfl, h3, h4⟩
    · exact .inl h2
    · exact .inr ⟨r, o, cs, T, fr, rfl, h3, Elems_mono hM h4⟩
  induction A with
  | int k =>
    intro vs us x r d h
    simp only [RT.ext] at h
    split at h
    · rename_i n q hq
      cases h
      rw [popInt_of hq, Ds_cons] at d
      obtain ⟨u, us', rfl, d1, d2⟩ := d
      simp only [D] at d1
      subst d1
      exact ⟨[_], us', rfl, by simp [RT.shape, Ds, D], d2⟩
    · cases h
  | bool =>
    intro vs us x r d h
    simp only [RT.ext] at h
    split at h
    · rename_i n q hq
      cases h
      rw [popBool_of hq, Ds_cons] at d
      obtain ⟨u, us', rfl, d1, d2⟩ := d
      simp only [D] at d1
      subst d1
      exact ⟨[_], us', rfl, by simp [RT.shape, Ds, D], d2⟩
    · cases h
  | str =>
    intro vs us x r d h
    simp only [RT.ext] at h
    split at h
    · rename_i n q hq
      cases h
      rw [popStr_of hq, Ds_cons] at d
      obtain ⟨u, us', rfl, d1, d2⟩ := d
      simp only [D] at d1
      subst d1
      exact ⟨[_], us', rfl, by simp [RT.shape, Ds, D], d2⟩
    · cases h
  | sl t =>
    intro vs us x r d h
    simp only [RT.ext] at h
    split at h
    · rename_i v q
      split at h
      · rename_i l b hc
        simp only [Option.some.injEq, Prod.mk.injEq] at h
        obtain ⟨rfl, rfl, rfl⟩ := h
        rw [Ds_cons] at d
        obtain ⟨u, us', rfl, d1, d2⟩ := d
        exact ⟨[u], us', rfl, by rw [RT.shape, Ds_cons]; exact ⟨u, [], rfl, slc (con_lies R d1 hc), Ds_nil.mpr rfl⟩, d2⟩
      · cases h
    · cases h
  | nw t T => intro vs us x r d h; simp [RT.ext] at h
  | unit =>
    intro vs us x r d h
    simp only [RT.ext] at h
    split at h
    · rename_i q hq
      cases h
      rw [popTup_of hq, Ds_cons] at d
      obtain ⟨u, us', rfl, d1, d2⟩ := d
      simp only [D, Ds_nil] at d1
      obtain ⟨uu, rfl, d1⟩ := d1
      exact ⟨[_], us', rfl, by rw [RT.shape, Ds_cons]; exact ⟨_, [], rfl, by simp only [D, Ds_nil]; exact ⟨uu, rfl, d1⟩, Ds_nil.mpr rfl⟩, d2⟩
    · cases h
  | none =>
    intro vs us x r d h
    simp only [RT.ext] at h
    cases h
    exact ⟨[], us, rfl, Ds_nil.mpr rfl, d⟩
  | one a ih =>
    intro vs us x r d h
    simp only [RT.ext] at h
    exact ih d h
  | cons a q iha ihq =>
    intro vs us x r d h
    simp only [RT.ext] at h
    split at h
    · rename_i x1 r1 b1 h1
      split at h
      · rename_i x2 r2 b2 h2
        simp only [Option.some.injEq, Prod.mk.injEq, Bool.and_eq_true] at h
        obtain ⟨rfl, rfl, rfl, rfl⟩ := h
        obtain ⟨u1, v1, rfl, k1, k2⟩ := iha d h1
        obtain ⟨u2, v2, rfl, k3, k4⟩ := ihq k2 h2
        exact ⟨u1 ++ u2, v2, by simp, by rw [RT.shape]; exact Ds_append k1 k3, k4⟩
      · cases h
    · cases h
  | agg l ih =>
    intro vs us x r d h
    simp only [RT.ext] at h
    split at h
    · rename_i cs q hq
      split at h
      · rename_i x1 b1 h1
        simp only [Option.some.injEq, Prod.mk.injEq] at h
        obtain ⟨rfl, rfl, rfl⟩ := h
        rw [popAgg_of hq, Ds_cons] at d
        obtain ⟨u, us', rfl, d1, d2⟩ := d
        simp only [D] at d1
        obtain ⟨ua, rfl, d1⟩ := d1
        obtain ⟨u1, v1, e, k1, k2⟩ := ih d1 h1
        rw [Ds_nil] at k2
        subst k2
        rw [List.append_nil] at e
        exact ⟨[_], us', rfl, by rw [RT.shape, Ds_cons]; exact ⟨_, [], rfl, by simp only [D]; exact ⟨ua, rfl, by rw [e]; exact k1⟩, Ds_nil.mpr rfl⟩, d2⟩
      · cases h
    · cases h
  | tup l ih =>
    intro vs us x r d h
    simp only [RT.ext] at h
    split at h
    · rename_i cs q hq
      split at h
      · rename_i x1 b1 h1
        simp only [Option.some.injEq, Prod.mk.injEq] at h
        obtain ⟨rfl, rfl, rfl⟩ := h
        rw [popTup_of hq, Ds_cons] at d
        obtain ⟨u, us', rfl, d1, d2⟩ := d
        simp only [D] at d1
        obtain ⟨ua, rfl, d1⟩ := d1
        obtain ⟨u1, v1, e, k1, k2⟩ := ih d1 h1
        rw [Ds_nil] at k2
        subst k2
        rw [List.append_nil] at e
        exact ⟨[_], us', rfl, by rw [RT.shape, Ds_cons]; exact ⟨_, [], rfl, by simp only [D]; exact ⟨ua, rfl, by rw [e]; exact k1⟩, Ds_nil.mpr rfl⟩, d2⟩
      · cases h
    · cases h
end Go.B
