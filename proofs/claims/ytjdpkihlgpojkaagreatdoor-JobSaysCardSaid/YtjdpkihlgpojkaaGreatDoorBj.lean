import Derived.Test.YtjdpkihlgpojkaaGreatDoorBh
import Derived.Laws.StructEq
/- Soundness of Ba, sixth part: calls. -/
namespace Go.B
open Go Go.RowKit
set_option linter.unusedVariables false
set_option linter.unusedSectionVars false
set_option linter.unusedSimpArgs false

theorem okOps_mono {n m : Nat} (h : n ≤ m) {l : List Oper} (k : okOps n l = true) : okOps m l = true := by
  unfold okOps at *
  rw [List.all_eq_true] at *
  intro o ho
  have := k o ho
  cases hd : o.dst with
  | none => simp [hd]
  | some d =>
    simp [hd, Nat.blt_eq] at this ⊢
    omega

theorem okC_mono {n m : Nat} (h : n ≤ m) : ∀ c : Code, okC n c = true → okC m c = true := by
  intro c
  induction c with
  | region _ ops _ => exact okOps_mono h
  | seq a b iha ihb => intro k; simp only [okC, Bool.and_eq_true] at *; exact ⟨iha k.1, ihb k.2⟩
  | cond _ a b iha ihb => intro k; simp only [okC, Bool.and_eq_true] at *; exact ⟨iha k.1, ihb k.2⟩
  | block _ a ih => exact ih
  | loop a ih => exact ih
  | scope a ih => exact ih
  | rangeFunc _ ps a b iha ihb =>
    intro k
    simp only [okC, Bool.and_eq_true] at *
    refine ⟨⟨?_, iha k.1.2⟩, ihb k.2⟩
    rw [List.all_eq_true] at *
    intro d hd
    have := k.1.1 d hd
    simp [Nat.blt_eq] at this ⊢
    omega
  | _ => intro _; rfl

theorem find_number : ∀ (vs : List V) (k i : Nat), find i (number k vs) = if k ≤ i then (vs[i - k]?).getD .any else .any
  | [], k, i => by simp [number, find]
  | v :: vs, k, i => by
    simp only [number, find]
    by_cases h : k = i
    · subst h; simp
    · rw [beq_ne h, find_number vs (k + 1) i]
      by_cases h2 : k + 1 ≤ i
      · rw [if_pos h2, if_pos (by omega)]
        obtain ⟨j, rfl⟩ : ∃ j, i = k + 1 + j := ⟨i - (k + 1), by omega⟩
        rw [show k + 1 + j - (k + 1) = j by omega, show k + 1 + j - k = j + 1 by omega]
        simp
      · rw [if_neg h2, if_neg (by omega)]

theorem TR.args {ρ : Env} {vs : List V} {us : List Value} (h : Ds ρ vs us) (n : Nat) : TR ρ (number 0 vs) (us.toArray ++ Array.replicate n undef) := fun i => by
  rw [find_number, if_pos (Nat.zero_le _), Nat.sub_zero]
  cases e : vs[i]? with
  | none => exact D_any
  | some v =>
    obtain ⟨u, h1, h2⟩ := Ds_get h e
    have hi : i < us.length := (List.getElem?_eq_some_iff.mp h1).1
    have : (us.toArray ++ Array.replicate n undef).getD i undef = u := by
      rw [Array.getD_eq_getD_getElem?, Array.getElem?_append_left (by simpa using hi)]
      simp [h1]
    rw [this]; exact h2

theorem TR.zip {ρ : Env} : ∀ (ps : List Tmp) (args : List V) (us : List Value) (ts : List (Nat × V)) (tmps : Array Value), TR ρ ts tmps → Ds ρ args us → (ps.all fun d => Nat.blt d tmps.size) = true →
    TR ρ (zipPut ps args ts) ((ps.zip us).foldl (fun tmps (t, a) => tmps.setIfInBounds t a) tmps)
  | [], args, us, ts, tmps, T, _, _ => by simpa [zipPut] using T
  | p :: ps, [], us, ts, tmps, T, h, _ => by
    rw [Ds_nil] at h; subst h
    simpa [zipPut] using T
  | p :: ps, v :: vs, us, ts, tmps, T, h, hp => by
    rw [Ds_cons] at h
    obtain ⟨u, us', rfl, h1, h2⟩ := h
    simp only [List.all_cons, Bool.and_eq_true] at hp
    simp only [zipPut, List.zip_cons_cons, List.foldl_cons]
    exact TR.zip ps vs us' _ _ (T.ins (by simpa [Nat.blt_eq] using hp.1) h1) h2 (by simpa using hp.2)

theorem zip_size (l : List (Tmp × Value)) : ∀ tmps : Array Value, (l.foldl (fun tmps (t, a) => tmps.setIfInBounds t a) tmps).size = tmps.size := by
  induction l with
  | nil => intro _; rfl
  | cons x l ih => intro tmps; rw [List.foldl_cons, ih]; simp

theorem leave_sound {gs : List (Nat × CF)} {n : Nat} {hp : List Blk} {v : V} {K : V → List Blk → Prop} (h : leave n hp v K) {ρ ρ' : Env} {w w' : World} {u : Value} (hn : ρ.l.length = n)
    (hd : D ρ' v u) (R : Rel gs ρ' hp w') (G : Gr ρ w ρ' w') : CP gs K ρ w (.returned u) w' := by
  unfold leave at h
  split at h
  · rename_i hb
    simp only [Bool.and_eq_true] at hb
    refine ⟨v, u, _, ρ'.take n, rfl, h, D_take hb.1 hd, R.take n hb.2, ?_⟩
    exact G.cut (by omega)
  · exact ⟨v, u, _, ρ', rfl, h, hd, R, G⟩

theorem shutK_of {X : Prop} : ∀ {ms : List Nat} {hp : List Blk}, shutK X hp ms → shutOk hp ms ∧ X
  | [], hp, h => ⟨trivial, h⟩
  | d :: ms, hp, h => by
    unfold shutK at h
    split at h
    · rename_i hd
      obtain ⟨h1, h2⟩ := shutK_of h
      refine ⟨⟨?_, h1⟩, h2⟩
      rw [hd]
      trivial
    · exact h.elim

theorem leaves_sound {P : Program} {gs : List (Nat × CF)} {fn : Func} {tmps : Array Value} {RR' : Ending → World → Prop} {ρ0 : Env} {w0 : World} {H : Nat} (hM0 : ∀ r o, ρ0.M r = some o → r < w0.heap.size) : ∀ (ds : List Deferred) (ms : List Nat) (hp : List Blk) (ρ : Env) (w : World),
    MR w0.heap.size H ρ ms ds → shutOk hp ms → Rel gs ρ hp w → Gr ρ0 w0 ρ w → (∀ w2 ρ2, ρ.leC ρ2 → Rel gs ρ2 (deadAll ms hp) w2 → Gr ρ0 w0 ρ2 w2 → ∃ v, (Go.results fn tmps).run P w2 = .ok v w2 ∧ RR' (.returned v) w2) → LeavesInM Fence.wide 0 P fn tmps RR' ds .returning w
  | [], ms, hp, ρ, w, M, _, R, G, h => by
    have : ms = [] := M
    subst this
    exact h w ρ (Env.le_refl _).toC R G
  | d :: ds, ms, hp, ρ, w, M, S, R, G, h => by
    obtain ⟨r, rfl, h2, h3, h4, h5⟩ := M
    rcases h5 with ⟨m, ms', rfl, h6, h7⟩ | ⟨h6, h7⟩
    · obtain ⟨s1, s2⟩ := S
      have hd : hp[m]? = some .dfr := by
        split at s1
        · assumption
        · exact s1.elim
      obtain ⟨o, q1, q2⟩ := R.get hd h6 id
      have q2 : o = .deferred (some []) := q2
      subst q2
      obtain ⟨R', G'⟩ := R.put hd id rfl h6 (.deferred none) .dead rfl trivial
      refine ⟨by simp, .inl ⟨r, _, rfl, run_takeDeferred q1, ?_⟩⟩
      exact leaves_sound hM0 ds ms' (hp.set m .dead) ρ _ h7 s2 R' (G.trans G') h
    · obtain ⟨q1, _⟩ := R.im r _ h6
      refine ⟨by simp, .inl ⟨r, _, rfl, run_takeDeferred q1, ?_⟩⟩
      have R' := R.taken h6
      have hne : ∀ x, x ≠ r → (if x = r then none else ρ.M x) = ρ.M x := fun x hx => if_neg hx
      have G' : Gr ρ0 w0 ⟨ρ.l, fun x => if x = r then none else ρ.M x⟩ { w with heap := w.heap.setIfInBounds r (.deferred none) } := by
        refine ⟨⟨G.pre.1, fun x o hx => ?_⟩, G.new, fun x o hx => ?_, G.os, G.tape, G.output, by simpa using G.size, fun b hb hn => ?_⟩
        · show (if x = r then none else ρ.M x) = some o
          rw [hne x (by have := hM0 x o hx; omega)]
          exact G.pre.2 _ _ hx
        · have hx : (if x = r then none else ρ.M x) = some o := hx
          by_cases e : x = r
          · rw [if_pos e] at hx; cases hx
          · rw [if_neg e] at hx; exact G.newM x o hx
        · show (w.heap.setIfInBounds r (.deferred none))[b]? = _
          rw [Array.getElem?_setIfInBounds_ne (by omega)]
          exact G.old b hb hn
      refine leaves_sound hM0 ds ms hp _ _ (h7.drop (ρ := ρ) (ρ' := ⟨ρ.l, fun x => if x = r then none else ρ.M x⟩) rfl hne h4) S R' G' (fun w2 ρ2 L2 R2 G2 => h w2 ρ2 ?_ R2 G2)
      refine ⟨L2.1, fun x us T fr hx => L2.2 _ _ _ _ ?_⟩
      show (if x = r then none else ρ.M x) = _
      rw [hne x (by rintro rfl; rw [h6] at hx; cases hx)]
      exact hx

def resF (tmps : Array Value) : ResultVar → Sem Value
  | .tmp t => pure (tmps.getD t undef)
  | .cell a t => do loadVar t (← asAddr (tmps.getD a undef))

theorem results_eq (fn : Func) (tmps : Array Value) : Go.results fn tmps = (do let vs ← fn.results.mapM (resF tmps); pure (if h : vs.size = 1 then vs[0] else .tuple vs)) := rfl

section
variable {P : Program} {c : Cx} (hT : TyOk P c) (hE : EqOk P c)
include hT

theorem result_sound {s : S} {r : ResultVar} {K : V → Prop} (h : result c s r K) {ρ : Env} {w : World} {tmps : Array Value} (R : Rel c.gs ρ s.hp w) (T : TR ρ s.ts tmps) :
    ∃ v u, K v ∧ D ρ v u ∧ (resF tmps r).run P w = .ok u w := by
  unfold result at h
  split at h
  · exact ⟨_, _, h, T _, rfl⟩
  · rename_i a t
    obtain ⟨e, he, h⟩ := tyOf_of h
    have hx := T a
    split at h
    · rename_i k off hk
      rw [hk] at hx
      simp only [D] at hx
      obtain ⟨rr, hr, hu⟩ := hx
      split at h
      · rename_i vs hvs
        split at h
        · rename_i v hv
          obtain ⟨ob, h1, us, T', rfl, h2⟩ := R.get (cellsAt_spec hvs) hr id
          obtain ⟨u, h3, h4⟩ := loadAt_sound (P := P) (hT _ _ he) h2 hv h1
          exact ⟨v, u, h, h3, by simp [resF, hu, asAddr, h4 w (fun _ _ => rfl)]⟩
        · exact h.elim
      · exact h.elim
    · exact h.elim

theorem resultsOf_sound {s : S} {ρ : Env} {w : World} {tmps : Array Value} (R : Rel c.gs ρ s.hp w) (T : TR ρ s.ts tmps) : ∀ (l : List ResultVar) (K : List V → Prop), resultsOf c s l K →
    ∃ vs us, K vs ∧ Ds ρ vs us ∧ (l.mapM (resF tmps)).run P w = .ok us w
  | [], K, h => ⟨[], [], h, Ds_nil.mpr rfl, rfl⟩
  | r :: l, K, h => by
    obtain ⟨v, u, h1, h2, h3⟩ := result_sound hT h R T
    obtain ⟨vs, us, k1, k2, k3⟩ := resultsOf_sound R T l _ h1
    refine ⟨v :: vs, u :: us, k1, Ds_cons.mpr ⟨u, us, rfl, h2, k2⟩, ?_⟩
    rw [List.mapM_cons, Sem.run_bind, h3, Result.andThen_ok, Sem.run_bind, k3]
    rfl

theorem results_sound {fn : Func} {s : S} {ρ : Env} {w : World} {tmps : Array Value} (R : Rel c.gs ρ s.hp w) (T : TR ρ s.ts tmps) (K : List V → Prop) (h : resultsOf c s fn.results.toList K) :
    ∃ vs u, K vs ∧ D ρ (tupOf vs) u ∧ (Go.results fn tmps).run P w = .ok u w := by
  obtain ⟨vs, us, h1, h2, h3⟩ := resultsOf_sound hT R T _ _ h
  refine ⟨vs, if h : us.toArray.size = 1 then us.toArray[0] else .tuple us.toArray, h1, ?_, ?_⟩
  · unfold tupOf
    split
    · rw [Ds_cons] at h2
      obtain ⟨u, us', rfl, h4, h5⟩ := h2
      rw [Ds_nil] at h5; subst h5
      exact h4
    · rename_i vs' hne
      have hl := Ds_len h2
      have : ¬ us.toArray.size = 1 := by
        intro e
        simp at e
        rw [e] at hl
        match vs, hl with
        | [v], _ => exact hne v rfl
      rw [dif_neg this]
      simp only [D]
      exact ⟨_, rfl, h2⟩
  · rw [results_eq, Array.mapM_eq_mapM_toList]
    simp only [Sem.run_bind, Sem.run_map]
    rw [h3]
    rfl

include hE

/-- what is owed of loops is shown -/
def LpOk (c : Cx) (ok : FuncId → Nat → Nat → Bool) (lp : Nat → FuncId → Nat → Nat → Lp) : Prop :=
  ∀ n f, LoopsOk c f (acall c ok lp n) (ok f) (lp n f)
omit hT hE in

theorem fx_call (hF : FnsOk P c) {f : FuncId} {A B : RT} {R : A.den → B.den → Prop} (hfx : FxOk P c.gs f A B R) {args : List V} {hp : List Blk} {K : V → List Blk → Prop} {ρ : Env} {w : World} {us : List Value} (Rl : Rel c.gs ρ hp w) (hds : Ds ρ args us)
    (h : (B.flat = true ∧ ∃ x y, A.ext hp args = some (x, [], true) ∧ R x y ∧ inst (single (B.shape y)) hp K) ∨ ∃ vs hp' x y, ices hp args = some (vs, hp', true) ∧ A.ext [] vs = some (x, [], true) ∧ R x y ∧ inst (single (B.shape y)) hp' K) :
    EntersF P f ∧ CallsIn Fence.wide 0 P f us.toArray w (CP c.gs K ρ w) := by
  obtain ⟨hen, hsh, hfx⟩ := hfx
  refine ⟨hen, ?_⟩
  rcases h with ⟨hf, x, y, hx, hR, hK⟩ | ⟨vs, hp', x, y, hi, hx, hR, hK⟩
  · obtain ⟨p, q, e, d1, d2⟩ := ext_sound Rl hds hx
    rw [Ds_nil] at d2
    subst d2
    rw [List.append_nil] at e
    subst e
    exact fx_sound Rl (hfx x y hR (allM w) us w d1 (fun r o h => h) Rl.toGl) hK (hsh y) (.inl ⟨hf, fun r hr => Rl.noM hr⟩)
  · obtain ⟨ρ1, R1, G1, _, _, d1⟩ := ices_sound Rl hds hi
    obtain ⟨p, q, e, d2, d3⟩ := ext_closed d1 hx
    rw [Ds_nil] at d3
    subst d3
    rw [List.append_nil] at e
    subst e
    have := fx_sound R1 (hfx x y hR ρ1.M us w d2 (fun r o h => (R1.im r o h).1) R1.toGl) hK (hsh y) (.inr rfl)
    refine callsIn_wide.2 ((callsIn_wide.1 this).mono ?_)
    rintro e w' ⟨v, u, hp2, ρ2, rfl, k1, k2, k3, k4⟩
    exact ⟨v, u, hp2, ρ2, rfl, k1, k2, k3, G1.trans k4⟩

theorem acall_sound (hF : FnsOk P c) (hm : P.follows .mixedOrders = true) (ok : FuncId → Nat → Nat → Bool) (lp : Nat → FuncId → Nat → Nat → Lp) (hL : LpOk c ok lp) : ∀ n, CvOk P c.gs (acall c ok lp n)
  | 0 => fun v args hp K h => h.elim
  | n + 1 => by
    intro v args hp K h ρ w u us R hd hds
    have ih := acall_sound hF hm ok lp hL n
    unfold acall at h
    split at h
    · -- a function
      rename_i f a b
      simp only [D] at hd
      obtain ⟨as, bs, rfl, h1, h2⟩ := hd
      refine .inl ⟨f, as, bs, rfl, ?_⟩
      have hall : Ds ρ (a ++ args ++ b) (as.toList ++ us ++ bs.toList) := Ds_append (Ds_append h1 hds) h2
      have harr : as ++ us.toArray ++ bs = (as.toList ++ us ++ bs.toList).toArray := by simp
      rw [harr]
      generalize as.toList ++ us ++ bs.toList = us' at *
      generalize a ++ args ++ b = args' at *
      split at h
      · rename_i A B RR hg
        refine fx_call hF (hF _ _ hg) R hall ?_
        split at h
        · rename_i hf
          split at h
          · rename_i x d hx
            obtain ⟨rfl, y, q1, q2⟩ := req_of h
            exact .inl ⟨hf, x, y, hx, q1, q2⟩
          · exact h.elim
        · split at h
          · rename_i vs hp2 d' hi
            split at h
            · rename_i x d hx
              obtain ⟨hdd, y, q1, q2⟩ := req_of h
              simp only [Bool.and_eq_true] at hdd
              obtain ⟨rfl, rfl⟩ := hdd
              exact .inr ⟨vs, hp2, x, y, hi, hx, q1, q2⟩
            · exact h.elim
          · exact h.elim
      · rename_i A B g pre hg
        refine fx_call hF (hF _ _ hg) R hall ?_
        split at h
        · rename_i hf
          split at h
          · rename_i x d hx
            obtain ⟨hdd, q2⟩ := req_of h
            simp only [Bool.and_eq_true] at hdd
            obtain ⟨rfl, hp⟩ := hdd
            exact .inl ⟨hf, x, _, hx, ⟨hp, rfl⟩, q2⟩
          · exact h.elim
        · split at h
          · rename_i vs hp2 d' hi
            split at h
            · rename_i x d hx
              obtain ⟨hdd, q2⟩ := req_of h
              simp only [Bool.and_eq_true] at hdd
              obtain ⟨⟨rfl, rfl⟩, hp⟩ := hdd
              exact .inr ⟨vs, hp2, x, _, hi, hx, ⟨hp, rfl⟩, q2⟩
            · exact h.elim
          · exact h.elim
      · rename_i g hg
        obtain ⟨hen, hp⟩ := hF _ _ hg
        exact ⟨hen, hp args' _ K h ρ w us' R hall⟩
      · rename_i fn hg
        obtain ⟨hf, hname, hok⟩ := hF _ _ hg
        split at h
        · rename_i code hb
          refine ⟨?_, ?_⟩
          · intro args w
            have h1 : fn.name ≠ "runtime.NumGoroutine" := by simpa using hname
            simp [callFunc, hf, h1, hb, mark]
          · refine callsIn_of_wp_marks hf hb trivial ?_
            have hsz : (us'.toArray ++ Array.replicate (fn.ntmps - us'.toArray.size) undef).size ≥ fn.ntmps := by simp; omega
            have key := acode_sound hT hE hF hm ih f (ok f) (lp n f) (hL n f) code none none (retK c hp.length fn K) ⟨number 0 args', hp, []⟩ { tmps := us'.toArray ++ Array.replicate (fn.ntmps - us'.toArray.size) undef, defers := [] } w ρ h
              (okC_mono hsz code (hok code hb)) R (TR.args hall _) rfl (Nat.le_refl _) trivial
            refine wpIn_mono key ?_
            rintro e a' w' ⟨q, s', ρ', rfl, k1, k2, k3, k4, k5, k6⟩
            have fin : shutK (resultsOf c ⟨s'.ts, deadAll s'.marks s'.hp, []⟩ fn.results.toList fun vs => leave hp.length (deadAll s'.marks s'.hp) (tupOf vs) K) s'.hp s'.marks →
                LeavesInM Fence.wide 0 P fn a'.tmps (CP c.gs K ρ w) a'.defers .returning w' := by
              intro j
              obtain ⟨j1, j2⟩ := shutK_of j
              refine leaves_sound (fun r o hr => some_lt (R.im r o hr).1) a'.defers s'.marks s'.hp ρ' w' k4 j1 k2 k6 ?_
              intro w2 ρ2 L2 R2 G2
              obtain ⟨vs, u, l1, l2, l3⟩ := results_sound hT (fn := fn) (s := ⟨s'.ts, deadAll s'.marks s'.hp, []⟩) R2 (k3.monoC L2) _ j2
              exact ⟨u, l3, leave_sound l1 R.len l2 R2 G2⟩
            cases q with
            | normal => exact fin k1
            | ret => exact fin k1
            | exit i => exact k1.elim
        · exact h.elim
      · exact h.elim
    · -- a round
      rename_i k
      simp only [D] at hd
      obtain ⟨rr, hkr, rfl⟩ := hd
      split at h
      · rename_i r hk
        obtain ⟨hlen, h⟩ := req_of h
        obtain ⟨o, h1, RL, rfl, hst, hpd, hps, has, hbd, hT1, hd1, ho1, ho2, ho3⟩ := R.get hk hkr id
        have hlen := Nat.eq_of_beq_eq_true hlen
        have hul := Ds_len hds
        refine .inr ⟨rr, RL, rfl, h1, by rw [hul, ← hlen, ← hps]; simp, ?_⟩
        refine roundIn_of_wpIn trivial ?_
        have hfold : (RL.params.zip us.toArray).foldl (fun tmps (t, a) => tmps.setIfInBounds t a) RL.tmps = (r.ps.zip us).foldl (fun tmps (t, a) => tmps.setIfInBounds t a) RL.tmps := by
          rw [← Array.foldl_toList, Array.toList_zip, hps]
        rw [hfold, has, hbd]
        have hs0 := zip_size (r.ps.zip us) RL.tmps
        generalize hA : (r.ps.zip us).foldl (fun tmps (t, a) => tmps.setIfInBounds t a) RL.tmps = A at *
        have T0 : TR ρ (zipPut r.ps args r.ts) A := by rw [← hA]; exact TR.zip r.ps args us r.ts RL.tmps hT1 hds ho3
        have key := acode_sound hT hE hF hm ih r.f (ok r.f) (lp n r.f) (hL n r.f) r.assign (some k) (some rr) _ ⟨zipPut r.ps args r.ts, hp, []⟩ { tmps := A, defers := [] } w ρ h (by show okC A.size _ = true; rw [hs0]; exact ho1) R T0 rfl (Nat.le_refl _) hkr
        refine wpIn_mono key ?_
        rintro e a' w' ⟨q, s', ρ', rfl, k1, k2, k3, k4, k5, k6⟩
        cases q with
        | ret => exact k1.elim
        | exit i => exact k1.elim
        | normal =>
          unfold beginK at k1
          simp only at k1
          split at k1
          · rename_i r2 hk2
            have hkr2 := pre_get k6.pre hkr
            obtain ⟨o2, p1, RL2, rfl, p2, p3, p4, p5, p6, p7, p8, p9, p10, p11⟩ := k2.get hk2 hkr2 id
            obtain ⟨R3, G3⟩ := k2.put hk2 id rfl hkr2 (.loop { RL2 with state := .busy }) (.loop .busy none r2) rfl ⟨_, rfl, rfl, p3, p4, p5, p6, p7, p8, p9, p10, p11⟩
            refine ⟨_, run_beginRound p1 p2, ?_⟩
            have hbody : okC a'.tmps.size r.body = true := by
              rw [k5]; show okC A.size _ = true; rw [hs0]; exact ho2
            have key2 := acode_sound hT hE hF hm ih r.f (ok r.f) (lp n r.f) (hL n r.f) r.body (some k) (some rr) _ ⟨s'.ts, s'.hp.set k (.loop .busy none r2), s'.marks⟩ a' _ ρ' k1 hbody R3 k3 (k4.mono (Env.le_refl _) G3.size) (Nat.le_trans k6.size G3.size) hkr2
            refine wpIn_mono key2 ?_
            rintro e2 a2 w2 ⟨q2, s2, ρ2, rfl, m1, m2, m3, m4, m5, m6⟩
            unfold busyK at m1
            split at m1
            · rename_i r3 hk3
              have hkr3 := pre_get m6.pre hkr2
              obtain ⟨o3, t1, RL3, rfl, t2, t3, t4, t5, t6, t7, t8, t9, t10, t11⟩ := m2.get hk3 hkr3 id
              have G0 := (k6.trans G3).trans m6
              cases q2 with
              | normal =>
                obtain ⟨R4, G4⟩ := m2.put hk3 id rfl hkr3 (.loop { RL3 with state := .ready, pending := none }) (.loop .ready none r3) rfl ⟨_, rfl, rfl, rfl, t4, t5, t6, t7, t8, t9, t10, t11⟩
                exact ⟨_, _, run_endRound none t1, leave_sound m1 R.len (by simp [D]) R4 (G0.trans G4)⟩
              | ret =>
                obtain ⟨R4, G4⟩ := m2.put hk3 id rfl hkr3 (.loop { RL3 with state := .done, pending := some .ret }) (.loop .done (some .ret) r3) rfl ⟨_, rfl, rfl, rfl, t4, t5, t6, t7, t8, t9, t10, t11⟩
                exact ⟨_, _, run_endRound (some .ret) t1, leave_sound m1 R.len (by simp [D]) R4 (G0.trans G4)⟩
              | exit i =>
                obtain ⟨R4, G4⟩ := m2.put hk3 id rfl hkr3 (.loop { RL3 with state := .done, pending := some (.exit i) }) (.loop .done (some (.exit i)) r3) rfl ⟨_, rfl, rfl, rfl, t4, t5, t6, t7, t8, t9, t10, t11⟩
                exact ⟨_, _, run_endRound (some (.exit i)) t1, leave_sound m1 R.len (by simp [D]) R4 (G0.trans G4)⟩
            · exact m1.elim
          · exact k1.elim
      · exact h.elim
    · exact h.elim

omit hT hE in

theorem Rel.nil {gs : List (Nat × CF)} {w : World} {M : Nat → Option Obj} (h : Gl gs w) (hM : ∀ r o, M r = some o → w.heap[r]? = some o) : Rel gs ⟨[], M⟩ [] w :=
  ⟨rfl, fun i j r bi bj h => (by simp at h), fun k b r h => (by simp at h), fun g cf hg => ⟨fun i b h => (by simp at h), h g cf hg⟩, fun r o hr => ⟨hM r o hr, fun i b h => (by simp at h)⟩, fun k r b h => (by simp at h)⟩
end
end Go.B
/- The reading in use: contracts out of what it comes to. -/
namespace Go.B
open Go Go.RowKit
set_option linter.unusedVariables false
set_option linter.unusedSimpArgs false
set_option linter.unusedSectionVars false

def UsedOk (ρ : Env) (hp : List Blk) (rs used : List Nat) : Prop := ∀ r ∈ rs, ∃ k ∈ used, ρ.l[k]? = some r ∧ ∃ b, hp[k]? = some b ∧ ¬ free b

theorem popNw_of {hp : List Blk} {t : Ty} {T : TypeId} {us us' : List Nat} {vs r : List V} {l : List t.den} (h : popNw hp t T us vs = some (l, r, us', true)) :
    (∃ k n c, vs = .row k t.size n c :: r ∧ hp[k]? = some (.row t l T c) ∧ k ∉ us ∧ us' = k :: us ∧ n = l.length) ∨ (vs = .old (.slice none 0 0) :: r ∧ l = [] ∧ us' = us) := by
  unfold popNw at h
  split at h
  · rename_i v q
    split at h
    · rename_i k z n c
      split at h
      · rename_i t' l' T' c' hk
        split at h
        · rename_i hb
          simp only [Bool.and_eq_true, Bool.not_eq_true'] at hb
          obtain ⟨⟨hb1, hb2⟩, hb3⟩ := hb
          have hb1 := Nat.eq_of_beq_eq_true hb1
          have hb2 := Nat.eq_of_beq_eq_true hb2
          split at h
          · rename_i l2 hl
            simp only [Option.some.injEq, Prod.mk.injEq, Bool.and_eq_true] at h
            obtain ⟨rfl, rfl, rfl, hn, hc⟩ := h
            have hn := Nat.eq_of_beq_eq_true hn
            have hc := Nat.eq_of_beq_eq_true hc
            obtain ⟨e, hl⟩ := castL_of hl
            subst e hl hb1 hb2 hc
            refine .inl ⟨k, n, c, rfl, hk, fun hm => ?_, rfl, hn⟩
            have : us.any (Nat.beq k) = true := List.any_eq_true.mpr ⟨k, hm, Nat.beq_refl k⟩
            rw [this] at hb3; cases hb3
          · cases h
        · cases h
      · cases h
    · split at h
      · rename_i hn
        simp only [Option.some.injEq, Prod.mk.injEq] at h
        obtain ⟨rfl, rfl, rfl, _⟩ := h
        rw [nil_of hn]
        exact .inr ⟨rfl, rfl, rfl⟩
      · cases h
  · cases h

theorem out_sound {gs : List (Nat × CF)} {ρ : Env} {hp : List Blk} {w : World} {N : Nat} (R : Rel gs ρ hp w) (hN : ∀ r ∈ ρ.l, N ≤ r) {B : RT} : ∀ {vs : List V} {us : List Value} {y : B.den} {r : List V} {used used' : List Nat} {rs : List Nat},
    Ds ρ vs us → B.out hp vs used = some (y, r, used', true) → UsedOk ρ hp rs used → ∃ u v rs', us = u ++ v ∧ Outs ρ.M N w (B.shape y) u rs rs' ∧ Ds ρ r v ∧ UsedOk ρ hp rs' used' := by
  induction B with
  | int k =>
    intro vs us y r used used' rs d h U
    simp only [RT.out] at h
    split at h
    · rename_i n q hq
      cases h
      rw [popInt_of hq, Ds_cons] at d
      obtain ⟨u, us', rfl, d1, d2⟩ := d
      simp only [D] at d1
      exact ⟨[u], us', rs, rfl, Outs_single.mpr (by simp only [Out, D]; exact ⟨d1, trivial⟩), d2, U⟩
    · cases h
  | bool =>
    intro vs us y r used used' rs d h U
    simp only [RT.out] at h
    split at h
    · rename_i n q hq
      cases h
      rw [popBool_of hq, Ds_cons] at d
      obtain ⟨u, us', rfl, d1, d2⟩ := d
      simp only [D] at d1
      exact ⟨[u], us', rs, rfl, Outs_single.mpr (by simp only [Out, D]; exact ⟨d1, trivial⟩), d2, U⟩
    · cases h
  | str =>
    intro vs us y r used used' rs d h U
    simp only [RT.out] at h
    split at h
    · rename_i n q hq
      cases h
      rw [popStr_of hq, Ds_cons] at d
      obtain ⟨u, us', rfl, d1, d2⟩ := d
      simp only [D] at d1
      exact ⟨[u], us', rs, rfl, Outs_single.mpr (by simp only [Out, D]; exact ⟨d1, trivial⟩), d2, U⟩
    · cases h
  | sl t =>
    intro vs us y r used used' rs d h U
    simp only [RT.out] at h
    split at h
    · rename_i n q hq
      cases h
      rcases popSl_of hq with ⟨c, e⟩ | ⟨e, e2⟩
      · rw [e, Ds_cons] at d
        obtain ⟨u, us', rfl, d1, d2⟩ := d
        refine ⟨[u], us', rs, rfl, Outs_single.mpr ?_, d2, U⟩
        simp only [Out, D] at d1 ⊢
        obtain ⟨a, cp, k1, k2, _, k4⟩ := d1
        exact ⟨⟨a, cp, k1, k2, fun n h => (by cases h), k4⟩, trivial⟩
      · subst e2
        rw [e, Ds_cons] at d
        obtain ⟨u, us', rfl, d1, d2⟩ := d
        refine ⟨[u], us', rs, rfl, Outs_single.mpr ?_, d2, U⟩
        simp only [Out, D] at d1 ⊢
        exact ⟨⟨none, 0, d1, Nat.le_refl _, fun n h => (by cases h), .inl rfl⟩, trivial⟩
    · cases h
  | nw t T =>
    intro vs us y r used used' rs d h U
    simp only [RT.out] at h
    rcases popNw_of h with ⟨k, n, c, e, hk, hnk, rfl, hn⟩ | ⟨e, e2, rfl⟩
    · rw [e, Ds_cons] at d
      obtain ⟨u, us', rfl, d1, d2⟩ := d
      subst hn
      simp only [D] at d1
      rcases d1 with ⟨h0, h0', a, rfl⟩ | ⟨hc, q, hq, rfl⟩
      · refine ⟨[_], us', rs, rfl, Outs_single.mpr ?_, d2, fun x hx => ?_⟩
        · simp only [Out]
          exact .inl ⟨len_nil h0, ⟨a, rfl⟩, rfl⟩
        · obtain ⟨k', h1, h2⟩ := U x hx
          exact ⟨k', List.mem_cons_of_mem _ h1, h2⟩
      · have hnf : ¬ free (.row t y T c) := fun hf => by have := hf.2; omega
        obtain ⟨o, o1, o2, o3, ua, rfl, o4, o5⟩ := R.get hk hq hnf
        refine ⟨[_], us', q :: rs, rfl, Outs_single.mpr ?_, d2, fun x hx => ?_⟩
        · simp only [Out]
          refine .inr ⟨q, c, ua, hc, o3, rfl, hN q (mem_of_get hq), fun hm => ?_, R.noM' hk hq hnf rfl, o1, o4, o5, rfl⟩
          obtain ⟨k', h1, h2, b, h3, h4⟩ := U q hm
          rcases R.inj k k' q _ b hk h3 hq h2 with e | e | e
          · subst e; exact hnk h1
          · exact hnf e
          · exact h4 e
        · rcases List.mem_cons.mp hx with rfl | hx
          · exact ⟨k, List.mem_cons_self, hq, _, hk, hnf⟩
          · obtain ⟨k', h1, h2⟩ := U x hx
            exact ⟨k', List.mem_cons_of_mem _ h1, h2⟩
    · rw [e, Ds_cons] at d
      obtain ⟨u, us', rfl, d1, d2⟩ := d
      simp only [D] at d1
      exact ⟨[u], us', rs, rfl, Outs_single.mpr (by simp only [Out]; exact .inl ⟨e2, ⟨none, d1⟩, rfl⟩), d2, U⟩
  | unit =>
    intro vs us y r used used' rs d h U
    simp only [RT.out] at h
    split at h
    · rename_i q hq
      cases h
      rw [popTup_of hq, Ds_cons] at d
      obtain ⟨u, us', rfl, d1, d2⟩ := d
      simp only [D, Ds_nil] at d1
      obtain ⟨uu, rfl, d1⟩ := d1
      exact ⟨[_], us', rs, rfl, Outs_single.mpr (by simp only [Out, Outs_nil]; exact ⟨uu, rfl, d1, trivial⟩), d2, U⟩
    · cases h
  | none =>
    intro vs us y r used used' rs d h U
    simp only [RT.out] at h
    cases h
    exact ⟨[], us, rs, rfl, Outs_nil.mpr ⟨rfl, rfl⟩, d, U⟩
  | one a ih =>
    intro vs us y r used used' rs d h U
    simp only [RT.out] at h
    exact ih d h U
  | cons a q iha ihq =>
    intro vs us y r used used' rs d h U
    simp only [RT.out] at h
    split at h
    · rename_i x1 r1 us1 b1 h1
      split at h
      · rename_i x2 r2 us2 b2 h2
        simp only [Option.some.injEq, Prod.mk.injEq, Bool.and_eq_true] at h
        obtain ⟨rfl, rfl, rfl, rfl, rfl⟩ := h
        obtain ⟨u1, v1, rs1, rfl, k1, k2, k3⟩ := iha d h1 U
        obtain ⟨u2, v2, rs2, rfl, k4, k5, k6⟩ := ihq k2 h2 k3
        exact ⟨u1 ++ u2, v2, rs2, by simp, by rw [RT.shape, Outs_append]; exact ⟨u1, u2, rs1, rfl, k1, k4⟩, k5, k6⟩
      · cases h
    · cases h
  | agg l ih =>
    intro vs us y r used used' rs d h U
    simp only [RT.out] at h
    split at h
    · rename_i cs q hq
      split at h
      · rename_i x1 us1 b1 h1
        simp only [Option.some.injEq, Prod.mk.injEq] at h
        obtain ⟨rfl, rfl, rfl, rfl⟩ := h
        rw [popAgg_of hq, Ds_cons] at d
        obtain ⟨u, us', rfl, d1, d2⟩ := d
        simp only [D] at d1
        obtain ⟨ua, rfl, d1⟩ := d1
        obtain ⟨u1, v1, rs1, e, k1, k2, k3⟩ := ih d1 h1 U
        rw [Ds_nil] at k2
        subst k2
        rw [List.append_nil] at e
        exact ⟨[_], us', rs1, rfl, Outs_single.mpr (by simp only [Out]; exact ⟨ua, rfl, by rw [e]; exact k1⟩), d2, k3⟩
      · cases h
    · cases h
  | tup l ih =>
    intro vs us y r used used' rs d h U
    simp only [RT.out] at h
    split at h
    · rename_i cs q hq
      split at h
      · rename_i x1 us1 b1 h1
        simp only [Option.some.injEq, Prod.mk.injEq] at h
        obtain ⟨rfl, rfl, rfl, rfl⟩ := h
        rw [popTup_of hq, Ds_cons] at d
        obtain ⟨u, us', rfl, d1, d2⟩ := d
        simp only [D] at d1
        obtain ⟨ua, rfl, d1⟩ := d1
        obtain ⟨u1, v1, rs1, e, k1, k2, k3⟩ := ih d1 h1 U
        rw [Ds_nil] at k2
        subst k2
        rw [List.append_nil] at e
        exact ⟨[_], us', rs1, rfl, Outs_single.mpr (by simp only [Out]; exact ⟨ua, rfl, by rw [e]; exact k1⟩), d2, k3⟩
      · cases h
    · cases h

/-- a part of a block of cells, or a row of our own, becomes a row that is only read -/
def frzS (t : Ty) (v : V) (hp : List Blk) : V × List Blk × Bool := match v with
  | .slc k o n c => match hp[k]? with
    | some (.cells vs) => match t.many ((vs.length - o) / t.size) (vs.drop o) with
      | some l => (.sl t (l.take n) none, hp.set k .dead, Nat.ble n l.length)
      | none => (v, hp, true)
    | _ => (v, hp, true)
  | v => match ice1 hp v with
    | some (v', hp', b) => (v', hp', b)
    | none => (v, hp, true)

def RT.frz : RT → List V → List Blk → List V × List Blk × Bool
  | .sl t, [v], hp => match frzS t v hp with | (v', hp', b) => ([v'], hp', b)
  | .one a, vs, hp => a.frz vs hp
  | .cons a q, v :: vs, hp => match a.frz [v] hp with
    | (vs1, hp1, b1) => match q.frz vs hp1 with
      | (vs2, hp2, b2) => (vs1 ++ vs2, hp2, b1 && b2)
  | .agg l, [.agg cs], hp => match l.frz cs hp with | (cs', hp', b) => ([.agg cs'], hp', b)
  | .tup l, [.tup cs], hp => match l.frz cs hp with | (cs', hp', b) => ([.tup cs'], hp', b)
  | _, vs, hp => (vs, hp, true)

theorem frzS_sound {gs : List (Nat × CF)} {w : World} {t : Ty} {v v' : V} {hp hp' : List Blk} {ρ : Env} {u : Value} (R : Rel gs ρ hp w) (d : D ρ v u) (h : frzS t v hp = (v', hp', true)) :
    ∃ ρ', Rel gs ρ' hp' w ∧ Gr ρ w ρ' w ∧ ρ'.l = ρ.l ∧ D ρ' v' u := by
  have same : (v, hp, true) = (v', hp', true) → ∃ ρ', Rel gs ρ' hp' w ∧ Gr ρ w ρ' w ∧ ρ'.l = ρ.l ∧ D ρ' v' u := fun h => by
    cases h; exact ⟨ρ, R, Gr.refl _ _, rfl, d⟩
  unfold frzS at h
  split at h
  · rename_i k o n c
    split at h
    · rename_i vs hk
      split at h
      · rename_i l hl
        simp only [Prod.mk.injEq] at h
        obtain ⟨rfl, rfl, hn⟩ := h
        have hn := Nat.le_of_ble_eq_true hn
        have d0 := d
        simp only [D] at d0
        obtain ⟨r, hr, rfl, hc⟩ := d0
        obtain ⟨ρ', ob, e1, R', G', hM, us, T', rfl, h2⟩ := R.still hk hr
        refine ⟨ρ', R', G', e1, ?_⟩
        obtain ⟨m1, m2, _⟩ := many_sound (Ds_drop h2 o) hl
        have e3 := Elems_cut m2 0 n
        simp only [List.drop_zero, Nat.zero_mul, Nat.add_zero] at e3
        have e4 : Elems ρ'.M t (l.take n) us.toList o := by
          intro i hi
          have := e3 i hi
          rw [Nat.zero_add, List.drop_drop] at this
          exact this
        have hlen : (l.take n).length = n := by simp; omega
        simp only [D]
        exact ⟨_, c, by rw [hlen], by omega, fun n h => (by cases h), .inr ⟨r, o, us, T', (0, 0), rfl, hM, e4⟩⟩
      · exact same h
    · exact same h
  · split at h
    · rename_i v2 hp2 b hi
      simp only [Prod.mk.injEq] at h
      obtain ⟨rfl, rfl, rfl⟩ := h
      obtain ⟨ρ', h1, h2, h3, _, h5⟩ := ice1_sound R d hi
      exact ⟨ρ', h1, h2, h3, h5⟩
    · exact same h

theorem frz_sound {gs : List (Nat × CF)} {w : World} {B : RT} : ∀ {vs vs' : List V} {hp hp' : List Blk} {ρ : Env} {us : List Value}, Rel gs ρ hp w → Ds ρ vs us → B.frz vs hp = (vs', hp', true) →
    ∃ ρ', Rel gs ρ' hp' w ∧ Gr ρ w ρ' w ∧ ρ'.l = ρ.l ∧ Ds ρ' vs' us := by
  have same : ∀ {vs vs' : List V} {hp hp' : List Blk} {ρ : Env} {us : List Value}, Rel gs ρ hp w → Ds ρ vs us → (vs, hp, true) = (vs', hp', true) → ∃ ρ', Rel gs ρ' hp' w ∧ Gr ρ w ρ' w ∧ ρ'.l = ρ.l ∧ Ds ρ' vs' us := fun R d h => by
    cases h; exact ⟨_, R, Gr.refl _ _, rfl, d⟩
  induction B with
  | sl t =>
    intro vs vs' hp hp' ρ us R d h
    unfold RT.frz at h
    split at h
    all_goals first | (rename_i heq; cases heq; done) | skip
    · rename_i t' v _ heq
      cases heq
      simp only [Prod.mk.injEq] at h
      obtain ⟨rfl, rfl, h3⟩ := h
      rw [Ds_cons] at d
      obtain ⟨u, us', rfl, d1, d2⟩ := d
      rw [Ds_nil] at d2
      subst d2
      obtain ⟨ρ', h1, h2, h3, h4⟩ := frzS_sound R d1 (Prod.ext rfl (Prod.ext rfl h3))
      exact ⟨ρ', h1, h2, h3, Ds_cons.mpr ⟨u, [], rfl, h4, Ds_nil.mpr rfl⟩⟩
    · exact same R d h
  | one a ih =>
    intro vs vs' hp hp' ρ us R d h
    exact ih R d (by simpa only [RT.frz] using h)
  | cons a q iha ihq =>
    intro vs vs' hp hp' ρ us R d h
    cases vs with
    | nil => exact same R d (by simpa only [RT.frz] using h)
    | cons v vs =>
      simp only [RT.frz] at h
      generalize hg1 : a.frz [v] hp = x1 at h
      obtain ⟨vs1, hp1, b1⟩ := x1
      simp only at h
      generalize hg2 : q.frz vs hp1 = x2 at h
      obtain ⟨vs2, hp2, b2⟩ := x2
      simp only [Prod.mk.injEq, Bool.and_eq_true] at h
      obtain ⟨rfl, rfl, rfl, rfl⟩ := h
      rw [Ds_cons] at d
      obtain ⟨u, us', rfl, d1, d2⟩ := d
      obtain ⟨ρ1, R1, G1, l1, k1⟩ := iha R (Ds_cons.mpr ⟨u, [], rfl, d1, Ds_nil.mpr rfl⟩) hg1
      obtain ⟨ρ2, R2, G2, l2, k2⟩ := ihq R1 (Ds_mono G1.pre d2) hg2
      exact ⟨ρ2, R2, G1.trans G2, l2.trans l1, Ds_append (Ds_mono G2.pre k1) k2⟩
  | agg l ih =>
    intro vs vs' hp hp' ρ us R d h
    unfold RT.frz at h
    split at h
    all_goals first | (rename_i heq; cases heq; done) | skip
    · rename_i l' cs _ heq
      cases heq
      simp only [Prod.mk.injEq] at h
      obtain ⟨rfl, rfl, h3⟩ := h
      rw [Ds_cons] at d
      obtain ⟨u, us', rfl, d1, d2⟩ := d
      rw [Ds_nil] at d2
      subst d2
      simp only [D] at d1
      obtain ⟨ua, rfl, d1⟩ := d1
      obtain ⟨ρ', h1, h2, h3, h4⟩ := ih R d1 (Prod.ext rfl (Prod.ext rfl h3))
      exact ⟨ρ', h1, h2, h3, Ds_cons.mpr ⟨_, [], rfl, by simp only [D]; exact ⟨ua, rfl, h4⟩, Ds_nil.mpr rfl⟩⟩
    · exact same R d h
  | tup l ih =>
    intro vs vs' hp hp' ρ us R d h
    unfold RT.frz at h
    split at h
    all_goals first | (rename_i heq; cases heq; done) | skip
    · rename_i l' cs _ heq
      cases heq
      simp only [Prod.mk.injEq] at h
      obtain ⟨rfl, rfl, h3⟩ := h
      rw [Ds_cons] at d
      obtain ⟨u, us', rfl, d1, d2⟩ := d
      rw [Ds_nil] at d2
      subst d2
      simp only [D] at d1
      obtain ⟨ua, rfl, d1⟩ := d1
      obtain ⟨ρ', h1, h2, h3, h4⟩ := ih R d1 (Prod.ext rfl (Prod.ext rfl h3))
      exact ⟨ρ', h1, h2, h3, Ds_cons.mpr ⟨_, [], rfl, by simp only [D]; exact ⟨ua, rfl, h4⟩, Ds_nil.mpr rfl⟩⟩
    · exact same R d h
  | int k => exact fun R d h => same R d (by simpa only [RT.frz] using h)
  | bool => exact fun R d h => same R d (by simpa only [RT.frz] using h)
  | str => exact fun R d h => same R d (by simpa only [RT.frz] using h)
  | nw t T => exact fun R d h => same R d (by simpa only [RT.frz] using h)
  | unit => exact fun R d h => same R d (by simpa only [RT.frz] using h)
  | none => exact fun R d h => same R d (by simpa only [RT.frz] using h)

/-- what is to be left at a function's end -/
def leafK (B : RT) (y : B.den) (v : V) (hp : List Blk) : Prop := match B.frz [v] hp with
  | (vs, hp, b0) => match B.out hp vs [] with
    | some (x, [], _, b) => req0 (b0 && b) (x = y)
    | _ => False

theorem enters {P : Program} {f : FuncId} {fn : Func} {cd : Code} (hf : P.funcs[f]? = some fn) (hname : (fn.name == "runtime.NumGoroutine") = false) (hb : fn.body = some cd) : EntersF P f := by
  intro args w
  have h1 : fn.name ≠ "runtime.NumGoroutine" := by simpa using hname
  simp [callFunc, hf, h1, hb, mark]

theorem body_ent {P : Program} {c : Cx} {f : FuncId} {fn : Func} (hf : P.funcs[f]? = some fn) (hname : (fn.name == "runtime.NumGoroutine") = false) (hok : (match fn.body with | some cd => okC fn.ntmps cd | none => true) = true) : EntOk P c f (.body fn) :=
  ⟨hf, hname, fun cd hb => by rw [hb] at hok; exact hok⟩

def Fns (P : Program) (c : Cx) : List (Nat × Ent) → Prop
  | [] => True
  | (f, e) :: l => EntOk P c f e ∧ Fns P c l

theorem Fns_assoc {P : Program} {c : Cx} : ∀ {l : List (Nat × Ent)}, Fns P c l → ∀ f e, assoc f l = some e → EntOk P c f e
  | [], _, f, e, h => by cases h
  | (g, x) :: l, k, f, e, h => by
    unfold assoc at h
    cases hb : Nat.beq g f with
    | true =>
      rw [hb] at h
      cases h
      rw [← Nat.eq_of_beq_eq_true hb]
      exact k.1
    | false => rw [hb] at h; exact Fns_assoc k.2 f e h

theorem TyOk_of {P : Program} {c : Cx} (h : c.ty.map (fun p => tyMk P p.1) = c.ty.map (fun p => some p.2)) : TyOk P c := by
  have key : ∀ (l : List (Nat × TyE)), l.map (fun p => tyMk P p.1) = l.map (fun p => some p.2) → ∀ t e, assoc t l = some e → tyMk P t = some e := by
    intro l
    induction l with
    | nil => intro _ t e h; cases h
    | cons p l ih =>
      obtain ⟨g, x⟩ := p
      intro hm t e h
      simp only [List.map_cons, List.cons.injEq] at hm
      unfold assoc at h
      cases hb : Nat.beq g t with
      | true =>
        rw [hb] at h
        cases h
        rw [← Nat.eq_of_beq_eq_true hb]
        exact hm.1
      | false => rw [hb] at h; exact ih hm.2 t e h
  exact key c.ty h
section
variable {P : Program} {c : Cx} (hT : TyOk P c) (hE : EqOk P c) (hF : FnsOk P c) (hm : P.follows .mixedOrders = true)
include hT hE hF hm

theorem fx_of {f : FuncId} {A B : RT} {R : A.den → B.den → Prop} {ok : FuncId → Nat → Nat → Bool} {lp : Nat → FuncId → Nat → Nat → Lp} (hL : LpOk c ok lp) {n : Nat} (hen : EntersF P f) (hsh : ∀ y, ∃ v, B.shape y = [v])
    (h : ∀ x y, R x y → acall c ok lp n (.fn f [] []) (A.shape x) [] (leafK B y)) : FxOk P c.gs f A B R := by
  refine ⟨hen, hsh, fun x y hR M us w hds hM hG => ?_⟩
  rcases acall_sound hT hE hF hm ok lp hL n _ _ _ _ (h x y hR) ⟨[], M⟩ w (.func (.func f) #[] #[]) us (Rel.nil hG hM) (by simp [D, Ds]) hds with ⟨f', as, bs, e, _, hc⟩ | ⟨r, RL, e, _⟩
  · cases e
    have hc' : CallsIn Fence.wide 0 P f us.toArray w (CP c.gs (leafK B y) ⟨[], M⟩ w) := by simpa using hc
    refine (callsIn_wide.1 hc').mono ?_
    rintro e w' ⟨v, u, hp0, ρ0, rfl, hk, h2, h3, h4⟩
    unfold leafK at hk
    generalize hg : B.frz [v] hp0 = x0 at hk
    obtain ⟨vs0, hp', b0⟩ := x0
    simp only at hk
    split at hk
    · rename_i x' used b ho
      obtain ⟨hb, rfl⟩ := req0_of' hk
      simp only [Bool.and_eq_true] at hb
      obtain ⟨rfl, rfl⟩ := hb
      obtain ⟨ρ', R', G', l', d'⟩ := frz_sound h3 (Ds_cons.mpr ⟨u, [], rfl, h2, Ds_nil.mpr rfl⟩) hg
      have h4 := h4.trans G'
      obtain ⟨p, q, rs', e, k1, k2, _⟩ := out_sound (N := w.heap.size) R' (fun r hr => by
        rcases h4.new r hr with h | h
        · cases h
        · exact h) d' ho (rs := []) (fun r h => by cases h)
      rw [Ds_nil] at k2
      subst k2
      rw [List.append_nil] at e
      subst e
      obtain ⟨v', hv'⟩ := hsh x'
      rw [hv'] at k1
      refine ⟨u, ρ'.M, rs', rfl, by rw [hv']; exact Outs_single.mp k1, ⟨h4.os, h4.tape, h4.output, h4.size, fun k hk => h4.old k hk (by simp)⟩, h4.pre.2, fun r o hr => ⟨(R'.im r o hr).1, ?_⟩⟩
      rcases h4.newM r o hr with h | h | h
      · exact .inl h
      · cases h
      · exact .inr h
    · exact hk.elim
  · cases e
end

/-- a contract, told otherwise -/
theorem FxOk.to {P : Program} {gs : List (Nat × CF)} {f : FuncId} {A B : RT} {R R' : A.den → B.den → Prop} (h : FxOk P gs f A B R) (k : ∀ x y, R' x y → R x y) : FxOk P gs f A B R' :=
  ⟨h.1, h.2.1, fun x y hR => h.2.2 x y (k x y hR)⟩

/-- a contract as a plain function's -/
theorem FxOk.fn {P : Program} {gs : List (Nat × CF)} {f : FuncId} {A B : RT} {R : A.den → B.den → Prop} (h : FxOk P gs f A B R) (g : A.den → B.den) (pre : A.den → Bool) (k : ∀ x, pre x = true → R x (g x)) : FxOk P gs f A B fun x y => pre x = true ∧ y = g x :=
  h.to fun x y ⟨h1, h2⟩ => h2 ▸ k x h1

/- loops -/

/-- a part of a code, by the way to it -/
def subC : List Nat → Code → Code
  | [], c => c
  | n :: l, c => match c with
    | .seq a b => match n with | 0 => subC l a | _ => subC l b
    | .cond _ a b => match n with | 0 => subC l a | _ => subC l b
    | .block _ a => subC l a
    | .scope a => subC l a
    | .loop a => subC l a
    | .rangeFunc _ _ a b => match n with | 0 => subC l a | _ => subC l b
    | c => c

def bodyOf (f : Func) : Code := f.body.getD .skip

/-- loops by function, first region, blocks that are there, calls that are left -/
def lpFind (f id m n : Nat) : List (Nat × Nat × Nat × Nat × Lp) → Option Lp
  | [] => none
  | (f', id', m', F, g) :: l => match Nat.beq f' f && Nat.beq id' id && Nat.beq m' m && Nat.ble F n with
    | true => some g
    | false => lpFind f id m n l

/-- what is owed of loops -/
def lpTab (l : List (Nat × Nat × Nat × Nat × Lp)) : Nat → FuncId → Nat → Nat → Lp := fun n f id m => match lpFind f id m n l with
  | some g => g
  | none => .unroll 70

def Owed (c : Cx) (ok : FuncId → Nat → Nat → Bool) (fid : FuncId) (lp : Nat → FuncId → Nat → Nat → Lp) (n : Nat) (x : Lp) : Prop := match x with
  | .auto rd a g => ∀ K s, g s K → ∃ (J : Nat → S → Prop) (X : Ret → S → Prop) (k : Nat), J k s ∧ (∀ s1, ¬ J 0 s1) ∧ (∀ q s1, X q s1 → wkK s.hp.length K q s1) ∧ ∀ k s1, J (k + 1) s1 → ∃ s2, wk s.hp.length s1 s2 ∧ acode c fid (acall c ok lp n) (ok fid) (lp n fid) rd a (iterK X (J k)) s2
  | _ => True

def AllOwed (c : Cx) (ok : FuncId → Nat → Nat → Bool) (lp : Nat → FuncId → Nat → Nat → Lp) : List (Nat × Nat × Nat × Nat × Lp) → Prop
  | [] => True
  | (f, _, _, F, g) :: l => (∀ n, Owed c ok f lp (n + F) g) ∧ AllOwed c ok lp l

theorem owed_of {c : Cx} {ok : FuncId → Nat → Nat → Bool} {lp : Nat → FuncId → Nat → Nat → Lp} {f id m n : Nat} {g : Lp} : ∀ {l : List (Nat × Nat × Nat × Nat × Lp)}, AllOwed c ok lp l → lpFind f id m n l = some g → Owed c ok f lp n g
  | [], _, h => by cases h
  | (f', id', m', F, g') :: l, hA, h => by
    unfold lpFind at h
    split at h
    · rename_i hb
      simp only [Bool.and_eq_true] at hb
      have e1 := Nat.eq_of_beq_eq_true hb.1.1.1
      have e2 := Nat.le_of_ble_eq_true hb.2
      subst e1
      cases h
      obtain ⟨k, rfl⟩ : ∃ k, n = k + F := ⟨n - F, by omega⟩
      exact hA.1 k
    · exact owed_of hA.2 h

theorem LpOk_tab {c : Cx} {ok : FuncId → Nat → Nat → Bool} {l : List (Nat × Nat × Nat × Nat × Lp)} (h : AllOwed c ok (lpTab l) l) : LpOk c ok (lpTab l) := by
  intro n f id m rd a g hg K s hgs
  unfold lpTab at hg
  split at hg
  · rename_i g' hf
    subst hg
    exact owed_of h hf K s hgs
  · cases hg

/-- temporaries that are read later, by function and region -/
def okTab (l : List (Nat × List (Nat × List Nat))) : FuncId → Nat → Nat → Bool := fun f => match assoc f l with
  | some l => fun id => match assoc id l with
    | some l => fun t => l.any (Nat.beq t)
    | none => kept
  | none => fun _ => kept

def sume {α β : Type} (f : α → Prop) (g : β → Prop) : α ⊕ β → Prop
  | .inl a => f a
  | .inr b => g b

theorem band {a b : Bool} (h : a = true) (k : b = true) : (a && b) = true := by rw [h, k]; rfl

theorem band_l {a b : Bool} (h : (a && b) = true) : a = true := (Bool.and_eq_true _ _ ▸ h : a = true ∧ b = true).1

theorem band_r {a b : Bool} (h : (a && b) = true) : b = true := (Bool.and_eq_true _ _ ▸ h : a = true ∧ b = true).2

theorem ble_same (n : Nat) : Nat.ble n n = true := Nat.ble_eq.mpr (Nat.le_refl n)

/-- == by the type: structs out of the list ss -/
def aeq (ty : List (Nat × TyE)) (ss : List Nat) : Nat → TypeId → V → V → Option Bool
  | 0, _, _, _ => none
  | d + 1, t, x, y => match assoc t ty with
    | none => none
    | some e => match e.td with
      | .int k0 => match x, y with
        | .int k a, .int k' b => match kindEq k k' with | true => some (a == b) | false => none
        | _, _ => none
      | .bool => match x, y with
        | .bool a, .bool b => some (a == b)
        | _, _ => none
      | .str => match x, y with
        | .str a, .str b => some (a.toList == b.toList)
        | _, _ => none
      | .st fs => match x, y with
        | .agg xs, .agg ys => match ss.any (Nat.beq t) with
          | true => fs.foldr (fun f acc => match assoc f.1 ty with
            | none => none
            | some fe => match part fe xs f.2, part fe ys f.2 with
              | some a, some b => match aeq ty ss d f.1 a b, acc with
                | some r, some s => some (r && s)
                | _, _ => none
              | _, _ => none) (some true)
          | false => none
        | _, _ => none
      | _ => none

/-- structs without blank fields, that stand nobody in -/
def plainS (P : Program) (ss : List Nat) : Bool := ss.all fun t => !(P.stoodInHeld t) && !(P.eqGuardType P.depth t) && (P.fieldsOf t).toList.all fun f => !(f.name == "_")

theorem plainS_of {P : Program} {ss : List Nat} (h : plainS P ss = true) {t : Nat} (ht : ss.any (Nat.beq t) = true) : P.stoodInHeld t = false ∧ P.eqGuardType P.depth t = false ∧ ∀ f ∈ (P.fieldsOf t).toList, f.name ≠ "_" := by
  rw [List.any_eq_true] at ht
  obtain ⟨s, hs, he⟩ := ht
  have e := Nat.eq_of_beq_eq_true he
  subst e
  have k := List.all_eq_true.mp h t hs
  simp only [Bool.and_eq_true, Bool.not_eq_true'] at k
  refine ⟨k.1.1, k.1.2, fun f hf => ?_⟩
  have := List.all_eq_true.mp k.2 f hf
  simpa using this

section
variable {P : Program} {ty : List (Nat × TyE)} {ss : List Nat} (hT : ∀ t e, assoc t ty = some e → tyMk P t = some e) (hS : plainS P ss = true)
include hT hS

theorem aeq_sound : ∀ (d : Nat) (t : TypeId) (x y : V) (r : Bool), aeq ty ss d t x y = some r → ∀ (ρ : Env) (u1 u2 : Value) (w : World) (d' : Nat), D ρ x u1 → D ρ y u2 → d ≤ d' → (Op.equalIn d' t u1 u2).run P w = .ok r w
  | 0, t, x, y, r, h => by simp [aeq] at h
  | d + 1, t, x, y, r, h => by
    intro ρ u1 u2 w d' h1 h2 hd
    obtain ⟨d', rfl⟩ : ∃ e, d' = e + 1 := ⟨d' - 1, by omega⟩
    unfold aeq at h
    split at h
    · cases h
    · rename_i e he
      obtain ⟨i, de, z, _, hu, _, htd, _, _⟩ := tyMk_spec (hT _ _ he)
      split at h
      · rename_i k0 hk
        split at h
        · rename_i k a k' b
          split at h
          · rename_i hkk
            have := kindEq_of hkk
            subst this
            simp only [D] at h1 h2
            subst h1 h2
            cases h
            cases de <;> simp only [tdMk] at htd <;> rw [hk] at htd <;> first | (cases htd; done) | exact run_equalIn_int w d' t _ _ a b hu
          · cases h
        · cases h
      · rename_i hk
        split at h
        · rename_i a b
          simp only [D] at h1 h2
          subst h1 h2
          cases h
          cases de <;> simp only [tdMk] at htd <;> rw [hk] at htd <;> first | (cases htd; done) | exact run_equalIn_bool' w d' t a b hu
        · cases h
      · rename_i hk
        split at h
        · rename_i a b
          simp only [D] at h1 h2
          subst h1 h2
          cases h
          cases de <;> simp only [tdMk] at htd <;> rw [hk] at htd <;> first | (cases htd; done) | exact run_equalIn_string w d' t a b hu
        · cases h
      · rename_i fs hk
        split at h
        · rename_i xs ys
          simp only [D] at h1 h2
          obtain ⟨us, rfl, d1⟩ := h1
          obtain ⟨vs, rfl, d2⟩ := h2
          split at h
          · rename_i hs
            obtain ⟨s1, s2, s3⟩ := plainS_of hS hs
            have hu' : P.underlying t = some (.struct (P.fieldsOf t)) ∧ fs = (P.fieldsOf t).toList.map fun f => (f.type, f.offset) := by
              cases de <;> simp only [tdMk] at htd <;> rw [hk] at htd <;> first | (cases htd; done) | skip
              rename_i fs'
              have e1 : P.fieldsOf t = fs' := by simp [Program.fieldsOf, hu]
              rw [e1]
              injection htd with htd
              exact ⟨hu, htd⟩
            obtain ⟨hu1, rfl⟩ := hu'
            rw [run_equalIn_struct w d' t us vs hu1 s1]
            clear hs hu1 hk htd hu
            generalize (P.fieldsOf t).toList = l at *
            clear he
            induction l generalizing r with
            | nil => simp only [List.map_nil, List.foldr_nil] at h; cases h; simp [Op.eqFields]
            | cons f l ih =>
              simp only [List.map_cons, List.foldr_cons] at h
              split at h
              · cases h
              · rename_i fe hfe
                split at h
                · rename_i a b ha hb
                  split at h
                  · rename_i r1 s hr hs'
                    cases h
                    obtain ⟨ua, a1, a2⟩ := part_sound (P := P) (hT _ _ hfe) d1 ha
                    obtain ⟨ub, b1, b2⟩ := part_sound (P := P) (hT _ _ hfe) d2 hb
                    have k := aeq_sound d f.type a b r1 hr ρ ua ub w d' a1 b1 (by omega)
                    have ih := ih s (fun g hg => s3 g (List.mem_cons_of_mem _ hg)) hs'
                    unfold Op.eqFields
                    rw [if_pos (s3 f List.mem_cons_self)]
                    simp only [Sem.run_bind, a2 w, b2 w, k, Result.andThen_ok, Sem.run_ite]
                    cases r1
                    · simp
                    · simpa using ih
                  · cases h
                · cases h
          · cases h
        · cases h
      · cases h

/-- the table of ==s -/
def eqsOf (ty : List (Nat × TyE)) (ss : List Nat) : List (Nat × (List V → List V → Option Bool)) := ss.map fun t => (t, fun xs ys => aeq ty ss 20 t (.agg xs) (.agg ys))
omit hT hS in

theorem eqsOf_get : ∀ {l : List Nat} {t : Nat} {g : List V → List V → Option Bool}, assoc t (l.map fun t => (t, fun xs ys => aeq ty ss 20 t (.agg xs) (.agg ys))) = some g → l.any (Nat.beq t) = true ∧ g = fun xs ys => aeq ty ss 20 t (.agg xs) (.agg ys)
  | [], t, g, h => by cases h
  | s :: l, t, g, h => by
    simp only [List.map_cons] at h
    unfold assoc at h
    cases hb : Nat.beq s t with
    | true =>
      rw [hb] at h
      cases h
      have := Nat.eq_of_beq_eq_true hb
      subst this
      refine ⟨?_, rfl⟩
      simp
    | false =>
      rw [hb] at h
      obtain ⟨h1, h2⟩ := eqsOf_get (l := l) h
      exact ⟨by simp only [List.any_cons, h1, Bool.or_true], h2⟩

theorem eqsOf_ok {c : Cx} (h : c.eqs = eqsOf ty ss) : EqOk P c := by
  intro t g xs ys r hg hr ρ us vs d1 d2
  rw [h] at hg
  obtain ⟨h1, rfl⟩ := eqsOf_get hg
  obtain ⟨s1, s2, s3⟩ := plainS_of hS h1
  refine ⟨fun w => ?_, s2⟩
  exact aeq_sound hT hS 20 t _ _ r hr ρ _ _ w Op.maxDepth (by simp only [D]; exact ⟨us, rfl, d1⟩) (by simp only [D]; exact ⟨vs, rfl, d2⟩) (by unfold Op.maxDepth; omega)
end

end Go.B
